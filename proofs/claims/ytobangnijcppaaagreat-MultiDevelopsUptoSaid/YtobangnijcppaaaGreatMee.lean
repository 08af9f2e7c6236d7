/-
  Contracts and lemmas for MultiDevelops: part e of 7.
-/
import Derived.Test.YtobangnijcppaaaGreatMed
import Derived.Shelf.Spec.SlicesInsert
import Derived.Lib.AppendZerosOnto
import Derived.Test.YtobangnijcppaaaGreatMec
import Derived.ArgAppend
import Derived.Shelf.Spec.SlicesGrow
import Derived.Test.YtobangnijcppaaaGreatRows
import Derived.WalkKit
import Derived.ProofKit
import Derived.OpenShut
import Derived.JoinedCond
import Derived.ReadAgain
import Derived.Carry
set_option linter.unusedVariables false
set_option linter.unusedSimpArgs false
set_option maxRecDepth 100000
section
namespace Go.Dw
open Go.Proofs (sortS)
def rbs:List ARule→Nat
 | []=>0
 | x :: r=>1+tb x.left+tb x.right+rbs r
theorem rbs_mem {r:List ARule} {x:ARule} (h:x∈r):1+tb x.left+tb x.right≤rbs r:=by
 induction r with
 | nil=>cases h
 | cons y ys ih=>rcases List.mem_cons.1 h with rfl | h <;> simp [rbs];have:=ih h;omega
theorem length_le_rbs (r:List ARule):r.length≤rbs r:=by
 induction r with
 | nil=>simp
 | cons x xs ih=>simp only [rbs,List.length_cons];omega
section
variable (r:ARule)
theorem cR_0:(cR r)[0]? = some (.str r.left.name):=rfl
theorem cR_1:(cR r)[1]? = some (.bool r.left.var):=rfl
theorem cR_2:(cR r)[2]? = some (encTs r.left.args):=by show some (V.sl 3 (argC r.left)) = _;rw [argC_eq];rfl
theorem cR_3:(cR r)[3]? = some (.str r.right.name):=rfl
theorem cR_4:(cR r)[4]? = some (.bool r.right.var):=rfl
theorem cR_5:(cR r)[5]? = some (encTs r.right.args):=by show some (V.sl 3 (argC r.right)) = _;rw [argC_eq];rfl
end
attribute [push_cast] cR_0 cR_1 cR_2 cR_3 cR_4 cR_5
def checkPairs:List ARule→Int
 | []=>0
 | x :: r=>if checks [x.left,x.right] ≠ 0 then checks [x.left,x.right] else checkPairs r
def checkRules (r:List ARule):Int:=if 64 < r.length then 3 else checkPairs r
theorem term_CheckRules_s (r:List ARule) (hs:rbs r < 2^61):PF n_term_CheckRules [encRs r] (.int .i64 (checkRules r)):=by
 have hl:=length_le_rbs r
 refine pf_of term_CheckRules.ok rfl ?_
 by_cases h64:64 < r.length
 ·have hi:((64:Int) < (r.length:Int)) = True:=eq_true (by omega)
  push_cast [hi]
  refine pf_ret ?_
  push_cast [term_CheckRules.rs,checkRules,h64]
 ·have hi:((64:Int) < (r.length:Int)) = False:=eq_false (by omega)
  push_cast [hi,checkRules,h64]
  refine loop_up (n:=r.length) (R:=fun k=>checkPairs (r.drop k) = checkPairs r→term_CheckRules.L3 (encRs r) (.int .i64 r.length) (.int .i64 k) 0 [] _) ?_ ?_ 0 (by omega) rfl
  ·intro k hk ih hq
   have hm:=rbs_mem (getD_mem hk)
   refine term_CheckRules.G3 ?_
   rw [drop_getD hk] at hq
   simp only [checkPairs] at hq
   generalize hx:r.getD k default = x at hm hq
   have hA:=term_All_s [x.left,x.right] (by simp) (by simp;omega)
   push_cast [ilt hk,hx]
   refine .of hA ?_
   push_cast [w64 (show k < 2^62 by omega)]
   refine ⟨fun h=>pf_ret ?_,fun h=>ih ?_⟩
   ·push_cast [term_CheckRules.rs]
    rw [← hq,if_pos h]
   ·rw [← hq,if_neg h]
  ·intro hq
   refine term_CheckRules.G3 ?_
   push_cast [inlt (Nat.le_refl _)]
   refine pf_ret ?_
   push_cast [term_CheckRules.rs]
   rw [← hq,drop_map_none];rfl
theorem slices_Index_str_s (l:List Str) (v:Str) (hl:l.length < 2^62):PF n_slices_Index_s_string_string [encSs l,.str v] (.int .i64 (idxI (fun x=>decide (v = x)) l)):=by
 refine pf_of slices_Index_s_string_string.ok rfl ?_
 push_cast
 refine loop_up (n:=l.length) (R:=fun k=>(∀ j,j < k→decide (v = l.getD j default) = false)→slices_Index_s_string_string.L3 (encSs l) (.str v) (.int .i64 l.length) (.int .i64 k) 0 [] _) ?_ ?_ 0 (by omega) (by intro j hj;omega)
 ·intro k hk ih hq
  refine slices_Index_s_string_string.G3 ?_
  push_cast [ilt hk,w64 (show k < 2^62 by omega)]
  refine ⟨fun hp=>pf_ret ?_,fun hp=>?_⟩
  ·push_cast [slices_Index_s_string_string.rs]
   rw [idxI_some hk (by simpa using hp) hq]
  ·refine ih fun j hj=>?_
   rcases Nat.lt_succ_iff_lt_or_eq.1 hj with h | rfl
   ·exact hq j h
   ·simpa using hp
 ·intro hq
  refine slices_Index_s_string_string.G3 ?_
  push_cast [inlt (Nat.le_refl _)]
  refine pf_ret ?_
  push_cast [slices_Index_s_string_string.rs]
  rw [idxI_none hq]
theorem slices_Contains_str_s (l:List Str) (v:Str) (hl:l.length < 2^62):PF n_slices_Contains_s_string_string [encSs l,.str v] (.bool (decide (v∈l))):=by
 refine pf_of slices_Contains_s_string_string.ok rfl ?_
 push_cast
 refine .of (slices_Index_str_s l v hl) ?_
 push_cast
 refine pf_ret ?_
 push_cast [slices_Contains_s_string_string.rs,idxI_any]
 rw [Bool.eq_iff_iff];simp
def extra (x:ARule):Bool:=x.left.var || (varsOf [x.right]).any fun v=>!decide (v∈varsOf [x.left])
theorem varsOf_len (l:List Term):(varsOf l).length≤sizes l:=by
 have:=vsetT_len l []
 unfold varsOf;rw [(List.mergeSort_perm _ _).length_eq];simpa using this
theorem term_extra_s (x:ARule) (hs:tb x.left+tb x.right < 2^39):PF n_term_extra [encR x] (.bool (extra x)):=by
 have h1:=size_le_tb x.left
 have h2:=size_le_tb x.right
 have e1:∀ t,sizes [t] = size t:=fun t=>by simp [sizes]
 have hv:=varsOf_len [x.left]
 have hv2:=varsOf_len [x.right]
 rw [e1] at hv hv2
 have hL:=term_VarsOf_s [x.left] (by rw [e1];omega)
 have hR:=term_VarsOf_s [x.right] (by rw [e1];omega)
 refine pf_of term_extra.ok rfl ?_
 push_cast
 refine .of hL ?_
 cases hvar:x.left.var with
 | true =>
  push_cast [hvar]
  refine pf_ret ?_
  push_cast [term_extra.rs,extra,hvar]
  rfl
 | false =>
  push_cast [hvar]
  refine .of hR ?_
  push_cast
  refine .of (slices_ContainsFunc_s_string_string_s (p:=fun v=>!decide (v∈varsOf [x.left])) (caps:=[.ro [encSs (varsOf [x.left])] 0]) (fun _=>rfl) _ (by omega) fun v hv=>?_) ?_
  ·refine pf_of term_extra_1.ok rfl ?_
   push_cast
   refine .of (slices_Contains_str_s _ _ (by omega)) ?_
   push_cast
   exact pf_ret (by push_cast [term_extra_1.rs])
  ·push_cast
   refine pf_ret ?_
   push_cast [term_extra.rs,extra,hvar]
   rfl
end Go.Dw
end
section
namespace Go.Dw
abbrev Ars:=List (Str × Nat)
def getA:Ars→Str→Option Nat
 | [],_=>none
 | p :: m,n=>if p.1 = n then some p.2 else getA m n
def arStep (m:Ars) (u:Term):Option Ars:=if u.var then some m else match getA m u.name with
 | some n=>if n = u.args.length then some m else none
 | none=>some (m++[(u.name,u.args.length)])
def arAll (m:Ars):List (List Int × Term)→Option Ars
 | []=>some m
 | x :: l=>(arStep m x.2).bind fun m'=>arAll m' l
def arRules (m:Ars):List ARule→Option Ars
 | []=>some m
 | x :: r=>(arAll m (visit x.left [])).bind fun m1=>(arAll m1 (visit x.right [])).bind fun m2=>arRules m2 r
theorem arAll_append:∀ (a b:List (List Int × Term)) (m:Ars),arAll m (a++b) = (arAll m a).bind fun m'=>arAll m' b
 | [],b,m=>rfl
 | x :: a,b,m=>by simp only [List.cons_append,arAll];cases arStep m x.2 <;> simp [arAll_append a b]
def encAr (m:Ars):List (V × V):=m.map fun p=>(.str p.1,.int .i64 p.2)
theorem ren_encAr {σ:Nat→Option Nat} {m:Ars}:((encAr m).map fun p=>(ren σ p.1,ren σ p.2)) = encAr m:=by
 unfold encAr;rw [List.map_map];rfl
attribute [push_cast] ren_encAr
theorem findM_encAr (n:Str):∀ (m:Ars) (i:Nat),match getA m n with
  | none=>findM (.str n) (encAr m) i = some none
  | some a=>∃ j,findM (.str n) (encAr m) i = some (some (i+j,.int .i64 a))∧(encAr m)[j]? = some (.str n,.int .i64 a)
 | [],i=>rfl
 | p :: m,i=>by
  have ih:=findM_encAr n m (i+1)
  unfold getA
  by_cases h:p.1 = n
  ·rw [if_pos h]
   refine ⟨0,?_,?_⟩
   ·simp [encAr,findM,sameK,h]
   ·simp [encAr,h]
  ·rw [if_neg h]
   have h':n ≠ p.1:=fun e=>h e.symm
   have hb:(n == p.1) = false:=by simpa using h'
   have e:∀ (k:Nat) ,findM (.str n) (encAr (p :: m)) k = findM (.str n) (encAr m) (k+1):=fun k=>by simp [encAr,findM,sameK,hb]
   cases hg:getA m n with
   | none=>rw [hg] at ih;simp only at ih ⊢;rw [e];exact ih
   | some a =>
    rw [hg] at ih
    obtain ⟨j,h1,h2⟩:=ih
    refine ⟨j+1,?_,?_⟩
    ·rw [e,h1];congr 3;omega
    ·simp only [encAr,List.map_cons,List.getElem?_cons_succ];exact h2
theorem look_encAr (m:Ars) (n:Str) {H:List Ob} {k:Nat} (hk:H[k]? = some (.map (encAr m))):lookV H true true (.int .i64 0) (.map k) (.str n) = some (.tup [.int .i64 ((getA m n).getD 0:Nat),.bool (getA m n).isSome]):=by
 have h:=findM_encAr n m 0
 have he:entsV H (.map k) = some (encAr m):=by simp [entsV,hk]
 unfold lookV
 rw [he]
 cases hg:getA m n with
 | none=>rw [hg] at h;simp only at h;simp [ksB,h,foundX]
 | some a=>rw [hg] at h;obtain ⟨j,h1,h2⟩:=h;simp [ksB,h1,foundX]
theorem upd_encAr {m m':Ars} {u:Term} (hv:u.var = false) (h:arStep m u = some m'):updM (.str u.name) (.int .i64 u.args.length) (encAr m) = some (encAr m'):=by
 have hf:=findM_encAr u.name m 0
 unfold arStep at h
 rw [hv] at h
 simp only [Bool.false_eq_true,if_false] at h
 unfold updM
 cases hg:getA m u.name with
 | none =>
  rw [hg] at h hf
  simp only [Option.some.injEq] at h hf
  subst h
  rw [hf];simp [encAr]
 | some a =>
  rw [hg] at h hf
  simp only at h
  split at h
  ·rename_i ha
   cases h
   obtain ⟨j,h1,h2⟩:=hf
   rw [h1]
   subst ha
   simp only [Nat.zero_add,Option.some.injEq]
   obtain ⟨h3,h4⟩:=List.getElem?_eq_some_iff.1 h2
   rw [← h4,List.set_getElem_self]
  ·cases h
def arOut (o:Option Ars) (x:V) (H:List Ob):Prop:=match o with
 | none=>x = .tup [.nilm,.bool false]∧H = []
 | some m=>x = .tup [.map 0,.bool true]∧H = [.map (encAr m)]
abbrev arH (m:Ars) (l:List Ob):List Ob:=.cells t_m_string_int [.nilm] :: .cells t_bool [.bool false] :: .map (encAr m) :: .cells t_m_string_int [.map 2] :: l
theorem ar_pass {u:Term} {m:Ars} {r:List ARule} {v24:V} {j k n:Nat} (hs:size u < 2^40) (hj:j < 2) (hra:∀ σ,ren σ v24 = v24) (hix:ixaV 3 2 (some 3) v24 (.int .i64 j) = some (encT u)) (hnone:arAll m (visit u []) = none→arRules [] r = none)
  (hsome:∀ m',arAll m (visit u []) = some m'→term_Arities.L6 (.ptr 0 0) (.ptr 1 0) (.ptr 3 0) .any (encRs r) (.int .i64 n) (.int .i64 k) v24 (.int .i64 (j+1:Nat)) 0 (arH m' [.dead]) (Ends 0 term_Arities.rs (arOut (arRules [] r)))) :
  term_Arities.L6 (.ptr 0 0) (.ptr 1 0) (.ptr 3 0) .any (encRs r) (.int .i64 n) (.int .i64 k) v24 (.int .i64 j) 0 (arH m [.dead]) (Ends 0 term_Arities.rs (arOut (arRules [] r))):=by
 have hj2:((j:Int) < 2) = True:=eq_true (by omega)
 refine term_Arities.G6 ?_
 push_cast [hj2,hix]
 refine .of (term_Walk_s _) ?_
 push_cast
 refine Run.rf n_term_Walk_1 [] [.ro (cT u) 0] ((visit u []).map encIt) (fun i H1=>∃ m',arAll m ((visit u []).take i) = some m'∧H1 = arH m' [.dead,.dead]) (fun e H1=>e = .ret∧arAll m (visit u []) = none∧∃ m',H1 = arH m' [.dead,.dead]) rfl (term_Walk_iter u hs) ?_ ⟨m,rfl,rfl⟩ ?_ ?_ ?_ ?_ ?_ ?_
 ·intro it hit
  obtain ⟨x,_,rfl⟩:=List.mem_map.1 hit
  rfl
 ·push_cast [hra]
 ·rintro i H1 ⟨m',_,rfl⟩
  refine ⟨rfl,?_⟩
  push_cast
 ·rintro i H1 ⟨_,_,m',rfl⟩
  refine ⟨rfl,?_⟩
  push_cast
 ·rintro lo rr i it H1 hit ⟨m',hm',rfl⟩
  rw [List.getElem?_map] at hit
  cases hx:(visit u [])[i]? with
  | none=>rw [hx] at hit;cases hit
  | some x =>
  rw [hx] at hit
  have hit:it = encIt x:=by simpa using hit.symm
  subst hit
  have hi:i < (visit u []).length:=(List.getElem?_eq_some_iff.1 hx).1
  have hxi:(visit u [])[i] = x:=(List.getElem?_eq_some_iff.1 hx).2
  have htk:(visit u []).take (i+1) = (visit u []).take i++[x]:=by rw [List.take_succ_eq_append_getElem hi,hxi]
  have hst:arAll m ((visit u []).take (i+1)) = arStep m' x.2:=by rw [htk,arAll_append,hm'];simp [arAll]
  have hlk:∀ (a b:Ob) l,lookV (a :: b :: .map (encAr m') :: l) true true (.int .i64 0) (.map 2) (.str x.2.name) = some (.tup [.int .i64 ((getA m' x.2.name).getD 0:Nat),.bool (getA m' x.2.name).isSome]):=fun a b l=>look_encAr m' _ rfl
  push_cast [setPs,encIt]
  refine run_m.2 ?_
  cases hv:x.2.var with
  | true =>
   have hst2:arStep m' x.2 = some m':=by unfold arStep;rw [hv];rfl
   push_cast [hv]
   refine ⟨rfl,?_⟩
   refine ⟨m',by rw [hst,hst2],?_⟩
   push_cast [cut]
  | false =>
   cases hg:getA m' x.2.name with
   | none =>
    have hst2:arStep m' x.2 = some (m'++[(x.2.name,x.2.args.length)]):=by unfold arStep;rw [hv,hg];rfl
    have hup:=upd_encAr hv hst2
    push_cast [hv,hlk,hg,Option.isSome_none,hup,ksB]
    refine ⟨rfl,?_⟩
    refine ⟨_,by rw [hst,hst2],?_⟩
    push_cast [cut]
   | some a =>
    by_cases ha:a = x.2.args.length
    ·have hst2:arStep m' x.2 = some m':=by unfold arStep;rw [hv,hg];simp [ha]
     have hup:=upd_encAr hv hst2
     have ha':((a:Int) = (x.2.args.length:Int)) = True:=eq_true (by omega)
     push_cast [hv,hlk,hg,Option.isSome_some,Option.getD_some,ha',hup,ksB]
     refine ⟨rfl,?_⟩
     refine ⟨_,by rw [hst,hst2],?_⟩
     push_cast [cut]
    ·have hst2:arStep m' x.2 = none:=by unfold arStep;rw [hv,hg];simp [ha]
     have ha':((a:Int) = (x.2.args.length:Int)) = False:=eq_false (by omega)
     push_cast [hv,hlk,hg,Option.isSome_some,Option.getD_some,ha',ksB]
     refine ⟨rfl,?_⟩
     have hall:arAll m (visit u []) = none:=by
      have:visit u [] = (visit u []).take (i+1)++(visit u []).drop (i+1):=(List.take_append_drop _ _).symm
      rw [this,arAll_append,hst,hst2];rfl
     refine ⟨rfl,hall,m',?_⟩
     push_cast [cut]
 ·rintro H1 ⟨m',hm',rfl⟩
  rw [List.length_map,List.take_length] at hm'
  have:=hsome m' hm'
  push_cast [hra,w64 (show j < 2^62 by omega)]
  push_cast at this
  exact this
 ·rintro e H1 ⟨rfl,hn,m',rfl⟩
  simp only [jumpC]
  push_cast
  rw [hnone hn]
  exact ends_nil (.inl rfl) rfl ⟨rfl,rfl⟩
theorem term_Arities_s (r:List ARule) (hs:rbs r < 2^40):Spec prog n_term_Arities [encRs r] [] (arOut (arRules [] r)):=by
 have hl:=length_le_rbs r
 refine spec_of_run mixed term_Arities.ok rfl ?_
 push_cast
 refine loop_up (n:=r.length) (R:=fun k=>∀ m,arRules m (r.drop k) = arRules [] r→term_Arities.L8 (.ptr 0 0) (.ptr 1 0) (.ptr 3 0) .any (encRs r) (.int .i64 r.length) (.int .i64 k) 0 (arH m []) (Ends 0 term_Arities.rs (arOut (arRules [] r)))) ?_ ?_ 0 (by omega) [] rfl
 ·intro k hk ih m hm
  have hmm:=rbs_mem (getD_mem hk)
  rw [drop_getD hk] at hm
  refine term_Arities.G8 ?_
  generalize hx:r.getD k default = x at hm hmm
  have h1:=size_le_tb x.left
  have h2:=size_le_tb x.right
  simp only [arRules] at hm
  have hr24:∀ σ,rens σ (cT x.left++cT x.right) = cT x.left++cT x.right:=fun σ=>rfl
  push_cast [ilt hk,hx,hr24]
  refine ar_pass (j:=0) (u:=x.left) (by omega) (by omega) (fun σ=>by rw [ren_agg,hr24]) rfl (fun h=>by rw [← hm,h];rfl) fun m1 hm1=>?_
  rw [hm1,Option.bind_some] at hm
  refine ar_pass (j:=1) (u:=x.right) (by omega) (by omega) (fun σ=>by rw [ren_agg,hr24]) rfl (fun h=>by rw [← hm,h];rfl) fun m2 hm2=>?_
  rw [hm2,Option.bind_some] at hm
  refine term_Arities.G6 ?_
  push_cast [w64 (show k < 2^62 by omega)]
  exact ih m2 hm
 ·intro m hm
  refine term_Arities.G8 ?_
  push_cast [inlt (Nat.le_refl _)]
  rw [drop_map_none] at hm
  rw [← hm]
  refine ends_one 2 rfl rfl ⟨rfl,?_⟩
  push_cast
end Go.Dw
end
section
namespace Go.Dw
def marked (n:Str):Bool:=hasSuf n [35]
def checkSystem (r:List ARule):Int:=if checkRules r ≠ 0 then checkRules r else match arRules [] r with
 | none=>6
 | some m=>if m.any (fun p=>marked p.1) then 6 else if r.any extra then 7 else 0
theorem seen_all {n:Nat} {seen:List Nat} {k:Nat} (hm:n≤seen.length) (hnd:seen.Nodup) (hlt:∀ i∈seen,i < n) (hk:k ∉ seen) (hkn:k < n):False:=by
 have h1:(seen++[k]).Nodup:=by simp [List.nodup_append,hnd];intro a ha e;exact hk (e ▸ ha)
 have h2:(seen++[k]).length≤(List.range n).length:=List.Nodup.length_le_of_subset h1 (by
  intro i hi
  rw [List.mem_range]
  rcases List.mem_append.1 hi with h | h
  ·exact hlt i h
  ·simp only [List.mem_singleton] at h;subst h;exact hkn)
 simp at h2;omega
theorem seen_snoc {n:Nat} {seen:List Nat} {k:Nat} (hnd:seen.Nodup) (hlt:∀ i∈seen,i < n) (hk:k ∉ seen) (hkn:k < n):(seen++[k]).Nodup∧∀ i∈seen++[k],i < n:=by
 refine ⟨by simp [List.nodup_append,hnd];intro a ha e;exact hk (e ▸ ha),fun i hi=>?_⟩
 rcases List.mem_append.1 hi with h | h
 ·exact hlt i h
 ·simp only [List.mem_singleton] at h;subst h;exact hkn
theorem term_CheckSystem_s (r:List ARule) (hs:rbs r < 2^38) (hn:∀ m,arRules [] r = some m→∀ p∈m,p.1.length < 2^62):PF n_term_CheckSystem [encRs r] (.int .i64 (checkSystem r)):=by
 have hl:=length_le_rbs r
 refine pf_of term_CheckSystem.ok rfl ?_
 push_cast
 refine .of (term_CheckRules_s r (by omega)) ?_
 unfold checkSystem
 by_cases h1:checkRules r = 0
 ·rw [if_neg (by simpa using h1)]
  push_cast [h1]
  refine CallG.all (show SpecF prog (.func n_term_Arities) [encRs r] [] (arOut (arRules [] r)) from specF_func ▸ term_Arities_s r (by omega)) ?_
  intro x H' h
  cases hr:arRules [] r with
  | none =>
   rw [hr] at h
   obtain ⟨rfl,rfl⟩:=h
   push_cast
   refine pf_ret ?_
   push_cast [term_CheckSystem.rs]
  | some m =>
   have hnm:=hn m hr
   rw [hr] at h
   obtain ⟨rfl,rfl⟩:=h
   push_cast
   have hlen:(encAr m).length = m.length:=by unfold encAr;rw [List.length_map]
   rw [hlen]
   have key:∀ (f:Nat) (seen:List Nat),m.length - seen.length < f→seen.Nodup→(∀ i∈seen,i < m.length)→(∀ i∈seen,marked (m.getD i default).1 = false)→term_CheckSystem.L4 (encRs r) (.it 1) 0
     [.map (encAr m),.iter (some 0) m.length seen] (Ends 0 term_CheckSystem.rs fun x' H'=>x' = .int .i64 (if m.any (fun p=>marked p.1) then 6 else if r.any extra then 7 else 0)∧H' = []):=by
    intro f
    induction f with
    | zero =>
     intro seen hm hnd hlt hun
     omega
    | succ f ih =>
     intro seen hm hnd hlt hun
     refine term_CheckSystem.G4 ?_
     push_cast
     refine nxP_of 0 m.length seen (encAr m) rfl rfl hlen.symm (fun hall=>?_) (fun k p hp hk=>?_)
     ·have hany:m.any (fun p=>marked p.1) = false:=by
       rw [List.any_eq_false]
       intro p hp
       obtain ⟨i,hi,rfl⟩:=List.getElem_of_mem hp
       have:=hun i (hall i hi)
       simp only [List.getD_eq_getElem?_getD,hi,List.getElem?_eq_getElem,Option.getD_some] at this
       simp [this]
      push_cast [hany]
      refine .of (slices_ContainsFunc_s_Rule_Rule_s (p:=extra) (g:=n_term_extra) (caps:=[]) (fun _=>rfl) r (by omega) fun x hx=>term_extra_s x (by have:=rbs_mem hx;omega)) ?_
      push_cast
      refine ⟨fun h=>pf_ret ?_,fun h=>pf_ret ?_⟩ <;> push_cast [term_CheckSystem.rs,h]
     ·have hkl:k < m.length:=by rw [← hlen];exact (List.getElem?_eq_some_iff.1 hp).1
      have hpe:p = (.str (m.getD k default).1,.int .i64 (m.getD k default).2):=by
       unfold encAr at hp
       rw [List.getElem?_map] at hp
       simp [hkl] at hp
       rw [← hp];simp [List.getD_eq_getElem?_getD,hkl]
      have hen:enV [.map (encAr m),.iter (some 0) m.length (seen++[k])] (.it 1) = some (.tup [p.1,p.2]):=by
       simp [enV,hlen,hp]
      subst hpe
      have hmem:m.getD k default∈m:=getD_mem hkl
      push_cast [hen]
      refine .of (term_Marked_s _ (hnm _ hmem)) ?_
      cases hmk:marked (m.getD k default).1 with
      | true =>
       have hany:m.any (fun p=>marked p.1) = true:=List.any_eq_true.2 ⟨_,hmem,hmk⟩
       unfold marked at hmk
       push_cast [hmk]
       refine pf_ret ?_
       push_cast [term_CheckSystem.rs,hany]
      | false =>
       have h2:=seen_snoc hnd hlt hk hkl
       have hlt':seen.length < m.length:=by
        rcases Nat.lt_or_ge seen.length m.length with h | h
        ·exact h
        ·exact (seen_all h hnd hlt hk hkl).elim
       have:=ih (seen++[k]) (by simp;omega) h2.1 h2.2 (fun i hi=>by
        rcases List.mem_append.1 hi with h | h
        ·exact hun i h
        ·simp only [List.mem_singleton] at h;subst h;exact hmk)
       unfold marked at hmk
       push_cast [hmk]
       exact this
   exact key (m.length+1) [] (by simp) List.nodup_nil (by simp) (by simp)
 ·rw [if_pos h1]
  push_cast [h1]
  refine pf_ret ?_
  push_cast [term_CheckSystem.rs]
end Go.Dw
end
section
namespace Go.Proofs
open Go.Shelf Go.RowKit Go.Lib
theorem run_copy_cellsZ {P:Program} (w:World) (dT sT ty elem:TypeId) (b o dLen dCap:Nat) (a:Addr) (sLen sCap z:Nat) (cs:List Value)
  (hu:P.underlying dT = some (.slice elem)) (hs:(P.info? elem).map (·.size) = some z) (hn:cs.length = Nat.min sLen dLen * z)
  (hsrc:∀ j v,cs[j]? = some v→w.cell? (a.add j) = some v) (hc:∀ j,j < cs.length→(w.cell? ⟨b,o+j,none⟩).isSome = true) (hf:∀ j,j < cs.length→w.frozen? ⟨b,o+j,none⟩ = false) (h1:∀ v∈cs,v.oneCell' = true) :
  (Builtin.copy_ #[dT,sT] ty #[.slice (some ⟨b,o,none⟩) dLen dCap,.slice (some a) sLen sCap]).run P w = .ok (goInt (Nat.min sLen dLen)) (w.setCells b o cs):=by
 have hl:=run_loadCells_list (P:=P) w a cs hsrc
 have hst:=run_storeCells_cells (P:=P) b o cs 0 w (by simpa using hc) (by simpa using hf) h1
 cases hq:P.info? elem with
 | none=>simp [hq] at hs
 | some i =>
  have hi:i.size = z:=by simpa [hq] using hs
  simp [Builtin.copy_,run_underlying hu,Builtin.lenOf,Builtin.firstCells,sizeOf,typeInfo,hq,hi,← hn,hl,hst]
theorem Tryz.bind_size:(Tryz.prog.info? 161).map (·.size) = some 4:=by kernel_rfl
set_option maxHeartbeats 4000000 in
set_option maxRecDepth 100000 in
theorem Tryz.ins_shift (b n c i vb vc:Nat) (cs vs:List Value) (w:World) (hi:i < n) (hroom:n+1≤c) (hc63:c≤9223372036854775807) (hvb:vb ≠ b)
  (hcl:cs.length = n * 4) (hvl:vs.length = 4)
  (hcs:∀ j v,cs[j]? = some v→w.cell? ⟨b,j,none⟩ = some v) (hsp:∀ j,j < (n+1) * 4→(w.cell? ⟨b,j,none⟩).isSome = true) (hfz:∀ j,j < (n+1) * 4→w.frozen? ⟨b,j,none⟩ = false)
  (hvs:∀ j v,vs[j]? = some v→w.cell? ⟨vb,j,none⟩ = some v) (h1c:∀ v∈cs,v.oneCell' = true) (h1v:∀ v∈vs,v.oneCell' = true)
  (tA tB:TypeId) (kA kB:Nat) (hsa:w.shape? vb = some (tA,kA)) (hsb:w.shape? b = some (tB,kB)) (hkB:kB ≠ 0) (hfa:w.frozen? ⟨vb,0,none⟩ = false) (hfe:w.frozen? ⟨vb,kA,none⟩ = false) :
  Calls Tryz.prog 310 #[.slice (some ⟨b,0,none⟩) n c,.int .i64 i,.slice (some ⟨vb,0,none⟩) 1 vc] w fun e w' =>
   e = .returned (.slice (some ⟨b,0,none⟩) (n+1) c)∧w' = (w.drew.setCells b ((i+1) * 4) (cs.drop (i * 4))).setCells b (i * 4) vs:=by
 have hz2:¬ ((i:Int) = (n:Int)):=by omega
 have hsz:=Tryz.bind_size
 have hov:∀ lb cb,(callFunc 313 #[.slice (some ⟨vb,0,none⟩) 1 vc,.slice (some ⟨b,(i+1) * 4,none⟩) lb cb]).run Tryz.prog w = .ok (.value (.bool false)) w:=fun lb cb=>by
  rw [run_callFunc_extern Tryz.func313 (by kernel_rfl) (by kernel_rfl) (by kernel_rfl) (e:=Extern.SlicesOverlaps.overlaps #[159,159] #[4]) (by kernel_rfl),
   Lib.run_overlaps_apart w 159 4 161 Tryz.underlying159 4 Tryz.sizeOf161 ⟨vb,0,none⟩ ⟨b,(i+1) * 4,none⟩ 1 vc lb cb hvb tA tB kA kB hsa hsb hkB hfa hfe]
  rfl
 have hdl:(cs.drop (i * 4)).length = (n - i) * 4:=by rw [List.length_drop,hcl];omega
 have hw1:IntKind.i64.wrap ((i:Int)+1) = (i:Int)+1:=by rw [IntKind.wrap_i64];omega
 have mixed:=Go.Dw.mixed
 have hb1:(0:Int)≤(i:Int)+1:=by omega
 have hin:i≤n:=by omega
 have htn:((i:Int)+1).toNat = i+1:=by omega
 have hb2:¬ (c = i+1):=by omega
 have hb3:(i:Int)≤(n:Int)+1:=by omega
 have hb4:¬ (c = i):=by omega
 have hcp1:∀ ty dc sc,(Builtin.copy_ #[159,159] ty #[.slice (some ⟨b,(i+1) * 4,none⟩) (n - i) dc,.slice (some ⟨b,i * 4,none⟩) (n+1 - i) sc]).run Tryz.prog w.drew = .ok (goInt (Nat.min (n+1 - i) (n - i))) (w.drew.setCells b ((i+1) * 4) (cs.drop (i * 4))):=fun ty dc sc =>
  run_copy_cellsZ w.drew _ _ ty 161 b ((i+1) * 4) (n - i) dc ⟨b,i * 4,none⟩ (n+1 - i) sc 4 (cs.drop (i * 4)) Tryz.underlying159 hsz (by rw [hdl];simp only [Nat.min_def];split <;> omega)
   (fun j v hj=>by rw [Addr.add_lit];exact hcs (i * 4+j) v (by rwa [List.getElem?_drop] at hj))
   (fun j hj=>hsp _ (by omega)) (fun j hj=>hfz _ (by omega)) (fun v hv=>h1c v (List.mem_of_mem_drop hv))
 obtain ⟨W1,hW1⟩:∃ W1,W1 = w.drew.setCells b ((i+1) * 4) (cs.drop (i * 4)):=⟨_,rfl⟩
 have hsp1:∀ k,k < (n+1) * 4→(W1.cell? ⟨b,k,none⟩).isSome = true:=fun k hk=>by
  rw [hW1]
  exact isSome_setCells b _ _ w.drew (fun j hj=>hsp ((i+1) * 4+j) (by rw [hdl] at hj;omega)) _ (hsp k hk)
 have hcp2:∀ (W:World),(∀ x,W.cell? x = W1.cell? x)→(∀ x,W.frozen? x = W1.frozen? x)→∀ ty dc,(Builtin.copy_ #[159,159] ty #[.slice (some ⟨b,i * 4,none⟩) (n+1 - i) dc,.slice (some ⟨vb,0,none⟩) 1 vc]).run Tryz.prog W = .ok (goInt (Nat.min 1 (n+1 - i))) (W.setCells b (i * 4) vs):=fun W hWc hWf ty dc =>
  run_copy_cellsZ W _ _ ty 161 b (i * 4) (n+1 - i) dc ⟨vb,0,none⟩ 1 vc 4 vs Tryz.underlying159 hsz (by rw [hvl];simp only [Nat.min_def];split <;> omega)
   (fun j v hj=>by
    rw [Addr.add_lit,hWc,hW1,World.cell?_setCells_out b _ _ _ _ (fun h _=>absurd h hvb),Nat.zero_add]
    exact hvs j v hj)
   (fun j hj=>by rw [hWc];exact hsp1 _ (by omega)) (fun j hj=>by rw [hWf,hW1,World.frozen?_setCells];exact hfz _ (by omega)) h1v
 rw [← hW1] at hcp1
 go_enter Tryz.func310,Tryz.ntmps310
 go_wp2_with (simp only [hov])
 go_region_law_o (refine step_copy_runI rfl _ _ 159 159 rfl _ _ (by simp [Act.eval,Act.put]) (by simp [Act.eval,Act.put]) (hcp1 _ _ _) ?_)
 go_wp2_with (at_builtin;refine wpList_copy_runI _ rfl _ _ 159 159 rfl _ _ rfl rfl (hcp2 _ (fun _=>rfl) (fun _=>rfl) _ _) ?_)
 go_ret
 first | exact ⟨rfl,rfl⟩ | exact ⟨rfl,by rw [hW1]⟩
end Go.Proofs
end
section
namespace Go.Proofs
open Go.Shelf Go.RowKit Go.Lib
def zBind:Value:=.agg #[.string ⟨#[]⟩,.string ⟨#[]⟩,.bool false,.slice none 0 0]
theorem Tryz.bind_info:(Tryz.prog.info? 161).map (fun i=>(i.zero,i.size,i.bytes)) = some (some zBind,4,64):=by kernel_rfl
theorem zeroCells_size (cs:Array Value) (k:Nat):(Builtin.zeroCells cs k).size = k * cs.size:=by
 simp [Builtin.zeroCells]
set_option maxHeartbeats 4000000 in
set_option maxRecDepth 100000 in
theorem Tryz.ins_grow (b n c i vb vc:Nat) (cs vs:List Value) (w:World) (hi:i < n) (hnc:n≤c) (hroom:c < n+1) (hbig:(n+1) * 64≤140737488355328)
  (hcl:cs.length = n * 4) (hvl:vs.length = 4)
  (hcs:∀ j v,cs[j]? = some v→w.cell? ⟨b,j,none⟩ = some v)
  (hvs:∀ j v,vs[j]? = some v→w.cell? ⟨vb,j,none⟩ = some v) (h1c:∀ v∈cs,v.oneCell' = true) (h1v:∀ v∈vs,v.oneCell' = true) :
  Calls Tryz.prog 310 #[.slice (some ⟨b,0,none⟩) n c,.int .i64 i,.slice (some ⟨vb,0,none⟩) 1 vc] w fun e w' =>
   e = .returned (.slice (some ⟨w.heap.size,0,none⟩) (n+1) (grownCap w (n+1) c 161)) ∧
   w' = (((w.alloc (.cells ((cs.take (i * 4)).toArray++Builtin.zeroCells zBind.cells (n+1 - i)++Builtin.zeroCells zBind.cells (grownCap w (n+1) c 161 - (n+1))) 161)).drew.setCells w.heap.size (i * 4) vs).drew).setCells w.heap.size ((i+1) * 4) (cs.drop (i * 4)):=by
 have mixed:=Go.Dw.mixed
 obtain ⟨i0,hi0,hz0,hzs,hzb⟩:=info_parts Tryz.bind_info
 have hz2:¬ ((i:Int) = (n:Int)):=by omega
 have hz3:(c:Int) < (n:Int)+1:=by omega
 have hsz:=Tryz.bind_size
 have hbw:b < w.heap.size:=block_lt_of_cell (hcs 0 _ (List.getElem?_eq_getElem (by omega)))
 have hvw:vb < w.heap.size:=block_lt_of_cell (hvs 0 _ (List.getElem?_eq_getElem (by omega)))
 have hkk:(n:Int)+1 - (i:Int) = ((n+1 - i:Nat):Int):=by omega
 have hik:i+(n+1 - i) = n+1:=by omega
 have hold:(Builtin.firstCells i0.size i (.slice (some ⟨b,0,none⟩) i c)).run Tryz.prog w.drew = .ok (cs.take (i * 4)).toArray w.drew:=by
  rw [hzs]
  exact run_firstCells_some w.drew 4 i ⟨b,0,none⟩ i c (cs.take (i * 4)) (by rw [List.length_take];omega) (fun j v hj=>by
   rw [Addr.add_lit,Nat.zero_add]
   rw [List.getElem?_take] at hj
   split at hj
   ·exact hcs j v hj
   ·cases hj)
 have hrz:∀ ty,(Builtin.append_ #[159,3] ty #[.slice (some ⟨b,0,none⟩) i c,.int .i64 ((n:Int)+1 - (i:Int))]).run Tryz.prog w =
   .ok (.slice (some ⟨w.heap.size,0,none⟩) (n+1) (grownCap w (n+1) c 161)) (w.drew.alloc (.cells ((cs.take (i * 4)).toArray++Builtin.zeroCells zBind.cells (n+1 - i)++Builtin.zeroCells zBind.cells (grownCap w (n+1) c 161 - (n+1))) 161)):=fun ty=>by
  have h:=Lib.run_append_grow_zeros w 159 3 ty 161 i0 _ .i64 .i64 Tryz.underlying159 Tryz.underlying3 hi0 hz0 (some ⟨b,0,none⟩) i c (cs.take (i * 4)) hold (n+1 - i) (by omega) (by omega) (by omega) (by omega) (by rw [hzb];omega) (by rw [hzb,hik];exact growslice_fits hroom hbig)
  rw [hik] at h
  rw [hkk]
  exact h
 obtain ⟨G,hG⟩:∃ G,G = grownCap w (n+1) c 161:=⟨_,rfl⟩
 obtain ⟨ROW,hROW⟩:∃ ROW:Array Value,ROW = (cs.take (i * 4)).toArray++Builtin.zeroCells zBind.cells (n+1 - i)++Builtin.zeroCells zBind.cells (G - (n+1)):=⟨_,rfl⟩
 rw [← hG] at hrz ⊢
 rw [← hROW] at hrz ⊢
 have hRl:(n+1) * 4≤ROW.size:=by
  rw [hROW]
  have hzc:zBind.cells.size = 4:=rfl
  simp only [Array.size_append,zeroCells_size,hzc,List.size_toArray,List.length_take,hcl]
  omega
 obtain ⟨W1,hW1⟩:∃ W1,W1 = w.drew.alloc (.cells ROW 161):=⟨_,rfl⟩
 rw [← hW1] at hrz
 have hN:∀ j,j < (n+1) * 4→(W1.cell? ⟨w.heap.size,j,none⟩).isSome = true:=fun j hj=>by
  rw [hW1,World.cell?_alloc_at (w:=w.drew) ROW _ w.heap.size j rfl,Array.getElem?_eq_getElem (by omega)];rfl
 have hNf:∀ j,W1.frozen? ⟨w.heap.size,j,none⟩ = false:=fun j=>by rw [hW1];exact World.frozen?_alloc_at (w:=w.drew) ROW _ w.heap.size j rfl
 have hOb:∀ j v,w.cell? ⟨b,j,none⟩ = some v→W1.cell? ⟨b,j,none⟩ = some v:=fun j v h=>by rw [hW1,World.cell?_alloc_past (w:=w.drew) _ b j hbw];exact h
 have hOv:∀ j v,w.cell? ⟨vb,j,none⟩ = some v→W1.cell? ⟨vb,j,none⟩ = some v:=fun j v h=>by rw [hW1,World.cell?_alloc_past (w:=w.drew) _ vb j hvw];exact h
 have hcpA:∀ (W:World),(∀ x,W.cell? x = W1.cell? x)→(∀ x,W.frozen? x = W1.frozen? x)→∀ ty dc,(Builtin.copy_ #[159,159] ty #[.slice (some ⟨w.heap.size,i * 4,none⟩) (n+1 - i) dc,.slice (some ⟨vb,0,none⟩) 1 vc]).run Tryz.prog W = .ok (goInt (Nat.min 1 (n+1 - i))) (W.setCells w.heap.size (i * 4) vs):=fun W hWc hWf ty dc =>
  run_copy_cellsZ W _ _ ty 161 w.heap.size (i * 4) (n+1 - i) dc ⟨vb,0,none⟩ 1 vc 4 vs Tryz.underlying159 hsz (by rw [hvl];simp only [Nat.min_def];split <;> omega)
   (fun j v hj=>by rw [Addr.add_lit,hWc,Nat.zero_add];exact hOv _ v (hvs j v hj))
   (fun j hj=>by rw [hWc];exact hN _ (by omega)) (fun j hj=>by rw [hWf];exact hNf _) h1v
 have hGn:n+1≤G:=by rw [hG];exact grownCap_ge w _ _ _
 have hG63:G≤9223372036854775807:=by
  have:=grownCap_le_maxLen w (n+1) c 161 (by unfold maxLen;omega)
  rw [← hG] at this
  unfold maxLen at this
  omega
 have hGi:¬ (G = i):=by omega
 have hGim:¬ (G = i+1):=by omega
 have hci:¬ (c = i):=by omega
 have hbN:b ≠ w.heap.size:=by omega
 have hdl:(cs.drop (i * 4)).length = (n - i) * 4:=by rw [List.length_drop,hcl];omega
 have hcpB:∀ (W:World),(∀ x,W.cell? x = (W1.setCells w.heap.size (i * 4) vs).cell? x)→(∀ x,W.frozen? x = (W1.setCells w.heap.size (i * 4) vs).frozen? x)→∀ ty dc sc,(Builtin.copy_ #[159,159] ty #[.slice (some ⟨w.heap.size,(i+1) * 4,none⟩) (n - i) dc,.slice (some ⟨b,i * 4,none⟩) (n - i) sc]).run Tryz.prog W = .ok (goInt (Nat.min (n - i) (n - i))) (W.setCells w.heap.size ((i+1) * 4) (cs.drop (i * 4))):=fun W hWc hWf ty dc sc =>
  run_copy_cellsZ W _ _ ty 161 w.heap.size ((i+1) * 4) (n - i) dc ⟨b,i * 4,none⟩ (n - i) sc 4 (cs.drop (i * 4)) Tryz.underlying159 hsz (by rw [hdl];simp only [Nat.min_def];split <;> omega)
   (fun j v hj=>by
    rw [Addr.add_lit,hWc,World.cell?_setCells_out _ _ _ _ _ (fun h _=>absurd h hbN)]
    exact hOb _ v (hcs (i * 4+j) v (by rwa [List.getElem?_drop] at hj)))
   (fun j hj=>by rw [hWc];exact isSome_setCells _ _ _ W1 (fun t ht=>hN (i * 4+t) (by omega)) _ (hN ((i+1) * 4+j) (by omega)))
   (fun j hj=>by rw [hWf,World.frozen?_setCells];exact hNf _) (fun v hv=>h1c v (List.mem_of_mem_drop hv))
 subst hW1
 have hE1:∀ x,((w.alloc (.cells ROW 161)).drew).cell? x = (w.drew.alloc (.cells ROW 161)).cell? x:=fun x=>rfl
 have hE2:∀ x,((w.alloc (.cells ROW 161)).drew).frozen? x = (w.drew.alloc (.cells ROW 161)).frozen? x:=fun x=>rfl
 have hF1:∀ x,(((w.alloc (.cells ROW 161)).drew.setCells w.heap.size (i * 4) vs).drew).cell? x = ((w.drew.alloc (.cells ROW 161)).setCells w.heap.size (i * 4) vs).cell? x:=fun x=>rfl
 have hF2:∀ x,(((w.alloc (.cells ROW 161)).drew.setCells w.heap.size (i * 4) vs).drew).frozen? x = ((w.drew.alloc (.cells ROW 161)).setCells w.heap.size (i * 4) vs).frozen? x:=fun x=>rfl
 have hw1:IntKind.i64.wrap ((i:Int)+1) = (i:Int)+1:=by rw [IntKind.wrap_i64];omega
 have hb1:(0:Int)≤(i:Int)+1:=by omega
 have hin:i≤n:=by omega
 have htn:((i:Int)+1).toNat = i+1:=by omega
 have hb3:(i:Int)≤(n:Int):=by omega
 clear hkk hik hold hROW hG hRl
 go_enter Tryz.func310,Tryz.ntmps310
 go_wp2_with (first
  | (at_builtin;refine Lib.wpList_append_run _ rfl _ _ _ _ rfl _ _ rfl rfl _ _ (hrz _) ?_)
  | (at_builtin;refine wpList_copy_runI _ rfl _ _ 159 159 rfl _ _ rfl rfl (hcpA _ hE1 hE2 _ _) ?_)
  | (at_builtin;refine wpList_copy_runI _ rfl _ _ 159 159 rfl _ _ rfl rfl (hcpB _ (fun _=>rfl) (fun _=>rfl) _ _ _) ?_))
 go_region_law_o (refine step_copy_runI rfl _ _ 159 159 rfl (.slice (some ⟨w.heap.size,(i+1) * 4,none⟩) (n - i) (G - (i+1))) (.slice (some ⟨b,i * 4,none⟩) (n - i) (c - i)) (by simp [Act.eval,Act.put]) (by simp [Act.eval,Act.put]) (hcpB _ hF1 hF2 3 (G - (i+1)) (c - i)) ?_)
 go_wp2
 go_ret
 exact ⟨rfl,rfl⟩
end Go.Proofs
end
section
namespace Go.Proofs
open Go.Shelf Go.RowKit Go.Lib
set_option maxHeartbeats 4000000 in
set_option maxRecDepth 100000 in
theorem Tryz.ins_end_grow (base:Option Addr) (n c vb vc:Nat) (cs vs:List Value) (w:World) (hnc:n≤c) (hroom:c < n+1) (hbig:(n+1) * 64≤140737488355328)
  (hcl:cs.length = n * 4) (hvl:vs.length = 4) (hnil:base = none→n = 0)
  (hcs:∀ a,base = some a→∀ j v,cs[j]? = some v→w.cell? (a.add j) = some v)
  (hvs:∀ j v,vs[j]? = some v→w.cell? ⟨vb,j,none⟩ = some v) (h1v:∀ v∈vs,v.oneCell' = true) :
  Calls Tryz.prog 310 #[.slice base n c,.int .i64 n,.slice (some ⟨vb,0,none⟩) 1 vc] w fun e w' =>
   e = .returned (.slice (some ⟨w.heap.size,0,none⟩) (n+1) (grownCap w (n+1) c 161)) ∧
   w' = w.drew.alloc (.cells ((cs++vs).toArray++Builtin.zeroCells zBind.cells (grownCap w (n+1) c 161 - (n+1))) 161):=by
 have mixed:=Go.Dw.mixed
 obtain ⟨i0,hi0,hz0,hzs,hzb⟩:=info_parts Tryz.bind_info
 have hsrc:Src Tryz.prog i0.size 159 (.slice (some ⟨vb,0,none⟩) 1 vc) 1 vs w:=by
  rw [hzs]
  exact Src.ofSlice w Tryz.underlying159 ⟨vb,0,none⟩ 1 vc vs (by omega) (fun j u hj=>by rw [Addr.add_lit,Nat.zero_add];exact hvs j u hj) h1v
 have hold:(Builtin.firstCells i0.size n (.slice base n c)).run Tryz.prog w.drew = .ok cs.toArray w.drew:=by
  rw [hzs]
  cases base with
  | none =>
   have h0:=hnil rfl
   subst h0
   have hc0:cs = []:=List.length_eq_zero_iff.1 (by omega)
   rw [hc0]
   exact run_firstCells_none w.drew 4 0 0 c
  | some a=>exact run_firstCells_some w.drew 4 n a n c cs (by omega) (fun j v hj=>hcs a rfl j v hj)
 have hrun:∀ ty,(Builtin.append_ #[159,159] ty #[.slice base n c,.slice (some ⟨vb,0,none⟩) 1 vc]).run Tryz.prog w = .ok (.slice (some ⟨w.heap.size,0,none⟩) (n+1) (grownCap w (n+1) c 161)) (w.drew.alloc (.cells ((cs++vs).toArray++Builtin.zeroCells zBind.cells (grownCap w (n+1) c 161 - (n+1))) 161)):=fun ty =>
  run_append_grow_src w 159 159 ty 161 i0 zBind Tryz.underlying159 hi0 hz0 base n c cs hold _ 1 vs hsrc hroom (by omega) (by rw [hzb];exact growslice_fits hroom hbig)
 obtain ⟨ROW,hROW⟩:∃ ROW:Array Value,ROW = (cs++vs).toArray++Builtin.zeroCells zBind.cells (grownCap w (n+1) c 161 - (n+1)):=⟨_,rfl⟩
 rw [← hROW] at hrun ⊢
 clear hROW
 go_enter Tryz.func310,Tryz.ntmps310
 cases base with
 | none =>
  have h0:=hnil rfl
  subst h0
  go_wp2_with (at_builtin;refine Lib.wpList_append_run _ rfl _ _ _ _ rfl _ _ rfl rfl _ _ (hrun _) ?_)
  go_ret
  exact ⟨rfl,rfl⟩
 | some a =>
  obtain ⟨ab,ao,asp⟩:=a
  go_wp2_with (at_builtin;refine Lib.wpList_append_run _ rfl _ _ _ _ rfl _ _ rfl rfl _ _ (hrun _) ?_)
  all_goals (go_ret;exact ⟨rfl,rfl⟩)
set_option maxHeartbeats 4000000 in
set_option maxRecDepth 100000 in
theorem Tryz.ins_end_room (b n c vb vc:Nat) (vs:List Value) (w:World) (hroom:n+1≤c) (hc63:c≤9223372036854775807)
  (hvl:vs.length = 4) (hsp:∀ j,j < 4→(w.cell? ⟨b,n * 4+j,none⟩).isSome = true) (hfz:∀ j,j < 4→w.frozen? ⟨b,n * 4+j,none⟩ = false)
  (hvs:∀ j v,vs[j]? = some v→w.cell? ⟨vb,j,none⟩ = some v) (h1v:∀ v∈vs,v.oneCell' = true) :
  Calls Tryz.prog 310 #[.slice (some ⟨b,0,none⟩) n c,.int .i64 n,.slice (some ⟨vb,0,none⟩) 1 vc] w fun e w' =>
   e = .returned (.slice (some ⟨b,0,none⟩) (n+1) c)∧w' = w.setCells b (n * 4) vs:=by
 have mixed:=Go.Dw.mixed
 obtain ⟨i0,hi0,hz0,hzs,hzb⟩:=info_parts Tryz.bind_info
 have hrun:∀ ty,(Builtin.append_ #[159,159] ty #[.slice (some ⟨b,0,none⟩) n c,.slice (some ⟨vb,0,none⟩) 1 vc]).run Tryz.prog w = .ok (.slice (some ⟨b,0,none⟩) (n+1) c) (w.setCells b (n * 4) vs):=fun ty=>by
  have h:=run_append_room_cells (P:=Tryz.prog) w 159 ty 161 i0 Tryz.underlying159 hi0 b 0 n c ⟨vb,0,none⟩ 1 vc vs (by rw [hzs];omega) (fun j u hj=>by rw [Addr.add_lit,Nat.zero_add];exact hvs j u hj) h1v hroom
   (fun j hj=>by rw [hzs,Nat.zero_add];exact hsp j (by omega)) (fun j hj=>by rw [hzs,Nat.zero_add];exact hfz j (by omega))
  rw [hzs,Nat.zero_add] at h
  exact h
 obtain ⟨W,hW⟩:∃ W,W = w.setCells b (n * 4) vs:=⟨_,rfl⟩
 rw [← hW] at hrun ⊢
 clear hW
 go_enter Tryz.func310,Tryz.ntmps310
 go_wp2_with (at_builtin;refine Lib.wpList_append_run _ rfl _ _ _ _ rfl _ _ rfl rfl _ _ (hrun _) ?_)
 go_ret
 exact ⟨rfl,rfl⟩
end Go.Proofs
end
section
namespace Go.Dw
open Go.Proofs Go.Sort Go.Lib
theorem heap_setCells (b:Nat):∀ (us:List Value) (o:Nat) (w:World),(w.setCells b o us).heap.size = w.heap.size∧(∀ b',b' ≠ b→(w.setCells b o us).heap[b']? = w.heap[b']?) ∧
  (∀ vs t fr,w.heap[b]? = some (.cells vs t fr)→∃ vs1,(w.setCells b o us).heap[b]? = some (.cells vs1 t fr)∧vs1.size = vs.size)∧(w.setCells b o us).os = w.os∧(w.setCells b o us).tape = w.tape∧(w.setCells b o us).output = w.output
 | [],o,w=>⟨rfl,fun _ _=>rfl,fun vs t fr h=>⟨vs,h,rfl⟩,rfl,rfl,rfl⟩
 | u :: us,o,w=>by
  obtain ⟨h1,h2,h3,h4,h5,h6⟩:=heap_setCells b us (o+1) (w.setCell ⟨b,o,none⟩ u)
  have e1:(w.setCell ⟨b,o,none⟩ u).heap.size = w.heap.size:=by rw [setCell_eq];simp [mapBlock]
  have e2:∀ b',b' ≠ b→(w.setCell ⟨b,o,none⟩ u).heap[b']? = w.heap[b']?:=fun b' hb=>by
   rw [setCell_eq];simp only [mapBlock];rw [Array.getElem?_modify,if_neg (Ne.symm hb)]
  refine ⟨by rw [World.setCells,h1,e1],fun b' hb=>by rw [World.setCells,h2 b' hb,e2 b' hb],fun vs t fr h=>?_,?_,?_,?_⟩
  ·have:(w.setCell ⟨b,o,none⟩ u).heap[b]? = some (.cells (vs.setIfInBounds o u) t fr):=by
    rw [setCell_eq];simp only [mapBlock];rw [Array.getElem?_modify,if_pos rfl,h];rfl
   obtain ⟨vs1,q1,q2⟩:=h3 _ _ _ this
   exact ⟨vs1,by rw [World.setCells];exact q1,by rw [q2];simp⟩
  ·rw [World.setCells,h4,setCell_eq];rfl
  ·rw [World.setCells,h5,setCell_eq];rfl
  ·rw [World.setCells,h6,setCell_eq];rfl
theorem drawn_setCells (b:Nat):∀ (us:List Value) (o:Nat) (w:World),(w.setCells b o us).drawn = w.drawn
 | [],o,w=>rfl
 | u :: us,o,w=>by rw [World.setCells,drawn_setCells b us,setCell_eq];rfl
theorem ins_fin {c:Cx} (hc:Conc c) {els:List (List V)} {new:List V} {e i n z:Nat} (hH:c.H = [.row e z els,.arr e z 1]) (hn:els.length = n) (hi:i≤n) {w':World} {bN kN:Nat} {vs1:Array Value} {us:List Value}
  (hb:(∃ k,c.ρ 0 = some (bN,k)) ∨ c.w.heap.size≤bN) (hmax:n+1≤maxEls)
  (h1:w'.heap[bN]? = some (.cells vs1 e (0,0))) (h2:vs1.size = kN * z) (h3:n+1≤kN) (h4:kN≤capMax)
  (hold:∀ (l:Nat) (el:List V),els[l]? = some el→el.length = z∧∀ (j:Nat) (x:V),el[j]? = some x→∃ v,vs1[(if l < i then l else l+1) * z+j]? = some v∧oneC v = true∧rep c x v)
  (hnew:new.length = z∧∀ (j:Nat) (x:V),new[j]? = some x→∃ v,vs1[i * z+j]? = some v∧oneC v = true∧rep c x v)
  (hoth:∀ b',b' < c.w.heap.size→b' ≠ bN→w'.heap[b']? = c.w.heap[b']?) (hsz:c.w.heap.size≤w'.heap.size) (hos:w'.os = c.w.os) (htp:w'.tape = c.w.tape) (hou:w'.output = c.w.output) (hdr:c.w.drawn≤w'.drawn) :
  ∃ v x c',Ending.returned (.slice (some ⟨bN,0,none⟩) (n+1) kN) = .returned v∧c'.w = w'∧(x = .rw 0 z (n+1)∧c'.H = [.row e z (els.take i++new :: els.drop i),.arr e z 1])∧Conc c'∧rep c' x v∧Fr c c':=by
 have hH0:c.H[0]? = some (.row e z els):=by rw [hH];rfl
 have hH1:c.H[1]? = some (.arr e z 1):=by rw [hH];rfl
 have hHl:c.H.length = 2:=by rw [hH];rfl
 obtain ⟨o1,o2⟩:=hc.obj 0 _ hH0
 have hnok:∀ o,¬ c.ok bN o:=fun o ho=>by
  rcases hb with ⟨k,hk⟩ | hb
  ·obtain ⟨_,_,_,_,_,h5,_⟩:=o2 bN k hk;exact h5 o ho
  ·have:=hc.okLt _ _ ho;omega
 have h1ne:∀ b' k',c.ρ 1 = some (b',k')→b' ≠ bN∧b' < c.w.heap.size:=fun b' k' h=>by
  have hlt:=own_lt hc (show 1 < c.H.length by omega) h
  refine ⟨fun e1=>?_,hlt⟩
  subst e1
  rcases hb with ⟨k,hk⟩ | hb
  ·exact absurd (hc.inj 0 1 b' k k' (by omega) (by omega) hk h) (by decide)
  ·omega
 generalize hc':(⟨w',c.ok,upd c.ρ 0 (some (bN,kN)),[.row e z (els.take i++new :: els.drop i),.arr e z 1]⟩:Cx) = c'
 have hw:c'.w = w':=by rw [← hc']
 have hk':c'.ok = c.ok:=by rw [← hc']
 have hρ0:c'.ρ 0 = some (bN,kN):=by rw [← hc'];simp [upd]
 have hρ1:∀ j,j ≠ 0→c'.ρ j = c.ρ j:=fun j hj=>by rw [← hc'];exact upd_ne hj
 have hH':c'.H = [.row e z (els.take i++new :: els.drop i),.arr e z 1]:=by rw [← hc']
 have hlen':(els.take i++new :: els.drop i).length = n+1:=by simp;omega
 have hf:Fr c c':=by
  refine ⟨fun _ _ h=>by rw [hk'];exact h,fun b' o h=>?_,by rw [hw];exact hsz,fun _ _ h=>.inl (by rw [hk'] at h;exact h),fun b' hlt hno=>?_,fun b' hb'=>?_,fun j o hj=>?_,by rw [hw];exact hos,by rw [hw];exact htp,by rw [hw];exact hou,by rw [hw];exact hdr⟩
  ·have hne:b' ≠ bN:=fun e=>hnok o (e ▸ h)
   simp only [World.cell?,hw]
   rw [hoth b' (hc.okLt _ _ h) hne]
  ·rw [hw]
   refine hoth b' hlt fun e1=>?_
   subst e1
   rcases hb with ⟨k,hk⟩ | hb
   ·exact hno ⟨0,k,by omega,hk⟩
   ·omega
  ·obtain ⟨j,k',hj,hr⟩:=hb'
   have hj:j < 2:=by rw [hH'] at hj;simpa using hj
   by_cases e0:j = 0
   ·subst e0
    rw [hρ0] at hr;cases hr
    rcases hb with ⟨k,hk⟩ | hb
    ·exact .inl ⟨0,k,by omega,hk⟩
    ·exact .inr hb
   ·rw [hρ1 j e0] at hr
    exact .inl ⟨j,k',by omega,hr⟩
  ·rw [hH] at hj
   match j,hj with
   | 0,hj =>
    simp only [List.getElem?_cons_zero,Option.some.injEq] at hj
    subst hj
    exact ⟨.row e z (els.take i++new :: els.drop i),by rw [hH'];rfl,rfl,rfl,by omega,fun h=>by omega⟩
   | 1,hj =>
    simp only [List.getElem?_cons_succ,List.getElem?_cons_zero,Option.some.injEq] at hj
    subst hj
    exact ⟨.arr e z 1,by rw [hH'];rfl,rfl,rfl,Nat.le_refl _,fun _=>hρ1 1 (by omega)⟩
   | j+2,hj=>simp at hj
 refine ⟨_,_,c',rfl,hw,⟨rfl,hH'⟩,?_,?_,hf⟩
 ·refine ⟨fun j1 j2 b' k1 k2 q1 q2 q3 q4=>?_,fun b' o h=>?_,fun j o hj=>?_⟩
  ·rw [hH'] at q1 q2
   simp only [List.length_cons,List.length_nil] at q1 q2
   by_cases e1:j1 = 0 <;> by_cases e2:j2 = 0
   ·omega
   ·have:j2 = 1:=by omega
    subst e1 this
    rw [hρ0] at q3;cases q3
    rw [hρ1 1 (by omega)] at q4
    exact absurd rfl (h1ne _ _ q4).1
   ·have:j1 = 1:=by omega
    subst e2 this
    rw [hρ0] at q4;cases q4
    rw [hρ1 1 (by omega)] at q3
    exact absurd rfl (h1ne _ _ q3).1
   ·omega
  ·rw [hk'] at h;rw [hw];have:=hc.okLt _ _ h;omega
  ·rw [hH'] at hj
   match j,hj with
   | 0,hj =>
    simp only [List.getElem?_cons_zero,Option.some.injEq] at hj
    subst hj
    refine ⟨fun h=>(by rw [hρ0] at h;cases h),fun b' k' h=>?_⟩
    rw [hρ0] at h;cases h
    refine ⟨vs1,by rw [hw];exact h1,h2,by omega,h4,fun o ho=>hnok o (by rw [hk'] at ho;exact ho),fun l el hl=>?_⟩
    rw [List.getElem?_append] at hl
    have hti:(els.take i).length = i:=by rw [List.length_take];omega
    rw [hti] at hl
    by_cases e1:l < i
    ·rw [if_pos e1,List.getElem?_take,if_pos e1] at hl
     obtain ⟨q1,q2⟩:=hold l el hl
     refine ⟨q1,fun j x hx=>?_⟩
     obtain ⟨v,r1,r2,r3⟩:=q2 j x hx
     rw [if_pos e1] at r1
     exact ⟨v,r1,r2,rep_fr hf r3⟩
    ·rw [if_neg e1] at hl
     by_cases e2:l = i
     ·subst e2
      rw [Nat.sub_self,List.getElem?_cons_zero] at hl
      cases hl
      refine ⟨hnew.1,fun j x hx=>?_⟩
      obtain ⟨v,r1,r2,r3⟩:=hnew.2 j x hx
      exact ⟨v,r1,r2,rep_fr hf r3⟩
     ·obtain ⟨m,rfl⟩:∃ m,l = m+1:=⟨l - 1,by omega⟩
      have e3:m+1 - i = (m - i)+1:=by omega
      rw [e3,List.getElem?_cons_succ,List.getElem?_drop,show i+(m - i) = m by omega] at hl
      obtain ⟨q1,q2⟩:=hold m el hl
      refine ⟨q1,fun j x hx=>?_⟩
      obtain ⟨v,r1,r2,r3⟩:=q2 j x hx
      rw [if_neg (by omega)] at r1
      exact ⟨v,r1,r2,rep_fr hf r3⟩
   | 1,hj =>
    simp only [List.getElem?_cons_succ,List.getElem?_cons_zero,Option.some.injEq] at hj
    subst hj
    obtain ⟨a1,a2⟩:=hc.obj 1 _ hH1
    refine ⟨fun h=>a1 (by rw [← hρ1 1 (by omega)];exact h),fun b' k' h=>?_⟩
    rw [hρ1 1 (by omega)] at h
    obtain ⟨ne,hlt⟩:=h1ne _ _ h
    obtain ⟨vs,r1,r2,r3,r4,r5⟩:=a2 b' k' h
    exact ⟨vs,by rw [hw,hoth b' hlt ne];exact r1,r2,r3,r4,fun o ho=>by rw [hk'];exact r5 o ho⟩
   | j+2,hj=>simp at hj
 ·refine ⟨by rw [hH'];simp,⟨_,_,rfl,hmax,.inr ⟨_,_,rfl⟩⟩,fun e' sz' els' hh=>?_⟩
  rw [hH'] at hh
  simp only [List.getElem?_cons_zero,Option.some.injEq,Ob.row.injEq] at hh
  obtain ⟨rfl,rfl,rfl⟩:=hh
  exact ⟨rfl,by omega,fun _=>by rw [hρ0];rfl⟩
end Go.Dw
end
section
namespace Go.Dw
open Go.Proofs Go.Sort Go.Lib
theorem ins_in (args:Array Value) (w:World):(callFunc 310 args).run Tryz.prog w = .ok (.enter 310 args) w:=enters_of (P:=Tryz.prog) Tryz.func310 (by kernel_rfl) rfl args w
theorem ins_go {c:Cx} (hc:Conc c) {els:List (List V)} {new:List V} {e i n:Nat} (hH:c.H = [.row e 4 els,.arr e 4 1]) (hn:els.length = n) (hi:i≤n) {w':World} {bN kN:Nat} {vs0 vs1:Array Value} {us cs:List Value}
  (hb:(∃ k,c.ρ 0 = some (bN,k)) ∨ c.w.heap.size≤bN) (hmax:n+1≤maxEls) (h1:w'.heap[bN]? = some (.cells vs1 e (0,0))) (h2:vs1.size = kN * 4) (h3:n+1≤kN) (h4:kN≤capMax)
  (hrow:rowOk c 4 els vs0) (hcs:∀ j,j < n * 4→cs[j]? = vs0[j]?) (hus:new.length = 4∧∀ (j:Nat) (x:V),new[j]? = some x→∃ v,us[j]? = some v∧oneC v = true∧rep c x v)
  (hcell:∀ j,j < (n+1) * 4→vs1[j]? = if j < i * 4 then cs[j]? else if j < i * 4+4 then us[j - i * 4]? else cs[j - 4]?)
  (hoth:∀ b',b' < c.w.heap.size→b' ≠ bN→w'.heap[b']? = c.w.heap[b']?) (hsz:c.w.heap.size≤w'.heap.size) (hos:w'.os = c.w.os) (htp:w'.tape = c.w.tape) (hou:w'.output = c.w.output) (hdr:c.w.drawn≤w'.drawn:=by first | exact Nat.le_refl _ | exact Nat.le_succ _ | (simp only [drawn_setCells];first | exact Nat.le_refl _ | exact Nat.le_succ _) | (subst_vars;simp only [World.drew,World.alloc,drawn_setCells];omega)) :
  ∃ v x c',Ending.returned (.slice (some ⟨bN,0,none⟩) (n+1) kN) = .returned v∧c'.w = w'∧(x = .rw 0 4 (n+1)∧c'.H = [.row e 4 (els.take i++new :: els.drop i),.arr e 4 1])∧Conc c'∧rep c' x v∧Fr c c':=by
 refine ins_fin hc hH hn hi hb hmax h1 h2 h3 h4 (fun l el hl=>?_) ⟨hus.1,fun j x hx=>?_⟩ hoth hsz hos htp hou hdr (us:=us)
 ·obtain ⟨q1,q2⟩:=hrow l el hl
  refine ⟨q1,fun j x hx=>?_⟩
  obtain ⟨v,r1,r2,r3⟩:=q2 j x hx
  have hj:j < 4:=by rw [← q1];exact (List.getElem?_eq_some_iff.1 hx).1
  have hln:l < n:=by rw [← hn];exact (List.getElem?_eq_some_iff.1 hl).1
  refine ⟨v,?_,r2,r3⟩
  by_cases e1:l < i
  ·rw [if_pos e1,hcell _ (by omega),if_pos (by omega),hcs _ (by omega)];exact r1
  ·rw [if_neg e1,hcell _ (by omega),if_neg (by omega),if_neg (by omega),hcs _ (by omega),show (l+1) * 4+j - 4 = l * 4+j by omega];exact r1
 ·obtain ⟨v,r1,r2,r3⟩:=hus.2 j x hx
  have hj:j < 4:=by rw [← hus.1];exact (List.getElem?_eq_some_iff.1 hx).1
  refine ⟨v,?_,r2,r3⟩
  rw [hcell _ (by omega),if_neg (by omega),if_pos (by omega),show i * 4+j - i * 4 = j by omega];exact r1
theorem insert_row (els:List (List V)) (new:List V) (i n:Nat) (hn:els.length = n) (hi:i≤n) (hbig:(n+1) * 64≤maxEls) :
  Spec prog n_slices_Insert_s_Bind_Bind [.rw 0 4 n,.int .i64 i,.own 1 4 [new]] [.row t_Bind 4 els,.arr t_Bind 4 1] fun x H'=>x = .rw 0 4 (n+1)∧H' = [.row t_Bind 4 (els.take i++new :: els.drop i),.arr t_Bind 4 1]:=by
 intro c vs hH hc hr
 obtain ⟨v0,vs',rfl,hv0,v1,vs'',rfl,hv1,v2,vs3,rfl,hv2,hvn⟩:=hr
 have hvn:vs3 = []:=hvn
 subst hvn
 have hv1:v1 = .int .i64 i:=hv1
 subst hv1
 left
 have hH0:c.H[0]? = some (.row t_Bind 4 els):=by rw [hH];rfl
 have hH1:c.H[1]? = some (.arr t_Bind 4 1):=by rw [hH];rfl
 refine ⟨ins_in _ _,?_⟩
 obtain ⟨hp,_,q2⟩:=hv2
 have hcur:=(q2 _ _ _ hH1).2.2 rfl
 obtain ⟨a',c',b',o',e3,_,_,_,e4,e5⟩:=hp
 obtain ⟨us,s1,s2,s3⟩:=prepE_vals e5
 have he4:=e4.resolve_left (by simp)
 subst e3 he4
 cases hρ1:c.ρ 1 with
 | none=>rw [hρ1] at hcur;cases hcur
 | some bk =>
 obtain ⟨vb,kv⟩:=bk
 rw [hρ1] at hcur
 have hcur:Value.slice (some ⟨b',o',none⟩) 1 c' = .slice (some ⟨vb,0,none⟩) 1 kv:=hcur
 simp only [Value.slice.injEq,Option.some.injEq,Addr.mk.injEq,and_true,true_and] at hcur
 obtain ⟨⟨rfl,rfl⟩,rfl⟩:=hcur
 obtain ⟨va,va1,va2,va3,va4,_⟩:=(hc.obj 1 _ hH1).2 _ _ hρ1
 have hus4:us.length = 4:=by simpa using s1
 have husc:∀ j v,us[j]? = some v→c.w.cell? ⟨b',j,none⟩ = some v:=fun j v hj=>by have:=(s2 j v hj).1;simpa using this
 have hus1:∀ v∈us,v.oneCell' = true:=fun v hv=>by
  obtain ⟨j,hj,e⟩:=List.getElem_of_mem hv
  rw [oneC_eq];exact (s2 j v (by rw [List.getElem?_eq_getElem hj,e])).2
 have hnewf:new.length = 4∧∀ (j:Nat) (x:V),new[j]? = some x→∃ v,us[j]? = some v∧oneC v = true∧rep c x v:=by
  obtain ⟨t1,t2⟩:=s3 0 new rfl
  refine ⟨t1,fun j x hx=>?_⟩
  obtain ⟨v,u1,u2⟩:=t2 j x hx
  have u1:us[j]? = some v:=by simpa using u1
  exact ⟨v,u1,(s2 j v u1).2,rep_of_prep u2⟩
 have hvlt:b' < c.w.heap.size:=(Array.getElem?_eq_some_iff.1 va1).1
 have hmx:maxEls = 140737488355328:=rfl
 have hcm:capMax = 9223372036854775807:=rfl
 obtain ⟨_,⟨a0,k0,hv0,hle0,_⟩,q3⟩:=hv0
 have hcur0:=(q3 _ _ _ hH0).2.2 hn
 obtain ⟨o1,o2⟩:=hc.obj 0 _ hH0
 cases hρ0:c.ρ 0 with
 | none =>
  have hels:=o1 hρ0
  subst hels
  have hn0:n = 0:=hn.symm
  subst hn0
  have hi0:i = 0:=by omega
  subst hi0
  rw [hρ0] at hcur0
  have hcur0:v0 = .slice none 0 0:=hcur0
  subst hcur0
  refine (Tryz.ins_end_grow none 0 0 b' c' [] us c.w (by omega) (by omega) (by omega) rfl hus4 (fun _=>rfl) (fun a h=>by cases h) husc hus1).mono ?_
  rintro e w' ⟨rfl,rfl⟩
  have hG:=grownCap_ge c.w 1 0 161
  have hG2:=grownCap_le_maxLen c.w 1 0 161 (by unfold maxLen;omega)
  generalize grownCap c.w (0+1) 0 161 = G at hG hG2 ⊢
  refine ins_go hc hH rfl (Nat.le_refl 0) (bN:=c.w.heap.size) (kN:=G) (vs0:=#[]) (vs1:=([]++us).toArray++Builtin.zeroCells zBind.cells (G - 1)) (us:=us) (cs:=[]) (.inr (Nat.le_refl _)) (by omega) ?_ ?_ hG (by unfold maxLen at hG2;omega) (fun l el hl=>by simp at hl) (fun j hj=>by omega) hnewf (fun j hj=>?_) (fun b1 h1 h2=>?_) ?_ rfl rfl rfl
  ·show (c.w.heap.push _)[c.w.heap.size]? = _
   rw [Array.getElem?_push_size];rfl
  ·have hzc:zBind.cells.size = 4:=rfl
   simp only [Array.size_append,zeroCells_size,hzc,List.size_toArray,List.nil_append,hus4];omega
  ·rw [if_neg (by omega),if_pos (by omega),Array.getElem?_append_left (by simp;omega)]
   simp
  ·exact heap_push_lt h1
  ·show c.w.heap.size≤(c.w.heap.push _).size
   rw [Array.size_push];omega
 | some bk =>
 obtain ⟨b,k⟩:=bk
 rw [hρ0] at hcur0
 have hcur0:v0 = .slice (some ⟨b,0,none⟩) n k:=hcur0
 subst hcur0
 obtain ⟨vs0,r1,r2,r3,r4,r5,r6⟩:=o2 b k hρ0
 rw [hn] at r3
 have hblt:b < c.w.heap.size:=(Array.getElem?_eq_some_iff.1 r1).1
 have hvb:b' ≠ b:=fun e=>by
  have:=hc.inj 0 1 b k c' (by rw [hH];simp) (by rw [hH];simp) hρ0 (e ▸ hρ1)
  omega
 generalize hcs:vs0.toList.take (n * 4) = cs
 have hcsl:cs.length = n * 4:=by rw [← hcs,List.length_take,Array.length_toList,r2];omega
 have hcsg:∀ j,j < n * 4→cs[j]? = vs0[j]?:=fun j hj=>by rw [← hcs,List.getElem?_take,if_pos hj];simp
 have hcell:∀ j,c.w.cell? ⟨b,j,none⟩ = vs0[j]?:=fun j=>by simp only [World.cell?,r1];rfl
 have hfz:∀ j,c.w.frozen? ⟨b,j,none⟩ = false:=fun j=>by simp [World.frozen?,r1]
 have hcsc:∀ j v,cs[j]? = some v→c.w.cell? ⟨b,j,none⟩ = some v:=fun j v hj=>by
  have hjl:j < n * 4:=by rw [← hcsl];exact (List.getElem?_eq_some_iff.1 hj).1
  rw [hcell,← hcsg j hjl];exact hj
 have hcs1:∀ v∈cs,v.oneCell' = true:=fun v hv=>by
  obtain ⟨j,hj,e⟩:=List.getElem_of_mem hv
  have hjl:j < n * 4:=by rw [← hcsl];exact hj
  have hl:j / 4 < els.length:=by omega
  obtain ⟨t1,t2⟩:=r6 (j / 4) els[j / 4] (List.getElem?_eq_getElem hl)
  obtain ⟨u,u1,u2,_⟩:=t2 (j % 4) (els[j / 4][j % 4]'(by omega)) (List.getElem?_eq_getElem (by omega))
  rw [show j / 4 * 4+j % 4 = j by omega,← hcsg j hjl,List.getElem?_eq_getElem hj,e] at u1
  cases u1
  rw [oneC_eq];exact u2
 have hsp:k ≥ n+1→∀ j,j < (n+1) * 4→(c.w.cell? ⟨b,j,none⟩).isSome = true:=fun hk j hj=>by
  rw [hcell,Array.getElem?_eq_getElem (by omega)];rfl
 by_cases hin:i = n
 ·subst hin
  by_cases hk:i+1≤k
  ·refine (Tryz.ins_end_room b i k b' c' us c.w hk (by omega) hus4 (fun j hj=>hsp hk _ (by omega)) (fun j _=>hfz _) husc hus1).mono ?_
   rintro e w' ⟨rfl,rfl⟩
   obtain ⟨g1,g2,g3,g4,g5,g6⟩:=heap_setCells b us (i * 4) c.w
   obtain ⟨vs1,g7,g8⟩:=g3 _ _ _ r1
   have hw:∀ j,vs1[j]? = (c.w.setCells b (i * 4) us).cell? ⟨b,j,none⟩:=fun j=>by simp only [World.cell?,g7];rfl
   refine ins_go hc hH hn hi (bN:=b) (kN:=k) (vs0:=vs0) (vs1:=vs1) (us:=us) (cs:=cs) (.inl ⟨k,hρ0⟩) (by omega) g7 (by rw [g8,r2]) hk r4 r6 hcsg hnewf (fun j hj=>?_) (fun b1 _ h2=>g2 b1 h2) (by rw [g1];exact Nat.le_refl _) g4 g5 g6
   rw [hw]
   by_cases e1:j < i * 4
   ·rw [if_pos e1,World.cell?_setCells_out b _ _ _ _ (fun _ _=>.inl e1),hcell,hcsg j e1]
   ·rw [if_neg e1,if_pos (by omega)]
    have:=World.cell?_setCells_in b us (i * 4) c.w (fun t ht=>hsp hk _ (by omega)) (j - i * 4) (by omega)
    rw [show i * 4+(j - i * 4) = j by omega] at this
    rw [this,List.getElem?_eq_getElem]
  ·refine (Tryz.ins_end_grow (some ⟨b,0,none⟩) i k b' c' cs us c.w r3 (by omega) (by omega) hcsl hus4 (fun h=>by cases h) (fun a h j v hj=>by cases h;rw [Addr.add_lit,Nat.zero_add];exact hcsc j v hj) husc hus1).mono ?_
   rintro e w' ⟨rfl,rfl⟩
   have hG:=grownCap_ge c.w (i+1) k 161
   have hG2:=grownCap_le_maxLen c.w (i+1) k 161 (by unfold maxLen;omega)
   generalize grownCap c.w (i+1) k 161 = G at hG hG2 ⊢
   refine ins_go hc hH hn hi (bN:=c.w.heap.size) (kN:=G) (vs0:=vs0) (vs1:=(cs++us).toArray++Builtin.zeroCells zBind.cells (G - (i+1))) (us:=us) (cs:=cs) (.inr (Nat.le_refl _)) (by omega) ?_ ?_ hG (by unfold maxLen at hG2;omega) r6 hcsg hnewf (fun j hj=>?_) (fun b1 h1 h2=>?_) ?_ rfl rfl rfl
   ·show (c.w.heap.push _)[c.w.heap.size]? = _
    rw [Array.getElem?_push_size];rfl
   ·have hzc:zBind.cells.size = 4:=rfl
    simp only [Array.size_append,zeroCells_size,hzc,List.size_toArray,List.length_append,hus4,hcsl];omega
   ·rw [Array.getElem?_append_left (by simp [hcsl,hus4];omega),List.getElem?_toArray,List.getElem?_append,hcsl]
    by_cases e1:j < i * 4
    ·rw [if_pos e1,if_pos e1]
    ·rw [if_neg e1,if_neg e1,if_pos (by omega)]
   ·exact heap_push_lt h1
   ·show c.w.heap.size≤(c.w.heap.push _).size
    rw [Array.size_push];omega
 ·have hin':i < n:=by omega
  by_cases hk:n+1≤k
  ·refine (Tryz.ins_shift b n k i b' c' cs us c.w hin' hk (by omega) hvb hcsl hus4 hcsc (hsp hk) (fun j _=>hfz _) husc hcs1 hus1 t_Bind t_Bind va.size vs0.size (by simp [World.shape?,va1]) (by simp [World.shape?,r1]) (by omega) (by simp [World.frozen?,va1]) (by simp [World.frozen?,va1])).mono ?_
   rintro e w' ⟨rfl,rfl⟩
   have hdl:(cs.drop (i * 4)).length = (n - i) * 4:=by rw [List.length_drop,hcsl];omega
   have hsp':∀ j,j < (n+1) * 4→(c.w.drew.cell? ⟨b,j,none⟩).isSome = true:=hsp hk
   obtain ⟨g1,g2,g3,g4,g5,g6⟩:=heap_setCells b (cs.drop (i * 4)) ((i+1) * 4) c.w.drew
   obtain ⟨vsA,g7,g8⟩:=g3 _ _ _ r1
   generalize hW1:c.w.drew.setCells b ((i+1) * 4) (cs.drop (i * 4)) = W1 at g1 g2 g3 g4 g5 g6 g7 ⊢
   obtain ⟨f1,f2,f3,f4,f5,f6⟩:=heap_setCells b us (i * 4) W1
   obtain ⟨vs1,f7,f8⟩:=f3 _ _ _ g7
   have hw:∀ j,vs1[j]? = (W1.setCells b (i * 4) us).cell? ⟨b,j,none⟩:=fun j=>by simp only [World.cell?,f7];rfl
   refine ins_go hc hH hn hi (bN:=b) (kN:=k) (vs0:=vs0) (vs1:=vs1) (us:=us) (cs:=cs) (.inl ⟨k,hρ0⟩) (by omega) f7 (by rw [f8,g8,r2]) hk r4 r6 hcsg hnewf (fun j hj=>?_) (fun b1 _ h2=>by rw [f2 b1 h2,g2 b1 h2];rfl) (by rw [f1,g1];exact Nat.le_refl _) (by rw [f4,g4];rfl) (by rw [f5,g5];rfl) (by rw [f6,g6];rfl)
   rw [hw]
   have hsp1:∀ j,j < (n+1) * 4→(W1.cell? ⟨b,j,none⟩).isSome = true:=fun j hj=>by
    rw [← hW1]
    exact isSome_setCells b _ _ c.w.drew (fun t ht=>hsp' ((i+1) * 4+t) (by rw [hdl] at ht;omega)) _ (hsp' j hj)
   by_cases e1:j < i * 4
   ·rw [if_pos e1,World.cell?_setCells_out b _ _ _ _ (fun _ _=>.inl e1),← hW1,World.cell?_setCells_out b _ _ _ _ (fun _ _=>.inl (by show j < (i+1) * 4;omega))]
    show c.w.cell? ⟨b,j,none⟩ = _
    rw [hcell,hcsg j (by omega)]
   ·rw [if_neg e1]
    by_cases e2:j < i * 4+4
    ·rw [if_pos e2]
     have:=World.cell?_setCells_in b us (i * 4) W1 (fun t ht=>hsp1 _ (by omega)) (j - i * 4) (by omega)
     rw [show i * 4+(j - i * 4) = j by omega] at this
     rw [this,List.getElem?_eq_getElem]
    ·rw [if_neg e2,World.cell?_setCells_out b _ _ _ _ (fun _ _=>.inr (by show i * 4+us.length≤j;omega)),← hW1]
     have:=World.cell?_setCells_in b (cs.drop (i * 4)) ((i+1) * 4) c.w.drew (fun t ht=>hsp' _ (by omega)) (j - (i+1) * 4) (by omega)
     rw [show (i+1) * 4+(j - (i+1) * 4) = j by omega] at this
     rw [this,← List.getElem?_eq_getElem,List.getElem?_drop,show i * 4+(j - (i+1) * 4) = j - 4 by omega]
  ·refine (Tryz.ins_grow b n k i b' c' cs us c.w hin' r3 (by omega) (by omega) hcsl hus4 hcsc husc hcs1 hus1).mono ?_
   rintro e w' ⟨rfl,rfl⟩
   have hG:=grownCap_ge c.w (n+1) k 161
   have hG2:=grownCap_le_maxLen c.w (n+1) k 161 (by unfold maxLen;omega)
   generalize grownCap c.w (n+1) k 161 = G at hG hG2 ⊢
   have hdl:(cs.drop (i * 4)).length = (n - i) * 4:=by rw [List.length_drop,hcsl];omega
   have hzc:zBind.cells.size = 4:=rfl
   generalize hR:(cs.take (i * 4)).toArray++Builtin.zeroCells zBind.cells (n+1 - i)++Builtin.zeroCells zBind.cells (G - (n+1)) = ROW
   have hRs:ROW.size = G * 4:=by
    rw [← hR]
    simp only [Array.size_append,zeroCells_size,hzc,List.size_toArray,List.length_take,hcsl];omega
   have hRg:∀ j,j < i * 4→ROW[j]? = cs[j]?:=fun j hj=>by
    rw [← hR,Array.getElem?_append_left (by simp [zeroCells_size,hzc,hcsl];omega),Array.getElem?_append_left (by simp [hcsl];omega),List.getElem?_toArray,List.getElem?_take,if_pos hj]
   generalize hN:c.w.heap.size = N
   have hNb:∀ j,(c.w.alloc (.cells ROW 161)).cell? ⟨N,j,none⟩ = ROW[j]?:=fun j=>World.cell?_alloc_at (w:=c.w) ROW _ N j hN.symm
   generalize hW0:(c.w.alloc (.cells ROW 161)).drew = W0
   have hW0c:∀ j,W0.cell? ⟨N,j,none⟩ = ROW[j]?:=fun j=>by rw [← hW0];exact hNb j
   have hW0h:W0.heap = c.w.heap.push (.cells ROW 161):=by rw [← hW0];rfl
   obtain ⟨g1,g2,g3,g4,g5,g6⟩:=heap_setCells N us (i * 4) W0
   obtain ⟨vsA,g7,g8⟩:=g3 ROW t_Bind (0,0) (by rw [hW0h,← hN,Array.getElem?_push_size];rfl)
   have hsA:∀ j,j < (n+1) * 4→((W0.setCells N (i * 4) us).cell? ⟨N,j,none⟩).isSome = true:=fun j hj =>
    isSome_setCells N us _ W0 (fun t ht=>by rw [hW0c,Array.getElem?_eq_getElem (by omega)];rfl) _ (by rw [hW0c,Array.getElem?_eq_getElem (by omega)];rfl)
   generalize hW1:W0.setCells N (i * 4) us = W1 at g1 g2 g3 g4 g5 g6 g7 hsA ⊢
   obtain ⟨f1,f2,f3,f4,f5,f6⟩:=heap_setCells N (cs.drop (i * 4)) ((i+1) * 4) W1.drew
   obtain ⟨vs1,f7,f8⟩:=f3 _ _ _ g7
   have hw:∀ j,vs1[j]? = (W1.drew.setCells N ((i+1) * 4) (cs.drop (i * 4))).cell? ⟨N,j,none⟩:=fun j=>by simp only [World.cell?,f7];rfl
   have hold:∀ b1,b1 < c.w.heap.size→b1 ≠ N→W0.heap[b1]? = c.w.heap[b1]?:=fun b1 h _=>by rw [hW0h];exact heap_push_lt h
   refine ins_go hc hH hn hi (bN:=N) (kN:=G) (vs0:=vs0) (vs1:=vs1) (us:=us) (cs:=cs) (.inr (by omega)) (by omega) f7 (by rw [f8,g8,hRs]) hG (by unfold maxLen at hG2;omega) r6 hcsg hnewf (fun j hj=>?_) (fun b1 h1 h2=>?_) ?_ ?_ ?_ ?_
   ·rw [hw]
    by_cases e1:j < i * 4
    ·rw [if_pos e1,World.cell?_setCells_out N _ _ _ _ (fun _ _=>.inl (by show j < (i+1) * 4;omega))]
     show W1.cell? ⟨N,j,none⟩ = _
     rw [← hW1,World.cell?_setCells_out N _ _ _ _ (fun _ _=>.inl e1),hW0c,hRg j e1]
    ·rw [if_neg e1]
     by_cases e2:j < i * 4+4
     ·rw [if_pos e2,World.cell?_setCells_out N _ _ _ _ (fun _ _=>.inl (by show j < (i+1) * 4;omega))]
      show W1.cell? ⟨N,j,none⟩ = _
      rw [← hW1]
      have:=World.cell?_setCells_in N us (i * 4) W0 (fun t ht=>by rw [hW0c,Array.getElem?_eq_getElem (by omega)];rfl) (j - i * 4) (by omega)
      rw [show i * 4+(j - i * 4) = j by omega] at this
      rw [this,List.getElem?_eq_getElem]
     ·rw [if_neg e2]
      have:=World.cell?_setCells_in N (cs.drop (i * 4)) ((i+1) * 4) W1.drew (fun t ht=>hsA _ (by omega)) (j - (i+1) * 4) (by omega)
      rw [show (i+1) * 4+(j - (i+1) * 4) = j by omega] at this
      rw [this,← List.getElem?_eq_getElem,List.getElem?_drop,show i * 4+(j - (i+1) * 4) = j - 4 by omega]
   ·rw [f2 b1 h2]
    show W1.heap[b1]? = _
    rw [g2 b1 h2,hold b1 h1 h2]
   ·rw [f1]
    show c.w.heap.size≤W1.heap.size
    rw [g1,hW0h,Array.size_push];omega
   ·rw [f4]
    show W1.os = _
    rw [g4,← hW0];rfl
   ·rw [f5]
    show W1.tape = _
    rw [g5,← hW0];rfl
   ·rw [f6]
    show W1.output = _
    rw [g6,← hW0];rfl
end Go.Dw
end
section
namespace Go.Dw
theorem rens_cBs {σ:Nat→Option Nat} {s:List ABind}:(s.map cB).map (rens σ) = s.map cB:=by rw [List.map_map];rfl
attribute [push_cast] rens_cBs
theorem row_get {s:List ABind} {k:Nat} (h:k < s.length):(s.map cB)[k]? = some (cB (s.getD k default)):=by
 rw [List.getElem?_map];simp [List.getD_eq_getElem?_getD,h]
abbrev rowB (s:List ABind):Ob:=.row t_Bind 4 (s.map cB)
theorem BinarySearch_row {g:Nat} (hg:∀ b v,PF g [encB b,.str v] (.int .i64 (cmpS b.name v))) (s:List ABind) (v:Str) (hs:Sorted s) (hl:s.length < 2^61) :
  Spec prog n_slices_BinarySearchFunc_s_Bind_Bind_string [.rw 0 4 s.length,.str v,.fn (.func g) [] []] [rowB s] fun x H'=>x = .tup [.int .i64 (lbd v s),.bool (bound s v)]∧H' = [rowB s]:=by
 refine spec_of_run mixed slices_BinarySearchFunc_s_Bind_Bind_string.ok rfl ?_
 have hle:=lbd_le v s
 push_cast
 have key:∀ (m i j:Nat),j - i≤m→i≤lbd v s→lbd v s≤j→j≤s.length→slices_BinarySearchFunc_s_Bind_Bind_string.L3 (.rw 0 4 s.length) (.str v) (.fn (.func g) [] []) (.int .i64 s.length) (.int .i64 i) (.int .i64 j) 1 [rowB s]
   (Ends 1 slices_BinarySearchFunc_s_Bind_Bind_string.rs fun x' H'=>x' = .tup [.int .i64 (lbd v s),.bool (bound s v)]∧H' = [rowB s]):=by
  intro m
  induction m with
  | zero =>
   intro i j hm h1 h2 h3
   have hij:i = lbd v s:=by omega
   refine slices_BinarySearchFunc_s_Bind_Bind_string.G3 ?_
   push_cast [inlt (show j≤i by omega)]
   unfold bound
   rw [image_lbd hs]
   by_cases hi:i < s.length
   ·push_cast [ilt hi,row_get hi,List.length_map]
    refine .of (hg _ _) ?_
    push_cast
    refine ends_all (.inl rfl) rfl ⟨?_,rfl⟩
    push_cast [cmpS_zero,hij]
    rw [hij] at hi
    by_cases hn:(s.getD (lbd v s) default).name = v
    ·rw [if_pos ⟨hi,hn⟩];simp only [hn];rfl
    ·rw [if_neg (fun h=>hn h.2)];simp only [hn];rfl
   ·push_cast [inlt (show s.length≤i by omega)]
    refine ends_all (.inl rfl) rfl ⟨?_,rfl⟩
    push_cast [hij]
    rw [if_neg (fun h=>hi (by omega))]
    rfl
  | succ m ih =>
   intro i j hm h1 h2 h3
   by_cases hij:i < j
   ·refine slices_BinarySearchFunc_s_Bind_Bind_string.G3 ?_
    have hh:=half (i:=i) (j:=j) (by omega) (by omega)
    generalize hq:(i+j) / 2 = h at hh
    have hk:h < s.length:=by omega
    push_cast [ilt hij]
    simp only [hh]
    push_cast [ilt hk,row_get hk,List.length_map]
    refine .of (hg _ _) ?_
    push_cast [w64 (show h < 2^62 by omega),cmpS_neg]
    refine ⟨fun hc=>ih (h+1) j (by omega) ?_ h2 h3,fun hc=>ih i h (by omega) h1 ?_ (by omega)⟩
    ·rcases Nat.lt_or_ge h (lbd v s) with h4 | h4
     ·omega
     ·exact absurd hc (lbd_ge hs h4 hk)
    ·rcases Nat.lt_or_ge h (lbd v s) with h4 | h4
     ·exact absurd (lbd_lt h4) hc
     ·exact h4
   ·exact ih i j (by omega) h1 h2 h3
 exact key s.length 0 s.length (by omega) (by omega) hle (Nat.le_refl _)
theorem term_Image_row (s:List ABind) (v:Str) (hs:Sorted s) (hl:s.length < 2^61):Spec prog n_term_Image [.rw 0 4 s.length,.str v] [rowB s] fun x H'=>x = encOT (image s v)∧H' = [rowB s]:=by
 have hB:=BinarySearch_row term_Image_1_s s v hs hl
 have hi:=image_lbd (v:=v) hs
 refine spec_of_run mixed term_Image.ok rfl ?_
 push_cast
 have hsh:Shut 1 [rowB s]:=⟨rfl,by show [renOb (clip 1) (rowB s)] = _;rw [renOb_row,rens_cBs]⟩
 refine CallG.some [0] (by simp) (by simp) (R:=fun x H'=>x = .tup [.int .i64 (lbd v s),.bool (bound s v)]∧H' = [rowB s]) (by
  have:give [0] [rowB s,.cells t_Term [.str [],.bool false,.sl 3 []]] = [rowB s]:=by
   show [renOb (pos? [0]) (rowB s)] = _
   rw [renOb_row,rens_cBs]
  rw [this];exact hB) ?_
 rintro x H' ⟨rfl,rfl⟩ _
 have ht:takeB [0] [rowB s,.cells t_Term [.str [],.bool false,.sl 3 []]] [rowB s] = [rowB s,.cells t_Term [.str [],.bool false,.sl 3 []]]:=by
  show [renOb (back [0] 2) (rowB s),.cells t_Term [.str [],.bool false,.sl 3 []]] = _
  rw [renOb_row,rens_cBs]
 rw [ht]
 unfold bound
 by_cases hc:lbd v s < s.length∧(s.getD (lbd v s) default).name = v
 ·rw [if_pos hc] at hi
  push_cast [hi,Option.isSome_some,ilt hc.1,row_get hc.1,List.length_map]
  exact ends_keep (H:=[rowB s]) (J:=[_]) hsh rfl ⟨rfl,rfl⟩
 ·rw [if_neg hc] at hi
  push_cast [hi,Option.isSome_none]
  exact ends_keep (H:=[rowB s]) (J:=[_]) hsh rfl ⟨rfl,rfl⟩
end Go.Dw
end
section
namespace Go.Dw
def bindT (s:List ABind) (v:Str) (t:Term):List ABind:=s.take (lbd v s)++⟨v,t⟩ :: s.drop (lbd v s)
theorem bindT_len (s:List ABind) (v:Str) (t:Term):(bindT s v t).length = s.length+1:=by
 have:=lbd_le v s
 unfold bindT;simp;omega
theorem shut_row (s:List ABind):Shut 1 [rowB s]:=⟨rfl,by show [renOb (clip 1) (rowB s)] = _;rw [renOb_row,rens_cBs]⟩
theorem unify_bind_row (s:List ABind) (v:Str) (t:Term) (hs:Sorted s) (hl:s.length < 2^40):Spec prog n_unify_bind [.rw 0 4 s.length,.str v,encT t] [rowB s] fun x H'=>x = .rw 0 4 (s.length+1)∧H' = [rowB (bindT s v t)]:=by
 have hB:=BinarySearch_row unify_bind_1_s s v hs (by omega)
 have hle:=lbd_le v s
 have hI:=insert_row (s.map cB) (cB ⟨v,t⟩) (lbd v s) s.length (by simp) hle (by unfold maxEls;omega)
 have hbt:(s.map cB).take (lbd v s)++cB ⟨v,t⟩ :: (s.map cB).drop (lbd v s) = (bindT s v t).map cB:=by unfold bindT;simp
 rw [hbt] at hI
 refine spec_of_run mixed unify_bind.ok rfl ?_
 push_cast
 refine CallG.all (specF_func ▸ hB) ?_
 rintro x H' ⟨rfl,rfl⟩
 push_cast
 refine CallG.all (specF_func ▸ hI) ?_
 rintro x H' ⟨rfl,rfl⟩
 push_cast
 exact ends_keep (H:=[rowB (bindT s v t)]) (J:=[_]) (shut_row _) rfl ⟨rfl,rfl⟩
end Go.Dw
end
section
namespace Go.Dw
theorem bindT_sorted {s:List ABind} {v:Str} {t:Term} (hs:Sorted s) (hn:image s v = none):Sorted (bindT s v t):=by
 have hle:=lbd_le v s
 have h1:∀ b∈s.take (lbd v s),b.name < v:=fun b hb=>by
  obtain ⟨j,hj,rfl⟩:=List.getElem_of_mem hb
  have hjl:j < lbd v s:=by rw [List.length_take] at hj;omega
  have:=lbd_lt hjl
  simpa [List.getD_eq_getElem?_getD,show j < s.length by omega] using this
 have h2:∀ b∈s.drop (lbd v s),v < b.name:=fun b hb=>by
  obtain ⟨j,hj,rfl⟩:=List.getElem_of_mem hb
  have hjl:lbd v s+j < s.length:=by rw [List.length_drop] at hj;omega
  have h3:=lbd_ge hs (Nat.le_add_right (lbd v s) j) hjl
  have he:(s.drop (lbd v s))[j] = s.getD (lbd v s+j) default:=by simp [List.getD_eq_getElem?_getD,hjl]
  rw [he]
  have hne:(s.getD (lbd v s+j) default).name ≠ v:=fun e=>by
   have hi:=image_lbd (v:=v) hs
   rw [hn] at hi
   split at hi
   ·cases hi
   ·rename_i hc
    refine hc ⟨by omega,?_⟩
    rcases Nat.eq_zero_or_pos j with h0 | h0
    ·subst h0;exact e
    ·have h5:(s.getD (lbd v s) default).name < (s.getD (lbd v s+j) default).name:=by
      have:=List.pairwise_iff_getElem.1 hs (lbd v s) (lbd v s+j) (by omega) hjl (by omega)
      simpa [List.getD_eq_getElem?_getD,hjl,show lbd v s < s.length by omega] using this
     rw [e] at h5
     exact absurd h5 (lbd_ge hs (Nat.le_refl _) (by omega))
  rcases Classical.em (v < (s.getD (lbd v s+j) default).name) with h | h
  ·exact h
  ·exact absurd (slt_eq h3 h) hne
 unfold bindT
 refine List.pairwise_append.2 ⟨List.Pairwise.sublist (List.take_sublist _ _) hs,List.pairwise_cons.2 ⟨h2,List.Pairwise.sublist (List.drop_sublist _ _) hs⟩,fun a ha b hb=>?_⟩
 rcases List.mem_cons.1 hb with rfl | hb
 ·exact h1 a ha
 ·exact slt_trans (h1 a ha) (h2 b hb)
theorem bindT_mem {s:List ABind} {v:Str} {t:Term} {b:ABind} (h:b∈bindT s v t):b∈s ∨ b = ⟨v,t⟩:=by
 unfold bindT at h
 rcases List.mem_append.1 h with h | h
 ·exact .inl (List.mem_of_mem_take h)
 ·rcases List.mem_cons.1 h with h | h
  ·exact .inr h
  ·exact .inl (List.mem_of_mem_drop h)
end Go.Dw
end
section
namespace Go.Dw
mutual
def matchT (s:List ABind):Term→Term→List ABind × Bool
 | .mk n v l,t=>if v then (match image s n with | some x=>(s,decide (x = t)) | none=>(bindT s n t,true)) else
  if t.var ∨ n ≠ t.name ∨ l.length ≠ t.args.length then (s,false) else matchTs s l t.args
def matchTs (s:List ABind):List Term→List Term→List ABind × Bool
 | [],_=>(s,true)
 | _ :: _,[]=>(s,false)
 | a :: l,b :: m=>if (matchT s a b).2 then matchTs (matchT s a b).1 l m else ((matchT s a b).1,false)
end
theorem matchT_eq (s:List ABind) (p t:Term):matchT s p t = if p.var then (match image s p.name with | some x=>(s,decide (x = t)) | none=>(bindT s p.name t,true)) else
  if t.var ∨ p.name ≠ t.name ∨ p.args.length ≠ t.args.length then (s,false) else matchTs s p.args t.args:=by
 cases p with | mk n v l=>simp only [matchT,Term.var,Term.name,Term.args];rfl
structure MOk (M:Nat) (s:List ABind) (n:Nat) (s':List ABind):Prop where
 sorted:Sorted s'
 small:∀ b∈s',size b.term < M
 len:s'.length≤s.length+n
theorem matchT_ok {M:Nat} (p:Term):∀ (s:List ABind) (t:Term),Sorted s→(∀ b∈s,size b.term < M)→size t < M→MOk M s (size p) (matchT s p t).1:=by
 induction p using term_ind with
 | h p ih =>
 intro s t hs hb ht
 have hst:=size_args t
 have hsp:=size_args p
 rw [matchT_eq]
 cases hv:p.var with
 | true =>
  rw [if_pos rfl]
  cases hx:image s p.name with
  | some x=>exact ⟨hs,hb,Nat.le_add_right _ _⟩
  | none =>
   refine ⟨bindT_sorted hs hx,fun b h=>?_,by rw [bindT_len];omega⟩
   rcases bindT_mem h with h | rfl
   ·exact hb b h
   ·exact ht
 | false =>
  rw [if_neg (by simp)]
  by_cases hc:t.var ∨ p.name ≠ t.name ∨ p.args.length ≠ t.args.length
  ·rw [if_pos hc];exact ⟨hs,hb,Nat.le_add_right _ _⟩
  ·rw [if_neg hc]
   have key:∀ (l m:List Term) (s:List ABind),(∀ a∈l,a∈p.args)→(∀ a∈m,size a < M)→Sorted s→(∀ b∈s,size b.term < M)→MOk M s (sizes l) (matchTs s l m).1:=by
    intro l
    induction l with
    | nil=>intro m s _ _ h1 h2;exact ⟨h1,h2,Nat.le_add_right _ _⟩
    | cons a l ihl =>
     intro m s hl hm h1 h2
     cases m with
     | nil=>exact ⟨h1,h2,Nat.le_add_right _ _⟩
     | cons b m =>
      have h3:=ih a (hl a (by simp)) s b h1 h2 (hm b (by simp))
      simp only [matchTs]
      split
      ·have h4:=ihl m _ (fun x hx=>hl x (by simp [hx])) (fun x hx=>hm x (by simp [hx])) h3.sorted h3.small
       exact ⟨h4.sorted,h4.small,by have:=h4.len;have:=h3.len;simp only [sizes];omega⟩
      ·exact ⟨h3.sorted,h3.small,by have:=h3.len;simp only [sizes];omega⟩
   have h5:=key p.args t.args s (fun _ h=>h) (fun a ha=>by have:=size_mem ha;omega) hs hb
   exact ⟨h5.sorted,h5.small,by have:=h5.len;omega⟩
abbrev mH (s:List ABind):List Ob:=[.cells t_unify_matcher [.rw 1 4 s.length],rowB s]
theorem shut_m (s:List ABind):Shut 2 (mH s):=⟨rfl,by show [renOb (clip 2) _,renOb (clip 2) (rowB s)] = _;rw [renOb_row,rens_cBs];rfl⟩
theorem back_one (s:List ABind) (n k:Nat):renOb (back [k] n) (rowB s) = rowB s:=by rw [renOb_row,rens_cBs]
theorem give_1 (a:Ob) (s:List ABind) (J:List Ob):give [1] (a :: rowB s :: J) = [rowB s]:=by
 show [renOb (pos? [1]) (rowB s)] = _
 rw [renOb_row,rens_cBs]
theorem take_1 (a:Ob) (s s':List ABind):takeB [1] [a,rowB s] [rowB s'] = [a,rowB s']:=by
 show [a,renOb (back [1] 2) (rowB s')] = _
 rw [back_one]
theorem take_1' (a b:Ob) (s s':List ABind):takeB [1] [a,rowB s,b] [rowB s'] = [a,rowB s',b]:=by
 show [a,renOb (back [1] 3) (rowB s'),b] = _
 rw [back_one]
section
variable {N:Nat→C} {B:Nat} {k:List K} {t:T} {Q:X→T→List Ob→Prop} {a b:Ob} {s s':List ABind} {d:Option Nat} {l:List S} {f:Nat} {vs vs':List V} {x:V}
theorem callG_r2 (hv:rens (pos? [1]) vs = vs') (h:Spec prog f vs' [rowB s] fun x' H'=>x' = x∧H' = [rowB s']) (k':Run prog N B (.r l :: k) (setO d (ren (back [1] 2) x) t) [a,rowB s'] Q):CallG prog N B d l k t Q (.func f) vs [a,rowB s]:=by
 refine CallG.some [1] (by simp) (by simp) (R:=fun x' H'=>x' = x∧H' = [rowB s']) (by rw [give_1,hv];exact h) ?_
 rintro x' H' ⟨rfl,rfl⟩ _
 rw [take_1];exact k'
theorem callG_r3 (hv:rens (pos? [1]) vs = vs') (h:Spec prog f vs' [rowB s] fun x' H'=>x' = x∧H' = [rowB s']) (k':Run prog N B (.r l :: k) (setO d (ren (back [1] 3) x) t) [a,rowB s',b] Q):CallG prog N B d l k t Q (.func f) vs [a,rowB s,b]:=by
 refine CallG.some [1] (by simp) (by simp) (R:=fun x' H'=>x' = x∧H' = [rowB s']) (by rw [give_1,hv];exact h) ?_
 rintro x' H' ⟨rfl,rfl⟩ _
 rw [take_1'];exact k'
end
theorem unify_match_s (p:Term):∀ (s:List ABind) (t:Term),Sorted s→(∀ b∈s,size b.term < 2^62)→size t < 2^62→s.length+size p < 2^39→Spec prog n_unify_matcher_match [.ptr 0 0,encT p,encT t] (mH s) fun x H'=>x = .bool (matchT s p t).2∧H' = mH (matchT s p t).1:=by
 induction p using term_ind with
 | h p ih =>
 intro s t hs hb ht hl
 refine spec_of_run mixed unify_matcher_match.ok rfl ?_
 rw [matchT_eq]
 cases hv:p.var with
 | true =>
  have hI:=term_Image_row s p.name hs (by omega)
  push_cast [hv]
  cases hx:image s p.name with
  | some x =>
   rw [hx] at hI
   refine ⟨callG_r2 (vs':=[.rw 0 4 s.length,.str p.name]) rfl hI ?_,callG_r3 (vs':=[.rw 0 4 s.length,.str p.name]) rfl hI ?_⟩ <;>
   ·push_cast [encOT]
    refine .of (term_Equal_s x t (by obtain ⟨b,hb1,_,rfl⟩:=image_mem hx;exact hb b hb1)) ?_
    push_cast
    exact ends_keep (H:=mH s) (J:=[_]) (shut_m s) rfl ⟨rfl,rfl⟩
  | none =>
   rw [hx] at hI
   refine ⟨callG_r2 (vs':=[.rw 0 4 s.length,.str p.name]) rfl hI ?_,callG_r3 (vs':=[.rw 0 4 s.length,.str p.name]) rfl hI ?_⟩ <;>
   ·push_cast [encOT]
    refine callG_r3 (vs':=[.rw 0 4 s.length,.str p.name,encT t]) rfl (unify_bind_row s p.name t hs (by omega)) ?_
    have h0:back [1] 3 0 = some 1:=rfl
    push_cast [h0]
    rw [← bindT_len s p.name t]
    exact ends_keep (H:=mH (bindT s p.name t)) (J:=[_]) (shut_m _) rfl ⟨rfl,rfl⟩
 | false =>
  cases ht:t.var with
  | true =>
   push_cast [hv,ht]
   rw [if_pos (.inl trivial)]
   exact ends_all (.inl rfl) rfl ⟨rfl,rfl⟩
  | false =>
   by_cases hn:p.name = t.name
   ·by_cases hlen:p.args.length = t.args.length
    ·have hlen':((p.args.length:Int) = (t.args.length:Int)) = True:=eq_true (by omega)
     push_cast [hv,ht,hn,hlen']
     rw [if_neg (by simp [hlen])]
     have hsp:=size_args p
     have hst:=size_args t
     refine loop_up (n:=p.args.length) (R:=fun k=>∀ s',matchTs s p.args t.args = matchTs s' (p.args.drop k) (t.args.drop k)→Sorted s'→(∀ b∈s',size b.term < 2^62)→s'.length+sizes (p.args.drop k)≤s.length+sizes p.args →
      unify_matcher_match.L3 (.ptr 0 0) (.ro (cT p) 0) (.ro (cT t) 0) (.int .i64 p.args.length) (.int .i64 k) 2 (mH s') (Ends 2 unify_matcher_match.rs fun x H'=>x = .bool (matchTs s p.args t.args).2∧H' = mH (matchTs s p.args t.args).1)) ?_ ?_ 0 (by omega) s rfl hs hb (Nat.le_refl _)
     ·intro k hk ih2 s' he hs' hb' hl'
      have hk2:k < t.args.length:=by omega
      have hm:=getD_mem hk
      have hm2:=getD_mem hk2
      have hsm:=size_mem hm2
      have hlp:=length_le_sizes p.args
      rw [drop_getD hk,drop_getD hk2] at he
      rw [drop_getD hk] at hl'
      simp only [matchTs,sizes] at he hl'
      have hc:=ih _ hm s' (t.args.getD k default) hs' hb' (by omega) (by omega)
      have hok:=matchT_ok (M:=2^62) (p.args.getD k default) s' (t.args.getD k default) hs' hb' (by omega)
      refine unify_matcher_match.G3 ?_
      push_cast [ilt hk,ilt hk2]
      refine CallG.all (specF_func ▸ hc) ?_
      rintro x H' ⟨rfl,rfl⟩
      cases hr:(matchT s' (p.args.getD k default) (t.args.getD k default)).2 with
      | true =>
       rw [hr,if_pos rfl] at he
       have:=ih2 _ he hok.sorted hok.small (by have:=hok.len;omega)
       push_cast [w64 (show k < 2^62 by omega)]
       exact this
      | false =>
       rw [hr,if_neg (by simp)] at he
       push_cast
       rw [he]
       exact ends_all (.inl rfl) rfl ⟨rfl,rfl⟩
     ·intro s' he hs' hb' hl'
      refine unify_matcher_match.G3 ?_
      push_cast [inlt (Nat.le_refl _)]
      rw [drop_map_none] at he
      rw [he]
      exact ends_all (.inl rfl) rfl ⟨rfl,rfl⟩
    ·have hlen':((p.args.length:Int) = (t.args.length:Int)) = False:=eq_false (by omega)
     push_cast [hv,ht,hn,hlen']
     rw [if_pos (.inr (.inr hlen))]
     exact ends_all (.inl rfl) rfl ⟨rfl,rfl⟩
   ·push_cast [hv,ht,hn]
    rw [if_pos (.inr (.inl trivial))]
    exact ends_all (.inl rfl) rfl ⟨rfl,rfl⟩
theorem unify_Find_s (p t:Term) (hp:size p < 2^38) (ht:size t < 2^62):PF n_unify_Find [encT p,encT t] (.tup [encBs (matchT [] p t).1,.bool (matchT [] p t).2]):=by
 have hm:=unify_match_s p [] t List.Pairwise.nil (by simp) ht (by simp;omega)
 refine pf_of unify_Find.ok rfl ?_
 push_cast
 refine CallG.all (specF_func ▸ hm) ?_
 rintro x H' ⟨rfl,rfl⟩
 push_cast
 refine ⟨by simp,pf_ret ?_⟩
 push_cast [unify_Find.rs]
 rfl
end Go.Dw
end
section
namespace Go.Dw
def findE (r:List ARule) (t:Term) (s:AStep):List ABind × Int :=
 if s.rule < 0 ∨ (r.length:Int)≤s.rule then ([],8) else match subT t s.pos with
  | none=>([],8)
  | some x=>if (matchT [] (r.getD s.rule.toNat default).left x).2 then ((matchT [] (r.getD s.rule.toNat default).left x).1,0) else ([],9)
theorem subT_size:∀ (p:List Int) (t x:Term),subT t p = some x→size x≤size t
 | [],t,x,h=>by cases h;exact Nat.le_refl _
 | i :: p,t,x,h=>by
  simp only [subT] at h
  split at h
  ·rename_i hc
   have h1:=subT_size p _ x h
   have h2:=size_mem (getD_mem (l:=t.args) (k:=i.toNat) (by omega))
   have h3:=size_args t
   omega
  ·cases h
theorem rewrite_find_s (r:List ARule) (t:Term) (s:AStep) (hr:∀ x∈r,size x.left < 2^38) (ht:size t < 2^62) (hp:s.pos.length < 2^62):PF n_rewrite_find [encRs r,encT t,encSt s] (.tup [encBs (findE r t s).1,.int .i64 (findE r t s).2]):=by
 have hS:=term_Sub_s t s.pos hp
 refine pf_of rewrite_find.ok rfl ?_
 unfold findE
 by_cases h0:s.rule < 0
 ·push_cast [h0]
  refine pf_ret ?_
  push_cast [rewrite_find.rs]
  rw [if_pos (.inl trivial)];exact ⟨rfl,rfl⟩
 ·by_cases h1:(r.length:Int)≤s.rule
  ·push_cast [h0,h1]
   refine pf_ret ?_
   push_cast [rewrite_find.rs]
   rw [if_pos (.inr trivial)];exact ⟨rfl,rfl⟩
  ·rw [if_neg (fun h=>h.elim h0 h1)]
   push_cast [h0,h1]
   refine .of hS ?_
   cases hx:subT t s.pos with
   | none =>
    push_cast [encOT]
    refine pf_ret ?_
    push_cast [rewrite_find.rs]
    rfl
   | some x =>
    have hxs:=subT_size _ _ _ hx
    have hk:s.rule.toNat < r.length:=by omega
    have hF:=unify_Find_s (r.getD s.rule.toNat default).left x (hr _ (getD_mem hk)) (by omega)
    have hge:(0≤s.rule) = True:=eq_true (by omega)
    have hlt:(s.rule < (r.length:Int)) = True:=eq_true (by omega)
    push_cast [encOT,hge,hlt]
    refine .of hF ?_
    cases hm:(matchT [] (r.getD s.rule.toNat default).left x).2 with
    | true =>
     push_cast [hm]
     refine pf_ret ?_
     push_cast [rewrite_find.rs,hm]
    | false =>
     push_cast [hm]
     refine pf_ret ?_
     push_cast [rewrite_find.rs,hm]
     rfl
end Go.Dw
end
section
namespace Go.Dw
theorem bbs_append (a b:List ABind):bbs (a++b) = bbs a+bbs b:=by
 induction a with
 | nil=>simp [bbs]
 | cons x xs ih=>simp only [List.cons_append,bbs,ih];omega
theorem bindT_bbs (s:List ABind) (v:Str) (t:Term):bbs (bindT s v t) = bbs s+(1+v.length+tb t):=by
 unfold bindT
 have:bbs s = bbs (s.take (lbd v s))+bbs (s.drop (lbd v s)):=by rw [← bbs_append,List.take_append_drop]
 rw [bbs_append,this];simp only [bbs];omega
theorem matchT_bbs (p:Term):∀ (s:List ABind) (t:Term),bbs (matchT s p t).1≤bbs s+tb p+tb t:=by
 induction p using term_ind with
 | h p ih =>
 intro s t
 have h1:=tb_args p
 have h2:=tb_args t
 rw [matchT_eq]
 cases hv:p.var with
 | true =>
  rw [if_pos rfl]
  cases hx:image s p.name with
  | some x=>exact Nat.le_trans (Nat.le_add_right _ _) (Nat.le_add_right _ _)
  | none=>show bbs (bindT s p.name t)≤_;rw [bindT_bbs];omega
 | false =>
  rw [if_neg (by simp)]
  by_cases hc:t.var ∨ p.name ≠ t.name ∨ p.args.length ≠ t.args.length
  ·rw [if_pos hc];exact Nat.le_trans (Nat.le_add_right _ _) (Nat.le_add_right _ _)
  ·rw [if_neg hc]
   have key:∀ (l m:List Term) (s:List ABind),(∀ a∈l,a∈p.args)→bbs (matchTs s l m).1≤bbs s+tbs l+tbs m:=by
    intro l
    induction l with
    | nil=>intro m s _;exact Nat.le_trans (Nat.le_add_right _ _) (Nat.le_add_right _ _)
    | cons a l ihl =>
     intro m s hl
     cases m with
     | nil=>exact Nat.le_trans (Nat.le_add_right _ _) (Nat.le_add_right _ _)
     | cons b m =>
      have h3:=ih a (hl a (by simp)) s b
      have e1:tbs (a :: l) = tb a+tbs l:=rfl
      have e2:tbs (b :: m) = tb b+tbs m:=rfl
      simp only [matchTs]
      split
      ·have h4:=ihl m (matchT s a b).1 (fun x hx=>hl x (by simp [hx]))
       omega
      ·show bbs (matchT s a b).1≤_;omega
   have h5:=key p.args t.args s (fun _ h=>h)
   omega
end Go.Dw
end
section
namespace Go.Dw
def doE (r:List ARule) (t:Term) (s:AStep):Option Term × Int :=
 if (findE r t s).2 ≠ 0 then (none,(findE r t s).2) else
  if fits (inst (findE r t s).1 (r.getD s.rule.toNat default).right) then
   (if fits (setT t s.pos (inst (findE r t s).1 (r.getD s.rule.toNat default).right)) then (some (setT t s.pos (inst (findE r t s).1 (r.getD s.rule.toNat default).right)),0) else (none,3))
  else (none,3)
theorem findE_ok {r:List ARule} {t:Term} {s:AStep} (h:(findE r t s).2 = 0):0≤s.rule∧s.rule.toNat < r.length∧Sorted (findE r t s).1∧∃ x,subT t s.pos = some x∧bbs (findE r t s).1≤tb (r.getD s.rule.toNat default).left+tb x:=by
 unfold findE at h ⊢
 split at h
 ·simp at h
 ·rename_i hc
  rw [if_neg hc]
  cases hx:subT t s.pos with
  | none=>rw [hx] at h;simp at h
  | some x =>
   rw [hx] at h
   simp only at h ⊢
   split at h
   ·rename_i hm
    rw [if_pos hm]
    have h1:=matchT_ok (M:=size x+1) (r.getD s.rule.toNat default).left [] x List.Pairwise.nil (by simp) (by omega)
    have h2:=matchT_bbs (r.getD s.rule.toNat default).left [] x
    refine ⟨by omega,by omega,h1.sorted,x,rfl,?_⟩
    simp only [bbs] at h2
    show bbs (matchT [] (r.getD s.rule.toNat default).left x).1≤_
    omega
   ·simp at h
theorem subT_tb:∀ (p:List Int) (t x:Term),subT t p = some x→tb x≤tb t
 | [],t,x,h=>by cases h;exact Nat.le_refl _
 | i :: p,t,x,h=>by
  simp only [subT] at h
  split at h
  ·rename_i hc
   have h1:=subT_tb p _ x h
   have h2:=tb_mem (getD_mem (l:=t.args) (k:=i.toNat) (by omega))
   have h3:=tb_args t
   omega
  ·cases h
theorem rewrite_Do_s (r:List ARule) (t:Term) (s:AStep) (hr:rbs r < 2^28) (ht:tb t < 2^28) (hp:s.pos.length < 2^40) (hset:∀ x,fits x = true→size (setT t s.pos x) < 2^62):PF n_rewrite_Do [encRs r,encT t,encSt s] (encTE (doE r t s).1 (doE r t s).2):=by
 have hts:=size_le_tb t
 have hF:=rewrite_find_s r t s (fun x hx=>by have:=rbs_mem hx;have:=size_le_tb x.left;omega) (by omega) (by omega)
 refine pf_of rewrite_Do.ok rfl ?_
 push_cast
 refine .of hF ?_
 unfold doE
 by_cases he:(findE r t s).2 = 0
 ·obtain ⟨h0,h1,h2,x,hx,hbb⟩:=findE_ok he
  have hxt:=subT_tb _ _ _ hx
  have hm:=rbs_mem (getD_mem h1)
  rw [if_neg (by simpa using he)]
  have hge:(0≤s.rule) = True:=eq_true h0
  have hlt:(s.rule < (r.length:Int)) = True:=eq_true (by omega)
  push_cast [he,hge,hlt]
  refine .of (term_Instance_s _ h2 (by omega) (r.getD s.rule.toNat default).right (by omega)) ?_
  cases hf:fits (inst (findE r t s).1 (r.getD s.rule.toNat default).right) with
  | false =>
   push_cast [encTE]
   refine pf_ret ?_
   push_cast [rewrite_Do.rs]
   rfl
  | true =>
   have hfs:size (inst (findE r t s).1 (r.getD s.rule.toNat default).right)≤4000:=by
    unfold fits at hf;simp at hf;exact hf.1
   push_cast [encTE]
   refine .of (term_Set_s _ t _ (by omega) (by omega) hp) ?_
   push_cast
   refine .of (term_Fit_s _ (hset _ hf)) ?_
   cases hg:fits (setT t s.pos (inst (findE r t s).1 (r.getD s.rule.toNat default).right)) <;> push_cast [encTE] <;> refine pf_ret ?_ <;> push_cast [rewrite_Do.rs] <;> rfl
 ·rw [if_pos he]
  push_cast [he]
  refine pf_ret ?_
  push_cast [rewrite_Do.rs]
  rfl
end Go.Dw
end
section
namespace Go.Dw
mutual
def short:Term→Bool
 | .mk n v l=>decide (n.length≤24) && ((!v || l.isEmpty) && shorts l)
def shorts:List Term→Bool
 | []=>true
 | a :: l=>short a && shorts l
end
theorem shorts_iff {l:List Term}:shorts l = true ↔ ∀ a∈l,short a = true:=by
 induction l with
 | nil=>simp [shorts]
 | cons a l ih=>simp [shorts,ih]
theorem short_iff {t:Term}:short t = true ↔ t.name.length≤24∧(t.var = true→t.args = [])∧∀ a∈t.args,short a = true:=by
 cases t with | mk n v l=>cases v <;> simp [short,shorts_iff,Term.name,Term.var,Term.args]
theorem formed_short (t:Term):formed t = true→short t = true:=by
 induction t using term_ind with
 | h t ih =>
 intro h
 rw [formed_eq] at h
 rw [short_iff]
 split at h
 ·simp only [Bool.and_eq_true,decide_eq_true_eq,isName] at h
  refine ⟨h.2.1,fun _=>List.length_eq_zero_iff.1 h.1,fun a ha=>?_⟩
  rw [List.length_eq_zero_iff.1 h.1] at ha;cases ha
 ·rename_i hv
  simp only [Bool.and_eq_true,decide_eq_true_eq,isName,List.all_eq_true] at h
  exact ⟨h.2.1.1,fun hv2=>absurd hv2 hv,fun a ha=>ih a ha (h.2.2 a ha)⟩
mutual
theorem tb_short:∀ t,short t = true→tb t≤25 * size t
 | .mk n v l,h=>by
  simp only [short,Bool.and_eq_true,decide_eq_true_eq] at h
  have:=tbs_short l h.2.2
  simp only [tb,size]
  simp only [tbs] at this
  omega
theorem tbs_short:∀ l,shorts l = true→tbs l≤25 * sizes l
 | [],_=>by simp [tbs,tb.tbs,sizes]
 | a :: l,h=>by
  simp only [shorts,Bool.and_eq_true] at h
  have h1:=tb_short a h.1
  have h2:=tbs_short l h.2
  simp only [tbs,tb.tbs,sizes] at h2 ⊢
  omega
end
theorem subT_short:∀ (p:List Int) (t x:Term),subT t p = some x→short t = true→short x = true
 | [],t,x,h,ht=>by cases h;exact ht
 | i :: p,t,x,h,ht=>by
  simp only [subT] at h
  split at h
  ·rename_i hi
   exact subT_short p _ x h ((short_iff.1 ht).2.2 _ (getD_mem (by omega)))
  ·cases h
theorem inst_short {s:List ABind} (hs:∀ b∈s,short b.term = true) (t:Term):short t = true→short (inst s t) = true:=by
 induction t using term_ind with
 | h t ih =>
 intro ht
 rw [inst_eq]
 have h:=short_iff.1 ht
 split
 ·cases hx:image s t.name with
  | none=>exact short_iff.2 ⟨h.1,fun _=>rfl,fun a ha=>by simp [Term.args] at ha⟩
  | some x =>
   obtain ⟨b,hb,_,rfl⟩:=image_mem hx
   exact hs b hb
 ·refine short_iff.2 ⟨h.1,fun hv=>by simp [Term.var] at hv,fun a ha=>?_⟩
  simp only [Term.args,List.mem_map] at ha
  obtain ⟨y,hy,rfl⟩:=ha
  exact ih y hy (h.2.2 y hy)
theorem matchT_short (p:Term):∀ (s:List ABind) (t:Term),(∀ b∈s,short b.term = true)→short t = true→∀ b∈(matchT s p t).1,short b.term = true:=by
 induction p using term_ind with
 | h p ih =>
 intro s t hb ht
 rw [matchT_eq]
 cases hv:p.var with
 | true =>
  rw [if_pos rfl]
  cases hx:image s p.name with
  | some x=>exact hb
  | none =>
   intro b h
   rcases bindT_mem h with h | rfl
   ·exact hb b h
   ·exact ht
 | false =>
  rw [if_neg (by simp)]
  by_cases hc:t.var ∨ p.name ≠ t.name ∨ p.args.length ≠ t.args.length
  ·rw [if_pos hc];exact hb
  ·rw [if_neg hc]
   have key:∀ (l m:List Term) (s:List ABind),(∀ a∈l,a∈p.args)→(∀ a∈m,short a = true)→(∀ b∈s,short b.term = true)→∀ b∈(matchTs s l m).1,short b.term = true:=by
    intro l
    induction l with
    | nil=>intro m s _ _ h2;exact h2
    | cons a l ihl =>
     intro m s hl hm h2
     cases m with
     | nil=>exact h2
     | cons b m =>
      have h3:=ih a (hl a (by simp)) s b h2 (hm b (by simp))
      simp only [matchTs]
      split
      ·exact ihl m _ (fun x hx=>hl x (by simp [hx])) (fun x hx=>hm x (by simp [hx])) h3
      ·exact h3
   exact key p.args t.args s (fun _ h=>h) (short_iff.1 ht).2.2 hb
theorem setT_short:∀ (p:List Int) (t x:Term),short t = true→short x = true→short (setT t p x) = true
 | [],t,x,_,hx=>hx
 | i :: p,t,x,ht,hx=>by
  have h:=short_iff.1 ht
  refine short_iff.2 ⟨h.1,fun hv=>?_,fun a ha=>?_⟩
  ·have h0:t.args = []:=h.2.1 hv
   rw [setT_args,h0,if_neg (by simp)]
  rw [setT_args] at ha
  split at ha
  ·rename_i hi
   rcases List.mem_or_eq_of_mem_set ha with ha | rfl
   ·exact h.2.2 a ha
   ·exact setT_short p _ x (h.2.2 _ (getD_mem (by omega))) hx
  ·exact h.2.2 a ha
theorem sizes_set {l:List Term} {k:Nat} {x:Term} (hk:k < l.length):sizes (l.set k x)+size (l.getD k default) = sizes l+size x:=by
 induction l generalizing k with
 | nil=>simp at hk
 | cons a l ih =>
  cases k with
  | zero=>simp [sizes];omega
  | succ k =>
   have:=ih (k:=k) (by simpa using hk)
   simp only [List.set_cons_succ,sizes,List.getD_cons_succ]
   omega
theorem setT_size:∀ (p:List Int) (t x:Term),size (setT t p x)≤size t+size x
 | [],t,x=>by simp only [setT];omega
 | i :: p,t,x=>by
  have h1:=size_args t
  have h2:=size_args (setT t (i :: p) x)
  rw [h2,setT_args]
  split
  ·rename_i hi
   have hk:i.toNat < t.args.length:=by omega
   have h3:=sizes_set (x:=setT (t.args.getD i.toNat default) p x) hk
   have h4:=setT_size p (t.args.getD i.toNat default) x
   omega
  ·omega
theorem fits_size {t:Term} (h:fits t = true):size t≤4000:=by
 simp only [fits,Bool.and_eq_true,decide_eq_true_eq] at h;exact h.1
def good (t:Term):Prop:=short t = true∧size t≤4000
theorem good_tb {t:Term} (h:good t):tb t < 2^28:=by have:=tb_short t h.1;have:=h.2;omega
theorem check_good {t:Term} (h:check t = 0):good t:=by
 unfold check at h
 split at h
 ·rename_i h1
  split at h
  ·rename_i h2;exact ⟨formed_short t h1,fits_size h2⟩
  ·omega
 ·omega
theorem doE_good {r:List ARule} {t u:Term} {s:AStep} {e:Int} (hr:∀ x∈r,short x.right = true) (ht:short t = true) (h:doE r t s = (some u,e)):good u∧e = 0:=by
 unfold doE at h
 split at h
 ·cases h
 ·rename_i h1
  have h1:(findE r t s).2 = 0:=by simpa using h1
  obtain ⟨k1,k2,_,_⟩:=findE_ok h1
  split at h
  ·split at h
   ·rename_i hf
    simp only [Prod.mk.injEq,Option.some.injEq] at h
    obtain ⟨rfl,rfl⟩:=h
    refine ⟨⟨setT_short _ _ _ ht (inst_short ?_ _ (hr _ (getD_mem k2))),fits_size hf⟩,rfl⟩
    intro b hb
    unfold findE at hb
    split at hb
    ·cases hb
    ·split at hb
     ·cases hb
     ·rename_i x hx
      split at hb
      ·exact matchT_short _ _ _ (by simp) (subT_short _ _ _ hx ht) b hb
      ·cases hb
   ·cases h
  ·cases h
def addE (pre:List Term) (x:List Term × Int):List Term × Int:=if x.2 = 0 then (pre++x.1,0) else ([],x.2)
theorem addE_addE (a b:List Term) (x:List Term × Int):addE a (addE b x) = addE (a++b) x:=by
 unfold addE
 by_cases h:x.2 = 0
 ·simp [h]
 ·simp [h]
def runE (r:List ARule) (t:Term):List AStep→List Term × Int
 | []=>([],0)
 | s :: l=>match doE r t s with
  | (some u,_)=>addE [u] (runE r u l)
  | (none,e)=>([],e)
theorem runE_none {r:List ARule} {t:Term} {s:AStep} {l:List AStep} {e:Int} (h:doE r t s = (none,e)):runE r t (s :: l) = ([],e):=by simp only [runE];rw [h]
theorem runE_some {r:List ARule} {t u:Term} {s:AStep} {l:List AStep} {e:Int} (h:doE r t s = (some u,e)):runE r t (s :: l) = addE [u] (runE r u l):=by simp only [runE];rw [h]
def chainE (r:List ARule) (c:AChain):List Term × Int :=
 if 4096 < c.steps.length then ([],3) else if check c.start ≠ 0 then ([],check c.start) else addE [c.start] (runE r c.start c.steps)
def termsE (r:List ARule) (c:AChain):List Term × Int:=if checkSystem r ≠ 0 then ([],checkSystem r) else chainE r c
end Go.Dw
end
section
namespace Go.Proofs
open Go.Shelf Go.RowKit
def Tryz.growI_ren:Go.Shelf.Ren:=⟨fun | 4=>154 | n=>n,fun | 22=>56 | 25=>3 | 3=>3 | 4=>4 | 9=>9 | 20=>20 | 0=>0 | n=>n,fun | n=>n⟩
theorem Tryz.growI:Go.Proofs.Lays8.n4 Tryz.prog Tryz.growI_ren:={
 mixed:=by kernel_rfl
 f4:=⟨Tryz.f154.name,by decide,Tryz.func154.trans (congrArg some (by kernel_rfl))⟩
 t0:=Tryz.underlying0
 a0:=Tryz.isAgg0
 z0:=Tryz.sizeOf0
 v0:=Tryz.zeroValue0
 t3:=Tryz.underlying3
 a3:=Tryz.isAgg3
 z3:=Tryz.sizeOf3
 v3:=Tryz.zeroValue3
 t4:=Tryz.underlying4
 a4:=Tryz.isAgg4
 z4:=Tryz.sizeOf4
 v4:=Tryz.zeroValue4
 t9:=Tryz.underlying9
 a9:=Tryz.isAgg9
 z9:=Tryz.sizeOf9
 v9:=Tryz.zeroValue9
 t20:=Tryz.underlying20
 a20:=Tryz.isAgg20
 z20:=Tryz.sizeOf20
 v20:=Tryz.zeroValue20
 t22:=Tryz.underlying56
 a22:=Tryz.isAgg56
 z22:=Tryz.sizeOf56
 v22:=Tryz.zeroValue56 }
theorem Tryz.grow_num:Tryz.growI_ren.f 4 = Go.Dw.n_slices_Grow_s_int_int:=by kernel_rfl
theorem Tryz.grow_t:Tryz.growI_ren.t 25 = Go.Dw.t_int:=by kernel_rfl
theorem Tryz.int_info:(Tryz.prog.info? Go.Dw.t_int).map (fun i=>(i.zero,i.size,i.bytes)) = some (some (.int .i64 0),1,8):=by kernel_rfl
theorem Tryz.grow_in (args:Array Value) (w:World):(callFunc Go.Dw.n_slices_Grow_s_int_int args).run Tryz.prog w = .ok (.enter Go.Dw.n_slices_Grow_s_int_int args) w:=by
 have:=enters_of (P:=Tryz.prog) (f:=Go.Dw.n_slices_Grow_s_int_int) (by kernel_rfl:Tryz.prog.funcs[Go.Dw.n_slices_Grow_s_int_int]? = some Tryz.f154) (by kernel_rfl) rfl args w
 exact this
end Go.Proofs
namespace Go.Dw
open Go.Proofs
theorem grow_row (n:Nat) (hn:n < 2^40):Spec prog n_slices_Grow_s_int_int [.nil,.int .i64 n] [] fun x H'=>x = .own 0 1 []∧H' = [.arr t_int 1 0]:=by
 intro c vs hH hc hr
 obtain ⟨v,vs1,rfl,h1,v2,vs2,rfl,h2,h3⟩:=hr
 have h1:v = .slice none 0 0:=h1
 have h2:v2 = .int .i64 n:=h2
 have h3:vs2 = []:=h3
 subst h1;subst h2;subst h3
 left
 refine ⟨Tryz.grow_in _ _,?_⟩
 by_cases h0:n = 0
 ·subst h0
  have:=Any8.slices_Grow_room Tryz.growI none 0 0 0 c.w (Nat.le_refl _) (by omega) (by omega) (by omega)
  rw [Tryz.grow_num] at this
  refine this.mono ?_
  rintro e w' ⟨rfl,rfl⟩
  refine ⟨_,.own 0 1 [],⟨c.w,c.ok,fun _=>none,[.arr t_int 1 0]⟩,rfl,rfl,⟨rfl,rfl⟩,?_,?_,?_⟩
  ·refine ⟨fun i j b k k' hi hj h1 _=>(by cases h1),hc.okLt,fun i o hi=>?_⟩
   cases i with
   | succ i=>simp at hi
   | zero =>
    simp only [List.getElem?_cons_zero,Option.some.injEq] at hi
    subst hi
    exact ⟨fun _=>rfl,fun b k h=>by cases h⟩
  ·refine ⟨⟨none,0,0,0,rfl,Nat.le_refl _,by unfold capMax;omega,by unfold maxEls;simp,.inl rfl,trivial⟩,by simp,fun e sz' n hn=>?_⟩
   simp only [List.getElem?_cons_zero,Option.some.injEq,Ob.arr.injEq] at hn
   obtain ⟨rfl,rfl,rfl⟩:=hn
   exact ⟨rfl,Nat.le_refl _,fun _=>rfl⟩
  ·refine ⟨fun _ _ h=>h,fun _ _ _=>rfl,Nat.le_refl _,fun _ _ h=>.inl h,fun _ _ _=>rfl,fun b hb=>?_,fun i o ho=>?_,rfl,rfl,rfl,Nat.le_refl _⟩
   ·obtain ⟨i,k,_,h⟩:=hb;cases h
   ·rw [hH] at ho;simp at ho
 ·obtain ⟨i0,hi0,hz0,hzs,hzb⟩:=info_parts Tryz.int_info
  have:=Any8.slices_Grow_grow Tryz.growI i0 (.int .i64 0) (by rw [Tryz.grow_t];exact hi0) hz0 (by omega) none 0 0 n [] c.w (by omega) (by omega) (by rw [hzb];omega) (by omega) (by simp) (fun _=>rfl) (fun _ h=>by cases h)
  rw [Tryz.grow_num,Tryz.grow_t] at this
  refine this.mono ?_
  rintro e w' ⟨rfl,rfl⟩
  have hge:0+n≤grownCap c.w (0+n) 0 t_int:=grownCap_ge c.w _ _ _
  have hle:=grownCap_le_maxLen c.w (0+n) 0 t_int (by unfold maxLen;omega)
  unfold maxLen at hle
  generalize grownCap c.w (0+n) 0 t_int = cap at hge hle ⊢
  obtain ⟨k1,k2⟩:=conc_heap hc (w':=c.w.drew) rfl rfl rfl rfl (Nat.le_succ _)
  generalize hvs:((#[]:Array Value)++Builtin.zeroCells (Value.int .i64 0).cells (0+n - 0)++Builtin.zeroCells (Value.int .i64 0).cells (cap - (0+n))) = vs
  have hsz:vs.size = cap:=by
   subst hvs
   simp only [Array.size_append,size_zeroCells,show (Value.int .i64 0).cells.size = 1 from rfl]
   simp;omega
  have hk:=conc_addOwn k1 (.cells vs t_int (0,0)) (.arr t_int 1 0) cap (fun _=>False) ⟨fun h=>(by cases h),fun b k h=>by
   cases h
   exact ⟨vs,heap_alloc_new c.w.drew _,by omega,by omega,by unfold capMax;omega,fun o _ ho=>by
    rcases ho with ho | ⟨_,ho⟩
    ·have:=hc.okLt _ _ ho;exact absurd this (Nat.lt_irrefl _)
    ·exact ho⟩⟩
  have hf:=fr_addOwn k1 (.cells vs t_int (0,0)) (.arr t_int 1 0) cap (fun _=>False)
  refine ⟨_,.own 0 1 [],_,rfl,rfl,⟨rfl,?_⟩,hk,?_,k2.trans hf⟩
  ·simp only [Cx.addOwn,hH];rfl
  ·refine ⟨⟨some ⟨c.w.heap.size,0,none⟩,cap,0,0,rfl,by simp,by unfold capMax;omega,by unfold maxEls;simp,.inl rfl,trivial⟩,by simp [Cx.addOwn],fun e sz' n hn=>?_⟩
   simp only [Cx.addOwn,hH,List.nil_append,List.getElem?_cons_zero,Option.some.injEq,Ob.arr.injEq] at hn
   obtain ⟨rfl,rfl,rfl⟩:=hn
   refine ⟨rfl,Nat.le_refl _,fun _=>?_⟩
   simp only [Cx.addOwn,hH,List.length_nil,upd_same]
   rfl
end Go.Dw
end
section
namespace Go.Dw
def cPp (p:List Int):List V:=[encP p]
abbrev encPs (l:List (List Int)):V:=encL cPp 1 l
theorem cPp_0 (p:List Int):(cPp p)[0]? = some (encP p):=rfl
theorem cPp_len (p:List Int):(cPp p).length = 1:=rfl
attribute [push_cast] cPp_0 cPp_len
theorem flatten_take_succ {l:List (List Int)} {k:Nat} (h:k < l.length):(l.take (k+1)).flatten = (l.take k).flatten++l.getD k default:=by
 rw [take_succ_getD h];simp
theorem flatten_take_le (l:List (List Int)) (k:Nat):(l.take k).flatten.length≤l.flatten.length:=by
 conv=>rhs;rw [← List.take_append_drop k l]
 rw [List.flatten_append,List.length_append];omega
theorem slices_Concat_s (l:List (List Int)) (hl:l.length < 2^40) (hs:l.flatten.length < 2^40):PF n_slices_Concat_s_int_int [encPs l] (encP l.flatten):=by
 refine pf_of slices_Concat_s_int_int.ok rfl ?_
 push_cast
 refine loop_up (n:=l.length) (R:=fun k=>slices_Concat_s_int_int.L7 (encPs l) (.int .i64 (l.take k).flatten.length) (encPs l) (.int .i64 l.length) (.int .i64 k) 0 [] _) ?_ ?_ 0 (by omega)
 ·intro k hk ih
  have h1:=flatten_take_le l (k+1)
  rw [flatten_take_succ hk,List.length_append] at h1
  have h2:IntKind.i64.wrap (((l.take k).flatten.length:Int)+((l.getD k default).length:Int)) = ((l.take (k+1)).flatten.length:Int):=by
   rw [wrap64 (by omega) (by omega),flatten_take_succ hk,List.length_append];omega
  have h3:(((l.take (k+1)).flatten.length:Int) < 0) = False:=eq_false (by omega)
  refine slices_Concat_s_int_int.G7 ?_
  push_cast [ilt hk,h2,h3,w64 (show k < 2^62 by omega)]
  exact ih
 ·refine slices_Concat_s_int_int.G7 ?_
  push_cast [inlt (Nat.le_refl _),List.take_length]
  refine callG_new (grow_row _ hs) ?_
  push_cast [List.map_cons,List.map_nil]
  refine loop_up (n:=l.length) (R:=fun k=>slices_Concat_s_int_int.L3 (ownL cI 0 1 (l.take k).flatten) (encPs l) (.int .i64 l.length) (.int .i64 k) 0 [.arr t_int 1 (l.take k).flatten.length] _) ?_ ?_ 0 (by omega)
  ·intro k hk ih
   have h1:=flatten_take_le l (k+1)
   rw [flatten_take_succ hk,List.length_append] at h1
   rw [flatten_take_succ hk] at ih
   refine slices_Concat_s_int_int.G3 ?_
   push_cast [ilt hk,w64 (show k < 2^62 by omega)]
   rw [List.length_map]
   refine ⟨Nat.le_trans (Nat.mul_le_mul_right 8 (show _≤2^40 by omega)) (by unfold maxEls;decide),?_⟩
   rw [List.length_append] at ih
   exact ih
  ·refine slices_Concat_s_int_int.G3 ?_
   push_cast [inlt (Nat.le_refl _),List.take_length]
   refine pf_ret ?_
   push_cast [slices_Concat_s_int_int.rs]
theorem doE_none {r:List ARule} {t:Term} {s:AStep} {e:Int} (h:doE r t s = (none,e)):e ≠ 0:=by
 unfold doE at h
 split at h
 ·rename_i h1;cases h;exact h1
 ·split at h
  ·split at h
   ·cases h
   ·cases h;decide
  ·cases h;decide
theorem derive_Run_s (r:List ARule) (c:AChain) (hr:rbs r < 2^28) (hrs:∀ x∈r,short x.right = true) (hc:tb c.start < 2^28) (hl:c.steps.length < 2^40) (hp:∀ s∈c.steps,s.pos.length < 2^40) :
  PF n_derive_Run [encRs r,encC c] (.tup [encTs (chainE r c).1,.int .i64 (chainE r c).2]):=by
 have hst:=size_le_tb c.start
 refine pf_of derive_Run.ok rfl ?_
 unfold chainE
 by_cases h1:4096 < c.steps.length
 ·have hi:((4096:Int) < (c.steps.length:Int)) = True:=eq_true (by omega)
  rw [if_pos h1]
  push_cast [hi]
  exact pf_ret (by push_cast [derive_Run.rs];rfl)
 ·have hi:((4096:Int) < (c.steps.length:Int)) = False:=eq_false (by omega)
  rw [if_neg h1]
  push_cast [hi]
  refine .of (term_Check_s c.start (by omega)) ?_
  by_cases h2:check c.start = 0
  ·rw [if_neg (by simpa using h2)]
   push_cast [h2]
   refine .of (term_Own_s c.start (by omega)) ?_
   push_cast
   have hg:=check_good h2
   generalize hres:addE [c.start] (runE r c.start c.steps) = res
   rw [show (V.own 0 3 [cT c.start]:V) = ownL cT 0 3 ([]++[c.start]) from rfl]
   refine loop_up (n:=c.steps.length) (R:=fun k=>∀ pre t,pre.length = k→good t→addE (pre++[t]) (runE r t (c.steps.drop k)) = res →
    derive_Run.L3 (encRs r) (ownL cT 0 3 (pre++[t])) (encSts c.steps) (.int .i64 c.steps.length) (.int .i64 k) 0 [.arr t_Term 3 (k+1)] (Ends 0 derive_Run.rs fun x' H'=>x' = .tup [encTs res.1,.int .i64 res.2]∧H' = [])) ?_ ?_ 0 (by omega) [] c.start rfl hg hres
   ·intro k hk ih pre t hpre ht hq
    rw [drop_getD hk] at hq
    have hm:=getD_mem hk
    generalize hs:c.steps.getD k default = s at hm hq
    have hget:(pre++[t]).getD k default = t:=by rw [List.getD_eq_getElem?_getD,List.getElem?_append_right (by omega),hpre];simp
    have hlen:(pre++[t]).length = k+1:=by simp [hpre]
    have hlt:((k:Int) < ((k+1:Nat):Int)) = True:=eq_true (by omega)
    have htb:=good_tb ht
    refine derive_Run.G3 ?_
    push_cast [ilt hk,hs,hget,hlen,hlt]
    refine ⟨by omega,?_⟩
    refine .of (rewrite_Do_s r t s hr htb (hp s hm) fun x hx=>by have:=setT_size s.pos t x;have:=fits_size hx;have:=ht.2;omega) ?_
    cases hd:doE r t s with
    | mk o e =>
    cases o with
    | none =>
     rw [runE_none hd] at hq
     have he:=doE_none hd
     simp only [addE,he,if_false] at hq
     push_cast [encTE,he]
     refine pf_ret ?_
     push_cast [derive_Run.rs,← hq]
     rfl
    | some u =>
     obtain ⟨hu,rfl⟩:=doE_good hrs ht.1 hd
     rw [runE_some hd,addE_addE] at hq
     push_cast [encTE,w64 (show k < 2^62 by omega)]
     refine ⟨⟨by omega,Nat.le_trans (Nat.mul_le_mul_right 48 (show _≤2^41 by omega)) (by unfold maxEls;decide)⟩,?_⟩
     have:=ih (pre++[t]) u (by simp [hpre]) hu hq
     push_cast at this
     rw [hpre]
     exact this
   ·intro pre t hpre ht hq
    rw [drop_map_none] at hq
    refine derive_Run.G3 ?_
    push_cast [inlt (Nat.le_refl _)]
    refine pf_ret ?_
    push_cast [derive_Run.rs,← hq]
    simp [addE,runE]
  ·rw [if_pos (by simpa using h2)]
   push_cast [h2]
   exact pf_ret (by push_cast [derive_Run.rs];rfl)
end Go.Dw
end
section
namespace Go.Dw
mutual
theorem visit_name:∀ (t:Term) (p:List Int),∀ x∈visit t p,x.2.name.length < tb t
 | .mk n v l,p,x,hx=>by
  rw [visit_eq] at hx
  simp only [tb]
  rcases List.mem_cons.1 hx with rfl | hx
  ·simp only [Term.name];omega
  ·have:=visits_name l p 0 x hx;simp only [tbs] at this;omega
theorem visits_name:∀ (l:List Term) (p:List Int) (i:Nat),∀ x∈visits l p i,x.2.name.length < tbs l
 | [],p,i,x,hx=>by simp [visits] at hx
 | a :: l,p,i,x,hx=>by
  simp only [visits,List.mem_append] at hx
  simp only [tbs,tb.tbs]
  rcases hx with hx | hx
  ·have:=visit_name a _ x hx;omega
  ·have:=visits_name l _ _ x hx;simp only [tbs] at this;omega
end
theorem arAll_name {M:Nat}:∀ (l:List (List Int × Term)) {m m':Ars},arAll m l = some m'→(∀ x∈l,x.2.name.length < M)→(∀ p∈m,p.1.length < M)→∀ p∈m',p.1.length < M
 | [],m,m',h,_,hm=>by cases h;exact hm
 | x :: l,m,m',h,hl,hm=>by
  simp only [arAll] at h
  cases hs:arStep m x.2 with
  | none=>rw [hs] at h;cases h
  | some m1 =>
   rw [hs,Option.bind_some] at h
   refine arAll_name l h (fun y hy=>hl y (by simp [hy])) ?_
   unfold arStep at hs
   split at hs
   ·cases hs;exact hm
   ·split at hs
    ·split at hs
     ·cases hs;exact hm
     ·cases hs
    ·cases hs
     intro p hp
     rcases List.mem_append.1 hp with hp | hp
     ·exact hm p hp
     ·simp only [List.mem_singleton] at hp;subst hp;exact hl x (by simp)
theorem arRules_name {M:Nat}:∀ (r:List ARule) {m m':Ars},arRules m r = some m'→rbs r≤M→(∀ p∈m,p.1.length < M)→∀ p∈m',p.1.length < M
 | [],m,m',h,_,hm=>by cases h;exact hm
 | x :: r,m,m',h,hM,hm=>by
  simp only [arRules] at h
  simp only [rbs] at hM
  cases ha:arAll m (visit x.left []) with
  | none=>rw [ha] at h;cases h
  | some m1 =>
   rw [ha,Option.bind_some] at h
   cases hb:arAll m1 (visit x.right []) with
   | none=>rw [hb] at h;cases h
   | some m2 =>
    rw [hb,Option.bind_some] at h
    exact arRules_name r h (by omega) (arAll_name _ hb (fun y hy=>by have:=visit_name _ _ y hy;omega) (arAll_name _ ha (fun y hy=>by have:=visit_name _ _ y hy;omega) hm))
theorem term_CheckSystem_t (r:List ARule) (hs:rbs r < 2^38):PF n_term_CheckSystem [encRs r] (.int .i64 (checkSystem r)) :=
 term_CheckSystem_s r hs fun m hm p hp=>by have:=arRules_name r hm (Nat.le_refl _) (by simp) p hp;omega
theorem checkPairs_ok:∀ {r:List ARule},checkPairs r = 0→∀ x∈r,check x.left = 0∧check x.right = 0
 | [],_,x,hx=>by cases hx
 | y :: r,h,x,hx=>by
  simp only [checkPairs] at h
  split at h
  ·omega
  ·rename_i h1
   rcases List.mem_cons.1 hx with rfl | hx
   ·simp only [checks,ne_eq,Classical.not_not] at h1
    split at h1
    ·omega
    ·rename_i h2
     split at h1
     ·omega
     ·rename_i h3
      exact ⟨by simpa using h2,by simpa using h3⟩
   ·exact checkPairs_ok h x hx
theorem checkSystem_good {r:List ARule} (h:checkSystem r = 0):∀ x∈r,good x.left∧good x.right:=by
 have h1:checkRules r = 0:=by
  unfold checkSystem at h
  split at h
  ·rename_i h1;exact absurd h h1
  ·rename_i h1;simpa using h1
 unfold checkRules at h1
 split at h1
 ·omega
 ·intro x hx
  have:=checkPairs_ok h1 x hx
  exact ⟨check_good this.1,check_good this.2⟩
theorem derive_Terms_s (r:List ARule) (c:AChain) (hr:rbs r < 2^28) (hc:tb c.start < 2^28) (hl:c.steps.length < 2^40) (hp:∀ s∈c.steps,s.pos.length < 2^40) :
  PF n_derive_Terms [encRs r,encC c] (.tup [encTs (termsE r c).1,.int .i64 (termsE r c).2]):=by
 refine pf_of derive_Terms.ok rfl ?_
 push_cast
 refine .of (term_CheckSystem_t r (by omega)) ?_
 unfold termsE
 by_cases h:checkSystem r = 0
 ·rw [if_neg (by simpa using h)]
  push_cast [h]
  refine .of (derive_Run_s r c hr (fun x hx=>(checkSystem_good h x hx).2.1) hc hl hp) ?_
  push_cast
  exact pf_ret (by push_cast [derive_Terms.rs])
 ·rw [if_pos (by simpa using h)]
  push_cast [h]
  exact pf_ret (by push_cast [derive_Terms.rs];rfl)
theorem runE_good {r:List ARule} (hr:∀ x∈r,short x.right = true):∀ (l:List AStep) (t:Term),short t = true→∀ u∈(runE r t l).1,good u
 | [],t,_,u,hu=>by simp [runE] at hu
 | s :: l,t,ht,u,hu=>by
  cases hd:doE r t s with
  | mk o e =>
  cases o with
  | none=>rw [runE_none hd] at hu;cases hu
  | some v =>
   have hv:=(doE_good hr ht hd).1
   rw [runE_some hd] at hu
   unfold addE at hu
   split at hu
   ·rcases List.mem_cons.1 hu with rfl | hu
    ·exact hv
    ·exact runE_good hr l v hv.1 u hu
   ·cases hu
theorem termsE_good {r:List ARule} {c:AChain} (h:(termsE r c).2 = 0):checkSystem r = 0∧c.steps.length≤4096∧good c.start∧(termsE r c).1 ≠ []∧∀ u∈(termsE r c).1,good u:=by
 unfold termsE at h ⊢
 split at h
 ·rename_i h1;exact absurd h h1
 ·rename_i h1
  have h1:checkSystem r = 0:=by simpa using h1
  rw [if_neg (by simpa using h1)]
  unfold chainE at h ⊢
  split at h
  ·simp at h
  ·rename_i h2
   rw [if_neg h2]
   split at h
   ·rename_i h3;exact absurd h h3
   ·rename_i h3
    have h3:check c.start = 0:=by simpa using h3
    have hg:=check_good h3
    rw [if_neg (by simpa using h3)]
    unfold addE at h ⊢
    split at h
    ·rename_i h4
     rw [if_pos h4]
     refine ⟨h1,by omega,hg,by simp,fun u hu=>?_⟩
     rcases List.mem_cons.1 hu with rfl | hu
     ·exact hg
     ·exact runE_good (fun x hx=>(checkSystem_good h1 x hx).2.1) _ _ hg.1 u hu
    ·rename_i h4;exact absurd h h4
theorem runE_len {r:List ARule}:∀ (l:List AStep) (t:Term),(runE r t l).1.length≤l.length
 | [],t=>by simp [runE]
 | s :: l,t=>by
  cases hd:doE r t s with
  | mk o e =>
  cases o with
  | none=>rw [runE_none hd];simp
  | some v =>
   rw [runE_some hd]
   have:=runE_len l v (r:=r)
   unfold addE
   split <;> simp <;> omega
theorem termsE_len {r:List ARule} {c:AChain}:(termsE r c).1.length≤c.steps.length+1:=by
 have:=runE_len c.steps c.start (r:=r)
 unfold termsE chainE addE
 split
 ·simp
 ·split
  ·simp
  ·split
   ·simp
   ·split <;> simp <;> omega
def lastT (l:List Term):Term:=l.getD (l.length - 1) default
def noC:AChain:=⟨noT,[]⟩
theorem concat2 (a b:List Int) (h:a.length+b.length < 2^40):PF n_slices_Concat_s_int_int [.sl 1 [[encP a],[encP b]]] (encP (a++b)):=by
 have:=slices_Concat_s [a,b] (by simp) (by simpa using h)
 simp only [List.flatten_cons,List.flatten_nil,List.append_nil] at this
 exact this
end Go.Dw
end
section
namespace Go.Dw
open Go.Proofs.YtobangnijcppaaaGreat
abbrev okW (W:World):Nat→Nat→Prop:=fun b _=>b < W.heap.size
def Cells (W:World) (xs:List V) (cs:List Value):Prop:=prepL W (okW W) xs cs∧∀ u∈cs,oneC u = true
theorem prepL_app {w:World} {ok:Nat→Nat→Prop}:∀ {xs ys:List V} {cs ds:List Value},prepL w ok xs cs→prepL w ok ys ds→prepL w ok (xs++ys) (cs++ds)
 | [],ys,cs,ds,h1,h2=>by
  have h1:cs = []:=h1
  subst h1;exact h2
 | x :: xs,ys,cs,ds,⟨v,vs,e,h1,h2⟩,h3=>by
  subst e
  exact ⟨v,vs++ds,rfl,h1,prepL_app h2 h3⟩
theorem prepL_get {w:World} {ok:Nat→Nat→Prop}:∀ {xs:List V} {cs:List Value} {i:Nat} {x:V},prepL w ok xs cs→xs[i]? = some x→∃ v,cs[i]? = some v∧prep w ok x v
 | [],_,i,x,_,h=>by simp at h
 | y :: xs,cs,i,x,⟨v,vs,e,h1,h2⟩,h=>by
  subst e
  cases i with
  | zero=>simp only [List.getElem?_cons_zero,Option.some.injEq] at h;subst h;exact ⟨v,rfl,h1⟩
  | succ i=>simp only [List.getElem?_cons_succ] at h ⊢;exact prepL_get h2 h
theorem Cells.app {W:World} {xs ys:List V} {cs ds:List Value} (h1:Cells W xs cs) (h2:Cells W ys ds):Cells W (xs++ys) (cs++ds) :=
 ⟨prepL_app h1.1 h2.1,fun u hu=>(List.mem_append.1 hu).elim (h1.2 u) (h2.2 u)⟩
theorem Cells.one {W:World} {x:V} {c:Value} (h:prep W (okW W) x c) (ho:oneC c = true):Cells W [x] [c]:=⟨⟨c,[],rfl,h,rfl⟩,fun u hu=>by simp only [List.mem_singleton] at hu;subst hu;exact ho⟩
section
variable {H:Type} {enc:TypeId × Value→H} {W:World}
noncomputable abbrev trd (enc:TypeId × Value→H) (W:World):=DataW.trod enc prog W 0 (fun _=>true) true
def Br {α:Type} (enc:TypeId × Value→H) (W:World) (n:Nat) (t:TypeId) (c:α→List V) (b:α→Nat):Prop:=∀ cs x,trd enc W n t cs = some x→Rows.uptoBulk x.1≤1048576→∃ a,b a≤Rows.uptoBulk x.1∧Cells W (c a) cs
theorem br_str {n:Nat}:Br enc W n t_string (fun s:Str=>[.str s]) (fun s=>s.length+1):=by
 intro cs x h _
 obtain ⟨s,rfl,rfl,_⟩:=DataW.trod_string (P:=prog) Go.Proofs.Tryz.underlying9 h
 refine ⟨s.data.toList,by simp [Rows.uptoBulk],Cells.one ?_ rfl⟩
 show Value.string s = .string ⟨⟨s.data.toList⟩⟩
 cases s with | mk d=>cases d;rfl
theorem br_bool {n:Nat}:Br enc W n t_bool (fun s:Bool=>[.bool s]) (fun _=>1):=by
 intro cs x h _
 obtain ⟨s,rfl,rfl⟩:=DataW.trod_bool (P:=prog) Go.Proofs.Tryz.underlying4 h
 exact ⟨s,by simp [Rows.uptoBulk],Cells.one rfl rfl⟩
theorem br_int {n:Nat}:Br enc W n t_int (fun s:Int=>cI s) (fun _=>1):=by
 intro cs x h _
 obtain ⟨s,rfl,rfl,_⟩:=DataW.trod_int (P:=prog) Go.Proofs.Tryz.underlying3 h
 exact ⟨s,by simp [Rows.uptoBulk],Cells.one rfl rfl⟩
theorem cell_spot {w:World} {a:Addr} {v:Value} (h:w.cell? a = some v):a.spot = none∧a.block < w.heap.size:=by
 unfold World.cell? at h
 split at h
 ·rename_i hb
  split at h
  ·cases h
  ·rename_i hs
   exact ⟨by cases hq:a.spot <;> simp_all,(Array.getElem?_eq_some_iff.1 hb).1⟩
 ·cases h
theorem addr_add {a:Addr} (h:a.spot = none) (n:Nat):a.add n = ⟨a.block,a.off+n,none⟩:=by
 unfold Addr.add
 split
 ·rename_i h0;subst h0;cases a;simp_all
 ·rfl
def sumB {α:Type} (b:α→Nat):List α→Nat
 | []=>0
 | x :: l=>b x+sumB b l
theorem one_le (d:DataW H):1≤Rows.uptoBulk d:=by
 cases d with
 | lit l=>cases l <;> simp [Rows.uptoBulk]
 | _=>simp [Rows.uptoBulk]
theorem bulk_len (l:List (DataW H)):l.length≤Rows.uptoBulkAll l:=by
 induction l with
 | nil=>simp [Rows.uptoBulkAll]
 | cons x r ih=>have:=one_le x;simp only [Rows.uptoBulkAll,List.length_cons];omega
theorem bulk_part {d:DataW H} {l:List (DataW H)} (h:d∈l):Rows.uptoBulk d≤Rows.uptoBulkAll l:=by
 induction l with
 | nil=>cases h
 | cons x r ih =>
  simp only [Rows.uptoBulkAll]
  rcases List.mem_cons.1 h with e | e
  ·subst e;omega
  ·have:=ih e;omega
theorem sumB_le {α:Type} {b:α→Nat}:∀ {l:List α} {es:List (DataW H × List MemPlace)},l.length = es.length→(∀ (i:Nat) (a:α) (e:DataW H × List MemPlace),l[i]? = some a→es[i]? = some e→b a≤Rows.uptoBulk e.1)→sumB b l≤Rows.uptoBulkAll (es.map (·.1))
 | [],[],_,_=>by simp [sumB]
 | [],_ :: _,h,_=>by simp at h
 | _ :: _,[],h,_=>by simp at h
 | a :: l,e :: es,h,hb=>by
  have h1:=hb 0 a e rfl rfl
  have h2:=sumB_le (l:=l) (es:=es) (by simpa using h) fun i a' e' h1 h2=>hb (i+1) a' e' (by simpa using h1) (by simpa using h2)
  simp only [sumB,List.map_cons,Rows.uptoBulkAll];omega
theorem br_slice {α:Type} {n:Nat} {ts t:TypeId} {sz:Nat} {c:α→List V} {b:α→Nat} (hts:prog.underlying ts = some (.slice t)) (hsz:prog.cellsOf t = sz) (hpos:0 < sz) (hc:∀ a,(c a).length = sz)
  (h:∀ m,m+1 = n→Br enc W m t c b):Br enc W n ts (fun l:List α=>[encL c sz l]) (fun l=>sumB b l+1):=by
 intro cs x hx hbk
 rcases DataW.trod_slice (P:=prog) hts hx with ⟨rfl,rfl⟩ | ⟨a,len,cap,elems,rest,m,rfl,rfl,rfl,_,hle,hcap,hlen,hel,_,_⟩
 ·exact ⟨[],by simp [sumB,Rows.uptoBulk],Cells.one ⟨none,0,0,0,rfl,Nat.le_refl _,by unfold capMax;omega,by unfold maxEls;simp,.inl rfl,trivial⟩ rfl⟩
 ·have hbr:=h m rfl
  have hba:Rows.uptoBulkAll (elems.map (·.1))≤1048576:=by simp only [Rows.uptoBulk] at hbk;omega
  have hln:=bulk_len (elems.map (·.1))
  rw [List.length_map] at hln
  rw [hsz] at hel
  have step:∀ i,i < len→∃ y:α,(∀ e,elems[i]? = some e→b y≤Rows.uptoBulk e.1)∧∃ ecs,W.cells? 0 (a.add (i * sz)) sz = some ecs∧Cells W (c y) ecs:=by
   intro i hi
   have h1:=hel i hi
   have hil:i < elems.length:=by omega
   rw [List.getElem?_eq_getElem hil] at h1
   simp only [Option.bind_eq_some_iff] at h1
   obtain ⟨ecs,h2,h3⟩:=h1
   obtain ⟨y,hy1,hy2⟩:=hbr ecs _ h3 (Nat.le_trans (bulk_part (List.mem_map.2 ⟨_,List.getElem_mem hil,rfl⟩)) hba)
   refine ⟨y,fun e he=>?_,ecs,h2,hy2⟩
   rw [List.getElem?_eq_getElem hil] at he
   cases he;exact hy1
  obtain ⟨f,hf⟩:∃ f:Nat→Option α,∀ i,i < len→∃ y,f i = some y∧(∀ e,elems[i]? = some e→b y≤Rows.uptoBulk e.1)∧∃ ecs,W.cells? 0 (a.add (i * sz)) sz = some ecs∧Cells W (c y) ecs:=by
   refine ⟨fun i=>if h:i < len then some (Classical.choose (step i h)) else none,fun i hi=>?_⟩
   exact ⟨Classical.choose (step i hi),by simp [hi],Classical.choose_spec (step i hi)⟩
  have hl:∀ k,k≤len→∃ l:List α,l.length = k∧∀ i,i < k→f i = l[i]?:=by
   intro k
   induction k with
   | zero=>intro _;exact ⟨[],rfl,fun i hi=>by omega⟩
   | succ k ih =>
    intro hk
    obtain ⟨l,h1,h2⟩:=ih (by omega)
    obtain ⟨y,hy,_⟩:=hf k (by omega)
    refine ⟨l++[y],by simp [h1],fun i hi=>?_⟩
    rcases Nat.lt_succ_iff_lt_or_eq.1 hi with h3 | rfl
    ·rw [List.getElem?_append_left (by omega)];exact h2 i h3
    ·rw [List.getElem?_append_right (by omega),h1];simpa using hy
  obtain ⟨l,hl1,hl2⟩:=hl len (Nat.le_refl _)
  have hat:∀ i y,l[i]? = some y→(∀ e,elems[i]? = some e→b y≤Rows.uptoBulk e.1)∧∃ ecs,W.cells? 0 (a.add (i * sz)) sz = some ecs∧Cells W (c y) ecs:=by
   intro i y hy
   have hi:i < len:=by rw [← hl1];exact (List.getElem?_eq_some_iff.1 hy).1
   obtain ⟨z,h1,h2⟩:=hf i hi
   rw [hl2 i hi,hy] at h1
   cases h1;exact h2
  refine ⟨l,?_,Cells.one ?_ rfl⟩
  ·have:=sumB_le (b:=b) (l:=l) (es:=elems) (by omega) fun i y e h1 h2=>(hat i y h1).1 e h2
   simp only [Rows.uptoBulk];omega
  ·have hspot:l ≠ []→a.spot = none∧a.block < W.heap.size:=by
    intro hne
    obtain ⟨y,hy⟩:∃ y,l[0]? = some y:=by cases l with | nil=>exact absurd rfl hne | cons y l=>exact ⟨y,rfl⟩
    obtain ⟨_,ecs,h1,h2⟩:=hat 0 y hy
    obtain ⟨_,g1,g2⟩:=World.cells?_some h1
    have h3:=g2 0 hpos
    have hel:ecs.length = sz:=g1
    obtain ⟨e0,he0⟩:∃ e0,ecs[0]? = some e0:=⟨ecs[0]'(by omega),List.getElem?_eq_getElem (by omega)⟩
    rw [he0] at h3
    simpa [Addr.add] using cell_spot h3
   refine ⟨some a,cap,a.block,a.off,by simp [hl1],by simpa [hl1] using hle,by unfold capMax;unfold maxLen at hcap;omega,?_,?_,prepE_mk fun i e he=>?_⟩
   ·rw [List.length_map];unfold maxEls;omega
   ·by_cases hne:l = []
    ·left;simp [hne]
    ·right
     have:=(hspot hne).1
     cases a;simp_all
   ·rw [List.getElem?_map] at he
    cases hy:l[i]? with
    | none=>rw [hy] at he;cases he
    | some y =>
     rw [hy] at he
     simp only [Option.map_some,Option.some.injEq] at he
     subst he
     obtain ⟨_,ecs,h1,h2⟩:=hat i y hy
     obtain ⟨_,g1,g2⟩:=World.cells?_some h1
     obtain ⟨hsp,hbl⟩:=hspot (by intro e;rw [e] at hy;simp at hy)
     refine ⟨hc y,prepC_mk fun j x hx=>?_⟩
     obtain ⟨v,k1,k2⟩:=prepL_get h2.1 hx
     have hj:j < sz:=by rw [← hc y];exact (List.getElem?_eq_some_iff.1 hx).1
     have h3:=g2 j hj
     rw [k1,addr_add hsp,addr_add rfl] at h3
     refine ⟨v,?_,hbl,h2.2 v (List.mem_of_getElem? k1),k2⟩
     rw [Nat.zero_add,← Nat.add_assoc]
     exact h3
theorem split2 {α:Type} {cs:List α} {a b:Nat} (h:cs.length = a+b):cs = (cs.drop 0).take a++(cs.drop a).take b:=by
 rw [List.drop_zero,List.take_of_length_le (l:=cs.drop a) (by simp;omega),List.take_append_drop]
theorem split3 {α:Type} {cs:List α} {a b c:Nat} (h:cs.length = a+b+c):cs = (cs.drop 0).take a++((cs.drop a).take b++(cs.drop (a+b)).take c):=by
 have h1:cs.drop a = (cs.drop a).take b++(cs.drop (a+b)).take c:=by
  rw [List.take_of_length_le (l:=cs.drop (a+b)) (by simp;omega),← List.drop_drop,List.take_append_drop]
 rw [← h1,List.drop_zero,List.take_append_drop]
theorem tbs_sumB (l:List Term):sumB tb l = tbs l:=by
 induction l with
 | nil=>rfl
 | cons a l ih=>simp only [sumB,tbs,tb.tbs,ih]
theorem sum_rbs:∀ l:List ARule,sumB (fun x:ARule=>1+tb x.left+tb x.right) l = rbs l
 | []=>rfl
 | a :: l=>by simp only [sumB,rbs,sum_rbs l]
theorem c9:prog.cellsOf 9 = 1:=by kernel_rfl
theorem c4:prog.cellsOf 4 = 1:=by kernel_rfl
theorem c3:prog.cellsOf 3 = 1:=by kernel_rfl
theorem c31:prog.cellsOf 31 = 1:=by kernel_rfl
theorem c33:prog.cellsOf 33 = 1+1+1:=by kernel_rfl
theorem c81:prog.cellsOf 81 = 3+3:=by kernel_rfl
theorem br_term:∀ n,Br enc W n 33 cT tb
 | 0=>by intro cs x h;simp [DataW.trod] at h
 | n+1=>by
  intro cs x h hbk
  obtain ⟨xs,m,hm,rfl,hl,hlen,hf⟩:=DataW.trod_struct (P:=prog) Go.Proofs.Tryz.underlying33 h
  obtain rfl:n = m:=by omega
  rw [c33] at hl
  match xs,hlen with
  | [x0,x1,x2],_ =>
  have f0:trd enc W n 9 ((cs.drop 0).take (prog.cellsOf 9)) = some x0:=hf 0 _ rfl
  have f1:trd enc W n 4 ((cs.drop 1).take (prog.cellsOf 4)) = some x1:=hf 1 _ rfl
  have f2:trd enc W n 31 ((cs.drop 2).take (prog.cellsOf 31)) = some x2:=hf 2 _ rfl
  rw [c9] at f0;rw [c4] at f1;rw [c31] at f2
  simp only [List.map_cons,List.map_nil,Rows.uptoBulk,Rows.uptoBulkAll] at hbk ⊢
  obtain ⟨s,b0,d0⟩:=br_str _ _ f0 (by omega)
  obtain ⟨v,b1,d1⟩:=br_bool _ _ f1 (by omega)
  obtain ⟨l,b2,d2⟩:=br_slice (n:=n) (sz:=3) (c:=cT) (b:=tb) Go.Proofs.Tryz.underlying31 c33 (by omega) (fun _=>rfl) (fun m hm=>br_term m) _ _ f2 (by omega)
  try dsimp only at b0
  try dsimp only at b1
  try dsimp only at b2
  refine ⟨.mk s v l,?_,?_⟩
  ·rw [tbs_sumB] at b2
   simp only [tb]
   simp only [tbs] at b2
   omega
  ·rw [split3 hl,cT_eq]
   exact d0.app (d1.app d2)
theorem br_rule:∀ n,Br enc W n 81 cR (fun x=>1+tb x.left+tb x.right)
 | 0=>by intro cs x h;simp [DataW.trod] at h
 | n+1=>by
  intro cs x h hbk
  obtain ⟨xs,m,hm,rfl,hl,hlen,hf⟩:=DataW.trod_struct (P:=prog) Go.Proofs.Tryz.underlying81 h
  obtain rfl:n = m:=by omega
  rw [c81] at hl
  match xs,hlen with
  | [x0,x1],_ =>
  have f0:trd enc W n 33 ((cs.drop 0).take (prog.cellsOf 33)) = some x0:=hf 0 _ rfl
  have f1:trd enc W n 33 ((cs.drop 3).take (prog.cellsOf 33)) = some x1:=hf 1 _ rfl
  rw [c33] at f0 f1
  simp only [List.map_cons,List.map_nil,Rows.uptoBulk,Rows.uptoBulkAll] at hbk ⊢
  obtain ⟨s,b0,d0⟩:=br_term n _ _ f0 (by omega)
  obtain ⟨v,b1,d1⟩:=br_term n _ _ f1 (by omega)
  try dsimp only at b0
  try dsimp only at b1
  refine ⟨⟨s,v⟩,by dsimp only;omega,?_⟩
  rw [split2 hl]
  exact d0.app d1
theorem br_rules {n:Nat}:Br enc W n 22 (fun r:List ARule=>[encRs r]) (fun r=>rbs r):=by
 intro cs x h hbk
 obtain ⟨l,b0,d0⟩:=br_slice (n:=n) (sz:=6) (c:=cR) (b:=fun x=>1+tb x.left+tb x.right) Go.Proofs.Tryz.underlying22 c81 (by omega) (fun _=>rfl) (fun m hm=>br_rule m) _ _ h hbk
 refine ⟨l,?_,d0⟩
 have:sumB (fun x:ARule=>1+tb x.left+tb x.right) l = rbs l:=sum_rbs l
 dsimp only at b0 ⊢
 omega
end
end Go.Dw
end
section
namespace Go.Dw
open Go.ChangeShapes Go.WideShapes Go.ChangeAt Go.RowKit Go.Proofs
theorem post_same {H:Type} {enc:TypeId × Value→H} {P:Program} {f:Func} {s:ChangeSpec} {apart fresh handsOn again:Bool} {W W':World} {args:Array Value} {v:Value} {ds gs:List (DataW H)} {before pa pv:List MemPlace}
  (hW:DataW.Whole enc P f.params.toList s.vars apart W args.toList ds gs before)
  (hres:∀ (b:Nat) (sp:Nat→Bool) (hd:Bool),DataW.TrodAll enc P W' b sp hd f.resultTypes.toList (v.resultList f.resultTypes.size) (s.fn H (ds++gs)).results [])
  (hargs:∀ sp:Nat→Bool,(∀ p∈before,sp p.block = true)→DataW.TrodAll enc P W' 0 sp true f.params.toList args.toList (s.fn H (ds++gs)).args pa)
  (hvars:∀ sp:Nat→Bool,(∀ p∈before,sp p.block = true)→DataW.TrodVars enc P W' sp s.vars (s.fn H (ds++gs)).vars pv)
  (hps:before = pa++pv) (hk:W.keptBut W' (·∈before)) (hfz:∀ a:Addr,a.block < W.heap.size→W'.frozen? a = W.frozen? a)
  (hok:∀ (j:Nat) (t:TypeId) (r:Value),f.resultTypes[j]? = some t→(v.resultList f.resultTypes.size)[j]? = some r→Value.okWide P W' .any 0 t r) :
  s.post enc P f apart fresh handsOn again W args v W':=by
 have hold:∀ p∈before,(fun b=>decide (b < W.heap.size)) p.block = true:=fun p hp=>by simpa using hW.lt p hp
 have hlt:=hW.lt
 refine ⟨ds,gs,before,[],pa,pv,hW,hres _ _ _,hargs _ hold,hvars _ hold,World.keptBut_mono (fun p hp=>⟨hp,?_⟩) hk,fun _=>?_⟩
 ·rw [hps,List.mem_append] at hp
  exact Or.inr hp
 ·obtain ⟨_,_,_,_,_,hz,hn⟩:=hW
  refine ⟨hok,_,_,([]++pa)++pv,⟨[]++pa,pv,trodAll_append (hargs _ (fun _ _=>rfl)) (hres _ _ _),hvars _ (fun _ _=>rfl),rfl,?_,?_⟩,?_⟩
  ·intro b off hp
   have hp':MemPlace.cell b off∈before:=by rw [hps];simpa using hp
   rw [hfz _ (hlt _ hp')]
   exact hz b off hp'
  ·intro ha
   have:=hn ha
   rw [hps] at this
   simpa using this
  ·intro p hp _
   rw [hps]
   simpa using hp
theorem trodAll_old {H:Type} {enc:TypeId × Value→H} {P:Program} {W W':World} (hh:∀ b,b < W.heap.size→W'.heap[b]? = W.heap[b]?) {base:Nat} {sp:Nat→Bool} {held:Bool} :
  ∀ {ts:List TypeId} {vs:List Value} {ds:List (DataW H)} {ps:List MemPlace},DataW.TrodAll enc P W base sp held ts vs ds ps→DataW.TrodAll enc P W' base sp held ts vs ds ps
 | [],[],[],_,h=>h
 | [],[],_ :: _,_,h=>h.elim
 | [],_ :: _,_,_,h=>h.elim
 | _ :: _,[],_,_,h=>h.elim
 | _ :: _,_ :: _,[],_,h=>h.elim
 | t :: ts,v :: vs,d :: ds,ps,⟨p,q,⟨n,h1⟩,h2,e⟩=>by
  refine ⟨p,q,⟨n,DataW.trod_carry n _ _ _ h1 fun x hx=>?_⟩,trodAll_old hh h2,e⟩
  have hl:=DataW.trod_lt n _ _ _ h1 x hx
  cases x with
  | cell b o=>exact World.cell?_of_block (w:=W) (hh b hl)
  | map b=>exact hh b hl
end Go.Dw
end
section
namespace Go.Dw
mutual
def eqV:V→V→Bool
 | .any,.any=>true
 | .int k n,.int k' n'=>decide (k = k') && decide (n = n')
 | .bool a,.bool b=>a == b
 | .str a,.str b=>decide (a = b)
 | .agg a,.agg b=>eqL a b
 | .tup a,.tup b=>eqL a b
 | .nil,.nil=>true
 | .sl z a,.sl z' b=>decide (z = z') && eqE a b
 | .ro a o,.ro b o'=>decide (o = o') && eqL a b
 | .nilp,.nilp=>true
 | .nilm,.nilm=>true
 | .nilf,.nilf=>true
 | .own i z a,.own i' z' b=>decide (i = i') && decide (z = z') && eqE a b
 | .ptr i o,.ptr i' o'=>decide (i = i') && decide (o = o')
 | .map i,.map i'=>decide (i = i')
 | .it i,.it i'=>decide (i = i')
 | .rw i z n,.rw i' z' n'=>decide (i = i') && decide (z = z') && decide (n = n')
 | .rp i n k o,.rp i' n' k' o'=>decide (i = i') && decide (n = n') && decide (k = k') && decide (o = o')
 | _,_=>false
def eqL:List V→List V→Bool
 | [],[]=>true
 | a :: l,b :: m=>eqV a b && eqL l m
 | _,_=>false
def eqE:List (List V)→List (List V)→Bool
 | [],[]=>true
 | a :: l,b :: m=>eqL a b && eqE l m
 | _,_=>false
end
theorem eqV_all:(∀ x y,eqV x y = true→x = y):=by
 refine fun x=>V.rec (motive_1:=fun x=>∀ y,eqV x y = true→x = y) (motive_2:=fun xs=>∀ ys,eqL xs ys = true→xs = ys) (motive_3:=fun xs=>∀ ys,eqE xs ys = true→xs = ys)
  ?_ ?_ ?_ ?_ ?_ ?_ ?_ ?_ ?_ ?_ ?_ ?_ ?_ ?_ ?_ ?_ ?_ ?_ ?_ ?_ ?_ ?_ ?_ x
 case refine_5=>intro a ih y h;cases y <;> simp only [eqV,Bool.false_eq_true] at h;rw [ih _ h]
 case refine_6=>intro a ih y h;cases y <;> simp only [eqV,Bool.false_eq_true] at h;rw [ih _ h]
 case refine_8=>intro z a ih y h;cases y <;> simp only [eqV,Bool.false_eq_true,Bool.and_eq_true,decide_eq_true_eq] at h;rw [h.1,ih _ h.2]
 case refine_9=>intro z a ih y h;cases y <;> simp only [eqV,Bool.false_eq_true,Bool.and_eq_true,decide_eq_true_eq] at h;rw [h.1,ih _ h.2]
 case refine_13=>intro f a l iha ihl y h;cases y <;> simp only [eqV,Bool.false_eq_true] at h
 case refine_14=>intro i z a ih y h;cases y <;> simp only [eqV,Bool.false_eq_true,Bool.and_eq_true,decide_eq_true_eq] at h;rw [h.1.1,h.1.2,ih _ h.2]
 case refine_20=>intro ys h;cases ys <;> simp only [eqL,Bool.false_eq_true] at h;rfl
 case refine_21=>intro a l iha ihl ys h;cases ys <;> simp only [eqL,Bool.false_eq_true,Bool.and_eq_true] at h;rw [iha _ h.1,ihl _ h.2]
 case refine_22=>intro ys h;cases ys <;> simp only [eqE,Bool.false_eq_true] at h;rfl
 case refine_23=>intro a l iha ihl ys h;cases ys <;> simp only [eqE,Bool.false_eq_true,Bool.and_eq_true] at h;rw [iha _ h.1,ihl _ h.2]
 all_goals (intros;rename_i y h;cases y <;> simp_all [eqV])
theorem eqL_sound:∀ (xs ys:List V),eqL xs ys = true→xs = ys
 | [],[],_=>rfl
 | [],_ :: _,h=>by simp [eqL] at h
 | _ :: _,[],h=>by simp [eqL] at h
 | a :: l,b :: m,h=>by simp only [eqL,Bool.and_eq_true] at h;rw [eqV_all _ _ h.1,eqL_sound _ _ h.2]
theorem eqE_sound:∀ (xs ys:List (List V)),eqE xs ys = true→xs = ys
 | [],[],_=>rfl
 | [],_ :: _,h=>by simp [eqE] at h
 | _ :: _,[],h=>by simp [eqE] at h
 | a :: l,b :: m,h=>by simp only [eqE,Bool.and_eq_true] at h;rw [eqL_sound _ _ h.1,eqE_sound _ _ h.2]
def eqM:List (V × V)→List (V × V)→Bool
 | [],[]=>true
 | a :: l,b :: m=>eqV a.1 b.1 && eqV a.2 b.2 && eqM l m
 | _,_=>false
theorem eqM_sound:∀ (xs ys:List (V × V)),eqM xs ys = true→xs = ys
 | [],[],_=>rfl
 | [],_ :: _,h=>by simp [eqM] at h
 | _ :: _,[],h=>by simp [eqM] at h
 | (a,a') :: l,(b,b') :: m,h=>by simp only [eqM,Bool.and_eq_true] at h;rw [eqV_all _ _ h.1.1,eqV_all _ _ h.1.2,eqM_sound _ _ h.2]
def eqOb:Ob→Ob→Bool
 | .cells e a,.cells e' b=>decide (e = e') && eqL a b
 | .arr e z n,.arr e' z' n'=>decide (e = e') && decide (z = z') && decide (n = n')
 | .map a,.map b=>eqM a b
 | .dead,.dead=>true
 | .row e z a,.row e' z' b=>decide (e = e') && decide (z = z') && eqE a b
 | _,_=>false
theorem eqOb_sound:∀ (x y:Ob),eqOb x y = true→x = y:=by
 intro x y h
 cases x <;> cases y <;> simp only [eqOb,Bool.false_eq_true,Bool.and_eq_true,decide_eq_true_eq] at h
 ·rw [h.1,eqL_sound _ _ h.2]
 ·rw [h.1.1,h.1.2,h.2]
 ·rw [eqM_sound _ _ h]
 ·rfl
 ·rw [h.1.1,h.1.2,eqE_sound _ _ h.2]
def eqH:List Ob→List Ob→Bool
 | [],[]=>true
 | a :: l,b :: m=>eqOb a b && eqH l m
 | _,_=>false
theorem eqH_sound:∀ (xs ys:List Ob),eqH xs ys = true→xs = ys
 | [],[],_=>rfl
 | [],_ :: _,h=>by simp [eqH] at h
 | _ :: _,[],h=>by simp [eqH] at h
 | a :: l,b :: m,h=>by simp only [eqH,Bool.and_eq_true] at h;rw [eqOb_sound _ _ h.1,eqH_sound _ _ h.2]
abbrev Res:=Option (V × List Ob)
abbrev Go:=Bool→List RV→(Nat→C)→Nat→List K→T→List Ob→Res
def bothR (a b:Res):Res:=match a with
 | some a=>match b with
  | some b=>if eqV a.1 b.1 && eqH a.2 b.2 then some a else none
  | none=>none
 | none=>none
theorem bothR_sound {a b:Res} {p:V × List Ob} (h:bothR a b = some p):a = some p∧b = some p:=by
 cases a with
 | none=>cases h
 | some a =>
  cases b with
  | none=>cases h
  | some b =>
   simp only [bothR] at h
   split at h
   case isFalse=>cases h
   rename_i hq
   simp only [Option.some.injEq] at h
   subst h
   simp only [Bool.and_eq_true] at hq
   exact ⟨rfl,by rw [show a = b from Prod.ext (eqV_all _ _ hq.1) (eqH_sound _ _ hq.2)]⟩
def agree:List Res→Res
 | []=>none
 | [r]=>r
 | r :: r2 :: rs=>bothR r (agree (r2 :: rs))
theorem agree_sound:∀ (l:List Res) (p:V × List Ob),agree l = some p→∀ r∈l,r = some p
 | [],_,h,_,hr=>by cases hr
 | [r],p,h,r',hr=>by simp only [List.mem_singleton] at hr;rw [hr];exact h
 | r :: r2 :: rs,p,h,r',hr=>by
  have h':=bothR_sound (show bothR r (agree (r2 :: rs)) = some p from h)
  rcases List.mem_cons.1 hr with rfl | hr
  ·exact h'.1
  ·exact agree_sound (r2 :: rs) p h'.2 r' hr
mutual
def refs:V→List Nat
 | .agg cs | .tup cs=>refsL cs
 | .fn _ a l=>refsL a++refsL l
 | .own i _ _=>[i]
 | .ptr i _=>[i]
 | .map i=>[i]
 | .it i=>[i]
 | .rw i _ _=>[i]
 | .rp i _ _ _=>[i]
 | _=>[]
def refsL:List V→List Nat
 | []=>[]
 | x :: xs=>refs x++refsL xs
end
def refsM:List (V × V)→List Nat
 | []=>[]
 | p :: es=>refs p.2++refsM es
def refsE:List (List V)→List Nat
 | []=>[]
 | x :: xs=>refsL x++refsE xs
def refsO:Ob→List Nat
 | .cells _ cs=>refsL cs
 | .map es=>refsM es
 | .row _ _ els=>refsE els
 | .iter (some i) _ _=>[i]
 | _=>[]
def refsH:List Ob→List Nat
 | []=>[]
 | o :: H=>refsO o++refsH H
def memN (i:Nat):List Nat→Bool
 | []=>false
 | j :: l=>Nat.beq i j || memN i l
def reach (B:Nat) (H:List Ob):Nat→List Nat→List Nat→List Nat
 | 0,_,acc=>acc
 | _+1,[],acc=>acc
 | n+1,i :: l,acc=>bif Nat.blt i B || memN i acc then reach B H n l acc else reach B H n (refsO (H.getD i .dead)++l) (acc++[i])
def okEx (B n:Nat):List Nat→Bool
 | []=>true
 | i :: l=>Nat.ble B i && Nat.blt i n && !memN i l && okEx B n l
theorem memN_iff:∀ {l:List Nat} {i:Nat},memN i l = true ↔ i∈l
 | [],i=>by simp [memN]
 | j :: l,i=>by simp [memN,memN_iff,Nat.beq_eq]
theorem okEx_sound {B n:Nat}:∀ {ex:List Nat},okEx B n ex = true→(∀ i∈ex,B≤i∧i < n)∧ex.Nodup
 | [],_=>⟨fun _ h=>(by cases h),List.nodup_nil⟩
 | j :: l,h=>by
  simp only [okEx,Bool.and_eq_true,Bool.not_eq_true',Nat.ble_eq,Nat.blt_eq] at h
  obtain ⟨⟨⟨h1,h2⟩,h3⟩,h4⟩:=h
  obtain ⟨k1,k2⟩:=okEx_sound h4
  refine ⟨fun i hi=>?_,List.nodup_cons.2 ⟨fun hm=>?_,k2⟩⟩
  ·rcases List.mem_cons.1 hi with rfl | hi
   ·exact ⟨h1,h2⟩
   ·exact k1 i hi
  ·rw [← memN_iff,h3] at hm;cases hm
def fin (pure:Bool) (rs:List RV) (B:Nat) (t:T) (H:List Ob):Res :=
 match retV rs t H with
 | none=>none
 | some x=>bif pure then (match B with | 0=>some (ren (fun _=>none) x,[]) | _=>none) else
  match reach B H 1000 (refs x++refsH (H.take B)) [] with
  | ex=>bif okEx B H.length ex then some (ren (pos? (List.range B++ex)) x,give (List.range B++ex) H) else none
theorem fin_sound {pure:Bool} {rs:List RV} {B:Nat} {t:T} {H:List Ob} {x:V} {Hr:List Ob} (h:fin pure rs B t H = some (x,Hr)) {e:X} (he:e = .ret ∨ e = .fall):Ends B rs (fun x' H'=>x' = x∧H' = Hr) e t H:=by
 unfold fin at h
 split at h
 case h_1=>cases h
 rename_i y hy
 cases pure with
 | true =>
  simp only [cond_true] at h
  split at h
  case h_2=>cases h
  cases h
  exact ends_nil he hy ⟨rfl,rfl⟩
 | false =>
  simp only [cond_false] at h
  cases hk:okEx B H.length (reach B H 1000 (refs y++refsH (H.take B)) []) with
  | false=>rw [hk] at h;cases h
  | true =>
   rw [hk] at h
   cases h
   obtain ⟨k1,k2⟩:=okEx_sound hk
   refine ends_ex he _ ?_ (fun i hi=>(k1 i hi).2) hy ⟨rfl,rfl⟩
   rw [List.nodup_append]
   exact ⟨List.nodup_range,k2,fun a ha b hb e=>by subst e;have:=List.mem_range.1 ha;have:=(k1 _ hb).1;omega⟩
structure FD where
 nd:Nat→C
 c:C
 n:Nat
 rs:List RV
abbrev Code:=Nat→Option FD
abbrev Prims:=Nat→List V→List Ob→Res
def callI (code:Code) (prims:Prims) (ih:Go) (pure:Bool) (f:Nat) (args:List V) (H:List Ob):Res :=
 match prims f args H with
 | some r=>some r
 | none=>match code f with
  | some fd=>bif Nat.beq args.length fd.n then ih pure fd.rs fd.nd H.length [.c fd.c] (ini 0 args) H else none
  | none=>none
def nxK (seen:List Nat) (k:Nat):List (V × V)→List (Nat × V × V)
 | []=>[]
 | p :: es=>bif memN k seen then nxK seen (k+1) es else (k,p) :: nxK seen (k+1) es
def allSeen (seen:List Nat):Nat→Bool
 | 0=>true
 | n+1=>memN n seen && allSeen seen n
def step (code:Code) (prims:Prims) (ih:Go) (pure:Bool) (rs:List RV) (N:Nat→C) (B:Nat) (s:List K) (t:T) (H:List Ob):Res :=
 match s with
 | []=>fin pure rs B t H
 | .c c :: s=>match c with
  | .skip=>ih pure rs N B s t H
  | .seq a b=>ih pure rs N B (.c a :: .c b :: s) t H
  | .reg l=>ih pure rs N B (.r l :: s) t H
  | .dr _ l=>ih pure rs N B (.r l :: s) t H
  | .gh l c=>ih pure rs N B (.r (l.map .op) :: .c c :: s) t H
  | .cond x a b=>match ev t x with
   | .bool c=>ih pure rs N B (.c (if c then a else b) :: s) t H
   | _=>none
  | .blk id a=>ih pure rs N B (.c a :: .mk id :: s) t H
  | .loop a=>ih pure rs N B (.c a :: .c (.loop a) :: s) t H
  | .exit id=>match popTo id s with
   | some s'=>ih pure rs N B s' t H
   | none=>none
  | .ret=>fin pure rs B t H
  | .n k=>ih pure rs N B (.c (N k) :: s) t H
  | .m k=>ih pure rs N B (.c (N k) :: s) t H
  | _=>none
 | .mk _ :: s=>ih pure rs N B s t H
 | .br .. :: _=>none
 | .r l :: s=>match l with
  | []=>ih pure rs N B s t H
  | .op i :: l=>match exec B i t H with
   | some (t',H')=>ih pure rs N B (.r l :: s) t' H'
   | none=>none
  | .call d f args :: l=>match callI code prims ih false f (args.map (ev t)) H with
   | some (x,H')=>ih pure rs N B (.r l :: s) (setO d x t) H'
   | none=>none
  | .callv d g args :: l=>match ev t g with
   | .fn (.func f) fst caps=>match callI code prims ih false f (fst++args.map (ev t)++caps) H with
    | some (x,H')=>ih pure rs N B (.r l :: s) (setO d x t) H'
    | none=>none
   | _=>none
  | .callp d f args :: l=>match callI code prims ih true f (rens (fun _=>none) (args.map (ev t))) [] with
   | some (x,[])=>ih pure rs N B (.r l :: s) (setO d (ren (fun _=>none) x) t) H
   | _=>none
  | .callvp d g args :: l=>match ev t g with
   | .fn (.func f) fst caps=>match callI code prims ih true f (rens (fun _=>none) (fst++args.map (ev t)++caps)) [] with
    | some (x,[])=>ih pure rs N B (.r l :: s) (setO d (ren (fun _=>none) x) t) H
    | _=>none
   | _=>none
  | .gd x b ds g :: l=>match ev t x with
   | .bool c=>ih pure rs N B (.r ((if c = b then g else [])++l) :: s) (if c = b then t else ds.map (fun d=>(d,V.tup []))++t) H
   | .tup []=>ih pure rs N B (.r l :: s) (ds.map (fun d=>(d,V.tup []))++t) H
   | _=>none
  | .alt ls :: l=>match l with
   | []=>agree (ls.map fun p=>ih pure rs N B (.r p.2 :: s) t H)
   | _=>none
  | .nl d ne x :: l=>match elV (ev t x) with
   | some []=>agree [ih pure rs N B (.r l :: s) ((d,.bool (true != ne)) :: t) H,ih pure rs N B (.r l :: s) ((d,.bool (false != ne)) :: t) H]
   | some _=>ih pure rs N B (.r l :: s) ((d,.bool (false != ne)) :: t) H
   | none=>none
  | .nx d x :: l=>match ev t x with
   | .it j=>match H[j]? with
    | some (.iter (some i) n seen)=>match H[i]? with
     | some (.map es)=>if n = es.length then
       bif allSeen seen n then ih pure rs N B (.r l :: s) ((d,.tup [.bool false]) :: t) H
       else agree ((nxK seen 0 es).map fun p=>ih pure rs N B (.r l :: s) ((d,.tup [.bool true,p.2.1,p.2.2]) :: t) (H.set j (.iter (some i) n (seen++[p.1]))))
      else none
     | _=>none
    | _=>none
   | _=>none
def go (code:Code) (prims:Prims):Nat→Go
 | 0=>fun _ _ _ _ _ _ _=>none
 | n+1=>step code prims (go code prims n)
section
variable {P:Program} {code:Code} {prims:Prims}
def Snd (P:Program) (g:Go):Prop:=∀ pure rs N B s t H x Hr,g pure rs N B s t H = some (x,Hr)→Run P N B s t H (Ends B rs fun x' H'=>x' = x∧H' = Hr)
theorem callI_sound (hm:P.follows .mixedOrders = true) (hc:∀ f fd,code f = some fd→okF P f fd.nd fd.c fd.n fd.rs = true)
  (hp:∀ f args H x H',prims f args H = some (x,H')→Spec P f args H fun x' H''=>x' = x∧H'' = H') {ih:Go} (hi:Snd P ih) {pure:Bool} {f:Nat} {args:List V} {H:List Ob} {x:V} {H':List Ob}
  (h:callI code prims ih pure f args H = some (x,H')):Spec P f args H fun x' H''=>x' = x∧H'' = H':=by
 unfold callI at h
 split at h
 case h_1 r hr =>
  cases h
  exact hp _ _ _ _ _ hr
 split at h
 case h_2=>cases h
 rename_i fd hfd
 cases hl:Nat.beq args.length fd.n with
 | false=>rw [hl] at h;cases h
 | true =>
  rw [hl] at h
  exact spec_of_run hm (hc _ _ hfd) (Nat.eq_of_beq_eq_true hl) (hi _ _ _ _ _ _ _ _ _ h)
theorem allSeen_of:∀ {n:Nat} {seen:List Nat},(∀ k,k < n→k∈seen)→allSeen seen n = true
 | 0,_,_=>rfl
 | n+1,seen,h=>by simp only [allSeen,Bool.and_eq_true];exact ⟨memN_iff.2 (h n (by omega)),allSeen_of fun k hk=>h k (by omega)⟩
theorem allSeen_to:∀ {n:Nat} {seen:List Nat},allSeen seen n = true→∀ k,k < n→k∈seen
 | 0,_,_,k,hk=>by omega
 | n+1,seen,h,k,hk=>by
  simp only [allSeen,Bool.and_eq_true] at h
  rcases Nat.lt_succ_iff_lt_or_eq.1 hk with h1 | rfl
  ·exact allSeen_to h.2 k h1
  ·exact memN_iff.1 h.1
theorem nxK_mem {seen:List Nat}:∀ {es:List (V × V)} {j k:Nat} {p:V × V},es[k]? = some p→j+k ∉ seen→(j+k,p)∈nxK seen j es
 | [],j,k,p,h,_=>by simp at h
 | q :: es,j,0,p,h,hn=>by
  simp only [List.getElem?_cons_zero,Option.some.injEq] at h
  subst h
  cases hm:memN j seen with
  | true=>exact absurd (memN_iff.1 hm) hn
  | false=>simp only [nxK,hm,cond_false];exact List.mem_cons_self
 | q :: es,j,k+1,p,h,hn=>by
  simp only [List.getElem?_cons_succ] at h
  have:=nxK_mem (seen:=seen) (j:=j+1) h (by rw [show j+1+k = j+(k+1) by omega];exact hn)
  rw [show j+1+k = j+(k+1) by omega] at this
  cases hm:memN j seen with
  | true=>simp only [nxK,hm,cond_true];exact this
  | false=>simp only [nxK,hm,cond_false];exact List.mem_cons_of_mem _ this
theorem step_sound (hm:P.follows .mixedOrders = true) (hc:∀ f fd,code f = some fd→okF P f fd.nd fd.c fd.n fd.rs = true)
  (hp:∀ f args H x H',prims f args H = some (x,H')→Spec P f args H fun x' H''=>x' = x∧H'' = H') {ih:Go} (hi:Snd P ih):Snd P (step code prims ih):=by
 intro pure rs N B s t H x Hr h
 have hi':∀ {s t H},ih pure rs N B s t H = some (x,Hr)→Run P N B s t H (Ends B rs fun x' H'=>x' = x∧H' = Hr):=fun h=>hi _ _ _ _ _ _ _ _ _ h
 unfold step at h
 split at h
 ·exact .done (fin_sound h (.inr rfl))
 ·split at h
  ·exact .skip (hi' h)
  ·exact .seq (hi' h)
  ·exact .reg (hi' h)
  ·exact .dr (hi' h)
  ·exact .gh (hi' h)
  ·split at h
   case h_2=>cases h
   rename_i c hv
   exact .cond c hv (hi' h)
  ·exact .blk (hi' h)
  ·exact .loop (hi' h)
  ·split at h
   case h_2=>cases h
   rename_i s' hs
   exact .exit s' hs (hi' h)
  ·exact .ret (fin_sound h (.inl rfl))
  ·exact .n (hi' h)
  ·exact .m (hi' h)
  ·cases h
 ·exact .mk (hi' h)
 ·cases h
 ·split at h
  ·exact .rend (hi' h)
  ·split at h
   case h_2=>cases h
   rename_i t' H' he
   exact .op t' H' he (hi' h)
  ·split at h
   case h_2=>cases h
   rename_i y H' he
   exact .callA _ (callI_sound hm hc hp hi he) (by rintro _ _ ⟨rfl,rfl⟩;exact hi' h)
  ·split at h
   case h_2=>cases h
   rename_i f fst caps hv
   split at h
   case h_2=>cases h
   rename_i y H' he
   exact .callvA (.func f) fst caps (fun x' H''=>x' = y∧H'' = H') hv (.inl ⟨f,rfl⟩) (specF_func ▸ callI_sound hm hc hp hi he) (by rintro _ _ ⟨rfl,rfl⟩;exact hi' h)
  ·split at h
   case h_2=>cases h
   rename_i y he
   exact .callp y (callI_sound hm hc hp hi he) (hi' h)
  ·split at h
   case h_2=>cases h
   rename_i f fst caps hv
   split at h
   case h_2=>cases h
   rename_i y he
   exact .callvp f fst caps y hv (callI_sound hm hc hp hi he) (hi' h)
  ·split at h
   ·rename_i c hv
    exact .gd c hv (hi' h)
   ·rename_i hv
    exact .gdU hv (hi' h)
   ·cases h
  ·split at h
   case h_2=>cases h
   refine .alt fun p hp'=>hi' (agree_sound _ _ h _ (List.mem_map.2 ⟨p,hp',rfl⟩))
  ·split at h
   ·rename_i he
    refine .nl [] he fun c _=>?_
    have h2:=agree_sound _ _ h
    cases c with
    | true=>exact hi' (h2 _ (by simp))
    | false=>exact hi' (h2 _ (by simp))
   ·rename_i els hne he
    refine .nl els he fun c hcc=>?_
    cases c with
    | true=>exact absurd (hcc rfl) (fun e=>hne (by rw [← e]))
    | false=>exact hi' h
   ·cases h
  ·split at h
   case h_2=>cases h
   rename_i j hv
   split at h
   case h_2=>cases h
   rename_i i n seen h1
   split at h
   case h_2=>cases h
   rename_i es h2
   split at h
   case isFalse=>cases h
   rename_i hn
   refine .nx j i n seen es hv h1 h2 hn (fun hs=>?_) fun k p hk hk2=>?_
   ·rw [allSeen_of hs] at h
    exact hi' h
   ·cases hall:allSeen seen n with
    | true =>
     have hlt:=(List.getElem?_eq_some_iff.1 hk).1
     exact absurd (allSeen_to hall k (by omega)) hk2
    | false =>
     rw [hall] at h
     have:=agree_sound _ _ h _ (List.mem_map.2 ⟨(k,p),by simpa using nxK_mem (j:=0) hk (by simpa using hk2),rfl⟩)
     exact hi' this
theorem go_sound (hm:P.follows .mixedOrders = true) (hc:∀ f fd,code f = some fd→okF P f fd.nd fd.c fd.n fd.rs = true)
  (hp:∀ f args H x H',prims f args H = some (x,H')→Spec P f args H fun x' H''=>x' = x∧H'' = H'):∀ n,Snd P (go code prims n)
 | 0=>fun _ _ _ _ _ _ _ _ _ h=>by cases h
 | n+1=>step_sound hm hc hp (go_sound hm hc hp n)
theorem run_closed (hm:P.follows .mixedOrders = true) (hc:∀ f fd,code f = some fd→okF P f fd.nd fd.c fd.n fd.rs = true)
  (hp:∀ f args H x H',prims f args H = some (x,H')→Spec P f args H fun x' H''=>x' = x∧H'' = H') (n:Nat) {f:Nat} {args:List V} {x:V}
  (h:callI code prims (go code prims n) true f args [] = some (x,[])):Spec P f args [] fun x' H'=>x' = x∧H' = [] :=
 callI_sound hm hc hp (go_sound hm hc hp n) h
end
end Go.Dw
end
section
namespace Go.Dw
namespace sortStp
def nd (_:Nat):C:=.skip
def body:C:=.seq (.reg [.mv 5 (.s 0),.len 6 (.s 5),.mv 4 (.s 6)]) (.reg [.mv 7 (.s 0),.mv 8 (.s 4),.mv 9 (.s 4),.cvi 10 .u64 (.s 9),.callp (some 11) n_bits_Len [.s 10],.mv 12 (.s 1),.call (some 13) n_slices_pdqsortCmpFunc_Step [.s 7,(.i 0),.s 8,.s 11,.s 12]])
def rs:List RV:=[]
attribute [push_cast] nd body
theorem ok:okF prog n_slices_SortFunc_s_Step_Step nd body 2 rs = true:=by kernel_rfl
end sortStp
namespace pdqStp
def nd:Nat→C
 | 0=>.gh [.ks 0 [0,1,2,3,4,10,11]] (.m 7)
 | 1=>.seq (.reg [.mv 106 (.s 0),.mv 107 (.s 1),.mv 108 (.s 2),.mv 109 (.s 13),.mv 110 (.s 4),.callp (some 111) n_slices_partitionCmpFunc_Step [.s 106,.s 107,.s 108,.s 109,.s 110],.mv 105 (.s 111),.ex 112 (.s 105) 0,.ex 113 (.s 105) 1,.mv 16 (.s 112),.mv 17 (.s 113)]) (.seq (.reg [.mv 114 (.s 17),.mv 11 (.s 114)]) (.seq (.reg [.mv 115 (.s 16),.mv 116 (.s 1),.bin 117 .sub (.s 115) (.s 116),.mv 118 (.s 2),.mv 119 (.s 16),.bin 120 .sub (.s 118) (.s 119),.mv 18 (.s 117),.mv 19 (.s 120)]) (.seq (.reg [.mv 121 (.s 12),.bin 122 .quo (.s 121) (.i 8),.mv 20 (.s 122)]) (.seq (.reg [.mv 123 (.s 18),.mv 124 (.s 19),.bin 125 .lss (.s 123) (.s 124)]) (.cond (.s 125) (.seq (.reg [.mv 126 (.s 18),.mv 127 (.s 20),.bin 128 .geq (.s 126) (.s 127),.mv 10 (.s 128)]) (.seq (.reg [.mv 129 (.s 0),.mv 130 (.s 1),.mv 131 (.s 16),.mv 132 (.s 3),.mv 133 (.s 4),.callp (some 134) n_slices_pdqsortCmpFunc_Step [.s 129,.s 130,.s 131,.s 132,.s 133]]) (.reg [.mv 135 (.s 16),.bin 136 .add (.s 135) (.i 1),.mv 1 (.s 136)]))) (.seq (.reg [.mv 137 (.s 19),.mv 138 (.s 20),.bin 139 .geq (.s 137) (.s 138),.mv 10 (.s 139)]) (.seq (.reg [.mv 140 (.s 0),.mv 141 (.s 16),.bin 142 .add (.s 141) (.i 1),.mv 143 (.s 2),.mv 144 (.s 3),.mv 145 (.s 4),.callp (some 146) n_slices_pdqsortCmpFunc_Step [.s 140,.s 142,.s 143,.s 144,.s 145]]) (.reg [.mv 147 (.s 16),.mv 2 (.s 147)]))))))))
 | 2=>.seq (.seq (.dr [0,1,2,3,4,5,6,7,8,9,10,11,12,13,14,15,16] [.mv 81 (.s 1),.bin 82 .gtr (.s 81) (.i 0),.mv 83 (.s 82),.gd (.s 83) true [84] [.mv 84 (.s 4)],.gd (.s 83) true [85] [.mv 85 (.s 0)],.gd (.s 83) true [86] [.mv 86 (.s 1)],.gd (.s 83) true [87] [.bin 87 .sub (.s 86) (.i 1)],.gd (.s 83) true [88] [.ia 88 2 (.s 85) (.s 87)],.gd (.s 83) true [89] [.la 89 2 (.s 88)],.gd (.s 83) true [90] [.mv 90 (.s 0)],.gd (.s 83) true [91] [.mv 91 (.s 13)],.gd (.s 83) true [92] [.ia 92 2 (.s 90) (.s 91)],.gd (.s 83) true [93] [.la 93 2 (.s 92)],.gd (.s 83) true [94] [.callvp (some 94) (.s 84) [.s 89,.s 93]],.gd (.s 83) true [95] [.bin 95 .lss (.s 94) (.i 0)],.gd (.s 83) true [96] [.un 96 .not (.s 95)],.pick 97 (.s 83) (.s 96) (.c (.bool false))]) (.cond (.s 97) (.seq (.reg [.mv 98 (.s 0),.mv 99 (.s 1),.mv 100 (.s 2),.mv 101 (.s 13),.mv 102 (.s 4),.callp (some 103) n_slices_partitionEqualCmpFunc_Step [.s 98,.s 99,.s 100,.s 101,.s 102],.mv 15 (.s 103)]) (.seq (.reg [.mv 104 (.s 15),.mv 1 (.s 104)]) (.exit 1))) (.skip))) (.n 1)
 | 3=>.seq (.seq (.reg [.mv 68 (.s 10),.mv 69 (.s 68),.gd (.s 69) true [70] [.mv 70 (.s 11)],.pick 71 (.s 69) (.s 70) (.c (.bool false)),.mv 72 (.s 71),.gd (.s 72) true [73,74] [.mv 73 (.s 14),.bin 74 .eql (.s 73) (.i 1)],.pick 75 (.s 72) (.s 74) (.c (.bool false))]) (.cond (.s 75) (.seq (.reg [.mv 76 (.s 0),.mv 77 (.s 1),.mv 78 (.s 2),.mv 79 (.s 4),.callp (some 80) n_slices_partialInsertionSortCmpFunc_Step [.s 76,.s 77,.s 78,.s 79]]) (.cond (.s 80) (.ret) (.skip))) (.skip))) (.n 2)
 | 4=>.seq (.reg [.mv 48 (.s 0),.mv 49 (.s 1),.mv 50 (.s 2),.mv 51 (.s 4),.callp (some 52) n_slices_choosePivotCmpFunc_Step [.s 48,.s 49,.s 50,.s 51],.mv 47 (.s 52),.ex 53 (.s 47) 0,.ex 54 (.s 47) 1,.mv 13 (.s 53),.mv 14 (.s 54)]) (.seq (.seq (.reg [.mv 55 (.s 14),.bin 56 .eql (.s 55) (.i 2)]) (.cond (.s 56) (.seq (.reg [.mv 57 (.s 0),.mv 58 (.s 1),.mv 59 (.s 2),.mv 60 (.s 4),.callp (some 61) n_slices_reverseRangeCmpFunc_Step [.s 57,.s 58,.s 59,.s 60]]) (.seq (.reg [.mv 62 (.s 2),.bin 63 .sub (.s 62) (.i 1),.mv 64 (.s 13),.mv 65 (.s 1),.bin 66 .sub (.s 64) (.s 65),.bin 67 .sub (.s 63) (.s 66),.mv 13 (.s 67)]) (.reg [.mv 14 (.i 1)]))) (.skip))) (.n 3))
 | 5=>.seq (.seq (.reg [.mv 38 (.s 10),.un 39 .not (.s 38)]) (.cond (.s 39) (.seq (.reg [.mv 40 (.s 0),.mv 41 (.s 1),.mv 42 (.s 2),.mv 43 (.s 4),.callp (some 44) n_slices_breakPatternsCmpFunc_Step [.s 40,.s 41,.s 42,.s 43]]) (.reg [.mv 45 (.s 3),.bin 46 .sub (.s 45) (.i 1),.mv 3 (.s 46)])) (.skip))) (.n 4)
 | 6=>.seq (.seq (.reg [.mv 31 (.s 3),.bin 32 .eql (.s 31) (.i 0)]) (.cond (.s 32) (.seq (.reg [.mv 33 (.s 0),.mv 34 (.s 1),.mv 35 (.s 2),.mv 36 (.s 4),.callp (some 37) n_slices_heapSortCmpFunc_Step [.s 33,.s 34,.s 35,.s 36]]) (.ret)) (.skip))) (.n 5)
 | 7=>.blk 1 (.seq (.reg [.mv 21 (.s 2),.mv 22 (.s 1),.bin 23 .sub (.s 21) (.s 22),.mv 12 (.s 23)]) (.seq (.seq (.reg [.mv 24 (.s 12),.bin 25 .leq (.s 24) (.i 12)]) (.cond (.s 25) (.seq (.reg [.mv 26 (.s 0),.mv 27 (.s 1),.mv 28 (.s 2),.mv 29 (.s 4),.call (some 30) n_slices_insertionSortCmpFunc_Step [.s 26,.s 27,.s 28,.s 29]]) (.ret)) (.skip))) (.n 6)))
 | _=>.skip
def body:C:=.seq (.reg [.mv 10 (.c (.bool true))]) (.seq (.reg [.mv 11 (.c (.bool true))]) (.blk 0 (.loop (.n 0))))
def rs:List RV:=[]
attribute [push_cast] nd body
theorem ok:okF prog n_slices_pdqsortCmpFunc_Step nd body 5 rs = true:=by kernel_rfl
end pdqStp
namespace plcs
def nd:Nat→C
 | 0=>.seq (.reg [.mv 73 (.s 7),.mv 6 (.s 73)]) (.ret)
 | 1=>.gh [.ks 1 [0,4,7,18,19,20]] (.m 10)
 | 2=>.gh [.kt [0,4,9,10,12,18,19,20,45,46,47]] (.m 7)
 | 3=>.gh [.kt [0,4,9,10,12,14,18,19,20,45,46,47,51,52,53]] (.m 5)
 | 4=>.seq (.blk 5 (.seq (.reg [.ia 55 1 (.s 51) (.s 53),.ld 56 (.s 55),.mv 16 (.s 56)]) (.reg [.mv 57 (.s 12),.mv 58 (.s 14),.mv 59 (.s 16),.bs 60 1 [.s 58,.s 59],.callp (some 61) n_slices_Concat_s_int_int [.s 60],.bs 62 1 [.s 61],.app 63 t_s_int 1 24 (.s 57) (.s 62),.mv 12 (.s 63)]))) (.reg [.bin 64 .add (.s 53) (.i 1),.mv 53 (.s 64)])
 | 5=>.seq (.reg [.bin 54 .lss (.s 53) (.s 52)]) (.seq (.cond (.s 54) (.skip) (.exit 4)) (.n 4))
 | 6=>.seq (.blk 3 (.seq (.reg [.ia 49 1 (.s 45) (.s 47),.ld 50 (.s 49),.mv 14 (.s 50)]) (.seq (.reg [.mv 51 (.s 10),.len 52 (.s 51),.mv 53 (.i 0)]) (.blk 4 (.loop (.n 3)))))) (.reg [.bin 65 .add (.s 47) (.i 1),.mv 47 (.s 65)])
 | 7=>.seq (.reg [.bin 48 .lss (.s 47) (.s 46)]) (.seq (.cond (.s 48) (.skip) (.exit 2)) (.n 6))
 | 8=>.seq (.reg [.mv 12 (.c .nil),.non 12 t_s_int 1]) (.seq (.seq (.reg [.mv 45 (.s 7),.len 46 (.s 45),.mv 47 (.i 0)]) (.blk 2 (.loop (.n 2)))) (.dr [0,1,2,3,4,5,6,7] [.mv 66 (.s 12),.fa 67 3 (.s 4),.ld 68 (.s 67),.mv 69 (.s 9),.ia 70 4 (.s 68) (.s 69),.la 71 4 (.s 70),.mv 7 (.s 66),.st 4 (.s 4) (.s 71)]))
 | 9=>.seq (.blk 1 (.seq (.reg [.ia 22 1 (.s 18) (.s 20),.ld 23 (.s 22),.mv 9 (.s 23)]) (.seq (.reg [.mv 24 (.s 9),.bs 25 1 [.s 24],.bs 26 1 [.s 25],.mv 10 (.s 26)]) (.seq (.seq (.reg [.fa 27 0 (.s 4),.ld 28 (.s 27),.bin 29 .gtr (.s 28) (.i 0)]) (.cond (.s 29) (.seq (.reg [.mv 30 (.s 0),.fa 31 0 (.s 4),.ld 32 (.s 31),.bin 33 .sub (.s 32) (.i 1),.ia 34 6 (.s 30) (.s 33),.fa 35 0 (.s 34),.la 36 3 (.s 35),.al 11 t_Term [.str [],.bool false,.sl 3 []],.sf 11 3 (.s 36)]) (.dr [0,1,2,3,4,5,6,7,8] [.la 37 3 (.s 11),.la 38 3 (.s 11),.bs 39 3 [.s 38],.callp (some 40) n_term_VarsOf [.s 39],.mv 41 (.s 9),.ia 42 1 (.s 40) (.s 41),.ld 43 (.s 42),.callp (some 44) n_multi_occurrences [.s 37,.s 43],.mv 10 (.s 44)])) (.skip))) (.n 8))))) (.reg [.bin 72 .add (.s 20) (.i 1),.mv 20 (.s 72)])
 | 10=>.seq (.reg [.bin 21 .lss (.s 20) (.s 19)]) (.seq (.cond (.s 21) (.skip) (.exit 0)) (.n 9))
 | _=>.skip
def body:C:=.seq (.reg [.bx 4 t_Multi (.s 1),.mv 6 (.c (.sl 1 []))]) (.seq (.reg [.bs 17 1 [(.c (.sl 1 []))],.mv 7 (.s 17)]) (.seq (.seq (.reg [.mv 18 (.s 2),.len 19 (.s 18),.mv 20 (.i 0)]) (.blk 0 (.loop (.n 1)))) (.n 0)))
def rs:List RV:=[.t 6]
attribute [push_cast] nd body
theorem ok:okF prog n_multi_places nd body 3 rs = true:=by kernel_rfl
end plcs
structure FK where
 f:Nat
 fd:FD
 ok:okF prog f fd.nd fd.c fd.n fd.rs = true
def lookF (f:Nat):List FK→Option FD
 | []=>none
 | x :: l=>bif Nat.beq x.f f then some x.fd else lookF f l
theorem lookF_ok {f:Nat} {fd:FD}:∀ {l:List FK},lookF f l = some fd→okF prog f fd.nd fd.c fd.n fd.rs = true
 | [],h=>by cases h
 | x :: l,h=>by
  simp only [lookF] at h
  cases hb:Nat.beq x.f f with
  | true =>
   rw [hb] at h
   simp only [cond_true,Option.some.injEq] at h
   subst h
   rw [← Nat.eq_of_beq_eq_true hb]
   exact x.ok
  | false=>rw [hb] at h;exact lookF_ok h
def tab:List FK:=[
 ⟨n_multi_Chain,⟨multi_Chain.nd,multi_Chain.body,2,multi_Chain.rs⟩,multi_Chain.ok⟩,
 ⟨n_multi_Inner,⟨multi_Inner.nd,multi_Inner.body,2,multi_Inner.rs⟩,multi_Inner.ok⟩,
 ⟨n_multi_develop,⟨multi_develop.nd,multi_develop.body,3,multi_develop.rs⟩,multi_develop.ok⟩,
 ⟨n_multi_first,⟨multi_first.nd,multi_first.body,2,multi_first.rs⟩,multi_first.ok⟩,
 ⟨n_multi_deep,⟨multi_deep.nd,multi_deep.body,2,multi_deep.rs⟩,multi_deep.ok⟩,
 ⟨n_multi_node,⟨multi_node.nd,multi_node.body,2,multi_node.rs⟩,multi_node.ok⟩,
 ⟨n_multi_set,⟨multi_set.nd,multi_set.body,3,multi_set.rs⟩,multi_set.ok⟩,
 ⟨n_slices_Clone_s_Multi_Multi,⟨slices_Clone_s_Multi_Multi.nd,slices_Clone_s_Multi_Multi.body,1,slices_Clone_s_Multi_Multi.rs⟩,slices_Clone_s_Multi_Multi.ok⟩,
 ⟨n_multi_contract,⟨multi_contract.nd,multi_contract.body,2,multi_contract.rs⟩,multi_contract.ok⟩,
 ⟨n_multi_Plug,⟨multi_Plug.nd,multi_Plug.body,3,multi_Plug.rs⟩,multi_Plug.ok⟩,
 ⟨n_multi_Fit,⟨multi_Fit.nd,multi_Fit.body,1,multi_Fit.rs⟩,multi_Fit.ok⟩,
 ⟨n_multi_size,⟨multi_size.nd,multi_size.body,1,multi_size.rs⟩,multi_size.ok⟩,
 ⟨n_multi_depth,⟨multi_depth.nd,multi_depth.body,1,multi_depth.rs⟩,multi_depth.ok⟩,
 ⟨n_multi_own,⟨multi_own.nd,multi_own.body,1,multi_own.rs⟩,multi_own.ok⟩,
 ⟨n_slices_Clone_s_int_int,⟨slices_Clone_s_int_int.nd,slices_Clone_s_int_int.body,1,slices_Clone_s_int_int.rs⟩,slices_Clone_s_int_int.ok⟩,
 ⟨n_slices_Index_s_string_string,⟨slices_Index_s_string_string.nd,slices_Index_s_string_string.body,2,slices_Index_s_string_string.rs⟩,slices_Index_s_string_string.ok⟩,
 ⟨n_multi_Steps,⟨multi_Steps.nd,multi_Steps.body,2,multi_Steps.rs⟩,multi_Steps.ok⟩,
 ⟨n_multi_Steps_1,⟨multi_Steps_1.nd,multi_Steps_1.body,2,multi_Steps_1.rs⟩,multi_Steps_1.ok⟩,
 ⟨n_multi_Steps_2,⟨multi_Steps_2.nd,multi_Steps_2.body,2,multi_Steps_2.rs⟩,multi_Steps_2.ok⟩,
 ⟨n_multi_walk,⟨multi_walk.nd,multi_walk.body,4,multi_walk.rs⟩,multi_walk.ok⟩,
 ⟨n_slices_Compare_s_int_int,⟨slices_Compare_s_int_int.nd,slices_Compare_s_int_int.body,2,slices_Compare_s_int_int.rs⟩,slices_Compare_s_int_int.ok⟩,
 ⟨n_cmp_Compare_int,⟨cmp_Compare_int.nd,cmp_Compare_int.body,2,cmp_Compare_int.rs⟩,cmp_Compare_int.ok⟩,
 ⟨n_cmp_isNaN_int,⟨cmp_isNaN_int.nd,cmp_isNaN_int.body,1,cmp_isNaN_int.rs⟩,cmp_isNaN_int.ok⟩,
 ⟨n_slices_insertionSortCmpFunc_Step,⟨slices_insertionSortCmpFunc_Step.nd,slices_insertionSortCmpFunc_Step.body,4,slices_insertionSortCmpFunc_Step.rs⟩,slices_insertionSortCmpFunc_Step.ok⟩,
 ⟨n_multi_places,⟨plcs.nd,plcs.body,3,plcs.rs⟩,plcs.ok⟩,
 ⟨n_slices_SortFunc_s_Step_Step,⟨sortStp.nd,sortStp.body,2,sortStp.rs⟩,sortStp.ok⟩,
 ⟨n_slices_pdqsortCmpFunc_Step,⟨pdqStp.nd,pdqStp.body,5,pdqStp.rs⟩,pdqStp.ok⟩]
def code:Code:=fun f=>lookF f tab
theorem code_ok:∀ f fd,code f = some fd→okF prog f fd.nd fd.c fd.n fd.rs = true:=fun f fd h=>lookF_ok h
abbrev P1:=List V→Option V
def okPr (f:Nat) (p:P1):Prop:=∀ args x,p args = some x→PF f args x
structure PK where
 f:Nat
 p:P1
 ok:okPr f p
def lookP (f:Nat) (args:List V):List PK→Option V
 | []=>none
 | k :: l=>bif Nat.beq k.f f then (match k.p args with | some x=>some x | none=>lookP f args l) else lookP f args l
theorem lookP_ok {f:Nat} {args:List V} {x:V}:∀ {l:List PK},lookP f args l = some x→PF f args x
 | [],h=>by cases h
 | k :: l,h=>by
  simp only [lookP] at h
  cases hb:Nat.beq k.f f with
  | true =>
   rw [hb] at h
   simp only [cond_true] at h
   split at h
   ·rename_i y hy
    cases h
    rw [← Nat.eq_of_beq_eq_true hb]
    exact k.ok _ _ hy
   ·exact lookP_ok h
  | false=>rw [hb] at h;exact lookP_ok h
def primsOf (l:List PK):Prims:=fun f args H=>match H with
 | []=>match lookP f args l with
  | some x=>some (x,[])
  | none=>none
 | _=>none
theorem primsOf_ok {l:List PK}:∀ f args H x H',primsOf l f args H = some (x,H')→Spec prog f args H fun x' H''=>x' = x∧H'' = H':=by
 intro f args H x H' h
 unfold primsOf at h
 split at h
 case h_2=>cases h
 split at h
 case h_2=>cases h
 rename_i y hy
 cases h
 exact lookP_ok hy
def pOne (args0:List V) (x:V):P1:=fun args=>bif eqL args args0 then some x else none
theorem pOne_ok {f:Nat} {args0:List V} {x:V} (h:PF f args0 x):okPr f (pOne args0 x):=by
 intro args y hy
 unfold pOne at hy
 cases hb:eqL args args0 with
 | false=>rw [hb] at hy;cases hy
 | true=>rw [hb] at hy;cases hy;rw [eqL_sound _ _ hb];exact h
theorem closed (l:List PK) (n:Nat) {f:Nat} {args:List V} {x:V} (h:callI code (primsOf l) (go code (primsOf l) n) true f args [] = some (x,[])):PF f args x :=
 run_closed mixed code_ok primsOf_ok n h
def yields (r:Res) (x:V):Bool:=match r with
 | some (y,[])=>eqV y x
 | _=>false
theorem yields_sound {r:Res} {x:V} (h:yields r x = true):r = some (x,[]):=by
 unfold yields at h
 split at h
 ·rw [eqV_all _ _ h]
 ·cases h
end Go.Dw
end
section
namespace Go.Dw
inductive AMulti where
 | mk (rule:Int) (name:Str) (var:Bool) (args:List AMulti)
deriving Inhabited
namespace AMulti
def rule:AMulti→Int | mk r _ _ _=>r
def name:AMulti→Str | mk _ n _ _=>n
def var:AMulti→Bool | mk _ _ v _=>v
def args:AMulti→List AMulti | mk _ _ _ a=>a
theorem eta (t:AMulti):mk t.rule t.name t.var t.args = t:=by cases t;rfl
end AMulti
mutual
def margC:AMulti→List (List V)
 | .mk _ _ _ ts=>margCs ts
def margCs:List AMulti→List (List V)
 | []=>[]
 | a :: ts=>[.int .i64 a.rule,.str a.name,.bool a.var,.sl 4 (margC a)] :: margCs ts
end
def cM (t:AMulti):List V:=[.int .i64 t.rule,.str t.name,.bool t.var,.sl 4 (margC t)]
theorem margCs_eq (ts:List AMulti):margCs ts = ts.map cM:=by
 induction ts with
 | nil=>simp [margCs]
 | cons a ts ih=>simp [margCs,ih,cM]
theorem margC_eq (t:AMulti):margC t = t.args.map cM:=by cases t;simp [margC,margCs_eq,AMulti.args]
abbrev encMs (l:List AMulti):V:=encL cM 4 l
theorem cM_eq (t:AMulti):cM t = [.int .i64 t.rule,.str t.name,.bool t.var,encMs t.args]:=by rw [cM,margC_eq];rfl
def encM (t:AMulti):V:=.agg (cM t)
theorem sto_encM (t:AMulti):sto (encM t) = some (cM t):=rfl
theorem cM_len (t:AMulti):(cM t).length = 4:=rfl
theorem cM_0 (t:AMulti):(cM t)[0]? = some (.int .i64 t.rule):=rfl
theorem cM_1 (t:AMulti):(cM t)[1]? = some (.str t.name):=rfl
theorem cM_2 (t:AMulti):(cM t)[2]? = some (.bool t.var):=rfl
theorem cM_3 (t:AMulti):(cM t)[3]? = some (encMs t.args):=by rw [cM_eq];rfl
theorem cM_sub (t:AMulti):sub 0 4 (cM t) = cM t:=rfl
theorem encM_fold (t:AMulti):V.agg (cM t) = encM t:=rfl
theorem rens_cM {σ:Nat→Option Nat} (t:AMulti):rens σ (cM t) = cM t:=rfl
theorem ren_encM {σ:Nat→Option Nat} (t:AMulti):ren σ (encM t) = encM t:=by unfold encM;rw [ren_agg,rens_cM]
theorem cM_mk (r:Int) (n:Str) (v:Bool) (l:List AMulti):[V.int .i64 r,V.str n,.bool v,encMs l] = cM (.mk r n v l):=by rw [cM_eq];rfl
theorem fdV_encM_none (t:AMulti) (k:Nat):fdV k none (encM t) = (cM t)[k]?:=rfl
theorem put_0_4 (x:List V) (a b c d:V) (h:x.length = 4):put 0 x [a,b,c,d] = x:=by
 simp only [put,h];simp
theorem put_cM (t:AMulti) (a b c d:V):put 0 (cM t) [a,b,c,d] = cM t:=put_0_4 _ _ _ _ _ rfl
theorem put_cM' (t u:AMulti):put 0 (cM t) (cM u) = cM t:=put_0_4 _ _ _ _ _ rfl
attribute [push_cast] sto_encM cM_len cM_0 cM_1 cM_2 cM_3 cM_sub encM_fold ren_encM rens_cM fdV_encM_none put_cM put_cM'
mutual
def msize:AMulti→Nat
 | .mk _ _ _ l=>1+msizes l
def msizes:List AMulti→Nat
 | []=>0
 | a :: l=>msize a+msizes l
end
mutual
def mdepth:AMulti→Nat
 | .mk _ _ _ l=>mdepths l+1
def mdepths:List AMulti→Nat
 | []=>0
 | a :: l=>max (mdepth a) (mdepths l)
end
mutual
def mb:AMulti→Nat
 | .mk _ n _ l=>1+n.length+mbs l
def mbs:List AMulti→Nat
 | []=>0
 | a :: l=>mb a+mbs l
end
theorem msizes_append (a b:List AMulti):msizes (a++b) = msizes a+msizes b:=by
 induction a with
 | nil=>simp [msizes]
 | cons x xs ih=>simp [msizes,ih];omega
theorem msize_args (t:AMulti):msize t = 1+msizes t.args:=by cases t;simp [msize,AMulti.args]
theorem mdepth_args (t:AMulti):mdepth t = mdepths t.args+1:=by cases t;simp [mdepth,AMulti.args]
theorem mb_args (t:AMulti):mb t = 1+t.name.length+mbs t.args:=by cases t;simp [mb,AMulti.args,AMulti.name]
theorem msizes_take_succ (l:List AMulti) (k:Nat) (h:k < l.length):msizes (l.take (k+1)) = msizes (l.take k)+msize (l.getD k default):=by
 rw [take_succ_getD h,msizes_append];simp [msizes]
theorem msizes_take_le (l:List AMulti) (k:Nat):msizes (l.take k)≤msizes l:=by
 conv=>rhs;rw [← List.take_append_drop k l]
 rw [msizes_append];omega
theorem msize_mem {l:List AMulti} {a:AMulti} (h:a∈l):msize a≤msizes l:=by
 induction l with
 | nil=>cases h
 | cons x xs ih=>rcases List.mem_cons.1 h with rfl | h <;> simp [msizes];have:=ih h;omega
theorem mb_mem {l:List AMulti} {a:AMulti} (h:a∈l):mb a≤mbs l:=by
 induction l with
 | nil=>cases h
 | cons x xs ih=>rcases List.mem_cons.1 h with rfl | h <;> simp [mbs];have:=ih h;omega
theorem length_le_msizes (l:List AMulti):l.length≤msizes l:=by
 induction l with
 | nil=>simp
 | cons x xs ih=>simp only [msizes,List.length_cons];have:=msize_args x;omega
theorem mdepths_append (a b:List AMulti):mdepths (a++b) = max (mdepths a) (mdepths b):=by
 induction a with
 | nil=>simp [mdepths]
 | cons x xs ih=>simp [mdepths,ih,Nat.max_assoc]
theorem multi_ind {p:AMulti→Prop} (h:∀ t,(∀ a∈t.args,p a)→p t) (t:AMulti):p t:=by
 have:∀ n t,msize t≤n→p t:=by
  intro n
  induction n with
  | zero=>intro t ht;have:=msize_args t;omega
  | succ n ih =>
   intro t ht
   refine h t fun a ha=>ih a ?_
   have:=msize_args t
   have:=msize_mem ha
   omega
 exact this (msize t) t (Nat.le_refl _)
theorem mdepth_le_msize (t:AMulti):mdepth t≤msize t:=by
 induction t using multi_ind with
 | h t ih =>
  rw [mdepth_args,msize_args]
  have:∀ l:List AMulti,(∀ a∈l,mdepth a≤msize a)→mdepths l≤msizes l:=by
   intro l
   induction l with
   | nil=>intro _;simp [mdepths]
   | cons x l ihl =>
    intro hl
    have h1:=hl x (by simp)
    have h2:=ihl fun a ha=>hl a (by simp [ha])
    simp only [mdepths,msizes];omega
  have:=this t.args ih
  omega
theorem msize_le_mb (t:AMulti):msize t≤mb t:=by
 induction t using multi_ind with
 | h t ih =>
  rw [mb_args,msize_args]
  have:∀ l:List AMulti,(∀ a∈l,msize a≤mb a)→msizes l≤mbs l:=by
   intro l
   induction l with
   | nil=>intro _;simp [mbs,msizes]
   | cons x l ihl =>
    intro hl
    have h1:=hl x (by simp)
    have h2:=ihl fun a ha=>hl a (by simp [ha])
    simp only [mbs,msizes];omega
  have:=this t.args ih
  omega
theorem mdepths_take_succ (l:List AMulti) (k:Nat) (h:k < l.length):mdepths (l.take (k+1)) = max (mdepths (l.take k)) (mdepth (l.getD k default)):=by
 rw [take_succ_getD h,mdepths_append];simp [mdepths]
theorem mdepths_le_msizes (l:List AMulti):mdepths l≤msizes l:=by
 induction l with
 | nil=>simp [mdepths]
 | cons x l ih=>have:=mdepth_le_msize x;simp only [mdepths,msizes];omega
mutual
def meq:AMulti→AMulti→Bool
 | .mk r n v l,.mk r' n' v' l'=>r == r' && n == n' && v == v' && meqs l l'
def meqs:List AMulti→List AMulti→Bool
 | [],[]=>true
 | a :: l,b :: m=>meq a b && meqs l m
 | _,_=>false
end
mutual
theorem meq_iff:∀ a b:AMulti,meq a b = true ↔ a = b
 | .mk r n v l,.mk r' n' v' l'=>by simp [meq,meqs_iff l l',and_assoc]
theorem meqs_iff:∀ a b:List AMulti,meqs a b = true ↔ a = b
 | [],[]=>by simp [meqs]
 | a :: l,b :: m=>by simp [meqs,meq_iff a b,meqs_iff l m]
 | [],_ :: _=>by simp [meqs]
 | _ :: _,[]=>by simp [meqs]
end
instance:DecidableEq AMulti:=fun a b=>if h:meq a b = true then .isTrue ((meq_iff a b).1 h) else .isFalse fun e=>h ((meq_iff a b).2 e)
end Go.Dw
end
section
namespace Go.Dw
theorem r01_Size_s (t:Term) (hs:size t < 2^62):PF n_r01_Size [encT t] (.int .i64 (size t)):=by
 induction t using term_ind with
 | h t ih =>
 refine pf_of r01_Size.ok rfl ?_
 have hst:=size_args t
 have hl:=length_le_sizes t.args
 push_cast
 refine loop_up (n:=t.args.length) (R:=fun k=>r01_Size.L3 (.int .i64 ((1+sizes (t.args.take k):Nat):Int)) (encTs t.args) (.int .i64 t.args.length) (.int .i64 k) 0 [] _) ?_ ?_ 0 (by omega)
 ·intro k hk ih2
  have h1:=sizes_take_succ _ _ hk
  have h2:=sizes_take_le t.args (k+1)
  have hm:=getD_mem hk
  refine r01_Size.G3 ?_
  push_cast [ilt hk]
  refine .of (ih _ hm (by omega)) ?_
  push_cast [w64 (show k < 2^62 by omega)]
  rw [wrap64 (by omega) (by omega)]
  rw [h1] at ih2
  simpa [Int.add_assoc] using ih2
 ·refine r01_Size.G3 ?_
  push_cast [inlt (Nat.le_refl _)]
  refine pf_ret ?_
  push_cast [r01_Size.rs,List.take_length,hst]
def cmpI (a b:Int):Int:=if a < b then -1 else if b < a then 1 else 0
theorem r01_CompareInts_s (a b:Int):PF n_r01_CompareInts [.int .i64 a,.int .i64 b] (.int .i64 (cmpI a b)):=by
 refine pf_of r01_CompareInts.ok rfl ?_
 push_cast
 refine ⟨fun h=>pf_ret ?_,fun h=>⟨fun h2=>pf_ret ?_,fun h2=>pf_ret ?_⟩⟩ <;> push_cast [r01_CompareInts.rs,cmpI,h]
 ·simp_all
 ·simp_all
def cmpB:Str→Str→Int
 | [],[]=>0
 | [],_ :: _=>-1
 | _ :: _,[]=>1
 | a :: s,b :: u=>if a = b then cmpB s u else cmpI a.toNat b.toNat
theorem cmpB_eq:∀ a b:Str,cmpB a b = cmpS a b:=by
 intro a b
 rw [cmpS_eq]
 induction a generalizing b with
 | nil=>cases b <;> simp [cmpB]
 | cons x a ih =>
  cases b with
  | nil=>simp [cmpB]
  | cons y b =>
   simp only [cmpB,List.cons_lt_cons_iff]
   by_cases h:x = y
   ·subst h
    rw [if_pos rfl,ih]
    have:¬ x < x:=UInt8.lt_irrefl x
    simp [this]
   ·rw [if_neg h]
    have h':¬ y = x:=fun e=>h e.symm
    simp only [h,h',false_and,or_false,cmpI,UInt8.lt_iff_toNat_lt]
    norm_cast
theorem r01_CompareNames_s (a b:Str) (ha:a.length < 2^62) (hb:b.length < 2^62):PF n_r01_CompareNames [.str a,.str b] (.int .i64 (cmpS a b)):=by
 rw [← cmpB_eq]
 refine pf_of r01_CompareNames.ok rfl ?_
 have hmn:(if (b.length:Int) < (a.length:Int) then (b.length:Int) else (a.length:Int)) = ((min a.length b.length:Nat):Int):=by split <;> omega
 push_cast [hmn]
 refine loop_up (n:=min a.length b.length) (R:=fun k=>cmpB (a.drop k) (b.drop k) = cmpB a b→r01_CompareNames.L3 (.str a) (.str b) (.int .i64 (min a.length b.length:Nat)) (.int .i64 k) 0 [] _) ?_ ?_ 0 (by omega) rfl
 ·intro k hk ih hq
  have hka:k < a.length:=by omega
  have hkb:k < b.length:=by omega
  rw [drop_getD hka,drop_getD hkb] at hq
  simp only [cmpB] at hq
  have h1:btV a k = ((a.getD k default).toNat:Int):=rfl
  have h2:btV b k = ((b.getD k default).toNat:Int):=rfl
  have hr:∀ c:UInt8,IntKind.i64.wrap (c.toNat:Int) = c.toNat:=fun c=>wrap64 (by omega) (by have:=UInt8.toNat_lt c;omega)
  refine r01_CompareNames.G3 ?_
  push_cast [ilt hk,ilt hka,ilt hkb,h1,h2,hr,w64 (show k < 2^62 by omega)]
  refine ⟨fun h=>.of (r01_CompareInts_s _ _) ?_,fun h=>ih ?_⟩
  ·push_cast
   refine pf_ret ?_
   push_cast [r01_CompareNames.rs]
   rw [← hq,if_neg]
   intro e;rw [e] at h;exact h rfl
  ·rw [← hq,if_pos]
   exact UInt8.toNat_inj.1 (Int.ofNat.inj (by simpa using h))
 ·intro hq
  refine r01_CompareNames.G3 ?_
  push_cast [inlt (Nat.le_refl _)]
  refine .of (r01_CompareInts_s _ _) ?_
  push_cast
  refine pf_ret ?_
  push_cast [r01_CompareNames.rs]
  rw [← hq]
  rcases Nat.lt_or_ge a.length b.length with h | h
  ·rw [Nat.min_eq_left (by omega),drop_map_none,drop_getD h]
   simp [cmpB,cmpI];omega
  ·rw [Nat.min_eq_right (by omega),drop_map_none]
   rcases Nat.lt_or_ge b.length a.length with h2 | h2
   ·rw [drop_getD h2]
    simp [cmpB,cmpI];omega
   ·rw [show b.length = a.length by omega,drop_map_none]
    simp [cmpB,cmpI]
end Go.Dw
end
section
namespace Go.Dw
mutual
def count (v:Str):Term→Nat
 | .mk n b l=>(if b && decide (n = v) then 1 else 0)+counts v l
def counts (v:Str):List Term→Nat
 | []=>0
 | a :: l=>count v a+counts v l
end
mutual
def occ (v:Str):Term→Bool
 | .mk n b ar=>(b && decide (n = v)) || occs v ar
def occs (v:Str):List Term→Bool
 | []=>false
 | a :: ar=>occ v a || occs v ar
end
end Go.Dw
end
section
namespace Go.Dw
structure ASym where
 name:Str
 arity:Int
 deriving Inhabited,DecidableEq
def cSy (s:ASym):List V:=[.str s.name,.int .i64 s.arity]
theorem cSy_len (s:ASym):(cSy s).length = 2:=rfl
theorem cSy_0 (s:ASym):(cSy s)[0]? = some (.str s.name):=rfl
theorem cSy_1 (s:ASym):(cSy s)[1]? = some (.int .i64 s.arity):=rfl
attribute [push_cast] cSy_len cSy_0 cSy_1
end Go.Dw
end
section
namespace Go.Dw
open Go.Proofs (sortS)
theorem mem_foldl_addS (v:Str):∀ (l ks:List Str),v∈l.foldl addS ks ↔ v∈ks ∨ v∈l
 | [],ks=>by simp
 | x :: l,ks=>by
  rw [List.foldl_cons,mem_foldl_addS v l]
  unfold addS
  split
  ·rename_i h
   simp only [List.mem_cons]
   constructor
   ·rintro (h1 | h1)
    ·exact .inl h1
    ·exact .inr (.inr h1)
   ·rintro (h1 | rfl | h1)
    ·exact .inl h1
    ·exact .inl h
    ·exact .inr h1
  ·simp [or_assoc]
theorem varsIn_cons (x:List Int × Term) (l:List (List Int × Term)):varsIn (x :: l) = if x.2.var then x.2.name :: varsIn l else varsIn l:=by
 unfold varsIn;rw [List.filter_cons];split <;> rfl
theorem varsIn_append (a b:List (List Int × Term)):varsIn (a++b) = varsIn a++varsIn b:=by
 unfold varsIn;rw [List.filter_append,List.map_append]
mutual
theorem mem_varsIn (v:Str):∀ (t:Term) (p:List Int),v∈varsIn (visit t p) ↔ occ v t = true
 | .mk n b ar,p=>by
  have h:=mem_varsIns v ar p 0
  rw [visit_eq,varsIn_cons]
  cases b
  ·rw [if_neg (by simp [Term.var])]
   simpa [occ,Term.args] using h
  ·rw [if_pos (by simp [Term.var])]
   simp only [occ,Bool.true_and,Bool.or_eq_true,decide_eq_true_eq,List.mem_cons,← h]
   exact ⟨fun h=>h.imp (fun e=>e.symm) id,fun h=>h.imp (fun e=>e.symm) id⟩
theorem mem_varsIns (v:Str):∀ (ar:List Term) (p:List Int) (i:Nat),v∈varsIn (visits ar p i) ↔ occs v ar = true
 | [],p,i=>by simp [visits,varsIn,occs]
 | a :: ar,p,i=>by
  have h1:=mem_varsIn v a (p++[(i:Int)])
  have h2:=mem_varsIns v ar p (i+1)
  simp only [visits,varsIn_append,List.mem_append,h1,h2,occs,Bool.or_eq_true]
end
theorem mem_varsOf (v:Str) (t:Term):v∈varsOf [t] ↔ occ v t = true:=by
 unfold varsOf
 rw [show (v∈sortS (vsetT [] [t])) ↔ v∈vsetT [] [t] from (List.mergeSort_perm _ _).mem_iff]
 simp only [vsetT,List.foldl_cons,List.foldl_nil,vset,mem_foldl_addS,mem_varsIn,List.not_mem_nil,false_or]
def mk (m:Ars):Bool:=m.any fun p=>marked p.1
end Go.Dw
end
section
namespace Go.Dw
mutual
def allM (f:AMulti→Bool):AMulti→Bool
 | .mk k n v l=>f (.mk k n v l) && allMs f l
def allMs (f:AMulti→Bool):List AMulti→Bool
 | []=>true
 | a :: l=>allM f a && allMs f l
end
theorem allMs_all (f:AMulti→Bool) (l:List AMulti):allMs f l = l.all (allM f):=by induction l with | nil=>rfl | cons a l ih=>simp [allMs,ih]
theorem allM_eq (f:AMulti→Bool) (m:AMulti):allM f m = (f m && m.args.all (allM f)):=by cases m;simp only [allM,allMs_all,AMulti.args]
theorem allM_arg {f:AMulti→Bool} {m a:AMulti} (h:allM f m = true) (ha:a∈m.args):allM f a = true:=by
 rw [allM_eq,Bool.and_eq_true] at h
 exact List.all_eq_true.1 h.2 a ha
theorem allM_self {f:AMulti→Bool} {m:AMulti} (h:allM f m = true):f m = true:=by
 rw [allM_eq,Bool.and_eq_true] at h;exact h.1
def rangedM (n:Nat) (m:AMulti):Bool:=decide (0≤m.rule) && decide (m.rule≤n)
def ruleOf (r:List ARule) (m:AMulti):ARule:=r.getD (m.rule - 1).toNat default
def formedM (r:List ARule) (m:AMulti):Bool :=
 if 0 < m.rule then decide (m.name = []) && (!m.var && decide (m.args.length = (varsOf [(ruleOf r m).left]).length))
 else if m.var then decide (m.args.length = 0) && isName m.name false
 else decide (m.args.length≤8) && isName m.name true
def checkM (r:List ARule) (m:AMulti):Int :=
 if checkSystem r ≠ 0 then checkSystem r else if allM (rangedM r.length) m = false then 8 else if allM (formedM r) m = false then 4 else if 4000 < msize m ∨ 200 < mdepth m then 3 else 0
mutual
def countM:AMulti→Nat
 | .mk k _ _ l=>(if k = 0 then 0 else 1)+countMs l
def countMs:List AMulti→Nat
 | []=>0
 | a :: l=>countM a+countMs l
end
theorem countM_eq (m:AMulti):countM m = (if m.rule = 0 then 0 else 1)+countMs m.args:=by cases m;rfl
theorem countMs_append (a b:List AMulti):countMs (a++b) = countMs a+countMs b:=by
 induction a with
 | nil=>simp [countMs]
 | cons x xs ih=>simp [countMs,ih];omega
theorem countMs_take_succ (l:List AMulti) (k:Nat) (h:k < l.length):countMs (l.take (k+1)) = countMs (l.take k)+countM (l.getD k default):=by
 rw [take_succ_getD h,countMs_append];simp [countMs]
theorem countMs_take_le (l:List AMulti) (k:Nat):countMs (l.take k)≤countMs l:=by
 conv=>rhs;rw [← List.take_append_drop k l]
 rw [countMs_append];omega
mutual
theorem countM_le:∀ m,countM m≤msize m
 | .mk k n v l=>by simp only [countM,msize];have:=countMs_le l;split <;> omega
theorem countMs_le:∀ l,countMs l≤msizes l
 | []=>Nat.le_refl _
 | a :: l=>by simp only [countMs,msizes];have:=countM_le a;have:=countMs_le l;omega
end
mutual
def sizeP:AMulti→Nat
 | .mk _ _ _ l=>sizePs 1 l
def sizePs (n:Nat):List AMulti→Nat
 | []=>n
 | a :: l=>if 4000 < n+sizeP a then n+sizeP a else sizePs (n+sizeP a) l
end
theorem sizeP_args (m:AMulti):sizeP m = sizePs 1 m.args:=by cases m;simp [sizeP,AMulti.args]
mutual
theorem sizeP_le:∀ m,sizeP m≤msize m
 | .mk _ _ _ l=>by simp only [sizeP,msize];have:=sizePs_le l 1;omega
theorem sizePs_le:∀ (l:List AMulti) (n:Nat),sizePs n l≤n+msizes l
 | [],n=>by simp [sizePs,msizes]
 | a :: l,n=>by
  simp only [sizePs,msizes]
  have h1:=sizeP_le a
  have h2:=sizePs_le l (n+sizeP a)
  split <;> omega
end
mutual
theorem sizeP_eq:∀ m,sizeP m≤4000→sizeP m = msize m
 | .mk _ _ _ l=>by simp only [sizeP,msize];exact fun h=>sizePs_eq l 1 h
theorem sizePs_eq:∀ (l:List AMulti) (n:Nat),sizePs n l≤4000→sizePs n l = n+msizes l
 | [],n=>by simp [sizePs,msizes]
 | a :: l,n=>by
  simp only [sizePs,msizes]
  intro h
  split at h
  ·omega
  ·rename_i hc
   rw [if_neg hc]
   have:=sizeP_eq a (by omega)
   rw [sizePs_eq l _ h];omega
end
theorem sizeP_gt (m:AMulti):4000 < sizeP m ↔ 4000 < msize m:=by
 constructor
 ·intro h;have:=sizeP_le m;omega
 ·intro h
  by_cases hc:sizeP m≤4000
  ·rw [sizeP_eq m hc] at hc;omega
  ·omega
mutual
def plainM:Term→AMulti
 | .mk n v l=>.mk 0 n v (plainMs l)
def plainMs:List Term→List AMulti
 | []=>[]
 | a :: l=>plainM a :: plainMs l
end
def ixS (v:Str) (l:List Str):Nat:=(idxI (fun x=>decide (v = x)) l).toNat
theorem idxI_ix {v:Str}:∀ {l:List Str},v∈l→idxI (fun x=>decide (v = x)) l = ixS v l∧ixS v l < l.length∧l.getD (ixS v l) default = v
 | [],h=>by cases h
 | x :: l,h=>by
  unfold ixS
  simp only [idxI]
  by_cases he:v = x
  ·subst he;simp
  ·have hm:v∈l:=(List.mem_cons.1 h).resolve_left he
   obtain ⟨h1,h2,h3⟩:=idxI_ix hm
   have hd:decide (v = x) = false:=by simpa using he
   simp only [hd,Bool.false_eq_true,if_false]
   rw [h1]
   have hn:¬ ((ixS v l:Nat):Int) < 0:=by omega
   have h4:(((ixS v l:Nat):Int)+1).toNat = ixS v l+1:=by omega
   simp only [hn,if_false,h4,List.length_cons]
   refine ⟨by omega,by omega,?_⟩
   simpa [List.getD_eq_getElem?_getD] using h3
mutual
def plugT (vars:List Str) (x:List Term):Term→Term
 | .mk n v l=>if v then x.getD (ixS n vars) default else .mk n false (plugTs vars x l)
def plugTs (vars:List Str) (x:List Term):List Term→List Term
 | []=>[]
 | a :: l=>plugT vars x a :: plugTs vars x l
end
theorem plugTs_map (vars:List Str) (x:List Term) (l:List Term):plugTs vars x l = l.map (plugT vars x):=by induction l with | nil=>rfl | cons a l ih=>simp [plugTs,ih]
theorem plugT_eq (vars:List Str) (x:List Term) (t:Term):plugT vars x t = if t.var then x.getD (ixS t.name vars) default else .mk t.name false (t.args.map (plugT vars x)):=by cases t;simp only [plugT,plugTs_map,Term.name,Term.var,Term.args];rfl
mutual
def sideM (r:List ARule) (f:ARule→Term):AMulti→Term
 | .mk k n v l=>if k = 0 then .mk n v (sideMs r f l) else plugT (varsOf [(r.getD (k - 1).toNat default).left]) (sideMs r f l) (f (r.getD (k - 1).toNat default))
def sideMs (r:List ARule) (f:ARule→Term):List AMulti→List Term
 | []=>[]
 | a :: l=>sideM r f a :: sideMs r f l
end
theorem sideMs_map (r:List ARule) (f:ARule→Term) (l:List AMulti):sideMs r f l = l.map (sideM r f):=by induction l with | nil=>rfl | cons a l ih=>simp [sideMs,ih]
theorem sideM_eq (r:List ARule) (f:ARule→Term) (m:AMulti):sideM r f m = if m.rule = 0 then .mk m.name m.var (m.args.map (sideM r f)) else plugT (varsOf [(ruleOf r m).left]) (m.args.map (sideM r f)) (f (ruleOf r m)):=by cases m;simp only [sideM,sideMs_map,AMulti.rule,AMulti.name,AMulti.var,AMulti.args,ruleOf];rfl
def endM (r:List ARule) (f:ARule→Term) (m:AMulti):Option Term × Int :=
 if checkM r m ≠ 0 then (none,checkM r m) else if fits (sideM r f m) then (some (sideM r f m),0) else (none,3)
structure OkM (r:List ARule) (m:AMulti):Prop where
 rg:allM (rangedM r.length) m = true
 fm:allM (formedM r) m = true
theorem OkM.arg {r:List ARule} {m a:AMulti} (h:OkM r m) (ha:a∈m.args):OkM r a:=⟨allM_arg h.rg ha,allM_arg h.fm ha⟩
theorem checkM_ok {r:List ARule} {m:AMulti} (h:checkM r m = 0):checkSystem r = 0∧OkM r m∧msize m≤4000∧mdepth m≤200:=by
 unfold checkM at h
 split at h
 ·rename_i hc;exact absurd h hc
 ·rename_i h1
  split at h
  ·cases h
  ·rename_i h2
   split at h
   ·cases h
   ·rename_i h3
    split at h
    ·cases h
    ·exact ⟨Classical.not_not.1 h1,⟨by simpa using h2,by simpa using h3⟩,by omega,by omega⟩
theorem OkM.rule {r:List ARule} {m:AMulti} (h:OkM r m) (hr:m.rule ≠ 0):0 < m.rule∧m.rule≤r.length∧ruleOf r m∈r∧m.args.length = (varsOf [(ruleOf r m).left]).length∧m.name = []∧m.var = false:=by
 have h1:=allM_self h.rg
 have h2:=allM_self h.fm
 unfold rangedM at h1
 rw [Bool.and_eq_true,decide_eq_true_eq,decide_eq_true_eq] at h1
 unfold formedM at h2
 rw [if_pos (by omega),Bool.and_eq_true,Bool.and_eq_true,decide_eq_true_eq,decide_eq_true_eq] at h2
 exact ⟨by omega,h1.2,getD_mem (by omega),h2.2.2,h2.1,by simpa using h2.2.1⟩
end Go.Dw
end
section
namespace Go.Dw
theorem slices_IndexFunc_s_Multi_Multi_s {p:AMulti→Bool} {g:Nat} {caps:List V} (hc:∀ σ,rens σ caps = caps) (l:List AMulti) (hl:l.length < 2^62) (h:∀ a∈l,PF g (encM a :: caps) (.bool (p a))) :
  PF n_slices_IndexFunc_s_Multi_Multi [encL cM 4 l,.fn (.func g) [] caps] (.int .i64 (idxI p l)):=by
 refine pf_of slices_IndexFunc_s_Multi_Multi.ok rfl ?_
 push_cast [hc]
 refine loop_up (n:=l.length) (R:=fun k=>(∀ j,j < k→p (l.getD j default) = false)→slices_IndexFunc_s_Multi_Multi.L3 (encL cM 4 l) (.fn (.func g) [] caps) (.int .i64 l.length) (.int .i64 k) 0 [] _) ?_ ?_ 0 (by omega) (by intro j hj;omega)
 ·intro k hk ih hq
  refine slices_IndexFunc_s_Multi_Multi.G3 ?_
  push_cast [ilt hk,cU8_0,cS_0,hc]
  refine .of (h _ (getD_mem hk)) ?_
  push_cast [w64 (show k < 2^62 by omega),hc]
  refine ⟨fun hp=>pf_ret ?_,fun hp=>?_⟩
  ·push_cast [slices_IndexFunc_s_Multi_Multi.rs]
   rw [idxI_some hk hp hq]
  ·exact ih fun j hj=>by rcases Nat.lt_succ_iff_lt_or_eq.1 hj with h | rfl;exact hq j h;exact hp
 ·intro hq
  refine slices_IndexFunc_s_Multi_Multi.G3 ?_
  push_cast [inlt (Nat.le_refl _)]
  refine pf_ret ?_
  push_cast [slices_IndexFunc_s_Multi_Multi.rs]
  rw [idxI_none hq]
theorem slices_ContainsFunc_s_Multi_Multi_s {p:AMulti→Bool} {g:Nat} {caps:List V} (hc:∀ σ,rens σ caps = caps) (l:List AMulti) (hl:l.length < 2^62) (h:∀ a∈l,PF g (encM a :: caps) (.bool (p a))) :
  PF n_slices_ContainsFunc_s_Multi_Multi [encL cM 4 l,.fn (.func g) [] caps] (.bool (l.any p)):=by
 refine pf_of slices_ContainsFunc_s_Multi_Multi.ok rfl ?_
 push_cast [hc]
 refine .of (slices_IndexFunc_s_Multi_Multi_s hc l hl h) ?_
 push_cast [hc]
 refine pf_ret ?_
 push_cast [slices_ContainsFunc_s_Multi_Multi.rs,idxI_any]
end Go.Dw
end
section
namespace Go.Dw
theorem put3_cM (m:AMulti) (v:V):put 3 [v] (cM m) = [.int .i64 m.rule,.str m.name,.bool m.var,v]:=by rw [cM_eq];rfl
attribute [push_cast] put3_cM
theorem multi_size_s (m:AMulti) (hs:msize m < 2^40):PF n_multi_size [encM m] (.int .i64 (sizeP m)):=by
 induction m using multi_ind with
 | h m ih =>
 refine pf_of multi_size.ok rfl ?_
 have hst:=msize_args m
 have hl:=length_le_msizes m.args
 rw [sizeP_args]
 push_cast
 refine loop_up (n:=m.args.length) (R:=fun k=>∀ v:Nat,sizePs v (m.args.drop k) = sizePs 1 m.args→v≤1+msizes (m.args.take k)→multi_size.L3 (.int .i64 v) (encMs m.args) (.int .i64 m.args.length) (.int .i64 k) 0 [] (Ends 0 multi_size.rs fun x' H'=>x' = .int .i64 (sizePs 1 m.args)∧H' = [])) ?_ ?_ 0 (Nat.zero_le _) 1 (by simp) (by omega)
 ·intro k hk ih2 v hv hb
  have h1:=msizes_take_succ _ _ hk
  have h2:=msizes_take_le m.args (k+1)
  have hm:=getD_mem hk
  have hsp:=sizeP_le (m.args.getD k default)
  have hih:=ih _ hm (by omega)
  rw [drop_getD hk] at hv
  simp only [sizePs] at hv
  generalize hx:m.args.getD k default = a at hm hv h1 hsp hih
  refine multi_size.G3 ?_
  push_cast [ilt hk,hx]
  refine .of hih ?_
  have hw:IntKind.i64.wrap ((v:Int)+(sizeP a:Int)) = ((v+sizeP a:Nat):Int):=by rw [wrap64 (by omega) (by omega)];omega
  by_cases hc:4000 < v+sizeP a
  ·rw [if_pos hc] at hv
   have hci:((4000:Int) < ((v+sizeP a:Nat):Int)) = True:=eq_true (by omega)
   rw [hv] at hw hci
   generalize sizePs 1 m.args = w at hw hci
   push_cast [hw,hci]
   exact pf_ret (by push_cast [multi_size.rs])
  ·rw [if_neg hc] at hv
   have hci:((4000:Int) < ((v+sizeP a:Nat):Int)) = False:=eq_false (by omega)
   have:=ih2 (v+sizeP a) hv (by omega)
   generalize v+sizeP a = w at hw hci this
   push_cast [hw,hci,w64 (show k < 2^62 by omega)]
   exact this
 ·intro v hv hb
  rw [drop_map_none] at hv
  refine multi_size.G3 ?_
  push_cast [inlt (Nat.le_refl _)]
  refine pf_ret ?_
  push_cast [multi_size.rs,← hv]
  rfl
theorem multi_depth_s (m:AMulti) (hs:msize m < 2^40):PF n_multi_depth [encM m] (.int .i64 (mdepth m)):=by
 induction m using multi_ind with
 | h m ih =>
 refine pf_of multi_depth.ok rfl ?_
 have hst:=msize_args m
 have hl:=length_le_msizes m.args
 have hd:=mdepths_le_msizes m.args
 push_cast
 refine loop_up (n:=m.args.length) (R:=fun k=>multi_depth.L3 (.int .i64 (mdepths (m.args.take k):Nat)) (encMs m.args) (.int .i64 m.args.length) (.int .i64 k) 0 [] _) ?_ ?_ 0 (by omega)
 ·intro k hk ih2
  have h1:=mdepths_take_succ _ _ hk
  have hm:=getD_mem hk
  have:=msize_mem hm
  refine multi_depth.G3 ?_
  push_cast [ilt hk]
  refine .of (ih _ hm (by omega)) ?_
  push_cast [w64 (show k < 2^62 by omega)]
  rw [h1] at ih2
  exact ih2
 ·refine multi_depth.G3 ?_
  push_cast [inlt (Nat.le_refl _),List.take_length]
  rw [wrap64 (by omega) (by omega)]
  refine pf_ret ?_
  push_cast [multi_depth.rs,List.take_length,mdepth_args m]
theorem multi_Count_s (m:AMulti) (hs:msize m < 2^40):PF n_multi_Count [encM m] (.int .i64 (countM m)):=by
 induction m using multi_ind with
 | h m ih =>
 refine pf_of multi_Count.ok rfl ?_
 have hst:=msize_args m
 have hl:=length_le_msizes m.args
 have hcl:=countMs_le m.args
 rw [countM_eq]
 generalize hc:(if m.rule = 0 then 0 else 1:Nat) = c
 have hc1:c≤1:=by subst hc;split <;> omega
 have h0:=loop_up (n:=m.args.length) (R:=fun k=>multi_Count.L3 (.int .i64 ((c+countMs (m.args.take k):Nat):Int)) (encMs m.args) (.int .i64 m.args.length) (.int .i64 k) 0 [] (Ends 0 multi_Count.rs fun x' H'=>x' = .int .i64 ((c+countMs m.args:Nat):Int)∧H' = [])) ?_ ?_ 0 (by omega)
 ·simp only [List.take_zero,countMs,Nat.add_zero] at h0
  by_cases hr:m.rule = 0
  ·rw [if_pos hr] at hc
   subst hc
   push_cast [hr]
   push_cast at h0
   exact h0
  ·rw [if_neg hr] at hc
   subst hc
   push_cast [eq_false hr]
   push_cast at h0
   exact h0
 ·intro k hk ih2
  have h1:=countMs_take_succ _ _ hk
  have h2:=countMs_take_le m.args (k+1)
  have hm:=getD_mem hk
  have:=msize_mem hm
  refine multi_Count.G3 ?_
  push_cast [ilt hk]
  refine .of (ih _ hm (by omega)) ?_
  push_cast [w64 (show k < 2^62 by omega)]
  rw [wrap64 (by omega) (by omega)]
  rw [h1] at ih2
  push_cast at ih2
  simpa [Int.add_assoc] using ih2
 ·refine multi_Count.G3 ?_
  push_cast [inlt (Nat.le_refl _),List.take_length]
  exact pf_ret (by push_cast [multi_Count.rs])
theorem multi_own_s (m:AMulti) (hs:msize m < 2^40):PF n_multi_own [encM m] (encM m):=by
 induction m using multi_ind with
 | h m ih =>
 refine pf_of multi_own.ok rfl ?_
 have hst:=msize_args m
 have hl:=length_le_msizes m.args
 push_cast
 refine loop_up (n:=m.args.length) (R:=fun k=>multi_own.L3 (.ptr 0 0) (.ptr 1 0) (encMs m.args) (.int .i64 m.args.length) (.int .i64 k) 0
  [.cells t_Multi [.int .i64 m.rule,.str m.name,.bool m.var,ownL cM 2 4 (m.args.take k)],.cells t_Multi [.int .i64 0,.str [],.bool false,.sl 4 []],.arr t_Multi 4 k] _) ?_ ?_ 0 (by omega)
 ·intro k hk ih2
  have hm:=getD_mem hk
  have:=msize_mem hm
  have hlt:(m.args.take k).length = k:=by simp;omega
  rw [take_succ_getD hk] at ih2
  refine multi_own.G3 ?_
  push_cast [ilt hk]
  refine .of (ih _ hm (by omega)) ?_
  push_cast [hlt,w64 (show k < 2^62 by omega)]
  refine ⟨by unfold maxEls;omega,?_⟩
  exact ih2
 ·refine multi_own.G3 ?_
  push_cast [inlt (Nat.le_refl _)]
  refine pf_ret ?_
  push_cast [multi_own.rs,List.take_length,cM_mk]
  rw [AMulti.eta]
def zM:AMulti:=.mk 0 [] false []
def encME (r:Option AMulti) (e:Int):V:=match r with
 | some m=>.tup [encM m,.int .i64 e]
 | none=>.tup [encM zM,.int .i64 e]
def fitM (m:AMulti):Bool:=decide (msize m≤4000) && decide (mdepth m≤200)
def fitE (m:AMulti):V:=if fitM m then encME (some m) 0 else encME none 3
theorem encM_z:V.agg [.int .i64 0,.str [],.bool false,.sl 4 []] = encM zM:=rfl
theorem multi_Fit_s (m:AMulti) (hs:msize m < 2^40):PF n_multi_Fit [encM m] (fitE m):=by
 have hsz:=sizeP_gt m
 refine pf_of multi_Fit.ok rfl ?_
 push_cast
 refine .of (multi_size_s m hs) ?_
 unfold fitE fitM
 by_cases h1:4000 < sizeP m
 ·have hi:((4000:Int) < (sizeP m:Int)) = True:=eq_true (by omega)
  have h1':¬ msize m≤4000:=by omega
  push_cast [hi,h1']
  exact pf_ret (by push_cast [multi_Fit.rs,encM_z];rfl)
 ·have hi:((4000:Int) < (sizeP m:Int)) = False:=eq_false (by omega)
  have h1':msize m≤4000:=by omega
  push_cast [hi]
  refine .of (multi_depth_s m hs) ?_
  by_cases h2:200 < mdepth m
  ·have hj:((200:Int) < (mdepth m:Int)) = True:=eq_true (by omega)
   have h2':¬ mdepth m≤200:=by omega
   push_cast [hj,h2']
   exact pf_ret (by push_cast [multi_Fit.rs,encM_z];rfl)
  ·have hj:((200:Int) < (mdepth m:Int)) = False:=eq_false (by omega)
   have h2':mdepth m≤200:=by omega
   push_cast [hj]
   refine .of (multi_own_s m hs) ?_
   push_cast
   exact pf_ret (by push_cast [multi_Fit.rs];simp [h1',h2'];rfl)
theorem multi_all_s {p q:AMulti→Bool} {g:Nat} {caps:List V} {B:Nat} (hc:∀ σ,rens σ caps = caps) (h:∀ a,q a = true→mb a≤B→PF g (encM a :: caps) (.bool (p a))) (hB:B < 2^40) (m:AMulti) (hq:allM q m = true) (hm:mb m≤B) :
  PF n_multi_all [encM m,.fn (.func g) [] caps] (.bool (allM p m)):=by
 induction m using multi_ind with
 | h m ih =>
 have hmb:=mb_args m
 have hsz:=msize_le_mb m
 have hst:=msize_args m
 have hl:=length_le_msizes m.args
 have hC:=slices_ContainsFunc_s_Multi_Multi_s (p:=fun a=>!allM p a) (g:=n_multi_all_1) (caps:=[.ro [.fn (.func g) [] caps] 0]) (fun σ=>by push_cast) m.args (by omega) fun a ha=>by
  refine pf_of multi_all_1.ok rfl ?_
  push_cast [hc]
  refine .of (ih a ha (allM_arg hq ha) (by have:=mb_mem ha;omega)) ?_
  push_cast
  exact pf_ret (by push_cast [multi_all_1.rs])
 refine pf_of multi_all.ok rfl ?_
 rw [allM_eq]
 push_cast [hc]
 refine .of (h m (allM_self hq) hm) ?_
 cases hp:p m with
 | false =>
  push_cast [hc]
  exact pf_ret (by push_cast [multi_all.rs])
 | true =>
  push_cast [hc]
  refine .of hC ?_
  push_cast [hc]
  exact pf_ret (by push_cast [multi_all.rs,any_not])
end Go.Dw
end
section
namespace Go.Dw
theorem multi_formed_s (r:List ARule) (m:AMulti) (hr:rbs r < 2^38) (hq:rangedM r.length m = true) (hm:mb m < 2^40):PF n_multi_formed [encRs r,encM m] (.bool (formedM r m)):=by
 have hmb:=mb_args m
 have hsz:=msize_le_mb m
 have hst:=msize_args m
 have hl:=length_le_msizes m.args
 have hI:∀ b,PF n_term_IsName [.str m.name,.bool b] (.bool (isName m.name b)):=fun b=>term_IsName_s _ b (by omega)
 unfold rangedM at hq
 rw [Bool.and_eq_true,decide_eq_true_eq,decide_eq_true_eq] at hq
 refine pf_of multi_formed.ok rfl ?_
 unfold formedM
 by_cases h1:0 < m.rule
 ·have hm1:r.getD (m.rule - 1).toNat default∈r:=getD_mem (by omega)
  have hrm:=rbs_mem hm1
  have hst:=size_le_tb (ruleOf r m).left
  have hru:r.getD (m.rule - 1).toNat default = ruleOf r m:=rfl
  have hw:IntKind.i64.wrap (m.rule - 1) = m.rule - 1:=wrap64 (by have:=length_le_rbs r;omega) (by have:=length_le_rbs r;omega)
  have hc1:((0:Int)≤m.rule - 1) = True:=eq_true (by omega)
  have hc2:(m.rule - 1 < (r.length:Int)) = True:=eq_true (by omega)
  rw [hru] at hrm
  have hV:=term_VarsOf_s [(ruleOf r m).left] (by simp [sizes];omega)
  rw [if_pos h1]
  by_cases h2:m.name = []
  ·cases h3:m.var with
   | true =>
    push_cast [eq_true h1,h2,h3]
    exact pf_ret (by push_cast [multi_formed.rs])
   | false =>
    push_cast [eq_true h1,h2,h3,hw,hc1,hc2,hru]
    refine .of hV ?_
    push_cast
    exact pf_ret (by push_cast [multi_formed.rs];exact decide_eq_decide.2 (by omega))
  ·push_cast [eq_true h1,eq_false h2]
   exact pf_ret (by push_cast [multi_formed.rs])
 ·rw [if_neg h1]
  cases hv:m.var with
  | true =>
   rw [if_pos rfl]
   by_cases h0:m.args.length = 0
   ·push_cast [eq_false h1,hv,h0]
    refine .of (hI false) ?_
    push_cast
    exact pf_ret (by push_cast [multi_formed.rs])
   ·have hi:((m.args.length:Int) = 0) = False:=eq_false (by omega)
    push_cast [eq_false h1,hv,hi]
    exact pf_ret (by push_cast [multi_formed.rs,h0])
  | false =>
   rw [if_neg (by simp)]
   by_cases h0:m.args.length≤8
   ·have hi:((m.args.length:Int)≤8) = True:=eq_true (by omega)
    push_cast [eq_false h1,hv,hi]
    refine .of (hI true) ?_
    push_cast
    exact pf_ret (by push_cast [multi_formed.rs,h0])
   ·have hi:((m.args.length:Int)≤8) = False:=eq_false (by omega)
    push_cast [eq_false h1,hv,hi]
    exact pf_ret (by push_cast [multi_formed.rs,h0])
theorem allM_true (m:AMulti):allM (fun _=>true) m = true:=by
 induction m using multi_ind with
 | h m ih=>rw [allM_eq,Bool.true_and,List.all_eq_true];exact ih
theorem Check_1_s (r:List ARule) (a:AMulti):PF n_multi_Check_1 [encM a,.ro [encRs r] 0] (.bool (rangedM r.length a)):=by
 refine pf_of multi_Check_1.ok rfl ?_
 unfold rangedM
 by_cases h:0≤a.rule
 ·push_cast [eq_true h]
  exact pf_ret (by push_cast [multi_Check_1.rs])
 ·push_cast [eq_false h]
  exact pf_ret (by push_cast [multi_Check_1.rs])
theorem Check_2_s (r:List ARule) (a:AMulti) (hr:rbs r < 2^38) (hq:rangedM r.length a = true) (hm:mb a < 2^40):PF n_multi_Check_2 [encM a,.ro [encRs r] 0] (.bool (formedM r a)):=by
 refine pf_of multi_Check_2.ok rfl ?_
 push_cast
 refine .of (multi_formed_s r a hr hq hm) ?_
 push_cast
 exact pf_ret (by push_cast [multi_Check_2.rs])
theorem multi_Check_s (r:List ARule) (m:AMulti) (hr:rbs r < 2^38) (hm:mb m < 2^39):PF n_multi_Check [encRs r,encM m] (.int .i64 (checkM r m)):=by
 have hsz:=msize_le_mb m
 have hsp:=sizeP_gt m
 refine pf_of multi_Check.ok rfl ?_
 push_cast
 refine .of (term_CheckSystem_t r hr) ?_
 generalize hT:checkM r m = T
 unfold checkM at hT
 by_cases h1:¬ checkSystem r = 0
 ·rw [if_pos h1] at hT
  subst hT
  push_cast [eq_false h1]
  exact pf_ret (by push_cast [multi_Check.rs])
 have h1:checkSystem r = 0:=Classical.not_not.1 h1
 rw [if_neg (by simpa using h1)] at hT
 push_cast [h1]
 refine .of (multi_all_s (p:=rangedM r.length) (q:=fun _=>true) (B:=2^39) (caps:=[.ro [encRs r] 0]) (fun σ=>by push_cast) (fun a _ _=>Check_1_s r a) (by omega) m (allM_true m) (by omega)) ?_
 cases h2:allM (rangedM r.length) m with
 | false =>
  rw [h2,if_pos rfl] at hT
  subst hT
  push_cast
  exact pf_ret (by push_cast [multi_Check.rs])
 | true =>
 rw [h2,if_neg (by simp)] at hT
 push_cast
 refine .of (multi_all_s (p:=formedM r) (q:=rangedM r.length) (B:=2^39) (caps:=[.ro [encRs r] 0]) (fun σ=>by push_cast) (fun a hq hb=>Check_2_s r a hr hq (by omega)) (by omega) m h2 (by omega)) ?_
 cases h3:allM (formedM r) m with
 | false =>
  rw [h3,if_pos rfl] at hT
  subst hT
  push_cast
  exact pf_ret (by push_cast [multi_Check.rs])
 | true =>
 rw [h3,if_neg (by simp)] at hT
 push_cast
 refine .of (multi_size_s m (by omega)) ?_
 by_cases h4:4000 < sizeP m
 ·have hi:((4000:Int) < (sizeP m:Int)) = True:=eq_true (by omega)
  rw [if_pos (by omega)] at hT
  subst hT
  push_cast [hi]
  exact pf_ret (by push_cast [multi_Check.rs])
 ·have hi:((4000:Int) < (sizeP m:Int)) = False:=eq_false (by omega)
  push_cast [hi]
  refine .of (multi_depth_s m (by omega)) ?_
  by_cases h5:200 < mdepth m
  ·have hj:((200:Int) < (mdepth m:Int)) = True:=eq_true (by omega)
   rw [if_pos (by omega)] at hT
   subst hT
   push_cast [hj]
   exact pf_ret (by push_cast [multi_Check.rs])
  ·have hj:((200:Int) < (mdepth m:Int)) = False:=eq_false (by omega)
   rw [if_neg (by omega)] at hT
   subst hT
   push_cast [hj]
   exact pf_ret (by push_cast [multi_Check.rs])
end Go.Dw
end
section
namespace Go.Dw
mutual
def cmpT:Term→Term→Int
 | .mk n v l,t=>if v ≠ t.var then (if v then -1 else 1) else if cmpS n t.name ≠ 0 then cmpS n t.name else if cmpI l.length t.args.length ≠ 0 then cmpI l.length t.args.length else cmpTs l t.args
def cmpTs:List Term→List Term→Int
 | [],_=>0
 | _ :: _,[]=>0
 | a :: l,b :: m=>if cmpT a b ≠ 0 then cmpT a b else cmpTs l m
end
theorem cmpT_eq (a t:Term):cmpT a t = if a.var ≠ t.var then (if a.var then -1 else 1) else if cmpS a.name t.name ≠ 0 then cmpS a.name t.name else if cmpI a.args.length t.args.length ≠ 0 then cmpI a.args.length t.args.length else cmpTs a.args t.args:=by
 cases a;simp only [cmpT];rfl
theorem cmpI_zero {a b:Int}:cmpI a b = 0 ↔ a = b:=by unfold cmpI;split <;> (try split) <;> omega
theorem cmpTs_zero:∀ (l m:List Term),l.length = m.length→(∀ a∈l,∀ b,cmpT a b = 0 ↔ a = b)→(cmpTs l m = 0 ↔ l = m)
 | [],[],_,_=>by simp [cmpTs]
 | [],_ :: _,h,_=>by simp at h
 | _ :: _,[],h,_=>by simp at h
 | a :: l,b :: m,h,hc=>by
  have ih:=cmpTs_zero l m (by simpa using h) fun x hx=>hc x (by simp [hx])
  have h1:=hc a (by simp) b
  simp only [cmpTs]
  by_cases he:a = b
  ·rw [if_neg (by simpa using h1.2 he),ih]
   simp [he]
  ·have:¬ cmpT a b = 0:=fun e=>he (h1.1 e)
   rw [if_pos this]
   simp [this,he]
theorem cmpT_zero (a:Term):∀ b,cmpT a b = 0 ↔ a = b:=by
 induction a using term_ind with
 | h a ih =>
 intro b
 rw [cmpT_eq,term_eq_iff]
 by_cases h1:a.var = b.var
 ·rw [if_neg (by simpa using h1)]
  by_cases h2:a.name = b.name
  ·rw [if_neg (by simpa using cmpS_zero.2 h2)]
   by_cases h3:a.args.length = b.args.length
   ·rw [if_neg (by simpa using cmpI_zero.2 (by omega)),cmpTs_zero _ _ h3 ih]
    simp [h1,h2]
   ·have:¬ cmpI a.args.length b.args.length = 0:=fun e=>h3 (by have:=cmpI_zero.1 e;omega)
    rw [if_pos this]
    simp only [this,false_iff,not_and]
    intro _ _ e;exact h3 (by rw [e])
  ·have:¬ cmpS a.name b.name = 0:=fun e=>h2 (cmpS_zero.1 e)
   rw [if_pos this]
   simp [this,h2]
 ·rw [if_pos h1]
  simp only [h1,false_and,and_false,iff_false]
  split <;> decide
theorem r01_Compare_s (a:Term):∀ b,tb a < 2^62→tb b < 2^62→PF n_r01_Compare [encT a,encT b] (.int .i64 (cmpT a b)):=by
 induction a using term_ind with
 | h a ih =>
 intro b ha hb
 have ha2:=tb_args a
 have hb2:=tb_args b
 have hla:=length_le_tbs a.args
 rw [cmpT_eq]
 refine pf_of r01_Compare.ok rfl ?_
 by_cases h1:a.var = b.var
 ·rw [if_neg (by simpa using h1)]
  push_cast [h1,show ∀ x y:Bool,(x != y) = !decide (x = y) from fun x y=>by cases x <;> cases y <;> rfl]
  refine .of (r01_CompareNames_s _ _ (by omega) (by omega)) ?_
  by_cases h2:cmpS a.name b.name = 0
  ·rw [if_neg (by simpa using h2)]
   push_cast [h2]
   refine .of (r01_CompareInts_s _ _) ?_
   by_cases h3:cmpI a.args.length b.args.length = 0
   ·have hll:a.args.length = b.args.length:=by have:=cmpI_zero.1 h3;omega
    rw [if_neg (by simpa using h3)]
    push_cast [h3]
    refine loop_up (n:=a.args.length) (R:=fun k=>cmpTs (a.args.drop k) (b.args.drop k) = cmpTs a.args b.args→r01_Compare.L3 (.ro (cT a) 0) (.ro (cT b) 0) (.int .i64 a.args.length) (.int .i64 k) 0 [] _) ?_ ?_ 0 (by omega) rfl
    ·intro k hk ih2 hq
     have hkb:k < b.args.length:=by omega
     rw [drop_getD hk,drop_getD hkb] at hq
     simp only [cmpTs] at hq
     have hm:=getD_mem hk
     have hmb:=getD_mem hkb
     refine r01_Compare.G3 ?_
     push_cast [ilt hk,ilt hkb]
     refine .of (ih _ hm _ (by have:=tb_mem hm;omega) (by have:=tb_mem hmb;omega)) ?_
     push_cast [w64 (show k < 2^62 by omega)]
     refine ⟨fun h=>pf_ret ?_,fun h=>ih2 ?_⟩
     ·push_cast [r01_Compare.rs]
      rw [← hq,if_pos (by simpa using h)]
     ·rw [← hq,if_neg (by simpa using h)]
    ·intro hq
     refine r01_Compare.G3 ?_
     push_cast [inlt (Nat.le_refl _)]
     refine pf_ret ?_
     push_cast [r01_Compare.rs]
     rw [← hq,drop_map_none];rfl
   ·rw [if_pos h3]
    push_cast [h3]
    exact pf_ret (by push_cast [r01_Compare.rs])
  ·rw [if_pos h2]
   push_cast [h2]
   exact pf_ret (by push_cast [r01_Compare.rs])
 ·rw [if_pos h1]
  have e:∀ x y:Bool,(x != y) = !decide (x = y):=fun x y=>by cases x <;> cases y <;> rfl
  cases hv:a.var <;> cases hv2:b.var
  ·exact absurd (hv.trans hv2.symm) h1
  ·push_cast [hv,hv2,e]
   exact pf_ret (by push_cast [r01_Compare.rs])
  ·push_cast [hv,hv2,e]
   exact pf_ret (by push_cast [r01_Compare.rs])
  ·exact absurd (hv.trans hv2.symm) h1
theorem r01_Equal_s (a b:Term) (ha:tb a < 2^62) (hb:tb b < 2^62):PF n_r01_Equal [encT a,encT b] (.bool (decide (a = b))):=by
 refine pf_of r01_Equal.ok rfl ?_
 push_cast
 refine .of (r01_Compare_s a b ha hb) ?_
 push_cast
 refine pf_ret ?_
 push_cast [r01_Equal.rs,cmpT_zero]
end Go.Dw
end
section
namespace Go.Dw
theorem depth_mem {l:List Term} {a:Term} (h:a∈l):depth a≤depths l:=by
 induction l with
 | nil=>cases h
 | cons x xs ih=>rcases List.mem_cons.1 h with rfl | h <;> simp only [depths];omega;have:=ih h;omega
end Go.Dw
end
section
namespace Go.Dw
mutual
theorem visit_sub:∀ (t:Term) (p:List Int),∀ x∈visit t p,size x.2≤size t∧x.1.length≤p.length+size t
 | .mk n v l,p,x,hx=>by
  rw [visit_eq] at hx
  rcases List.mem_cons.1 hx with rfl | hx
  ·exact ⟨Nat.le_refl _,Nat.le_add_right _ _⟩
  ·have:=visits_sub l p 0 x hx
   simp only [size]
   omega
theorem visits_sub:∀ (l:List Term) (p:List Int) (i:Nat),∀ x∈visits l p i,size x.2≤sizes l∧x.1.length≤p.length+1+sizes l
 | [],p,i,x,hx=>by simp [visits] at hx
 | a :: l,p,i,x,hx=>by
  simp only [visits,List.mem_append] at hx
  simp only [sizes]
  rcases hx with hx | hx
  ·have:=visit_sub a _ x hx
   simp only [List.length_append,List.length_singleton] at this
   omega
  ·have:=visits_sub l _ _ x hx;omega
end
end Go.Dw
end
section
namespace Go.Dw
def nodeOk (n:Str) (v:Bool) (k:Nat):Bool:=if v then decide (k = 0) && isName n false else decide (k≤8) && isName n true
theorem formed_iff {t:Term}:formed t = true ↔ nodeOk t.name t.var t.args.length = true∧∀ a∈t.args,formed a = true:=by
 rw [formed_eq]
 unfold nodeOk
 cases t.var with
 | true =>
  simp only [if_true,Bool.and_eq_true,decide_eq_true_eq]
  refine ⟨fun h=>⟨h,fun a ha=>?_⟩,fun h=>h.1⟩
  rw [List.length_eq_zero_iff.1 h.1] at ha;cases ha
 | false=>simp [and_assoc]
theorem check_iff {t:Term}:check t = 0 ↔ formed t = true∧fits t = true:=by
 unfold check
 cases formed t <;> cases fits t <;> simp
theorem checkSystem_sides {r:List ARule} (h:checkSystem r = 0):∀ x∈r,check x.left = 0∧check x.right = 0:=by
 have h1:checkRules r = 0:=by
  unfold checkSystem at h
  split at h
  ·rename_i h1;exact absurd h h1
  ·rename_i h1;simpa using h1
 unfold checkRules at h1
 split at h1
 ·omega
 ·exact checkPairs_ok h1
end Go.Dw
end
section
namespace Go.Dw
theorem rens_cTs {σ:Nat→Option Nat} {l:List Term}:(l.map cT).map (rens σ) = l.map cT:=by rw [List.map_map];rfl
end Go.Dw
end
section
namespace Go.Dw
namespace idxEdge
end idxEdge
theorem rens_cSts {σ:Nat→Option Nat} {l:List AStep}:(l.map cSt).map (rens σ) = l.map cSt:=by rw [List.map_map];rfl
attribute [push_cast] rens_cSts
end Go.Dw
end
section
namespace Go.Dw
theorem own_pos {i:Nat} {l:List (List Int)} {p:List Int}:(.own i 1 (l.map cPp++[[encP p]]):V) = ownL cPp i 1 (l++[p]):=by simp [ownL,cPp]
end Go.Dw
end
