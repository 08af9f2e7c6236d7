/-
  Contracts and lemmas for MultiDevelops: part f of 7.
-/
import Derived.Test.YtobangnijcppaaaGreatMed
import Derived.Test.YtobangnijcppaaaGreatMee
import Derived.WalkKit
import Derived.Laws.MathBits
import Derived.Test.YtobangnijcppaaaGreatMec
set_option linter.unusedVariables false
set_option linter.unusedSimpArgs false
set_option maxRecDepth 100000
section
namespace Go.Dw
theorem clone_int_p (p:List Int) (hp:p.length < 2^40):PF n_slices_Clone_s_int_int [encP p] (encP p):=by
 refine pf_of slices_Clone_s_int_int.ok rfl ?_
 push_cast
 intro c hc
 refine ⟨fun h=>?_,fun h=>⟨by rw [List.length_map];unfold maxEls;omega,?_⟩⟩
 ·have hp0:p = []:=by simpa using hc (by cases c <;> simp_all)
  subst hp0
  exact pf_ret (by push_cast [slices_Clone_s_int_int.rs];rfl)
 ·exact pf_ret (by push_cast [slices_Clone_s_int_int.rs];rfl)
end Go.Dw
end
section
namespace Go.Dw
def isV (v:Str) (x:List Int × Term):Bool:=x.2.var && decide (x.2.name = v)
def occW (v:Str) (l:List (List Int × Term)):List (List Int):=(l.filter (isV v)).map Prod.fst
def occM (t:Term) (v:Str):List (List Int):=occW v (visit t [])
theorem occW_snoc (v:Str) (l:List (List Int × Term)) (x:List Int × Term):occW v (l++[x]) = if isV v x then occW v l++[x.1] else occW v l:=by
 unfold occW
 rw [List.filter_append,List.map_append]
 cases h:isV v x <;> simp [h]
theorem occW_len (v:Str) (l:List (List Int × Term)):(occW v l).length≤l.length:=by
 unfold occW;rw [List.length_map];exact List.length_filter_le _ _
theorem multi_occurrences_s (t:Term) (v:Str) (hs:size t < 2^38):PF n_multi_occurrences [encT t,.str v] (encPs (occM t v)):=by
 refine pf_of multi_occurrences.ok rfl ?_
 push_cast
 refine .of (term_Walk_s _) ?_
 push_cast
 have hlen:=visit_len t []
 have hss:=visit_sub t []
 refine Run.rf n_term_Walk_1 [] [.ro (cT t) 0] ((visit t []).map encIt) (fun j H1=>H1 = [.cells t_s_s_int [ownL cPp 1 1 (occW v ((visit t []).take j))],.arr t_s_int 1 (occW v ((visit t []).take j)).length]) (fun _ _=>False) rfl (term_Walk_iter t (by omega)) ?_ rfl ?_ ?_ (fun _ _ h=>h.elim) ?_ ?_ (fun _ _ h=>h.elim)
 ·intro it hit
  obtain ⟨x,_,rfl⟩:=List.mem_map.1 hit
  rfl
 ·push_cast
 ·rintro j H1 rfl
  refine ⟨rfl,?_⟩
  push_cast
 ·rintro lo r j it H1 hit rfl
  rw [List.getElem?_map] at hit
  cases hx:(visit t [])[j]? with
  | none=>rw [hx] at hit;cases hit
  | some x =>
  rw [hx] at hit
  have hit:it = encIt x:=by simpa using hit.symm
  subst hit
  have hj:j < (visit t []).length:=(List.getElem?_eq_some_iff.1 hx).1
  have hxj:(visit t [])[j] = x:=(List.getElem?_eq_some_iff.1 hx).2
  have htk:(visit t []).take (j+1) = (visit t []).take j++[x]:=by rw [List.take_succ_eq_append_getElem hj,hxj]
  have hxl:=(hss x (List.mem_of_getElem? hx)).2
  have hol:=occW_len v ((visit t []).take j)
  rw [List.length_take] at hol
  have hsn:=occW_snoc v ((visit t []).take j) x
  rw [← htk] at hsn
  push_cast [setPs,encIt]
  refine run_m.2 ?_
  cases hv:x.2.var with
  | false =>
   have hvs:occW v ((visit t []).take (j+1)) = occW v ((visit t []).take j):=by rw [hsn];simp [isV,hv]
   push_cast [hv]
   refine ⟨rfl,?_⟩
   push_cast [cut,hvs]
  | true =>
   by_cases hn:x.2.name = v
   ·have hvs:occW v ((visit t []).take (j+1)) = occW v ((visit t []).take j)++[x.1]:=by rw [hsn];simp [isV,hv,hn]
    push_cast [hv,hn]
    refine .of (clone_int_p x.1 (by simp at hxl;omega)) ?_
    push_cast
    refine ⟨by unfold maxEls;omega,?_⟩
    rw [own_pos]
    refine ⟨rfl,?_⟩
    push_cast [cut,hvs,List.length_append]
   ·have hvs:occW v ((visit t []).take (j+1)) = occW v ((visit t []).take j):=by rw [hsn];simp [isV,hv,hn]
    push_cast [hv,eq_false hn]
    refine ⟨rfl,?_⟩
    push_cast [cut,hvs]
 ·rintro H1 rfl
  have:(visit t []).take ((visit t []).map encIt).length = visit t []:=by rw [List.length_map,List.take_length]
  rw [this]
  push_cast
  exact pf_ret (by push_cast [multi_occurrences.rs];rfl)
end Go.Dw
end
section
namespace Go.Dw
namespace idxTm
def nd:Nat→C
 | 0=>.seq (.reg [.mv 4 (.i (-1))]) (.ret)
 | 1=>.gh [.ks 0 [0,1,7,8]] (.m 3)
 | 2=>.seq (.blk 1 (.seq (.reg [.mv 10 (.s 8),.mv 5 (.s 10)]) (.seq (.reg [.mv 11 (.s 1),.mv 12 (.s 0),.mv 13 (.s 5),.ia 14 3 (.s 12) (.s 13),.la 15 3 (.s 14),.callv (some 16) (.s 11) [.s 15]]) (.cond (.s 16) (.seq (.reg [.mv 17 (.s 5),.mv 4 (.s 17)]) (.ret)) (.skip))))) (.reg [.bin 18 .add (.s 8) (.i 1),.mv 8 (.s 18)])
 | 3=>.seq (.reg [.bin 9 .lss (.s 8) (.s 7)]) (.seq (.cond (.s 9) (.skip) (.exit 0)) (.n 2))
 | _=>.skip
def body:C:=.seq (.reg [.mv 4 (.i 0)]) (.seq (.seq (.reg [.mv 6 (.s 0),.len 7 (.s 6),.mv 8 (.i 0)]) (.blk 0 (.loop (.n 1)))) (.n 0))
def rs:List RV:=[.t 4]
attribute [push_cast] nd body
theorem ok:okF prog n_slices_IndexFunc_s_Term_Term nd body 2 rs = true:=by kernel_rfl
abbrev L3 (v0 v1 v7 v8:V) (B:Nat) (H:List Ob) (Q:X→T→List Ob→Prop):Prop:=Run prog nd B [.c (.m 3),.c (.loop (.n 1)),.mk 0,.c (.n 0)] [(0,v0),(1,v1),(7,v7),(8,v8)] H Q
theorem G3 {v0 v1 v7 v8:V} {B:Nat} {H:List Ob} {Q:X→T→List Ob→Prop} (h:Run prog nd B [.c (nd 3),.c (.loop (.n 1)),.mk 0,.c (.n 0)] [(0,v0),(1,v1),(7,v7),(8,v8)] H Q):L3 v0 v1 v7 v8 B H Q:=run_m.2 h
end idxTm
namespace cntTm
def nd (_:Nat):C:=.skip
def body:C:=.seq (.reg [.mv 4 (.c (.bool false))]) (.seq (.reg [.mv 5 (.s 0),.mv 6 (.s 1),.call (some 7) n_slices_IndexFunc_s_Term_Term [.s 5,.s 6],.bin 8 .geq (.s 7) (.i 0),.mv 4 (.s 8)]) (.ret))
def rs:List RV:=[.t 4]
attribute [push_cast] nd body
theorem ok:okF prog n_slices_ContainsFunc_s_Term_Term nd body 2 rs = true:=by kernel_rfl
end cntTm
def stF {S:Type} (F:S→Term→S × Bool) (s:S):List Term→S × Bool
 | []=>(s,false)
 | a :: l=>if (F s a).2 then ((F s a).1,true) else stF F (F s a).1 l
def ixF {S:Type} (F:S→Term→S × Bool) (s:S) (k:Nat):List Term→Int
 | []=>-1
 | a :: l=>if (F s a).2 then k else ixF F (F s a).1 (k+1) l
theorem ixF_st {S:Type} (F:S→Term→S × Bool):∀ (l:List Term) (s:S) (k:Nat),0≤ixF F s k l ↔ (stF F s l).2 = true
 | [],s,k=>by simp [ixF,stF]
 | a :: l,s,k=>by
  unfold ixF stF
  by_cases h:(F s a).2 = true
  ·rw [if_pos h,if_pos h];simp
  ·rw [if_neg h,if_neg h];exact ixF_st F l _ _
section
variable {S:Type} {F:S→Term→S × Bool} {Hs:S→List Ob} {Inv:S→Prop} {g n:Nat} {caps:List V} (hn:∀ s,(Hs s).length = n) (hc:rens (clip n) caps = caps) (hH:∀ s,(Hs s).map (renOb (clip n)) = Hs s)
 (l:List Term) (hl:l.length < 2^62) (h:∀ a∈l,∀ s,Inv s→Spec prog g (encT a :: caps) (Hs s) fun x H'=>x = .bool (F s a).2∧H' = Hs (F s a).1) (hi:∀ a∈l,∀ s,Inv s→(F s a).2 = false→Inv (F s a).1)
include hn hc hH hl h hi
theorem IndexFunc_st (s0:S) (h0:Inv s0):Spec prog n_slices_IndexFunc_s_Term_Term [encTs l,.fn (.func g) [] caps] (Hs s0) fun x H'=>x = .int .i64 (ixF F s0 0 l)∧H' = Hs (stF F s0 l).1:=by
 have htk:∀ s,(Hs s).take n = Hs s:=fun s=>List.take_of_length_le (by rw [hn];exact Nat.le_refl _)
 refine spec_of_run mixed idxTm.ok rfl ?_
 push_cast [hc,hH,hn,htk]
 refine loop_up (n:=l.length) (R:=fun k=>∀ s,Inv s→ixF F s k (l.drop k) = ixF F s0 0 l→stF F s (l.drop k) = stF F s0 l→idxTm.L3 (encTs l) (.fn (.func g) [] caps) (.int .i64 l.length) (.int .i64 k) n (Hs s) (Ends n idxTm.rs fun x H'=>x = .int .i64 (ixF F s0 0 l)∧H' = Hs (stF F s0 l).1)) ?_ ?_ 0 (Nat.zero_le _) s0 h0 rfl rfl
 ·intro k hk ih s hs hq1 hq2
  refine idxTm.G3 ?_
  have hm:=getD_mem hk
  rw [drop_getD hk] at hq1 hq2
  generalize hx:l.getD k default = a at hm hq1 hq2
  simp only [ixF,stF] at hq1 hq2
  push_cast [ilt hk,hx]
  refine CallG.all (R:=fun x H'=>x = .bool (F s a).2∧H' = Hs (F s a).1) (h a hm s hs) ?_
  rintro x H' ⟨rfl,rfl⟩
  cases hp:(F s a).2 with
  | true =>
   rw [hp,if_pos rfl] at hq1 hq2
   push_cast
   exact ends_all (.inl rfl) rfl ⟨by rw [← hq1];rfl,by rw [← hq2]⟩
  | false =>
   rw [hp,if_neg (by simp)] at hq1 hq2
   push_cast [hc,hH,hn,htk,w64 (show k < 2^62 by omega)]
   have:=ih _ (hi a hm s hs hp) hq1 hq2
   push_cast at this
   exact this
 ·intro s hs hq1 hq2
  refine idxTm.G3 ?_
  push_cast [inlt (Nat.le_refl _)]
  rw [drop_map_none] at hq1 hq2
  exact ends_all (.inl rfl) rfl ⟨by rw [← hq1];rfl,by rw [← hq2];rfl⟩
theorem ContainsFunc_st (s0:S) (h0:Inv s0):Spec prog n_slices_ContainsFunc_s_Term_Term [encTs l,.fn (.func g) [] caps] (Hs s0) fun x H'=>x = .bool (stF F s0 l).2∧H' = Hs (stF F s0 l).1:=by
 refine spec_of_run mixed cntTm.ok rfl ?_
 push_cast
 refine CallG.all (R:=fun x H'=>x = .int .i64 (ixF F s0 0 l)∧H' = Hs (stF F s0 l).1) (IndexFunc_st hn hc hH l hl h hi s0 h0) ?_
 rintro x H' ⟨rfl,rfl⟩
 push_cast
 have hd:decide (0≤ixF F s0 0 l) = (stF F s0 l).2:=by
  have:=ixF_st F l s0 0
  cases hq:(stF F s0 l).2 with
  | true=>rw [hq] at this;simpa using this
  | false=>rw [hq] at this;simpa using this
 rw [hn]
 exact ends_all (.inl rfl) rfl ⟨by rw [← hd];rfl,rfl⟩
end
mutual
def cntT (n:Int):Term→Int × Bool
 | .mk _ _ l=>if n - 1 < 0 then (n - 1,true) else cntTs (n - 1) l
def cntTs (n:Int):List Term→Int × Bool
 | []=>(n,false)
 | a :: l=>if (cntT n a).2 then ((cntT n a).1,true) else cntTs (cntT n a).1 l
end
theorem cntT_eq (n:Int) (t:Term):cntT n t = if n - 1 < 0 then (n - 1,true) else cntTs (n - 1) t.args:=by cases t;rfl
theorem cntTs_st (n:Int) (l:List Term):cntTs n l = stF cntT n l:=by
 induction l generalizing n with
 | nil=>rfl
 | cons a l ih=>simp only [cntTs,stF,ih]
mutual
theorem cntT_law:∀ (t:Term) (n:Int),0≤n→((size t:Int)≤n→cntT n t = (n - size t,false))∧(n < (size t:Int)→(cntT n t).2 = true)
 | .mk x v l,n,hn=>by
  have hs:size (.mk x v l) = 1+sizes l:=rfl
  rw [hs]
  simp only [cntT]
  by_cases h:n - 1 < 0
  ·rw [if_pos h]
   exact ⟨fun h2=>by omega,fun _=>rfl⟩
  ·rw [if_neg h]
   have:=cntTs_law l (n - 1) (by omega)
   refine ⟨fun h2=>?_,fun h2=>this.2 (by omega)⟩
   rw [this.1 (by omega)]
   congr 1;omega
theorem cntTs_law:∀ (l:List Term) (n:Int),0≤n→((sizes l:Int)≤n→cntTs n l = (n - sizes l,false))∧(n < (sizes l:Int)→(cntTs n l).2 = true)
 | [],n,hn=>⟨fun _=>by simp [cntTs,sizes],fun h=>by simp [sizes] at h;omega⟩
 | a :: l,n,hn=>by
  have hs:sizes (a :: l) = size a+sizes l:=rfl
  rw [hs]
  simp only [cntTs]
  have h1:=cntT_law a n hn
  by_cases h2:(size a:Int)≤n
  ·have h3:=cntTs_law l (n - size a) (by omega)
   rw [h1.1 h2]
   simp only [Bool.false_eq_true,if_false]
   refine ⟨fun h4=>?_,fun h4=>h3.2 (by omega)⟩
   rw [h3.1 (by omega)]
   congr 1;omega
  ·rw [h1.2 (by omega),if_pos rfl]
   exact ⟨fun h4=>by omega,fun _=>rfl⟩
end
theorem cntT_inv {n:Int} {t:Term} (hn:0≤n∧n≤4000) (h:(cntT n t).2 = false):0≤(cntT n t).1∧(cntT n t).1≤4000:=by
 have:=cntT_law t n hn.1
 by_cases h2:(size t:Int)≤n
 ·rw [this.1 h2];simp;omega
 ·rw [this.2 (by omega)] at h;cases h
mutual
def wide:Term→Nat
 | .mk _ _ l=>max l.length (wides l)
def wides:List Term→Nat
 | []=>0
 | a :: l=>max (wide a) (wides l)
end
theorem wide_args (t:Term):t.args.length≤wide t∧wides t.args≤wide t:=by cases t;simp only [wide,Term.args];omega
theorem wide_mem {l:List Term} {a:Term} (h:a∈l):wide a≤wides l:=by
 induction l with
 | nil=>cases h
 | cons x xs ih=>rcases List.mem_cons.1 h with rfl | h <;> simp only [wides];omega;have:=ih h;omega
def largeH (n:Int):List Ob:=[.cells t_int [.int .i64 n],.cells t_func_Term_bool [.fn (.func n_multi_large_1) [] [.ptr 0 0,.ptr 1 0]]]
theorem largeH_keep (n:Int):(largeH n).map (renOb (clip 2)) = largeH n:=rfl
theorem multi_large_1_s (W:Nat) (hW:W < 2^60) (t:Term) (hw:wide t≤W):∀ n:Int,0≤n∧n≤4000→Spec prog n_multi_large_1 [encT t,.ptr 0 0,.ptr 1 0] (largeH n) fun x H'=>x = .bool (cntT n t).2∧H' = largeH (cntT n t).1:=by
 induction t using term_ind with
 | h t ih =>
 intro n hn
 have hwa:=wide_args t
 have hw1:IntKind.i64.wrap (n - 1) = n - 1:=wrap64 (by omega) (by omega)
 refine spec_of_run mixed multi_large_1.ok rfl ?_
 rw [cntT_eq]
 by_cases h:n - 1 < 0
 ·rw [if_pos h]
  unfold largeH
  push_cast [hw1,eq_true h]
  exact ends_all (.inl rfl) rfl ⟨rfl,rfl⟩
 ·rw [if_neg h,cntTs_st]
  have hC:=ContainsFunc_st (S:=Int) (F:=cntT) (Hs:=largeH) (Inv:=fun n=>0≤n∧n≤4000) (g:=n_multi_large_1) (n:=2) (caps:=[.ptr 0 0,.ptr 1 0]) (fun _=>rfl) rfl largeH_keep t.args (by omega)
   (fun a ha s hs=>ih a ha (by have:=wide_mem ha;omega) s hs) (fun a ha s hs hf=>cntT_inv hs hf) (n - 1) (by omega)
  unfold largeH at hC ⊢
  push_cast [hw1,eq_false h]
  refine CallG.all (R:=fun x H'=>x = .bool (stF cntT (n - 1) t.args).2∧H' = [.cells t_int [.int .i64 (stF cntT (n - 1) t.args).1],.cells t_func_Term_bool [.fn (.func n_multi_large_1) [] [.ptr 0 0,.ptr 1 0]]]) hC ?_
  rintro x H' ⟨rfl,rfl⟩
  push_cast
  exact ends_all (.inl rfl) rfl ⟨rfl,rfl⟩
theorem multi_large_s (t:Term) (hw:wide t < 2^60):PF n_multi_large [encT t] (.bool (decide (4000 < size t))):=by
 refine pf_of multi_large.ok rfl ?_
 push_cast
 have hL:=multi_large_1_s _ hw t (Nat.le_refl _) 4000 (by omega)
 unfold largeH at hL
 refine CallG.all (R:=fun x H'=>x = .bool (cntT 4000 t).2∧H' = [.cells t_int [.int .i64 (cntT 4000 t).1],.cells t_func_Term_bool [.fn (.func n_multi_large_1) [] [.ptr 0 0,.ptr 1 0]]]) hL ?_
 rintro x H' ⟨rfl,rfl⟩
 push_cast
 refine pf_ret ?_
 push_cast [multi_large.rs]
 have:=cntT_law t 4000 (by omega)
 by_cases h:4000 < size t
 ·rw [this.2 (by omega)];simpa using h
 ·rw [this.1 (by omega)];simpa using h
end Go.Dw
end
section
namespace Go.Dw
section
variable {P:Program} {N:Nat→C} {B:Nat} {ds:List Nat} {g l:List S} {s:List K} {t:T} {H:List Ob} {Q:X→T→List Ob→Prop}
theorem gP_tt:gP P N B true ds g l s t H Q (.bool true) = Run P N B (.r (g++l) :: s) t H Q:=by simp [gP]
theorem gP_ff:gP P N B false ds g l s t H Q (.bool false) = Run P N B (.r (g++l) :: s) t H Q:=by simp [gP]
theorem gP_tf:gP P N B true ds g l s t H Q (.bool false) = Run P N B (.r l :: s) (ds.map (fun d=>(d,V.tup []))++t) H Q:=by simp [gP]
theorem gP_ft:gP P N B false ds g l s t H Q (.bool true) = Run P N B (.r l :: s) (ds.map (fun d=>(d,V.tup []))++t) H Q:=by simp [gP]
theorem cP_t {a b:C}:cP P N B a b s t H Q (.bool true) = Run P N B (.c a :: s) t H Q:=by simp [cP]
theorem cP_f {a b:C}:cP P N B a b s t H Q (.bool false) = Run P N B (.c b :: s) t H Q:=by simp [cP]
end
end Go.Dw
end
section
namespace Go.Dw
theorem occ_eq (v:Str) (t:Term):occ v t = ((t.var && decide (t.name = v)) || occs v t.args):=by cases t;rfl
theorem occs_mem {v:Str} {l:List Term} {a:Term} (h:a∈l) (ho:occ v a = true):occs v l = true:=by
 induction l with
 | nil=>cases h
 | cons x xs ih =>
  simp only [occs,Bool.or_eq_true]
  rcases List.mem_cons.1 h with rfl | h
  ·exact .inl ho
  ·exact .inr (ih h)
theorem occ_arg {v:Str} {t a:Term} (h:a∈t.args) (ho:occ v a = true):occ v t = true:=by rw [occ_eq,occs_mem h ho,Bool.or_true]
theorem occ_self {t:Term} (h:t.var = true):occ t.name t = true:=by rw [occ_eq,h];simp
theorem multi_plug_s (vars:List Str) (x:List Term) (hva:vars.length≤x.length) (hl:vars.length < 2^40) (t:Term) (ht:size t < 2^40) (ho:∀ v,occ v t = true→v∈vars):PF n_multi_plug [encT t,encSs vars,encTs x] (encT (plugT vars x t)):=by
 induction t using term_ind with
 | h t ih =>
 have hst:=size_args t
 have hll:=length_le_sizes t.args
 refine pf_of multi_plug.ok rfl ?_
 rw [plugT_eq]
 cases hv:t.var with
 | true =>
  obtain ⟨h1,h2,h3⟩:=idxI_ix (ho _ (occ_self hv))
  have hI:=slices_Index_str_s vars t.name (by omega)
  rw [h1] at hI
  have hlt:((ixS t.name vars:Int) < (x.length:Int)) = True:=eq_true (by omega)
  push_cast [hv]
  refine .of hI ?_
  push_cast [hlt]
  exact pf_ret (by push_cast [multi_plug.rs])
 | false =>
  push_cast [hv]
  refine loop_up (n:=t.args.length) (R:=fun k=>multi_plug.L3 (encSs vars) (encTs x) (.ptr 0 0) (.ptr 1 0) (encTs t.args) (.int .i64 t.args.length) (.int .i64 k) 0 [.cells t_Term [.str [],.bool false,.sl 3 []],.cells t_Term [.str t.name,.bool false,ownL cT 2 3 ((t.args.take k).map (plugT vars x))],.arr t_Term 3 k] _) ?_ ?_ 0 (by omega)
  ·intro k hk ih2
   have hm:=getD_mem hk
   have hm2:=size_mem hm
   have hlen:((t.args.take k).map (plugT vars x)).length = k:=by simp;omega
   rw [take_succ_getD hk,List.map_append,List.map_singleton] at ih2
   refine multi_plug.G3 ?_
   push_cast [ilt hk]
   refine .of (ih _ hm (by omega) fun v hv2=>ho v (occ_arg hm hv2)) ?_
   push_cast [hlen,w64 (show k < 2^62 by omega)]
   exact ⟨Nat.le_trans (Nat.mul_le_mul_right 48 (show _≤2^41 by omega)) (by unfold maxEls;decide),ih2⟩
  ·refine multi_plug.G3 ?_
   push_cast [inlt (Nat.le_refl _)]
   refine pf_ret ?_
   push_cast [multi_plug.rs,List.take_length,cT_mk]
   try rfl
theorem multi_side_s (r:List ARule) (f:ARule→Term) (g:Nat) (hr:rbs r < 2^38) (hof:∀ x∈r,PF g [encR x] (encT (f x))) (hsz:∀ x∈r,size (f x) < 2^40) (hvs:∀ x∈r,∀ v,occ v (f x) = true→v∈varsOf [x.left]) (m:AMulti) (hok:OkM r m) (hm:msize m < 2^39) :
  PF n_multi_side [encRs r,encM m,.fn (.func g) [] []] (encT (sideM r f m)):=by
 induction m using multi_ind with
 | h m ih =>
 have hst:=msize_args m
 have hll:=length_le_msizes m.args
 refine pf_of multi_side.ok rfl ?_
 rw [sideM_eq]
 push_cast
 refine loop_up (n:=m.args.length) (R:=fun k=>multi_side.L4 (encRs r) (.fn (.func g) [] []) (.ro (cM m) 0) (.ptr 0 0) (ownL cT 1 3 ((m.args.take k).map (sideM r f))) (encMs m.args) (.int .i64 m.args.length) (.int .i64 k) 0 [.cells t_Term [.str [],.bool false,.sl 3 []],.arr t_Term 3 k] _) ?_ ?_ 0 (by omega)
 ·intro k hk ih2
  have hmm:=getD_mem hk
  have hm2:=msize_mem hmm
  have hlen:((m.args.take k).map (sideM r f)).length = k:=by simp;omega
  rw [take_succ_getD hk,List.map_append,List.map_singleton] at ih2
  refine multi_side.G4 ?_
  push_cast [ilt hk]
  refine .of (ih _ hmm (hok.arg hmm) (by omega)) ?_
  push_cast [hlen,w64 (show k < 2^62 by omega)]
  exact ⟨Nat.le_trans (Nat.mul_le_mul_right 48 (show _≤2^41 by omega)) (by unfold maxEls;decide),ih2⟩
 ·refine multi_side.G4 ?_
  push_cast [inlt (Nat.le_refl _),List.take_length]
  by_cases h0:m.rule = 0
  ·push_cast [eq_true h0]
   refine pf_ret ?_
   push_cast [multi_side.rs]
   show V.agg [.str m.name,.bool m.var,encTs (m.args.map (sideM r f))] = encT (.mk m.name m.var (m.args.map (sideM r f)))
   unfold encT;rw [cT_eq];rfl
  ·obtain ⟨k1,k2,k3,k4,k5,k6⟩:=hok.rule h0
   have hw:IntKind.i64.wrap (m.rule - 1) = m.rule - 1:=wrap64 (by have:=length_le_rbs r;omega) (by have:=length_le_rbs r;omega)
   have hc1:((0:Int)≤m.rule - 1) = True:=eq_true (by omega)
   have hc2:(m.rule - 1 < (r.length:Int)) = True:=eq_true (by omega)
   have hru:r.getD (m.rule - 1).toNat default = ruleOf r m:=rfl
   have hrm:=rbs_mem k3
   have hsl:=size_le_tb (ruleOf r m).left
   have hV:=term_VarsOf_s [(ruleOf r m).left] (by simp [sizes];omega)
   push_cast [eq_false h0,hw,hc1,hc2,hru]
   refine .of (hof _ k3) ?_
   push_cast
   refine .of hV ?_
   push_cast
   refine .of (multi_plug_s (varsOf [(ruleOf r m).left]) (m.args.map (sideM r f)) (by rw [List.length_map,k4];exact Nat.le_refl _) (by rw [← k4];omega) _ (hsz _ k3) (hvs _ k3)) ?_
   push_cast
   exact pf_ret (by push_cast [multi_side.rs])
theorem wides_map {α:Type} {f:α→Term} {W:Nat}:∀ {l:List α},(∀ a∈l,wide (f a)≤W)→wides (l.map f)≤W
 | [],_=>by simp [wides]
 | a :: l,h=>by
  simp only [List.map_cons,wides]
  have h1:=h a (by simp)
  have h2:=wides_map (f:=f) (l:=l) fun b hb=>h b (by simp [hb])
  omega
theorem wides_getD {l:List Term} {k:Nat}:wide (l.getD k default)≤wides l:=by
 by_cases h:k < l.length
 ·exact wide_mem (getD_mem h)
 ·rw [List.getD_eq_getElem?_getD,List.getElem?_eq_none (by omega)]
  exact Nat.zero_le _
theorem wide_plug (vars:List Str) (x:List Term) (t:Term):wide (plugT vars x t)≤max (wides x) (size t):=by
 induction t using term_ind with
 | h t ih =>
  rw [plugT_eq]
  have hst:=size_args t
  have hll:=length_le_sizes t.args
  split
  ·have:=wides_getD (l:=x) (k:=ixS t.name vars);omega
  ·simp only [wide,List.length_map]
   have:=wides_map (f:=plugT vars x) (W:=max (wides x) (size t)) (l:=t.args) fun a ha=>by
    have:=ih a ha
    have:=size_mem ha
    omega
   omega
theorem wide_side (r:List ARule) (f:ARule→Term) {W:Nat} (hsz:∀ x∈r,size (f x)≤W) (m:AMulti) (hok:OkM r m) (hm:msize m≤W):wide (sideM r f m)≤W:=by
 induction m using multi_ind with
 | h m ih =>
  rw [sideM_eq]
  have hst:=msize_args m
  have hll:=length_le_msizes m.args
  have hw:=wides_map (f:=sideM r f) (W:=W) (l:=m.args) fun a ha=>ih a ha (hok.arg ha) (by have:=msize_mem ha;omega)
  split
  ·simp only [wide,List.length_map];omega
  ·rename_i h0
   have:=wide_plug (varsOf [(ruleOf r m).left]) (m.args.map (sideM r f)) (f (ruleOf r m))
   have:=hsz _ (hok.rule h0).2.2.1
   omega
theorem multi_end_s (r:List ARule) (f:ARule→Term) (g:Nat) (m:AMulti) (hr:rbs r < 2^38) (hm:mb m < 2^38) (hof:∀ x∈r,PF g [encR x] (encT (f x))) (hsz:∀ x∈r,size (f x) < 2^40) (hvs:checkSystem r = 0→∀ x∈r,∀ v,occ v (f x) = true→v∈varsOf [x.left]) :
  PF n_multi_end [encRs r,encM m,.fn (.func g) [] []] (encTE (endM r f m).1 (endM r f m).2):=by
 have hmz:=msize_le_mb m
 refine pf_of multi_end.ok rfl ?_
 push_cast
 refine .of (multi_Check_s r m hr (by omega)) ?_
 unfold endM
 by_cases h1:¬ checkM r m = 0
 ·rw [if_pos h1]
  push_cast [eq_false h1]
  exact pf_ret (by push_cast [multi_end.rs];rfl)
 have h1:checkM r m = 0:=Classical.not_not.1 h1
 rw [if_neg (by simpa using h1)]
 obtain ⟨c1,c2,c3,c4⟩:=checkM_ok h1
 have hS:=multi_side_s r f g hr hof hsz (hvs c1) m c2 (by omega)
 have hwd:=wide_side r f (W:=2^40) (fun x hx=>by have:=hsz x hx;omega) m c2 (by omega)
 generalize sideM r f m = t at hS hwd
 push_cast [h1]
 refine .of hS ?_
 push_cast
 refine .of (multi_large_s t (by omega)) ?_
 by_cases h2:4000 < size t
 ·have hf:fits t = false:=by unfold fits;simp;omega
  rw [hf]
  push_cast [eq_true h2]
  exact pf_ret (by push_cast [multi_end.rs];rfl)
 ·push_cast [eq_false h2]
  refine .of (term_Own_s t (by omega)) ?_
  push_cast
  refine .of (term_Fit_s t (by omega)) ?_
  cases hf:fits t with
  | true =>
   rw [if_pos rfl,if_pos rfl]
   unfold encTE
   push_cast
   exact pf_ret (by push_cast [multi_end.rs];try rfl)
  | false =>
   rw [if_neg (by simp),if_neg (by simp)]
   unfold encTE
   push_cast
   exact pf_ret (by push_cast [multi_end.rs];try rfl)
theorem varsOf_left (x:ARule):∀ v,occ v x.left = true→v∈varsOf [x.left]:=fun v h=>(mem_varsOf v x.left).2 h
theorem varsOf_right {r:List ARule} (h:checkSystem r = 0):∀ x∈r,∀ v,occ v x.right = true→v∈varsOf [x.left]:=by
 unfold checkSystem at h
 split at h
 ·rename_i h1;exact absurd h h1
 ·split at h
  ·cases h
  ·split at h
   ·cases h
   ·split at h
    ·cases h
    ·rename_i h3
     intro x hx v hv
     have h4:extra x = false:=by
      cases he:extra x with
      | false=>rfl
      | true=>exact absurd (List.any_eq_true.2 ⟨x,hx,he⟩) h3
     unfold extra at h4
     simp only [Bool.or_eq_false_iff] at h4
     have:=List.any_eq_false.1 h4.2 v ((mem_varsOf v x.right).2 hv)
     simpa using this
theorem multi_Source_1_s (x:ARule):PF n_multi_Source_1 [encR x] (encT x.left):=by
 refine pf_of multi_Source_1.ok rfl ?_
 push_cast
 exact pf_ret (by push_cast [multi_Source_1.rs];try rfl)
theorem multi_Target_1_s (x:ARule):PF n_multi_Target_1 [encR x] (encT x.right):=by
 refine pf_of multi_Target_1.ok rfl ?_
 push_cast
 exact pf_ret (by push_cast [multi_Target_1.rs];try rfl)
theorem multi_Source_s (r:List ARule) (m:AMulti) (hr:rbs r < 2^38) (hm:mb m < 2^38):PF n_multi_Source [encRs r,encM m] (encTE (endM r ARule.left m).1 (endM r ARule.left m).2):=by
 refine pf_of multi_Source.ok rfl ?_
 have hE:=multi_end_s r ARule.left n_multi_Source_1 m hr hm (fun x _=>multi_Source_1_s x) (fun x hx=>by have:=rbs_mem hx;have:=size_le_tb x.left;omega) (fun _ x _=>varsOf_left x)
 push_cast
 refine .of hE ?_
 generalize (endM r ARule.left m) = p
 obtain ⟨o,e⟩:=p
 cases o <;> (unfold encTE;push_cast;exact pf_ret (by push_cast [multi_Source.rs];try rfl))
theorem multi_Target_s (r:List ARule) (m:AMulti) (hr:rbs r < 2^38) (hm:mb m < 2^38):PF n_multi_Target [encRs r,encM m] (encTE (endM r ARule.right m).1 (endM r ARule.right m).2):=by
 refine pf_of multi_Target.ok rfl ?_
 have hE:=multi_end_s r ARule.right n_multi_Target_1 m hr hm (fun x _=>multi_Target_1_s x) (fun x hx=>by have:=rbs_mem hx;have:=size_le_tb x.right;omega) (fun h=>varsOf_right h)
 push_cast
 refine .of hE ?_
 generalize (endM r ARule.right m) = p
 obtain ⟨o,e⟩:=p
 cases o <;> (unfold encTE;push_cast;exact pf_ret (by push_cast [multi_Target.rs];try rfl))
end Go.Dw
end
section
namespace Go.Proofs
open Go.RowKit
set_option maxHeartbeats 4000000 in
set_option maxRecDepth 100000 in
theorem Tryz.len64_2 (w:World):Calls Tryz.prog 241 #[.int .u64 2] w fun e w'=>e = .returned (.int .i64 2)∧w' = w:=by
 go_enter Tryz.func241,Tryz.ntmps241
 go_wp2
 go_ret
 exact ⟨by kernel_rfl,rfl⟩
set_option maxHeartbeats 4000000 in
set_option maxRecDepth 100000 in
theorem Tryz.len_2 (w:World):Calls Tryz.prog 173 #[.int .u64 2] w fun e w'=>e = .returned (.int .i64 2)∧w' = w:=by
 have hm:=Tryz.len64_2
 go_enter Tryz.func173,Tryz.ntmps173
 go_wp2_with (go_at_call 241;refine (hm _).mono ?_;rintro e w' ⟨rfl,rfl⟩)
 go_ret
 exact ⟨rfl,rfl⟩
end Go.Proofs
namespace Go.Dw
open Go.Proofs
theorem len_in (args:Array Value) (w:World):(callFunc 173 args).run Tryz.prog w = .ok (.enter 173 args) w:=enters_of (P:=Tryz.prog) Tryz.func173 (by kernel_rfl) rfl args w
theorem bits_Len_2:PF n_bits_Len [.int .u64 2] (.int .i64 2):=by
 intro c vs hH hc hr
 obtain ⟨v,vs1,rfl,h1,h2⟩:=hr
 have h1:v = .int .u64 2:=h1
 have h2:vs1 = []:=h2
 subst h1;subst h2
 left
 refine ⟨len_in _ _,?_⟩
 refine (Tryz.len_2 c.w).mono ?_
 rintro e w' ⟨rfl,rfl⟩
 exact ⟨_,.int .i64 2,c,rfl,rfl,⟨rfl,hH⟩,hc,rfl,.refl c⟩
end Go.Dw
end
section
namespace Go.Dw
def vX:Term:=.mk [120] true []
def tA:Term:=.mk [97] false []
def fT (t:Term):Term:=.mk [102] false [t]
def gT (t u:Term):Term:=.mk [103] false [t,u]
def dbl:List ARule:=[⟨fT vX,gT vX vX⟩]
def mA:AMulti:=.mk 0 [97] false []
def mF (m:AMulti):AMulti:=.mk 1 [] false [m]
def m0:AMulti:=mF (mF mA)
theorem dbl_rbs:rbs dbl < 2^28:=by decide
theorem vars_f:varsOf [fT vX] = [[120]]:=by
 unfold varsOf
 have:vsetT [] [fT vX] = [[120]]:=by decide
 rw [this]
 unfold Proofs.sortS
 exact List.mergeSort_of_pairwise (by decide)
theorem run_vars:PF n_term_VarsOf [encTs [fT vX]] (encSs [[120]]):=by
 have:=term_VarsOf_s [fT vX] (by decide)
 rwa [vars_f] at this
theorem run_occ:PF n_multi_occurrences [encT (fT vX),.str [120]] (encPs [[0]]):=multi_occurrences_s (fT vX) [120] (by decide)
theorem run_cat (a b:List Int) (ha:a.length+b.length < 2^40):PF n_slices_Concat_s_int_int [encPs [a,b]] (encP (a++b)):=by
 have:=slices_Concat_s [a,b] (by simp) (by simpa using ha)
 simpa using this
theorem ok_m0:checkM dbl m0 = 0:=by decide +kernel
theorem end_l:endM dbl ARule.left m0 = (some (fT (fT tA)),0):=by decide +kernel
theorem end_r:endM dbl ARule.right m0 = (some (gT (gT tA tA) (gT tA tA)),0):=by decide +kernel
theorem run_src:PF n_multi_Source [encRs dbl,encM m0] (encTE (some (fT (fT tA))) 0):=by
 have:=multi_Source_s dbl m0 (by decide) (by decide)
 rwa [end_l] at this
theorem run_do (t u:Term) (s:AStep) (h:doE dbl t s = (some u,0)) (ht:tb t < 2^20) (hp:s.pos.length < 2^40):PF n_rewrite_Do [encRs dbl,encT t,encSt s] (encTE (some u) 0):=by
 have:=rewrite_Do_s dbl t s dbl_rbs (by omega) hp fun x hx=>by have:=setT_size s.pos t x;have:=fits_size hx;have:=size_le_tb t;omega
 rwa [h] at this
theorem do_1:doE dbl (fT (fT tA)) ⟨0,[]⟩ = (some (gT (fT tA) (fT tA)),0):=by decide +kernel
theorem do_2:doE dbl (gT (fT tA) (fT tA)) ⟨0,[0]⟩ = (some (gT (gT tA tA) (fT tA)),0):=by decide +kernel
theorem do_3:doE dbl (gT (gT tA tA) (fT tA)) ⟨0,[1]⟩ = (some (gT (gT tA tA) (gT tA tA)),0):=by decide +kernel
theorem do_4:doE dbl (fT (fT tA)) ⟨0,[0]⟩ = (some (fT (gT tA tA)),0):=by decide +kernel
theorem do_5:doE dbl (fT (gT tA tA)) ⟨0,[]⟩ = (some (gT (gT tA tA) (gT tA tA)),0):=by decide +kernel
def tab17:List PK:=[⟨_,_,pOne_ok run_vars⟩,⟨_,_,pOne_ok run_occ⟩,⟨_,_,pOne_ok (run_cat [] [0] (by decide))⟩,⟨_,_,pOne_ok (run_cat [] [1] (by decide))⟩,⟨_,_,pOne_ok (run_cat [0] [0] (by decide))⟩,⟨_,_,pOne_ok run_src⟩,
 ⟨_,_,pOne_ok (run_do _ _ _ do_1 (by decide) (by decide))⟩,⟨_,_,pOne_ok (run_do _ _ _ do_2 (by decide) (by decide))⟩,⟨_,_,pOne_ok (run_do _ _ _ do_3 (by decide) (by decide))⟩,⟨_,_,pOne_ok (run_do _ _ _ do_4 (by decide) (by decide))⟩,⟨_,_,pOne_ok (run_do _ _ _ do_5 (by decide) (by decide))⟩,⟨_,_,pOne_ok bits_Len_2⟩]
def chV:V:=.tup [encC ⟨fT (fT tA),[⟨0,[]⟩,⟨0,[0]⟩,⟨0,[1]⟩]⟩,.int .i64 0]
def inV:V:=.tup [encC ⟨fT (fT tA),[⟨0,[0]⟩,⟨0,[]⟩]⟩,.int .i64 0]
def stV:V:=.tup [encSts [⟨0,[]⟩,⟨0,[0]⟩],.int .i64 0]
theorem ch_run:yields (callI code (primsOf tab17) (go code (primsOf tab17) 100000) true n_multi_Chain [encRs dbl,encM m0] []) chV = true:=by kernel_rfl
theorem in_run:yields (callI code (primsOf tab17) (go code (primsOf tab17) 100000) true n_multi_Inner [encRs dbl,encM m0] []) inV = true:=by kernel_rfl
theorem st_run:yields (callI code (primsOf tab17) (go code (primsOf tab17) 100000) true n_multi_Steps [encRs dbl,encM m0] []) stV = true:=by kernel_rfl
end Go.Dw
end
section
namespace Go.Dw
section
variable {P:Program} {N:Nat→C} {B:Nat} {ds:List Nat} {g l:List S} {s:List K} {t:T} {H:List Ob} {Q:X→T→List Ob→Prop}
theorem gK_tt:gP P N B true ds g l s t H Q (.bool true) = Run P N B (.r (g++l) :: s) t H Q:=by simp [gP]
theorem gK_ff:gP P N B false ds g l s t H Q (.bool false) = Run P N B (.r (g++l) :: s) t H Q:=by simp [gP]
theorem gK_tf:gP P N B true ds g l s t H Q (.bool false) = Run P N B (.r l :: s) (ds.map (fun d=>(d,V.tup []))++t) H Q:=by simp [gP]
theorem gK_ft:gP P N B false ds g l s t H Q (.bool true) = Run P N B (.r l :: s) (ds.map (fun d=>(d,V.tup []))++t) H Q:=by simp [gP]
theorem cK_t {a b:C}:cP P N B a b s t H Q (.bool true) = Run P N B (.c a :: s) t H Q:=by simp [cP]
theorem cK_f {a b:C}:cP P N B a b s t H Q (.bool false) = Run P N B (.c b :: s) t H Q:=by simp [cP]
end
attribute [push_cast] gK_tt gK_ff gK_tf gK_ft cK_t cK_f
end Go.Dw
end
section
namespace Go.Dw
theorem run_ch:PF n_multi_Chain [encRs dbl,encM m0] chV:=closed tab17 100000 (yields_sound ch_run)
theorem run_in:PF n_multi_Inner [encRs dbl,encM m0] inV:=closed tab17 100000 (yields_sound in_run)
theorem run_st:PF n_multi_Steps [encRs dbl,encM m0] stV:=closed tab17 100000 (yields_sound st_run)
theorem run_tg:PF n_multi_Target [encRs dbl,encM m0] (encTE (some (gT (gT tA tA) (gT tA tA))) 0):=by
 have:=multi_Target_s dbl m0 (by decide) (by decide)
 rwa [end_r] at this
theorem run_ck:PF n_multi_Check [encRs dbl,encM m0] (.int .i64 0):=by
 have:=multi_Check_s dbl m0 (by decide) (by decide)
 rwa [ok_m0] at this
theorem run_ct:PF n_multi_Count [encM m0] (.int .i64 2):=multi_Count_s m0 (by decide)
theorem run_sz:PF n_r01_Size [encT (gT (gT tA tA) (gT tA tA))] (.int .i64 7):=r01_Size_s _ (by decide)
theorem l17_double_s:PF n_l17_double [] (encRs dbl):=by
 refine pf_of l17_double.ok rfl ?_
 push_cast
 exact pf_ret (by push_cast [l17_double.rs];rfl)
set_option maxHeartbeats 4000000 in
theorem alive17:PF n_l17_alive [] (.bool true):=by
 refine pf_of l17_alive.ok rfl ?_
 push_cast
 refine .of l17_double_s ?_
 push_cast
 refine .of run_tg ?_
 unfold encTE
 push_cast
 refine .of l17_double_s ?_
 push_cast
 refine .of run_ch ?_
 unfold chV
 push_cast
 refine .of l17_double_s ?_
 push_cast
 refine .of run_in ?_
 unfold inV
 push_cast
 refine .of l17_double_s ?_
 push_cast
 refine .of run_st ?_
 unfold stV
 push_cast
 refine .of l17_double_s ?_
 push_cast
 refine .of run_ck ?_
 push_cast
 refine .of run_ct ?_
 push_cast
 refine .of run_sz ?_
 push_cast
 exact pf_ret (by push_cast [l17_alive.rs])
end Go.Dw
end
section
namespace Go.Dw
theorem vset_nodup (l:List Str):∀ ks:List Str,ks.Nodup→(l.foldl addS ks).Nodup:=by
 induction l with
 | nil=>intro ks h;exact h
 | cons x l ih =>
  intro ks h
  refine ih _ ?_
  unfold addS
  split
  ·exact h
  ·rename_i hx
   rw [List.nodup_append]
   exact ⟨h,by simp,fun a ha b hb e=>by rw [List.mem_singleton] at hb;subst hb;subst e;exact hx ha⟩
end Go.Dw
end
section
namespace Go.Dw
open Go.Proofs.YtobangnijcppaaaGreat
section
variable {H:Type} {enc:TypeId × Value→H} {W:World}
theorem mc25:prog.cellsOf 25 = 1+1+1+1:=by kernel_rfl
theorem mc23:prog.cellsOf 23 = 1:=by kernel_rfl
theorem msplit4 {α:Type} {cs:List α} {a b c d:Nat} (h:cs.length = a+b+c+d):cs = (cs.drop 0).take a++((cs.drop a).take b++((cs.drop (a+b)).take c++(cs.drop (a+b+c)).take d)):=by
 have h1:cs.drop (a+b) = (cs.drop (a+b)).take c++(cs.drop (a+b+c)).take d:=by
  rw [List.take_of_length_le (l:=cs.drop (a+b+c)) (by simp;omega),← List.drop_drop (i:=c),List.take_append_drop]
 have h2:cs.drop a = (cs.drop a).take b++cs.drop (a+b):=by rw [← List.drop_drop (i:=b),List.take_append_drop]
 rw [← h1,← h2,List.drop_zero,List.take_append_drop]
theorem mbs_sumB (l:List AMulti):sumB mb l = mbs l:=by
 induction l with
 | nil=>rfl
 | cons a l ih=>simp only [sumB,mbs,ih]
theorem br_multi:∀ n,Br enc W n 25 cM mb
 | 0=>by intro cs x h;simp [DataW.trod] at h
 | n+1=>by
  intro cs x h hbk
  obtain ⟨xs,m,hm,rfl,hl,hlen,hf⟩:=DataW.trod_struct (P:=prog) Go.Proofs.Tryz.underlying25 h
  obtain rfl:n = m:=by omega
  rw [mc25] at hl
  match xs,hlen with
  | [x0,x1,x2,x3],_ =>
  have f0:trd enc W n 3 ((cs.drop 0).take (prog.cellsOf 3)) = some x0:=hf 0 _ rfl
  have f1:trd enc W n 9 ((cs.drop 1).take (prog.cellsOf 9)) = some x1:=hf 1 _ rfl
  have f2:trd enc W n 4 ((cs.drop 2).take (prog.cellsOf 4)) = some x2:=hf 2 _ rfl
  have f3:trd enc W n 23 ((cs.drop 3).take (prog.cellsOf 23)) = some x3:=hf 3 _ rfl
  rw [c3] at f0;rw [c9] at f1;rw [c4] at f2;rw [mc23] at f3
  simp only [List.map_cons,List.map_nil,Rows.uptoBulk,Rows.uptoBulkAll] at hbk ⊢
  obtain ⟨k,b0,d0⟩:=br_int _ _ f0 (by omega)
  obtain ⟨s,b1,d1⟩:=br_str _ _ f1 (by omega)
  obtain ⟨v,b2,d2⟩:=br_bool _ _ f2 (by omega)
  obtain ⟨l,b3,d3⟩:=br_slice (n:=n) (sz:=4) (c:=cM) (b:=mb) Go.Proofs.Tryz.underlying23 mc25 (by omega) (fun _=>rfl) (fun m hm=>br_multi m) _ _ f3 (by omega)
  try dsimp only at b0
  try dsimp only at b1
  try dsimp only at b2
  try dsimp only at b3
  refine ⟨.mk k s v l,?_,?_⟩
  ·rw [mbs_sumB] at b3
   simp only [mb]
   omega
  ·rw [msplit4 hl,cM_eq]
   exact d0.app (d1.app (d2.app d3))
end
end Go.Dw
end
section
namespace Go.Dw
def bindL (vars:List Str) (x:List Term):List ABind:=List.zipWith ABind.mk vars x
theorem image_bindL {v:Str}:∀ {vars:List Str} {x:List Term},v∈vars→vars.length≤x.length→image (bindL vars x) v = some (x.getD (ixS v vars) default)
 | [],_,h,_=>by cases h
 | w :: vars,[],_,hl=>by simp at hl
 | w :: vars,u :: x,h,hl=>by
  simp only [bindL,List.zipWith_cons_cons,image]
  unfold ixS
  simp only [idxI]
  by_cases he:v = w
  ·subst he;simp
  ·have hm:v∈vars:=(List.mem_cons.1 h).resolve_left he
   obtain ⟨h1,h2,h3⟩:=idxI_ix hm
   have hd:decide (v = w) = false:=by simpa using he
   have ih:=image_bindL (x:=x) hm (by simpa using hl)
   unfold bindL at ih
   rw [if_neg (fun e=>he e.symm)]
   simp only [hd,Bool.false_eq_true,if_false]
   rw [h1,ih]
   have hn:¬ ((ixS v vars:Nat):Int) < 0:=by omega
   have h4:(((ixS v vars:Nat):Int)+1).toNat = ixS v vars+1:=by omega
   simp only [hn,if_false,h4]
   simp [List.getD_eq_getElem?_getD]
theorem inst_bindL (vars:List Str) (x:List Term) (hl:vars.length≤x.length) (t:Term) (ho:∀ v,occ v t = true→v∈vars):inst (bindL vars x) t = plugT vars x t:=by
 induction t using term_ind with
 | h t ih =>
  rw [inst_eq,plugT_eq]
  cases hv:t.var with
  | true=>rw [if_pos rfl,if_pos rfl,image_bindL (ho _ (occ_self hv)) hl];rfl
  | false =>
   rw [if_neg (by simp),if_neg (by simp)]
   congr 1
   exact List.map_congr_left fun a ha=>ih a ha fun v hv2=>ho v (occ_arg ha hv2)
end Go.Dw
end
section
namespace Go.Dw
def termM (r:List ARule) (f:ARule→Term) (m:AMulti):Option Term × Int:=if fits (sideM r f m) then (some (sideM r f m),0) else (none,3)
theorem endM_term {r:List ARule} {f:ARule→Term} {m:AMulti} (h:checkM r m = 0):endM r f m = termM r f m:=by
 unfold endM termM;rw [if_neg (by simpa using h)]
theorem short_def:short (default:Term) = true:=by decide
theorem plug_short (vars:List Str) (x:List Term) (hx:∀ a∈x,short a = true) (t:Term) (ht:short t = true):short (plugT vars x t) = true:=by
 induction t using term_ind with
 | h t ih =>
  obtain ⟨h1,h2,h3⟩:=short_iff.1 ht
  rw [plugT_eq]
  split
  ·by_cases hk:ixS t.name vars < x.length
   ·exact hx _ (getD_mem hk)
   ·rw [List.getD_eq_getElem?_getD,List.getElem?_eq_none (by omega)];exact short_def
  ·refine short_iff.2 ⟨h1,fun h=>(by cases h),fun a ha=>?_⟩
   obtain ⟨u,hu,rfl⟩:=List.mem_map.1 ha
   exact ih u hu (h3 u hu)
theorem side_short (r:List ARule) (f:ARule→Term) (hf:∀ x∈r,short (f x) = true) (m:AMulti) (hok:OkM r m):short (sideM r f m) = true:=by
 induction m using multi_ind with
 | h m ih =>
  have hx:∀ a∈m.args.map (sideM r f),short a = true:=fun a ha=>by
   obtain ⟨u,hu,rfl⟩:=List.mem_map.1 ha
   exact ih u hu (hok.arg hu)
  rw [sideM_eq]
  split
  ·rename_i h0
   have hfm:=allM_self hok.fm
   unfold formedM at hfm
   rw [if_neg (by omega)] at hfm
   cases hv:m.var with
   | true =>
    rw [hv,if_pos rfl,Bool.and_eq_true,decide_eq_true_eq] at hfm
    have hn:isName m.name false = true:=hfm.2
    unfold isName at hn
    rw [Bool.and_eq_true,decide_eq_true_eq] at hn
    have ha:m.args = []:=List.length_eq_zero_iff.1 hfm.1
    exact short_iff.2 ⟨hn.1,fun _=>(by show m.args.map _ = [];rw [ha];rfl),hx⟩
   | false =>
    rw [hv,if_neg (by simp),Bool.and_eq_true] at hfm
    have hn:isName m.name true = true:=hfm.2
    unfold isName at hn
    rw [Bool.and_eq_true,decide_eq_true_eq] at hn
    exact short_iff.2 ⟨hn.1,fun h=>(by cases h),hx⟩
  ·rename_i h0
   exact plug_short _ _ hx _ (hf _ (hok.rule h0).2.2.1)
end Go.Dw
end
section
namespace Go.Dw
theorem image_append (a b:List ABind) (n:Str):image (a++b) n = match image a n with | some x=>some x | none=>image b n:=by
 induction a with
 | nil=>rfl
 | cons x a ih =>
  simp only [List.cons_append,image]
  split
  ·rfl
  ·exact ih
theorem image_bindT {s:List ABind} {v:Str} {t:Term} (h:image s v = none) (n:Str):image (bindT s v t) n = if v = n then some t else image s n:=by
 unfold bindT
 have h0:=image_append (s.take (lbd v s)) (s.drop (lbd v s)) n
 rw [List.take_append_drop] at h0
 rw [image_append]
 by_cases hv:v = n
 ·subst hv
  rw [h] at h0
  rw [if_pos rfl]
  cases ha:image (s.take (lbd v s)) v with
  | some x=>rw [ha] at h0;cases h0
  | none=>simp only [image,if_true]
 ·rw [if_neg hv,h0]
  cases image (s.take (lbd v s)) n with
  | some x=>rfl
  | none=>simp only [image,if_neg hv]
def ExtB (a b:List ABind):Prop:=∀ n x,image a n = some x→image b n = some x
theorem ExtB.refl (a:List ABind):ExtB a a:=fun _ _ h=>h
theorem ExtB.trans {a b c:List ABind} (h:ExtB a b) (h2:ExtB b c):ExtB a c:=fun n x hx=>h2 n x (h n x hx)
theorem ext_bindT {s:List ABind} {v:Str} {t:Term} (h:image s v = none):ExtB s (bindT s v t):=fun n x hx=>by
 rw [image_bindT h]
 split
 ·rename_i e;subst e;rw [h] at hx;cases hx
 ·exact hx
theorem term_mk (t:Term):t = .mk t.name t.var t.args:=by cases t;rfl
theorem matchT_sound (p:Term):∀ (s:List ABind) (t:Term),(matchT s p t).2 = true→ExtB s (matchT s p t).1∧∀ s2,ExtB (matchT s p t).1 s2→inst s2 p = t:=by
 induction p using term_ind with
 | h p ih =>
 intro s t
 rw [matchT_eq]
 cases hv:p.var with
 | true =>
  rw [if_pos rfl]
  cases hx:image s p.name with
  | some x =>
   intro h
   have h:x = t:=by simpa using h
   subst h
   refine ⟨.refl s,fun s2 h2=>?_⟩
   rw [inst_eq,hv,if_pos rfl,h2 _ _ hx];rfl
  | none =>
   intro _
   refine ⟨ext_bindT hx,fun s2 h2=>?_⟩
   rw [inst_eq,hv,if_pos rfl,h2 p.name t (by rw [image_bindT hx,if_pos rfl])];rfl
 | false =>
  rw [if_neg (by simp)]
  by_cases hc:t.var ∨ p.name ≠ t.name ∨ p.args.length ≠ t.args.length
  ·rw [if_pos hc];intro h;cases h
  ·rw [if_neg hc]
   simp only [not_or,Classical.not_not] at hc
   have key:∀ (l m:List Term) (s:List ABind),(∀ a∈l,a∈p.args)→l.length = m.length→(matchTs s l m).2 = true→ExtB s (matchTs s l m).1∧∀ s2,ExtB (matchTs s l m).1 s2→l.map (inst s2) = m:=by
    intro l
    induction l with
    | nil =>
     intro m s _ hl _
     cases m with
     | nil=>exact ⟨.refl s,fun _ _=>rfl⟩
     | cons b m=>cases hl
    | cons a l ihl =>
     intro m s hm hl h
     cases m with
     | nil=>cases hl
     | cons b m =>
      simp only [matchTs] at h ⊢
      by_cases hab:(matchT s a b).2 = true
      ·rw [if_pos hab] at h ⊢
       obtain ⟨h1,h2⟩:=ih a (hm a (by simp)) s b hab
       obtain ⟨h3,h4⟩:=ihl m _ (fun x hx=>hm x (by simp [hx])) (by simpa using hl) h
       refine ⟨h1.trans h3,fun s2 hs2=>?_⟩
       rw [List.map_cons,h2 s2 (h3.trans hs2),h4 s2 hs2]
      ·rw [if_neg hab] at h;cases h
   intro h
   obtain ⟨h1,h2⟩:=key p.args t.args s (fun _ h=>h) hc.2.2 h
   refine ⟨h1,fun s2 hs2=>?_⟩
   rw [inst_eq,hv,if_neg (by simp),h2 s2 hs2,hc.2.1]
   rw [term_mk t]
   have:t.var = false:=by simpa using hc.1
   simp only [Term.name,Term.args,this]
theorem match_inst {p t:Term} (h:(matchT [] p t).2 = true):inst (matchT [] p t).1 p = t:=(matchT_sound p [] t h).2 _ (.refl _)
end Go.Dw
end
section
namespace Go.Dw
mutual
def occR (v:Str):Term→List (List Int)
 | .mk n b l=>(if b && decide (n = v) then [[]] else [])++occRs v l 0
def occRs (v:Str):List Term→Nat→List (List Int)
 | [],_=>[]
 | a :: l,i=>(occR v a).map ((i:Int) :: ·)++occRs v l (i+1)
end
theorem occW_append (v:Str) (a b:List (List Int × Term)):occW v (a++b) = occW v a++occW v b:=by unfold occW;rw [List.filter_append,List.map_append]
mutual
theorem occW_visit (v:Str):∀ (t:Term) (p:List Int),occW v (visit t p) = (occR v t).map (p++·)
 | .mk n b l,p=>by
  have h:=occW_visits v l p 0
  have h1:occW v ((p,Term.mk n b l) :: visits l p 0) = (if b && decide (n = v) then [p] else [])++occW v (visits l p 0):=by
   unfold occW
   rw [List.filter_cons]
   show List.map Prod.fst (if (b && decide (n = v)) = true then _ else _) = _
   split <;> simp
  simp only [visit,occR,h1,h,List.map_append]
  congr 1
  split <;> simp
theorem occW_visits (v:Str):∀ (l:List Term) (p:List Int) (i:Nat),occW v (visits l p i) = (occRs v l i).map (p++·)
 | [],p,i=>rfl
 | a :: l,p,i=>by
  simp only [visits,occRs,occW_append,occW_visit v a,occW_visits v l p (i+1),List.map_append,List.map_map]
  congr 1
  apply List.map_congr_left
  intro q _;simp
end
theorem occM_R (t:Term) (v:Str):occM t v = occR v t:=by
 unfold occM
 rw [occW_visit]
 simp
mutual
theorem occR_some (v:Str):∀ t:Term,occ v t = true→occR v t ≠ []
 | .mk n b l,h=>by
  simp only [occ,Bool.or_eq_true] at h
  simp only [occR]
  rcases h with h | h
  ·rw [if_pos h];simp
  ·have:=occRs_some v l 0 h
   simp [this]
theorem occRs_some (v:Str):∀ (l:List Term) (i:Nat),occs v l = true→occRs v l i ≠ []
 | [],i,h=>by cases h
 | a :: l,i,h=>by
  simp only [occs,Bool.or_eq_true] at h
  simp only [occRs]
  rcases h with h | h
  ·have:=occR_some v a h
   simp [this]
  ·have:=occRs_some v l (i+1) h
   simp [this]
end
def RunC (w u:Term):List (List Int)→Term→Term→Prop
 | [],t,t'=>t' = t
 | q :: qs,t,t'=>subT t q = some w∧RunC w u qs (setT t q u) t'
theorem RunC.app {w u:Term}:∀ {a b:List (List Int)} {t t1 t':Term},RunC w u a t t1→RunC w u b t1 t'→RunC w u (a++b) t t'
 | [],b,t,t1,t',h1,h2=>by cases h1;exact h2
 | q :: a,b,t,t1,t',h1,h2=>⟨h1.1,RunC.app h1.2 h2⟩
theorem getD_mid {pre post:List Term} {x:Term}:(pre++x :: post).getD pre.length default = x:=by simp [List.getD_eq_getElem?_getD]
theorem set_mid {α:Type} {pre post:List α} {x y:α}:(pre++x :: post).set pre.length y = pre++y :: post:=by
 induction pre with
 | nil=>rfl
 | cons a pre ih=>simp [ih]
theorem RunC.arg {w u:Term} {n:Str} {b:Bool} {pre post:List Term}:∀ {qs:List (List Int)} {x x':Term},RunC w u qs x x'→RunC w u (qs.map ((pre.length:Int) :: ·)) (.mk n b (pre++x :: post)) (.mk n b (pre++x' :: post))
 | [],x,x',h=>by cases h;rfl
 | q :: qs,x,x',h=>by
  have hl:(pre++x :: post).length = pre.length+1+post.length:=by simp;omega
  have hc:(0:Int)≤(pre.length:Int)∧(pre.length:Int) < ((pre++x :: post).length:Int):=by omega
  refine ⟨?_,?_⟩
  ·show (if 0≤(pre.length:Int)∧(pre.length:Int) < ((pre++x :: post).length:Int) then subT ((pre++x :: post).getD (pre.length:Int).toNat default) q else none) = _
   rw [if_pos hc,Int.toNat_natCast,getD_mid]
   exact h.1
  ·have:setT (.mk n b (pre++x :: post)) ((pre.length:Int) :: q) u = .mk n b (pre++setT x q u :: post):=by
    show Term.mk n b (if 0≤(pre.length:Int)∧(pre.length:Int) < ((pre++x :: post).length:Int) then (pre++x :: post).set (pre.length:Int).toNat (setT ((pre++x :: post).getD (pre.length:Int).toNat default) q u) else (pre++x :: post)) = _
    rw [if_pos hc,Int.toNat_natCast,getD_mid,set_mid]
   rw [this]
   exact RunC.arg h.2
def crossP (a b:List (List Int)):List (List Int):=a.flatMap fun s=>b.map (s++·)
theorem crossP_append (a a2 b:List (List Int)):crossP (a++a2) b = crossP a b++crossP a2 b:=by unfold crossP;rw [List.flatMap_append]
theorem crossP_map (i:Int) (a b:List (List Int)):crossP (a.map (i :: ·)) b = (crossP a b).map (i :: ·):=by
 unfold crossP
 rw [List.flatMap_map,List.map_flatMap]
 simp [Function.comp_def]
theorem crossP_one (b:List (List Int)):crossP [[]] b = b:=by unfold crossP;simp
theorem crossP_sing (i:Int) (b:List (List Int)):crossP [[i]] b = b.map (i :: ·):=by unfold crossP;simp
theorem crossP_none (b:List (List Int)):crossP [] b = []:=rfl
theorem crossP_ne {a b:List (List Int)} (ha:a ≠ []) (hb:b ≠ []):crossP a b ≠ []:=by
 cases a with
 | nil=>exact absurd rfl ha
 | cons x a =>
  cases b with
  | nil=>exact absurd rfl hb
  | cons y b=>unfold crossP;simp
theorem crossP_assoc (a b c:List (List Int)):crossP (crossP a b) c = crossP a (crossP b c):=by
 induction a with
 | nil=>rfl
 | cons x a ih =>
  have h1:crossP (x :: a) b = b.map (x++·)++crossP a b:=rfl
  have h2:crossP (x :: a) (crossP b c) = (crossP b c).map (x++·)++crossP a (crossP b c):=rfl
  rw [h1,h2,crossP_append,ih]
  congr 1
  unfold crossP
  rw [List.flatMap_map,List.map_flatMap]
  simp [Function.comp_def]
theorem runC_plug {w u x':Term} {vars:List Str} {xs:List Term} {v:Str} {qs:List (List Int)} (hv:v∈vars) (hx:vars.length≤xs.length) (hR:RunC w u qs (xs.getD (ixS v vars) default) x') (L:Term) (hs:short L = true) (ho:∀ n,occ n L = true→n∈vars) :
  RunC w u (crossP (occR v L) qs) (plugT vars xs L) (plugT vars (xs.set (ixS v vars) x') L):=by
 induction L using term_ind with
 | h L ih =>
 obtain ⟨i1,i2,i3⟩:=idxI_ix hv
 cases L with
 | mk n b l =>
 cases b with
 | true =>
  have ha:l = []:=(short_iff.1 hs).2.1 rfl
  subst ha
  obtain ⟨j1,j2,j3⟩:=idxI_ix (ho n (by simp [occ]))
  simp only [occR,occRs,plugT,List.append_nil,Bool.true_and,if_true]
  by_cases he:n = v
  ·subst he
   rw [if_pos (by simp),crossP_one]
   have:(xs.set (ixS n vars) x').getD (ixS n vars) default = x':=by
    have:ixS n vars < xs.length:=by omega
    simp [List.getD_eq_getElem?_getD,this]
   rw [this]
   exact hR
  ·rw [if_neg (by simpa using he),crossP_none]
   have hne:ixS v vars ≠ ixS n vars:=fun e=>he (by rw [← i3,← j3,e])
   have:(xs.set (ixS v vars) x').getD (ixS n vars) default = xs.getD (ixS n vars) default:=by
    simp only [List.getD_eq_getElem?_getD]
    rw [List.getElem?_set_ne hne]
   rw [this]
   rfl
 | false =>
  have h3:=(short_iff.1 hs).2.2
  simp only [occR,plugT,Bool.false_and,Bool.false_eq_true,if_false,List.nil_append,plugTs_map]
  have key:∀ (l2 pre:List Term),(∀ a∈l2,a∈l)→RunC w u (crossP (occRs v l2 pre.length) qs) (.mk n false (pre++l2.map (plugT vars xs))) (.mk n false (pre++l2.map (plugT vars (xs.set (ixS v vars) x')))):=by
   intro l2
   induction l2 with
   | nil=>intro pre _;rfl
   | cons a l2 ihl =>
    intro pre hm
    have hma:=hm a (by simp)
    simp only [occRs,List.map_cons]
    rw [crossP_append,crossP_map]
    refine RunC.app (RunC.arg (ih a hma (h3 a hma) fun k hk=>ho k (occ_arg (t:=.mk n false l) hma hk))) ?_
    have h4:=ihl (pre++[plugT vars (xs.set (ixS v vars) x') a]) fun c hc=>hm c (by simp [hc])
    simpa using h4
  exact key l [] fun _ h=>h
def nodeM:AMulti→List Int→AMulti
 | m,[]=>m
 | m,i :: p=>nodeM (m.args.getD i.toNat default) p
def setM:AMulti→List Int→AMulti→AMulti
 | _,[],x=>x
 | m,i :: p,x=>.mk m.rule m.name m.var (m.args.set i.toNat (setM (m.args.getD i.toNat default) p x))
def startsM (r:List ARule) (m:AMulti) (i:Int):List (List Int) :=
 if 0 < m.rule then occM (ruleOf r m).left ((varsOf [(ruleOf r m).left]).getD i.toNat default) else [[i]]
def copiesM (r:List ARule):AMulti→List Int→List (List Int)
 | _,[]=>[[]]
 | m,i :: p=>crossP (startsM r m i) (copiesM r (m.args.getD i.toNat default) p)
def PathM:AMulti→List Int→Prop
 | m,[]=>0 < m.rule
 | m,i :: p=>0≤i∧i < m.args.length∧PathM (m.args.getD i.toNat default) p
theorem nodeM_ok {r:List ARule}:∀ {p:List Int} {m:AMulti},OkM r m→PathM m p→OkM r (nodeM m p)∧0 < (nodeM m p).rule
 | [],m,h,hp=>⟨h,hp⟩
 | i :: p,m,h,hp=>by
  obtain ⟨h0,h1,h2⟩:=hp
  exact nodeM_ok (p:=p) (m:=m.args.getD i.toNat default) (h.arg (getD_mem (by omega))) h2
theorem varsOf_nodup (t:Term):(varsOf [t]).Nodup:=by
 have h2:(vsetT [] [t]).Nodup:=by
  show (vset [] (visit t [])).Nodup
  exact vset_nodup _ _ List.nodup_nil
 exact (List.mergeSort_perm _ _).nodup_iff.2 h2
theorem ixS_getD {vars:List Str} (hn:vars.Nodup) {k:Nat} (hk:k < vars.length):ixS (vars.getD k default) vars = k:=by
 obtain ⟨i1,i2,i3⟩:=idxI_ix (getD_mem hk)
 generalize hv:vars.getD k default = v at i1 i2 i3 ⊢
 rw [List.getD_eq_getElem?_getD,List.getElem?_eq_getElem hk,Option.getD_some] at hv
 rw [List.getD_eq_getElem?_getD,List.getElem?_eq_getElem i2,Option.getD_some] at i3
 exact (List.getElem_inj hn).1 (i3.trans hv.symm)
theorem split_at {α:Type} [Inhabited α] {l:List α} {k:Nat} (hk:k < l.length):l = l.take k++l.getD k default :: l.drop (k+1):=by
 rw [List.getD_eq_getElem?_getD,List.getElem?_eq_getElem hk,Option.getD_some]
 simp
theorem runC_copies {r:List ARule} (hr:∀ x∈r,short x.left = true):∀ (p:List Int) (m x':AMulti),OkM r m→PathM m p→RunC (sideM r ARule.left (nodeM m p)) (sideM r ARule.left x') (copiesM r m p) (sideM r ARule.left m) (sideM r ARule.left (setM m p x'))
 | [],m,x',hm,hp=>⟨rfl,rfl⟩
 | i :: p,m,x',hm,hp=>by
  obtain ⟨h0,h1,h2⟩:=hp
  have hk:i.toNat < m.args.length:=by omega
  have ih:=runC_copies hr p (m.args.getD i.toNat default) x' (hm.arg (getD_mem hk)) h2
  simp only [nodeM,copiesM,setM]
  rw [sideM_eq r _ m,sideM_eq r _ (.mk _ _ _ _)]
  show RunC _ _ _ _ (if m.rule = 0 then Term.mk m.name m.var ((m.args.set i.toNat (setM (m.args.getD i.toNat default) p x')).map (sideM r ARule.left)) else plugT (varsOf [(ruleOf r m).left]) ((m.args.set i.toNat (setM (m.args.getD i.toNat default) p x')).map (sideM r ARule.left)) (ruleOf r m).left)
  rw [List.map_set]
  generalize nodeM (m.args.getD i.toNat default) p = nd at ih ⊢
  generalize setM (m.args.getD i.toNat default) p x' = sx at ih ⊢
  unfold startsM
  by_cases hz:m.rule = 0
  ·rw [if_pos hz,if_pos hz,if_neg (by omega),crossP_sing]
   have e:=split_at hk
   generalize hpre:m.args.take i.toNat = pre at e
   generalize hpost:m.args.drop (i.toNat+1) = post at e
   have hpl:pre.length = i.toNat:=by rw [← hpre];simp;omega
   generalize m.args.getD i.toNat default = a at e ih
   rw [e,List.map_append,List.map_cons]
   have h5:=RunC.arg (n:=m.name) (b:=m.var) (pre:=pre.map (sideM r ARule.left)) (post:=post.map (sideM r ARule.left)) ih
   rw [List.length_map,hpl] at h5
   rw [show ((i.toNat:Nat):Int) = i by omega] at h5
   have h6:(List.map (sideM r ARule.left) pre++sideM r ARule.left a :: List.map (sideM r ARule.left) post).set i.toNat (sideM r ARule.left sx) = List.map (sideM r ARule.left) pre++sideM r ARule.left sx :: List.map (sideM r ARule.left) post:=by
    have:=set_mid (pre:=List.map (sideM r ARule.left) pre) (post:=List.map (sideM r ARule.left) post) (x:=sideM r ARule.left a) (y:=sideM r ARule.left sx)
    rwa [List.length_map,hpl] at this
   rw [h6]
   exact h5
  ·obtain ⟨k1,k2,k3,k4,k5,k6⟩:=hm.rule hz
   rw [if_neg hz,if_neg hz,if_pos k1,occM_R]
   have hkv:i.toNat < (varsOf [(ruleOf r m).left]).length:=by omega
   have hix:=ixS_getD (varsOf_nodup (ruleOf r m).left) hkv
   have hxl:(m.args.map (sideM r ARule.left)).length = m.args.length:=List.length_map ..
   have hg:(m.args.map (sideM r ARule.left)).getD i.toNat default = sideM r ARule.left (m.args.getD i.toNat default):=by
    simp [List.getD_eq_getElem?_getD,hk]
   have h5:=runC_plug (w:=sideM r ARule.left nd) (u:=sideM r ARule.left x') (x':=sideM r ARule.left sx) (vars:=varsOf [(ruleOf r m).left]) (xs:=m.args.map (sideM r ARule.left)) (v:=(varsOf [(ruleOf r m).left]).getD i.toNat default) (qs:=copiesM r (m.args.getD i.toNat default) p) (getD_mem hkv) (by omega) (by rw [hix,hg];exact ih) (ruleOf r m).left (hr _ k3) (varsOf_left _)
   rw [hix] at h5
   exact h5
theorem copiesM_ne {r:List ARule}:∀ (p:List Int) (m:AMulti),OkM r m→PathM m p→copiesM r m p ≠ []
 | [],m,hm,hp=>by simp [copiesM]
 | i :: p,m,hm,hp=>by
  obtain ⟨h0,h1,h2⟩:=hp
  have hk:i.toNat < m.args.length:=by omega
  refine crossP_ne ?_ (copiesM_ne p _ (hm.arg (getD_mem hk)) h2)
  unfold startsM
  by_cases hz:0 < m.rule
  ·obtain ⟨k1,k2,k3,k4,k5,k6⟩:=hm.rule (by omega)
   rw [if_pos hz,occM_R]
   exact occR_some _ _ ((mem_varsOf _ _).1 (getD_mem (by omega)))
  ·rw [if_neg hz];simp
end Go.Dw
end
section
namespace Go.Dw
def imgV (s:List ABind) (n:Str):Term:=(image s n).getD (.mk n true [])
def AgreeB (s d:List ABind):Prop:=∀ n x,image s n = some x→x = imgV d n
theorem match_complete (d:List ABind) (p:Term):∀ s:List ABind,AgreeB s d→(matchT s p (inst d p)).2 = true∧AgreeB (matchT s p (inst d p)).1 d:=by
 induction p using term_ind with
 | h p ih =>
 intro s hs
 rw [matchT_eq]
 cases hv:p.var with
 | true =>
  have hi:inst d p = imgV d p.name:=by rw [inst_eq,hv,if_pos rfl];rfl
  rw [if_pos rfl,hi]
  cases hx:image s p.name with
  | some x=>exact ⟨by simpa using hs _ _ hx,hs⟩
  | none =>
   refine ⟨rfl,fun n x h=>?_⟩
   rw [image_bindT hx] at h
   split at h
   ·rename_i e;subst e;cases h;rfl
   ·exact hs n x h
 | false =>
  have hi:inst d p = .mk p.name false (p.args.map (inst d)):=by rw [inst_eq,hv,if_neg (by simp)]
  have hl:p.args.length = (p.args.map (inst d)).length:=by simp
  rw [if_neg (by simp),hi,if_neg (by simp only [Term.var,Term.name,Term.args];simp)]
  show (matchTs s p.args (p.args.map (inst d))).2 = true∧AgreeB (matchTs s p.args (p.args.map (inst d))).1 d
  have key:∀ (l:List Term) (s:List ABind),(∀ a∈l,a∈p.args)→AgreeB s d→(matchTs s l (l.map (inst d))).2 = true∧AgreeB (matchTs s l (l.map (inst d))).1 d:=by
   intro l
   induction l with
   | nil=>intro s _ h;exact ⟨rfl,h⟩
   | cons a l ihl =>
    intro s hm h
    obtain ⟨h1,h2⟩:=ih a (hm a (by simp)) s h
    simp only [List.map_cons,matchTs]
    rw [if_pos h1]
    exact ihl _ (fun x hx=>hm x (by simp [hx])) h2
  exact key p.args s (fun _ h=>h) hs
theorem inst_vars {a b:List ABind} (t:Term) (h:inst a t = inst b t):∀ n,occ n t = true→(short t = true)→imgV a n = imgV b n:=by
 induction t using term_ind with
 | h t ih =>
 intro n hn hs
 rw [inst_eq,inst_eq] at h
 rw [occ_eq,Bool.or_eq_true,Bool.and_eq_true,decide_eq_true_eq] at hn
 have h3:=short_iff.1 hs
 cases hv:t.var with
 | true =>
  rw [hv,if_pos rfl,if_pos rfl] at h
  rcases hn with ⟨_,rfl⟩ | hn
  ·exact h
  ·rw [h3.2.1 hv] at hn;cases hn
 | false =>
  rw [hv,if_neg (by simp),if_neg (by simp)] at h
  rcases hn with ⟨e,_⟩ | hn
  ·rw [hv] at e;cases e
  ·have hm:t.args.map (inst a) = t.args.map (inst b):=by injection h
   have hex:∀ l:List Term,occs n l = true→∃ c∈l,occ n c = true:=by
    intro l
    induction l with
    | nil=>intro h;cases h
    | cons c l ihl =>
     intro h
     simp only [occs,Bool.or_eq_true] at h
     rcases h with h | h
     ·exact ⟨c,by simp,h⟩
     ·obtain ⟨c2,m2,o2⟩:=ihl h
      exact ⟨c2,by simp [m2],o2⟩
   obtain ⟨c,hc,hoc⟩:=hex _ hn
   exact ih c hc (List.map_inj_left.1 hm c hc) n hoc (h3.2.2 c hc)
theorem inst_congr {a b:List ABind} (t:Term) (h:∀ n,occ n t = true→imgV a n = imgV b n):inst a t = inst b t:=by
 induction t using term_ind with
 | h t ih =>
 rw [inst_eq,inst_eq]
 cases hv:t.var with
 | true =>
  rw [if_pos rfl,if_pos rfl]
  exact h _ (occ_self hv)
 | false =>
  rw [if_neg (by simp),if_neg (by simp)]
  congr 1
  exact List.map_congr_left fun c hc=>ih c hc fun n hn=>h n (occ_arg hc hn)
theorem doE_plug {r:List ARule} {t:Term} {k:Int} {q:List Int} {xs:List Term} (hk:0≤k∧k < r.length) (hc:checkSystem r = 0) (hx:(varsOf [(r.getD k.toNat default).left]).length≤xs.length) (hq:subT t q = some (plugT (varsOf [(r.getD k.toNat default).left]) xs (r.getD k.toNat default).left)) :
  doE r t ⟨k,q⟩ = if fits (plugT (varsOf [(r.getD k.toNat default).left]) xs (r.getD k.toNat default).right) && fits (setT t q (plugT (varsOf [(r.getD k.toNat default).left]) xs (r.getD k.toNat default).right)) then (some (setT t q (plugT (varsOf [(r.getD k.toNat default).left]) xs (r.getD k.toNat default).right)),0) else (none,3):=by
 have hm:r.getD k.toNat default∈r:=getD_mem (by omega)
 generalize hxe:r.getD k.toNat default = x at hm hx hq ⊢
 have hsl:=(checkSystem_good hc x hm).1.1
 have e1:=inst_bindL (varsOf [x.left]) xs hx x.left (varsOf_left x)
 have e2:=inst_bindL (varsOf [x.left]) xs hx x.right (varsOf_right hc x hm)
 obtain ⟨c1,c2⟩:=match_complete (bindL (varsOf [x.left]) xs) x.left [] (fun n y h=>by cases h)
 rw [← e1] at hq
 have hi:=match_inst c1
 have hr:inst (matchT [] x.left (inst (bindL (varsOf [x.left]) xs) x.left)).1 x.right = inst (bindL (varsOf [x.left]) xs) x.right :=
  inst_congr _ fun n hn=>inst_vars x.left hi n ((mem_varsOf n x.left).1 (varsOf_right hc x hm n hn)) hsl
 have hF:findE r t ⟨k,q⟩ = ((matchT [] x.left (inst (bindL (varsOf [x.left]) xs) x.left)).1,0):=by
  unfold findE
  rw [if_neg (by show ¬ (k < 0 ∨ (r.length:Int)≤k);omega)]
  show (match subT t q with | none=>_ | some x=>_) = _
  rw [hq]
  simp only [hxe]
  rw [if_pos c1]
 unfold doE
 rw [hF]
 simp only [hxe]
 rw [if_neg (by simp),hr,e2]
 cases fits (plugT (varsOf [x.left]) xs x.right) <;> simp
mutual
def plugMM (vars:List Str) (x:List AMulti):Term→AMulti
 | .mk n v l=>if v then x.getD (ixS n vars) default else .mk 0 n false (plugMMs vars x l)
def plugMMs (vars:List Str) (x:List AMulti):List Term→List AMulti
 | []=>[]
 | a :: l=>plugMM vars x a :: plugMMs vars x l
end
theorem plugMMs_map (vars:List Str) (x:List AMulti) (l:List Term):plugMMs vars x l = l.map (plugMM vars x):=by induction l with | nil=>rfl | cons a l ih=>simp [plugMMs,ih]
theorem plugMM_eq (vars:List Str) (x:List AMulti) (t:Term):plugMM vars x t = if t.var then x.getD (ixS t.name vars) default else .mk 0 t.name false (t.args.map (plugMM vars x)):=by cases t;simp only [plugMM,plugMMs_map,Term.name,Term.var,Term.args];rfl
theorem side_plug {r:List ARule} {f:ARule→Term} {vars:List Str} {x:List AMulti} (hx:vars.length≤x.length) (t:Term) (ho:∀ n,occ n t = true→n∈vars):sideM r f (plugMM vars x t) = plugT vars (x.map (sideM r f)) t:=by
 induction t using term_ind with
 | h t ih =>
 rw [plugMM_eq,plugT_eq]
 cases hv:t.var with
 | true =>
  obtain ⟨i1,i2,i3⟩:=idxI_ix (ho _ (occ_self hv))
  have:ixS t.name vars < x.length:=by omega
  simp [List.getD_eq_getElem?_getD,this]
 | false =>
  rw [if_neg (by simp),if_neg (by simp),sideM_eq,if_pos (show (AMulti.mk 0 t.name false (t.args.map (plugMM vars x))).rule = 0 from rfl)]
  simp only [AMulti.name,AMulti.var,AMulti.args,List.map_map]
  congr 1
  exact List.map_congr_left fun a ha=>ih a ha fun n hn=>ho n (occ_arg ha hn)
theorem allM_plug {f:AMulti→Bool} {vars:List Str} {x:List AMulti} (hx:vars.length≤x.length) (hf:∀ a∈x,allM f a = true) (t:Term) (ho:∀ n,occ n t = true→n∈vars) (hs:formed t = true) (hn:∀ n l,isName n true = true→List.length l≤8→f (.mk 0 n false l) = true):allM f (plugMM vars x t) = true:=by
 induction t using term_ind with
 | h t ih =>
 have h1:=formed_iff.1 hs
 rw [plugMM_eq]
 cases hv:t.var with
 | true =>
  obtain ⟨i1,i2,i3⟩:=idxI_ix (ho _ (occ_self hv))
  rw [if_pos rfl]
  exact hf _ (getD_mem (by omega))
 | false =>
  have h2:=h1.1
  rw [hv] at h2
  simp only [nodeOk,Bool.false_eq_true,if_false,Bool.and_eq_true,decide_eq_true_eq] at h2
  rw [if_neg (by simp),allM_eq,Bool.and_eq_true]
  refine ⟨hn _ _ h2.2 (by simp;omega),List.all_eq_true.2 fun c hc=>?_⟩
  obtain ⟨a,ha,rfl⟩:=List.mem_map.1 (show c∈t.args.map (plugMM vars x) from hc)
  exact ih a ha (fun n hn=>ho n (occ_arg ha hn)) (h1.2 a ha)
def contractM (r:List ARule) (m:AMulti):AMulti:=plugMM (varsOf [(ruleOf r m).left]) m.args (ruleOf r m).right
theorem allM_set {f:AMulti→Bool} {x':AMulti} (hx:allM f x' = true) (hf:∀ k n v l l2,List.length l = List.length l2→f (.mk k n v l) = f (.mk k n v l2)):∀ (p:List Int) (m:AMulti),allM f m = true→allM f (setM m p x') = true
 | [],m,h=>hx
 | i :: p,m,h=>by
  simp only [setM]
  by_cases hk:i.toNat < m.args.length
  ·rw [allM_eq,Bool.and_eq_true] at h ⊢
   refine ⟨?_,List.all_eq_true.2 fun c hc=>?_⟩
   ·rw [← h.1]
    cases m
    exact hf _ _ _ _ _ (by simp [AMulti.args])
   ·rcases List.mem_or_eq_of_mem_set hc with hc | rfl
    ·exact List.all_eq_true.1 h.2 c hc
    ·exact allM_set hx hf p _ (List.all_eq_true.1 h.2 _ (getD_mem hk))
  ·rw [List.set_eq_of_length_le (by omega),AMulti.eta]
   exact h
theorem contractM_ok {r:List ARule} {m:AMulti} (hc:checkSystem r = 0) (hm:OkM r m) (h0:0 < m.rule):OkM r (contractM r m):=by
 obtain ⟨k1,k2,k3,k4,k5,k6⟩:=hm.rule (by omega)
 have hf:formed (ruleOf r m).right = true:=(check_iff.1 (checkSystem_sides hc _ k3).2).1
 refine ⟨allM_plug (by omega) (fun a ha=>(hm.arg ha).rg) _ (varsOf_right hc _ k3) hf fun n l _ _=>?_,allM_plug (by omega) (fun a ha=>(hm.arg ha).fm) _ (varsOf_right hc _ k3) hf fun n l h1 h2=>?_⟩
 ·simp [rangedM,AMulti.rule]
 ·simp [formedM,AMulti.rule,AMulti.var,AMulti.name,AMulti.args,h1,h2]
theorem setM_ok {r:List ARule} {p:List Int} {m x':AMulti} (hm:OkM r m) (hx:OkM r x'):OkM r (setM m p x'):=by
 refine ⟨allM_set hx.rg (fun k n v l l2 _=>rfl) p m hm.rg,allM_set hx.fm (fun k n v l l2 h=>?_) p m hm.fm⟩
 simp only [formedM,ruleOf,AMulti.rule,AMulti.var,AMulti.name,AMulti.args,h]
 rfl
theorem side_contract {r:List ARule} {m:AMulti} (hc:checkSystem r = 0) (hm:OkM r m) (h0:0 < m.rule):sideM r ARule.left (contractM r m) = plugT (varsOf [(ruleOf r m).left]) (m.args.map (sideM r ARule.left)) (ruleOf r m).right:=by
 obtain ⟨k1,k2,k3,k4,k5,k6⟩:=hm.rule (by omega)
 exact side_plug (by omega) _ (varsOf_right hc _ k3)
mutual
def firstM (post:Bool):AMulti→Option (List Int)
 | .mk k _ _ l=>if 0 < k∧post = false then some [] else match firstMs post l 0 with
  | some p=>some p
  | none=>if 0 < k then some [] else none
def firstMs (post:Bool):List AMulti→Nat→Option (List Int)
 | [],_=>none
 | a :: l,i=>match firstM post a with
  | some p=>some ((i:Int) :: p)
  | none=>firstMs post l (i+1)
end
theorem firstM_eq (post:Bool) (m:AMulti):firstM post m = if 0 < m.rule∧post = false then some [] else match firstMs post m.args 0 with
  | some p=>some p
  | none=>if 0 < m.rule then some [] else none:=by cases m;rfl
theorem firstMs_at {post:Bool}:∀ (l:List AMulti) (i:Nat) (q:List Int),firstMs post l i = some q→∃ (k:Nat) (p:List Int),q = ((i+k:Nat):Int) :: p∧k < l.length∧firstM post (l.getD k default) = some p
 | [],i,q,h=>by cases h
 | a :: l,i,q,h=>by
  simp only [firstMs] at h
  split at h
  ·rename_i p hp
   cases h
   exact ⟨0,p,rfl,by simp,hp⟩
  ·obtain ⟨k,p,h1,h2,h3⟩:=firstMs_at l (i+1) q h
   exact ⟨k+1,p,by rw [h1];congr 1;omega,by simp;omega,by simpa using h3⟩
theorem firstM_path {post:Bool} (m:AMulti):∀ q,firstM post m = some q→PathM m q∧q.length < mdepth m:=by
 induction m using multi_ind with
 | h m ih =>
 intro q h
 have hd:=mdepth_args m
 rw [firstM_eq] at h
 split at h
 ·rename_i hc
  cases h
  exact ⟨hc.1,by simp;omega⟩
 ·split at h
  ·rename_i p hp
   cases h
   obtain ⟨k,p,rfl,h2,h3⟩:=firstMs_at _ _ _ hp
   obtain ⟨i1,i2⟩:=ih _ (getD_mem h2) p h3
   refine ⟨⟨by omega,by omega,?_⟩,?_⟩
   ·rw [Int.toNat_natCast,Nat.zero_add];exact i1
   ·have:mdepth (m.args.getD k default)≤mdepths m.args:=by
     have:∀ l:List AMulti,∀ a∈l,mdepth a≤mdepths l:=by
      intro l a
      induction l with
      | nil=>intro h;cases h
      | cons x xs ihx=>intro h;rcases List.mem_cons.1 h with rfl | h <;> simp only [mdepths];omega;have:=ihx h;omega
     exact this _ _ (getD_mem h2)
    simp only [List.length_cons];omega
  ·split at h
   ·rename_i hc
    cases h
    exact ⟨hc,by simp;omega⟩
   ·cases h
def doAll (u:Term):Term→List (List Int)→Bool
 | _,[]=>true
 | t,q :: qs=>fits u && fits (setT t q u) && doAll u (setT t q u) qs
def stepsOf (k:Int) (qs:List (List Int)):List AStep:=qs.map fun q=>⟨k - 1,q⟩
def roundM (r:List ARule) (m:AMulti) (p:List Int) (ss:List AStep):Option (AMulti × List AStep) :=
 if doAll (sideM r ARule.left (contractM r (nodeM m p))) (sideM r ARule.left m) (copiesM r m p) = true∧ss.length+(copiesM r m p).length≤4096∧msize (setM m p (contractM r (nodeM m p)))≤4000∧mdepth (setM m p (contractM r (nodeM m p)))≤200
 then some (setM m p (contractM r (nodeM m p)),ss++stepsOf (nodeM m p).rule (copiesM r m p)) else none
def devM (r:List ARule) (post:Bool):Nat→AMulti→List AStep→Option (List AStep)
 | 0,_,_=>none
 | n+1,m,ss=>match firstM post m with
  | none=>some ss
  | some p=>match roundM r m p ss with
   | none=>none
   | some x=>devM r post n x.1 x.2
structure DevI (r:List ARule) (n:Nat) (m:AMulti) (ss:List AStep):Prop where
 sys:checkSystem r = 0
 ok:OkM r m
 sz:msize m≤4000
 dp:mdepth m≤200
 ft:fits (sideM r ARule.left m) = true
 le:ss.length≤4096
 gt:4097≤ss.length+n
theorem RunC.fits {w u:Term}:∀ {qs:List (List Int)} {t t':Term},RunC w u qs t t'→doAll u t qs = true→fits t = true→fits t' = true
 | [],t,t',h,_,hf=>by cases h;exact hf
 | q :: qs,t,t',h,hd,_=>by
  simp only [doAll,Bool.and_eq_true] at hd
  exact RunC.fits h.2 hd.2 hd.1.2
theorem subT_len:∀ (q:List Int) (t x:Term),subT t q = some x→q.length < depth t
 | [],t,x,_=>by have:=depth_args t;simp;omega
 | i :: q,t,x,h=>by
  simp only [subT] at h
  split at h
  ·rename_i hi
   have h1:=subT_len q _ x h
   have h2:=depth_mem (getD_mem (l:=t.args) (k:=i.toNat) (by omega))
   have h3:=depth_args t
   simp only [List.length_cons];omega
  ·cases h
theorem DevI.run {r:List ARule} {n:Nat} {m:AMulti} {ss:List AStep} (hi:DevI r n m ss) {post:Bool} {p:List Int} (hp:firstM post m = some p) :
  OkM r (nodeM m p)∧0 < (nodeM m p).rule∧PathM m p∧p.length < 200∧copiesM r m p ≠ []∧RunC (sideM r ARule.left (nodeM m p)) (sideM r ARule.left (contractM r (nodeM m p))) (copiesM r m p) (sideM r ARule.left m) (sideM r ARule.left (setM m p (contractM r (nodeM m p)))):=by
 obtain ⟨h1,h2⟩:=firstM_path m p hp
 obtain ⟨h3,h4⟩:=nodeM_ok hi.ok h1
 have:=hi.dp
 exact ⟨h3,h4,h1,by omega,copiesM_ne p m hi.ok h1,runC_copies (fun x hx=>(checkSystem_good hi.sys x hx).1.1) p m _ hi.ok h1⟩
theorem DevI.next {r:List ARule} {n:Nat} {m m':AMulti} {ss ss':List AStep} (hi:DevI r (n+1) m ss) {post:Bool} {p:List Int} (hp:firstM post m = some p) (hr:roundM r m p ss = some (m',ss')):DevI r n m' ss':=by
 obtain ⟨h1,h2,h3,h4,h5,h6⟩:=hi.run hp
 unfold roundM at hr
 split at hr
 ·rename_i hc
  obtain ⟨c1,c2,c3,c4⟩:=hc
  cases hr
  have hl:(stepsOf (nodeM m p).rule (copiesM r m p)).length = (copiesM r m p).length:=by unfold stepsOf;simp
  have hpos:0 < (copiesM r m p).length:=List.length_pos_iff.2 h5
  have:=hi.gt
  exact ⟨hi.sys,setM_ok hi.ok (contractM_ok hi.sys h1 h2),c3,c4,RunC.fits h6 c1 hi.ft,by rw [List.length_append,hl];omega,by rw [List.length_append,hl];omega⟩
 ·cases hr
theorem DevI.step {r:List ARule} (hc:checkSystem r = 0) {x:AMulti} (hx:OkM r x) (h0:0 < x.rule) {t:Term} {q:List Int} (hq:subT t q = some (sideM r ARule.left x)) :
  doE r t ⟨x.rule - 1,q⟩ = if fits (sideM r ARule.left (contractM r x)) && fits (setT t q (sideM r ARule.left (contractM r x))) then (some (setT t q (sideM r ARule.left (contractM r x))),0) else (none,3):=by
 obtain ⟨k1,k2,k3,k4,k5,k6⟩:=hx.rule (by omega)
 rw [side_contract hc hx h0]
 rw [sideM_eq,if_neg (by omega)] at hq
 exact doE_plug (xs:=x.args.map (sideM r ARule.left)) ⟨by omega,by omega⟩ hc (by rw [List.length_map];show (varsOf [(ruleOf r x).left]).length≤_;omega) hq
end Go.Dw
end
section
namespace Go.Dw
def encPF (path:List Int) (o:Option (List Int)) (d:List Int):V:=match o with
 | some p=>.tup [encP (path++p),.bool true]
 | none=>.tup [encP d,.bool false]
theorem firstMs_drop {post:Bool} {l:List AMulti} {k:Nat} (hk:k < l.length):firstMs post (l.drop k) k = match firstM post (l.getD k default) with | some p=>some ((k:Int) :: p) | none=>firstMs post (l.drop (k+1)) (k+1):=by
 rw [drop_getD hk];rfl
theorem mdepth_mem {l:List AMulti} {a:AMulti} (h:a∈l):mdepth a≤mdepths l:=by
 induction l with
 | nil=>cases h
 | cons x xs ih=>rcases List.mem_cons.1 h with rfl | h <;> simp only [mdepths];omega;have:=ih h;omega
theorem sl_snocI {l:List Int} {v:Int}:(.sl 1 (l.map cI++[[V.int .i64 v]]):V) = encP (l++[v]):=by simp [encL,cI]
theorem multi_first_s (m:AMulti):∀ path:List Int,path.length+mdepth m < 2^30→msize m < 2^40→PF n_multi_first [encM m,encP path] (encPF path (firstM false m) []):=by
 induction m using multi_ind with
 | h m ih =>
 intro path hp hz
 have hst:=msize_args m
 have hdt:=mdepth_args m
 have hll:=length_le_msizes m.args
 refine pf_of multi_first.ok rfl ?_
 by_cases h0:0 < m.rule
 ·rw [firstM_eq,if_pos ⟨h0,rfl⟩]
  push_cast [eq_true h0]
  exact pf_ret (by push_cast [multi_first.rs,encPF,List.append_nil])
 ·have hfm:firstM false m = firstMs false m.args 0:=by
   rw [firstM_eq,if_neg (by simp [h0])]
   cases firstMs false m.args 0 <;> simp [h0]
  rw [hfm]
  generalize hres:encPF path (firstMs false m.args 0) [] = res
  push_cast [eq_false h0]
  refine loop_up (n:=m.args.length) (R:=fun k=>encPF path (firstMs false (m.args.drop k) k) [] = res→multi_first.L3 (encP path) (encMs m.args) (.int .i64 m.args.length) (.int .i64 k) 0 [] _) ?_ ?_ 0 (by omega) hres
  ·intro k hk ih2 hq
   have hmm:=getD_mem hk
   have hm2:=msize_mem hmm
   rw [firstMs_drop hk] at hq
   refine multi_first.G3 ?_
   push_cast [ilt hk]
   have hmd:mdepth (m.args.getD k default)≤mdepths m.args:=mdepth_mem hmm
   have hpl:(path++[(k:Int)]).length = path.length+1:=by simp
   have hI:=ih _ hmm (path++[(k:Int)]) (by omega) (by omega)
   refine callG_new (slices_Clone_int_s path (by omega)) ?_
   push_cast
   refine ⟨by unfold maxEls;omega,?_⟩
   push_cast
   rw [sl_snocI]
   refine .of hI ?_
   cases hf:firstM false (m.args.getD k default) with
   | some p =>
    rw [hf] at hq
    simp only [encPF] at hq ⊢
    push_cast
    rw [← hq]
    exact pf_ret (by push_cast [multi_first.rs])
   | none =>
    rw [hf] at hq
    simp only [encPF]
    push_cast [w64 (show k < 2^62 by omega)]
    exact ih2 hq
  ·intro hq
   rw [List.drop_eq_nil_of_le (Nat.le_refl _)] at hq
   refine multi_first.G3 ?_
   push_cast [inlt (Nat.le_refl _)]
   rw [← hq]
   exact pf_ret (by push_cast [multi_first.rs];rfl)
theorem multi_deep_s (m:AMulti):∀ path:List Int,path.length+mdepth m < 2^30→msize m < 2^40→PF n_multi_deep [encM m,encP path] (encPF path (firstM true m) path):=by
 induction m using multi_ind with
 | h m ih =>
 intro path hp hz
 have hst:=msize_args m
 have hdt:=mdepth_args m
 have hll:=length_le_msizes m.args
 refine pf_of multi_deep.ok rfl ?_
 rw [firstM_eq,if_neg (by simp)]
 generalize hres:encPF path (match firstMs true m.args 0 with | some p=>some p | none=>if 0 < m.rule then some [] else none) path = res
 push_cast
 refine loop_up (n:=m.args.length) (R:=fun k=>encPF path (match firstMs true (m.args.drop k) k with | some p=>some p | none=>if 0 < m.rule then some [] else none) path = res→multi_deep.L3 (encP path) (.ro (cM m) 0) (encMs m.args) (.int .i64 m.args.length) (.int .i64 k) 0 [] _) ?_ ?_ 0 (by omega) hres
 ·intro k hk ih2 hq
  have hmm:=getD_mem hk
  have hm2:=msize_mem hmm
  rw [firstMs_drop hk] at hq
  refine multi_deep.G3 ?_
  push_cast [ilt hk]
  have hmd:mdepth (m.args.getD k default)≤mdepths m.args:=mdepth_mem hmm
  have hpl:(path++[(k:Int)]).length = path.length+1:=by simp
  have hI:=ih _ hmm (path++[(k:Int)]) (by omega) (by omega)
  refine callG_new (slices_Clone_int_s path (by omega)) ?_
  push_cast
  refine ⟨by unfold maxEls;omega,?_⟩
  push_cast
  rw [sl_snocI]
  refine .of hI ?_
  cases hf:firstM true (m.args.getD k default) with
  | some p =>
   rw [hf] at hq
   simp only [encPF] at hq ⊢
   push_cast
   rw [← hq]
   exact pf_ret (by push_cast [multi_deep.rs])
  | none =>
   rw [hf] at hq
   simp only [encPF]
   push_cast [w64 (show k < 2^62 by omega)]
   exact ih2 hq
 ·intro hq
  rw [List.drop_eq_nil_of_le (Nat.le_refl _)] at hq
  refine multi_deep.G3 ?_
  push_cast [inlt (Nat.le_refl _)]
  rw [← hq]
  by_cases h0:0 < m.rule
  ·rw [if_pos h0]
   exact pf_ret (by push_cast [multi_deep.rs,eq_true h0,encPF,firstMs,List.append_nil])
  ·rw [if_neg h0]
   exact pf_ret (by push_cast [multi_deep.rs,eq_false h0,encPF,firstMs])
theorem nodeM_drop {m:AMulti} {p:List Int} {k:Nat} (hk:k < p.length):nodeM m (p.drop k) = nodeM (m.args.getD (p.getD k default).toNat default) (p.drop (k+1)):=by rw [drop_getD hk];rfl
theorem multi_node_s (m:AMulti) (p:List Int) (hp:PathM m p) (hl:p.length < 2^40):PF n_multi_node [encM m,encP p] (encM (nodeM m p)):=by
 refine pf_of multi_node.ok rfl ?_
 push_cast
 refine loop_up (n:=p.length) (R:=fun k=>∀ u,PathM u (p.drop k)→nodeM u (p.drop k) = nodeM m p→multi_node.L3 (.ptr 0 0) (.ptr 1 0) (encP p) (.int .i64 p.length) (.int .i64 k) 0 [.cells t_Multi (cM u),.cells t_Multi [.int .i64 0,.str [],.bool false,.sl 4 []]] _) ?_ ?_ 0 (by omega) m hp rfl
 ·intro k hk ih u hu hq
  rw [nodeM_drop hk] at hq
  rw [drop_getD hk] at hu
  obtain ⟨h1,h2,h3⟩:=hu
  refine multi_node.G3 ?_
  generalize hi:p.getD k default = i at h1 h2 h3 hq
  push_cast [ilt hk,hi,eq_true h1,eq_true h2,w64 (show k < 2^62 by omega)]
  exact ih _ h3 hq
 ·intro u hu hq
  rw [List.drop_eq_nil_of_le (Nat.le_refl _)] at hq
  refine multi_node.G3 ?_
  push_cast [inlt (Nat.le_refl _)]
  rw [← hq]
  exact pf_ret (by push_cast [multi_node.rs];try rfl)
end Go.Dw
end
section
namespace Go.Dw
theorem multi_Plug_s (vars:List Str) (x:List AMulti) (hva:vars.length≤x.length) (hl:vars.length < 2^40) (t:Term) (ht:size t < 2^40) (ho:∀ v,occ v t = true→v∈vars):PF n_multi_Plug [encT t,encSs vars,encMs x] (encM (plugMM vars x t)):=by
 induction t using term_ind with
 | h t ih =>
 have hst:=size_args t
 have hll:=length_le_sizes t.args
 refine pf_of multi_Plug.ok rfl ?_
 rw [plugMM_eq]
 cases hv:t.var with
 | true =>
  obtain ⟨h1,h2,h3⟩:=idxI_ix (ho _ (occ_self hv))
  have hI:=slices_Index_str_s vars t.name (by omega)
  rw [h1] at hI
  have hlt:((ixS t.name vars:Int) < (x.length:Int)) = True:=eq_true (by omega)
  push_cast [hv]
  refine .of hI ?_
  push_cast [hlt]
  exact pf_ret (by push_cast [multi_Plug.rs])
 | false =>
  push_cast [hv]
  refine loop_up (n:=t.args.length) (R:=fun k=>multi_Plug.L3 (encSs vars) (encMs x) (.ptr 0 0) (.ptr 1 0) (encTs t.args) (.int .i64 t.args.length) (.int .i64 k) 0 [.cells t_Multi [.int .i64 0,.str [],.bool false,.sl 4 []],.cells t_Multi [.int .i64 0,.str t.name,.bool false,ownL cM 2 4 ((t.args.take k).map (plugMM vars x))],.arr t_Multi 4 k] _) ?_ ?_ 0 (by omega)
  ·intro k hk ih2
   have hm:=getD_mem hk
   have hm2:=size_mem hm
   have hlen:((t.args.take k).map (plugMM vars x)).length = k:=by simp;omega
   rw [take_succ_getD hk,List.map_append,List.map_singleton] at ih2
   refine multi_Plug.G3 ?_
   push_cast [ilt hk]
   refine .of (ih _ hm (by omega) fun v hv2=>ho v (occ_arg hm hv2)) ?_
   push_cast [hlen,w64 (show k < 2^62 by omega)]
   exact ⟨by unfold maxEls;omega,ih2⟩
  ·refine multi_Plug.G3 ?_
   push_cast [inlt (Nat.le_refl _)]
   refine pf_ret ?_
   push_cast [multi_Plug.rs,List.take_length,cM_mk]
   try rfl
theorem multi_contract_s (r:List ARule) (m:AMulti) (hc:checkSystem r = 0) (hm:OkM r m) (h0:0 < m.rule) (hr:rbs r < 2^38):PF n_multi_contract [encRs r,encM m] (encM (contractM r m)):=by
 obtain ⟨k1,k2,k3,k4,k5,k6⟩:=hm.rule (by omega)
 have hrm:=rbs_mem k3
 have hzl:=size_le_tb (ruleOf r m).left
 have hzr:=size_le_tb (ruleOf r m).right
 have hw:IntKind.i64.wrap (m.rule - 1) = m.rule - 1:=wrap64 (by have:=length_le_rbs r;omega) (by have:=length_le_rbs r;omega)
 have hc1:((0:Int)≤m.rule - 1) = True:=eq_true (by omega)
 have hc2:(m.rule - 1 < (r.length:Int)) = True:=eq_true (by omega)
 have hru:r.getD (m.rule - 1).toNat default = ruleOf r m:=rfl
 have hvl:=varsOf_len [(ruleOf r m).left]
 have hsz:sizes [(ruleOf r m).left] = size (ruleOf r m).left:=by simp [sizes]
 refine pf_of multi_contract.ok rfl ?_
 push_cast [hw,hc1,hc2,hru]
 refine .of (term_VarsOf_s [(ruleOf r m).left] (by omega)) ?_
 push_cast
 refine .of (multi_Plug_s (varsOf [(ruleOf r m).left]) m.args (by omega) (by omega) (ruleOf r m).right (by omega) (varsOf_right hc _ k3)) ?_
 push_cast
 exact pf_ret (by push_cast [multi_contract.rs,contractM])
theorem rens_cMs {σ:Nat→Option Nat} {l:List AMulti}:(l.map cM).map (rens σ) = l.map cM:=by rw [List.map_map];rfl
theorem row_M {l:List AMulti} {k:Nat} (h:k < l.length):(l.map cM)[k]? = some (cM (l.getD k default)):=by
 rw [List.getElem?_map];simp [List.getD_eq_getElem?_getD,h]
theorem Clone_multi (l:List AMulti) (hl:l.length < 2^38):Spec prog n_slices_Clone_s_Multi_Multi [encMs l] [] fun x H'=>x = .rw 0 4 l.length∧H' = [.row t_Multi 4 (l.map cM)]:=by
 refine spec_of_run mixed slices_Clone_s_Multi_Multi.ok rfl ?_
 push_cast
 intro c hc
 cases c with
 | true =>
  have hnil:l = []:=by simpa using hc rfl
  subst hnil
  push_cast
  refine ⟨fun _=>?_,fun h=>absurd h (by decide)⟩
  exact ends_ex (.inl rfl) [1] (x:=.rw 1 4 0) (by simp) (by simp) rfl ⟨rfl,rfl⟩
 | false =>
  push_cast
  refine ⟨fun h=>absurd h (by decide),fun _=>⟨by rw [List.length_map];unfold maxEls;omega,?_⟩⟩
  rw [List.length_map]
  refine ends_ex (.inl rfl) [2] (x:=.rw 2 4 l.length) (by simp) (by simp) rfl ⟨rfl,?_⟩
  show [renOb _ (.row t_Multi 4 (l.map cM))] = _
  rw [renOb_row,rens_cMs]
theorem multi_set_s (p:List Int):∀ (m x:AMulti),PathM m p→msize m < 2^38→p.length < 2^40→PF n_multi_set [encM m,encP p,encM x] (encM (setM m p x)):=by
 induction p with
 | nil =>
  intro m x _ _ _
  refine pf_of multi_set.ok rfl ?_
  push_cast
  exact pf_ret (by push_cast [multi_set.rs];rfl)
 | cons i p ih =>
  intro m x hp hz hl
  obtain ⟨h0,h1,h2⟩:=hp
  have hst:=msize_args m
  have hll:=length_le_msizes m.args
  have hk:i.toNat < m.args.length:=by omega
  have hmm:=getD_mem hk
  have hm2:=msize_mem hmm
  have hne:¬ (((i :: p).length:Nat):Int) = 0:=by rw [List.length_cons];omega
  have hsub:=ih _ x h2 (by omega) (by simp at hl;omega)
  refine pf_of multi_set.ok rfl ?_
  simp only [setM]
  have e1:((i :: p).drop 1).take ((i :: p).length - 1) = p:=by simp
  have e2:(i :: p).getD 0 default = i:=rfl
  have e3:((0:Int) < (((i :: p).length:Nat):Int)) = True:=eq_true (by rw [List.length_cons];omega)
  have e4:(1:Nat)≤(i :: p).length:=by simp
  generalize (i :: p) = q at hne e1 e2 e3 e4
  have hi0:(0≤i) = True:=eq_true h0
  have hi1:(i < (m.args.length:Int)) = True:=eq_true h1
  generalize setM (m.args.getD i.toNat default) p x = y at hsub ⊢
  have hsetC:(m.args.map cM).set i.toNat (put 0 (cM y) ((m.args.map cM).getD i.toNat [])) = (m.args.set i.toNat y).map cM:=by
   have e5:(m.args.map cM).getD i.toNat [] = cM (m.args.getD i.toNat default):=by
    rw [List.getD_eq_getElem?_getD (l:=m.args.map cM),row_M hk];rfl
   rw [List.map_set,e5,put_cM']
  push_cast [hne]
  refine callG_new (Clone_multi m.args (by omega)) ?_
  push_cast [hne,row_M hk,e1,e2,e3,e4,hi0,hi1,List.length_map,rens_cMs]
  refine .of hsub ?_
  push_cast [hi0,hi1,List.length_map,hk,hsetC,List.length_set,rens_cMs]
  refine pf_ret ?_
  push_cast [multi_set.rs]
  unfold encM
  rw [cM_eq];rfl
end Go.Dw
end
section
namespace Go.Dw
namespace plcs
abbrev L5 (v0 v4 v9 v10 v12 v14 v18 v19 v20 v45 v46 v47 v51 v52 v53:V) (B:Nat) (H:List Ob) (Q:X→T→List Ob→Prop):Prop:=Run prog nd B [.c (.m 5),.c (.loop (.n 3)),.mk 4,.mk 3,.c (.reg [.bin 65 .add (.s 47) (.i 1),.mv 47 (.s 65)]),.c (.loop (.n 2)),.mk 2,.c (.dr [0,1,2,3,4,5,6,7] [.mv 66 (.s 12),.fa 67 3 (.s 4),.ld 68 (.s 67),.mv 69 (.s 9),.ia 70 4 (.s 68) (.s 69),.la 71 4 (.s 70),.mv 7 (.s 66),.st 4 (.s 4) (.s 71)]),.mk 1,.c (.reg [.bin 72 .add (.s 20) (.i 1),.mv 20 (.s 72)]),.c (.loop (.n 1)),.mk 0,.c (.n 0)] [(0,v0),(4,v4),(9,v9),(10,v10),(12,v12),(14,v14),(18,v18),(19,v19),(20,v20),(45,v45),(46,v46),(47,v47),(51,v51),(52,v52),(53,v53)] H Q
theorem G5 {v0 v4 v9 v10 v12 v14 v18 v19 v20 v45 v46 v47 v51 v52 v53:V} {B:Nat} {H:List Ob} {Q:X→T→List Ob→Prop} (h:Run prog nd B [.c (nd 5),.c (.loop (.n 3)),.mk 4,.mk 3,.c (.reg [.bin 65 .add (.s 47) (.i 1),.mv 47 (.s 65)]),.c (.loop (.n 2)),.mk 2,.c (.dr [0,1,2,3,4,5,6,7] [.mv 66 (.s 12),.fa 67 3 (.s 4),.ld 68 (.s 67),.mv 69 (.s 9),.ia 70 4 (.s 68) (.s 69),.la 71 4 (.s 70),.mv 7 (.s 66),.st 4 (.s 4) (.s 71)]),.mk 1,.c (.reg [.bin 72 .add (.s 20) (.i 1),.mv 20 (.s 72)]),.c (.loop (.n 1)),.mk 0,.c (.n 0)] [(0,v0),(4,v4),(9,v9),(10,v10),(12,v12),(14,v14),(18,v18),(19,v19),(20,v20),(45,v45),(46,v46),(47,v47),(51,v51),(52,v52),(53,v53)] H Q):L5 v0 v4 v9 v10 v12 v14 v18 v19 v20 v45 v46 v47 v51 v52 v53 B H Q:=run_m.2 h
abbrev L7 (v0 v4 v9 v10 v12 v18 v19 v20 v45 v46 v47:V) (B:Nat) (H:List Ob) (Q:X→T→List Ob→Prop):Prop:=Run prog nd B [.c (.m 7),.c (.loop (.n 2)),.mk 2,.c (.dr [0,1,2,3,4,5,6,7] [.mv 66 (.s 12),.fa 67 3 (.s 4),.ld 68 (.s 67),.mv 69 (.s 9),.ia 70 4 (.s 68) (.s 69),.la 71 4 (.s 70),.mv 7 (.s 66),.st 4 (.s 4) (.s 71)]),.mk 1,.c (.reg [.bin 72 .add (.s 20) (.i 1),.mv 20 (.s 72)]),.c (.loop (.n 1)),.mk 0,.c (.n 0)] [(0,v0),(4,v4),(9,v9),(10,v10),(12,v12),(18,v18),(19,v19),(20,v20),(45,v45),(46,v46),(47,v47)] H Q
theorem G7 {v0 v4 v9 v10 v12 v18 v19 v20 v45 v46 v47:V} {B:Nat} {H:List Ob} {Q:X→T→List Ob→Prop} (h:Run prog nd B [.c (nd 7),.c (.loop (.n 2)),.mk 2,.c (.dr [0,1,2,3,4,5,6,7] [.mv 66 (.s 12),.fa 67 3 (.s 4),.ld 68 (.s 67),.mv 69 (.s 9),.ia 70 4 (.s 68) (.s 69),.la 71 4 (.s 70),.mv 7 (.s 66),.st 4 (.s 4) (.s 71)]),.mk 1,.c (.reg [.bin 72 .add (.s 20) (.i 1),.mv 20 (.s 72)]),.c (.loop (.n 1)),.mk 0,.c (.n 0)] [(0,v0),(4,v4),(9,v9),(10,v10),(12,v12),(18,v18),(19,v19),(20,v20),(45,v45),(46,v46),(47,v47)] H Q):L7 v0 v4 v9 v10 v12 v18 v19 v20 v45 v46 v47 B H Q:=run_m.2 h
abbrev L10 (v0 v4 v7 v18 v19 v20:V) (B:Nat) (H:List Ob) (Q:X→T→List Ob→Prop):Prop:=Run prog nd B [.c (.m 10),.c (.loop (.n 1)),.mk 0,.c (.n 0)] [(0,v0),(4,v4),(7,v7),(18,v18),(19,v19),(20,v20)] H Q
theorem G10 {v0 v4 v7 v18 v19 v20:V} {B:Nat} {H:List Ob} {Q:X→T→List Ob→Prop} (h:Run prog nd B [.c (nd 10),.c (.loop (.n 1)),.mk 0,.c (.n 0)] [(0,v0),(4,v4),(7,v7),(18,v18),(19,v19),(20,v20)] H Q):L10 v0 v4 v7 v18 v19 v20 B H Q:=run_m.2 h
end plcs
namespace cps
end cps
theorem size_pos (t:Term):0 < size t:=by have:=size_args t;omega
mutual
theorem occR_len (v:Str) (vars:List Str) (xs:List Term):∀ L:Term,short L = true→(occR v L).length * size (xs.getD (ixS v vars) default)≤size (plugT vars xs L)
 | .mk n b l,hs=>by
  cases b with
  | true =>
   have ha:l = []:=(short_iff.1 hs).2.1 rfl
   subst ha
   simp only [occR,occRs,plugT,List.append_nil,Bool.true_and,if_true]
   by_cases he:n = v
   ·subst he;simp
   ·simp [he]
  | false =>
   have h3:=occRs_len v vars xs l 0 (short_iff.1 hs).2.2
   simp only [occR,plugT,Bool.false_and,Bool.false_eq_true,if_false,List.nil_append,size]
   omega
theorem occRs_len (v:Str) (vars:List Str) (xs:List Term):∀ (l:List Term) (i:Nat),(∀ a∈l,short a = true)→(occRs v l i).length * size (xs.getD (ixS v vars) default)≤sizes (plugTs vars xs l)
 | [],i,_=>by simp [occRs]
 | a :: l,i,hs=>by
  have h1:=occR_len v vars xs a (hs a (by simp))
  have h2:=occRs_len v vars xs l (i+1) fun b hb=>hs b (by simp [hb])
  simp only [occRs,List.length_append,List.length_map,plugTs,sizes,Nat.add_mul]
  omega
end
theorem crossP_len (a b:List (List Int)):(crossP a b).length = a.length * b.length:=by
 induction a with
 | nil=>simp [crossP]
 | cons x a ih =>
  have h1:crossP (x :: a) b = b.map (x++·)++crossP a b:=rfl
  rw [h1,List.length_append,List.length_map,ih,List.length_cons,Nat.succ_mul];omega
theorem copiesM_len {r:List ARule} (hr:∀ x∈r,short x.left = true):∀ (p:List Int) (m:AMulti),OkM r m→PathM m p→(copiesM r m p).length≤size (sideM r ARule.left m)
 | [],m,_,_=>by have:=size_pos (sideM r ARule.left m);simp only [copiesM,List.length_singleton];omega
 | i :: p,m,hm,hp=>by
  obtain ⟨h0,h1,h2⟩:=hp
  have hk:i.toNat < m.args.length:=by omega
  have ih:=copiesM_len hr p (m.args.getD i.toNat default) (hm.arg (getD_mem hk)) h2
  simp only [copiesM]
  rw [crossP_len,sideM_eq r _ m]
  unfold startsM
  by_cases hz:m.rule = 0
  ·rw [if_pos hz,if_neg (by omega)]
   have h3:size (sideM r ARule.left (m.args.getD i.toNat default))≤sizes (m.args.map (sideM r ARule.left)):=size_mem (List.mem_map.2 ⟨_,getD_mem hk,rfl⟩)
   simp only [size,List.length_singleton];omega
  ·obtain ⟨k1,k2,k3,k4,k5,k6⟩:=hm.rule hz
   rw [if_neg hz,if_pos k1,occM_R]
   have hkv:i.toNat < (varsOf [(ruleOf r m).left]).length:=by omega
   have hix:=ixS_getD (varsOf_nodup (ruleOf r m).left) hkv
   have hg:(m.args.map (sideM r ARule.left)).getD i.toNat default = sideM r ARule.left (m.args.getD i.toNat default):=by
    simp [List.getD_eq_getElem?_getD,hk]
   have h5:=occR_len ((varsOf [(ruleOf r m).left]).getD i.toNat default) (varsOf [(ruleOf r m).left]) (m.args.map (sideM r ARule.left)) (ruleOf r m).left (hr _ k3)
   rw [hix,hg] at h5
   exact Nat.le_trans (Nat.mul_le_mul_left _ ih) h5
mutual
theorem occR_short (v:Str):∀ (t:Term),∀ q∈occR v t,q.length≤size t
 | .mk n b l,q,hq=>by
  simp only [occR,List.mem_append] at hq
  rcases hq with hq | hq
  ·split at hq
   ·have:q = []:=by simpa using hq
    subst this;simp
   ·cases hq
  ·have:=occRs_short v l 0 q hq
   simp only [size];omega
theorem occRs_short (v:Str):∀ (l:List Term) (i:Nat),∀ q∈occRs v l i,q.length≤1+sizes l
 | [],i,q,hq=>by cases hq
 | a :: l,i,q,hq=>by
  simp only [occRs,List.mem_append] at hq
  rcases hq with hq | hq
  ·obtain ⟨p,hp,rfl⟩:=List.mem_map.1 hq
   have:=occR_short v a p hp
   simp only [sizes,List.length_cons];omega
  ·have:=occRs_short v l (i+1) q hq
   simp only [sizes];omega
end
theorem startsM_short {r:List ARule} {m:AMulti} (hm:OkM r m) (hr:rbs r < 2^28) (i:Int):∀ q∈startsM r m i,q.length≤268435456:=by
 intro q hq
 unfold startsM at hq
 split at hq
 ·rename_i h0
  obtain ⟨k1,k2,k3,k4,k5,k6⟩:=hm.rule (by omega)
  rw [occM_R] at hq
  have h1:=occR_short _ _ q hq
  have h2:=rbs_mem k3
  have h3:=size_le_tb (ruleOf r m).left
  omega
 ·have:q = [i]:=by simpa using hq
  subst this;simp
theorem startsM_ne {r:List ARule} {m:AMulti} (hm:OkM r m) {i:Int} (h:0≤i∧i < m.args.length):startsM r m i ≠ []:=by
 unfold startsM
 by_cases hz:0 < m.rule
 ·obtain ⟨k1,k2,k3,k4,k5,k6⟩:=hm.rule (by omega)
  rw [if_pos hz,occM_R]
  exact occR_some _ _ ((mem_varsOf _ _).1 (getD_mem (by omega)))
 ·rw [if_neg hz];simp
theorem crossP_short {a b:List (List Int)} {x y:Nat} (ha:∀ q∈a,q.length≤x) (hb:∀ q∈b,q.length≤y):∀ q∈crossP a b,q.length≤x+y:=by
 intro q hq
 unfold crossP at hq
 obtain ⟨s,hs,hq⟩:=List.mem_flatMap.1 hq
 obtain ⟨t,ht,rfl⟩:=List.mem_map.1 hq
 have:=ha s hs
 have:=hb t ht
 rw [List.length_append];omega
theorem crossP_nil1 (a:List (List Int)):crossP a [[]] = a:=by unfold crossP;simp
theorem crossP_take {a b:List (List Int)} {k:Nat} (h:k < a.length):crossP (a.take (k+1)) b = crossP (a.take k) b++b.map (a.getD k default++·):=by
 rw [take_succ_getD h,crossP_append];simp [crossP]
theorem multi_places_s (r:List ARule) (m:AMulti) (p:List Int) (hm:OkM r m) (hp:PathM m p) (hr:rbs r < 2^28) (hc:∀ x∈r,short x.left = true) (hz:size (sideM r ARule.left m)≤4000) (hl:p.length≤200):PF n_multi_places [encRs r,encM m,encP p] (encPs (copiesM r m p)):=by
 have hlen:=copiesM_len hc p m hm hp
 have hlr:=length_le_rbs r
 refine pf_of plcs.ok rfl ?_
 push_cast
 refine loop_up (n:=p.length) (R:=fun k=>∀ W u,OkM r u→PathM u (p.drop k)→crossP W (copiesM r u (p.drop k)) = copiesM r m p→(∀ q∈W,q.length≤k * 268435456)→plcs.L10 (encRs r) (.ptr 0 0) (encPs W) (encP p) (.int .i64 p.length) (.int .i64 k) 0 [.cells t_Multi (cM u)] (Ends 0 plcs.rs fun x' H'=>x' = encPs (copiesM r m p)∧H' = [])) ?_ ?_ 0 (by omega) [[]] m hm hp (crossP_one _) (by simp)
 ·intro k hk ih W u hu hpu hq hW
  rw [drop_getD hk] at hpu hq
  obtain ⟨h0,h1,h2⟩:=hpu
  refine plcs.G10 ?_
  generalize hi:p.getD k default = i at h0 h1 h2 hq
  have hi0:(0≤i) = True:=eq_true h0
  have hi1:(i < (u.args.length:Int)) = True:=eq_true h1
  have hki:i.toNat < u.args.length:=by omega
  simp only [copiesM] at hq
  have hne:=copiesM_ne (p.drop (k+1)) (u.args.getD i.toNat default) (hu.arg (getD_mem hki)) h2
  rw [← crossP_assoc] at hq
  have hN:=startsM_short hu hr i
  have hcl:(crossP W (startsM r u i)).length≤4000:=by
   have h5:(crossP (crossP W (startsM r u i)) (copiesM r (u.args.getD i.toNat default) (p.drop (k+1)))).length≤4000:=by rw [hq];omega
   rw [crossP_len] at h5
   have h6:=List.length_pos_iff.2 hne
   exact Nat.le_trans (Nat.le_mul_of_pos_right _ h6) h5
  rw [crossP_len] at hcl
  have hn0:=List.length_pos_iff.2 (startsM_ne hu ⟨h0,h1⟩)
  generalize hNd:startsM r u i = N at hq hN hcl hn0
  have hwl:W.length≤4000:=Nat.le_trans (Nat.le_mul_of_pos_right _ hn0) hcl
  have hcr:∀ q∈crossP W N,q.length≤(k+1) * 268435456:=by
   have:=crossP_short hW hN
   rw [Nat.succ_mul];exact this
  have hW2:∀ j,j < W.length→(W.getD j default).length≤k * 268435456:=fun j hj=>hW _ (getD_mem hj)
  have hN2:∀ j,j < N.length→(N.getD j default).length≤268435456:=fun j hj=>hN _ (getD_mem hj)
  have hkl:k * 268435456≤200 * 268435456:=Nat.mul_le_mul_right _ (by omega)
  have hmid:∀ j,j≤W.length→(crossP (W.take j) N).length≤4000:=fun j hj=>by
   rw [crossP_len,List.length_take]
   exact Nat.le_trans (Nat.mul_le_mul_right _ (Nat.min_le_right _ _)) hcl
  have key1:plcs.L7 (encRs r) (.ptr 0 0) (.int .i64 i) (encPs N) (.own 1 1 []) (encP p) (.int .i64 p.length) (.int .i64 k) (encPs W) (.int .i64 W.length) (.int .i64 0) 0 [.cells t_Multi (cM u),.arr t_s_int 1 0] (Ends 0 plcs.rs fun x' H'=>x' = encPs (copiesM r m p)∧H' = []):=by
   ·have h9:=loop_up (n:=W.length) (R:=fun j=>plcs.L7 (encRs r) (.ptr 0 0) (.int .i64 i) (encPs N) (ownL cPp 1 1 (crossP (W.take j) N)) (encP p) (.int .i64 p.length) (.int .i64 k) (encPs W) (.int .i64 W.length) (.int .i64 j) 0 [.cells t_Multi (cM u),.arr t_s_int 1 (crossP (W.take j) N).length] (Ends 0 plcs.rs fun x' H'=>x' = encPs (copiesM r m p)∧H' = [])) ?_ ?_ 0 (by omega)
    ·exact h9
    ·intro j hj ihj
     have hmj:=hmid (j+1) (by omega)
     rw [crossP_take hj] at ihj hmj
     have hwj:=hW2 j hj
     refine plcs.G7 ?_
     generalize hwd:W.getD j default = w at ihj hmj hwj
     push_cast [ilt hj,hwd]
     have h8:=loop_up (n:=N.length) (R:=fun l=>plcs.L5 (encRs r) (.ptr 0 0) (.int .i64 i) (encPs N) (ownL cPp 1 1 (crossP (W.take j) N++(N.take l).map (w++·))) (encP w) (encP p) (.int .i64 p.length) (.int .i64 k) (encPs W) (.int .i64 W.length) (.int .i64 j) (encPs N) (.int .i64 N.length) (.int .i64 l) 0 [.cells t_Multi (cM u),.arr t_s_int 1 ((crossP (W.take j) N).length+l)] (Ends 0 plcs.rs fun x' H'=>x' = encPs (copiesM r m p)∧H' = [])) ?_ ?_ 0 (by omega)
     ·simp only [List.take_zero,List.map_nil,List.append_nil,Nat.add_zero] at h8
      exact h8
     ·intro l hl2 ihl
      have hnl:=hN2 l hl2
      rw [take_succ_getD hl2,List.map_append,List.map_singleton,← List.append_assoc] at ihl
      refine plcs.G5 ?_
      generalize hnd:N.getD l default = nq at ihl hnl
      have hlen2:(crossP (W.take j) N++(N.take l).map (w++·)).length = (crossP (W.take j) N).length+l:=by simp;omega
      rw [List.length_append,List.length_map] at hmj
      push_cast [ilt hl2,hnd]
      refine .of (concat2 w nq (by omega)) ?_
      push_cast [hlen2,w64 (show l < 2^62 by omega)]
      refine ⟨by unfold maxEls;omega,?_⟩
      rw [own_pos]
      exact ihl
     ·refine plcs.G5 ?_
      push_cast [inlt (Nat.le_refl _),w64 (show j < 2^62 by omega)]
      rw [List.take_length]
      rw [List.length_append,List.length_map] at ihj
      exact ihj
    ·refine plcs.G7 ?_
     push_cast [inlt (Nat.le_refl _),List.take_length,hi0,hi1,w64 (show k < 2^62 by omega)]
     exact ih (crossP W N) _ (hu.arg (getD_mem hki)) h2 hq hcr
  have key2:plcs.L7 (encRs r) (.ptr 0 0) (.int .i64 i) (encPs N) (.own 2 1 []) (encP p) (.int .i64 p.length) (.int .i64 k) (encPs W) (.int .i64 W.length) (.int .i64 0) 0 [.cells t_Multi (cM u),.dead,.arr t_s_int 1 0] (Ends 0 plcs.rs fun x' H'=>x' = encPs (copiesM r m p)∧H' = []):=by
   ·have h9:=loop_up (n:=W.length) (R:=fun j=>plcs.L7 (encRs r) (.ptr 0 0) (.int .i64 i) (encPs N) (ownL cPp 2 1 (crossP (W.take j) N)) (encP p) (.int .i64 p.length) (.int .i64 k) (encPs W) (.int .i64 W.length) (.int .i64 j) 0 [.cells t_Multi (cM u),.dead,.arr t_s_int 1 (crossP (W.take j) N).length] (Ends 0 plcs.rs fun x' H'=>x' = encPs (copiesM r m p)∧H' = [])) ?_ ?_ 0 (by omega)
    ·exact h9
    ·intro j hj ihj
     have hmj:=hmid (j+1) (by omega)
     rw [crossP_take hj] at ihj hmj
     have hwj:=hW2 j hj
     refine plcs.G7 ?_
     generalize hwd:W.getD j default = w at ihj hmj hwj
     push_cast [ilt hj,hwd]
     have h8:=loop_up (n:=N.length) (R:=fun l=>plcs.L5 (encRs r) (.ptr 0 0) (.int .i64 i) (encPs N) (ownL cPp 2 1 (crossP (W.take j) N++(N.take l).map (w++·))) (encP w) (encP p) (.int .i64 p.length) (.int .i64 k) (encPs W) (.int .i64 W.length) (.int .i64 j) (encPs N) (.int .i64 N.length) (.int .i64 l) 0 [.cells t_Multi (cM u),.dead,.arr t_s_int 1 ((crossP (W.take j) N).length+l)] (Ends 0 plcs.rs fun x' H'=>x' = encPs (copiesM r m p)∧H' = [])) ?_ ?_ 0 (by omega)
     ·simp only [List.take_zero,List.map_nil,List.append_nil,Nat.add_zero] at h8
      exact h8
     ·intro l hl2 ihl
      have hnl:=hN2 l hl2
      rw [take_succ_getD hl2,List.map_append,List.map_singleton,← List.append_assoc] at ihl
      refine plcs.G5 ?_
      generalize hnd:N.getD l default = nq at ihl hnl
      have hlen2:(crossP (W.take j) N++(N.take l).map (w++·)).length = (crossP (W.take j) N).length+l:=by simp;omega
      rw [List.length_append,List.length_map] at hmj
      push_cast [ilt hl2,hnd]
      refine .of (concat2 w nq (by omega)) ?_
      push_cast [hlen2,w64 (show l < 2^62 by omega)]
      refine ⟨by unfold maxEls;omega,?_⟩
      rw [own_pos]
      exact ihl
     ·refine plcs.G5 ?_
      push_cast [inlt (Nat.le_refl _),w64 (show j < 2^62 by omega)]
      rw [List.take_length]
      rw [List.length_append,List.length_map] at ihj
      exact ihj
    ·refine plcs.G7 ?_
     push_cast [inlt (Nat.le_refl _),List.take_length,hi0,hi1,w64 (show k < 2^62 by omega)]
     exact ih (crossP W N) _ (hu.arg (getD_mem hki)) h2 hq hcr
  by_cases hz0:0 < u.rule
  ·obtain ⟨k1,k2,k3,k4,k5,k6⟩:=hu.rule (by omega)
   have hrm:=rbs_mem k3
   have hzl:=size_le_tb (ruleOf r u).left
   have hw:IntKind.i64.wrap (u.rule - 1) = u.rule - 1:=wrap64 (by omega) (by omega)
   have hc1:((0:Int)≤u.rule - 1) = True:=eq_true (by omega)
   have hc2:(u.rule - 1 < (r.length:Int)) = True:=eq_true (by omega)
   have hru:r.getD (u.rule - 1).toNat default = ruleOf r u:=rfl
   have hkv:i.toNat < (varsOf [(ruleOf r u).left]).length:=by omega
   have hkv2:(i < ((varsOf [(ruleOf r u).left]).length:Int)) = True:=eq_true (by omega)
   have hNs:N = occM (ruleOf r u).left ((varsOf [(ruleOf r u).left]).getD i.toNat default):=by rw [← hNd];unfold startsM;rw [if_pos hz0]
   push_cast [ilt hk,hi,eq_true hz0,hw,hc1,hc2,hru]
   refine .of (term_VarsOf_s [(ruleOf r u).left] (by simp [sizes];omega)) ?_
   push_cast [hi0,hkv2]
   refine .of (multi_occurrences_s (ruleOf r u).left ((varsOf [(ruleOf r u).left]).getD i.toNat default) (by omega)) ?_
   rw [← hNs]
   push_cast
   exact key2
  ·have hNs:N = [[i]]:=by rw [← hNd];unfold startsM;rw [if_neg hz0]
   subst hNs
   push_cast [ilt hk,hi,eq_false hz0]
   exact key1
 ·intro W u hu hpu hq hW
  rw [List.drop_eq_nil_of_le (Nat.le_refl _)] at hq
  simp only [copiesM] at hq
  rw [crossP_nil1] at hq
  refine plcs.G10 ?_
  push_cast [inlt (Nat.le_refl _)]
  rw [← hq]
  exact pf_ret (by push_cast [plcs.rs];try rfl)
end Go.Dw
end
section
namespace Go.Dw
theorem copiesM_short {r:List ARule} (hr:rbs r < 2^28):∀ (p:List Int) (m:AMulti),OkM r m→PathM m p→∀ q∈copiesM r m p,q.length≤p.length * 268435456
 | [],m,_,_,q,hq=>by
  have:q = []:=by simpa [copiesM] using hq
  subst this;simp
 | i :: p,m,hm,hp,q,hq=>by
  obtain ⟨h0,h1,h2⟩:=hp
  have ih:=copiesM_short hr p _ (hm.arg (getD_mem (l:=m.args) (k:=i.toNat) (by omega))) h2
  simp only [copiesM] at hq
  have:=crossP_short (startsM_short hm hr i) ih q hq
  simp only [List.length_cons,Nat.succ_mul];omega
end Go.Dw
end
section
namespace Go.Dw
mutual
theorem msize_plug (vars:List Str) (x:List AMulti):∀ t:Term,msize (plugMM vars x t)≤size t * (1+msizes x)
 | .mk n b l=>by
  have h:=msizes_plug vars x l
  cases b with
  | true =>
   simp only [plugMM,if_true,size,Nat.add_mul]
   by_cases hk:ixS n vars < x.length
   ·have:=msize_mem (getD_mem hk);omega
   ·have e:x.getD (ixS n vars) default = default:=by rw [List.getD_eq_getElem?_getD,List.getElem?_eq_none (by omega)];rfl
    rw [e]
    have:msize (default:AMulti) = 1:=by decide
    omega
  | false =>
   simp only [plugMM,Bool.false_eq_true,if_false,msize,size,Nat.add_mul]
   omega
theorem msizes_plug (vars:List Str) (x:List AMulti):∀ l:List Term,msizes (plugMMs vars x l)≤sizes l * (1+msizes x)
 | []=>by simp [plugMMs,msizes]
 | a :: l=>by
  have h1:=msize_plug vars x a
  have h2:=msizes_plug vars x l
  simp only [plugMMs,msizes,sizes,Nat.add_mul] at h1 h2 ⊢
  omega
end
theorem msizes_set {l:List AMulti} {k:Nat} {y:AMulti} (hk:k < l.length):msizes (l.set k y)+msize (l.getD k default) = msizes l+msize y:=by
 induction l generalizing k with
 | nil=>simp at hk
 | cons a l ih =>
  cases k with
  | zero=>simp [msizes];omega
  | succ k =>
   have:=ih (k:=k) (by simpa using hk)
   simp only [List.set_cons_succ,msizes,List.getD_cons_succ];omega
theorem msize_set {x:AMulti}:∀ (p:List Int) (m:AMulti),PathM m p→msize (setM m p x)≤msize m+msize x
 | [],m,_=>by simp only [setM];omega
 | i :: p,m,h=>by
  obtain ⟨h0,h1,h2⟩:=h
  have hk:i.toNat < m.args.length:=by omega
  have ih:=msize_set (x:=x) p _ h2
  have h3:=msizes_set (y:=setM (m.args.getD i.toNat default) p x) hk
  have h4:=msize_args m
  simp only [setM,msize];omega
theorem msize_nodeM:∀ (p:List Int) (m:AMulti),PathM m p→msize (nodeM m p)≤msize m
 | [],m,_=>Nat.le_refl _
 | i :: p,m,h=>by
  obtain ⟨h0,h1,h2⟩:=h
  have ih:=msize_nodeM p _ h2
  have h3:=msize_mem (getD_mem (l:=m.args) (k:=i.toNat) (by omega))
  have h4:=msize_args m
  simp only [nodeM];omega
theorem contractM_size {r:List ARule} {m:AMulti} (hc:checkSystem r = 0) (hm:OkM r m) (h0:0 < m.rule) (hz:msize m≤4000):msize (contractM r m)≤4000 * 4001:=by
 obtain ⟨k1,k2,k3,k4,k5,k6⟩:=hm.rule (by omega)
 have h1:=msize_plug (varsOf [(ruleOf r m).left]) m.args (ruleOf r m).right
 have h2:=(checkSystem_good hc _ k3).2.2
 have h3:=msize_args m
 exact Nat.le_trans h1 (Nat.mul_le_mul h2 (by omega))
def devV (t0:Term) (o:Option (List AStep)):V:=match o with
 | some ss=>.tup [encC ⟨t0,ss⟩,.int .i64 0]
 | none=>.tup [encC noC,.int .i64 3]
theorem stepsOf_take {k:Int} {qs:List (List Int)} {j:Nat} (h:j < qs.length):stepsOf k (qs.take (j+1)) = stepsOf k (qs.take j)++[⟨k - 1,qs.getD j default⟩]:=by
 unfold stepsOf;rw [take_succ_getD h];simp
theorem stepsOf_len (k:Int) (qs:List (List Int)):(stepsOf k qs).length = qs.length:=by unfold stepsOf;simp
theorem roundM_none {r:List ARule} {m:AMulti} {p:List Int} {ss:List AStep} (h:¬ (doAll (sideM r ARule.left (contractM r (nodeM m p))) (sideM r ARule.left m) (copiesM r m p) = true∧ss.length+(copiesM r m p).length≤4096∧fitM (setM m p (contractM r (nodeM m p))) = true)):roundM r m p ss = none:=by
 unfold roundM
 rw [if_neg]
 rintro ⟨h1,h2,h3,h4⟩
 exact h ⟨h1,h2,by unfold fitM;simp [h3,h4]⟩
theorem roundM_some {r:List ARule} {m:AMulti} {p:List Int} {ss:List AStep} (h:doAll (sideM r ARule.left (contractM r (nodeM m p))) (sideM r ARule.left m) (copiesM r m p) = true∧ss.length+(copiesM r m p).length≤4096∧fitM (setM m p (contractM r (nodeM m p))) = true):roundM r m p ss = some (setM m p (contractM r (nodeM m p)),ss++stepsOf (nodeM m p).rule (copiesM r m p)):=by
 unfold roundM
 obtain ⟨h1,h2,h3⟩:=h
 unfold fitM at h3
 rw [Bool.and_eq_true,decide_eq_true_eq,decide_eq_true_eq] at h3
 rw [if_pos ⟨h1,h2,h3.1,h3.2⟩]
theorem DevI.good {r:List ARule} {n:Nat} {m:AMulti} {ss:List AStep} (hi:DevI r n m ss):good (sideM r ARule.left m) :=
 ⟨side_short r ARule.left (fun x hx=>(checkSystem_good hi.sys x hx).1.1) m hi.ok,fits_size hi.ft⟩
theorem RunC.drop {w u:Term} {qs:List (List Int)} {k:Nat} {t t':Term} (hk:k < qs.length) (h:RunC w u (qs.drop k) t t'):subT t (qs.getD k default) = some w∧RunC w u (qs.drop (k+1)) (setT t (qs.getD k default) u) t':=by
 rw [drop_getD hk] at h;exact h
theorem doAll_drop {u:Term} {qs:List (List Int)} {k:Nat} {t:Term} (hk:k < qs.length):doAll u t (qs.drop k) = (Dw.fits u && Dw.fits (setT t (qs.getD k default) u) && doAll u (setT t (qs.getD k default) u) (qs.drop (k+1))):=by
 rw [drop_getD hk];rfl
end Go.Dw
end
section
namespace Go.Dw
theorem encC_mk (t:Term) (ss:List AStep):V.agg [.str t.name,.bool t.var,encTs t.args,encSts ss] = encC ⟨t,ss⟩:=by
 unfold encC cC
 show _ = V.agg (cT t++[encSts ss])
 rw [cT_eq];rfl
theorem own_st {i:Nat} {l:List AStep} {a:Int} {q:List Int}:(.own i 2 (l.map cSt++[[.int .i64 a,encP q]]):V) = ownL cSt i 2 (l++[⟨a,q⟩]):=by simp [ownL,cSt]
set_option maxHeartbeats 4000000 in
theorem dev_keyA {r:List ARule} (hr:rbs r < 2^28) (hc:checkSystem r = 0) {post:Bool} {g:Nat} (hg:∀ m,msize m≤4000→mdepth m≤200→PF g [encM m,.sl 1 []] (encPF [] (firstM post m) [])) (t0:Term) :
  ∀ (n:Nat) (m:AMulti) (ss:List AStep),DevI r n m ss→∀ pv:V,∀ res:V,devV t0 (devM r post n m ss) = res→(pv,res) = (pv,res)→(encPF [] (firstM post m) [] = .tup [pv,.bool (firstM post m).isSome]) →
   multi_develop.L7 (encRs r) (.fn (.func g) [] []) (.ptr 0 0) (.ptr 1 0) (.ptr 3 0) (.ptr 4 0) pv (.bool (firstM post m).isSome) 0 [.cells t_Multi (cM m),.cells t_Chain [.str [],.bool false,.sl 3 [],.sl 2 []],.dead,.cells t_Chain [.str t0.name,.bool t0.var,encTs t0.args,ownL cSt 5 2 ss],.cells t_Term (cT (sideM r ARule.left m)),.arr t_Step 2 (ss.length)] (Ends 0 multi_develop.rs fun x' H'=>x' = res∧H' = []):=by
  intro n
  induction n with
  | zero=>intro m ss hi;have:=hi.gt;have:=hi.le;omega
  | succ n ihn =>
  intro m ss hi pv res hres _ hpv
  have hle:=hi.le
  refine multi_develop.G7 ?_
  simp only [devM] at hres
  cases hf:firstM post m with
  | none =>
   rw [hf] at hres hpv
   simp only [devV] at hres
   push_cast [Option.isSome_none]
   rw [← hres]
   exact pf_ret (by push_cast [multi_develop.rs];exact encC_mk t0 ss)
  | some p =>
   rw [hf] at hres hpv
   simp only [encPF,List.nil_append] at hpv
   dsimp only at hres
   have hN:roundM r m p ss = none→res = devV t0 none:=fun h=>by rw [h] at hres;exact hres.symm
   have hS:∀ y,roundM r m p ss = some y→devV t0 (devM r post n y.1 y.2) = res:=fun y h=>by rw [h] at hres;exact hres
   have hnx:=fun m' ss' h=>hi.next (m':=m') (ss':=ss') hf h
   obtain rfl:encP p = pv:=by injection hpv with h;injection h
   obtain ⟨q1,q2,q3,q4,q5,q6⟩:=hi.run hf
   have hpm:=msize_nodeM p m q3
   have hcz:=contractM_size hc q1 q2 (by have:=hi.sz;omega)
   have hsz:=msize_set (x:=contractM r (nodeM m p)) p m q3
   have hmz:=hi.sz
   have hNo:=multi_node_s m p q3 (by omega)
   have hPl:=multi_places_s r m p hi.ok q3 (by omega) (fun x hx=>(checkSystem_good hc x hx).1.1) (fits_size hi.ft) (by omega)
   have hCo:=multi_contract_s r (nodeM m p) hc q1 q2 (by omega)
   have hSe:=multi_set_s p m (contractM r (nodeM m p)) q3 (by omega) (by omega)
   have hFi:=multi_Fit_s (setM m p (contractM r (nodeM m p))) (by omega)
   have hst:=fun (t:Term) (q:List Int) (hq:subT t q = some (sideM r ARule.left (nodeM m p)))=>DevI.step hc q1 q2 hq
   have hrn:=roundM_none (r:=r) (m:=m) (p:=p) (ss:=ss)
   have hrs:=roundM_some (r:=r) (m:=m) (p:=p) (ss:=ss)
   have hcl:=copiesM_len (fun x hx=>(checkSystem_good hc x hx).1.1) p m hi.ok q3
   have hft:=fits_size hi.ft
   have hlr:=length_le_rbs r
   obtain ⟨_,k2,_,_,_,_⟩:=q1.rule (by omega)
   have hw:IntKind.i64.wrap ((nodeM m p).rule - 1) = (nodeM m p).rule - 1:=wrap64 (by omega) (by omega)
   have hgd:=hi.good
   have hxs:short (sideM r ARule.left (contractM r (nodeM m p))) = true:=side_short r ARule.left (fun x hx=>(checkSystem_good hc x hx).1.1) _ (contractM_ok hc q1 q2)
   generalize contractM r (nodeM m p) = x' at *
   generalize hm':setM m p x' = m' at *
   generalize hnd:nodeM m p = nd at *
   generalize copiesM r m p = qs at *
   push_cast [Option.isSome_some]
   refine .of hNo ?_
   push_cast
   refine .of hPl ?_
   push_cast
   have h9:=loop_up (n:=qs.length) (R:=fun k=>∀ t,good t→RunC (sideM r ARule.left nd) (sideM r ARule.left x') (qs.drop k) t (sideM r ARule.left m')→doAll (sideM r ARule.left x') (sideM r ARule.left m) qs = doAll (sideM r ARule.left x') t (qs.drop k)→ss.length+k≤4096 →
    multi_develop.L5 (encRs r) (.fn (.func g) [] []) (.ptr 0 0) (.ptr 1 0) (.ptr 3 0) (.ptr 4 0) (encP p) (.ro (cM nd) 0) (encPs qs) (.int .i64 qs.length) (.int .i64 k) 0 [.cells t_Multi (cM m),.cells t_Chain [.str [],.bool false,.sl 3 [],.sl 2 []],.dead,.cells t_Chain [.str t0.name,.bool t0.var,encTs t0.args,ownL cSt 5 2 (ss++stepsOf nd.rule (qs.take k))],.cells t_Term (cT (t)),.arr t_Step 2 ((ss.length+k)),.dead] (Ends 0 multi_develop.rs fun x' H'=>x' = res∧H' = [])) ?_ ?_ 0 (by omega) (sideM r ARule.left m) hgd q6 rfl hle
   ·simp only [List.take_zero,stepsOf,List.map_nil,List.append_nil,Nat.add_zero] at h9
    exact h9
   ·intro k hk ih t ht hR hD hl
    obtain ⟨s1,s2⟩:=hR.drop hk
    rw [doAll_drop hk] at hD
    rw [stepsOf_take hk] at ih
    generalize hqd:qs.getD k default = q at *
    have hql:=subT_len q t _ s1
    have hdl:=depth_le_size t
    have htz:=ht.2
    have hDo:=rewrite_Do_s r t ⟨nd.rule - 1,q⟩ (by omega) (good_tb ht) (by show q.length < _;omega) (fun x hx=>by have:=setT_size q t x;have:=fits_size hx;show size (setT t q x) < _;omega)
    rw [hst t q s1] at hDo
    refine multi_develop.G5 ?_
    have hsl:(ss++stepsOf nd.rule (qs.take k)).length = ss.length+k:=by rw [List.length_append,stepsOf_len,List.length_take];omega
    cases hb:(Dw.fits (sideM r ARule.left x') && Dw.fits (setT t q (sideM r ARule.left x'))) with
    | false =>
     rw [hb,Bool.false_and] at hD
     have hre:=hN (hrn (by rw [hD];simp))
     simp only [hb,Bool.false_eq_true,if_false,encTE] at hDo
     push_cast [ilt hk,hqd,hw]
     refine .of hDo ?_
     push_cast
     rw [hre]
     exact pf_ret (by push_cast [multi_develop.rs];rfl)
    | true =>
     rw [hb,Bool.true_and] at hD
     simp only [hb,if_true,encTE] at hDo
     rw [Bool.and_eq_true] at hb
     have hgu:good (setT t q (sideM r ARule.left x')):=⟨setT_short q t _ ht.1 hxs,fits_size hb.2⟩
     by_cases h4:ss.length+k = 4096
     ·have hre:=hN (hrn fun h=>by have:=h.2.1;omega)
      have h4i:((ss.length:Int)+(k:Int) = 4096) = True:=eq_true (by omega)
      push_cast [ilt hk,hqd,hw]
      refine .of hDo ?_
      push_cast [hsl,h4i]
      rw [hre]
      exact pf_ret (by push_cast [multi_develop.rs];rfl)
     ·have h4i:((ss.length:Int)+(k:Int) = 4096) = False:=eq_false (by omega)
      push_cast [ilt hk,hqd,hw]
      refine .of hDo ?_
      push_cast [hsl,h4i,w64 (show k < 2^62 by omega)]
      refine ⟨by unfold maxEls;omega,?_⟩
      rw [own_st,List.append_assoc]
      exact ih _ hgu s2 hD (by omega)
   ·intro t ht hR hD hl
    rw [List.drop_eq_nil_of_le (Nat.le_refl _)] at hR hD
    obtain rfl:sideM r ARule.left m' = t:=hR
    refine multi_develop.G5 ?_
    push_cast [inlt (Nat.le_refl _),List.take_length]
    refine .of hCo ?_
    push_cast
    refine .of hSe ?_
    push_cast
    refine .of hFi ?_
    cases hfm:fitM m' with
    | false =>
     have hre:=hN (hrn (by rw [hfm];simp))
     push_cast [fitE,hfm,encME]
     rw [hre]
     exact pf_ret (by push_cast [multi_develop.rs];rfl)
    | true =>
     have hro:=hrs ⟨hD,by omega,hfm⟩
     have hi2:=hnx _ _ hro
     push_cast [fitE,hfm,encME]
     refine .of (hg m' hi2.sz hi2.dp) ?_
     have hk:=hS _ hro
     cases hf2:firstM post m' with
     | none =>
      have:=ihn m' _ hi2 (encP []) res hk rfl (by rw [hf2];rfl)
      rw [hf2,List.length_append,stepsOf_len] at this
      simp only [encPF]
      push_cast
      exact this
     | some p2 =>
      have:=ihn m' _ hi2 (encP p2) res hk rfl (by rw [hf2];rfl)
      rw [hf2,List.length_append,stepsOf_len] at this
      simp only [encPF,List.nil_append]
      push_cast
      exact this
set_option maxHeartbeats 4000000 in
theorem dev_keyB {r:List ARule} (hr:rbs r < 2^28) (hc:checkSystem r = 0) {post:Bool} {g:Nat} (hg:∀ m,msize m≤4000→mdepth m≤200→PF g [encM m,.sl 1 []] (encPF [] (firstM post m) [])) (t0:Term) :
  ∀ (n:Nat) (m:AMulti) (ss:List AStep),DevI r n m ss→∀ pv:V,∀ res:V,devV t0 (devM r post n m ss) = res→(pv,res) = (pv,res)→(encPF [] (firstM post m) [] = .tup [pv,.bool (firstM post m).isSome]) →
   multi_develop.L7 (encRs r) (.fn (.func g) [] []) (.ptr 0 0) (.ptr 1 0) (.ptr 4 0) (.ptr 3 0) pv (.bool (firstM post m).isSome) 0 [.cells t_Multi (cM m),.cells t_Chain [.str [],.bool false,.sl 3 [],.sl 2 []],.dead,.cells t_Term (cT (sideM r ARule.left m)),.cells t_Chain [.str t0.name,.bool t0.var,encTs t0.args,ownL cSt 5 2 ss],.arr t_Step 2 (ss.length)] (Ends 0 multi_develop.rs fun x' H'=>x' = res∧H' = []):=by
  intro n
  induction n with
  | zero=>intro m ss hi;have:=hi.gt;have:=hi.le;omega
  | succ n ihn =>
  intro m ss hi pv res hres _ hpv
  have hle:=hi.le
  refine multi_develop.G7 ?_
  simp only [devM] at hres
  cases hf:firstM post m with
  | none =>
   rw [hf] at hres hpv
   simp only [devV] at hres
   push_cast [Option.isSome_none]
   rw [← hres]
   exact pf_ret (by push_cast [multi_develop.rs];exact encC_mk t0 ss)
  | some p =>
   rw [hf] at hres hpv
   simp only [encPF,List.nil_append] at hpv
   dsimp only at hres
   have hN:roundM r m p ss = none→res = devV t0 none:=fun h=>by rw [h] at hres;exact hres.symm
   have hS:∀ y,roundM r m p ss = some y→devV t0 (devM r post n y.1 y.2) = res:=fun y h=>by rw [h] at hres;exact hres
   have hnx:=fun m' ss' h=>hi.next (m':=m') (ss':=ss') hf h
   obtain rfl:encP p = pv:=by injection hpv with h;injection h
   obtain ⟨q1,q2,q3,q4,q5,q6⟩:=hi.run hf
   have hpm:=msize_nodeM p m q3
   have hcz:=contractM_size hc q1 q2 (by have:=hi.sz;omega)
   have hsz:=msize_set (x:=contractM r (nodeM m p)) p m q3
   have hmz:=hi.sz
   have hNo:=multi_node_s m p q3 (by omega)
   have hPl:=multi_places_s r m p hi.ok q3 (by omega) (fun x hx=>(checkSystem_good hc x hx).1.1) (fits_size hi.ft) (by omega)
   have hCo:=multi_contract_s r (nodeM m p) hc q1 q2 (by omega)
   have hSe:=multi_set_s p m (contractM r (nodeM m p)) q3 (by omega) (by omega)
   have hFi:=multi_Fit_s (setM m p (contractM r (nodeM m p))) (by omega)
   have hst:=fun (t:Term) (q:List Int) (hq:subT t q = some (sideM r ARule.left (nodeM m p)))=>DevI.step hc q1 q2 hq
   have hrn:=roundM_none (r:=r) (m:=m) (p:=p) (ss:=ss)
   have hrs:=roundM_some (r:=r) (m:=m) (p:=p) (ss:=ss)
   have hcl:=copiesM_len (fun x hx=>(checkSystem_good hc x hx).1.1) p m hi.ok q3
   have hft:=fits_size hi.ft
   have hlr:=length_le_rbs r
   obtain ⟨_,k2,_,_,_,_⟩:=q1.rule (by omega)
   have hw:IntKind.i64.wrap ((nodeM m p).rule - 1) = (nodeM m p).rule - 1:=wrap64 (by omega) (by omega)
   have hgd:=hi.good
   have hxs:short (sideM r ARule.left (contractM r (nodeM m p))) = true:=side_short r ARule.left (fun x hx=>(checkSystem_good hc x hx).1.1) _ (contractM_ok hc q1 q2)
   generalize contractM r (nodeM m p) = x' at *
   generalize hm':setM m p x' = m' at *
   generalize hnd:nodeM m p = nd at *
   generalize copiesM r m p = qs at *
   push_cast [Option.isSome_some]
   refine .of hNo ?_
   push_cast
   refine .of hPl ?_
   push_cast
   have h9:=loop_up (n:=qs.length) (R:=fun k=>∀ t,good t→RunC (sideM r ARule.left nd) (sideM r ARule.left x') (qs.drop k) t (sideM r ARule.left m')→doAll (sideM r ARule.left x') (sideM r ARule.left m) qs = doAll (sideM r ARule.left x') t (qs.drop k)→ss.length+k≤4096 →
    multi_develop.L5 (encRs r) (.fn (.func g) [] []) (.ptr 0 0) (.ptr 1 0) (.ptr 4 0) (.ptr 3 0) (encP p) (.ro (cM nd) 0) (encPs qs) (.int .i64 qs.length) (.int .i64 k) 0 [.cells t_Multi (cM m),.cells t_Chain [.str [],.bool false,.sl 3 [],.sl 2 []],.dead,.cells t_Term (cT (t)),.cells t_Chain [.str t0.name,.bool t0.var,encTs t0.args,ownL cSt 5 2 (ss++stepsOf nd.rule (qs.take k))],.arr t_Step 2 ((ss.length+k)),.dead] (Ends 0 multi_develop.rs fun x' H'=>x' = res∧H' = [])) ?_ ?_ 0 (by omega) (sideM r ARule.left m) hgd q6 rfl hle
   ·simp only [List.take_zero,stepsOf,List.map_nil,List.append_nil,Nat.add_zero] at h9
    exact h9
   ·intro k hk ih t ht hR hD hl
    obtain ⟨s1,s2⟩:=hR.drop hk
    rw [doAll_drop hk] at hD
    rw [stepsOf_take hk] at ih
    generalize hqd:qs.getD k default = q at *
    have hql:=subT_len q t _ s1
    have hdl:=depth_le_size t
    have htz:=ht.2
    have hDo:=rewrite_Do_s r t ⟨nd.rule - 1,q⟩ (by omega) (good_tb ht) (by show q.length < _;omega) (fun x hx=>by have:=setT_size q t x;have:=fits_size hx;show size (setT t q x) < _;omega)
    rw [hst t q s1] at hDo
    refine multi_develop.G5 ?_
    have hsl:(ss++stepsOf nd.rule (qs.take k)).length = ss.length+k:=by rw [List.length_append,stepsOf_len,List.length_take];omega
    cases hb:(Dw.fits (sideM r ARule.left x') && Dw.fits (setT t q (sideM r ARule.left x'))) with
    | false =>
     rw [hb,Bool.false_and] at hD
     have hre:=hN (hrn (by rw [hD];simp))
     simp only [hb,Bool.false_eq_true,if_false,encTE] at hDo
     push_cast [ilt hk,hqd,hw]
     refine .of hDo ?_
     push_cast
     rw [hre]
     exact pf_ret (by push_cast [multi_develop.rs];rfl)
    | true =>
     rw [hb,Bool.true_and] at hD
     simp only [hb,if_true,encTE] at hDo
     rw [Bool.and_eq_true] at hb
     have hgu:good (setT t q (sideM r ARule.left x')):=⟨setT_short q t _ ht.1 hxs,fits_size hb.2⟩
     by_cases h4:ss.length+k = 4096
     ·have hre:=hN (hrn fun h=>by have:=h.2.1;omega)
      have h4i:((ss.length:Int)+(k:Int) = 4096) = True:=eq_true (by omega)
      push_cast [ilt hk,hqd,hw]
      refine .of hDo ?_
      push_cast [hsl,h4i]
      rw [hre]
      exact pf_ret (by push_cast [multi_develop.rs];rfl)
     ·have h4i:((ss.length:Int)+(k:Int) = 4096) = False:=eq_false (by omega)
      push_cast [ilt hk,hqd,hw]
      refine .of hDo ?_
      push_cast [hsl,h4i,w64 (show k < 2^62 by omega)]
      refine ⟨by unfold maxEls;omega,?_⟩
      rw [own_st,List.append_assoc]
      exact ih _ hgu s2 hD (by omega)
   ·intro t ht hR hD hl
    rw [List.drop_eq_nil_of_le (Nat.le_refl _)] at hR hD
    obtain rfl:sideM r ARule.left m' = t:=hR
    refine multi_develop.G5 ?_
    push_cast [inlt (Nat.le_refl _),List.take_length]
    refine .of hCo ?_
    push_cast
    refine .of hSe ?_
    push_cast
    refine .of hFi ?_
    cases hfm:fitM m' with
    | false =>
     have hre:=hN (hrn (by rw [hfm];simp))
     push_cast [fitE,hfm,encME]
     rw [hre]
     exact pf_ret (by push_cast [multi_develop.rs];rfl)
    | true =>
     have hro:=hrs ⟨hD,by omega,hfm⟩
     have hi2:=hnx _ _ hro
     push_cast [fitE,hfm,encME]
     refine .of (hg m' hi2.sz hi2.dp) ?_
     have hk:=hS _ hro
     cases hf2:firstM post m' with
     | none =>
      have:=ihn m' _ hi2 (encP []) res hk rfl (by rw [hf2];rfl)
      rw [hf2,List.length_append,stepsOf_len] at this
      simp only [encPF]
      push_cast
      exact this
     | some p2 =>
      have:=ihn m' _ hi2 (encP p2) res hk rfl (by rw [hf2];rfl)
      rw [hf2,List.length_append,stepsOf_len] at this
      simp only [encPF,List.nil_append]
      push_cast
      exact this
def devE (r:List ARule) (post:Bool) (m:AMulti):V :=
 if (endM r ARule.left m).2 ≠ 0 then .tup [encC noC,.int .i64 (endM r ARule.left m).2] else devV (sideM r ARule.left m) (devM r post 4097 m [])
theorem endM_none {r:List ARule} {f:ARule→Term} {m:AMulti} (h:(endM r f m).2 ≠ 0):(endM r f m).1 = none:=by
 unfold endM at h ⊢
 split
 ·rfl
 ·rename_i h1
  rw [if_neg h1] at h
  split
  ·rename_i h2
   rw [if_pos h2] at h
   exact absurd rfl h
  ·rfl
theorem endM_some {r:List ARule} {f:ARule→Term} {m:AMulti} (h:(endM r f m).2 = 0):checkM r m = 0∧fits (sideM r f m) = true∧endM r f m = (some (sideM r f m),0):=by
 unfold endM at h ⊢
 split at h
 ·rename_i h1;exact absurd h h1
 ·rename_i h1
  rw [if_neg h1]
  split at h
  ·rename_i h2
   rw [if_pos h2]
   exact ⟨Classical.not_not.1 h1,h2,rfl⟩
  ·cases h
theorem DevI.start {r:List ARule} {m:AMulti} (h:(endM r ARule.left m).2 = 0):DevI r 4097 m []:=by
 obtain ⟨h1,h2,h3⟩:=endM_some h
 obtain ⟨c1,c2,c3,c4⟩:=checkM_ok h1
 exact ⟨c1,c2,c3,c4,h2,by simp,by simp⟩
theorem multi_develop_s (r:List ARule) (m:AMulti) (post:Bool) (g:Nat) (hr:rbs r < 2^28) (hm:mb m < 2^28) (hg:∀ m,msize m≤4000→mdepth m≤200→PF g [encM m,.sl 1 []] (encPF [] (firstM post m) [])) :
  PF n_multi_develop [encRs r,encM m,.fn (.func g) [] []] (devE r post m):=by
 have hS:=multi_Source_s r m (by omega) (by omega)
 refine pf_of multi_develop.ok rfl ?_
 unfold devE
 by_cases h1:(endM r ARule.left m).2 = 0
 ·obtain ⟨k1,k2,k3⟩:=endM_some h1
  have hi:=DevI.start h1
  rw [k3] at hS
  rw [if_neg (by simpa using h1)]
  unfold encTE at hS
  have hA:=dev_keyA hr hi.sys hg (sideM r ARule.left m) 4097 m [] hi
  have hB:=dev_keyB hr hi.sys hg (sideM r ARule.left m) 4097 m [] hi
  generalize hres:devV (sideM r ARule.left m) (devM r post 4097 m []) = res at hA hB ⊢
  push_cast
  refine .of hS ?_
  have e1:∀ t:Term,(put 0 (cT t++[V.nil]) [V.str [],V.bool false,V.sl 3 [],V.nil])[3]? = some V.nil:=fun t=>by rw [cT_eq];rfl
  have e2:∀ (t:Term) (v:V),put 3 [v] (put 0 (cT t++[V.nil]) [V.str [],V.bool false,V.sl 3 [],V.nil]) = [.str t.name,.bool t.var,encTs t.args,v]:=fun t v=>by rw [cT_eq];rfl
  push_cast [e1,e2]
  have hgm:=hg m hi.sz hi.dp
  cases hf:firstM post m with
  | none =>
   have hA:=hA (encP []) res rfl rfl (by rw [hf];rfl)
   have hB:=hB (encP []) res rfl rfl (by rw [hf];rfl)
   rw [hf] at hA hB hgm
   refine ⟨?_,?_⟩
   ·refine .of hgm ?_
    simp only [encPF]
    push_cast
    exact hA
   ·refine .of hgm ?_
    simp only [encPF]
    push_cast
    exact hB
  | some p =>
   have hA:=hA (encP p) res rfl rfl (by rw [hf];rfl)
   have hB:=hB (encP p) res rfl rfl (by rw [hf];rfl)
   rw [hf] at hA hB hgm
   refine ⟨?_,?_⟩
   ·refine .of hgm ?_
    simp only [encPF,List.nil_append]
    push_cast
    exact hA
   ·refine .of hgm ?_
    simp only [encPF,List.nil_append]
    push_cast
    exact hB
 ·have h2:=endM_none h1
  rw [h2] at hS
  rw [if_pos h1]
  unfold encTE at hS
  push_cast
  refine .of hS ?_
  push_cast [eq_false h1]
  exact pf_ret (by push_cast [multi_develop.rs];rfl)
theorem devE_tup (r:List ARule) (post:Bool) (m:AMulti):∃ (c:AChain) (e:Int),devE r post m = .tup [encC c,.int .i64 e]:=by
 unfold devE
 split
 ·exact ⟨_,_,rfl⟩
 ·unfold devV
  split <;> exact ⟨_,_,rfl⟩
theorem multi_Chain_s (r:List ARule) (m:AMulti) (hr:rbs r < 2^28) (hm:mb m < 2^28):PF n_multi_Chain [encRs r,encM m] (devE r false m):=by
 have hD:=multi_develop_s r m false n_multi_first hr hm fun u h1 h2=>multi_first_s u [] (by simp;omega) (by omega)
 refine pf_of multi_Chain.ok rfl ?_
 obtain ⟨c,e,h⟩:=devE_tup r false m
 rw [h] at hD ⊢
 push_cast
 refine .of hD ?_
 push_cast
 exact pf_ret (by push_cast [multi_Chain.rs];try rfl)
theorem multi_Inner_s (r:List ARule) (m:AMulti) (hr:rbs r < 2^28) (hm:mb m < 2^28):PF n_multi_Inner [encRs r,encM m] (devE r true m):=by
 have hD:=multi_develop_s r m true n_multi_deep hr hm fun u h1 h2=>multi_deep_s u [] (by simp;omega) (by omega)
 refine pf_of multi_Inner.ok rfl ?_
 obtain ⟨c,e,h⟩:=devE_tup r true m
 rw [h] at hD ⊢
 push_cast
 refine .of hD ?_
 push_cast
 exact pf_ret (by push_cast [multi_Inner.rs];try rfl)
end Go.Dw
end
section
namespace Go.Dw
theorem devM_short {r:List ARule} (hr:rbs r < 2^28) {post:Bool}:∀ (n:Nat) (m:AMulti) (ss:List AStep),DevI r n m ss→(∀ s∈ss,s.pos.length < 2^40)→∀ o,devM r post n m ss = some o→o.length≤4096∧∀ s∈o,s.pos.length < 2^40
 | 0,m,ss,hi,hs,o,h=>by cases h
 | n+1,m,ss,hi,hs,o,h=>by
  simp only [devM] at h
  cases hf:firstM post m with
  | none =>
   rw [hf] at h
   cases h
   exact ⟨hi.le,hs⟩
  | some p =>
   rw [hf] at h
   dsimp only at h
   cases hrn:roundM r m p ss with
   | none=>rw [hrn] at h;cases h
   | some y =>
    rw [hrn] at h
    obtain ⟨m',ss'⟩:=y
    refine devM_short hr n m' ss' (hi.next hf hrn) ?_ o h
    obtain ⟨q1,q2,q3,q4,q5,q6⟩:=hi.run hf
    have hsh:=copiesM_short hr p m hi.ok q3
    unfold roundM at hrn
    split at hrn
    ·cases hrn
     intro s hs2
     rcases List.mem_append.1 hs2 with hs2 | hs2
     ·exact hs s hs2
     ·unfold stepsOf at hs2
      obtain ⟨q,hq,rfl⟩:=List.mem_map.1 hs2
      have h1:=hsh q hq
      have h2:p.length * 268435456≤200 * 268435456:=Nat.mul_le_mul_right _ (by omega)
      show q.length < _
      omega
    ·cases hrn
end Go.Dw
end
section
namespace Go.Dw
theorem plug_formed {vars:List Str} {x:List Term} (hl:vars.length≤x.length) (hx:∀ a∈x,formed a = true) (t:Term) (ht:formed t = true) (ho:∀ n,occ n t = true→n∈vars):formed (plugT vars x t) = true:=by
 induction t using term_ind with
 | h t ih =>
 obtain ⟨h1,h2⟩:=formed_iff.1 ht
 rw [plugT_eq]
 cases hv:t.var with
 | true =>
  obtain ⟨i1,i2,i3⟩:=idxI_ix (ho _ (occ_self hv))
  rw [if_pos rfl]
  exact hx _ (getD_mem (by omega))
 | false =>
  rw [if_neg (by simp)]
  refine formed_iff.2 ⟨?_,fun a ha=>?_⟩
  ·rw [hv] at h1
   show nodeOk t.name false (t.args.map (plugT vars x)).length = true
   rw [List.length_map];exact h1
  ·obtain ⟨b,hb,rfl⟩:=List.mem_map.1 (show a∈t.args.map (plugT vars x) from ha)
   exact ih b hb (h2 b hb) fun n hn=>ho n (occ_arg hb hn)
theorem side_formed {r:List ARule} {f:ARule→Term} (hf:∀ x∈r,formed (f x) = true) (hv:∀ x∈r,∀ v,occ v (f x) = true→v∈varsOf [x.left]) (m:AMulti) (hm:OkM r m):formed (sideM r f m) = true:=by
 induction m using multi_ind with
 | h m ih =>
 have hx:∀ a∈m.args.map (sideM r f),formed a = true:=fun a ha=>by
  obtain ⟨u,hu,rfl⟩:=List.mem_map.1 ha
  exact ih u hu (hm.arg hu)
 rw [sideM_eq]
 by_cases h0:m.rule = 0
 ·rw [if_pos h0]
  have hfm:=allM_self hm.fm
  unfold formedM at hfm
  rw [if_neg (by omega)] at hfm
  refine formed_iff.2 ⟨?_,hx⟩
  cases hmv:m.var with
  | true =>
   rw [hmv,if_pos rfl,Bool.and_eq_true,decide_eq_true_eq] at hfm
   simp [nodeOk,Term.args,Term.name,Term.var,hfm.2]
   exact List.length_eq_zero_iff.1 hfm.1
  | false =>
   rw [hmv,if_neg (by simp),Bool.and_eq_true,decide_eq_true_eq] at hfm
   simp [nodeOk,Term.args,Term.name,Term.var,hfm.2,hfm.1]
 ·obtain ⟨k1,k2,k3,k4,k5,k6⟩:=hm.rule h0
  rw [if_neg h0]
  exact plug_formed (by rw [List.length_map];omega) hx _ (hf _ k3) (hv _ k3)
theorem side_set {r:List ARule} {f:ARule→Term} {y:AMulti}:∀ (p:List Int) (m:AMulti),PathM m p→sideM r f y = sideM r f (nodeM m p)→sideM r f (setM m p y) = sideM r f m
 | [],m,_,h=>h
 | i :: p,m,hp,h=>by
  obtain ⟨h0,h1,h2⟩:=hp
  have hk:i.toNat < m.args.length:=by omega
  have ih:=side_set p _ h2 h
  simp only [setM]
  rw [sideM_eq r f m,sideM_eq r f (.mk _ _ _ _)]
  have e:(m.args.set i.toNat (setM (m.args.getD i.toNat default) p y)).map (sideM r f) = m.args.map (sideM r f):=by
   rw [List.map_set,ih]
   have:=split_at (l:=m.args.map (sideM r f)) (k:=i.toNat) (by rw [List.length_map];exact hk)
   apply List.ext_getElem (by simp)
   intro j h5 h6
   rw [List.getElem_set]
   split
   ·rename_i hj
    subst hj
    simp [List.getD_eq_getElem?_getD,hk]
   ·rfl
  show (if m.rule = 0 then Term.mk m.name m.var (List.map (sideM r f) (m.args.set i.toNat (setM (m.args.getD i.toNat default) p y))) else plugT (varsOf [(ruleOf r m).left]) (List.map (sideM r f) (m.args.set i.toNat (setM (m.args.getD i.toNat default) p y))) (f (ruleOf r m))) = _
  rw [e]
theorem target_contract {r:List ARule} {m:AMulti} (hc:checkSystem r = 0) (hm:OkM r m) (h0:0 < m.rule):sideM r ARule.right (contractM r m) = sideM r ARule.right m:=by
 obtain ⟨k1,k2,k3,k4,k5,k6⟩:=hm.rule (by omega)
 rw [sideM_eq r _ m,if_neg (by omega)]
 exact side_plug (by omega) _ (varsOf_right hc _ k3)
theorem firstMs_none {post:Bool}:∀ (l:List AMulti) (i:Nat),firstMs post l i = none→∀ a∈l,firstM post a = none
 | [],i,_,a,h=>by cases h
 | b :: l,i,h,a,ha=>by
  simp only [firstMs] at h
  split at h
  ·cases h
  ·rename_i hb
   rcases List.mem_cons.1 ha with rfl | ha
   ·exact hb
   ·exact firstMs_none l (i+1) h a ha
theorem first_none {r:List ARule} {f g:ARule→Term} {post:Bool} (m:AMulti) (hm:OkM r m) (h:firstM post m = none):sideM r f m = sideM r g m:=by
 induction m using multi_ind with
 | h m ih =>
 rw [firstM_eq] at h
 split at h
 ·cases h
 ·split at h
  ·cases h
  ·rename_i h2
   split at h
   ·cases h
   ·rename_i h3
    have hr:=allM_self hm.rg
    unfold rangedM at hr
    rw [Bool.and_eq_true,decide_eq_true_eq] at hr
    have h0:m.rule = 0:=by omega
    rw [sideM_eq r f,sideM_eq r g,if_pos h0,if_pos h0]
    congr 1
    exact List.map_congr_left fun a ha=>ih a ha (hm.arg ha) (firstMs_none _ _ h2 a ha)
def Goes (r:List ARule):List AStep→Term→Term→Prop
 | [],t,t'=>t' = t
 | s :: l,t,t'=>∃ u,doE r t s = (some u,0)∧Goes r l u t'
theorem Goes.app {r:List ARule}:∀ {a b:List AStep} {t t1 t':Term},Goes r a t t1→Goes r b t1 t'→Goes r (a++b) t t'
 | [],b,t,t1,t',h,h2=>by cases h;exact h2
 | s :: a,b,t,t1,t',⟨u,h,h1⟩,h2=>⟨u,h,Goes.app h1 h2⟩
theorem Goes.run {r:List ARule}:∀ {l:List AStep} {t t':Term},Goes r l t t'→(runE r t l).2 = 0∧lastT (t :: (runE r t l).1) = t'
 | [],t,t',h=>by cases h;exact ⟨rfl,rfl⟩
 | s :: l,t,t',⟨u,h,h1⟩=>by
  obtain ⟨h2,h3⟩:=Goes.run h1
  rw [runE_some h]
  unfold addE
  rw [if_pos h2]
  refine ⟨rfl,?_⟩
  rw [← h3]
  simp [lastT]
theorem round_goes {r:List ARule} (hc:checkSystem r = 0) {x:AMulti} (hx:OkM r x) (h0:0 < x.rule):∀ (qs:List (List Int)) (t t':Term),RunC (sideM r ARule.left x) (sideM r ARule.left (contractM r x)) qs t t'→doAll (sideM r ARule.left (contractM r x)) t qs = true→Goes r (stepsOf x.rule qs) t t'
 | [],t,t',h,_=>h
 | q :: qs,t,t',h,hd=>by
  simp only [doAll,Bool.and_eq_true] at hd
  refine ⟨_,?_,round_goes hc hx h0 qs _ t' h.2 hd.2⟩
  rw [DevI.step hc hx h0 h.1,if_pos (by rw [Bool.and_eq_true];exact hd.1)]
theorem devM_goes {r:List ARule} {post:Bool}:∀ (n:Nat) (m:AMulti) (ss:List AStep),DevI r n m ss→∀ o,devM r post n m ss = some o→∃ rest,o = ss++rest∧Goes r rest (sideM r ARule.left m) (sideM r ARule.right m)∧fits (sideM r ARule.right m) = true
 | 0,m,ss,hi,o,h=>by cases h
 | n+1,m,ss,hi,o,h=>by
  simp only [devM] at h
  cases hf:firstM post m with
  | none =>
   rw [hf] at h
   cases h
   have he:=first_none (r:=r) (f:=ARule.right) (g:=ARule.left) m hi.ok hf
   exact ⟨[],by simp,he,by rw [he];exact hi.ft⟩
  | some p =>
   rw [hf] at h
   dsimp only at h
   cases hrn:roundM r m p ss with
   | none=>rw [hrn] at h;cases h
   | some y =>
    rw [hrn] at h
    obtain ⟨m',ss'⟩:=y
    obtain ⟨rest,h1,h2,h3⟩:=devM_goes n m' ss' (hi.next hf hrn) o h
    obtain ⟨q1,q2,q3,q4,q5,q6⟩:=hi.run hf
    unfold roundM at hrn
    split at hrn
    ·rename_i hcd
     cases hrn
     have ht:=side_set (f:=ARule.right) p m q3 (target_contract hi.sys q1 q2)
     rw [ht] at h2 h3
     exact ⟨stepsOf (nodeM m p).rule (copiesM r m p)++rest,by rw [h1,List.append_assoc],(round_goes hi.sys q1 q2 _ _ _ q6 hcd.1).app h2,h3⟩
    ·cases hrn
theorem derive_Last_s (r:List ARule) (c:AChain) (hr:rbs r < 2^28) (hc:tb c.start < 2^28) (hl:c.steps.length < 2^40) (hp:∀ s∈c.steps,s.pos.length < 2^40) (h:(termsE r c).2 = 0):PF n_derive_Last [encRs r,encC c] (.tup [encT (lastT (termsE r c).1),.int .i64 0]):=by
 have hT:=derive_Terms_s r c hr hc hl hp
 obtain ⟨g1,g2,g3,g4,g5⟩:=termsE_good h
 have hlen:=termsE_len (r:=r) (c:=c)
 rw [h] at hT
 unfold lastT
 generalize (termsE r c).1 = l at hT g4 g5 hlen ⊢
 have hl0:=List.length_pos_iff.2 g4
 refine pf_of derive_Last.ok rfl ?_
 push_cast
 refine .of hT ?_
 have hw:IntKind.i64.wrap ((l.length:Int) - 1) = (l.length:Int) - 1:=wrap64 (by omega) (by omega)
 have c1:((0:Int)≤(l.length:Int) - 1) = True:=eq_true (by omega)
 have c2:((l.length:Int) - 1 < (l.length:Int)) = True:=eq_true (by omega)
 have c3:((l.length:Int) - 1).toNat = l.length - 1:=by omega
 push_cast [hw,c1,c2,c3]
 exact pf_ret (by push_cast [derive_Last.rs];try rfl)
theorem devE_ends {r:List ARule} {m:AMulti} {post:Bool} (hr:rbs r < 2^28):(∃ e:Int,e ≠ 0∧devE r post m = .tup [encC noC,.int .i64 e]) ∨ (∃ ss,devE r post m = .tup [encC ⟨sideM r ARule.left m,ss⟩,.int .i64 0]∧endM r ARule.left m = (some (sideM r ARule.left m),0)∧endM r ARule.right m = (some (sideM r ARule.right m),0)∧tb (sideM r ARule.left m) < 2^28∧tb (sideM r ARule.right m) < 2^28∧PF n_derive_Last [encRs r,encC ⟨sideM r ARule.left m,ss⟩] (.tup [encT (sideM r ARule.right m),.int .i64 0])):=by
 unfold devE
 by_cases h1:(endM r ARule.left m).2 = 0
 ·obtain ⟨k1,k2,k3⟩:=endM_some h1
  obtain ⟨c1,c2,c3,c4⟩:=checkM_ok k1
  have hi:=DevI.start h1
  rw [if_neg (by simpa using h1)]
  cases hd:devM r post 4097 m [] with
  | none=>exact .inl ⟨3,by decide,rfl⟩
  | some ss =>
   right
   obtain ⟨rest,g1,g2,g3⟩:=devM_goes 4097 m [] hi ss hd
   obtain ⟨h2,h3⟩:=devM_short hr 4097 m [] hi (fun s hs=>by cases hs) ss hd
   rw [List.nil_append] at g1
   subst g1
   have hgl:=hi.good
   have hgr:good (sideM r ARule.right m):=⟨side_short r ARule.right (fun x hx=>(checkSystem_good c1 x hx).2.1) m c2,fits_size g3⟩
   have hck:check (sideM r ARule.left m) = 0:=check_iff.2 ⟨side_formed (fun x hx=>(check_iff.1 (checkSystem_sides c1 x hx).1).1) (fun x _=>varsOf_left x) m c2,hi.ft⟩
   obtain ⟨r1,r2⟩:=g2.run
   have hte:termsE r ⟨sideM r ARule.left m,ss⟩ = (sideM r ARule.left m :: (runE r (sideM r ARule.left m) ss).1,0):=by
    unfold termsE chainE addE
    rw [if_neg (by simpa using c1),if_neg (by show ¬ 4096 < ss.length;omega),if_neg (by simpa using hck)]
    show (if (runE r (sideM r ARule.left m) ss).2 = 0 then _ else _) = _
    rw [if_pos r1];rfl
   have hL:=derive_Last_s r ⟨sideM r ARule.left m,ss⟩ hr (good_tb hgl) (by show ss.length < _;omega) h3 (by rw [hte])
   rw [hte] at hL
   dsimp only at hL
   rw [r2] at hL
   refine ⟨ss,rfl,k3,?_,good_tb hgl,good_tb hgr,hL⟩
   rw [endM_term k1];unfold termM;rw [if_pos g3]
 ·rw [if_pos h1]
  exact .inl ⟨_,h1,rfl⟩
set_option maxHeartbeats 4000000 in
theorem MultiDevelops_s (r:List ARule) (m:AMulti) (hr:rbs r < 2^28) (hm:mb m < 2^28) :
  SpecE prog n_l17_MultiDevelops [encRs r,encM m] [] (fun x' H'=>x' = .bool true∧H' = []):=by
 have hC:=multi_Chain_s r m hr hm
 have hI:=multi_Inner_s r m hr hm
 have hS:=multi_Source_s r m (by omega) (by omega)
 have hT:=multi_Target_s r m (by omega) (by omega)
 refine spece_of_run mixed l17_MultiDevelops.ok rfl ?_
 have hz:∀ (o:Option Term) (e:Int),∃ t,encTE o e = .tup [encT t,.int .i64 e]:=fun o e=>by
  cases o with
  | none=>exact ⟨noT,rfl⟩
  | some t=>exact ⟨t,rfl⟩
 rcases devE_ends (m:=m) (post:=false) hr with ⟨e,e0,hde⟩ | ⟨ss,hde,w1,w2,w3,w4,w5⟩
 ·rw [hde] at hC
  rcases devE_ends (m:=m) (post:=true) hr with ⟨f,f0,hdf⟩ | ⟨ts,hdf,v1,v2,v3,v4,v5⟩
  ·rw [hdf] at hI
   obtain ⟨t1,q1⟩:=hz (endM r ARule.left m).1 (endM r ARule.left m).2
   obtain ⟨t2,q2⟩:=hz (endM r ARule.right m).1 (endM r ARule.right m).2
   rw [q1] at hS
   rw [q2] at hT
   push_cast
   refine .of hS ?_
   push_cast
   refine .of hT ?_
   push_cast
   refine .of hC ?_
   push_cast
   refine .of hI ?_
   push_cast [eq_false e0,eq_false f0]
   refine .of alive17 ?_
   push_cast
   exact pf_ret (by push_cast [l17_MultiDevelops.rs])
  ·rw [hdf] at hI
   rw [v1] at hS
   rw [v2] at hT
   unfold encTE at hS hT
   have E1:=r01_Equal_s (sideM r ARule.left m) (sideM r ARule.left m) (by omega) (by omega)
   have E2:=r01_Equal_s (sideM r ARule.right m) (sideM r ARule.right m) (by omega) (by omega)
   push_cast
   refine .of hS ?_
   push_cast
   refine .of hT ?_
   push_cast
   refine .of hC ?_
   push_cast
   refine .of hI ?_
   push_cast [eq_false e0]
   refine .of v5 ?_
   push_cast
   refine .of E1 ?_
   push_cast
   refine .of E2 ?_
   push_cast
   refine .of alive17 ?_
   push_cast
   exact pf_ret (by push_cast [l17_MultiDevelops.rs])
 ·rw [hde] at hC
  rw [w1] at hS
  rw [w2] at hT
  unfold encTE at hS hT
  have E1:=r01_Equal_s (sideM r ARule.left m) (sideM r ARule.left m) (by omega) (by omega)
  have E2:=r01_Equal_s (sideM r ARule.right m) (sideM r ARule.right m) (by omega) (by omega)
  rcases devE_ends (m:=m) (post:=true) hr with ⟨f,f0,hdf⟩ | ⟨ts,hdf,v1,v2,v3,v4,v5⟩
  ·rw [hdf] at hI
   push_cast
   refine .of hS ?_
   push_cast
   refine .of hT ?_
   push_cast
   refine .of hC ?_
   push_cast
   refine .of hI ?_
   push_cast
   refine .of w5 ?_
   push_cast
   refine .of E1 ?_
   push_cast
   refine .of E2 ?_
   push_cast [eq_false f0]
   refine .of alive17 ?_
   push_cast
   exact pf_ret (by push_cast [l17_MultiDevelops.rs])
  ·rw [hdf] at hI
   push_cast
   refine .of hS ?_
   push_cast
   refine .of hT ?_
   push_cast
   refine .of hC ?_
   push_cast
   refine .of hI ?_
   push_cast
   refine .of w5 ?_
   push_cast
   refine .of E1 ?_
   push_cast
   refine .of E2 ?_
   push_cast
   refine .of v5 ?_
   push_cast
   refine .of E1 ?_
   push_cast
   refine .of E2 ?_
   push_cast
   refine .of alive17 ?_
   push_cast
   exact pf_ret (by push_cast [l17_MultiDevelops.rs])
end Go.Dw
end
