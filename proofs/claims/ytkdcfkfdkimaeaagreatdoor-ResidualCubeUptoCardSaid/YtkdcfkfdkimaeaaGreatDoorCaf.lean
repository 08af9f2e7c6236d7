/-
  Contracts and lemmas for ResidualCube: part f of 8.
-/
import Derived.Test.YtkdcfkfdkimaeaaGreatDoorCae
import Derived.Test.YtkdcfkfdkimaeaaGreatDoorCad
import Derived.WalkKit
import Derived.Laws.MathBits
import Derived.Lib.LaidTab
import Derived.Stop.LaidErr
import Derived.Shelf.Strconv.Itoa4
import Derived.Test.YtkdcfkfdkimaeaaGreatDoorRows
import Derived.Ground.NamesProg
set_option linter.unusedVariables false
set_option linter.unusedSimpArgs false
set_option maxRecDepth 100000
section
namespace Go.Dw
theorem multi_formed_s (r:List ARule) (m:AMulti) (hr:rbs r < 2^38) (hq:rangedM r.length m = true) (hm:mb m < 2^40):PF n_multi_formed [encRs r,encM m] (.bool (formedM r m)):=by
 have hmb:=mb_args m
 have hsz:=msize_le_mb m
 have hst:=msize_args m
 have hl:=length_le_msizes m.args
 have hI:∀ b,PF n_term_IsName [.str m.name,.bool b] (.bool (isName m.name b)):=fun b=>term_IsName_s _ b (by omega)
 unfold rangedM at hq
 rw [Bool.and_eq_true,decide_eq_true_eq,decide_eq_true_eq] at hq
 refine pf_of multi_formed.ok rfl ?_
 unfold formedM
 by_cases h1:0 < m.rule
 ·have hm1:r.getD (m.rule - 1).toNat default∈r:=getD_mem (by omega)
  have hrm:=rbs_mem hm1
  have hst:=size_le_tb (ruleOf r m).left
  have hru:r.getD (m.rule - 1).toNat default = ruleOf r m:=rfl
  have hw:IntKind.i64.wrap (m.rule - 1) = m.rule - 1:=wrap64 (by have:=length_le_rbs r;omega) (by have:=length_le_rbs r;omega)
  have hc1:((0:Int)≤m.rule - 1) = True:=eq_true (by omega)
  have hc2:(m.rule - 1 < (r.length:Int)) = True:=eq_true (by omega)
  rw [hru] at hrm
  have hV:=term_VarsOf_s [(ruleOf r m).left] (by simp [sizes];omega)
  rw [if_pos h1]
  by_cases h2:m.name = []
  ·cases h3:m.var with
   | true =>
    push_cast [eq_true h1,h2,h3]
    exact pf_ret (by push_cast [multi_formed.rs])
   | false =>
    push_cast [eq_true h1,h2,h3,hw,hc1,hc2,hru]
    refine .of hV ?_
    push_cast
    exact pf_ret (by push_cast [multi_formed.rs];exact decide_eq_decide.2 (by omega))
  ·push_cast [eq_true h1,eq_false h2]
   exact pf_ret (by push_cast [multi_formed.rs])
 ·rw [if_neg h1]
  cases hv:m.var with
  | true =>
   rw [if_pos rfl]
   by_cases h0:m.args.length = 0
   ·push_cast [eq_false h1,hv,h0]
    refine .of (hI false) ?_
    push_cast
    exact pf_ret (by push_cast [multi_formed.rs])
   ·have hi:((m.args.length:Int) = 0) = False:=eq_false (by omega)
    push_cast [eq_false h1,hv,hi]
    exact pf_ret (by push_cast [multi_formed.rs,h0])
  | false =>
   rw [if_neg (by simp)]
   by_cases h0:m.args.length≤8
   ·have hi:((m.args.length:Int)≤8) = True:=eq_true (by omega)
    push_cast [eq_false h1,hv,hi]
    refine .of (hI true) ?_
    push_cast
    exact pf_ret (by push_cast [multi_formed.rs,h0])
   ·have hi:((m.args.length:Int)≤8) = False:=eq_false (by omega)
    push_cast [eq_false h1,hv,hi]
    exact pf_ret (by push_cast [multi_formed.rs,h0])
theorem allM_true (m:AMulti):allM (fun _=>true) m = true:=by
 induction m using multi_ind with
 | h m ih=>rw [allM_eq,Bool.true_and,List.all_eq_true];exact ih
theorem Check_1_s (r:List ARule) (a:AMulti):PF n_multi_Check_1 [encM a,.ro [encRs r] 0] (.bool (rangedM r.length a)):=by
 refine pf_of multi_Check_1.ok rfl ?_
 unfold rangedM
 by_cases h:0≤a.rule
 ·push_cast [eq_true h]
  exact pf_ret (by push_cast [multi_Check_1.rs])
 ·push_cast [eq_false h]
  exact pf_ret (by push_cast [multi_Check_1.rs])
theorem Check_2_s (r:List ARule) (a:AMulti) (hr:rbs r < 2^38) (hq:rangedM r.length a = true) (hm:mb a < 2^40):PF n_multi_Check_2 [encM a,.ro [encRs r] 0] (.bool (formedM r a)):=by
 refine pf_of multi_Check_2.ok rfl ?_
 push_cast
 refine .of (multi_formed_s r a hr hq hm) ?_
 push_cast
 exact pf_ret (by push_cast [multi_Check_2.rs])
theorem multi_Check_s (r:List ARule) (m:AMulti) (hr:rbs r < 2^38) (hm:mb m < 2^39):PF n_multi_Check [encRs r,encM m] (.int .i64 (checkM r m)):=by
 have hsz:=msize_le_mb m
 have hsp:=sizeP_gt m
 refine pf_of multi_Check.ok rfl ?_
 push_cast
 refine .of (term_CheckSystem_t r hr) ?_
 generalize hT:checkM r m = T
 unfold checkM at hT
 by_cases h1:¬ checkSystem r = 0
 ·rw [if_pos h1] at hT
  subst hT
  push_cast [eq_false h1]
  exact pf_ret (by push_cast [multi_Check.rs])
 have h1:checkSystem r = 0:=Classical.not_not.1 h1
 rw [if_neg (by simpa using h1)] at hT
 push_cast [h1]
 refine .of (multi_all_s (p:=rangedM r.length) (q:=fun _=>true) (B:=2^39) (caps:=[.ro [encRs r] 0]) (fun σ=>by push_cast) (fun a _ _=>Check_1_s r a) (by omega) m (allM_true m) (by omega)) ?_
 cases h2:allM (rangedM r.length) m with
 | false =>
  rw [h2,if_pos rfl] at hT
  subst hT
  push_cast
  exact pf_ret (by push_cast [multi_Check.rs])
 | true =>
 rw [h2,if_neg (by simp)] at hT
 push_cast
 refine .of (multi_all_s (p:=formedM r) (q:=rangedM r.length) (B:=2^39) (caps:=[.ro [encRs r] 0]) (fun σ=>by push_cast) (fun a hq hb=>Check_2_s r a hr hq (by omega)) (by omega) m h2 (by omega)) ?_
 cases h3:allM (formedM r) m with
 | false =>
  rw [h3,if_pos rfl] at hT
  subst hT
  push_cast
  exact pf_ret (by push_cast [multi_Check.rs])
 | true =>
 rw [h3,if_neg (by simp)] at hT
 push_cast
 refine .of (multi_size_s m (by omega)) ?_
 by_cases h4:4000 < sizeP m
 ·have hi:((4000:Int) < (sizeP m:Int)) = True:=eq_true (by omega)
  rw [if_pos (by omega)] at hT
  subst hT
  push_cast [hi]
  exact pf_ret (by push_cast [multi_Check.rs])
 ·have hi:((4000:Int) < (sizeP m:Int)) = False:=eq_false (by omega)
  push_cast [hi]
  refine .of (multi_depth_s m (by omega)) ?_
  by_cases h5:200 < mdepth m
  ·have hj:((200:Int) < (mdepth m:Int)) = True:=eq_true (by omega)
   rw [if_pos (by omega)] at hT
   subst hT
   push_cast [hj]
   exact pf_ret (by push_cast [multi_Check.rs])
  ·have hj:((200:Int) < (mdepth m:Int)) = False:=eq_false (by omega)
   rw [if_neg (by omega)] at hT
   subst hT
   push_cast [hj]
   exact pf_ret (by push_cast [multi_Check.rs])
end Go.Dw
end
section
namespace Go.Dw
theorem depth_mem {l:List Term} {a:Term} (h:a∈l):depth a≤depths l:=by
 induction l with
 | nil=>cases h
 | cons x xs ih=>rcases List.mem_cons.1 h with rfl | h <;> simp only [depths];omega;have:=ih h;omega
end Go.Dw
end
section
namespace Go.Dw
mutual
theorem visit_sub:∀ (t:Term) (p:List Int),∀ x∈visit t p,size x.2≤size t∧x.1.length≤p.length+size t
 | .mk n v l,p,x,hx=>by
  rw [visit_eq] at hx
  rcases List.mem_cons.1 hx with rfl | hx
  ·exact ⟨Nat.le_refl _,Nat.le_add_right _ _⟩
  ·have:=visits_sub l p 0 x hx
   simp only [size]
   omega
theorem visits_sub:∀ (l:List Term) (p:List Int) (i:Nat),∀ x∈visits l p i,size x.2≤sizes l∧x.1.length≤p.length+1+sizes l
 | [],p,i,x,hx=>by simp [visits] at hx
 | a :: l,p,i,x,hx=>by
  simp only [visits,List.mem_append] at hx
  simp only [sizes]
  rcases hx with hx | hx
  ·have:=visit_sub a _ x hx
   simp only [List.length_append,List.length_singleton] at this
   omega
  ·have:=visits_sub l _ _ x hx;omega
end
end Go.Dw
end
section
namespace Go.Dw
def nodeOk (n:Str) (v:Bool) (k:Nat):Bool:=if v then decide (k = 0) && isName n false else decide (k≤8) && isName n true
theorem formed_iff {t:Term}:formed t = true ↔ nodeOk t.name t.var t.args.length = true∧∀ a∈t.args,formed a = true:=by
 rw [formed_eq]
 unfold nodeOk
 cases t.var with
 | true =>
  simp only [if_true,Bool.and_eq_true,decide_eq_true_eq]
  refine ⟨fun h=>⟨h,fun a ha=>?_⟩,fun h=>h.1⟩
  rw [List.length_eq_zero_iff.1 h.1] at ha;cases ha
 | false=>simp [and_assoc]
theorem check_iff {t:Term}:check t = 0 ↔ formed t = true∧fits t = true:=by
 unfold check
 cases formed t <;> cases fits t <;> simp
theorem checkSystem_sides {r:List ARule} (h:checkSystem r = 0):∀ x∈r,check x.left = 0∧check x.right = 0:=by
 have h1:checkRules r = 0:=by
  unfold checkSystem at h
  split at h
  ·rename_i h1;exact absurd h h1
  ·rename_i h1;simpa using h1
 unfold checkRules at h1
 split at h1
 ·omega
 ·exact checkPairs_ok h1
end Go.Dw
end
section
namespace Go.Dw
theorem rens_cTs {σ:Nat→Option Nat} {l:List Term}:(l.map cT).map (rens σ) = l.map cT:=by rw [List.map_map];rfl
end Go.Dw
end
section
namespace Go.Dw
namespace idxEdge
end idxEdge
theorem rens_cSts {σ:Nat→Option Nat} {l:List AStep}:(l.map cSt).map (rens σ) = l.map cSt:=by rw [List.map_map];rfl
attribute [push_cast] rens_cSts
end Go.Dw
end
section
namespace Go.Dw
mutual
def posT:Term→List (List Int)
 | .mk n v l=>[] :: posTs l 0
def posTs:List Term→Nat→List (List Int)
 | [],_=>[]
 | a :: l,i=>(posT a).map ((i:Int) :: ·)++posTs l (i+1)
end
mutual
theorem visit_pos:∀ (t:Term) (p:List Int),(visit t p).map Prod.fst = (posT t).map (p++·)
 | .mk n v l,p=>by
  simp only [visit,posT,List.map_cons,List.append_nil,visits_pos l p 0]
theorem visits_pos:∀ (l:List Term) (p:List Int) (i:Nat),(visits l p i).map Prod.fst = (posTs l i).map (p++·)
 | [],p,i=>rfl
 | a :: l,p,i=>by
  simp only [visits,posTs,List.map_append,visit_pos a,visits_pos l p (i+1),List.map_map]
  congr 1
  apply List.map_congr_left
  intro q _;simp
end
end Go.Dw
end
section
namespace Go.Dw
def isV (v:Str) (x:List Int × Term):Bool:=x.2.var && decide (x.2.name = v)
def occW (v:Str) (l:List (List Int × Term)):List (List Int):=(l.filter (isV v)).map Prod.fst
def occM (t:Term) (v:Str):List (List Int):=occW v (visit t [])
end Go.Dw
end
section
namespace Go.Dw
namespace idxTm
def nd:Nat→C
 | 0=>.seq (.reg [.mv 4 (.i (-1))]) (.ret)
 | 1=>.gh [.ks 0 [0,1,7,8]] (.m 3)
 | 2=>.seq (.blk 1 (.seq (.reg [.mv 10 (.s 8),.mv 5 (.s 10)]) (.seq (.reg [.mv 11 (.s 1),.mv 12 (.s 0),.mv 13 (.s 5),.ia 14 3 (.s 12) (.s 13),.la 15 3 (.s 14),.callv (some 16) (.s 11) [.s 15]]) (.cond (.s 16) (.seq (.reg [.mv 17 (.s 5),.mv 4 (.s 17)]) (.ret)) (.skip))))) (.reg [.bin 18 .add (.s 8) (.i 1),.mv 8 (.s 18)])
 | 3=>.seq (.reg [.bin 9 .lss (.s 8) (.s 7)]) (.seq (.cond (.s 9) (.skip) (.exit 0)) (.n 2))
 | _=>.skip
def body:C:=.seq (.reg [.mv 4 (.i 0)]) (.seq (.seq (.reg [.mv 6 (.s 0),.len 7 (.s 6),.mv 8 (.i 0)]) (.blk 0 (.loop (.n 1)))) (.n 0))
def rs:List RV:=[.t 4]
attribute [push_cast] nd body
theorem ok:okF prog n_slices_IndexFunc_s_Term_Term nd body 2 rs = true:=by kernel_rfl
abbrev L3 (v0 v1 v7 v8:V) (B:Nat) (H:List Ob) (Q:X→T→List Ob→Prop):Prop:=Run prog nd B [.c (.m 3),.c (.loop (.n 1)),.mk 0,.c (.n 0)] [(0,v0),(1,v1),(7,v7),(8,v8)] H Q
theorem G3 {v0 v1 v7 v8:V} {B:Nat} {H:List Ob} {Q:X→T→List Ob→Prop} (h:Run prog nd B [.c (nd 3),.c (.loop (.n 1)),.mk 0,.c (.n 0)] [(0,v0),(1,v1),(7,v7),(8,v8)] H Q):L3 v0 v1 v7 v8 B H Q:=run_m.2 h
end idxTm
namespace cntTm
def nd (_:Nat):C:=.skip
def body:C:=.seq (.reg [.mv 4 (.c (.bool false))]) (.seq (.reg [.mv 5 (.s 0),.mv 6 (.s 1),.call (some 7) n_slices_IndexFunc_s_Term_Term [.s 5,.s 6],.bin 8 .geq (.s 7) (.i 0),.mv 4 (.s 8)]) (.ret))
def rs:List RV:=[.t 4]
attribute [push_cast] nd body
theorem ok:okF prog n_slices_ContainsFunc_s_Term_Term nd body 2 rs = true:=by kernel_rfl
end cntTm
def stF {S:Type} (F:S→Term→S × Bool) (s:S):List Term→S × Bool
 | []=>(s,false)
 | a :: l=>if (F s a).2 then ((F s a).1,true) else stF F (F s a).1 l
def ixF {S:Type} (F:S→Term→S × Bool) (s:S) (k:Nat):List Term→Int
 | []=>-1
 | a :: l=>if (F s a).2 then k else ixF F (F s a).1 (k+1) l
theorem ixF_st {S:Type} (F:S→Term→S × Bool):∀ (l:List Term) (s:S) (k:Nat),0≤ixF F s k l ↔ (stF F s l).2 = true
 | [],s,k=>by simp [ixF,stF]
 | a :: l,s,k=>by
  unfold ixF stF
  by_cases h:(F s a).2 = true
  ·rw [if_pos h,if_pos h];simp
  ·rw [if_neg h,if_neg h];exact ixF_st F l _ _
section
variable {S:Type} {F:S→Term→S × Bool} {Hs:S→List Ob} {Inv:S→Prop} {g n:Nat} {caps:List V} (hn:∀ s,(Hs s).length = n) (hc:rens (clip n) caps = caps) (hH:∀ s,(Hs s).map (renOb (clip n)) = Hs s)
 (l:List Term) (hl:l.length < 2^62) (h:∀ a∈l,∀ s,Inv s→Spec prog g (encT a :: caps) (Hs s) fun x H'=>x = .bool (F s a).2∧H' = Hs (F s a).1) (hi:∀ a∈l,∀ s,Inv s→(F s a).2 = false→Inv (F s a).1)
include hn hc hH hl h hi
theorem IndexFunc_st (s0:S) (h0:Inv s0):Spec prog n_slices_IndexFunc_s_Term_Term [encTs l,.fn (.func g) [] caps] (Hs s0) fun x H'=>x = .int .i64 (ixF F s0 0 l)∧H' = Hs (stF F s0 l).1:=by
 have htk:∀ s,(Hs s).take n = Hs s:=fun s=>List.take_of_length_le (by rw [hn];exact Nat.le_refl _)
 refine spec_of_run mixed idxTm.ok rfl ?_
 push_cast [hc,hH,hn,htk]
 refine loop_up (n:=l.length) (R:=fun k=>∀ s,Inv s→ixF F s k (l.drop k) = ixF F s0 0 l→stF F s (l.drop k) = stF F s0 l→idxTm.L3 (encTs l) (.fn (.func g) [] caps) (.int .i64 l.length) (.int .i64 k) n (Hs s) (Ends n idxTm.rs fun x H'=>x = .int .i64 (ixF F s0 0 l)∧H' = Hs (stF F s0 l).1)) ?_ ?_ 0 (Nat.zero_le _) s0 h0 rfl rfl
 ·intro k hk ih s hs hq1 hq2
  refine idxTm.G3 ?_
  have hm:=getD_mem hk
  rw [drop_getD hk] at hq1 hq2
  generalize hx:l.getD k default = a at hm hq1 hq2
  simp only [ixF,stF] at hq1 hq2
  push_cast [ilt hk,hx]
  refine CallG.all (R:=fun x H'=>x = .bool (F s a).2∧H' = Hs (F s a).1) (h a hm s hs) ?_
  rintro x H' ⟨rfl,rfl⟩
  cases hp:(F s a).2 with
  | true =>
   rw [hp,if_pos rfl] at hq1 hq2
   push_cast
   exact ends_all (.inl rfl) rfl ⟨by rw [← hq1];rfl,by rw [← hq2]⟩
  | false =>
   rw [hp,if_neg (by simp)] at hq1 hq2
   push_cast [hc,hH,hn,htk,w64 (show k < 2^62 by omega)]
   have:=ih _ (hi a hm s hs hp) hq1 hq2
   push_cast at this
   exact this
 ·intro s hs hq1 hq2
  refine idxTm.G3 ?_
  push_cast [inlt (Nat.le_refl _)]
  rw [drop_map_none] at hq1 hq2
  exact ends_all (.inl rfl) rfl ⟨by rw [← hq1];rfl,by rw [← hq2];rfl⟩
theorem ContainsFunc_st (s0:S) (h0:Inv s0):Spec prog n_slices_ContainsFunc_s_Term_Term [encTs l,.fn (.func g) [] caps] (Hs s0) fun x H'=>x = .bool (stF F s0 l).2∧H' = Hs (stF F s0 l).1:=by
 refine spec_of_run mixed cntTm.ok rfl ?_
 push_cast
 refine CallG.all (R:=fun x H'=>x = .int .i64 (ixF F s0 0 l)∧H' = Hs (stF F s0 l).1) (IndexFunc_st hn hc hH l hl h hi s0 h0) ?_
 rintro x H' ⟨rfl,rfl⟩
 push_cast
 have hd:decide (0≤ixF F s0 0 l) = (stF F s0 l).2:=by
  have:=ixF_st F l s0 0
  cases hq:(stF F s0 l).2 with
  | true=>rw [hq] at this;simpa using this
  | false=>rw [hq] at this;simpa using this
 rw [hn]
 exact ends_all (.inl rfl) rfl ⟨by rw [← hd];rfl,rfl⟩
end
mutual
def cntT (n:Int):Term→Int × Bool
 | .mk _ _ l=>if n - 1 < 0 then (n - 1,true) else cntTs (n - 1) l
def cntTs (n:Int):List Term→Int × Bool
 | []=>(n,false)
 | a :: l=>if (cntT n a).2 then ((cntT n a).1,true) else cntTs (cntT n a).1 l
end
theorem cntT_eq (n:Int) (t:Term):cntT n t = if n - 1 < 0 then (n - 1,true) else cntTs (n - 1) t.args:=by cases t;rfl
theorem cntTs_st (n:Int) (l:List Term):cntTs n l = stF cntT n l:=by
 induction l generalizing n with
 | nil=>rfl
 | cons a l ih=>simp only [cntTs,stF,ih]
mutual
theorem cntT_law:∀ (t:Term) (n:Int),0≤n→((size t:Int)≤n→cntT n t = (n - size t,false))∧(n < (size t:Int)→(cntT n t).2 = true)
 | .mk x v l,n,hn=>by
  have hs:size (.mk x v l) = 1+sizes l:=rfl
  rw [hs]
  simp only [cntT]
  by_cases h:n - 1 < 0
  ·rw [if_pos h]
   exact ⟨fun h2=>by omega,fun _=>rfl⟩
  ·rw [if_neg h]
   have:=cntTs_law l (n - 1) (by omega)
   refine ⟨fun h2=>?_,fun h2=>this.2 (by omega)⟩
   rw [this.1 (by omega)]
   congr 1;omega
theorem cntTs_law:∀ (l:List Term) (n:Int),0≤n→((sizes l:Int)≤n→cntTs n l = (n - sizes l,false))∧(n < (sizes l:Int)→(cntTs n l).2 = true)
 | [],n,hn=>⟨fun _=>by simp [cntTs,sizes],fun h=>by simp [sizes] at h;omega⟩
 | a :: l,n,hn=>by
  have hs:sizes (a :: l) = size a+sizes l:=rfl
  rw [hs]
  simp only [cntTs]
  have h1:=cntT_law a n hn
  by_cases h2:(size a:Int)≤n
  ·have h3:=cntTs_law l (n - size a) (by omega)
   rw [h1.1 h2]
   simp only [Bool.false_eq_true,if_false]
   refine ⟨fun h4=>?_,fun h4=>h3.2 (by omega)⟩
   rw [h3.1 (by omega)]
   congr 1;omega
  ·rw [h1.2 (by omega),if_pos rfl]
   exact ⟨fun h4=>by omega,fun _=>rfl⟩
end
theorem cntT_inv {n:Int} {t:Term} (hn:0≤n∧n≤4000) (h:(cntT n t).2 = false):0≤(cntT n t).1∧(cntT n t).1≤4000:=by
 have:=cntT_law t n hn.1
 by_cases h2:(size t:Int)≤n
 ·rw [this.1 h2];simp;omega
 ·rw [this.2 (by omega)] at h;cases h
mutual
def wide:Term→Nat
 | .mk _ _ l=>max l.length (wides l)
def wides:List Term→Nat
 | []=>0
 | a :: l=>max (wide a) (wides l)
end
theorem wide_args (t:Term):t.args.length≤wide t∧wides t.args≤wide t:=by cases t;simp only [wide,Term.args];omega
theorem wide_mem {l:List Term} {a:Term} (h:a∈l):wide a≤wides l:=by
 induction l with
 | nil=>cases h
 | cons x xs ih=>rcases List.mem_cons.1 h with rfl | h <;> simp only [wides];omega;have:=ih h;omega
def largeH (n:Int):List Ob:=[.cells t_int [.int .i64 n],.cells t_func_Term_bool [.fn (.func n_multi_large_1) [] [.ptr 0 0,.ptr 1 0]]]
theorem largeH_keep (n:Int):(largeH n).map (renOb (clip 2)) = largeH n:=rfl
theorem multi_large_1_s (W:Nat) (hW:W < 2^60) (t:Term) (hw:wide t≤W):∀ n:Int,0≤n∧n≤4000→Spec prog n_multi_large_1 [encT t,.ptr 0 0,.ptr 1 0] (largeH n) fun x H'=>x = .bool (cntT n t).2∧H' = largeH (cntT n t).1:=by
 induction t using term_ind with
 | h t ih =>
 intro n hn
 have hwa:=wide_args t
 have hw1:IntKind.i64.wrap (n - 1) = n - 1:=wrap64 (by omega) (by omega)
 refine spec_of_run mixed multi_large_1.ok rfl ?_
 rw [cntT_eq]
 by_cases h:n - 1 < 0
 ·rw [if_pos h]
  unfold largeH
  push_cast [hw1,eq_true h]
  exact ends_all (.inl rfl) rfl ⟨rfl,rfl⟩
 ·rw [if_neg h,cntTs_st]
  have hC:=ContainsFunc_st (S:=Int) (F:=cntT) (Hs:=largeH) (Inv:=fun n=>0≤n∧n≤4000) (g:=n_multi_large_1) (n:=2) (caps:=[.ptr 0 0,.ptr 1 0]) (fun _=>rfl) rfl largeH_keep t.args (by omega)
   (fun a ha s hs=>ih a ha (by have:=wide_mem ha;omega) s hs) (fun a ha s hs hf=>cntT_inv hs hf) (n - 1) (by omega)
  unfold largeH at hC ⊢
  push_cast [hw1,eq_false h]
  refine CallG.all (R:=fun x H'=>x = .bool (stF cntT (n - 1) t.args).2∧H' = [.cells t_int [.int .i64 (stF cntT (n - 1) t.args).1],.cells t_func_Term_bool [.fn (.func n_multi_large_1) [] [.ptr 0 0,.ptr 1 0]]]) hC ?_
  rintro x H' ⟨rfl,rfl⟩
  push_cast
  exact ends_all (.inl rfl) rfl ⟨rfl,rfl⟩
theorem multi_large_s (t:Term) (hw:wide t < 2^60):PF n_multi_large [encT t] (.bool (decide (4000 < size t))):=by
 refine pf_of multi_large.ok rfl ?_
 push_cast
 have hL:=multi_large_1_s _ hw t (Nat.le_refl _) 4000 (by omega)
 unfold largeH at hL
 refine CallG.all (R:=fun x H'=>x = .bool (cntT 4000 t).2∧H' = [.cells t_int [.int .i64 (cntT 4000 t).1],.cells t_func_Term_bool [.fn (.func n_multi_large_1) [] [.ptr 0 0,.ptr 1 0]]]) hL ?_
 rintro x H' ⟨rfl,rfl⟩
 push_cast
 refine pf_ret ?_
 push_cast [multi_large.rs]
 have:=cntT_law t 4000 (by omega)
 by_cases h:4000 < size t
 ·rw [this.2 (by omega)];simpa using h
 ·rw [this.1 (by omega)];simpa using h
end Go.Dw
end
section
namespace Go.Dw
mutual
theorem visit_at:∀ (t:Term) (p:List Int),∀ x∈visit t p,∃ q,x.1 = p++q∧subT t q = some x.2
 | .mk n v l,p,x,hx=>by
  simp only [visit] at hx
  rcases List.mem_cons.1 hx with rfl | hx
  ·exact ⟨[],by simp,rfl⟩
  ·obtain ⟨k,q,h1,h2,h3⟩:=visits_at l p 0 x hx
   refine ⟨(k:Int) :: q,by simpa using h1,?_⟩
   rw [show subT (.mk n v l) ((k:Int) :: q) = if 0≤(k:Int)∧(k:Int) < l.length then subT (l.getD (k:Int).toNat default) q else none from rfl,if_pos ⟨by omega,by omega⟩]
   simpa using h3
theorem visits_at:∀ (l:List Term) (p:List Int) (i:Nat),∀ x∈visits l p i,∃ (k:Nat) (q:List Int),x.1 = p++((i+k:Nat):Int) :: q∧k < l.length∧subT (l.getD k default) q = some x.2
 | [],p,i,x,hx=>by simp [visits] at hx
 | a :: l,p,i,x,hx=>by
  simp only [visits,List.mem_append] at hx
  rcases hx with hx | hx
  ·obtain ⟨q,h1,h2⟩:=visit_at a _ x hx
   exact ⟨0,q,by simpa using h1,by simp,by simpa using h2⟩
  ·obtain ⟨k,q,h1,h2,h3⟩:=visits_at l p (i+1) x hx
   refine ⟨k+1,q,?_,by simp;omega,by simpa using h3⟩
   rw [h1];congr 3;omega
end
section
variable {P:Program} {N:Nat→C} {B:Nat} {ds:List Nat} {g l:List S} {s:List K} {t:T} {H:List Ob} {Q:X→T→List Ob→Prop}
theorem gP_tt:gP P N B true ds g l s t H Q (.bool true) = Run P N B (.r (g++l) :: s) t H Q:=by simp [gP]
theorem gP_ff:gP P N B false ds g l s t H Q (.bool false) = Run P N B (.r (g++l) :: s) t H Q:=by simp [gP]
theorem gP_tf:gP P N B true ds g l s t H Q (.bool false) = Run P N B (.r l :: s) (ds.map (fun d=>(d,V.tup []))++t) H Q:=by simp [gP]
theorem gP_ft:gP P N B false ds g l s t H Q (.bool true) = Run P N B (.r l :: s) (ds.map (fun d=>(d,V.tup []))++t) H Q:=by simp [gP]
theorem cP_t {a b:C}:cP P N B a b s t H Q (.bool true) = Run P N B (.c a :: s) t H Q:=by simp [cP]
theorem cP_f {a b:C}:cP P N B a b s t H Q (.bool false) = Run P N B (.c b :: s) t H Q:=by simp [cP]
end
end Go.Dw
end
section
namespace Go.Dw
theorem checkSystem_nv {r:List ARule} (h:checkSystem r = 0):∀ x∈r,x.left.var = false:=by
 unfold checkSystem at h
 split at h
 ·rename_i h1;exact absurd h h1
 ·split at h
  ·cases h
  ·split at h
   ·cases h
   ·split at h
    ·cases h
    ·rename_i h3
     intro x hx
     have h4:extra x = false:=by
      cases he:extra x with
      | false=>rfl
      | true=>exact absurd (List.any_eq_true.2 ⟨x,hx,he⟩) h3
     unfold extra at h4
     simp only [Bool.or_eq_false_iff] at h4
     exact h4.1
end Go.Dw
end
section
namespace Go.Dw
theorem occ_eq (v:Str) (t:Term):occ v t = ((t.var && decide (t.name = v)) || occs v t.args):=by cases t;rfl
theorem occs_mem {v:Str} {l:List Term} {a:Term} (h:a∈l) (ho:occ v a = true):occs v l = true:=by
 induction l with
 | nil=>cases h
 | cons x xs ih =>
  simp only [occs,Bool.or_eq_true]
  rcases List.mem_cons.1 h with rfl | h
  ·exact .inl ho
  ·exact .inr (ih h)
theorem occ_arg {v:Str} {t a:Term} (h:a∈t.args) (ho:occ v a = true):occ v t = true:=by rw [occ_eq,occs_mem h ho,Bool.or_true]
theorem occ_self {t:Term} (h:t.var = true):occ t.name t = true:=by rw [occ_eq,h];simp
theorem multi_plug_s (vars:List Str) (x:List Term) (hva:vars.length≤x.length) (hl:vars.length < 2^40) (t:Term) (ht:size t < 2^40) (ho:∀ v,occ v t = true→v∈vars):PF n_multi_plug [encT t,encSs vars,encTs x] (encT (plugT vars x t)):=by
 induction t using term_ind with
 | h t ih =>
 have hst:=size_args t
 have hll:=length_le_sizes t.args
 refine pf_of multi_plug.ok rfl ?_
 rw [plugT_eq]
 cases hv:t.var with
 | true =>
  obtain ⟨h1,h2,h3⟩:=idxI_ix (ho _ (occ_self hv))
  have hI:=slices_Index_str_s vars t.name (by omega)
  rw [h1] at hI
  have hlt:((ixS t.name vars:Int) < (x.length:Int)) = True:=eq_true (by omega)
  push_cast [hv]
  refine .of hI ?_
  push_cast [hlt]
  exact pf_ret (by push_cast [multi_plug.rs])
 | false =>
  push_cast [hv]
  refine loop_up (n:=t.args.length) (R:=fun k=>multi_plug.L3 (encSs vars) (encTs x) (.ptr 0 0) (.ptr 1 0) (encTs t.args) (.int .i64 t.args.length) (.int .i64 k) 0 [.cells t_Term [.str [],.bool false,.sl 3 []],.cells t_Term [.str t.name,.bool false,ownL cT 2 3 ((t.args.take k).map (plugT vars x))],.arr t_Term 3 k] _) ?_ ?_ 0 (by omega)
  ·intro k hk ih2
   have hm:=getD_mem hk
   have hm2:=size_mem hm
   have hlen:((t.args.take k).map (plugT vars x)).length = k:=by simp;omega
   rw [take_succ_getD hk,List.map_append,List.map_singleton] at ih2
   refine multi_plug.G3 ?_
   push_cast [ilt hk]
   refine .of (ih _ hm (by omega) fun v hv2=>ho v (occ_arg hm hv2)) ?_
   push_cast [hlen,w64 (show k < 2^62 by omega)]
   exact ⟨Nat.le_trans (Nat.mul_le_mul_right 48 (show _≤2^41 by omega)) (by unfold maxEls;decide),ih2⟩
  ·refine multi_plug.G3 ?_
   push_cast [inlt (Nat.le_refl _)]
   refine pf_ret ?_
   push_cast [multi_plug.rs,List.take_length,cT_mk]
   try rfl
theorem multi_side_s (r:List ARule) (f:ARule→Term) (g:Nat) (hr:rbs r < 2^38) (hof:∀ x∈r,PF g [encR x] (encT (f x))) (hsz:∀ x∈r,size (f x) < 2^40) (hvs:∀ x∈r,∀ v,occ v (f x) = true→v∈varsOf [x.left]) (m:AMulti) (hok:OkM r m) (hm:msize m < 2^39) :
  PF n_multi_side [encRs r,encM m,.fn (.func g) [] []] (encT (sideM r f m)):=by
 induction m using multi_ind with
 | h m ih =>
 have hst:=msize_args m
 have hll:=length_le_msizes m.args
 refine pf_of multi_side.ok rfl ?_
 rw [sideM_eq]
 push_cast
 refine loop_up (n:=m.args.length) (R:=fun k=>multi_side.L4 (encRs r) (.fn (.func g) [] []) (.ro (cM m) 0) (.ptr 0 0) (ownL cT 1 3 ((m.args.take k).map (sideM r f))) (encMs m.args) (.int .i64 m.args.length) (.int .i64 k) 0 [.cells t_Term [.str [],.bool false,.sl 3 []],.arr t_Term 3 k] _) ?_ ?_ 0 (by omega)
 ·intro k hk ih2
  have hmm:=getD_mem hk
  have hm2:=msize_mem hmm
  have hlen:((m.args.take k).map (sideM r f)).length = k:=by simp;omega
  rw [take_succ_getD hk,List.map_append,List.map_singleton] at ih2
  refine multi_side.G4 ?_
  push_cast [ilt hk]
  refine .of (ih _ hmm (hok.arg hmm) (by omega)) ?_
  push_cast [hlen,w64 (show k < 2^62 by omega)]
  exact ⟨Nat.le_trans (Nat.mul_le_mul_right 48 (show _≤2^41 by omega)) (by unfold maxEls;decide),ih2⟩
 ·refine multi_side.G4 ?_
  push_cast [inlt (Nat.le_refl _),List.take_length]
  by_cases h0:m.rule = 0
  ·push_cast [eq_true h0]
   refine pf_ret ?_
   push_cast [multi_side.rs]
   show V.agg [.str m.name,.bool m.var,encTs (m.args.map (sideM r f))] = encT (.mk m.name m.var (m.args.map (sideM r f)))
   unfold encT;rw [cT_eq];rfl
  ·obtain ⟨k1,k2,k3,k4,k5,k6⟩:=hok.rule h0
   have hw:IntKind.i64.wrap (m.rule - 1) = m.rule - 1:=wrap64 (by have:=length_le_rbs r;omega) (by have:=length_le_rbs r;omega)
   have hc1:((0:Int)≤m.rule - 1) = True:=eq_true (by omega)
   have hc2:(m.rule - 1 < (r.length:Int)) = True:=eq_true (by omega)
   have hru:r.getD (m.rule - 1).toNat default = ruleOf r m:=rfl
   have hrm:=rbs_mem k3
   have hsl:=size_le_tb (ruleOf r m).left
   have hV:=term_VarsOf_s [(ruleOf r m).left] (by simp [sizes];omega)
   push_cast [eq_false h0,hw,hc1,hc2,hru]
   refine .of (hof _ k3) ?_
   push_cast
   refine .of hV ?_
   push_cast
   refine .of (multi_plug_s (varsOf [(ruleOf r m).left]) (m.args.map (sideM r f)) (by rw [List.length_map,k4];exact Nat.le_refl _) (by rw [← k4];omega) _ (hsz _ k3) (hvs _ k3)) ?_
   push_cast
   exact pf_ret (by push_cast [multi_side.rs])
theorem wides_map {α:Type} {f:α→Term} {W:Nat}:∀ {l:List α},(∀ a∈l,wide (f a)≤W)→wides (l.map f)≤W
 | [],_=>by simp [wides]
 | a :: l,h=>by
  simp only [List.map_cons,wides]
  have h1:=h a (by simp)
  have h2:=wides_map (f:=f) (l:=l) fun b hb=>h b (by simp [hb])
  omega
theorem wides_getD {l:List Term} {k:Nat}:wide (l.getD k default)≤wides l:=by
 by_cases h:k < l.length
 ·exact wide_mem (getD_mem h)
 ·rw [List.getD_eq_getElem?_getD,List.getElem?_eq_none (by omega)]
  exact Nat.zero_le _
theorem wide_plug (vars:List Str) (x:List Term) (t:Term):wide (plugT vars x t)≤max (wides x) (size t):=by
 induction t using term_ind with
 | h t ih =>
  rw [plugT_eq]
  have hst:=size_args t
  have hll:=length_le_sizes t.args
  split
  ·have:=wides_getD (l:=x) (k:=ixS t.name vars);omega
  ·simp only [wide,List.length_map]
   have:=wides_map (f:=plugT vars x) (W:=max (wides x) (size t)) (l:=t.args) fun a ha=>by
    have:=ih a ha
    have:=size_mem ha
    omega
   omega
theorem wide_side (r:List ARule) (f:ARule→Term) {W:Nat} (hsz:∀ x∈r,size (f x)≤W) (m:AMulti) (hok:OkM r m) (hm:msize m≤W):wide (sideM r f m)≤W:=by
 induction m using multi_ind with
 | h m ih =>
  rw [sideM_eq]
  have hst:=msize_args m
  have hll:=length_le_msizes m.args
  have hw:=wides_map (f:=sideM r f) (W:=W) (l:=m.args) fun a ha=>ih a ha (hok.arg ha) (by have:=msize_mem ha;omega)
  split
  ·simp only [wide,List.length_map];omega
  ·rename_i h0
   have:=wide_plug (varsOf [(ruleOf r m).left]) (m.args.map (sideM r f)) (f (ruleOf r m))
   have:=hsz _ (hok.rule h0).2.2.1
   omega
theorem multi_end_s (r:List ARule) (f:ARule→Term) (g:Nat) (m:AMulti) (hr:rbs r < 2^38) (hm:mb m < 2^38) (hof:∀ x∈r,PF g [encR x] (encT (f x))) (hsz:∀ x∈r,size (f x) < 2^40) (hvs:checkSystem r = 0→∀ x∈r,∀ v,occ v (f x) = true→v∈varsOf [x.left]) :
  PF n_multi_end [encRs r,encM m,.fn (.func g) [] []] (encTE (endM r f m).1 (endM r f m).2):=by
 have hmz:=msize_le_mb m
 refine pf_of multi_end.ok rfl ?_
 push_cast
 refine .of (multi_Check_s r m hr (by omega)) ?_
 unfold endM
 by_cases h1:¬ checkM r m = 0
 ·rw [if_pos h1]
  push_cast [eq_false h1]
  exact pf_ret (by push_cast [multi_end.rs];rfl)
 have h1:checkM r m = 0:=Classical.not_not.1 h1
 rw [if_neg (by simpa using h1)]
 obtain ⟨c1,c2,c3,c4⟩:=checkM_ok h1
 have hS:=multi_side_s r f g hr hof hsz (hvs c1) m c2 (by omega)
 have hwd:=wide_side r f (W:=2^40) (fun x hx=>by have:=hsz x hx;omega) m c2 (by omega)
 generalize sideM r f m = t at hS hwd
 push_cast [h1]
 refine .of hS ?_
 push_cast
 refine .of (multi_large_s t (by omega)) ?_
 by_cases h2:4000 < size t
 ·have hf:fits t = false:=by unfold fits;simp;omega
  rw [hf]
  push_cast [eq_true h2]
  exact pf_ret (by push_cast [multi_end.rs];rfl)
 ·push_cast [eq_false h2]
  refine .of (term_Own_s t (by omega)) ?_
  push_cast
  refine .of (term_Fit_s t (by omega)) ?_
  cases hf:fits t with
  | true =>
   rw [if_pos rfl,if_pos rfl]
   unfold encTE
   push_cast
   exact pf_ret (by push_cast [multi_end.rs];try rfl)
  | false =>
   rw [if_neg (by simp),if_neg (by simp)]
   unfold encTE
   push_cast
   exact pf_ret (by push_cast [multi_end.rs];try rfl)
theorem varsOf_left (x:ARule):∀ v,occ v x.left = true→v∈varsOf [x.left]:=fun v h=>(mem_varsOf v x.left).2 h
theorem varsOf_right {r:List ARule} (h:checkSystem r = 0):∀ x∈r,∀ v,occ v x.right = true→v∈varsOf [x.left]:=by
 unfold checkSystem at h
 split at h
 ·rename_i h1;exact absurd h h1
 ·split at h
  ·cases h
  ·split at h
   ·cases h
   ·split at h
    ·cases h
    ·rename_i h3
     intro x hx v hv
     have h4:extra x = false:=by
      cases he:extra x with
      | false=>rfl
      | true=>exact absurd (List.any_eq_true.2 ⟨x,hx,he⟩) h3
     unfold extra at h4
     simp only [Bool.or_eq_false_iff] at h4
     have:=List.any_eq_false.1 h4.2 v ((mem_varsOf v x.right).2 hv)
     simpa using this
theorem multi_Source_1_s (x:ARule):PF n_multi_Source_1 [encR x] (encT x.left):=by
 refine pf_of multi_Source_1.ok rfl ?_
 push_cast
 exact pf_ret (by push_cast [multi_Source_1.rs];try rfl)
theorem multi_Target_1_s (x:ARule):PF n_multi_Target_1 [encR x] (encT x.right):=by
 refine pf_of multi_Target_1.ok rfl ?_
 push_cast
 exact pf_ret (by push_cast [multi_Target_1.rs];try rfl)
theorem multi_Source_s (r:List ARule) (m:AMulti) (hr:rbs r < 2^38) (hm:mb m < 2^38):PF n_multi_Source [encRs r,encM m] (encTE (endM r ARule.left m).1 (endM r ARule.left m).2):=by
 refine pf_of multi_Source.ok rfl ?_
 have hE:=multi_end_s r ARule.left n_multi_Source_1 m hr hm (fun x _=>multi_Source_1_s x) (fun x hx=>by have:=rbs_mem hx;have:=size_le_tb x.left;omega) (fun _ x _=>varsOf_left x)
 push_cast
 refine .of hE ?_
 generalize (endM r ARule.left m) = p
 obtain ⟨o,e⟩:=p
 cases o <;> (unfold encTE;push_cast;exact pf_ret (by push_cast [multi_Source.rs];try rfl))
theorem multi_Target_s (r:List ARule) (m:AMulti) (hr:rbs r < 2^38) (hm:mb m < 2^38):PF n_multi_Target [encRs r,encM m] (encTE (endM r ARule.right m).1 (endM r ARule.right m).2):=by
 refine pf_of multi_Target.ok rfl ?_
 have hE:=multi_end_s r ARule.right n_multi_Target_1 m hr hm (fun x _=>multi_Target_1_s x) (fun x hx=>by have:=rbs_mem hx;have:=size_le_tb x.right;omega) (fun h=>varsOf_right h)
 push_cast
 refine .of hE ?_
 generalize (endM r ARule.right m) = p
 obtain ⟨o,e⟩:=p
 cases o <;> (unfold encTE;push_cast;exact pf_ret (by push_cast [multi_Target.rs];try rfl))
end Go.Dw
end
section
namespace Go.Dw
section
variable {P:Program} {N:Nat→C} {B:Nat} {ds:List Nat} {g l:List S} {s:List K} {t:T} {H:List Ob} {Q:X→T→List Ob→Prop}
theorem gK_tt:gP P N B true ds g l s t H Q (.bool true) = Run P N B (.r (g++l) :: s) t H Q:=by simp [gP]
theorem gK_ff:gP P N B false ds g l s t H Q (.bool false) = Run P N B (.r (g++l) :: s) t H Q:=by simp [gP]
theorem gK_tf:gP P N B true ds g l s t H Q (.bool false) = Run P N B (.r l :: s) (ds.map (fun d=>(d,V.tup []))++t) H Q:=by simp [gP]
theorem gK_ft:gP P N B false ds g l s t H Q (.bool true) = Run P N B (.r l :: s) (ds.map (fun d=>(d,V.tup []))++t) H Q:=by simp [gP]
theorem cK_t {a b:C}:cP P N B a b s t H Q (.bool true) = Run P N B (.c a :: s) t H Q:=by simp [cP]
theorem cK_f {a b:C}:cP P N B a b s t H Q (.bool false) = Run P N B (.c b :: s) t H Q:=by simp [cP]
end
attribute [push_cast] gK_tt gK_ff gK_tf gK_ft cK_t cK_f
end Go.Dw
end
section
namespace Go.Dw
def insRS (s:Str):List Str→List Str
 | []=>[s]
 | x :: l=>if x < s then x :: insRS s l else if x = s then x :: l else s :: x :: l
theorem insS_R (s:Str):∀ l:List Str,insS l s = insRS s l
 | []=>rfl
 | x :: l=>by
  have ih:=insS_R s l
  unfold insS at ih ⊢
  simp only [lbg,insRS]
  by_cases h:x < s
  ·simp only [h,decide_true,if_true]
   rw [← ih]
   simp only [List.length_cons,Nat.add_lt_add_iff_right,List.getD_cons_succ,List.take_succ_cons,List.drop_succ_cons]
   split <;> simp
  ·simp only [h,decide_false,Bool.false_eq_true,if_false,List.length_cons,Nat.zero_lt_succ,true_and,List.getD_cons_zero,List.take_zero,List.drop_zero,List.nil_append]
def SS (l:List Str):Prop:=l.Pairwise (· < ·)
theorem insRS_mem {s v:Str}:∀ {l:List Str},v∈insRS s l→v∈l ∨ v = s
 | [],h=>.inr (by simpa [insRS] using h)
 | x :: l,h=>by
  unfold insRS at h
  split at h
  ·rcases List.mem_cons.1 h with rfl | h
   ·exact .inl (by simp)
   ·rcases insRS_mem h with h | h
    ·exact .inl (by simp [h])
    ·exact .inr h
  ·split at h
   ·exact .inl h
   ·rcases List.mem_cons.1 h with rfl | h
    ·exact .inr rfl
    ·exact .inl h
theorem insRS_sorted {s:Str}:∀ {l:List Str},SS l→SS (insRS s l)
 | [],_=>by simp [insRS,SS]
 | x :: l,h=>by
  unfold SS at h ⊢
  rw [List.pairwise_cons] at h
  unfold insRS
  split
  ·rename_i hx
   rw [List.pairwise_cons]
   refine ⟨fun v hv=>?_,insRS_sorted h.2⟩
   rcases insRS_mem hv with hv | rfl
   ·exact h.1 v hv
   ·exact hx
  ·rename_i hx
   split
   ·rw [List.pairwise_cons];exact h
   ·rename_i hne
    have hsx:s < x:=by
     rcases Classical.em (s < x) with hc | hc
     ·exact hc
     ·exact absurd (slt_eq hc hx).symm hne
    rw [List.pairwise_cons,List.pairwise_cons]
    refine ⟨fun v hv=>?_,h⟩
    rcases List.mem_cons.1 hv with rfl | hv
    ·exact hsx
    ·exact slt_trans hsx (h.1 v hv)
mutual
theorem collectT_sorted:∀ (t:Term) (l:List Str),SS l→SS (collectT l t)
 | .mk n b ar,l,h=>by
  simp only [collectT]
  refine collectTs_sorted ar _ ?_
  split
  ·rw [insS_R];exact insRS_sorted h
  ·exact h
theorem collectTs_sorted:∀ (ar:List Term) (l:List Str),SS l→SS (collectTs l ar)
 | [],l,h=>h
 | a :: ar,l,h=>by simp only [collectTs];exact collectTs_sorted ar _ (collectT_sorted a l h)
end
theorem vset_nodup (l:List Str):∀ ks:List Str,ks.Nodup→(l.foldl addS ks).Nodup:=by
 induction l with
 | nil=>intro ks h;exact h
 | cons x l ih =>
  intro ks h
  refine ih _ ?_
  unfold addS
  split
  ·exact h
  ·rename_i hx
   rw [List.nodup_append]
   exact ⟨h,by simp,fun a ha b hb e=>by rw [List.mem_singleton] at hb;subst hb;subst e;exact hx ha⟩
theorem varsT_eq (t:Term):varsT t = varsOf [t]:=by
 have h1:SS (varsT t):=collectT_sorted t [] List.Pairwise.nil
 have h2:(vsetT [] [t]).Nodup:=by
  show (vset [] (visit t [])).Nodup
  exact vset_nodup _ _ List.nodup_nil
 have hm:∀ v,v∈varsT t ↔ v∈vsetT [] [t]:=fun v=>by
  have e1:v∈varsT t ↔ occ v t = true:=by
   unfold varsT;rw [mem_collectT];simp
  have e2:=mem_varsOf v t
  unfold varsOf at e2
  rw [(List.mergeSort_perm _ _).mem_iff] at e2
  rw [e1,e2]
 have hnd:(varsT t).Nodup:=h1.imp fun hab e=>by rw [e] at hab;exact slt_irrefl _ hab
 have hp:(varsT t).Perm (vsetT [] [t]):=(List.perm_ext_iff_of_nodup hnd h2).2 hm
 unfold varsOf
 have e3:Proofs.sortS (vsetT [] [t]) = Proofs.sortS (varsT t):=Go.mergeSort_of_perm hp.symm
 rw [e3]
 unfold Proofs.sortS
 refine (List.mergeSort_of_pairwise ?_).symm
 refine h1.imp fun {a b} hab=>?_
 simpa using List.le_of_lt hab
end Go.Dw
end
section
namespace Go.Dw
open Go.Proofs.YtkdcfkfdkimaeaaGreatDoor
section
variable {H:Type} {enc:TypeId × Value→H} {W:World}
theorem mc25:prog.cellsOf 25 = 1+1+1+1:=by kernel_rfl
theorem mc23:prog.cellsOf 23 = 1:=by kernel_rfl
theorem msplit4 {α:Type} {cs:List α} {a b c d:Nat} (h:cs.length = a+b+c+d):cs = (cs.drop 0).take a++((cs.drop a).take b++((cs.drop (a+b)).take c++(cs.drop (a+b+c)).take d)):=by
 have h1:cs.drop (a+b) = (cs.drop (a+b)).take c++(cs.drop (a+b+c)).take d:=by
  rw [List.take_of_length_le (l:=cs.drop (a+b+c)) (by simp;omega),← List.drop_drop (i:=c),List.take_append_drop]
 have h2:cs.drop a = (cs.drop a).take b++cs.drop (a+b):=by rw [← List.drop_drop (i:=b),List.take_append_drop]
 rw [← h1,← h2,List.drop_zero,List.take_append_drop]
theorem mbs_sumB (l:List AMulti):sumB mb l = mbs l:=by
 induction l with
 | nil=>rfl
 | cons a l ih=>simp only [sumB,mbs,ih]
theorem br_multi:∀ n,Br enc W n 25 cM mb
 | 0=>by intro cs x h;simp [DataW.trod] at h
 | n+1=>by
  intro cs x h hbk
  obtain ⟨xs,m,hm,rfl,hl,hlen,hf⟩:=DataW.trod_struct (P:=prog) Go.Proofs.Tryz.underlying25 h
  obtain rfl:n = m:=by omega
  rw [mc25] at hl
  match xs,hlen with
  | [x0,x1,x2,x3],_ =>
  have f0:trd enc W n 3 ((cs.drop 0).take (prog.cellsOf 3)) = some x0:=hf 0 _ rfl
  have f1:trd enc W n 9 ((cs.drop 1).take (prog.cellsOf 9)) = some x1:=hf 1 _ rfl
  have f2:trd enc W n 4 ((cs.drop 2).take (prog.cellsOf 4)) = some x2:=hf 2 _ rfl
  have f3:trd enc W n 23 ((cs.drop 3).take (prog.cellsOf 23)) = some x3:=hf 3 _ rfl
  rw [c3] at f0;rw [c9] at f1;rw [c4] at f2;rw [mc23] at f3
  simp only [List.map_cons,List.map_nil,Rows.uptoBulk,Rows.uptoBulkAll] at hbk ⊢
  obtain ⟨k,b0,d0⟩:=br_int _ _ f0 (by omega)
  obtain ⟨s,b1,d1⟩:=br_str _ _ f1 (by omega)
  obtain ⟨v,b2,d2⟩:=br_bool _ _ f2 (by omega)
  obtain ⟨l,b3,d3⟩:=br_slice (n:=n) (sz:=4) (c:=cM) (b:=mb) Go.Proofs.Tryz.underlying23 mc25 (by omega) (fun _=>rfl) (fun m hm=>br_multi m) _ _ f3 (by omega)
  try dsimp only at b0
  try dsimp only at b1
  try dsimp only at b2
  try dsimp only at b3
  refine ⟨.mk k s v l,?_,?_⟩
  ·rw [mbs_sumB] at b3
   simp only [mb]
   omega
  ·rw [msplit4 hl,cM_eq]
   exact d0.app (d1.app (d2.app d3))
end
end Go.Dw
end
section
namespace Go.Dw
open Go.Proofs Go.Proofs.YtkdcfkfdkimaeaaGreatDoor
theorem heap_var {P:Program} {W:World} {name:String} {cs:Array Value} {g:Nat} (hg:P.globalNamed name = some g) (h:W.var? P name = some cs):∃ e fz,W.heap[g]? = some (.cells cs e fz):=by
 unfold World.var? at h
 rw [hg] at h
 simp only [Option.bind_some] at h
 split at h
 ·rename_i c e fz hh
  injection h with h
  subst h
  exact ⟨_,_,hh⟩
 ·cases h
theorem g_pow : prog.globalNamed "internal/strconv.uint64pow10" = some 1 := by kernel_rfl
theorem t_pow:(prog.globals[1]?).map (·.type) = some 323:=by kernel_rfl
theorem u_pow:prog.underlying 323 = some (.array 20 254):=by kernel_rfl
theorem u_pow8:prog.underlying 254 = some (.int .u64):=by kernel_rfl
theorem c_pow8:prog.cellsOf 254 = 1:=by kernel_rfl
theorem c_pow:prog.cellsOf 323 = 20:=by kernel_rfl
theorem glob_laid {L:List (String × DataW Unit)} {W:World} (hL:laidMetH prog L W)
  (he : L = [("math/bits.deBruijn32tab", Rows.laid_math_bits_deBruijn32tab), ("math/bits.deBruijn64tab", Rows.laid_math_bits_deBruijn64tab), ("internal/strconv.uint64pow10", Rows.laid_internal_strconv_uint64pow10)]) : Glob ⟨W, okW W, fun _ => none, []⟩ := by
 subst he
 have h3 : laidMet prog [("internal/strconv.uint64pow10", Lib.tabData .u64 Lib.pow10Tab)] W := laidMet.tail (laidMet.tail hL)
 have ht:=Lib.tabIs_of_head g_pow t_pow u_pow u_pow8 c_pow8 c_pow h3
 obtain ⟨e,fz,hh⟩:=heap_var g_pow ht
 intro p hp
 simp only [tabs,List.mem_singleton] at hp
 subst hp
 refine ⟨⟨e,fz,?_⟩,fun ⟨i,k,hi,_⟩=>by cases hi⟩
 show W.heap[1]? = _
 rw [hh,Lib.pow10Tab,List.map_map]
 rfl
def datumCells:DataW Unit→Array Value
 | .agg l=>(l.map fun x=>match x with | .lit (.int k z)=>Value.int k z | _=>Value.bool false).toArray
 | _=>#[]
noncomputable def layTab (w:World) (i:Nat) (cs:Array Value):World:={ w with heap:=w.heap.modify i fun o=>match o with
 | .cells _ t frozen=>.cells cs t frozen
 | o=>o }
noncomputable def tablesLaid (w:World):World :=
 layTab (layTab (layTab w 1 (datumCells Rows.laid_internal_strconv_uint64pow10)) 2 (datumCells Rows.laid_math_bits_deBruijn32tab)) 3 (datumCells Rows.laid_math_bits_deBruijn64tab)
end Go.Dw
end
section
namespace Go.Proofs
open Go.RowKit Go.Shelf Go.Sort
def Tryz.laysFmt_ren:Go.Shelf.Ren:=⟨fun | 246=>310 | 283=>316 | 284=>317 | 285=>318 | 286=>319 | 129=>244 | 317=>322 | 318=>323 | 319=>324 | 320=>325 | 337=>327 | 338=>328 | n=>n,fun | 2=>2 | 3=>3 | 9=>9 | 4=>4 | 171=>315 | 0=>0 | 53=>254 | 37=>221 | 5=>5 | 173=>317 | 212=>323 | 51=>252 | 20=>20 | 213=>324 | 46=>208 | 232=>326 | 233=>327 | n=>n,fun | 17=>1 | 18=>2 | 19=>3 | n=>n⟩
theorem Tryz.laysFmt:Go.Proofs.LaysM.n246 Tryz.prog Tryz.laysFmt_ren:={
 mixed:=by kernel_rfl
 f129:=Tryz.func244.trans (congrArg some (by kernel_rfl))
 f246:=Tryz.func310.trans (congrArg some (by kernel_rfl))
 f283:=Tryz.func316.trans (congrArg some (by kernel_rfl))
 f284:=Tryz.func317.trans (congrArg some (by kernel_rfl))
 f285:=Tryz.func318.trans (congrArg some (by kernel_rfl))
 f286:=Tryz.func319.trans (congrArg some (by kernel_rfl))
 f317:=Tryz.func322.trans (congrArg some (by kernel_rfl))
 f318:=Tryz.func323.trans (congrArg some (by kernel_rfl))
 f319:=Tryz.func324.trans (congrArg some (by kernel_rfl))
 f320:=Tryz.func325.trans (congrArg some (by kernel_rfl))
 f337:=Tryz.func327.trans (congrArg some (by kernel_rfl))
 f338:=Tryz.func328.trans (congrArg some (by kernel_rfl))
 t0:=Tryz.underlying0
 a0:=Tryz.isAgg0
 z0:=Tryz.sizeOf0
 v0:=Tryz.zeroValue0
 t2:=Tryz.underlying2
 a2:=Tryz.isAgg2
 z2:=Tryz.sizeOf2
 v2:=Tryz.zeroValue2
 t3:=Tryz.underlying3
 a3:=Tryz.isAgg3
 z3:=Tryz.sizeOf3
 v3:=Tryz.zeroValue3
 t4:=Tryz.underlying4
 a4:=Tryz.isAgg4
 z4:=Tryz.sizeOf4
 v4:=Tryz.zeroValue4
 t5:=Tryz.underlying5
 a5:=Tryz.isAgg5
 z5:=Tryz.sizeOf5
 v5:=Tryz.zeroValue5
 t9:=Tryz.underlying9
 a9:=Tryz.isAgg9
 z9:=Tryz.sizeOf9
 v9:=Tryz.zeroValue9
 t20:=Tryz.underlying20
 a20:=Tryz.isAgg20
 z20:=Tryz.sizeOf20
 v20:=Tryz.zeroValue20
 t37:=Tryz.underlying221
 a37:=Tryz.isAgg221
 z37:=Tryz.sizeOf221
 v37:=Tryz.zeroValue221
 t46:=Tryz.underlying208
 a46:=Tryz.isAgg208
 z46:=Tryz.sizeOf208
 v46:=Tryz.zeroValue208
 t51:=Tryz.underlying252
 a51:=Tryz.isAgg252
 z51:=Tryz.sizeOf252
 v51:=Tryz.zeroValue252
 t53:=Tryz.underlying254
 a53:=Tryz.isAgg254
 z53:=Tryz.sizeOf254
 v53:=Tryz.zeroValue254
 t171:=Tryz.underlying315
 a171:=Tryz.isAgg315
 z171:=Tryz.sizeOf315
 v171:=Tryz.zeroValue315
 t173:=Tryz.underlying317
 a173:=Tryz.isAgg317
 z173:=Tryz.sizeOf317
 v173:=Tryz.zeroValue317
 t212:=Tryz.underlying323
 a212:=Tryz.isAgg323
 z212:=Tryz.sizeOf323
 v212:=Tryz.zeroValue323
 t213:=Tryz.underlying324
 a213:=Tryz.isAgg324
 z213:=Tryz.sizeOf324
 t232:=Tryz.underlying326
 a232:=Tryz.isAgg326
 z232:=Tryz.sizeOf326
 v232:=Tryz.zeroValue326
 t233:=Tryz.underlying327
 a233:=Tryz.isAgg327
 z233:=Tryz.sizeOf327
 v233:=Tryz.zeroValue327
 g17:=by kernel_rfl
 g18:=by kernel_rfl
 g19:=by kernel_rfl
 i0:=by kernel_rfl
 i2:=by kernel_rfl
 i3:=by kernel_rfl
 i4:=by kernel_rfl
 i5:=by kernel_rfl
 i9:=by kernel_rfl
 i20:=by kernel_rfl
 i37:=by kernel_rfl
 i46:=by kernel_rfl
 i51:=by kernel_rfl
 i53:=by kernel_rfl
 i171:=by kernel_rfl
 i173:=by kernel_rfl
 i212:=by kernel_rfl
 i232:=by kernel_rfl
 i233:=by kernel_rfl
 m17:=by kernel_rfl
 m18:=by kernel_rfl
 m19:=by kernel_rfl }
theorem Tryz.fmt_num:Tryz.laysFmt_ren.f 246 = Go.Dw.n_strconv_FormatInt:=by kernel_rfl
theorem Tryz.fmt_in (args:Array Value) (w:World):(callFunc Go.Dw.n_strconv_FormatInt args).run Tryz.prog w = .ok (.enter Go.Dw.n_strconv_FormatInt args) w:=by
 have:=enters_of (P:=Tryz.prog) Tryz.laysFmt.f246 (by kernel_rfl) rfl args w
 rw [Tryz.fmt_num] at this
 exact this
theorem Tryz.fmt_c (n : Int) (h0 : -9223372036854775808 ≤ n) (h1 : n ≤ 9223372036854775807) (w : World) (htab : Lib.TabIs Tryz.prog w "internal/strconv.uint64pow10" .u64 Lib.pow10Tab) :
  Calls Tryz.prog Go.Dw.n_strconv_FormatInt #[.int .i64 n,.int .i64 10] w fun e w'=>e = .returned (.string ⟨(Lib.itoa n).toArray⟩)∧∃ k os,w' = grow (w.drewN k) os:=by
 have:=Any.internal_strconv_FormatInt_10 Tryz.laysFmt n h0 h1 w htab
 rw [Tryz.fmt_num] at this
 exact this
theorem Tryz.pow10_at : Tryz.prog.globalNamed "internal/strconv.uint64pow10" = some 1 := by kernel_rfl
end Go.Proofs
namespace Go.Dw
open Go.Proofs Go.Sort
theorem glob_pow10 {c : Cx} (h : Glob c) : Lib.TabIs Tryz.prog c.w "internal/strconv.uint64pow10" .u64 Lib.pow10Tab := by
 obtain ⟨⟨e,fz,h1⟩,_⟩:=h (1,(List.range 20).map fun i=>Value.int .u64 ((10^i:Nat):Int)) (by simp [tabs])
 unfold Lib.TabIs World.var?
 rw [Tryz.pow10_at]
 simp only [Option.bind_some,h1]
 rw [Lib.pow10Tab,List.map_map]
 rfl
theorem strconv_FormatInt_s (n:Int) (h0:-9223372036854775808≤n) (h1:n≤9223372036854775807):PF n_strconv_FormatInt [.int .i64 n,.int .i64 10] (.str (Lib.itoa n)):=by
 intro c vs hH hc hr
 obtain ⟨v,vs',rfl,r1,v2,vs2,rfl,r2,r3⟩:=hr
 have r1:v = .int .i64 n:=r1
 have r2:v2 = .int .i64 10:=r2
 have r3:vs2 = []:=r3
 subst r1;subst r2;subst r3
 left
 refine ⟨Tryz.fmt_in _ _,(Tryz.fmt_c n h0 h1 c.w (glob_pow10 hc.glob)).mono ?_⟩
 rintro e w' ⟨rfl,k,os,rfl⟩
 have hno:∀ b,¬ c.owns b:=fun b ⟨i,k,h,_⟩=>by rw [hH] at h;simp at h
 have hlt:∀ b,b < c.w.heap.size→(grow (c.w.drewN k) os).heap[b]? = c.w.heap[b]?:=fun b hb=>Array.getElem?_append_left hb
 have hown:∀ b,¬ (⟨grow (c.w.drewN k) os,c.ok,c.ρ,[]⟩:Cx).owns b:=fun b ⟨i,k,h,_⟩=>by simp at h
 refine ⟨_,.str (Lib.itoa n),⟨grow (c.w.drewN k) os,c.ok,c.ρ,[]⟩,rfl,rfl,⟨rfl,rfl⟩,?_,rfl,?_⟩
 ·refine ⟨fun i j b1 k1 k2 h1=>by simp at h1,fun b o h=>?_,fun i o hi=>by simp at hi,hc.glob.keep (fun b hb _=>hlt b hb) fun b h=>absurd h (hown b)⟩
  have:=hc.okLt b o h
  show b < (c.w.heap++os).size
  rw [Array.size_append];omega
 ·refine ⟨fun _ _ h=>h,fun b o h=>?_,?_,fun _ _ h=>.inl h,fun b hb _=>hlt b hb,fun b h=>absurd h (hown b),fun i o hi=>?_,rfl,rfl,rfl,Nat.le_add_right _ _⟩
  ·simp only [World.cell?]
   rw [hlt b (hc.okLt _ _ h)]
  ·show c.w.heap.size≤(c.w.heap++os).size
   rw [Array.size_append];omega
  ·rw [hH] at hi;simp at hi
theorem strconv_Itoa_1_s (n:Int) (h0:-9223372036854775808≤n) (h1:n≤9223372036854775807):PF n_strconv_Itoa_ [.int .i64 n] (.str (Lib.itoa n)):=by
 refine pf_of strconv_Itoa_.ok rfl ?_
 push_cast
 refine .of (strconv_FormatInt_s n h0 h1) ?_
 push_cast
 exact pf_ret (by push_cast [strconv_Itoa_.rs])
theorem strconv_Itoa_s (n:Int) (h0:-9223372036854775808≤n) (h1:n≤9223372036854775807):PF n_strconv_Itoa [.int .i64 n] (.str (Lib.itoa n)):=by
 refine pf_of strconv_Itoa.ok rfl ?_
 push_cast
 refine .of (strconv_Itoa_1_s n h0 h1) ?_
 push_cast
 exact pf_ret (by push_cast [strconv_Itoa.rs])
abbrev dig (n:Nat):Str:=Lib.decDigits n
theorem strconv_Itoa_n (n:Nat) (h:n < 2^62):PF n_strconv_Itoa [.int .i64 n] (.str (dig n)):=by
 have:=strconv_Itoa_s n (by omega) (by omega)
 rw [show Lib.itoa (n:Int) = dig n from if_neg (by omega)] at this
 exact this
end Go.Dw
end
section
namespace Go.Dw
theorem image_append (a b:List ABind) (n:Str):image (a++b) n = match image a n with | some x=>some x | none=>image b n:=by
 induction a with
 | nil=>rfl
 | cons x a ih =>
  simp only [List.cons_append,image]
  split
  ·rfl
  ·exact ih
theorem image_bindT {s:List ABind} {v:Str} {t:Term} (h:image s v = none) (n:Str):image (bindT s v t) n = if v = n then some t else image s n:=by
 unfold bindT
 have h0:=image_append (s.take (lbd v s)) (s.drop (lbd v s)) n
 rw [List.take_append_drop] at h0
 rw [image_append]
 by_cases hv:v = n
 ·subst hv
  rw [h] at h0
  rw [if_pos rfl]
  cases ha:image (s.take (lbd v s)) v with
  | some x=>rw [ha] at h0;cases h0
  | none=>simp only [image,if_true]
 ·rw [if_neg hv,h0]
  cases image (s.take (lbd v s)) n with
  | some x=>rfl
  | none=>simp only [image,if_neg hv]
def ExtB (a b:List ABind):Prop:=∀ n x,image a n = some x→image b n = some x
theorem ExtB.refl (a:List ABind):ExtB a a:=fun _ _ h=>h
theorem ExtB.trans {a b c:List ABind} (h:ExtB a b) (h2:ExtB b c):ExtB a c:=fun n x hx=>h2 n x (h n x hx)
theorem ext_bindT {s:List ABind} {v:Str} {t:Term} (h:image s v = none):ExtB s (bindT s v t):=fun n x hx=>by
 rw [image_bindT h]
 split
 ·rename_i e;subst e;rw [h] at hx;cases hx
 ·exact hx
end Go.Dw
end
section
namespace Go.Dw
abbrev Sub:=Str→Term
mutual
def app (f:Sub):Term→Term
 | .mk n v l=>if v then f n else .mk n false (apps f l)
def apps (f:Sub):List Term→List Term
 | []=>[]
 | a :: l=>app f a :: apps f l
end
theorem apps_map (f:Sub) (l:List Term):apps f l = l.map (app f):=by induction l with | nil=>rfl | cons a l ih=>simp [apps,ih]
theorem app_eq (f:Sub) (t:Term):app f t = if t.var then f t.name else .mk t.name false (t.args.map (app f)):=by
 cases t with | mk n v l=>simp only [app,apps_map,Term.var,Term.name,Term.args];rfl
theorem app_var {f:Sub} {t:Term} (h:t.var = true):app f t = f t.name:=by rw [app_eq,if_pos h]
theorem app_fun {f:Sub} {t:Term} (h:t.var = false):app f t = .mk t.name false (t.args.map (app f)):=by rw [app_eq,if_neg (by simp [h])]
theorem uoccs_iff {v:Str} {l:List Term}:occs v l = true ↔ ∃ a∈l,occ v a = true:=by
 induction l with
 | nil=>simp [occs]
 | cons a l ih=>simp [occs,ih]
theorem uocc_iff {v:Str} {t:Term}:occ v t = true ↔ (t.var = true∧t.name = v) ∨ ∃ a∈t.args,occ v a = true:=by
 cases t with | mk n b l =>
 show ((b && decide (n = v)) || occs v l) = true ↔ _
 rw [Bool.or_eq_true,Bool.and_eq_true,decide_eq_true_eq,uoccs_iff]
 exact Iff.rfl
def varT (v:Str):Term:=.mk v true []
theorem occ_varT {v w:Str}:occ w (varT v) = true ↔ v = w:=by
 rw [uocc_iff];simp [varT,Term.var,Term.name,Term.args]
mutual
def vfl:Term→Bool
 | .mk _ v l=>(!v || l.isEmpty) && vfls l
def vfls:List Term→Bool
 | []=>true
 | a :: l=>vfl a && vfls l
end
theorem vfls_iff {l:List Term}:vfls l = true ↔ ∀ a∈l,vfl a = true:=by
 induction l with
 | nil=>simp [vfls]
 | cons a l ih=>simp [vfls,ih]
theorem vfl_iff {t:Term}:vfl t = true ↔ (t.var = true→t.args = [])∧∀ a∈t.args,vfl a = true:=by
 cases t with | mk n v l=>cases v <;> simp [vfl,vfls_iff,Term.var,Term.args]
theorem vfl_arg {t a:Term} (h:vfl t = true) (ha:a∈t.args):vfl a = true:=(vfl_iff.1 h).2 a ha
theorem short_vfl (t:Term):short t = true→vfl t = true:=by
 induction t using term_ind with
 | h t ih =>
 intro h
 have h:=short_iff.1 h
 exact vfl_iff.2 ⟨h.2.1,fun a ha=>ih a ha (h.2.2 a ha)⟩
theorem vfl_var {t:Term} (h:vfl t = true) (hv:t.var = true):t = varT t.name:=by
 have:=(vfl_iff.1 h).1 hv
 cases t with | mk n v l =>
 simp only [Term.args] at this
 simp only [Term.var] at hv
 subst this;subst hv;rfl
theorem occ_var {t:Term} {v:Str} (h:vfl t = true) (hv:t.var = true):occ v t = true ↔ t.name = v:=by
 rw [vfl_var h hv,occ_varT];rfl
theorem occ_fun {t:Term} {v:Str} (hv:t.var = false):occ v t = true ↔ ∃ a∈t.args,occ v a = true:=by
 rw [uocc_iff,hv];simp
theorem app_congr {f g:Sub} (t:Term):(∀ v,occ v t = true→f v = g v)→app f t = app g t:=by
 induction t using term_ind with
 | h t ih =>
 intro h
 rw [app_eq,app_eq]
 split
 ·rename_i hv;exact h _ (uocc_iff.2 (.inl ⟨hv,rfl⟩))
 ·congr 1
  exact List.map_congr_left fun a ha=>ih a ha fun v hv=>h v (uocc_iff.2 (.inr ⟨a,ha,hv⟩))
theorem app_app (f g:Sub) (t:Term):app g (app f t) = app (fun v=>app g (f v)) t:=by
 induction t using term_ind with
 | h t ih =>
 cases hv:t.var with
 | true=>rw [app_var hv,app_var hv]
 | false =>
  rw [app_fun hv,app_fun hv,app_fun rfl]
  simp only [Term.name,Term.args,List.map_map]
  congr 1
  exact List.map_congr_left fun a ha=>ih a ha
theorem app_id {f:Sub} (t:Term):vfl t = true→(∀ v,occ v t = true→f v = varT v)→app f t = t:=by
 induction t using term_ind with
 | h t ih =>
 intro ht h
 cases hv:t.var with
 | true =>
  rw [app_var hv,h _ (uocc_iff.2 (.inl ⟨hv,rfl⟩))]
  exact (vfl_var ht hv).symm
 | false =>
  rw [app_fun hv]
  have e:t.args.map (app f) = t.args:=by
   conv=>rhs;rw [← List.map_id t.args]
   exact List.map_congr_left fun a ha=>ih a ha (vfl_arg ht ha) fun v hv=>h v (uocc_iff.2 (.inr ⟨a,ha,hv⟩))
  rw [e]
  cases t;simp only [Term.var] at hv;subst hv;rfl
theorem occ_app {f:Sub} {w:Str} (t:Term):vfl t = true→(occ w (app f t) = true ↔ ∃ v,occ v t = true∧occ w (f v) = true):=by
 induction t using term_ind with
 | h t ih =>
 intro ht
 cases hv:t.var with
 | true =>
  rw [app_var hv]
  constructor
  ·intro h;exact ⟨_,(occ_var ht hv).2 rfl,h⟩
  ·rintro ⟨v,h1,h2⟩
   rw [(occ_var ht hv).1 h1];exact h2
 | false =>
  rw [app_fun hv,occ_fun rfl]
  simp only [Term.args,List.mem_map]
  constructor
  ·rintro ⟨_,⟨a,ha,rfl⟩,h⟩
   obtain ⟨v,h1,h2⟩:=(ih a ha (vfl_arg ht ha)).1 h
   exact ⟨v,(occ_fun hv).2 ⟨a,ha,h1⟩,h2⟩
  ·rintro ⟨v,h1,h2⟩
   obtain ⟨a,ha,h3⟩:=(occ_fun hv).1 h1
   exact ⟨_,⟨a,ha,rfl⟩,(ih a ha (vfl_arg ht ha)).2 ⟨v,h3,h2⟩⟩
theorem vfl_app {f:Sub} (t:Term):(∀ v,occ v t = true→vfl (f v) = true)→vfl (app f t) = true:=by
 induction t using term_ind with
 | h t ih =>
 intro h
 cases hv:t.var with
 | true=>rw [app_var hv];exact h _ (uocc_iff.2 (.inl ⟨hv,rfl⟩))
 | false =>
  rw [app_fun hv]
  refine vfl_iff.2 ⟨fun e=>by simp [Term.var] at e,fun a ha=>?_⟩
  simp only [Term.args,List.mem_map] at ha
  obtain ⟨b,hb,rfl⟩:=ha
  exact ih b hb fun v hv=>h v (uocc_iff.2 (.inr ⟨b,hb,hv⟩))
def Sat (θ:Sub) (s:List ABind):Prop:=∀ v t,image s v = some t→θ v = app θ t
structure UOk (s:List ABind) (σ:Sub) (rk:Str→Nat):Prop where
 srt:Sorted s
 vf:∀ v t,image s v = some t→vfl t = true
 free:∀ v,image s v = none→σ v = varT v
 fix:∀ v t,image s v = some t→σ v = app σ t
 low:∀ v t,image s v = some t→∀ w,occ w t = true→rk w < rk v
theorem UOk.nil:UOk [] varT (fun _=>0):=⟨List.Pairwise.nil,fun v t h=>(by cases h),fun v _=>rfl,fun v t h=>(by cases h),fun v t h=>(by cases h)⟩
section
variable {s:List ABind} {σ:Sub} {rk:Str→Nat}
theorem UOk.sat (h:UOk s σ rk):Sat σ s:=h.fix
theorem UOk.ind {P:Str→Prop} (h:UOk s σ rk) (step:∀ v,(∀ t w,image s v = some t→occ w t = true→P w)→P v):∀ v,P v:=by
 have:∀ n v,rk v < n→P v:=by
  intro n
  induction n with
  | zero=>intro v hv;omega
  | succ n ih =>
   intro v hv
   exact step v fun t w h1 h2=>ih w (by have:=h.low v t h1 w h2;omega)
 exact fun v=>this (rk v+1) v (by omega)
theorem UOk.vfl (h:UOk s σ rk):∀ v,Dw.vfl (σ v) = true:=by
 refine h.ind fun v ih=>?_
 cases hi:image s v with
 | none=>rw [h.free v hi];rfl
 | some t=>rw [h.fix v t hi];exact vfl_app t fun w hw=>ih t w hi hw
theorem UOk.occ_free (h:UOk s σ rk) {w:Str}:∀ v,occ w (σ v) = true→image s w = none:=by
 refine h.ind fun v ih=>?_
 cases hi:image s v with
 | none =>
  rw [h.free v hi,occ_varT]
  rintro rfl;exact hi
 | some t =>
  rw [h.fix v t hi,occ_app t (h.vf v t hi)]
  rintro ⟨u,h1,h2⟩
  exact ih t u hi h1 h2
theorem UOk.idem (h:UOk s σ rk) (v:Str):app σ (σ v) = σ v:=app_id _ (h.vfl v) fun w hw=>h.free w (h.occ_free v hw)
theorem UOk.uniq {σ':Sub} {rk':Str→Nat} (h:UOk s σ rk) (h':UOk s σ' rk'):σ = σ':=by
 funext v
 revert v
 refine h.ind fun v ih=>?_
 cases hi:image s v with
 | none=>rw [h.free v hi,h'.free v hi]
 | some t=>rw [h.fix v t hi,h'.fix v t hi];exact app_congr t fun w hw=>ih t w hi hw
inductive Occ (s:List ABind) (v:Str):Term→Prop
 | here {t:Term}:t.var = true→t.name = v→Occ s v t
 | bound {t x:Term}:t.var = true→image s t.name = some x→Occ s v x→Occ s v t
 | arg {t a:Term}:t.var = false→a∈t.args→Occ s v a→Occ s v t
theorem UOk.occ_sem (h:UOk s σ rk) {v:Str} (hv:image s v = none) {t:Term} (ht:Dw.vfl t = true):Occ s v t ↔ occ v (app σ t) = true:=by
 constructor
 ·intro ho
  induction ho with
  | here h1 h2=>rw [app_var h1,h2,h.free v hv,occ_varT]
  | bound h1 h2 _ ih=>rw [app_var h1,h.fix _ _ h2];exact ih (h.vf _ _ h2)
  | arg h1 h2 _ ih =>
   rw [app_fun h1,occ_fun rfl]
   exact ⟨_,List.mem_map_of_mem h2,ih (vfl_arg ht h2)⟩
 ·have B:∀ t:Term,Dw.vfl t = true→(∀ u,occ u t = true→occ v (σ u) = true→∀ t':Term,t'.var = true→t'.name = u→Occ s v t')→occ v (app σ t) = true→Occ s v t:=by
   intro t
   induction t using term_ind with
   | h t ih =>
   intro ht hu ho
   cases hv:t.var with
   | true =>
    rw [app_var hv] at ho
    exact hu _ (uocc_iff.2 (.inl ⟨hv,rfl⟩)) ho t hv rfl
   | false =>
    rw [app_fun hv,occ_fun rfl] at ho
    obtain ⟨b,hb,ho⟩:=ho
    simp only [Term.args,List.mem_map] at hb
    obtain ⟨a,ha,rfl⟩:=hb
    exact .arg hv ha (ih a ha (vfl_arg ht ha) (fun u h1=>hu u (uocc_iff.2 (.inr ⟨a,ha,h1⟩))) ho)
  have A:∀ u,occ v (σ u) = true→∀ t':Term,t'.var = true→t'.name = u→Occ s v t':=by
   refine h.ind fun u ih=>?_
   intro ho t' h1 h2
   cases hi:image s u with
   | none =>
    rw [h.free u hi,occ_varT] at ho
    exact .here h1 (h2.trans ho)
   | some x =>
    rw [h.fix u x hi] at ho
    exact .bound h1 (h2 ▸ hi) (B x (h.vf u x hi) (fun w hw=>ih x w hi hw) ho)
  exact fun ho=>B t ht (fun u _=>A u) ho
theorem occ_most (rk:Str→Nat) (t:Term):∃ M,∀ w,occ w t = true→rk w≤M:=by
 have key:∀ l:List Str,∃ M,∀ w∈l,rk w≤M:=by
  intro l
  induction l with
  | nil=>exact ⟨0,by simp⟩
  | cons x l ih =>
   obtain ⟨M,hM⟩:=ih
   refine ⟨M+rk x,fun w hw=>?_⟩
   rcases List.mem_cons.1 hw with rfl | hw
   ·omega
   ·have:=hM w hw;omega
 obtain ⟨M,hM⟩:=key (varsT t)
 exact ⟨M,fun w hw=>hM w ((mem_collectT w t []).2 (.inr hw))⟩
theorem UOk.bind (h:UOk s σ rk) {v:Str} (hv:image s v = none) {t:Term} (ht:Dw.vfl t = true) (hn:¬ Occ s v t):∃ σ' rk',UOk (bindT s v t) σ' rk'∧∀ w,σ' w = app σ' (σ w):=by
 have hno:¬ occ v (app σ t) = true:=fun e=>hn ((h.occ_sem hv ht).2 e)
 obtain ⟨M,hM⟩:=occ_most rk t
 let τ:Sub:=fun u=>if u = v then app σ t else varT u
 have hτ:∀ u,u ≠ v→τ u = varT u:=fun u hu=>if_neg hu
 have hτt:app τ (app σ t) = app σ t:=app_id _ (vfl_app t fun w _=>h.vfl w) fun u hu=>hτ u fun e=>hno (e ▸ hu)
 refine ⟨fun w=>app τ (σ w),fun w=>if occ v (σ w) = true then rk w+(M+1) else rk w,⟨bindT_sorted h.srt hv,?_,?_,?_,?_⟩,?_⟩
 ·intro w x hx
  rw [image_bindT hv] at hx
  split at hx
  ·cases hx;exact ht
  ·exact h.vf w x hx
 ·intro w hw
  rw [image_bindT hv] at hw
  split at hw
  ·cases hw
  ·rename_i hne
   show app τ (σ w) = _
   rw [h.free w hw,varT,app_var rfl]
   exact hτ w fun e=>hne e.symm
 ·intro w x hx
  show app τ (σ w) = app (fun w=>app τ (σ w)) x
  rw [← app_app]
  rw [image_bindT hv] at hx
  split at hx
  ·rename_i e
   cases hx
   subst e
   rw [h.free v hv,varT,app_var rfl,hτt]
   exact if_pos rfl
  ·rw [h.fix w x hx]
 ·intro u x hx w hw
  show (if occ v (σ w) = true then _ else _) < (if occ v (σ u) = true then _ else _)
  rw [image_bindT hv] at hx
  split at hx
  ·rename_i e
   cases hx
   subst e
   have h1:=hM w hw
   have h2:¬ occ v (σ w) = true:=fun e=>hno ((occ_app t ht).2 ⟨w,hw,e⟩)
   rw [if_neg h2,h.free v hv,if_pos (occ_varT.2 rfl)]
   omega
  ·have h1:=h.low u x hx w hw
   have h2:occ v (σ w) = true→occ v (σ u) = true:=fun e=>by
    rw [h.fix u x hx]
    exact (occ_app x (h.vf u x hx)).2 ⟨w,hw,e⟩
   by_cases c:occ v (σ w) = true
   ·rw [if_pos c,if_pos (h2 c)];omega
   ·rw [if_neg c];split <;> omega
 ·intro w
  show app τ (σ w) = app (fun w=>app τ (σ w)) (σ w)
  rw [← app_app,h.idem]
end
def headN:Nat→List ABind→Term→Option Term
 | 0,_,_=>none
 | n+1,s,t=>if t.var then (match image s t.name with | some x=>headN n s x | none=>some t) else some t
open Classical in
noncomputable def setU (s:List ABind) (v:Str) (t:Term):List ABind × Bool:=if Occ s v t then (s,false) else (bindT s v t,true)
def solvesW (f:List ABind→Term→Term→Option (List ABind × Bool)):List ABind→List Term→List Term→Option (List ABind × Bool)
 | s,a :: l,b :: m=>match f s a b with
  | none=>none
  | some (s',false)=>some (s',false)
  | some (s',true)=>solvesW f s' l m
 | s,_,_=>some (s,true)
noncomputable def solveN:Nat→List ABind→Term→Term→Option (List ABind × Bool)
 | 0,_,_,_=>none
 | n+1,s,a,b=>match headN (n+1) s a,headN (n+1) s b with
  | some x,some y =>
   if x.var then (if y.var∧x.name = y.name then some (s,true) else some (setU s x.name y))
   else if y.var then some (setU s y.name x)
   else if x.name ≠ y.name ∨ x.args.length ≠ y.args.length then some (s,false)
   else solvesW (solveN n) s x.args y.args
  | _,_=>none
theorem headN_mono {s:List ABind}:∀ {n m:Nat} {t x:Term},headN n s t = some x→n≤m→headN m s t = some x
 | 0,_,_,_,h,_=>by cases h
 | n+1,0,_,_,_,h=>by omega
 | n+1,m+1,t,x,h,hm=>by
  simp only [headN] at h ⊢
  split at h
  ·rename_i hv
   rw [if_pos hv]
   cases hi:image s t.name with
   | none=>rw [hi] at h;exact h
   | some y=>rw [hi] at h;exact headN_mono h (by omega)
  ·rename_i hv
   rw [if_neg hv];exact h
theorem solvesW_mono {f g:List ABind→Term→Term→Option (List ABind × Bool)} (hfg:∀ s a b r,f s a b = some r→g s a b = some r):∀ (l m:List Term) (s:List ABind) (r:List ABind × Bool),solvesW f s l m = some r→solvesW g s l m = some r
 | [],_,s,r,h=>h
 | _ :: _,[],s,r,h=>h
 | a :: l,b :: m,s,r,h=>by
  simp only [solvesW] at h ⊢
  cases hf:f s a b with
  | none=>rw [hf] at h;cases h
  | some p =>
   obtain ⟨s',ok⟩:=p
   rw [hf] at h
   rw [hfg _ _ _ _ hf]
   cases ok with
   | false=>exact h
   | true=>exact solvesW_mono hfg l m s' r h
theorem solveN_mono:∀ (n m:Nat) (s:List ABind) (a b:Term) (r:List ABind × Bool),solveN n s a b = some r→n≤m→solveN m s a b = some r
 | 0,_,_,_,_,_,h,_=>by cases h
 | n+1,0,_,_,_,_,_,h=>by omega
 | n+1,m+1,s,a,b,r,h,hm=>by
  simp only [solveN] at h ⊢
  cases hx:headN (n+1) s a with
  | none=>rw [hx] at h;cases h
  | some x =>
   cases hy:headN (n+1) s b with
   | none=>rw [hx,hy] at h;cases h
   | some y =>
    rw [hx,hy] at h
    rw [headN_mono hx (by omega),headN_mono hy (by omega)]
    simp only at h ⊢
    by_cases c1:x.var = true
    ·rw [if_pos c1] at h ⊢;exact h
    ·rw [if_neg c1] at h ⊢
     by_cases c2:y.var = true
     ·rw [if_pos c2] at h ⊢;exact h
     ·rw [if_neg c2] at h ⊢
      by_cases c3:x.name ≠ y.name ∨ x.args.length ≠ y.args.length
      ·rw [if_pos c3] at h ⊢;exact h
      ·rw [if_neg c3] at h ⊢
       exact solvesW_mono (fun s a b r hr=>solveN_mono n m s a b r hr (by omega)) _ _ _ _ h
theorem solveN_succ {n:Nat} {s:List ABind} {a b:Term} {r:List ABind × Bool} (h:solveN (n+1) s a b = some r):∃ x y,headN (n+1) s a = some x∧headN (n+1) s b = some y ∧
  ((x.var = true∧y.var = true∧x.name = y.name∧r = (s,true)) ∨ (x.var = true∧¬ (y.var = true∧x.name = y.name)∧r = setU s x.name y) ∨ (x.var = false∧y.var = true∧r = setU s y.name x) ∨
   (x.var = false∧y.var = false∧(x.name ≠ y.name ∨ x.args.length ≠ y.args.length)∧r = (s,false)) ∨
   (x.var = false∧y.var = false∧x.name = y.name∧x.args.length = y.args.length∧solvesW (solveN n) s x.args y.args = some r)):=by
 simp only [solveN] at h
 cases hx:headN (n+1) s a with
 | none=>rw [hx] at h;cases h
 | some x =>
  cases hy:headN (n+1) s b with
  | none=>rw [hx,hy] at h;cases h
  | some y =>
   rw [hx,hy] at h
   simp only at h
   refine ⟨x,y,rfl,rfl,?_⟩
   by_cases c1:x.var = true
   ·rw [if_pos c1] at h
    by_cases c2:y.var = true∧x.name = y.name
    ·rw [if_pos c2] at h;cases h;exact .inl ⟨c1,c2.1,c2.2,rfl⟩
    ·rw [if_neg c2] at h;cases h;exact .inr (.inl ⟨c1,c2,rfl⟩)
   ·rw [if_neg c1] at h
    have c1:x.var = false:=by simpa using c1
    by_cases c2:y.var = true
    ·rw [if_pos c2] at h;cases h;exact .inr (.inr (.inl ⟨c1,c2,rfl⟩))
    ·rw [if_neg c2] at h
     have c2:y.var = false:=by simpa using c2
     by_cases c3:x.name ≠ y.name ∨ x.args.length ≠ y.args.length
     ·rw [if_pos c3] at h;cases h;exact .inr (.inr (.inr (.inl ⟨c1,c2,c3,rfl⟩)))
     ·rw [if_neg c3] at h
      simp only [not_or,Classical.not_not] at c3
      exact .inr (.inr (.inr (.inr ⟨c1,c2,c3.1,c3.2,h⟩)))
theorem head_free {s:List ABind}:∀ {n:Nat} {t x:Term},headN n s t = some x→x.var = true→image s x.name = none
 | 0,_,_,h,_=>by cases h
 | n+1,t,x,h,hx=>by
  simp only [headN] at h
  split at h
  ·cases hi:image s t.name with
   | none=>rw [hi] at h;cases h;exact hi
   | some y=>rw [hi] at h;exact head_free h hx
  ·rename_i hv;cases h;exact absurd hx hv
theorem head_sat {θ:Sub} {s:List ABind} (hθ:Sat θ s):∀ {n:Nat} {t x:Term},headN n s t = some x→app θ x = app θ t
 | 0,_,_,h=>by cases h
 | n+1,t,x,h=>by
  simp only [headN] at h
  split at h
  ·rename_i hv
   cases hi:image s t.name with
   | none=>rw [hi] at h;cases h;rfl
   | some y=>rw [hi] at h;rw [head_sat hθ h,app_var hv];exact (hθ _ _ hi).symm
  ·cases h;rfl
theorem head_keep {P:Term→Prop} {s:List ABind} (hs:∀ v t,image s v = some t→P t):∀ {n:Nat} {t x:Term},P t→headN n s t = some x→P x
 | 0,_,_,_,h=>by cases h
 | n+1,t,x,ht,h=>by
  simp only [headN] at h
  split at h
  ·cases hi:image s t.name with
   | none=>rw [hi] at h;cases h;exact ht
   | some y=>rw [hi] at h;exact head_keep hs (hs _ _ hi) h
  ·cases h;exact ht
theorem head_some {s:List ABind} {σ:Sub} {rk:Str→Nat} (h:UOk s σ rk):∀ (n:Nat) (t:Term),(t.var = true→rk t.name < n)→∃ x,headN (n+1) s t = some x
 | n,t,ht=>by
  simp only [headN]
  split
  ·rename_i hv
   cases hi:image s t.name with
   | none=>exact ⟨t,rfl⟩
   | some y =>
    cases n with
    | zero=>exact absurd (ht hv) (by omega)
    | succ n =>
     refine head_some h n y fun hy=>?_
     have:=h.low _ _ hi y.name (uocc_iff.2 (.inl ⟨hy,rfl⟩))
     have:=ht hv
     omega
  ·exact ⟨t,rfl⟩
end Go.Dw
end
section
namespace Go.Dw
theorem image_of_mem {s:List ABind} (hs:Sorted s) {b:ABind} (hb:b∈s):image s b.name = some b.term:=by
 induction s with
 | nil=>cases hb
 | cons c s ih =>
  obtain ⟨h1,h2⟩:=List.pairwise_cons.1 hs
  simp only [image]
  rcases List.mem_cons.1 hb with rfl | hb
  ·rw [if_pos rfl]
  ·rw [if_neg fun e=>by have:=h1 b hb;rw [e] at this;exact slt_irrefl _ this]
   exact ih h2 hb
theorem setU_cases (s:List ABind) (v:Str) (t:Term):(Occ s v t∧setU s v t = (s,false)) ∨ (¬ Occ s v t∧setU s v t = (bindT s v t,true)):=by
 unfold setU
 by_cases h:Occ s v t
 ·exact .inl ⟨h,if_pos h⟩
 ·exact .inr ⟨h,if_neg h⟩
theorem occ_size {s:List ABind} {θ:Sub} {v:Str} (hθ:Sat θ s) {t:Term} (h:Occ s v t):size (θ v)≤size (app θ t)∧(t.var = false→size (θ v) < size (app θ t)):=by
 induction h with
 | here h1 h2=>rw [app_var h1,h2];exact ⟨Nat.le_refl _,fun h=>by rw [h1] at h;cases h⟩
 | bound h1 h2 _ ih=>rw [app_var h1,hθ _ _ h2];exact ⟨ih.1,fun h=>by rw [h1] at h;cases h⟩
 | @arg t a h1 h2 _ ih =>
  have h3:size (app θ t) = 1+sizes (t.args.map (app θ)):=by rw [app_fun h1];rfl
  have h4:=size_mem (List.mem_map_of_mem (f:=app θ) h2)
  have:=ih.1
  omega
theorem Sat.mono {θ:Sub} {s s':List ABind} (h:Sat θ s') (he:ExtB s s'):Sat θ s:=fun v t hi=>h v t (he v t hi)
structure SolOk (s:List ABind) (σ:Sub) (A:Sub→Prop) (r:List ABind × Bool) (σ':Sub) (rk':Str→Nat):Prop where
 ok:UOk r.1 σ' rk'
 ext:ExtB s r.1
 len:r.1 = s ∨ s.length < r.1.length
 comp:∀ w,σ' w = app σ' (σ w)
 eq:r.2 = true→A σ'
 mgu:∀ θ,Sat θ s→A θ→r.2 = true∧Sat θ r.1
theorem comp_app {σ σ':Sub} (h:∀ w,σ' w = app σ' (σ w)) (t:Term):app σ' t = app σ' (app σ t):=by
 rw [app_app];exact app_congr t fun v _=>h v
theorem setU_ok {s:List ABind} {σ:Sub} {rk:Str→Nat} (h:UOk s σ rk) {v:Str} {t:Term} (hv:image s v = none) (ht:vfl t = true) (hne:t.var = true→image s t.name = none∧t.name ≠ v) :
  ∃ σ' rk',SolOk s σ (fun θ=>θ v = app θ t) (setU s v t) σ' rk':=by
 rcases setU_cases s v t with ⟨ho,e⟩ | ⟨ho,e⟩
 ·rw [e]
  refine ⟨σ,rk,h,ExtB.refl s,.inl rfl,fun w=>(h.idem w).symm,(fun e=>by cases e),fun θ hθ he=>?_⟩
  exfalso
  cases hv2:t.var with
  | true =>
   obtain ⟨h1,h2⟩:=hne hv2
   cases ho with
   | here _ h4=>exact h2 h4
   | bound _ h4 _=>rw [h1] at h4;cases h4
   | arg h3 _ _=>rw [hv2] at h3;cases h3
  | false =>
   have:=(occ_size hθ ho).2 hv2
   rw [← he] at this
   omega
 ·rw [e]
  obtain ⟨σ',rk',h1,h2⟩:=h.bind hv ht ho
  refine ⟨σ',rk',h1,ext_bindT hv,.inr (by rw [bindT_len];omega),h2,fun _=>h1.fix v t (by rw [image_bindT hv,if_pos rfl]),fun θ hθ he=>⟨rfl,fun w x hx=>?_⟩⟩
  rw [image_bindT hv] at hx
  split at hx
  ·rename_i e;cases hx;subst e;exact he
  ·exact hθ w x hx
theorem solvesW_ok {n:Nat} (ih:∀ (s:List ABind) (σ:Sub) (rk:Str→Nat) (a b:Term) (r:List ABind × Bool),UOk s σ rk→vfl a = true→vfl b = true→solveN n s a b = some r→∃ σ' rk',SolOk s σ (fun θ=>app θ a = app θ b) r σ' rk') :
  ∀ (l m:List Term) (s:List ABind) (σ:Sub) (rk:Str→Nat) (r:List ABind × Bool),UOk s σ rk→(∀ a∈l,vfl a = true)→(∀ b∈m,vfl b = true)→l.length = m.length→solvesW (solveN n) s l m = some r→∃ σ' rk',SolOk s σ (fun θ=>l.map (app θ) = m.map (app θ)) r σ' rk'
 | [],[],s,σ,rk,r,h,_,_,_,hr=>by
  simp only [solvesW,Option.some.injEq] at hr
  subst hr
  exact ⟨σ,rk,h,ExtB.refl s,.inl rfl,fun w=>(h.idem w).symm,fun _=>rfl,fun θ hθ _=>⟨rfl,hθ⟩⟩
 | a :: l,b :: m,s,σ,rk,r,h,hl,hm,hlen,hr=>by
  simp only [solvesW] at hr
  cases hf:solveN n s a b with
  | none=>rw [hf] at hr;cases hr
  | some p =>
   obtain ⟨s1,ok⟩:=p
   rw [hf] at hr
   obtain ⟨σ1,rk1,h1⟩:=ih s σ rk a b _ h (hl a (by simp)) (hm b (by simp)) hf
   cases ok with
   | false =>
    simp only [Option.some.injEq] at hr
    subst hr
    refine ⟨σ1,rk1,h1.ok,h1.ext,h1.len,h1.comp,(fun e=>by cases e),fun θ hθ he=>?_⟩
    simp only [List.map_cons,List.cons.injEq] at he
    have:=(h1.mgu θ hθ he.1).1
    cases this
   | true =>
    simp only at hr
    obtain ⟨σ2,rk2,h2⟩:=solvesW_ok ih l m s1 σ1 rk1 r h1.ok (fun x hx=>hl x (by simp [hx])) (fun x hx=>hm x (by simp [hx])) (by simpa using hlen) hr
    refine ⟨σ2,rk2,h2.ok,h1.ext.trans h2.ext,?_,fun w=>?_,fun e=>?_,fun θ hθ he=>?_⟩
    ·rcases h1.len with e1 | e1 <;> rcases h2.len with e2 | e2
     ·exact .inl (e2.trans e1)
     ·right;rw [← e1];exact e2
     ·right;rw [e2];exact e1
     ·right;simp only at e1;omega
    ·rw [h2.comp w,h1.comp w,← comp_app h2.comp]
    ·have h3:app σ1 a = app σ1 b:=h1.eq rfl
     simp only [List.map_cons]
     rw [comp_app h2.comp a,comp_app h2.comp b,h3,h2.eq e]
    ·simp only [List.map_cons,List.cons.injEq] at he
     have h3:=h1.mgu θ hθ he.1
     exact h2.mgu θ h3.2 he.2
 | [],_ :: _,_,_,_,_,_,_,_,hlen,_=>by simp at hlen
 | _ :: _,[],_,_,_,_,_,_,_,hlen,_=>by simp at hlen
theorem solveN_ok:∀ (n:Nat) (s:List ABind) (σ:Sub) (rk:Str→Nat) (a b:Term) (r:List ABind × Bool),UOk s σ rk→vfl a = true→vfl b = true→solveN n s a b = some r→∃ σ' rk',SolOk s σ (fun θ=>app θ a = app θ b) r σ' rk'
 | 0,_,_,_,_,_,_,_,_,_,h=>by cases h
 | n+1,s,σ,rk,a,b,r,h,ha,hb,hr=>by
  obtain ⟨x,y,hx,hy,hc⟩:=solveN_succ hr
  have hxa:=fun θ (hθ:Sat θ s)=>head_sat hθ hx
  have hyb:=fun θ (hθ:Sat θ s)=>head_sat hθ hy
  have hvx:vfl x = true:=head_keep (P:=fun t=>vfl t = true) h.vf ha hx
  have hvy:vfl y = true:=head_keep (P:=fun t=>vfl t = true) h.vf hb hy
  rcases hc with ⟨c1,c2,c3,rfl⟩ | ⟨c1,c2,rfl⟩ | ⟨c1,c2,rfl⟩ | ⟨c1,c2,c3,rfl⟩ | ⟨c1,c2,c3,c4,c5⟩
  ·refine ⟨σ,rk,h,ExtB.refl s,.inl rfl,fun w=>(h.idem w).symm,fun _=>?_,fun θ hθ _=>⟨rfl,hθ⟩⟩
   rw [← hxa σ h.sat,← hyb σ h.sat,app_var c1,app_var c2,c3]
  ·obtain ⟨σ',rk',k⟩:=setU_ok h (head_free hx c1) hvy (fun e=>⟨head_free hy e,fun e2=>c2 ⟨e,e2.symm⟩⟩)
   refine ⟨σ',rk',k.ok,k.ext,k.len,k.comp,fun e=>?_,fun θ hθ he=>k.mgu θ hθ ?_⟩
   ·have hs:=k.ok.sat.mono k.ext
    rw [← hxa σ' hs,← hyb σ' hs,app_var c1];exact k.eq e
   ·rw [← app_var (f:=θ) c1,hxa θ hθ,hyb θ hθ];exact he
  ·obtain ⟨σ',rk',k⟩:=setU_ok h (v:=y.name) (t:=x) (head_free hy c2) hvx (fun e=>by rw [c1] at e;cases e)
   refine ⟨σ',rk',k.ok,k.ext,k.len,k.comp,fun e=>?_,fun θ hθ he=>k.mgu θ hθ ?_⟩
   ·have hs:=k.ok.sat.mono k.ext
    rw [← hxa σ' hs,← hyb σ' hs,app_var c2];exact (k.eq e).symm
   ·rw [← app_var (f:=θ) c2,hxa θ hθ,hyb θ hθ];exact he.symm
  ·refine ⟨σ,rk,h,ExtB.refl s,.inl rfl,fun w=>(h.idem w).symm,(fun e=>by cases e),fun θ hθ he=>?_⟩
   exfalso
   rw [← hxa θ hθ,← hyb θ hθ,app_fun c1,app_fun c2] at he
   injection he with e1 _ e3
   rcases c3 with c3 | c3
   ·exact c3 e1
   ·have:=congrArg List.length e3
    simp only [List.length_map] at this
    exact c3 this
  ·obtain ⟨σ',rk',k⟩:=solvesW_ok (solveN_ok n) x.args y.args s σ rk r h (fun z hz=>vfl_arg hvx hz) (fun z hz=>vfl_arg hvy hz) c4 c5
   refine ⟨σ',rk',k.ok,k.ext,k.len,k.comp,fun e=>?_,fun θ hθ he=>k.mgu θ hθ ?_⟩
   ·have hs:=k.ok.sat.mono k.ext
    rw [← hxa σ' hs,← hyb σ' hs,app_fun c1,app_fun c2,c3,k.eq e]
   ·rw [← hxa θ hθ,← hyb θ hθ,app_fun c1,app_fun c2] at he
    injection he
theorem setU_keep {P:Term→Prop} {Q:Str→Prop} {s:List ABind} {v:Str} {t:Term} (hs:∀ v t,image s v = some t→P t∧Q v) (hv:image s v = none) (ht:P t) (hq:Q v):∀ w x,image (setU s v t).1 w = some x→P x∧Q w:=by
 rcases setU_cases s v t with ⟨_,e⟩ | ⟨_,e⟩
 ·rw [e];exact hs
 ·rw [e]
  intro w x hx
  rw [image_bindT hv] at hx
  split at hx
  ·rename_i e;cases hx;subst e;exact ⟨ht,hq⟩
  ·exact hs w x hx
theorem solveN_keep {P:Term→Prop} {Q:Str→Prop} (hP:∀ t a,P t→a∈t.args→P a) (hQ:∀ t,P t→t.var = true→Q t.name):∀ (n:Nat) (s:List ABind) (a b:Term) (r:List ABind × Bool),(∀ v t,image s v = some t→P t∧Q v)→P a→P b→solveN n s a b = some r→∀ v t,image r.1 v = some t→P t∧Q v
 | 0,_,_,_,_,_,_,_,h=>by cases h
 | n+1,s,a,b,r,hs,ha,hb,hr=>by
  obtain ⟨x,y,hx,hy,hc⟩:=solveN_succ hr
  have hvx:P x:=head_keep (fun v t h=>(hs v t h).1) ha hx
  have hvy:P y:=head_keep (fun v t h=>(hs v t h).1) hb hy
  rcases hc with ⟨c1,c2,c3,rfl⟩ | ⟨c1,c2,rfl⟩ | ⟨c1,c2,rfl⟩ | ⟨c1,c2,c3,rfl⟩ | ⟨c1,c2,c3,c4,c5⟩
  ·exact hs
  ·exact setU_keep hs (head_free hx c1) hvy (hQ x hvx c1)
  ·exact setU_keep hs (head_free hy c2) hvx (hQ y hvy c2)
  ·exact hs
  ·have key:∀ (l m:List Term) (s:List ABind),(∀ a∈l,P a)→(∀ b∈m,P b)→(∀ v t,image s v = some t→P t∧Q v)→solvesW (solveN n) s l m = some r→∀ v t,image r.1 v = some t→P t∧Q v:=by
    intro l
    induction l with
    | nil=>intro m s _ _ hs h;simp only [solvesW,Option.some.injEq] at h;subst h;exact hs
    | cons a l ihl =>
     intro m s hl hm hs h
     cases m with
     | nil=>simp only [solvesW,Option.some.injEq] at h;subst h;exact hs
     | cons b m =>
      simp only [solvesW] at h
      cases hf:solveN n s a b with
      | none=>rw [hf] at h;cases h
      | some p =>
       obtain ⟨s1,ok⟩:=p
       rw [hf] at h
       have h1:=solveN_keep hP hQ n s a b _ hs (hl a (by simp)) (hm b (by simp)) hf
       cases ok with
       | false=>simp only [Option.some.injEq] at h;subst h;exact h1
       | true=>exact ihl m s1 (fun x hx=>hl x (by simp [hx])) (fun x hx=>hm x (by simp [hx])) h1 h
   exact key x.args y.args s (fun z hz=>hP x z hvx hz) (fun z hz=>hP y z hvy hz) hs c5
theorem few_names:∀ (s:List ABind) (Vs:List Str),Sorted s→(∀ b∈s,b.name∈Vs)→s.length≤Vs.length
 | [],_,_,_=>by simp
 | b :: s,Vs,hs,h=>by
  obtain ⟨h1,h2⟩:=List.pairwise_cons.1 hs
  have hb:=h b (by simp)
  have:=few_names s (Vs.erase b.name) h2 fun c hc=>(List.mem_erase_of_ne (fun e=>by have:=h1 c hc;rw [e] at this;exact slt_irrefl _ this)).2 (h c (by simp [hc]))
  rw [List.length_erase_of_mem hb] at this
  have:=List.length_pos_of_mem hb
  simp only [List.length_cons];omega
def Among (Vs:List Str) (t:Term):Prop:=vfl t = true∧∀ w,occ w t = true→w∈Vs
theorem Among.arg {Vs:List Str} {t a:Term} (h:Among Vs t) (ha:a∈t.args):Among Vs a:=⟨vfl_arg h.1 ha,fun w hw=>h.2 w (uocc_iff.2 (.inr ⟨a,ha,hw⟩))⟩
theorem among_names {Vs:List Str} {s:List ABind} (hs:Sorted s) (h:∀ v t,image s v = some t→Among Vs t∧v∈Vs):s.length≤Vs.length:=few_names s Vs hs fun b hb=>(h _ _ (image_of_mem hs hb)).2
theorem among_keep {Vs:List Str} {n:Nat} {s:List ABind} {a b:Term} {r:List ABind × Bool} (hs:∀ v t,image s v = some t→Among Vs t∧v∈Vs) (ha:Among Vs a) (hb:Among Vs b) (hr:solveN n s a b = some r):∀ v t,image r.1 v = some t→Among Vs t∧v∈Vs :=
 solveN_keep (P:=Among Vs) (Q:=fun v=>v∈Vs) (fun t a h ha=>h.arg ha) (fun t h hv=>h.2 _ (uocc_iff.2 (.inl ⟨hv,rfl⟩))) n s a b r hs ha hb hr
theorem solveN_ends (Vs:List Str):∀ (k m:Nat) (s:List ABind) (σ:Sub) (rk:Str→Nat) (a b:Term),UOk s σ rk→(∀ v t,image s v = some t→Among Vs t∧v∈Vs)→Among Vs a→Among Vs b→Vs.length - s.length = k→size (app σ a) = m→∃ n r,solveN n s a b = some r:=by
 intro k
 induction k using Nat.strongRecOn with
 | ind k ihk =>
 intro m
 induction m using Nat.strongRecOn with
 | ind m ihm =>
 intro s σ rk a b h hs ha hb hk hm
 obtain ⟨x,hx⟩:=head_some h (rk a.name+rk b.name+1) a (fun _=>by omega)
 obtain ⟨y,hy⟩:=head_some h (rk a.name+rk b.name+1) b (fun _=>by omega)
 generalize hN:rk a.name+rk b.name+1 = N at hx hy
 by_cases c1:x.var = true
 ·by_cases c2:y.var = true∧x.name = y.name
  ·exact ⟨N+1,_,by simp only [solveN,hx,hy];rw [if_pos c1,if_pos c2]⟩
  ·exact ⟨N+1,_,by simp only [solveN,hx,hy];rw [if_pos c1,if_neg c2]⟩
 ·by_cases c2:y.var = true
  ·exact ⟨N+1,_,by simp only [solveN,hx,hy];rw [if_neg c1,if_pos c2]⟩
  ·by_cases c3:x.name ≠ y.name ∨ x.args.length ≠ y.args.length
   ·exact ⟨N+1,_,by simp only [solveN,hx,hy];rw [if_neg c1,if_neg c2,if_pos c3]⟩
   ·have hxv:x.var = false:=by simpa using c1
    have hax:Among Vs x:=head_keep (P:=Among Vs) (fun v t h=>(hs v t h).1) ha hx
    have hay:Among Vs y:=head_keep (P:=Among Vs) (fun v t h=>(hs v t h).1) hb hy
    have hsz:1+sizes (x.args.map (app σ)) = m:=by
     rw [← hm,← head_sat h.sat hx,app_fun hxv];rfl
    have key:∀ (l m':List Term) (s1:List ABind) (σ1:Sub) (rk1:Str→Nat),UOk s1 σ1 rk1→(∀ v t,image s1 v = some t→Among Vs t∧v∈Vs)→(∀ z∈l,z∈x.args)→(∀ z∈m',Among Vs z)→(s1 = s ∨ s.length < s1.length)→∃ n r,solvesW (solveN n) s1 l m' = some r:=by
     intro l
     induction l with
     | nil=>intro m' s1 _ _ _ _ _ _ _;exact ⟨0,(s1,true),by simp only [solvesW]⟩
     | cons a' l ihl =>
      intro m' s1 σ1 rk1 h1 hs1 hl hm' hlen
      cases m' with
      | nil=>exact ⟨0,(s1,true),by simp only [solvesW]⟩
      | cons b' m' =>
       have haa:Among Vs a':=hax.arg (hl a' (by simp))
       have hbb:Among Vs b':=hm' b' (by simp)
       have hone:∃ n r,solveN n s1 a' b' = some r:=by
        rcases hlen with e | e
        ·subst e
         have e:=h.uniq h1
         subst e
         have h3:=size_mem (List.mem_map_of_mem (f:=app σ) (hl a' (by simp)))
         exact ihm (size (app σ a')) (by omega) s1 σ rk a' b' h hs1 haa hbb hk rfl
        ·have h3:=among_names h1.srt hs1
         exact ihk (Vs.length - s1.length) (by omega) _ s1 σ1 rk1 a' b' h1 hs1 haa hbb rfl rfl
       obtain ⟨n1,⟨s2,ok⟩,hr1⟩:=hone
       cases ok with
       | false=>exact ⟨n1,(s2,false),by simp only [solvesW,hr1]⟩
       | true =>
        obtain ⟨σ2,rk2,h2⟩:=solveN_ok n1 s1 σ1 rk1 a' b' _ h1 haa.1 hbb.1 hr1
        obtain ⟨n2,r2,hr2⟩:=ihl m' s2 σ2 rk2 h2.ok (among_keep hs1 haa hbb hr1) (fun z hz=>hl z (by simp [hz])) (fun z hz=>hm' z (by simp [hz])) (by
         have h5:=h2.len
         simp only at h5
         rcases h5 with e | e
         ·rw [e];exact hlen
         ·rcases hlen with e2 | e2
          ·rw [e2] at e;exact .inr e
          ·exact .inr (by omega))
        refine ⟨n1+n2,r2,?_⟩
        simp only [solvesW]
        rw [solveN_mono n1 (n1+n2) _ _ _ _ hr1 (by omega)]
        exact solvesW_mono (fun s a b r hr=>solveN_mono n2 (n1+n2) s a b r hr (by omega)) _ _ _ _ hr2
    obtain ⟨n,r,hr⟩:=key x.args y.args s σ rk h hs (fun z hz=>hz) (fun z hz=>hay.arg hz) (.inl rfl)
    refine ⟨N+n+1,r,?_⟩
    simp only [solveN]
    rw [headN_mono hx (by omega),headN_mono hy (by omega)]
    simp only
    rw [if_neg c1,if_neg c2,if_neg c3]
    exact solvesW_mono (fun s a b r hr=>solveN_mono n (N+n) s a b r hr (by omega)) _ _ _ _ hr
theorem solvesW_ends (Vs:List Str):∀ (l m:List Term) (s:List ABind) (σ:Sub) (rk:Str→Nat),UOk s σ rk→(∀ v t,image s v = some t→Among Vs t∧v∈Vs)→(∀ z∈l,Among Vs z)→(∀ z∈m,Among Vs z)→∃ n r,solvesW (solveN n) s l m = some r
 | [],_,s,_,_,_,_,_,_=>⟨0,(s,true),by simp only [solvesW]⟩
 | _ :: _,[],s,_,_,_,_,_,_=>⟨0,(s,true),by simp only [solvesW]⟩
 | a :: l,b :: m,s,σ,rk,h,hs,hl,hm=>by
  have haa:=hl a (by simp)
  have hbb:=hm b (by simp)
  obtain ⟨n1,⟨s2,ok⟩,hr1⟩:=solveN_ends Vs _ _ s σ rk a b h hs haa hbb rfl rfl
  cases ok with
  | false=>exact ⟨n1,(s2,false),by simp only [solvesW,hr1]⟩
  | true =>
   obtain ⟨σ2,rk2,h2⟩:=solveN_ok n1 s σ rk a b _ h haa.1 hbb.1 hr1
   obtain ⟨n2,r2,hr2⟩:=solvesW_ends Vs l m s2 σ2 rk2 h2.ok (among_keep hs haa hbb hr1) (fun z hz=>hl z (by simp [hz])) (fun z hz=>hm z (by simp [hz]))
   refine ⟨n1+n2,r2,?_⟩
   simp only [solvesW]
   rw [solveN_mono n1 (n1+n2) _ _ _ _ hr1 (by omega)]
   exact solvesW_mono (fun s a b r hr=>solveN_mono n2 (n1+n2) s a b r hr (by omega)) _ _ _ _ hr2
theorem solvesW_det {n m:Nat} {s:List ABind} {l k:List Term} {r q:List ABind × Bool} (h:solvesW (solveN n) s l k = some r) (h2:solvesW (solveN m) s l k = some q):r = q:=by
 have e1:=solvesW_mono (g:=solveN (n+m)) (fun s a b r hr=>solveN_mono n (n+m) s a b r hr (by omega)) _ _ _ _ h
 have e2:=solvesW_mono (g:=solveN (n+m)) (fun s a b r hr=>solveN_mono m (n+m) s a b r hr (by omega)) _ _ _ _ h2
 rw [e1] at e2;exact Option.some.inj e2
open Classical in
noncomputable def solveS (l m:List Term):List ABind × Bool:=if h:∃ r,∃ n,solvesW (solveN n) [] l m = some r then h.choose else ([],false)
theorem solveS_eq {n:Nat} {l m:List Term} {r:List ABind × Bool} (h:solvesW (solveN n) [] l m = some r):solveS l m = r:=by
 unfold solveS
 have he:∃ r,∃ n,solvesW (solveN n) [] l m = some r:=⟨r,n,h⟩
 rw [dif_pos he]
 obtain ⟨k,hk⟩:=he.choose_spec
 exact solvesW_det hk h
open Classical in
noncomputable def sigma (s:List ABind):Sub:=if h:∃ σ,∃ rk,UOk s σ rk then h.choose else varT
theorem sigma_eq {s:List ABind} {σ:Sub} {rk:Str→Nat} (h:UOk s σ rk):sigma s = σ:=by
 unfold sigma
 have he:∃ σ,∃ rk,UOk s σ rk:=⟨σ,rk,h⟩
 rw [dif_pos he]
 obtain ⟨rk',h'⟩:=he.choose_spec
 exact h'.uniq h
noncomputable def wholeS (s:List ABind):List ABind:=s.map fun b=>⟨b.name,sigma s b.name⟩
noncomputable def hugeS (s:List ABind):Bool:=s.any fun b=>!fits (sigma s b.name)
noncomputable def unifE (l m:List Term):List ABind × Bool × Int :=
 if (solveS l m).2 = false then ([],false,0) else if hugeS (solveS l m).1 then ([],false,3) else (wholeS (solveS l m).1,true,0)
theorem solveS_ok {Vs:List Str} {l m:List Term} (hl:∀ z∈l,Among Vs z) (hm:∀ z∈m,Among Vs z) (hlen:l.length = m.length):∃ rk,UOk (solveS l m).1 (sigma (solveS l m).1) rk∧(∀ v t,image (solveS l m).1 v = some t→Among Vs t∧v∈Vs) ∧
  ((solveS l m).2 = true→l.map (app (sigma (solveS l m).1)) = m.map (app (sigma (solveS l m).1)))∧∀ θ:Sub,l.map (app θ) = m.map (app θ)→(solveS l m).2 = true∧Sat θ (solveS l m).1:=by
 have hnil:∀ v t,image [] v = some t→Among Vs t∧v∈Vs:=fun v t h=>by cases h
 obtain ⟨n,r,hr⟩:=solvesW_ends Vs l m [] varT (fun _=>0) UOk.nil hnil hl hm
 rw [solveS_eq hr]
 obtain ⟨σ,rk,h⟩:=solvesW_ok (solveN_ok n) l m [] varT (fun _=>0) r UOk.nil (fun z hz=>(hl z hz).1) (fun z hz=>(hm z hz).1) hlen hr
 rw [sigma_eq h.ok]
 refine ⟨rk,h.ok,?_,h.eq,fun θ hθ=>h.mgu θ (fun v t h=>by cases h) hθ⟩
 clear h
 revert hr
 have key:∀ (l m:List Term) (s:List ABind),(∀ z∈l,Among Vs z)→(∀ z∈m,Among Vs z)→(∀ v t,image s v = some t→Among Vs t∧v∈Vs)→solvesW (solveN n) s l m = some r→∀ v t,image r.1 v = some t→Among Vs t∧v∈Vs:=by
  intro l
  induction l with
  | nil=>intro m s _ _ hs h;simp only [solvesW,Option.some.injEq] at h;subst h;exact hs
  | cons a l ihl =>
   intro m s hl hm hs h
   cases m with
   | nil=>simp only [solvesW,Option.some.injEq] at h;subst h;exact hs
   | cons b m =>
    simp only [solvesW] at h
    cases hf:solveN n s a b with
    | none=>rw [hf] at h;cases h
    | some p =>
     obtain ⟨s1,ok⟩:=p
     rw [hf] at h
     have h1:=among_keep hs (hl a (by simp)) (hm b (by simp)) hf
     cases ok with
     | false=>simp only [Option.some.injEq] at h;subst h;exact h1
     | true=>exact ihl m s1 (fun x hx=>hl x (by simp [hx])) (fun x hx=>hm x (by simp [hx])) h1 h
 exact key l m [] hl hm hnil
end Go.Dw
end
section
namespace Go.Dw
theorem seen_full {n:Nat} {seen:List Nat} {k:Nat} (hm:n≤seen.length) (hnd:seen.Nodup) (hlt:∀ i∈seen,i < n) (hk:k ∉ seen) (hkn:k < n):False:=by
 have h1:(seen++[k]).Nodup:=by simp [List.nodup_append,hnd];intro a ha e;exact hk (e ▸ ha)
 have h2:(seen++[k]).length≤(List.range n).length:=List.Nodup.length_le_of_subset h1 (by
  intro i hi
  rw [List.mem_range]
  rcases List.mem_append.1 hi with h | h
  ·exact hlt i h
  ·simp only [List.mem_singleton] at h;subst h;exact hkn)
 simp at h2;omega
theorem range_up (n:Nat) (R:List Nat→Prop) (h:∀ seen,seen.Nodup→(∀ i∈seen,i < n)→seen.length≤n→(∀ k,k < n→k ∉ seen→R (seen++[k]))→R seen):R []:=by
 have key:∀ (f:Nat) (seen:List Nat),n - seen.length < f→seen.Nodup→(∀ i∈seen,i < n)→R seen:=by
  intro f
  induction f with
  | zero=>intro seen hf;omega
  | succ f ih =>
   intro seen hf hnd hlt
   have hl:seen.length≤n:=by simpa using List.Nodup.length_le_of_subset hnd (l₂:=List.range n) fun i hi=>List.mem_range.2 (hlt i hi)
   refine h seen hnd hlt hl fun k hkn hk=>?_
   have hlen:seen.length < n:=by
    rcases Nat.lt_or_ge seen.length n with h | h
    ·exact h
    ·exact (seen_full h hnd hlt hk hkn).elim
   refine ih (seen++[k]) (by simp;omega) (by simp [List.nodup_append,hnd];intro a ha e;exact hk (e ▸ ha)) fun i hi=>?_
   rcases List.mem_append.1 hi with h | h
   ·exact hlt i h
   ·simp only [List.mem_singleton] at h;subst h;exact hkn
 exact key (n+1) [] (by simp) List.nodup_nil (by simp)
end Go.Dw
end
section
namespace Go.Dw
section
variable {κ α:Type} [DecidableEq κ]
def getK:List (κ × α)→κ→Option α
 | [],_=>none
 | p :: m,k=>if p.1 = k then some p.2 else getK m k
def setK:List (κ × α)→κ→α→List (κ × α)
 | [],k,x=>[(k,x)]
 | p :: m,k,x=>if p.1 = k then (k,x) :: m else p :: setK m k x
theorem getK_setK (m:List (κ × α)) (k j:κ) (x:α):getK (setK m k x) j = if k = j then some x else getK m j:=by
 induction m with
 | nil=>simp only [setK,getK]
 | cons p m ih =>
  simp only [setK]
  split
  ·rename_i h
   simp only [getK,h]
   split <;> rfl
  ·rename_i h
   simp only [getK,ih]
   by_cases h2:p.1 = j
   ·rw [if_pos h2,if_neg (fun e=>h (h2.trans e.symm)),if_pos h2]
   ·rw [if_neg h2,if_neg h2]
theorem getK_mem {m:List (κ × α)} {k:κ} {x:α} (h:getK m k = some x):(k,x)∈m:=by
 induction m with
 | nil=>cases h
 | cons p m ih =>
  simp only [getK] at h
  split at h
  ·rename_i e;cases h;subst e;exact List.mem_cons_self
  ·exact List.mem_cons_of_mem _ (ih h)
def Keys (m:List (κ × α)):Prop:=(m.map (·.1)).Nodup
theorem keys_setK {m:List (κ × α)} (h:Keys m) (k:κ) (x:α):Keys (setK m k x):=by
 have hm:∀ (m:List (κ × α)) (j:κ),j∈(setK m k x).map (·.1)→j = k ∨ j∈m.map (·.1):=by
  intro m
  induction m with
  | nil=>intro j hj;simp [setK] at hj;exact .inl hj
  | cons p m ih =>
   intro j hj
   simp only [setK] at hj
   split at hj
   ·simp only [List.map_cons,List.mem_cons] at hj ⊢
    rcases hj with h | h
    ·exact .inl h
    ·exact .inr (.inr h)
   ·simp only [List.map_cons,List.mem_cons] at hj ⊢
    rcases hj with h | h
    ·exact .inr (.inl h)
    ·rcases ih j h with h | h
     ·exact .inl h
     ·exact .inr (.inr h)
 unfold Keys at h ⊢
 induction m with
 | nil=>simp [setK]
 | cons p m ih =>
  simp only [List.map_cons,List.nodup_cons] at h
  simp only [setK]
  split
  ·rename_i e
   simp only [List.map_cons,List.nodup_cons]
   subst e;exact h
  ·rename_i e
   simp only [List.map_cons,List.nodup_cons]
   refine ⟨fun hc=>?_,ih h.2⟩
   rcases hm m _ hc with h2 | h2
   ·exact e h2
   ·exact h.1 h2
theorem getK_of_mem {m:List (κ × α)} (h:Keys m) {k:κ} {x:α} (hm:(k,x)∈m):getK m k = some x:=by
 unfold Keys at h
 induction m with
 | nil=>cases hm
 | cons p m ih =>
  simp only [List.map_cons,List.nodup_cons] at h
  simp only [getK]
  rcases List.mem_cons.1 hm with e | hm
  ·subst e;rw [if_pos rfl]
  ·rw [if_neg (fun e=>h.1 (by rw [e];exact List.mem_map_of_mem (f:=(·.1)) hm))]
   exact ih h.2 hm
end
section
variable {α:Type}
def encS (f:α→V) (m:List (Str × α)):List (V × V):=m.map fun p=>(.str p.1,f p.2)
theorem encS_len (f:α→V) (m:List (Str × α)):(encS f m).length = m.length:=by simp [encS]
theorem findM_encS (f:α→V) (k:Str):∀ (m:List (Str × α)) (i:Nat),(getK m k = none∧findM (.str k) (encS f m) i = some none) ∨ ∃ x j,getK m k = some x∧findM (.str k) (encS f m) i = some (some (i+j,f x))∧∀ y,(encS f m).set j (.str k,f y) = encS f (setK m k y)
 | [],i=>.inl ⟨rfl,rfl⟩
 | p :: m,i=>by
  by_cases h:p.1 = k
  ·refine .inr ⟨p.2,0,?_,?_,fun y=>?_⟩
   ·simp [getK,h]
   ·simp [encS,findM,sameK,h]
   ·simp [encS,setK,h]
  ·have h':k ≠ p.1:=fun e=>h e.symm
   have hb:(k == p.1) = false:=by simpa using h'
   have e:∀ (i:Nat) ,findM (.str k) (encS f (p :: m)) i = findM (.str k) (encS f m) (i+1):=fun i=>by simp [encS,findM,sameK,hb]
   have eg:getK (p :: m) k = getK m k:=by simp only [getK];rw [if_neg h]
   rw [eg,e]
   rcases findM_encS f k m (i+1) with h1 | ⟨x,j,h1,h2,h3⟩
   ·exact .inl h1
   ·refine .inr ⟨x,j+1,h1,by rw [h2];congr 3;omega,fun y=>?_⟩
    have:=h3 y
    simp only [encS,setK,if_neg h,List.map_cons,List.set_cons_succ] at this ⊢
    rw [this]
theorem look_encS (f:α→V) (m:List (Str × α)) (k:Str) (ok:Bool) (z:V) {H:List Ob} {i:Nat} (hi:H[i]? = some (.map (encS f m))):lookV H true ok z (.map i) (.str k) = some (if ok then .tup [((getK m k).map f).getD z,.bool (getK m k).isSome] else ((getK m k).map f).getD z):=by
 have he:entsV H (.map i) = some (encS f m):=by simp [entsV,hi]
 unfold lookV
 rw [he]
 rcases findM_encS f k m 0 with ⟨h1,h2⟩ | ⟨x,j,h1,h2,_⟩
 ·simp [ksB,h1,h2,foundX]
 ·simp [ksB,h1,h2,foundX]
theorem setK_new {κ:Type} [DecidableEq κ] {m:List (κ × α)} {k:κ} (h:getK m k = none) (x:α):setK m k x = m++[(k,x)]:=by
 induction m with
 | nil=>rfl
 | cons p m ih =>
  simp only [getK] at h
  split at h
  ·cases h
  ·rename_i e
   simp only [setK,if_neg e,List.cons_append,ih h]
theorem upd_encS (f:α→V) (m:List (Str × α)) (k:Str) (x:α):updM (.str k) (f x) (encS f m) = some (encS f (setK m k x)):=by
 unfold updM
 rcases findM_encS f k m 0 with ⟨h1,h2⟩ | ⟨y,j,h1,h2,h3⟩
 ·rw [h2,setK_new h1];simp [encS]
 ·rw [h2]
  simp only [Nat.zero_add]
  rw [h3]
theorem ren_encS {σ:Nat→Option Nat} {f:α→V} (hf:∀ x,ren σ (f x) = f x) (m:List (Str × α)):((encS f m).map fun p=>(ren σ p.1,ren σ p.2)) = encS f m:=by
 unfold encS
 rw [List.map_map]
 refine List.map_congr_left fun p _=>?_
 show (ren σ (V.str p.1),ren σ (f p.2)) = _
 rw [hf];rfl
abbrev Key:=Str × Str
def encK (k:Key):V:=.agg [.str k.1,.str k.2]
def encQ (f:α→V) (m:List (Key × α)):List (V × V):=m.map fun p=>(encK p.1,f p.2)
theorem sameQ_encK (a b:Key):sameQ (encK a) (encK b) = some (decide (a = b)):=by
 obtain ⟨a1,a2⟩:=a
 obtain ⟨b1,b2⟩:=b
 by_cases h1:a1 = b1
 ·by_cases h2:a2 = b2
  ·subst h1;subst h2
   simp [sameQ,encK,sameC,sameK]
  ·have:(a2 == b2) = false:=by simpa using h2
   subst h1
   simp [sameQ,encK,sameC,sameK,this,h2]
 ·have:(a1 == b1) = false:=by simpa using h1
  simp [sameQ,encK,sameC,sameK,this,h1]
theorem findQ_encQ (f:α→V) (k:Key):∀ (m:List (Key × α)) (i:Nat),(getK m k = none∧findQ (encK k) (encQ f m) i = some none) ∨ ∃ x j,getK m k = some x∧findQ (encK k) (encQ f m) i = some (some (i+j,f x))∧∀ y,(encQ f m).set j (encK k,f y) = encQ f (setK m k y)
 | [],i=>.inl ⟨rfl,rfl⟩
 | p :: m,i=>by
  by_cases h:p.1 = k
  ·refine .inr ⟨p.2,0,?_,?_,fun y=>?_⟩
   ·simp [getK,h]
   ·simp only [encQ,List.map_cons,findQ,sameQ_encK,h,decide_true];rfl
   ·simp [encQ,setK,h]
  ·have h':k ≠ p.1:=fun e=>h e.symm
   have e:∀ (i:Nat) ,findQ (encK k) (encQ f (p :: m)) i = findQ (encK k) (encQ f m) (i+1):=fun i=>by simp only [encQ,List.map_cons,findQ,sameQ_encK,h',decide_false]
   have eg:getK (p :: m) k = getK m k:=by simp only [getK];rw [if_neg h]
   rw [eg,e]
   rcases findQ_encQ f k m (i+1) with h1 | ⟨x,j,h1,h2,h3⟩
   ·exact .inl h1
   ·refine .inr ⟨x,j+1,h1,by rw [h2];congr 3;omega,fun y=>?_⟩
    have:=h3 y
    simp only [encQ,setK,if_neg h,List.map_cons,List.set_cons_succ] at this ⊢
    rw [this]
theorem look_encQ (f:α→V) (m:List (Key × α)) (k:Key) (ok:Bool) (z:V) {H:List Ob} {i:Nat} (hi:H[i]? = some (.map (encQ f m))):lookQ H [true,true] ok z (.map i) (encK k) = some (if ok then .tup [((getK m k).map f).getD z,.bool (getK m k).isSome] else ((getK m k).map f).getD z):=by
 have he:entsV H (.map i) = some (encQ f m):=by simp [entsV,hi]
 have hs:shB [true,true] (encK k) = true:=rfl
 unfold lookQ
 rw [he,if_pos hs]
 rcases findQ_encQ f k m 0 with ⟨h1,h2⟩ | ⟨x,j,h1,h2,_⟩
 ·simp [h1,h2,foundX]
 ·simp [h1,h2,foundX]
theorem upd_encQ (f:α→V) (m:List (Key × α)) (k:Key) (x:α):updQ (encK k) (f x) (encQ f m) = some (encQ f (setK m k x)):=by
 unfold updQ
 rcases findQ_encQ f k m 0 with ⟨h1,h2⟩ | ⟨y,j,h1,h2,h3⟩
 ·rw [h2,setK_new h1];simp [encQ]
 ·rw [h2]
  simp only [Nat.zero_add]
  rw [h3]
theorem ren_encQ {σ:Nat→Option Nat} {f:α→V} (hf:∀ x,ren σ (f x) = f x) (m:List (Key × α)):((encQ f m).map fun p=>(ren σ p.1,ren σ p.2)) = encQ f m:=by
 unfold encQ
 rw [List.map_map]
 refine List.map_congr_left fun p _=>?_
 show (ren σ (encK p.1),ren σ (f p.2)) = _
 rw [hf];rfl
end
def Need (s:List ABind):Nat→Term→Prop
 | 0,_=>False
 | n+1,t=>if t.var then ∀ x,image s t.name = some x→Need s n x else ∀ a∈t.args,Need s n a
theorem Need.mono {s:List ABind}:∀ {n m:Nat} {t:Term},Need s n t→n≤m→Need s m t
 | 0,_,_,h,_=>h.elim
 | n+1,0,_,_,h=>by omega
 | n+1,m+1,t,h,hm=>by
  simp only [Need] at h ⊢
  split
  ·rename_i hv
   rw [if_pos hv] at h
   exact fun x hx=>(h x hx).mono (by omega)
  ·rename_i hv
   rw [if_neg hv] at h
   exact fun a ha=>(h a ha).mono (by omega)
theorem need_list {s:List ABind}:∀ l:List Term,(∀ a∈l,∃ n,Need s n a)→∃ n,∀ a∈l,Need s n a
 | [],_=>⟨0,by simp⟩
 | a :: l,h=>by
  obtain ⟨n,hn⟩:=h a (by simp)
  obtain ⟨m,hm⟩:=need_list l fun b hb=>h b (by simp [hb])
  refine ⟨n+m,fun b hb=>?_⟩
  rcases List.mem_cons.1 hb with rfl | hb
  ·exact hn.mono (by omega)
  ·exact (hm b hb).mono (by omega)
theorem UOk.need {s:List ABind} {σ:Sub} {rk:Str→Nat} (h:UOk s σ rk) (t:Term):∃ n,Need s n t:=by
 have B:∀ t:Term,(∀ u,occ u t = true→∀ x,image s u = some x→∃ n,Need s n x)→∃ n,Need s n t:=by
  intro t
  induction t using term_ind with
  | h t ih =>
  intro hu
  cases hv:t.var with
  | true =>
   cases hi:image s t.name with
   | none=>exact ⟨1,by simp only [Need,hv,if_pos];intro x hx;rw [hi] at hx;cases hx⟩
   | some x =>
    obtain ⟨n,hn⟩:=hu t.name (uocc_iff.2 (.inl ⟨hv,rfl⟩)) x hi
    exact ⟨n+1,by simp only [Need,hv,if_pos];intro y hy;rw [hi] at hy;cases hy;exact hn⟩
  | false =>
   obtain ⟨n,hn⟩:=need_list (s:=s) t.args fun a ha=>ih a ha fun u hu'=>hu u (uocc_iff.2 (.inr ⟨a,ha,hu'⟩))
   exact ⟨n+1,by simp only [Need,hv,Bool.false_eq_true,if_false];exact hn⟩
 have A:∀ u,∀ x,image s u = some x→∃ n,Need s n x:=h.ind fun u ih x hx=>B x fun w hw y hy=>ih x w hx hw y hy
 exact B t fun u _=>A u
end Go.Dw
end
section
namespace Go.Dw
abbrev NM:=List (Str × Str)
abbrev nHl (nm:NM) (J:List Ob):List Ob:=.map (encS V.str nm) :: .cells t_m_string_string [.map 0] :: J
abbrev nH (nm:NM):List Ob:=nHl nm []
theorem ren_encSV {σ:Nat→Option Nat} (m:NM):((encS V.str m).map fun p=>(ren σ p.1,ren σ p.2)) = encS V.str m:=ren_encS (fun x=>rfl) m
attribute [push_cast] ren_encSV
theorem shut_n (nm:NM):Shut 2 (nH nm):=⟨rfl,by
 show [renOb (clip 2) (.map (encS V.str nm)),renOb (clip 2) (.cells t_m_string_string [.map 0])] = _
 have h0:clip 2 0 = some 0:=rfl
 push_cast [h0]⟩
theorem give_n (nm:NM) (J:List Ob):give [0,1] (nHl nm J) = nH nm:=by
 show [renOb (pos? [0,1]) (.map (encS V.str nm)),renOb (pos? [0,1]) (.cells t_m_string_string [.map 0])] = _
 have h0:pos? [0,1] 0 = some 0:=rfl
 push_cast [h0]
theorem take_n (nm nm':NM) (J:List Ob):takeB [0,1] (nHl nm J) (nH nm') = nHl nm' J:=by
 apply List.ext_getElem?
 intro i
 rw [takeB_get (by simp)]
 have h0:∀ n,back [0,1] n 0 = some 0:=fun _=>rfl
 match i with
 | 0=>rw [if_pos (by simp)];show some (renOb _ (.map (encS V.str nm'))) = some _;push_cast
 | 1=>rw [if_pos (by simp)];show some (renOb _ (.cells t_m_string_string [.map 0])) = some _;push_cast [h0]
 | i+2 =>
  have hp:pos? [0,1] (i+2) = none:=by simp [pos?,List.findIdx?_cons]
  by_cases h:i < J.length
  ·rw [if_pos (by simp;omega),hp]
   simp [List.getD_eq_getElem?_getD,h]
  ·rw [if_neg (by simp;omega)]
   have e1:(nHl nm' J)[i+2]? = none:=List.getElem?_eq_none (by simp;omega)
   have e2:(nH nm')[[0,1].length+(i+2 - (nHl nm J).length)]? = none:=List.getElem?_eq_none (by simp)
   rw [e1,e2];rfl
section
variable {N:Nat→C} {B:Nat} {k:List K} {t:T} {Q:X→T→List Ob→Prop} {dd:Option Nat} {l:List S} {F:Fn} {vs vs':List V} {nm nm':NM} {J:List Ob} {x:V}
theorem callG_n (hv:rens (pos? [0,1]) vs = vs') (h:SpecF prog F vs' (nH nm) fun x' H'=>x' = x∧H' = nH nm') (k':Run prog N B (.r l :: k) (setO dd (ren (back [0,1] (J.length+2)) x) t) (nHl nm' J) Q):CallG prog N B dd l k t Q F vs (nHl nm J):=by
 refine CallG.some [0,1] (by simp) (by simp) (R:=fun x' H'=>x' = x∧H' = nH nm') (by rw [give_n,hv];exact h) ?_
 rintro x' H' ⟨rfl,rfl⟩ _
 rw [take_n];exact k'
end
abbrev nHp (P:List Ob) (nm:NM) (J:List Ob):List Ob:=P++(.map (encS V.str nm) :: .cells t_m_string_string [.map P.length] :: J)
theorem pos_p (p:Nat):pos? [p,p+1] p = some 0:=by simp [pos?,List.findIdx?_cons]
theorem pos_p1 (p:Nat):pos? [p,p+1] (p+1) = some 1:=by simp [pos?,List.findIdx?_cons]
theorem give_np (P:List Ob) (nm:NM) (J:List Ob):give [P.length,P.length+1] (nHp P nm J) = nH nm:=by
 unfold give
 have e1:(nHp P nm J).getD P.length .dead = .map (encS V.str nm):=by simp [List.getD_eq_getElem?_getD]
 have e2:(nHp P nm J).getD (P.length+1) .dead = .cells t_m_string_string [.map P.length]:=by
  rw [List.getD_eq_getElem?_getD,List.getElem?_append_right (by omega)]
  simp
 simp only [List.map_cons,List.map_nil,e1,e2]
 push_cast [pos_p]
theorem take_np (P:List Ob) (nm nm':NM) (J:List Ob):takeB [P.length,P.length+1] (nHp P nm J) (nH nm') = nHp P nm' J:=by
 apply List.ext_getElem?
 intro i
 rw [takeB_get (by simp)]
 have hb0:∀ n,back [P.length,P.length+1] n 0 = some P.length:=fun _=>rfl
 have hlen:(nHp P nm J).length = P.length+(J.length+2):=by simp
 by_cases h1:i < P.length
 ·have hp:pos? [P.length,P.length+1] i = none:=by
   have a1:¬ P.length = i:=by omega
   have a2:¬ P.length+1 = i:=by omega
   simp [pos?,List.findIdx?_cons,a1,a2]
  rw [if_pos (by omega),hp,List.getElem?_append_left h1,List.getD_eq_getElem?_getD,List.getElem?_append_left h1]
  simp [h1]
 ·rw [List.getElem?_append_right (by omega)]
  by_cases h2:i = P.length
  ·subst h2
   rw [if_pos (by omega),pos_p]
   simp only [Nat.sub_self,List.getElem?_cons_zero]
   show some (renOb _ (.map (encS V.str nm'))) = _
   push_cast
  ·by_cases h3:i = P.length+1
   ·subst h3
    rw [if_pos (by omega),pos_p1]
    have e:P.length+1 - P.length = 1:=by omega
    rw [e]
    simp only [List.getElem?_cons_succ,List.getElem?_cons_zero]
    show some (renOb _ (.cells t_m_string_string [.map 0])) = _
    push_cast [hb0]
   ·have hp:pos? [P.length,P.length+1] i = none:=by
     have a1:¬ P.length = i:=by omega
     have a2:¬ P.length+1 = i:=by omega
     simp [pos?,List.findIdx?_cons,a1,a2]
    obtain ⟨j,rfl⟩:∃ j,i = P.length+2+j:=⟨i - P.length - 2,by omega⟩
    have e:P.length+2+j - P.length = j+2:=by omega
    rw [e]
    simp only [List.getElem?_cons_succ]
    by_cases h4:j < J.length
    ·rw [if_pos (by omega),hp]
     simp only [List.getD_eq_getElem?_getD]
     rw [List.getElem?_append_right (by omega),e]
     simp [h4]
    ·rw [if_neg (by omega)]
     have e1:J[j]? = none:=List.getElem?_eq_none (by omega)
     have e2:(nH nm')[[P.length,P.length+1].length+(P.length+2+j - (nHp P nm J).length)]? = none:=List.getElem?_eq_none (by simp)
     rw [e1,e2];rfl
theorem callG_np {N:Nat→C} {B:Nat} {k:List K} {t:T} {Q:X→T→List Ob→Prop} {dd:Option Nat} {l:List S} {F:Fn} {vs vs':List V} {nm nm':NM} {x:V} (P J:List Ob) (hv:rens (pos? [P.length,P.length+1]) vs = vs') (h:SpecF prog F vs' (nH nm) fun x' H'=>x' = x∧H' = nH nm')
  (k':Run prog N B (.r l :: k) (setO dd (ren (back [P.length,P.length+1] (nHp P nm J).length) x) t) (nHp P nm' J) Q):CallG prog N B dd l k t Q F vs (nHp P nm J):=by
 refine CallG.some [P.length,P.length+1] (by simp) (by simp) (R:=fun x' H'=>x' = x∧H' = nH nm') (by rw [give_np,hv];exact h) ?_
 rintro x' H' ⟨rfl,rfl⟩ _
 rw [take_np];exact k'
def nameF (pre:Str) (nm:NM) (v:Str):NM × Str:=if (getK nm v).getD [] = [] then (setK nm v (pre++dig nm.length),pre++dig nm.length) else (nm,(getK nm v).getD [])
theorem setK_len {κ α:Type} [DecidableEq κ] (m:List (κ × α)) (k:κ) (x:α):(setK m k x).length≤m.length+1:=by
 induction m with
 | nil=>simp [setK]
 | cons p m ih=>simp only [setK];split <;> simp;exact ih
theorem nameF_len (pre:Str) (nm:NM) (v:Str):(nameF pre nm v).1.length≤nm.length+1:=by
 unfold nameF
 split
 ·exact setK_len _ _ _
 ·exact Nat.le_succ _
theorem dig_len (n:Nat):(dig n).length≤n+1:=by
 induction n using Nat.strongRecOn with
 | ind n ih =>
  unfold dig Lib.decDigits
  split
  ·simp
  ·have:=ih (n / 10) (by omega)
   unfold dig at this
   simp only [List.length_append,List.length_singleton]
   omega
theorem term_Standard_11_s (nm:NM) (v:Str) (hl:nm.length < 2^62):Spec prog n_term_Standard_1_1 [.str v,.ptr 1 0] (nH nm) fun x H'=>x = .str (nameF [120] nm v).2∧H' = nH (nameF [120] nm v).1:=by
 have hlk:∀ nm l,_:=fun (nm:NM) (l:List Ob)=>look_encS V.str nm v false (.str []) (H:=nHl nm l) (i:=0) rfl
 have hup:=upd_encS V.str nm v (120 :: dig nm.length)
 have hcap:1+(dig nm.length).length≤capMax:=by have:=dig_len nm.length;unfold capMax;omega
 have hlm:∀ l,lnmV (nHl nm l) (.map 0) = some (.int .i64 nm.length):=fun l=>by unfold lnmV;simp [entsV,encS_len]
 have hI:=strconv_Itoa_n nm.length hl
 refine spec_of_run mixed term_Standard_1_1.ok rfl ?_
 unfold nameF
 have e2:∀ nm:NM,((getK nm v).map V.str).getD (.str []) = .str ((getK nm v).getD []):=fun nm=>by cases getK nm v <;> rfl
 simp only [e2,Bool.false_eq_true,if_false] at hlk
 by_cases h:(getK nm v).getD [] = []
 ·rw [if_pos h]
  have h3:(getK (setK nm v (120 :: dig nm.length)) v).getD [] = 120 :: dig nm.length:=by rw [getK_setK,if_pos rfl];rfl
  push_cast [hlk,h,hlm]
  refine .of hI ?_
  push_cast [hup,hlk,h3,hcap]
  exact ⟨rfl,ends_all (.inl rfl) rfl ⟨rfl,rfl⟩⟩
 ·rw [if_neg h]
  push_cast [hlk,h]
  exact ends_all (.inl rfl) rfl ⟨rfl,rfl⟩
theorem overlap_inner_1_s (nm:NM) (v:Str) (hl:nm.length < 2^40):Spec prog n_overlap_inner_1 [.str v,.ptr 1 0] (nH nm) fun x H'=>x = .str (nameF [121] nm v).2∧H' = nH (nameF [121] nm v).1:=by
 have hlk:∀ nm l,_:=fun (nm:NM) (l:List Ob)=>look_encS V.str nm v false (.str []) (H:=nHl nm l) (i:=0) rfl
 have hup:=upd_encS V.str nm v (121 :: dig nm.length)
 have hcap:1+(dig nm.length).length≤capMax:=by have:=dig_len nm.length;unfold capMax;omega
 have hlm:∀ l,lnmV (nHl nm l) (.map 0) = some (.int .i64 nm.length):=fun l=>by unfold lnmV;simp [entsV,encS_len]
 have hI:=strconv_Itoa_n nm.length (by omega)
 refine spec_of_run mixed overlap_inner_1.ok rfl ?_
 unfold nameF
 have e2:∀ nm:NM,((getK nm v).map V.str).getD (.str []) = .str ((getK nm v).getD []):=fun nm=>by cases getK nm v <;> rfl
 simp only [e2,Bool.false_eq_true,if_false] at hlk
 by_cases h:(getK nm v).getD [] = []
 ·rw [if_pos h]
  have h3:(getK (setK nm v (121 :: dig nm.length)) v).getD [] = 121 :: dig nm.length:=by rw [getK_setK,if_pos rfl];rfl
  push_cast [hlk,h,hlm]
  refine .of hI ?_
  push_cast [hup,hlk,h3,hcap]
  exact ⟨rfl,ends_all (.inl rfl) rfl ⟨rfl,rfl⟩⟩
 ·rw [if_neg h]
  push_cast [hlk,h]
  exact ends_all (.inl rfl) rfl ⟨rfl,rfl⟩
mutual
def renT (pre:Str) (nm:NM):Term→NM × Term
 | .mk n v l=>if v then ((nameF pre nm n).1,.mk (nameF pre nm n).2 true []) else ((renTs pre nm l).1,.mk n false (renTs pre nm l).2)
def renTs (pre:Str) (nm:NM):List Term→NM × List Term
 | []=>(nm,[])
 | a :: l=>((renTs pre (renT pre nm a).1 l).1,(renT pre nm a).2 :: (renTs pre (renT pre nm a).1 l).2)
end
theorem renT_eq (pre:Str) (nm:NM) (t:Term):renT pre nm t = if t.var then ((nameF pre nm t.name).1,.mk (nameF pre nm t.name).2 true []) else ((renTs pre nm t.args).1,.mk t.name false (renTs pre nm t.args).2):=by cases t;simp only [renT];rfl
theorem renTs_append (pre:Str):∀ (a b:List Term) (nm:NM),renTs pre nm (a++b) = ((renTs pre (renTs pre nm a).1 b).1,(renTs pre nm a).2++(renTs pre (renTs pre nm a).1 b).2)
 | [],b,nm=>rfl
 | x :: a,b,nm=>by simp only [List.cons_append,renTs,renTs_append pre a b]
theorem renTs_len (pre:Str):∀ (a:List Term) (nm:NM),(renTs pre nm a).2.length = a.length
 | [],nm=>rfl
 | x :: a,nm=>by simp only [renTs,List.length_cons,renTs_len pre a]
theorem renT_size (pre:Str) (t:Term):∀ nm:NM,(renT pre nm t).1.length≤nm.length+size t:=by
 induction t using term_ind with
 | h t ih =>
 intro nm
 have hst:=size_args t
 rw [renT_eq]
 split
 ·have:=nameF_len pre nm t.name;simp only;omega
 ·have key:∀ (l:List Term) (nm:NM),(∀ a∈l,a∈t.args)→(renTs pre nm l).1.length≤nm.length+sizes l:=by
   intro l
   induction l with
   | nil=>intro nm _;simp [renTs,sizes]
   | cons a l ihl =>
    intro nm hl
    have h1:=ih a (hl a (by simp)) nm
    have h2:=ihl (renT pre nm a).1 fun b hb=>hl b (by simp [hb])
    simp only [renTs,sizes]
    omega
  have:=key t.args nm fun _ h=>h
  simp only;omega
theorem term_Renamed_s {g:Nat} {pre:Str} (hg:∀ (nm:NM) (v:Str),nm.length < 2^40→Spec prog g [.str v,.ptr 1 0] (nH nm) fun x H'=>x = .str (nameF pre nm v).2∧H' = nH (nameF pre nm v).1) (t:Term) :
  ∀ nm:NM,nm.length+size t < 2^40→Spec prog n_term_Renamed [encT t,.fn (.func g) [] [.ptr 1 0]] (nH nm) fun x H'=>x = encT (renT pre nm t).2∧H' = nH (renT pre nm t).1:=by
 induction t using term_ind with
 | h t ih =>
 intro nm hl
 have hst:=size_args t
 have hla:=length_le_sizes t.args
 have p1:pos? [0,1] 1 = some 1:=rfl
 have c1:clip 2 1 = some 1:=rfl
 refine spec_of_run mixed term_Renamed.ok rfl ?_
 rw [renT_eq]
 cases hv:t.var with
 | true =>
  rw [if_pos rfl]
  push_cast [hv]
  refine callG_n (by push_cast [p1]) (specF_func ▸ hg nm t.name (by omega)) ?_
  push_cast
  exact ends_keep (H:=nH (nameF pre nm t.name).1) (J:=[_]) (shut_n _) rfl ⟨by push_cast;rfl,rfl⟩
 | false =>
  rw [if_neg (by simp)]
  push_cast [hv]
  refine loop_up (n:=t.args.length) (R:=fun k=>term_Renamed.L3 (.fn (.func g) [] [.ptr 1 0]) (.ptr 2 0) (.ptr 3 0) (encTs t.args) (.int .i64 t.args.length) (.int .i64 k) 2
   (nHl (renTs pre nm (t.args.take k)).1 [.cells t_Term [.str [],.bool false,.sl 3 []],.cells t_Term [.str t.name,.bool false,ownL cT 4 3 (renTs pre nm (t.args.take k)).2],.arr t_Term 3 k]) _) ?_ ?_ 0 (by omega)
  ·intro k hk ih2
   have hme:=getD_mem hk
   have hlt:(renTs pre nm (t.args.take k)).2.length = k:=by rw [renTs_len];simp;omega
   have hsz:=size_mem hme
   have hpre:(renTs pre nm (t.args.take k)).1.length+size (t.args.getD k default) < 2^40:=by
    have key:∀ (l:List Term) (nm:NM),(renTs pre nm l).1.length≤nm.length+sizes l:=by
     intro l
     induction l with
     | nil=>intro nm;simp [renTs,sizes]
     | cons a l ihl =>
      intro nm
      have h1:=renT_size pre a nm
      have h2:=ihl (renT pre nm a).1
      simp only [renTs,sizes];omega
    have h1:=key (t.args.take k) nm
    have h2:sizes (t.args.take k)+size (t.args.getD k default)≤sizes t.args:=by
     have h3:sizes (t.args.take (k+1)) = sizes (t.args.take k)+size (t.args.getD k default):=by rw [take_succ_getD hk,sizes_append];simp [sizes]
     have h4:sizes t.args = sizes (t.args.take (k+1))+sizes (t.args.drop (k+1)):=by rw [← sizes_append,List.take_append_drop]
     omega
    omega
   have hc:=ih _ hme (renTs pre nm (t.args.take k)).1 hpre
   rw [take_succ_getD hk,renTs_append] at ih2
   simp only [renTs] at ih2
   generalize renTs pre nm (t.args.take k) = q at hlt hc ih2
   generalize renT pre q.1 (t.args.getD k default) = u at hc ih2
   refine term_Renamed.G3 ?_
   push_cast [ilt hk]
   refine ⟨⟨?_,?_⟩,?_⟩
   all_goals
    refine callG_n (J:=[_,_,_,_]) (by push_cast [p1]) hc ?_
    push_cast [hlt,room (show k < 2^40 by omega) (show 48≤64 by omega),w64 (show k < 2^62 by omega),c1]
    push_cast at ih2
    exact ih2
  ·refine term_Renamed.G3 ?_
   push_cast [inlt (Nat.le_refl _)]
   rw [List.take_length]
   refine ends_keep (H:=nH _) (J:=[_,_,_]) (shut_n _) rfl ⟨?_,rfl⟩
   push_cast [term_Renamed.rs]
   rw [encT,cT_eq];rfl
theorem term_Standard_s:Spec prog n_term_Standard [] [] fun x H'=>x = .fn (.func n_term_Standard_1) [] [.ptr 1 0]∧H' = nH []:=by
 refine spec_of_run mixed term_Standard.ok rfl ?_
 push_cast
 refine ends_ex (.inl rfl) [0,1] (by simp) (by simp) rfl ⟨?_,?_⟩
 ·have p1:pos? (List.range 0++[0,1]) 1 = some 1:=rfl
  push_cast [p1]
 ·exact give_n [] []
theorem term_Standard_1_s (nm:NM) (t:Term) (hl:nm.length+size t < 2^40):Spec prog n_term_Standard_1 [encT t,.ptr 1 0] (nH nm) fun x H'=>x = encT (renT [120] nm t).2∧H' = nH (renT [120] nm t).1:=by
 have hR:=term_Renamed_s (g:=n_term_Standard_1_1) (pre:=[120]) (fun nm v h=>term_Standard_11_s nm v (by omega)) t nm hl
 have p1:pos? [0,1] 1 = some 1:=rfl
 refine spec_of_run mixed term_Standard_1.ok rfl ?_
 push_cast
 refine callG_n (J:=[_]) (by push_cast [p1]) hR ?_
 push_cast
 exact ends_keep (H:=nH (renT [120] nm t).1) (J:=[_]) (shut_n _) rfl ⟨by push_cast,rfl⟩
def renR (pre:Str) (x:ARule):ARule:=⟨(renT pre [] x.left).2,(renT pre (renT pre [] x.left).1 x.right).2⟩
theorem overlap_inner_s (x:ARule) (hl:size x.left+size x.right < 2^39):PF n_overlap_inner [encR x] (encR (renR [121] x)):=by
 have hL:=term_Renamed_s (g:=n_overlap_inner_1) (pre:=[121]) overlap_inner_1_s x.left [] (by simp;omega)
 have hR:=term_Renamed_s (g:=n_overlap_inner_1) (pre:=[121]) overlap_inner_1_s x.right (renT [121] [] x.left).1 (by have:=renT_size [121] x.left [];simp only [List.length_nil] at this;omega)
 have p1:pos? [0,1] 1 = some 1:=rfl
 refine pf_of overlap_inner.ok rfl ?_
 push_cast
 have q1:pos? [1,2] 2 = some 1:=rfl
 refine callG_np (vs:=[encT x.left,V.fn (Fn.func n_overlap_inner_1) [] [V.ptr 2 0]]) (nm:=[]) [.cells t_Rule [V.str [],V.bool false,V.sl 3 [],V.str [],V.bool false,V.sl 3 []]] [] (by push_cast [q1]) (specF_func ▸ hL) ?_
 push_cast
 refine callG_np (vs:=[encT x.right,V.fn (Fn.func n_overlap_inner_1) [] [V.ptr 2 0]]) [.cells t_Rule [V.str [],V.bool false,V.sl 3 [],V.str [],V.bool false,V.sl 3 []]] [_] (by push_cast [q1]) (specF_func ▸ hR) ?_
 push_cast
 refine pf_ret ?_
 push_cast [overlap_inner.rs,renR]
 rfl
end Go.Dw
end
section
namespace Go.Dw
mutual
def firstT (l:List Str):Term→List Str
 | .mk n v ar=>if v then (if n∈l then l else l++[n]) else firstTs l ar
def firstTs (l:List Str):List Term→List Str
 | []=>l
 | a :: ar=>firstTs (firstT l a) ar
end
theorem firstT_eq (l:List Str) (t:Term):firstT l t = if t.var then (if t.name∈l then l else l++[t.name]) else firstTs l t.args:=by cases t;simp only [firstT];rfl
theorem firstT_size (t:Term):∀ l:List Str,(firstT l t).length≤l.length+size t:=by
 induction t using term_ind with
 | h t ih =>
 intro l
 have hst:=size_args t
 rw [firstT_eq]
 split
 ·split
  ·omega
  ·simp;omega
 ·have key:∀ (ar:List Term) (l:List Str),(∀ a∈ar,a∈t.args)→(firstTs l ar).length≤l.length+sizes ar:=by
   intro ar
   induction ar with
   | nil=>intro l _;simp [firstTs,sizes]
   | cons a ar ihl =>
    intro l hl
    have h1:=ih a (hl a (by simp)) l
    have h2:=ihl (firstT l a) fun b hb=>hl b (by simp [hb])
    simp only [firstTs,sizes]
    omega
  have:=key t.args l fun _ h=>h
  omega
def sortedS (l:List Str):List Str:=l.foldl insS []
theorem mem_foldl_insS {v:Str}:∀ (l m:List Str),v∈l.foldl insS m ↔ v∈m ∨ v∈l
 | [],m=>by simp
 | x :: l,m=>by
  simp only [List.foldl_cons,mem_foldl_insS l,mem_insS,List.mem_cons]
  constructor
  ·rintro ((h | h) | h)
   ·exact .inl h
   ·exact .inr (.inl h)
   ·exact .inr (.inr h)
  ·rintro (h | h | h)
   ·exact .inl (.inl h)
   ·exact .inl (.inr h)
   ·exact .inr h
def renV (pre v:Str):Nat→List Str→List ABind
 | _,[]=>[]
 | i,x :: l=>(if x = v then [⟨v,varT (pre++dig i)⟩] else [])++renV pre v (i+1) l
def renB (l:List Str) (pre:Str):List ABind:=(sortedS l).flatMap fun v=>renV pre v 0 l
end Go.Dw
end
section
namespace Go.Dw
def posS:List Str→Str→Option Nat
 | [],_=>none
 | x :: l,v=>if x = v then some 0 else (posS l v).map (·+1)
theorem posS_none {l:List Str} {v:Str}:posS l v = none ↔ v ∉ l:=by
 induction l with
 | nil=>simp [posS]
 | cons x l ih =>
  simp only [posS]
  by_cases h:x = v
  ·simp [h]
  ·have h':v ≠ x:=fun e=>h e.symm
   rw [if_neg h];simp [ih,h']
theorem posS_app {l m:List Str} {v:Str} (h:v∈l):posS (l++m) v = posS l v:=by
 induction l with
 | nil=>cases h
 | cons x l ih =>
  simp only [List.cons_append,posS]
  by_cases e:x = v
  ·rw [if_pos e,if_pos e]
  ·rw [if_neg e,if_neg e]
   rcases List.mem_cons.1 h with h | h
   ·exact absurd h.symm e
   ·rw [ih h]
theorem posS_snoc {l:List Str} {v:Str} (h:v ∉ l):posS (l++[v]) v = some l.length:=by
 induction l with
 | nil=>simp [posS]
 | cons x l ih =>
  simp only [List.mem_cons,not_or] at h
  simp only [List.cons_append,posS]
  rw [if_neg (fun e=>h.1 e.symm),ih h.2];rfl
def nmAt (pre:Str):Nat→List Str→NM
 | _,[]=>[]
 | i,v :: l=>(v,pre++dig i) :: nmAt pre (i+1) l
abbrev nmOf (pre:Str) (l:List Str):NM:=nmAt pre 0 l
theorem nmAt_len (pre:Str):∀ (l:List Str) (i:Nat),(nmAt pre i l).length = l.length
 | [],_=>rfl
 | v :: l,i=>by simp [nmAt,nmAt_len pre l]
theorem getK_nmAt (pre:Str) (v:Str):∀ (l:List Str) (i:Nat),getK (nmAt pre i l) v = (posS l v).map fun j=>pre++dig (i+j)
 | [],i=>rfl
 | x :: l,i=>by
  simp only [nmAt,getK,posS]
  by_cases h:x = v
  ·rw [if_pos h,if_pos h];rfl
  ·rw [if_neg h,if_neg h,getK_nmAt pre v l (i+1)]
   cases posS l v with
   | none=>rfl
   | some j=>simp only [Option.map_some];rw [show i+1+j = i+(j+1) by omega]
theorem nmAt_snoc (pre:Str) (v:Str):∀ (l:List Str) (i:Nat),nmAt pre i (l++[v]) = nmAt pre i l++[(v,pre++dig (i+l.length))]
 | [],i=>rfl
 | x :: l,i=>by
  simp only [List.cons_append,nmAt,nmAt_snoc pre v l (i+1),List.length_cons]
  rw [show i+1+l.length = i+(l.length+1) by omega]
def rho (pre:Str) (l:List Str):Sub:=fun v=>varT (match posS l v with | some j=>pre++dig j | none=>v)
theorem nameF_nm {pre:Str} (hp:pre ≠ []) (l:List Str) (v:Str):nameF pre (nmOf pre l) v = (nmOf pre (if v∈l then l else l++[v]),(match posS (if v∈l then l else l++[v]) v with | some j=>pre++dig j | none=>v)):=by
 unfold nameF
 rw [getK_nmAt]
 by_cases h:v∈l
 ·rw [if_pos h]
  cases hq:posS l v with
  | none=>exact absurd h (posS_none.1 hq)
  | some j =>
   have hne:pre++dig (0+j) ≠ []:=fun e=>hp (List.append_eq_nil_iff.1 e).1
   simp only [Option.map_some,Option.getD_some]
   rw [if_neg hne,Nat.zero_add]
 ·rw [if_neg h]
  have hq:=posS_none.2 h
  rw [hq]
  simp only [Option.map_none,Option.getD_none,if_true]
  rw [posS_snoc h]
  have hk:getK (nmOf pre l) v = none:=by rw [getK_nmAt,hq];rfl
  rw [setK_new hk,nmAt_len]
  have e:nmOf pre (l++[v]) = nmOf pre l++[(v,pre++dig l.length)]:=by
   have e:=nmAt_snoc pre v l 0
   rw [Nat.zero_add] at e
   exact e
  rw [e]
def Stands (l:List Str) (t:Term):Prop:=∀ v,occ v t = true→v∈l
theorem firstT_pre (t:Term):∀ l:List Str,(∃ m,firstT l t = l++m)∧(vfl t = true→Stands (firstT l t) t):=by
 induction t using term_ind with
 | h t ih =>
 intro l
 rw [firstT_eq]
 cases hv:t.var with
 | true =>
  rw [if_pos rfl]
  refine ⟨?_,fun ht v ho=>?_⟩
  ·split
   ·exact ⟨[],by simp⟩
   ·exact ⟨_,rfl⟩
  ·have e:=(occ_var ht hv).1 ho
   subst e
   split
   ·assumption
   ·simp
 | false =>
  rw [if_neg (by simp)]
  have key:∀ (ar:List Term) (l:List Str),(∀ a∈ar,a∈t.args)→(∃ m,firstTs l ar = l++m)∧((∀ a∈ar,vfl a = true)→∀ a∈ar,Stands (firstTs l ar) a):=by
   intro ar
   induction ar with
   | nil=>intro l _;exact ⟨⟨[],by simp [firstTs]⟩,by simp⟩
   | cons a ar ihl =>
    intro l hl
    obtain ⟨⟨m1,h1⟩,h2⟩:=ih a (hl a (by simp)) l
    obtain ⟨⟨m2,h3⟩,h4⟩:=ihl (firstT l a) fun b hb=>hl b (by simp [hb])
    simp only [firstTs]
    refine ⟨⟨m1++m2,by rw [h3,h1,List.append_assoc]⟩,fun hvf b hb=>?_⟩
    rcases List.mem_cons.1 hb with rfl | hb
    ·intro v ho
     have:=h2 (hvf _ (by simp)) v ho
     rw [h3];exact List.mem_append_left _ this
    ·exact h4 (fun c hc=>hvf c (by simp [hc])) b hb
  obtain ⟨h1,h2⟩:=key t.args l fun _ h=>h
  refine ⟨h1,fun ht v ho=>?_⟩
  obtain ⟨a,ha,ho⟩:=(occ_fun hv).1 ho
  exact h2 (fun a ha=>vfl_arg ht ha) a ha v ho
theorem rho_app {pre:Str} {l m:List Str} {t:Term} (h:Stands l t):app (rho pre (l++m)) t = app (rho pre l) t :=
 app_congr t fun v hv=>by unfold rho;rw [posS_app (h v hv)]
theorem renT_first {pre:Str} (hp:pre ≠ []) (t:Term):∀ l:List Str,vfl t = true→renT pre (nmOf pre l) t = (nmOf pre (firstT l t),app (rho pre (firstT l t)) t):=by
 induction t using term_ind with
 | h t ih =>
 intro l ht
 rw [renT_eq,firstT_eq]
 cases hv:t.var with
 | true =>
  rw [if_pos rfl,if_pos rfl,nameF_nm hp,app_var hv];rfl
 | false =>
  rw [if_neg (by simp),if_neg (by simp),app_fun hv]
  have key:∀ (ar:List Term) (l:List Str),(∀ a∈ar,a∈t.args)→renTs pre (nmOf pre l) ar = (nmOf pre (firstTs l ar),ar.map (app (rho pre (firstTs l ar)))):=by
   intro ar
   induction ar with
   | nil=>intro l _;rfl
   | cons a ar ihl =>
    intro l hl
    have hvf:∀ b∈a :: ar,vfl b = true:=fun b hb=>vfl_arg ht (hl b hb)
    simp only [renTs,firstTs]
    rw [ih a (hl a (by simp)) l (hvf a (by simp))]
    simp only
    rw [ihl (firstT l a) fun b hb=>hl b (by simp [hb])]
    simp only [List.map_cons]
    have h1:=(firstT_pre a l).2 (hvf a (by simp))
    have h2:∃ m,firstTs (firstT l a) ar = firstT l a++m:=by
     clear ihl hvf h1
     have:∀ (ar:List Term) (l:List Str),∃ m,firstTs l ar = l++m:=by
      intro ar
      induction ar with
      | nil=>intro l;exact ⟨[],by simp [firstTs]⟩
      | cons b ar ihm =>
       intro l
       obtain ⟨m1,e1⟩:=(firstT_pre b l).1
       obtain ⟨m2,e2⟩:=ihm (firstT l b)
       exact ⟨m1++m2,by simp only [firstTs];rw [e2,e1,List.append_assoc]⟩
     exact this ar _
    obtain ⟨m,hm⟩:=h2
    rw [hm,rho_app h1]
  rw [key t.args l fun _ h=>h]
theorem image_app2 {a b:List ABind} {v:Str}:image (a++b) v = (image a v).or (image b v):=by
 induction a with
 | nil=>simp [image]
 | cons x a ih =>
  simp only [List.cons_append,image]
  split
  ·rfl
  ·exact ih
theorem image_renV_ne {pre u v:Str} (h:u ≠ v):∀ (l:List Str) (i:Nat),image (renV pre u i l) v = none
 | [],i=>rfl
 | x :: l,i=>by
  simp only [renV,image_app2]
  rw [image_renV_ne h l (i+1)]
  have h2:image (if x = u then [(⟨u,varT (pre++dig i)⟩:ABind)] else []) v = none:=by
   split
   ·simp only [image];rw [if_neg h]
   ·rfl
  rw [h2];rfl
theorem image_renV {pre v:Str}:∀ (l:List Str) (i:Nat),image (renV pre v i l) v = (posS l v).map fun j=>varT (pre++dig (i+j))
 | [],i=>rfl
 | x :: l,i=>by
  simp only [renV,image_app2,posS]
  by_cases h:x = v
  ·rw [if_pos h,if_pos h];simp [image]
  ·rw [if_neg h,if_neg h,image_renV l (i+1)]
   cases posS l v with
   | none=>rfl
   | some j=>simp only [image,Option.map_some,Option.none_or];rw [show i+1+j = i+(j+1) by omega]
theorem image_renB (l:List Str) (pre v:Str):image (renB l pre) v = (posS l v).map fun j=>varT (pre++dig j):=by
 unfold renB
 have key:∀ S:List Str,image (S.flatMap fun u=>renV pre u 0 l) v = if v∈S then (posS l v).map fun j=>varT (pre++dig j) else none:=by
  intro S
  induction S with
  | nil=>rfl
  | cons u S ih =>
   simp only [List.flatMap_cons,image_app2,ih]
   by_cases h:u = v
   ·subst h
    rw [image_renV]
    simp only [List.mem_cons,true_or,if_true,Nat.zero_add]
    cases posS l u with
    | none=>simp
    | some j=>rfl
   ·have h':v ≠ u:=fun e=>h e.symm
    rw [image_renV_ne h]
    simp [h']
 rw [key]
 by_cases h:v∈l
 ·have h2:v∈sortedS l:=(mem_foldl_insS l []).2 (.inr h)
  rw [if_pos h2]
 ·rw [posS_none.2 h];split <;> rfl
theorem inst_app (s:List ABind) (t:Term):inst s t = app (fun v=>(image s v).getD (varT v)) t:=by
 induction t using term_ind with
 | h t ih =>
 rw [app_eq]
 cases t with | mk n v l =>
 cases v with
 | true=>simp only [inst,Term.var,Term.name,if_true,varT]
 | false =>
  simp only [inst,Term.var,Term.name,Term.args,insts_map,Bool.false_eq_true,if_false]
  congr 1
  exact List.map_congr_left fun a ha=>ih a ha
theorem inst_renB (l:List Str) (pre:Str) (t:Term):inst (renB l pre) t = app (rho pre l) t:=by
 rw [inst_app]
 refine app_congr t fun v _=>?_
 rw [image_renB]
 unfold rho
 cases posS l v <;> rfl
def renQ (pre:Str) (x:ARule):ARule:=⟨app (rho pre (firstT [] x.left)) x.left,app (rho pre (firstT [] x.left)) x.right⟩
theorem firstT_stand {l:List Str} (t:Term):Stands l t→vfl t = true→firstT l t = l:=by
 induction t using term_ind generalizing l with
 | h t ih =>
 intro h ht
 rw [firstT_eq]
 cases hv:t.var with
 | true=>rw [if_pos rfl,if_pos (h _ ((occ_var ht hv).2 rfl))]
 | false =>
  rw [if_neg (by simp)]
  have key:∀ (ar:List Term),(∀ a∈ar,a∈t.args)→firstTs l ar = l:=by
   intro ar
   induction ar with
   | nil=>intro _;rfl
   | cons a ar ihl =>
    intro hl
    simp only [firstTs]
    rw [ih a (hl a (by simp)) (fun v hv'=>h v ((occ_fun hv).2 ⟨a,hl a (by simp),hv'⟩)) (vfl_arg ht (hl a (by simp)))]
    exact ihl fun b hb=>hl b (by simp [hb])
  exact key t.args fun _ h=>h
theorem renR_renQ {pre:Str} (hp:pre ≠ []) {x:ARule} (hl:vfl x.left = true) (hr:vfl x.right = true) (hx:∀ v,occ v x.right = true→occ v x.left = true):renR pre x = renQ pre x:=by
 unfold renR renQ
 have e1:=renT_first hp x.left [] hl
 have e0:nmOf pre [] = []:=rfl
 rw [e0] at e1
 rw [e1]
 simp only
 rw [renT_first hp x.right _ hr]
 have hs:Stands (firstT [] x.left) x.right:=fun v hv=>(firstT_pre x.left []).2 hl v (hx v hv)
 rw [firstT_stand x.right hs hr]
end Go.Dw
end
section
namespace Go.Dw
theorem inst_smallw {s:List ABind} {t:Term} (ht:tb t < 2^24) (hs:bbs s < 2^34):size (inst s t)≤2^60:=by
 have h1:=inst_size s t
 have h2:=size_le_tb t
 have:size t * (1+bbs s)≤2^24 * 2^35:=Nat.mul_le_mul (by omega) (by omega)
 omega
theorem term_measure_sw (s:List ABind) (hs:Sorted s) (hb:bbs s < 2^34) (t:Term) (ht:tb t < 2^24):PF n_term_measure [encBs s,encT t] (.agg [.int .i64 (size (inst s t)),.int .i64 (depth (inst s t))]):=by
 have hl:=length_le_bbs s
 induction t using term_ind with
 | h t ih =>
 have hI:=term_Image_s s t.name hs (by omega)
 have htb:=tb_args t
 have hlt:=length_le_tbs t.args
 have hsm:=inst_smallw ht hb
 refine pf_of term_measure.ok rfl ?_
 cases hv:t.var with
 | true =>
  push_cast [hv]
  refine .of hI ?_
  rw [inst_eq,hv]
  cases hx:image s t.name with
  | some x =>
   have h1:=image_size hx
   have h2:=size_le_tb x
   push_cast [encOT]
   refine .of (term_Size_s x (by omega)) ?_
   push_cast
   refine .of (term_Depth_s x (by omega)) ?_
   push_cast
   refine pf_ret ?_
   push_cast [term_measure.rs]
   exact ⟨rfl,rfl⟩
  | none =>
   push_cast [encOT]
   refine pf_ret ?_
   push_cast [term_measure.rs]
   exact ⟨rfl,rfl⟩
 | false =>
  have he:inst s t = .mk t.name false (t.args.map (inst s)):=by rw [inst_eq,hv];rfl
  rw [he] at hsm
  rw [he]
  simp only [size] at hsm
  have hd:=depths_le_sizes (t.args.map (inst s))
  push_cast [hv]
  refine loop_up (n:=t.args.length) (R:=fun k=>term_measure.L3 (encBs s) (.ptr 0 0) (.ptr 1 0) (encTs t.args) (.int .i64 t.args.length) (.int .i64 k) 0
   [.cells t_term_meter [.int .i64 0,.int .i64 0],.cells t_term_meter [.int .i64 (1+sizes ((t.args.take k).map (inst s)):Nat),.int .i64 (depths ((t.args.take k).map (inst s)):Nat)]] _) ?_ ?_ 0 (by omega)
  ·intro k hk ih2
   have hm:=getD_mem hk
   have hs1:sizes ((t.args.take (k+1)).map (inst s)) = sizes ((t.args.take k).map (inst s))+size (inst s (t.args.getD k default)):=by
    rw [take_succ_getD hk,List.map_append,sizes_append];simp [sizes]
   have hd1:depths ((t.args.take (k+1)).map (inst s)) = max (depths ((t.args.take k).map (inst s))) (depth (inst s (t.args.getD k default))):=by
    rw [take_succ_getD hk,List.map_append,depths_append];simp [depths]
   have hle:sizes ((t.args.take (k+1)).map (inst s))≤sizes (t.args.map (inst s)):=by
    rw [List.map_take];exact sizes_take_le _ _
   have htm:=tb_mem hm
   rw [hs1,hd1] at ih2
   refine term_measure.G3 ?_
   push_cast [ilt hk]
   refine .of (ih _ hm (by omega)) ?_
   push_cast [w64 (show k < 2^62 by omega)]
   rw [wrap64 (by omega) (by omega),Int.add_assoc]
   push_cast at ih2
   exact ih2
  ·refine term_measure.G3 ?_
   push_cast [inlt (Nat.le_refl _)]
   refine pf_ret ?_
   rw [wrap64 (by rw [List.take_length];omega) (by rw [List.take_length];omega)]
   push_cast [term_measure.rs,size,depth,List.take_length]
theorem term_Instance_sw (s:List ABind) (hs:Sorted s) (hb:bbs s < 2^34) (t:Term) (ht:tb t < 2^24):PF n_term_Instance [encBs s,encT t] (if fits (inst s t) then encTE (some (inst s t)) 0 else encTE none 3):=by
 rw [← inst_none]
 refine pf_of term_Instance.ok rfl ?_
 push_cast
 refine .of (term_measure_sw s hs hb t ht) ?_
 by_cases h1:4000 < size (inst s t)
 ·have h1':((4000:Int) < (size (inst s t):Int)) = True:=eq_true (by omega)
  push_cast [h1']
  refine pf_ret ?_
  push_cast [term_Instance.rs]
  rw [if_pos (.inl h1)];rfl
 ·have h1':((4000:Int) < (size (inst s t):Int)) = False:=eq_false (by omega)
  by_cases h2:200 < depth (inst s t)
  ·have h2':((200:Int) < (depth (inst s t):Int)) = True:=eq_true (by omega)
   push_cast [h1',h2']
   refine pf_ret ?_
   push_cast [term_Instance.rs]
   rw [if_pos (.inr h2)];rfl
  ·have h2':((200:Int) < (depth (inst s t):Int)) = False:=eq_false (by omega)
   push_cast [h1',h2']
   refine .of (term_replace_s s hs (by omega) t (by omega)) ?_
   push_cast
   refine pf_ret ?_
   push_cast [term_Instance.rs]
   rw [if_neg (by omega)];rfl
end Go.Dw
end
section
namespace Go.Dw
abbrev encU:Unit→V:=fun _=>.bool true
abbrev TM:=List (Str × Term)
abbrev DM:=List (Key × Unit)
abbrev SM:=List (Str × Unit)
abbrev uHl (m:TM) (d:DM) (l:List Ob):List Ob:=.map (encS encT m) :: .map (encQ encU d) :: .cells t_unify_unifier [.map 0,.map 1] :: l
abbrev uH (m:TM) (d:DM):List Ob:=uHl m d []
theorem ren_encST {σ:Nat→Option Nat} (m:TM):((encS encT m).map fun p=>(ren σ p.1,ren σ p.2)) = encS encT m:=ren_encS (fun x=>ren_encT x) m
theorem ren_encSU {σ:Nat→Option Nat} (m:SM):((encS encU m).map fun p=>(ren σ p.1,ren σ p.2)) = encS encU m:=ren_encS (fun x=>rfl) m
theorem ren_encQU {σ:Nat→Option Nat} (m:DM):((encQ encU m).map fun p=>(ren σ p.1,ren σ p.2)) = encQ encU m:=ren_encQ (fun x=>rfl) m
attribute [push_cast] ren_encST ren_encSU ren_encQU
theorem shut_u (m:TM) (d:DM):Shut 3 (uH m d):=⟨rfl,by
 show [renOb (clip 3) (.map (encS encT m)),renOb (clip 3) (.map (encQ encU d)),renOb (clip 3) (.cells t_unify_unifier [.map 0,.map 1])] = _
 have h0:clip 3 0 = some 0:=rfl
 have h1:clip 3 1 = some 1:=rfl
 push_cast [h0,h1]⟩
section
variable {s:List ABind} {m:TM} (d:DM) (hm:∀ v,getK m v = image s v)
include hm
theorem lk_some {v:Str} {x:Term} (h:image s v = some x):∀ l,lookV (.map (encS encT m) :: l) true true (.agg [.str [],.bool false,.sl 3 []]) (.map 0) (.str v) = some (.tup [encT x,.bool true]):=fun l=>by
 have:=look_encS encT m v true (.agg [.str [],.bool false,.sl 3 []]) (H:=.map (encS encT m) :: l) (i:=0) rfl
 rw [hm,h] at this;exact this
theorem lk_none {v:Str} (h:image s v = none):∀ l,lookV (.map (encS encT m) :: l) true true (.agg [.str [],.bool false,.sl 3 []]) (.map 0) (.str v) = some (.tup [.agg [.str [],.bool false,.sl 3 []],.bool false]):=fun l=>by
 have:=look_encS encT m v true (.agg [.str [],.bool false,.sl 3 []]) (H:=.map (encS encT m) :: l) (i:=0) rfl
 rw [hm,h] at this;exact this
theorem unify_head_s (n:Nat) (t h:Term) (hh:headN n s t = some h):Spec prog n_unify_unifier_head [.ptr 2 0,encT t] (uH m d) fun x H'=>x = encT h∧H' = uH m d:=by
 refine spec_of_run mixed unify_unifier_head.ok rfl ?_
 have key:∀ (n:Nat) (t:Term),headN n s t = some h→unify_unifier_head.L3 (.ptr 2 0) (.ptr 3 0) (.ptr 4 0) 3 (uHl m d [.cells t_Term (cT t),.cells t_Term [.str [],.bool false,.sl 3 []]]) (Ends 3 unify_unifier_head.rs fun x' H'=>x' = encT h∧H' = uH m d):=by
  intro n
  induction n with
  | zero=>intro t h;cases h
  | succ n ih =>
   intro t ht
   simp only [headN] at ht
   refine unify_unifier_head.G3 ?_
   cases hv:t.var with
   | false =>
    rw [if_neg (by simp [hv])] at ht
    cases ht
    push_cast [hv]
    exact ends_keep (H:=uH m d) (J:=[_,_]) (shut_u m d) rfl ⟨by push_cast,rfl⟩
   | true =>
    rw [if_pos hv] at ht
    cases hi:image s t.name with
    | none =>
     rw [hi] at ht
     cases ht
     push_cast [hv,lk_none hm hi]
     exact ends_keep (H:=uH m d) (J:=[_,_,_]) (shut_u m d) rfl ⟨by push_cast,rfl⟩
    | some x =>
     rw [hi] at ht
     push_cast [hv,lk_some hm hi]
     exact ih x ht
 push_cast
 exact key n t hh
def occF (s:List ABind) (v:Str):Nat→SM→Term→SM × Bool
 | 0,σ,_=>(σ,false)
 | n+1,σ,t=>if t.var then (if t.name = v then (σ,true) else match image s t.name with
   | none=>(σ,false)
   | some x=>if (getK σ t.name).isSome then (σ,false) else occF s v n (setK σ t.name ()) x)
  else stF (occF s v n) σ t.args
abbrev oH (m:TM) (d:DM) (σ:SM):List Ob:=uHl m d [.map (encS encU σ)]
abbrev oJ (m:TM) (d:DM) (σ:SM):List Ob:=uHl m d [.map (encS encU σ),.cells t_p_unify_unifier [.ptr 2 0],.cells t_m_string_bool [.map 3]]
omit hm in
theorem shut_o (m:TM) (d:DM) (σ:SM):Shut 4 (oH m d σ):=⟨rfl,by
 show [renOb (clip 4) (.map (encS encT m)),renOb (clip 4) (.map (encQ encU d)),renOb (clip 4) (.cells t_unify_unifier [.map 0,.map 1]),renOb (clip 4) (.map (encS encU σ))] = _
 have h0:clip 4 0 = some 0:=rfl
 have h1:clip 4 1 = some 1:=rfl
 push_cast [h0,h1]⟩
omit hm in
theorem give_o (m:TM) (d:DM) (σ:SM) (J:List Ob):give [0,1,2,3] (uHl m d (.map (encS encU σ) :: J)) = oH m d σ:=by
 show [renOb (pos? [0,1,2,3]) (.map (encS encT m)),renOb (pos? [0,1,2,3]) (.map (encQ encU d)),renOb (pos? [0,1,2,3]) (.cells t_unify_unifier [.map 0,.map 1]),renOb (pos? [0,1,2,3]) (.map (encS encU σ))] = _
 have h0:pos? [0,1,2,3] 0 = some 0:=rfl
 have h1:pos? [0,1,2,3] 1 = some 1:=rfl
 push_cast [h0,h1]
omit hm in
theorem take_o (m:TM) (d:DM) (σ σ':SM) (a b:Ob):takeB [0,1,2,3] (uHl m d [.map (encS encU σ),a,b]) (oH m d σ') = uHl m d [.map (encS encU σ'),a,b]:=by
 show [renOb (back [0,1,2,3] 6) (.map (encS encT m)),renOb (back [0,1,2,3] 6) (.map (encQ encU d)),renOb (back [0,1,2,3] 6) (.cells t_unify_unifier [.map 0,.map 1]),renOb (back [0,1,2,3] 6) (.map (encS encU σ')),a,b] = _
 have h0:back [0,1,2,3] 6 0 = some 0:=rfl
 have h1:back [0,1,2,3] 6 1 = some 1:=rfl
 push_cast [h0,h1]
omit hm in
section
variable {N:Nat→C} {B:Nat} {k:List K} {t:T} {Q:X→T→List Ob→Prop} {dd:Option Nat} {l:List S} {f:Nat} {v:Str} {z:Term} {b:Bool} {σ σ':SM} {m:TM} {d:DM} {a c:Ob}
theorem callG_o (h:Spec prog f [.ptr 2 0,.str v,encT z,.map 3] (oH m d σ) fun x' H'=>x' = .bool b∧H' = oH m d σ') (k':Run prog N B (.r l :: k) (setO dd (.bool b) t) (uHl m d [.map (encS encU σ'),a,c]) Q):CallG prog N B dd l k t Q (.func f) [.ptr 2 0,.str v,encT z,.map 3] (uHl m d [.map (encS encU σ),a,c]):=by
 have h2:pos? [0,1,2,3] 2 = some 2:=rfl
 have h3:pos? [0,1,2,3] 3 = some 3:=rfl
 refine CallG.some [0,1,2,3] (by simp) (by simp) (R:=fun x' H'=>x' = .bool b∧H' = oH m d σ') (by rw [give_o];push_cast [h2,h3];exact h) ?_
 rintro x' H' ⟨rfl,rfl⟩ _
 rw [take_o];exact k'
end
omit hm in
theorem take_o3 (m:TM) (d:DM) (σ σ':SM) (a b c:Ob):takeB [0,1,2,3] (uHl m d [.map (encS encU σ),a,b,c]) (oH m d σ') = uHl m d [.map (encS encU σ'),a,b,c]:=by
 show [renOb (back [0,1,2,3] 7) (.map (encS encT m)),renOb (back [0,1,2,3] 7) (.map (encQ encU d)),renOb (back [0,1,2,3] 7) (.cells t_unify_unifier [.map 0,.map 1]),renOb (back [0,1,2,3] 7) (.map (encS encU σ')),a,b,c] = _
 have h0:back [0,1,2,3] 7 0 = some 0:=rfl
 have h1:back [0,1,2,3] 7 1 = some 1:=rfl
 push_cast [h0,h1]
omit hm in
section
variable {N:Nat→C} {B:Nat} {k:List K} {t:T} {Q:X→T→List Ob→Prop} {dd:Option Nat} {l:List S} {f:Nat} {v:Str} {z:Term} {b:Bool} {σ σ':SM} {m:TM} {d:DM} {a c e:Ob}
theorem callG_o3 (h:Spec prog f [.ptr 2 0,.str v,encT z,.map 3] (oH m d σ) fun x' H'=>x' = .bool b∧H' = oH m d σ') (k':Run prog N B (.r l :: k) (setO dd (.bool b) t) (uHl m d [.map (encS encU σ'),a,c,e]) Q):CallG prog N B dd l k t Q (.func f) [.ptr 2 0,.str v,encT z,.map 3] (uHl m d [.map (encS encU σ),a,c,e]):=by
 have h2:pos? [0,1,2,3] 2 = some 2:=rfl
 have h3:pos? [0,1,2,3] 3 = some 3:=rfl
 refine CallG.some [0,1,2,3] (by simp) (by simp) (R:=fun x' H'=>x' = .bool b∧H' = oH m d σ') (by rw [give_o];push_cast [h2,h3];exact h) ?_
 rintro x' H' ⟨rfl,rfl⟩ _
 rw [take_o3];exact k'
end
omit hm in
theorem unify_occurs_1_s {m:TM} {d:DM} {σ σ':SM} {v:Str} {a:Term} {b:Bool} (h:Spec prog n_unify_unifier_occurs [.ptr 2 0,.str v,encT a,.map 3] (oH m d σ) fun x H'=>x = .bool b∧H' = oH m d σ') :
  Spec prog n_unify_unifier_occurs_1 [encT a,.ptr 4 0,.ro [.str v] 0,.ptr 5 0] (oJ m d σ) fun x H'=>x = .bool b∧H' = oJ m d σ':=by
 refine spec_of_run mixed unify_unifier_occurs_1.ok rfl ?_
 push_cast
 refine callG_o h ?_
 push_cast
 exact ends_all (.inl rfl) rfl ⟨rfl,rfl⟩
theorem unify_occurs_s (hw:∀ v x,image s v = some x→wide x < 2^40) (v:Str):∀ (n:Nat) (t:Term) (σ:SM),Need s n t→wide t < 2^40→Spec prog n_unify_unifier_occurs [.ptr 2 0,.str v,encT t,.map 3] (oH m d σ) fun x H'=>x = .bool (occF s v n σ t).2∧H' = oH m d (occF s v n σ t).1:=by
 intro n
 induction n with
 | zero=>intro t σ h;exact h.elim
 | succ n ih =>
  intro t σ hn ht
  simp only [Need] at hn
  refine spec_of_run mixed unify_unifier_occurs.ok rfl ?_
  unfold occF
  cases hv:t.var with
  | true =>
   rw [if_pos rfl]
   rw [if_pos hv] at hn
   by_cases hz:t.name = v
   ·rw [if_pos hz]
    push_cast [hv,hz]
    exact ends_keep (H:=oH m d σ) (J:=[_,_]) (shut_o m d σ) rfl ⟨rfl,rfl⟩
   ·rw [if_neg hz]
    have hz2:(t.name == v) = false:=by simpa using hz
    cases hi:image s t.name with
    | none =>
     push_cast [hv,hz,hz2,lk_none hm hi]
     exact ends_keep (H:=oH m d σ) (J:=[_,_,_]) (shut_o m d σ) rfl ⟨rfl,rfl⟩
    | some x =>
     have hlk:∀ l,_:=fun l=>look_encS encU σ t.name false (.bool false) (H:=uHl m d (.map (encS encU σ) :: l)) (i:=3) rfl
     have hup:=upd_encS encU σ t.name ()
     have hok:=ih x (setK σ t.name ()) (hn x hi) (hw _ _ hi)
     cases hg:getK σ t.name with
     | some u =>
      rw [hg] at hlk
      simp only [Option.map_some,Option.getD_some] at hlk
      push_cast [hv,hz,hz2,lk_some hm hi,hlk]
      exact ends_keep (H:=oH m d σ) (J:=[_,_,_]) (shut_o m d σ) rfl ⟨rfl,rfl⟩
     | none =>
      rw [hg] at hlk
      simp only [Option.map_none,Option.getD_none] at hlk
      push_cast [hv,hz,hz2,lk_some hm hi,hlk,hup]
      refine ⟨rfl,callG_o3 hok ?_⟩
      push_cast
      exact ends_keep (H:=oH m d (occF s v n (setK σ t.name ()) x).1) (J:=[_,_,_]) (shut_o m d _) rfl ⟨rfl,rfl⟩
  | false =>
   rw [if_neg (by simp)]
   rw [if_neg (by simp [hv])] at hn
   push_cast [hv]
   have hwa:=wide_args t
   have hC:=ContainsFunc_st (F:=occF s v n) (Hs:=oJ m d) (Inv:=fun _=>True) (g:=n_unify_unifier_occurs_1) (n:=6) (caps:=[.ptr 4 0,.ro [.str v] 0,.ptr 5 0]) (fun _=>rfl) rfl
    (fun σ=>by
     show [renOb (clip 6) (.map (encS encT m)),renOb (clip 6) (.map (encQ encU d)),renOb (clip 6) (.cells t_unify_unifier [.map 0,.map 1]),renOb (clip 6) (.map (encS encU σ)),renOb (clip 6) (.cells t_p_unify_unifier [.ptr 2 0]),renOb (clip 6) (.cells t_m_string_bool [.map 3])] = _
     have h0:clip 6 0 = some 0:=rfl
     have h1:clip 6 1 = some 1:=rfl
     have h2:clip 6 2 = some 2:=rfl
     have h3:clip 6 3 = some 3:=rfl
     push_cast [h0,h1,h2,h3])
    t.args (by omega) (fun a ha σ _=>unify_occurs_1_s (ih a σ (hn a ha) (by have:=wide_mem ha;omega))) (fun _ _ _ _ _=>trivial) σ trivial
   refine CallG.all (R:=fun x H'=>x = .bool (stF (occF s v n) σ t.args).2∧H' = oJ m d (stF (occF s v n) σ t.args).1) hC ?_
   rintro x H' ⟨rfl,rfl⟩
   push_cast
   exact ends_keep (H:=oH m d _) (J:=[_,_]) (shut_o m d _) rfl ⟨rfl,rfl⟩
omit hm in
theorem stF_true {F:SM→Term→SM × Bool}:∀ (l:List Term) (σ:SM),(stF F σ l).2 = true→∃ a∈l,∃ σ',(F σ' a).2 = true
 | [],σ,h=>by cases h
 | a :: l,σ,h=>by
  unfold stF at h
  by_cases h1:(F σ a).2 = true
  ·exact ⟨a,by simp,σ,h1⟩
  ·rw [if_neg h1] at h
   obtain ⟨b,hb,h2⟩:=stF_true l _ h
   exact ⟨b,by simp [hb],h2⟩
omit hm in
theorem occF_true {v:Str}:∀ (n:Nat) (σ:SM) (t:Term),(occF s v n σ t).2 = true→Occ s v t
 | 0,σ,t,h=>by cases h
 | n+1,σ,t,h=>by
  unfold occF at h
  cases hv:t.var with
  | true =>
   rw [if_pos hv] at h
   by_cases hz:t.name = v
   ·exact .here hv hz
   ·rw [if_neg hz] at h
    cases hi:image s t.name with
    | none=>rw [hi] at h;cases h
    | some x =>
     rw [hi] at h
     simp only at h
     split at h
     ·cases h
     ·exact .bound hv hi (occF_true n _ x h)
  | false =>
   rw [if_neg (by simp [hv])] at h
   obtain ⟨a,ha,σ',h1⟩:=stF_true _ _ h
   exact .arg hv ha (occF_true n σ' a h1)
omit hm in
theorem stF_false {F:SM→Term→SM × Bool} {P:Term→Prop} {Q:SM→Prop}:∀ (l:List Term) (σ:SM),Q σ→(∀ a∈l,∀ σ,Q σ→(F σ a).2 = false→P a∧Q (F σ a).1)→(stF F σ l).2 = false→(∀ a∈l,P a)∧Q (stF F σ l).1
 | [],σ,hq,_,h=>⟨by simp,hq⟩
 | a :: l,σ,hq,hs,h=>by
  unfold stF at h ⊢
  by_cases h1:(F σ a).2 = true
  ·rw [if_pos h1] at h;cases h
  ·rw [if_neg h1] at h ⊢
   obtain ⟨h2,h3⟩:=hs a (by simp) σ hq (by simpa using h1)
   obtain ⟨h4,h5⟩:=stF_false l _ h3 (fun b hb=>hs b (by simp [hb])) h
   exact ⟨fun b hb=>by rcases List.mem_cons.1 hb with rfl | hb;exact h2;exact h4 b hb,h5⟩
omit hm in
theorem not_occ_var {v w:Str} {x:Term} (hw:w ≠ v) (hi:image s w = some x) (h:¬ Occ s v x):¬ Occ s v (varT w):=by
 intro ho
 cases ho with
 | here _ h2=>exact hw h2
 | bound _ h2 h3=>rw [show (varT w).name = w from rfl,hi] at h2;cases h2;exact h h3
 | arg h1 _ _=>cases h1
omit hm in
theorem occF_false {σ':Sub} {rk:Str→Nat} (hu:UOk s σ' rk) {v:Str}:∀ (n:Nat) (σ:SM) (t:Term) (R:Nat),Need s n t→vfl t = true→(∀ u,occ u t = true→rk u < R)→(∀ w,(getK σ w).isSome = true→¬ Occ s v (varT w) ∨ R≤rk w)→(occF s v n σ t).2 = false →
  ¬ Occ s v t∧∀ w,(getK (occF s v n σ t).1 w).isSome = true→(getK σ w).isSome = true ∨ ¬ Occ s v (varT w)
 | 0,σ,t,R,h,_,_,_,_=>h.elim
 | n+1,σ,t,R,hn,ht,hR,hσ,h=>by
  simp only [Need] at hn
  unfold occF at h ⊢
  cases hv:t.var with
  | true =>
   rw [if_pos hv] at h hn
   rw [if_pos rfl]
   have hocc:occ t.name t = true:=uocc_iff.2 (.inl ⟨hv,rfl⟩)
   have htv:=vfl_var ht hv
   by_cases hz:t.name = v
   ·rw [if_pos hz] at h;cases h
   ·rw [if_neg hz] at h ⊢
    cases hi:image s t.name with
    | none =>
     refine ⟨fun ho=>?_,fun w hw=>.inl hw⟩
     cases ho with
     | here _ h2=>exact hz h2
     | bound _ h2 _=>rw [hi] at h2;cases h2
     | arg h1 _ _=>rw [hv] at h1;cases h1
    | some x =>
     rw [hi] at h
     simp only at h ⊢
     by_cases hg:(getK σ t.name).isSome = true
     ·rw [if_pos hg]
      rcases hσ _ hg with h1 | h1
      ·exact ⟨by rw [htv];exact h1,fun w hw=>.inl hw⟩
      ·have:=hR _ hocc;omega
     ·rw [if_neg hg] at h ⊢
      obtain ⟨h1,h2⟩:=occF_false hu n (setK σ t.name ()) x (rk t.name) (hn x hi) (hu.vf _ _ hi) (hu.low _ _ hi) (fun w hw=>by
       rw [getK_setK] at hw
       by_cases e:t.name = w
       ·exact .inr (by rw [e];exact Nat.le_refl _)
       ·rw [if_neg e] at hw
        rcases hσ w hw with h3 | h3
        ·exact .inl h3
        ·exact .inr (by have:=hR _ hocc;omega)) h
      have h3:=not_occ_var hz hi h1
      refine ⟨by rw [htv];exact h3,fun w hw=>?_⟩
      rcases h2 w hw with h4 | h4
      ·rw [getK_setK] at h4
       by_cases e:t.name = w
       ·exact .inr (e ▸ h3)
       ·rw [if_neg e] at h4;exact .inl h4
      ·exact .inr h4
  | false =>
   rw [if_neg (by simp [hv])] at h hn
   rw [if_neg (by simp)]
   obtain ⟨h1,h2⟩:=stF_false (P:=fun a=>¬ Occ s v a) (Q:=fun τ=>∀ w,(getK τ w).isSome = true→(getK σ w).isSome = true ∨ ¬ Occ s v (varT w)) t.args σ (fun w hw=>.inl hw)
    (fun a ha τ hτ hf=>by
     obtain ⟨h3,h4⟩:=occF_false hu n τ a R (hn a ha) (vfl_arg ht ha) (fun u hu'=>hR u (uocc_iff.2 (.inr ⟨a,ha,hu'⟩))) (fun w hw=>by
      rcases hτ w hw with h5 | h5
      ·exact hσ w h5
      ·exact .inl h5) hf
     refine ⟨h3,fun w hw=>?_⟩
     rcases h4 w hw with h5 | h5
     ·exact hτ w h5
     ·exact .inr h5) h
   refine ⟨fun ho=>?_,h2⟩
   cases ho with
   | here h3 _=>rw [hv] at h3;cases h3
   | bound h3 _ _=>rw [hv] at h3;cases h3
   | arg _ h3 h4=>exact h1 _ h3 h4
omit hm in
theorem occF_eq {σ':Sub} {rk:Str→Nat} (hu:UOk s σ' rk) {v:Str} {n:Nat} {t:Term} (hn:Need s n t) (ht:vfl t = true):(occF s v n [] t).2 = true ↔ Occ s v t:=by
 constructor
 ·exact occF_true n [] t
 ·intro ho
  obtain ⟨M,hM⟩:=occ_most rk t
  cases h:(occF s v n [] t).2 with
  | true=>rfl
  | false=>exact absurd ho (occF_false hu n [] t (M+1) hn ht (fun u h=>by have:=hM u h;omega) (fun w hw=>by cases hw) h).1
theorem unify_set_s {σ':Sub} {rk:Str→Nat} (hu:UOk s σ' rk) (hw:∀ v x,image s v = some x→wide x < 2^40) (v:Str) (t:Term) (ht:vfl t = true) (hwt:wide t < 2^40) :
  Spec prog n_unify_unifier_set [.ptr 2 0,.str v,encT t] (uH m d) fun x H'=>x = .bool (setU s v t).2∧H' = uH (if (setU s v t).2 then setK m v t else m) d:=by
 obtain ⟨n,hn⟩:=hu.need t
 have hO:=unify_occurs_s d hm hw v n t [] hn hwt
 have hup:=upd_encS encT m v t
 refine spec_of_run mixed unify_unifier_set.ok rfl ?_
 push_cast
 refine CallG.all (R:=fun x H'=>x = .bool (occF s v n [] t).2∧H' = oH m d (occF s v n [] t).1) hO ?_
 rintro x H' ⟨rfl,rfl⟩
 have hq:=occF_eq hu (v:=v) hn ht
 rcases setU_cases s v t with ⟨ho,e⟩ | ⟨ho,e⟩
 ·rw [e]
  have hq:=hq.2 ho
  push_cast [hq]
  exact ends_keep (H:=uH m d) (J:=[_]) (shut_u m d) rfl ⟨rfl,rfl⟩
 ·rw [e]
  have hq:(occF s v n [] t).2 = false:=by
   cases h:(occF s v n [] t).2 with
   | true=>exact absurd (hq.1 h) ho
   | false=>rfl
  push_cast [hq,hup]
  exact ⟨rfl,ends_keep (H:=uH (setK m v t) d) (J:=[_]) (shut_u _ d) rfl ⟨rfl,rfl⟩⟩
end
end Go.Dw
end
section
namespace Go.Dw
theorem UOk.sat_comp {s:List ABind} {σ θ:Sub} {rk:Str→Nat} (h:UOk s σ rk) (hθ:Sat θ s):∀ v,θ v = app θ (σ v):=by
 refine h.ind fun v ih=>?_
 cases hi:image s v with
 | none=>rw [h.free v hi];exact (app_var (f:=θ) (t:=varT v) rfl).symm
 | some t =>
  rw [h.fix v t hi,hθ v t hi,app_app]
  exact app_congr t fun w hw=>ih t w hi hw
theorem UOk.sat_app {s:List ABind} {σ θ:Sub} {rk:Str→Nat} (h:UOk s σ rk) (hθ:Sat θ s) (t:Term):app θ t = app θ (app σ t):=by
 rw [app_app];exact app_congr t fun v _=>h.sat_comp hθ v
theorem map_eq_get {f:Term→Term} {l m:List Term} (h:l.map f = m.map f):l.length = m.length:=by simpa using congrArg List.length h
theorem solve_eq {s:List ABind} {σ:Sub} {rk:Str→Nat} (h:UOk s σ rk):∀ (n:Nat) (a b:Term) (r:List ABind × Bool),vfl a = true→vfl b = true→solveN n s a b = some r→app σ a = app σ b→r = (s,true)
 | 0,_,_,_,_,_,hr,_=>by cases hr
 | n+1,a,b,r,ha,hb,hr,he=>by
  obtain ⟨x,y,hx,hy,hc⟩:=solveN_succ hr
  have hxv:vfl x = true:=head_keep (P:=fun t=>vfl t = true) h.vf ha hx
  have hyv:vfl y = true:=head_keep (P:=fun t=>vfl t = true) h.vf hb hy
  rw [← head_sat h.sat hx,← head_sat h.sat hy] at he
  have hfx:x.var = true→app σ x = varT x.name:=fun c=>by rw [app_var c];exact h.free _ (head_free hx c)
  have hfy:y.var = true→app σ y = varT y.name:=fun c=>by rw [app_var c];exact h.free _ (head_free hy c)
  rcases hc with ⟨c1,c2,c3,rfl⟩ | ⟨c1,c2,rfl⟩ | ⟨c1,c2,rfl⟩ | ⟨c1,c2,c3,rfl⟩ | ⟨c1,c2,c3,c4,c5⟩
  ·rfl
  ·exfalso
   rw [hfx c1] at he
   cases hv:y.var with
   | true =>
    rw [hfy hv] at he
    injection he with e1 e2 e3
    exact c2 ⟨hv,e1⟩
   | false=>rw [app_fun hv] at he;injection he with e1 e2 e3;cases e2
  ·exfalso
   rw [hfy c2,app_fun c1] at he
   injection he with e1 e2 e3;cases e2
  ·exfalso
   rw [app_fun c1,app_fun c2] at he
   injection he with e1 e2 e3
   rcases c3 with c3 | c3
   ·exact c3 e1
   ·exact c3 (map_eq_get e3)
  ·rw [app_fun c1,app_fun c2] at he
   injection he with e1 e2 e3
   have key:∀ (l m:List Term),(∀ z∈l,vfl z = true)→(∀ z∈m,vfl z = true)→l.map (app σ) = m.map (app σ)→solvesW (solveN n) s l m = some r→r = (s,true):=by
    intro l
    induction l with
    | nil=>intro m _ _ _ h;simp only [solvesW,Option.some.injEq] at h;exact h.symm
    | cons a l ihl =>
     intro m hl hm he h
     cases m with
     | nil=>simp at he
     | cons b m =>
      simp only [List.map_cons,List.cons.injEq] at he
      simp only [solvesW] at h
      cases hf:solveN n s a b with
      | none=>rw [hf] at h;cases h
      | some p =>
       rw [hf] at h
       have e:=solve_eq ‹UOk s σ rk› n a b p (hl a (by simp)) (hm b (by simp)) hf he.1
       subst e
       exact ihl m (fun x hx=>hl x (by simp [hx])) (fun x hx=>hm x (by simp [hx])) he.2 h
   exact key x.args y.args (fun z hz=>vfl_arg hxv hz) (fun z hz=>vfl_arg hyv hz) e3 c5
theorem wide_arg {t a:Term} (h:wide t < 2^40) (ha:a∈t.args):wide a < 2^40:=by
 have:=wide_args t
 have:=wide_mem ha
 omega
def WB (s:List ABind):Prop:=∀ v x,image s v = some x→wide x < 2^40
theorem WB.solve {s:List ABind} (h:WB s) {n:Nat} {a b:Term} {r:List ABind × Bool} (ha:wide a < 2^40) (hb:wide b < 2^40) (hr:solveN n s a b = some r):WB r.1 :=
 fun v x hx=>(solveN_keep (P:=fun t=>wide t < 2^40) (Q:=fun _=>True) (fun t a h ha=>wide_arg h ha) (fun _ _ _=>trivial) n s a b r (fun v t hv=>⟨h v t hv,trivial⟩) ha hb hr v x hx).1
def MR (s:List ABind) (m:TM):Prop:=(∀ v,getK m v = image s v)∧Keys m
theorem MR.bind {s:List ABind} {m:TM} (h:MR s m) {v:Str} (hv:image s v = none) (t:Term):MR (bindT s v t) (setK m v t) :=
 ⟨fun w=>by rw [getK_setK,image_bindT hv,h.1 w],keys_setK h.2 v t⟩
def DoneK (s:List ABind) (k:Key):Prop:=∀ θ,Sat θ s→θ k.1 = θ k.2
def SolR (d:DM) (r:List ABind × Bool) (x:V) (m':TM) (d':DM):Prop:=x = .bool r.2∧(r.2 = true→MR r.1 m'∧∀ k,(getK d' k).isSome = true→(getK d k).isSome = true ∨ DoneK r.1 k)
theorem take_u (m m':TM) (d d':DM) (J:List Ob):takeB [0,1,2] (uHl m d J) (uH m' d') = uHl m' d' J:=by
 apply List.ext_getElem?
 intro i
 rw [takeB_get (by simp)]
 have h0:∀ n,back [0,1,2] n 0 = some 0:=fun _=>rfl
 have h1:∀ n,back [0,1,2] n 1 = some 1:=fun _=>rfl
 match i with
 | 0=>rw [if_pos (by simp)];show some (renOb _ (.map (encS encT m'))) = some _;push_cast
 | 1=>rw [if_pos (by simp)];show some (renOb _ (.map (encQ encU d'))) = some _;push_cast
 | 2=>rw [if_pos (by simp)];show some (renOb _ (.cells t_unify_unifier [.map 0,.map 1])) = some _;push_cast [h0,h1]
 | i+3 =>
  have hp:pos? [0,1,2] (i+3) = none:=by simp [pos?,List.findIdx?_cons]
  by_cases h:i < J.length
  ·rw [if_pos (by simp;omega),hp]
   simp [List.getD_eq_getElem?_getD,h]
  ·rw [if_neg (by simp;omega)]
   have e1:(uHl m' d' J)[i+3]? = none:=List.getElem?_eq_none (by simp;omega)
   have e2:(uH m' d')[[0,1,2].length+(i+3 - (uHl m d J).length)]? = none:=List.getElem?_eq_none (by simp)
   rw [e1,e2];rfl
theorem give_u (m:TM) (d:DM) (J:List Ob):give [0,1,2] (uHl m d J) = uH m d:=by
 show [renOb (pos? [0,1,2]) (.map (encS encT m)),renOb (pos? [0,1,2]) (.map (encQ encU d)),renOb (pos? [0,1,2]) (.cells t_unify_unifier [.map 0,.map 1])] = _
 have h0:pos? [0,1,2] 0 = some 0:=rfl
 have h1:pos? [0,1,2] 1 = some 1:=rfl
 push_cast [h0,h1]
section
variable {N:Nat→C} {B:Nat} {k:List K} {t:T} {Q:X→T→List Ob→Prop} {dd:Option Nat} {l:List S} {f:Nat} {vs vs':List V} {m:TM} {d:DM} {J:List Ob}
theorem callG_u {R:V→TM→DM→Prop} (hv:rens (pos? [0,1,2]) vs = vs') (h:Spec prog f vs' (uH m d) fun x' H'=>∃ m' d',R x' m' d'∧H' = uH m' d') (k':∀ x' m' d',R x' m' d'→Run prog N B (.r l :: k) (setO dd (ren (back [0,1,2] (J.length+3)) x') t) (uHl m' d' J) Q):CallG prog N B dd l k t Q (.func f) vs (uHl m d J):=by
 refine CallG.some [0,1,2] (by simp) (by simp) (R:=fun x' H'=>∃ m' d',R x' m' d'∧H' = uH m' d') (by rw [give_u,hv];exact h) ?_
 rintro x' H' ⟨m',d',hr,rfl⟩ _
 rw [take_u];exact k' x' m' d' hr
theorem callG_ul {x:V} (hv:rens (pos? [0,1,2]) vs = vs') (h:Spec prog f vs' (uH m d) fun x' H'=>x' = x∧H' = uH m d) (k':Run prog N B (.r l :: k) (setO dd (ren (back [0,1,2] (J.length+3)) x) t) (uHl m d J) Q):CallG prog N B dd l k t Q (.func f) vs (uHl m d J):=by
 refine callG_u (R:=fun x' m' d'=>x' = x∧m' = m∧d' = d) hv (Spec.mono h fun x' H' h=>⟨m,d,⟨h.1,rfl,rfl⟩,h.2⟩) ?_
 rintro x' m' d' ⟨rfl,rfl,rfl⟩;exact k'
end
end Go.Dw
end
section
namespace Go.Dw
theorem unify_solve_s:∀ (n:Nat) (s:List ABind) (σ:Sub) (rk:Str→Nat) (m:TM) (d:DM) (a b:Term) (r:List ABind × Bool),UOk s σ rk→MR s m→WB s→vfl a = true→vfl b = true→wide a < 2^40→wide b < 2^40→solveN n s a b = some r →
  (∀ k,(getK d k).isSome = true→DoneK s k ∨ ∀ θ,Sat θ s→size (app θ a) < size (θ k.1))→Spec prog n_unify_unifier_solve [.ptr 2 0,encT a,encT b] (uH m d) fun x H'=>∃ m' d',SolR d r x m' d'∧H' = uH m' d':=by
 intro n
 induction n with
 | zero=>intro s σ rk m d a b r _ _ _ _ _ _ _ h;cases h
 | succ n ih =>
  intro s σ rk m d a b r hu hm hwb ha hb hwa hwb2 hr hd
  have rest:∀ (d:DM) (Q:V→List Ob→Prop) (T:T) (J:List Ob),(∀ x m' d',SolR d r x m' d'→Q x (uH m' d'))→lk T 0 = .ptr 2 0→lk T 4 = .ptr 3 0→lk T 5 = .ptr 4 0→(∀ k,(getK d k).isSome = true→DoneK s k ∨ ∀ θ,Sat θ s→size (app θ a)≤size (θ k.1)) →
    Run prog unify_unifier_solve.nd 3 [.c (.n 5)] T (uHl m d (.cells t_Term (cT a) :: .cells t_Term (cT b) :: J)) (Ends 3 unify_unifier_solve.rs Q):=by
   intro d Q T J hQ h0 h4 h5 hd
   obtain ⟨x,y,hx,hy,hc⟩:=solveN_succ hr
   have hxv:vfl x = true:=head_keep (P:=fun t=>vfl t = true) hu.vf ha hx
   have hyv:vfl y = true:=head_keep (P:=fun t=>vfl t = true) hu.vf hb hy
   have hxw:wide x < 2^40:=head_keep (P:=fun t=>wide t < 2^40) hwb hwa hx
   have hyw:wide y < 2^40:=head_keep (P:=fun t=>wide t < 2^40) hwb hwb2 hy
   have hxs:∀ θ,Sat θ s→app θ x = app θ a:=fun θ hθ=>head_sat hθ hx
   have hA:=unify_head_s d hm.1 (n+1) a x hx
   have hB:=unify_head_s d hm.1 (n+1) b y hy
   have hlx:=wide_args x
   have hly:=wide_args y
   have p2:pos? [0,1,2] 2 = some 2:=rfl
   have same:∀ r:List ABind × Bool,r.1 = s→∀ x:V,x = .bool r.2→SolR d r x m d:=fun r h x e=>⟨e,fun _=>⟨h ▸ hm,fun k hk=>.inl hk⟩⟩
   have setF:∀ (v:Str) (t:Term),image s v = none→r = setU s v t→∀ (x':V) (m':TM) (d':DM),(x' = .bool (setU s v t).2∧m' = (if (setU s v t).2 then setK m v t else m)∧d' = d)→SolR d r x' m' d':=by
    rintro v t hv rfl x' m' d' ⟨rfl,rfl,rfl⟩
    refine ⟨rfl,fun h=>⟨?_,fun k hk=>.inl hk⟩⟩
    rcases setU_cases s v t with ⟨_,e⟩ | ⟨_,e⟩
    ·rw [e] at h;cases h
    ·rw [e,if_pos rfl];exact hm.bind hv t
   push_cast [h0,h4,h5]
   refine ⟨callG_ul (by push_cast [p2]) hA ?_,callG_ul (by push_cast [p2]) hA ?_⟩
   all_goals
    push_cast [h0,h4,h5]
    refine callG_ul (by push_cast [p2]) hB ?_
    rcases hc with ⟨c1,c2,c3,c6⟩ | ⟨c1,c2,c6⟩ | ⟨c1,c2,c6⟩ | ⟨c1,c2,c3,c6⟩ | ⟨c1,c2,c3,c4,c5⟩
    ·push_cast [h0,h4,h5,c1,c2,c3]
     exact ends_keep (H:=uH m d) (J:=_ :: _ :: J) (shut_u m d) rfl (hQ _ m d (same r (by rw [c6]) _ (by rw [c6];rfl)))
    ·have hS:=unify_set_s d hm.1 hu hwb x.name y hyv hyw
     have hS2:=Spec.mono hS (Q':=fun x' H'=>∃ m' d',(x' = .bool (setU s x.name y).2∧m' = (if (setU s x.name y).2 then setK m x.name y else m)∧d' = d)∧H' = uH m' d') fun x' H' h=>⟨_,_,⟨h.1,rfl,rfl⟩,h.2⟩
     by_cases c3:y.var = true
     ·have c4:x.name ≠ y.name:=fun e=>c2 ⟨c3,e⟩
      push_cast [h0,h4,h5,c1,c3,c4]
      refine callG_u (by push_cast [p2]) hS2 ?_
      intro x' m' d' hR
      have hf:=setF x.name y (head_free hx c1) c6 x' m' d' hR
      obtain ⟨rfl,_,_⟩:=hR
      push_cast
      exact ends_keep (H:=uH m' d') (J:=_ :: _ :: J) (shut_u m' d') rfl (hQ _ m' d' hf)
     ·have c3:y.var = false:=by simpa using c3
      push_cast [h0,h4,h5,c1,c3]
      refine callG_u (by push_cast [p2]) hS2 ?_
      intro x' m' d' hR
      have hf:=setF x.name y (head_free hx c1) c6 x' m' d' hR
      obtain ⟨rfl,_,_⟩:=hR
      push_cast
      exact ends_keep (H:=uH m' d') (J:=_ :: _ :: J) (shut_u m' d') rfl (hQ _ m' d' hf)
    ·have hS:=unify_set_s d hm.1 hu hwb y.name x hxv hxw
     have hS2:=Spec.mono hS (Q':=fun x' H'=>∃ m' d',(x' = .bool (setU s y.name x).2∧m' = (if (setU s y.name x).2 then setK m y.name x else m)∧d' = d)∧H' = uH m' d') fun x' H' h=>⟨_,_,⟨h.1,rfl,rfl⟩,h.2⟩
     push_cast [h0,h4,h5,c1,c2]
     refine callG_u (by push_cast [p2]) hS2 ?_
     intro x' m' d' hR
     have hf:=setF y.name x (head_free hy c2) c6 x' m' d' hR
     obtain ⟨rfl,_,_⟩:=hR
     push_cast
     exact ends_keep (H:=uH m' d') (J:=_ :: _ :: J) (shut_u m' d') rfl (hQ _ m' d' hf)
    ·by_cases hn:x.name = y.name
     ·have hlen:((x.args.length:Int) = (y.args.length:Int)) = False:=eq_false (by rcases c3 with h | h;exact absurd hn h;omega)
      push_cast [h0,h4,h5,c1,c2,hn,hlen]
      exact ends_keep (H:=uH m d) (J:=_ :: _ :: J) (shut_u m d) rfl (hQ _ m d (same r (by rw [c6]) _ (by rw [c6];rfl)))
     ·push_cast [h0,h4,h5,c1,c2,hn]
      exact ends_keep (H:=uH m d) (J:=_ :: _ :: J) (shut_u m d) rfl (hQ _ m d (same r (by rw [c6]) _ (by rw [c6];rfl)))
    ·have hlen:((x.args.length:Int) = (y.args.length:Int)) = True:=eq_true (by omega)
     push_cast [h0,h4,h5,c1,c2,c3,hlen]
     refine loop_up (n:=x.args.length) (R:=fun k=>∀ (s':List ABind) (σ':Sub) (rk':Str→Nat) (m':TM) (d':DM),UOk s' σ' rk'→MR s' m'→WB s'→(∀ θ,Sat θ s'→Sat θ s)→(∀ k,(getK d' k).isSome = true→(getK d k).isSome = true ∨ DoneK s' k)→solvesW (solveN n) s' (x.args.drop k) (y.args.drop k) = some r →
      unify_unifier_solve.L3 (.ptr 2 0) (.ptr 3 0) (.ptr 4 0) (.int .i64 x.args.length) (.int .i64 k) 3 (uHl m' d' [.cells t_Term (cT x),.cells t_Term (cT y)]) (Ends 3 unify_unifier_solve.rs Q)) ?_ ?_ 0 (by omega) s σ rk m d hu hm hwb (fun _ h=>h) (fun k hk=>.inl hk) c5
     ·intro k hk ih2 s' σ' rk' m' d' hu' hm' hwb' hsat hkeys hsol
      have hk2:k < y.args.length:=by omega
      have hmx:=getD_mem hk
      have hmy:=getD_mem hk2
      rw [drop_getD hk,drop_getD hk2] at hsol
      generalize hc:x.args.getD k default = c at hmx hsol
      generalize he:y.args.getD k default = e at hmy hsol
      simp only [solvesW] at hsol
      cases hf:solveN n s' c e with
      | none=>rw [hf] at hsol;cases hsol
      | some p =>
       obtain ⟨s1,ok⟩:=p
       rw [hf] at hsol
       have hcall:=ih s' σ' rk' m' d' c e (s1,ok) hu' hm' hwb' (vfl_arg hxv hmx) (vfl_arg hyv hmy) (wide_arg hxw hmx) (wide_arg hyw hmy) hf (fun k hk=>by
        rcases hkeys k hk with h | h
        ·rcases hd k h with h | h
         ·exact .inl fun θ hθ=>h θ (hsat θ hθ)
         ·refine .inr fun θ hθ=>?_
          have h1:=h θ (hsat θ hθ)
          rw [← hxs θ (hsat θ hθ),app_fun c1] at h1
          have h2:size (Term.mk x.name false (x.args.map (app θ))) = 1+sizes (x.args.map (app θ)):=rfl
          have h3:=size_mem (List.mem_map_of_mem (f:=app θ) hmx)
          omega
        ·exact .inl h)
       obtain ⟨σ1,rk1,hok⟩:=solveN_ok n s' σ' rk' c e (s1,ok) hu' (vfl_arg hxv hmx) (vfl_arg hyv hmy) hf
       refine unify_unifier_solve.G3 ?_
       push_cast [ilt hk,ilt hk2,hc,he]
       refine callG_u (by push_cast [p2]) hcall ?_
       intro x' m1 d1 hR
       obtain ⟨rfl,hR⟩:=hR
       cases ok with
       | false =>
        simp only [Option.some.injEq] at hsol
        push_cast
        exact ends_keep (H:=uH m1 d1) (J:=[_,_]) (shut_u m1 d1) rfl (hQ _ m1 d1 ⟨by rw [← hsol];rfl,fun h=>by rw [← hsol] at h;cases h⟩)
       | true =>
        obtain ⟨hm1,hk1⟩:=hR rfl
        push_cast [w64 (show k < 2^62 by omega)]
        have:=ih2 s1 σ1 rk1 m1 d1 hok.ok hm1 (hwb'.solve (wide_arg hxw hmx) (wide_arg hyw hmy) hf) (fun θ hθ=>hsat θ (hθ.mono hok.ext)) (fun k hk=>by
         rcases hk1 k hk with h | h
         ·rcases hkeys k h with h | h
          ·exact .inl h
          ·exact .inr fun θ hθ=>h θ (hθ.mono hok.ext)
         ·exact .inr h) hsol
        push_cast at this
        exact this
     ·intro s' σ' rk' m' d' hu' hm' hwb' hsat hkeys hsol
      rw [drop_map_none] at hsol
      simp only [solvesW,Option.some.injEq] at hsol
      refine unify_unifier_solve.G3 ?_
      push_cast [inlt (Nat.le_refl _)]
      exact ends_keep (H:=uH m' d') (J:=[_,_]) (shut_u m' d') rfl (hQ _ m' d' ⟨by rw [← hsol];rfl,fun _=>⟨by rw [← hsol];exact hm',fun k hk=>by rw [← hsol];exact hkeys k hk⟩⟩)
  refine spec_of_run mixed unify_unifier_solve.ok rfl ?_
  unfold unify_unifier_solve.body
  generalize hC:C.n 5 = c5
  obtain ⟨σ1,rk1,hok⟩:=solveN_ok (n+1) s σ rk a b r hu ha hb hr
  have hd1:∀ k,(getK d k).isSome = true→DoneK s k ∨ ∀ θ,Sat θ s→size (app θ a)≤size (θ k.1):=fun k hk=>by
   rcases hd k hk with h | h
   ·exact .inl h
   ·exact .inr fun θ hθ=>Nat.le_of_lt (h θ hθ)
  cases hva:a.var with
  | false =>
   push_cast [hva]
   subst hC
   exact rest d _ _ [] (fun x m' d' h=>⟨m',d',h,rfl⟩) rfl rfl rfl hd1
  | true =>
   cases hvb:b.var with
   | false =>
    push_cast [hva,hvb]
    subst hC
    exact rest d _ _ [] (fun x m' d' h=>⟨m',d',h,rfl⟩) rfl rfl rfl hd1
   | true =>
    have hlk:∀ l,_:=fun l=>look_encQ encU d (a.name,b.name) false (.bool false) (H:=uHl m d l) (i:=1) rfl
    have hup:=upd_encQ encU d (a.name,b.name) ()
    cases hg:getK d (a.name,b.name) with
    | some u =>
     rw [hg] at hlk
     simp only [Option.map_some,Option.getD_some,encK] at hlk hup
     push_cast [hva,hvb,hlk]
     have hrr:r = (s,true):=by
      rcases hd (a.name,b.name) (by rw [hg];rfl) with h | h
      ·exact solve_eq hu (n+1) a b r ha hb hr (by rw [app_var hva,app_var hvb];exact h σ hu.sat)
      ·have:=h σ hu.sat
       rw [app_var hva] at this
       exact absurd this (Nat.lt_irrefl _)
     exact ends_keep (H:=uH m d) (J:=[_,_,_]) (shut_u m d) rfl ⟨m,d,⟨by rw [hrr];rfl,fun _=>⟨by rw [hrr];exact hm,fun k hk=>.inl hk⟩⟩,rfl⟩
    | none =>
     rw [hg] at hlk
     simp only [Option.map_none,Option.getD_none,encK] at hlk hup
     push_cast [hva,hvb,hlk,hup]
     subst hC
     refine ⟨rfl,rest (setK d (a.name,b.name) ()) _ _ [.dead] (fun x m' d' h=>?_) rfl rfl rfl fun k hk=>?_⟩
     ·obtain ⟨e,h1⟩:=h
      refine ⟨m',d',⟨e,fun hr2=>⟨(h1 hr2).1,fun k hk=>?_⟩⟩,rfl⟩
      rcases (h1 hr2).2 k hk with h3 | h3
      ·rw [getK_setK] at h3
       by_cases e:(a.name,b.name) = k
       ·subst e
        refine .inr fun θ hθ=>?_
        have h4:=hok.eq hr2
        have h5:=hok.ok.sat_app hθ a
        have h6:=hok.ok.sat_app hθ b
        rw [h4,← h6,app_var hva,app_var hvb] at h5
        exact h5
       ·rw [if_neg e] at h3;exact .inl h3
      ·exact .inr h3
     ·rw [getK_setK] at hk
      by_cases e:(a.name,b.name) = k
      ·subst e
       exact .inr fun θ hθ=>by rw [app_var hva];exact Nat.le_refl _
      ·rw [if_neg e] at hk;exact hd1 k hk
end Go.Dw
end
section
namespace Go.Dw
theorem unify_whole_s {s:List ABind} {σ:Sub} {rk:Str→Nat} (hu:UOk s σ rk) {m:TM} {d:DM} (hm:∀ v,getK m v = image s v) (hwb:WB s):∀ (n:Nat) (t:Term),Need s n t→vfl t = true→wide t < 2^40→Spec prog n_unify_unifier_whole [.ptr 2 0,encT t] (uH m d) fun x H'=>x = encT (app σ t)∧H' = uH m d:=by
 intro n
 induction n with
 | zero=>intro t h;exact h.elim
 | succ n ih =>
  intro t hn ht hw
  simp only [Need] at hn
  have p2:pos? [0,1,2] 2 = some 2:=rfl
  refine spec_of_run mixed unify_unifier_whole.ok rfl ?_
  cases hv:t.var with
  | true =>
   rw [if_pos hv] at hn
   rw [app_var hv]
   cases hi:image s t.name with
   | none =>
    rw [hu.free _ hi]
    push_cast [hv,lk_none hm hi]
    exact ends_keep (H:=uH m d) (J:=[_,_]) (shut_u m d) rfl ⟨by push_cast;rfl,rfl⟩
   | some x =>
    have hc:=ih x (hn x hi) (hu.vf _ _ hi) (hwb _ _ hi)
    rw [hu.fix _ _ hi]
    push_cast [hv,lk_some hm hi]
    refine callG_ul (J:=[_,_]) (by push_cast [p2]) hc ?_
    push_cast
    exact ends_keep (H:=uH m d) (J:=[_,_]) (shut_u m d) rfl ⟨by push_cast,rfl⟩
  | false =>
   rw [if_neg (by simp [hv])] at hn
   rw [app_fun hv]
   have hwa:=wide_args t
   push_cast [hv]
   refine loop_up (n:=t.args.length) (R:=fun k=>unify_unifier_whole.L3 (.ptr 2 0) (.ptr 3 0) (.ptr 4 0) (encTs t.args) (.int .i64 t.args.length) (.int .i64 k) 3
    (uHl m d [.cells t_Term [.str [],.bool false,.sl 3 []],.cells t_Term [.str t.name,.bool false,ownL cT 5 3 ((t.args.map (app σ)).take k)],.arr t_Term 3 k]) _) ?_ ?_ 0 (by omega)
   ·intro k hk ih2
    have hme:=getD_mem hk
    have hk2:k < (t.args.map (app σ)).length:=by simpa using hk
    have hlt:((t.args.map (app σ)).take k).length = k:=by simp;omega
    have hge:(t.args.map (app σ)).getD k default = app σ (t.args.getD k default):=by
     simp [List.getD_eq_getElem?_getD,hk]
    have hc:=ih _ (hn _ hme) (vfl_arg ht hme) (wide_arg hw hme)
    rw [take_succ_getD hk2,hge] at ih2
    refine unify_unifier_whole.G3 ?_
    push_cast [ilt hk]
    refine ⟨⟨?_,?_⟩,?_⟩
    all_goals
     refine callG_ul (J:=[_,_,_,_]) (by push_cast [p2]) hc ?_
     push_cast [hlt,room (show k < 2^40 by omega) (show 48≤64 by omega),w64 (show k < 2^62 by omega)]
     push_cast at ih2
     exact ih2
   ·refine unify_unifier_whole.G3 ?_
    push_cast [inlt (Nat.le_refl _)]
    rw [List.take_of_length_le (by simp)]
    refine ends_keep (H:=uH m d) (J:=[_,_,_]) (shut_u m d) rfl ⟨?_,rfl⟩
    push_cast [unify_unifier_whole.rs]
    rw [encT,cT_eq];rfl
abbrev MM:=List (Str × (Nat × Nat))
def encMt (p:Nat × Nat):V:=.agg [.int .i64 p.1,.int .i64 p.2]
theorem ren_encSM {σ:Nat→Option Nat} (m:MM):((encS encMt m).map fun p=>(ren σ p.1,ren σ p.2)) = encS encMt m:=ren_encS (fun x=>rfl) m
attribute [push_cast] ren_encSM
def mtr (σ:Sub) (t:Term):Nat × Nat:=(min (size (app σ t)) 4001,depth (app σ t))
def KnOk (σ:Sub) (kn:MM):Prop:=∀ v p,getK kn v = some p→p = mtr σ (varT v)
abbrev kHl (m:TM) (d:DM) (kn:MM) (J:List Ob):List Ob:=uHl m d (.map (encS encMt kn) :: J)
abbrev kH (m:TM) (d:DM) (kn:MM):List Ob:=kHl m d kn []
theorem shut_k (m:TM) (d:DM) (kn:MM):Shut 4 (kH m d kn):=⟨rfl,by
 show [renOb (clip 4) (.map (encS encT m)),renOb (clip 4) (.map (encQ encU d)),renOb (clip 4) (.cells t_unify_unifier [.map 0,.map 1]),renOb (clip 4) (.map (encS encMt kn))] = _
 have h0:clip 4 0 = some 0:=rfl
 have h1:clip 4 1 = some 1:=rfl
 push_cast [h0,h1]⟩
theorem take_k (m:TM) (d:DM) (kn kn':MM) (J:List Ob):takeB [0,1,2,3] (kHl m d kn J) (kH m d kn') = kHl m d kn' J:=by
 apply List.ext_getElem?
 intro i
 rw [takeB_get (by simp)]
 have h0:∀ n,back [0,1,2,3] n 0 = some 0:=fun _=>rfl
 have h1:∀ n,back [0,1,2,3] n 1 = some 1:=fun _=>rfl
 match i with
 | 0=>rw [if_pos (by simp)];show some (renOb _ (.map (encS encT m))) = some _;push_cast
 | 1=>rw [if_pos (by simp)];show some (renOb _ (.map (encQ encU d))) = some _;push_cast
 | 2=>rw [if_pos (by simp)];show some (renOb _ (.cells t_unify_unifier [.map 0,.map 1])) = some _;push_cast [h0,h1]
 | 3=>rw [if_pos (by simp)];show some (renOb _ (.map (encS encMt kn'))) = some _;push_cast
 | i+4 =>
  have hp:pos? [0,1,2,3] (i+4) = none:=by simp [pos?,List.findIdx?_cons]
  by_cases h:i < J.length
  ·rw [if_pos (by simp;omega),hp]
   simp [List.getD_eq_getElem?_getD,h]
  ·rw [if_neg (by simp;omega)]
   have e1:(kHl m d kn' J)[i+4]? = none:=List.getElem?_eq_none (by simp;omega)
   have e2:(kH m d kn')[[0,1,2,3].length+(i+4 - (kHl m d kn J).length)]? = none:=List.getElem?_eq_none (by simp)
   rw [e1,e2];rfl
theorem give_k (m:TM) (d:DM) (kn:MM) (J:List Ob):give [0,1,2,3] (kHl m d kn J) = kH m d kn:=by
 show [renOb (pos? [0,1,2,3]) (.map (encS encT m)),renOb (pos? [0,1,2,3]) (.map (encQ encU d)),renOb (pos? [0,1,2,3]) (.cells t_unify_unifier [.map 0,.map 1]),renOb (pos? [0,1,2,3]) (.map (encS encMt kn))] = _
 have h0:pos? [0,1,2,3] 0 = some 0:=rfl
 have h1:pos? [0,1,2,3] 1 = some 1:=rfl
 push_cast [h0,h1]
theorem callG_k {N:Nat→C} {B:Nat} {k:List K} {t:T} {Q:X→T→List Ob→Prop} {dd:Option Nat} {l:List S} {f:Nat} {z:Term} {m:TM} {d:DM} {kn:MM} {J:List Ob} {R:V→MM→Prop}
  (h:Spec prog f [.ptr 2 0,encT z,.map 3] (kH m d kn) fun x' H'=>∃ kn',R x' kn'∧H' = kH m d kn') (k':∀ x' kn',R x' kn'→Run prog N B (.r l :: k) (setO dd (ren (back [0,1,2,3] (J.length+4)) x') t) (kHl m d kn' J) Q):CallG prog N B dd l k t Q (.func f) [.ptr 2 0,encT z,.map 3] (kHl m d kn J):=by
 have h2:pos? [0,1,2,3] 2 = some 2:=rfl
 have h3:pos? [0,1,2,3] 3 = some 3:=rfl
 refine CallG.some [0,1,2,3] (by simp) (by simp) (R:=fun x' H'=>∃ kn',R x' kn'∧H' = kH m d kn') (by rw [give_k];push_cast [h2,h3];exact h) ?_
 rintro x' H' ⟨kn',hr,rfl⟩ _
 rw [take_k];exact k' x' kn' hr
theorem unify_measure_s {s:List ABind} {σ:Sub} {rk:Str→Nat} (hu:UOk s σ rk) {m:TM} {d:DM} (hm:∀ v,getK m v = image s v) (hwb:WB s):∀ (n:Nat) (t:Term) (kn:MM),Need s n t→vfl t = true→wide t < 2^40→depth (app σ t) < 2^60→KnOk σ kn →
  Spec prog n_unify_unifier_measure [.ptr 2 0,encT t,.map 3] (kH m d kn) fun x H'=>∃ kn',(x = encMt (mtr σ t)∧KnOk σ kn')∧H' = kH m d kn':=by
 intro n
 induction n with
 | zero=>intro t kn h;exact h.elim
 | succ n ih =>
  intro t kn hn ht hw hdp hkn
  simp only [Need] at hn
  refine spec_of_run mixed unify_unifier_measure.ok rfl ?_
  cases hv:t.var with
  | true =>
   rw [if_pos hv] at hn
   rw [app_var hv] at hdp
   cases hi:image s t.name with
   | none =>
    have e:mtr σ t = (1,1):=by
     unfold mtr
     rw [app_var hv,hu.free _ hi];rfl
    rw [e]
    push_cast [hv,lk_none hm hi]
    exact ends_keep (H:=kH m d kn) (J:=[_,_]) (shut_k m d kn) rfl ⟨kn,⟨rfl,hkn⟩,rfl⟩
   | some x =>
    have hlk:∀ l,_:=fun l=>look_encS encMt kn t.name true (.agg [.int .i64 0,.int .i64 0]) (H:=kHl m d kn l) (i:=3) rfl
    have e:mtr σ t = mtr σ x:=by
     unfold mtr
     rw [app_var hv,hu.fix _ _ hi]
    have e2:mtr σ (varT t.name) = mtr σ t:=by
     unfold mtr
     rw [app_var (t:=varT t.name) rfl,app_var hv];rfl
    generalize hp:mtr σ t = p at e e2
    have hp':mtr σ x = p:=e.symm
    obtain ⟨p1,p2⟩:=p
    cases hg:getK kn t.name with
    | some q =>
     have hq:=hkn _ _ hg
     rw [e2] at hq
     subst hq
     rw [hg] at hlk
     simp only [Option.map_some,Option.getD_some,Option.isSome_some,if_true,encMt] at hlk
     push_cast [hv,lk_some hm hi,hlk]
     exact ends_keep (H:=kH m d kn) (J:=[_,_,_]) (shut_k m d kn) rfl ⟨kn,⟨rfl,hkn⟩,rfl⟩
    | none =>
     rw [hg] at hlk
     simp only [Option.map_none,Option.getD_none,Option.isSome_none,if_true] at hlk
     have hc:=ih x kn (hn x hi) (hu.vf _ _ hi) (hwb _ _ hi) (by rw [← hu.fix _ _ hi];exact hdp) hkn
     rw [hp'] at hc
     push_cast [hv,lk_some hm hi,hlk]
     refine callG_k (R:=fun x' kn'=>x' = encMt (p1,p2)∧KnOk σ kn') (J:=[_,_,_]) hc ?_
     rintro x' kn' ⟨rfl,hkn'⟩
     have hup:updM (.str t.name) (.agg [.int .i64 p1,.int .i64 p2]) (encS encMt kn') = some (encS encMt (setK kn' t.name (p1,p2))):=upd_encS encMt kn' t.name (p1,p2)
     push_cast [encMt,hup]
     refine ⟨rfl,ends_keep (H:=kH m d (setK kn' t.name (p1,p2))) (J:=[_,_,_,_]) (shut_k m d _) rfl ⟨_,⟨rfl,fun w q hq=>?_⟩,rfl⟩⟩
     rw [getK_setK] at hq
     by_cases ew:t.name = w
     ·rw [if_pos ew] at hq
      cases hq
      rw [← ew];exact e2.symm
     ·rw [if_neg ew] at hq;exact hkn' w q hq
  | false =>
   rw [if_neg (by simp [hv])] at hn
   have hwa:=wide_args t
   have happ:=app_fun (f:=σ) hv
   generalize hL:t.args.map (app σ) = L at happ
   have hLl:L.length = t.args.length:=by rw [← hL];simp
   have hsz:size (app σ t) = 1+sizes L:=by rw [happ];rfl
   have hdz:depth (app σ t) = depths L+1:=by rw [happ];rfl
   push_cast [hv]
   refine loop_up (n:=t.args.length) (R:=fun k=>∀ (kn':MM) (c e:Nat),KnOk σ kn'→c = min (1+sizes (L.take k)) 4001→e = depths (L.take k)→unify_unifier_measure.L3 (.ptr 2 0) (.map 3) (.ptr 4 0) (.ptr 5 0) (encTs t.args) (.int .i64 t.args.length) (.int .i64 k) 4
    (kHl m d kn' [.cells t_unify_meter [.int .i64 0,.int .i64 0],.cells t_unify_meter [.int .i64 c,.int .i64 e]]) (Ends 4 unify_unifier_measure.rs fun x H'=>∃ kn',(x = encMt (mtr σ t)∧KnOk σ kn')∧H' = kH m d kn')) ?_ ?_ 0 (by omega) kn 1 0 hkn (by simp [sizes]) (by simp [depths])
   ·intro k hk ih2 kn' c e hkn' hc he
    have hme:=getD_mem hk
    have hk2:k < L.length:=by omega
    have hge:L.getD k default = app σ (t.args.getD k default):=by
     rw [← hL];simp [List.getD_eq_getElem?_getD,hk]
    have hmL:=getD_mem hk2
    have hdl:depth (app σ (t.args.getD k default))≤depths L:=by rw [← hge];exact depth_mem hmL
    have hcall:=ih (t.args.getD k default) kn' (hn _ hme) (vfl_arg ht hme) (wide_arg hw hme) (by omega) hkn'
    have hp1:mtr σ (t.args.getD k default) = (min (size (L.getD k default)) 4001,depth (L.getD k default)):=by rw [hge];rfl
    rw [hp1] at hcall
    generalize hq1:min (size (L.getD k default)) 4001 = a1 at hcall
    generalize hq2:depth (L.getD k default) = b1 at hcall
    have hw1:IntKind.i64.wrap ((c:Int)+(a1:Int)) = (c:Int)+a1:=wrap64 (by omega) (by omega)
    refine unify_unifier_measure.G3 ?_
    push_cast [ilt hk]
    refine callG_k (R:=fun x' kn'=>x' = encMt (a1,b1)∧KnOk σ kn') (J:=[_,_,_]) hcall ?_
    rintro x' kn1 ⟨rfl,hkn1⟩
    obtain ⟨c1,hc1⟩:∃ c1,c1 = min (c+a1) 4001:=⟨_,rfl⟩
    obtain ⟨e1,he1⟩:∃ e1,e1 = max e b1:=⟨_,rfl⟩
    have this:=ih2 kn1 c1 e1 hkn1 (by rw [take_succ_getD hk2,sizes_append,hc1,hc,← hq1];simp only [sizes];omega) (by rw [take_succ_getD hk2,depths_append,he1,he,← hq2];simp [depths])
    have hmn:(if (4001:Int) < (c:Int)+(a1:Int) then (4001:Int) else (c:Int)+(a1:Int)) = (c1:Int):=by
     split <;> omega
    have hmx:(if (e:Int) < (b1:Int) then (b1:Int) else (e:Int)) = (e1:Int):=by
     split <;> omega
    push_cast [encMt,hw1,hmn,hmx,← he1,w64 (show k < 2^62 by omega)]
    push_cast [encMt] at this
    exact this
   ·intro kn' c e hkn' hc he
    rw [List.take_of_length_le (by omega)] at hc he
    refine unify_unifier_measure.G3 ?_
    push_cast [inlt (Nat.le_refl _),w64 (show e < 2^62 by omega)]
    refine ends_keep (H:=kH m d kn') (J:=[_,_]) (shut_k m d kn') rfl ⟨kn',⟨?_,hkn'⟩,rfl⟩
    push_cast [unify_unifier_measure.rs]
    unfold mtr encMt
    rw [hsz,hdz,← hc,← he]
    push_cast
end Go.Dw
end
section
namespace Go.Dw
theorem depth_app {σ:Sub} {M:Nat} (t:Term):(∀ w,occ w t = true→depth (σ w)≤M)→depth (app σ t)≤depth t+M:=by
 induction t using term_ind with
 | h t ih =>
 intro h
 cases hv:t.var with
 | true =>
  rw [app_var hv]
  have:=h _ (uocc_iff.2 (.inl ⟨hv,rfl⟩))
  omega
 | false =>
  rw [app_fun hv,depth_args,depth_args t]
  show depths (t.args.map (app σ))+1≤depths t.args+1+M
  have key:∀ l:List Term,(∀ a∈l,a∈t.args)→depths (l.map (app σ))≤depths l+M:=by
   intro l
   induction l with
   | nil=>intro _;simp [depths]
   | cons a l ihl =>
    intro hl
    have h1:=ih a (hl a (by simp)) fun w hw=>h w (uocc_iff.2 (.inr ⟨a,hl a (by simp),hw⟩))
    have h2:=ihl fun b hb=>hl b (by simp [hb])
    simp only [List.map_cons,depths]
    omega
  have:=key t.args fun _ h=>h
  omega
theorem countP_lt {α:Type} {p q:α→Bool}:∀ {l:List α} {x:α},x∈l→(∀ y,p y = true→q y = true)→q x = true→p x = false→l.countP p < l.countP q
 | [],x,h,_,_,_=>by cases h
 | y :: l,x,h,hpq,hq,hp=>by
  have hle:l.countP p≤l.countP q:=List.countP_mono_left fun z _=>hpq z
  simp only [List.countP_cons]
  rcases List.mem_cons.1 h with rfl | h
  ·rw [hq,hp];simp;omega
  ·have:=countP_lt h hpq hq hp
   have h2:(if p y = true then 1 else 0)≤(if q y = true then 1 else 0):=by
    by_cases hy:p y = true
    ·rw [if_pos hy,if_pos (hpq y hy)];exact Nat.le_refl _
    ·rw [if_neg hy];exact Nat.zero_le _
   omega
def cnt (s:List ABind) (rk:Str→Nat) (v:Str):Nat:=s.countP fun b=>decide (rk b.name≤rk v)
theorem cnt_le (s:List ABind) (rk:Str→Nat) (v:Str):cnt s rk v≤s.length:=List.countP_le_length
theorem image_mem2 {s:List ABind} {v:Str} {t:Term} (h:image s v = some t):⟨v,t⟩∈s:=by
 obtain ⟨b,hb,h1,h2⟩:=image_mem h
 subst h1;subst h2;exact hb
theorem UOk.cnt_lt {s:List ABind} {σ:Sub} {rk:Str→Nat} (h:UOk s σ rk) {v w:Str} {t:Term} (hi:image s v = some t) (hw:occ w t = true):cnt s rk w < cnt s rk v:=by
 have:=h.low v t hi w hw
 refine countP_lt (image_mem2 hi) (fun y hy=>?_) (by simp) (by simp;exact this)
 simp only [decide_eq_true_eq] at hy ⊢
 omega
theorem UOk.deep {s:List ABind} {σ:Sub} {rk:Str→Nat} (h:UOk s σ rk) {D:Nat} (hD:∀ v t,image s v = some t→depth t≤D):∀ v,depth (σ v)≤cnt s rk v * D+1:=by
 refine h.ind fun v ih=>?_
 cases hi:image s v with
 | none=>rw [h.free v hi];show depth (varT v)≤_;simp [varT,depth,depths]
 | some t =>
  rw [h.fix v t hi]
  obtain ⟨c,hc⟩:∃ c,cnt s rk v = c+1 ∨ cnt s rk v = 0:=by
   cases hz:cnt s rk v with
   | zero=>exact ⟨0,.inr rfl⟩
   | succ c=>exact ⟨c,.inl rfl⟩
  rcases hc with hc | hc
  ·have h1:=depth_app (σ:=σ) (M:=c * D+1) t fun w hw=>by
    have h2:=ih t w hi hw
    have h3:=h.cnt_lt hi hw
    have h4:cnt s rk w * D≤c * D:=Nat.mul_le_mul_right D (by omega)
    omega
   have h2:=hD v t hi
   rw [hc,Nat.succ_mul]
   omega
  ·have h1:=depth_app (σ:=σ) (M:=0) t fun w hw=>by
    have h3:=h.cnt_lt hi hw
    omega
   exfalso
   have:0 < cnt s rk v:=List.countP_pos_iff.2 ⟨_,image_mem2 hi,by simp⟩
   omega
theorem sorted_ext:∀ {a b:List ABind},Sorted a→Sorted b→(∀ x,x∈a ↔ x∈b)→a = b
 | [],[],_,_,_=>rfl
 | [],y :: b,_,_,h=>by have:=(h y).2 (by simp);cases this
 | x :: a,[],_,_,h=>by have:=(h x).1 (by simp);cases this
 | x :: a,y :: b,ha,hb,h=>by
  obtain ⟨h1,h2⟩:=List.pairwise_cons.1 ha
  obtain ⟨h3,h4⟩:=List.pairwise_cons.1 hb
  have e:x = y:=by
   rcases List.mem_cons.1 ((h x).1 (by simp)) with e | hx
   ·exact e
   ·rcases List.mem_cons.1 ((h y).2 (by simp)) with e | hy
    ·exact e.symm
    ·exact absurd (slt_trans (h1 y hy) (h3 x hx)) (slt_irrefl _)
  subst e
  congr 1
  refine sorted_ext h2 h4 fun z=>⟨fun hz=>?_,fun hz=>?_⟩
  ·rcases List.mem_cons.1 ((h z).1 (by simp [hz])) with e | h
   ·subst e;exact absurd (h1 z hz) (slt_irrefl _)
   ·exact h
  ·rcases List.mem_cons.1 ((h z).2 (by simp [hz])) with e | h
   ·subst e;exact absurd (h3 z hz) (slt_irrefl _)
   ·exact h
abbrev sHl (m:TM) (d:DM) (out:List ABind) (kn:MM) (J:List Ob):List Ob:=uHl m d (rowB out :: .map (encS encMt kn) :: J)
theorem take_s (m:TM) (d:DM) (out:List ABind) (kn kn':MM) (J:List Ob):takeB [0,1,2,4] (sHl m d out kn J) (kH m d kn') = sHl m d out kn' J:=by
 apply List.ext_getElem?
 intro i
 rw [takeB_get (by simp)]
 have h0:∀ n,back [0,1,2,4] n 0 = some 0:=fun _=>rfl
 have h1:∀ n,back [0,1,2,4] n 1 = some 1:=fun _=>rfl
 match i with
 | 0=>rw [if_pos (by simp)];show some (renOb _ (.map (encS encT m))) = some _;push_cast
 | 1=>rw [if_pos (by simp)];show some (renOb _ (.map (encQ encU d))) = some _;push_cast
 | 2=>rw [if_pos (by simp)];show some (renOb _ (.cells t_unify_unifier [.map 0,.map 1])) = some _;push_cast [h0,h1]
 | 3=>rw [if_pos (by simp)];rfl
 | 4=>rw [if_pos (by simp)];show some (renOb _ (.map (encS encMt kn'))) = some _;push_cast
 | i+5 =>
  have hp:pos? [0,1,2,4] (i+5) = none:=by simp [pos?,List.findIdx?_cons]
  by_cases h:i < J.length
  ·rw [if_pos (by simp;omega),hp]
   simp [List.getD_eq_getElem?_getD,h]
  ·rw [if_neg (by simp;omega)]
   have e1:(sHl m d out kn' J)[i+5]? = none:=List.getElem?_eq_none (by simp;omega)
   have e2:(kH m d kn')[[0,1,2,4].length+(i+5 - (sHl m d out kn J).length)]? = none:=List.getElem?_eq_none (by simp)
   rw [e1,e2];rfl
theorem give_s (m:TM) (d:DM) (out:List ABind) (kn:MM) (J:List Ob):give [0,1,2,4] (sHl m d out kn J) = kH m d kn:=by
 show [renOb (pos? [0,1,2,4]) (.map (encS encT m)),renOb (pos? [0,1,2,4]) (.map (encQ encU d)),renOb (pos? [0,1,2,4]) (.cells t_unify_unifier [.map 0,.map 1]),renOb (pos? [0,1,2,4]) (.map (encS encMt kn))] = _
 have h0:pos? [0,1,2,4] 0 = some 0:=rfl
 have h1:pos? [0,1,2,4] 1 = some 1:=rfl
 push_cast [h0,h1]
theorem take_b (m:TM) (d:DM) (out out':List ABind) (kn:MM) (J:List Ob):takeB [3] (sHl m d out kn J) [rowB out'] = sHl m d out' kn J:=by
 apply List.ext_getElem?
 intro i
 rw [takeB_get (by simp)]
 match i with
 | 0=>rw [if_pos (by simp)];rfl
 | 1=>rw [if_pos (by simp)];rfl
 | 2=>rw [if_pos (by simp)];rfl
 | 3=>rw [if_pos (by simp)];show some (renOb _ (rowB out')) = some _;rw [renOb_row,rens_cBs]
 | i+4 =>
  have hp:pos? [3] (i+4) = none:=by simp [pos?,List.findIdx?_cons]
  by_cases h:i+4 < (sHl m d out kn J).length
  ·rw [if_pos h,hp]
   simp only [List.length_cons] at h
   have h2:i+1 < (Ob.map (encS encMt kn) :: J).length+1:=by simp;omega
   simp only [List.getD_eq_getElem?_getD,List.getElem?_cons_succ]
   cases hx:(Ob.map (encS encMt kn) :: J)[i]? with
   | none=>rw [List.getElem?_eq_none_iff] at hx;simp at hx;omega
   | some y=>rfl
  ·rw [if_neg h]
   have e1:(sHl m d out' kn J)[i+4]? = none:=List.getElem?_eq_none (by simp at h ⊢;omega)
   have e2:([rowB out']:List Ob)[[3].length+(i+4 - (sHl m d out kn J).length)]? = none:=List.getElem?_eq_none (by simp)
   rw [e1,e2];rfl
theorem give_b (m:TM) (d:DM) (out:List ABind) (kn:MM) (J:List Ob):give [3] (sHl m d out kn J) = [rowB out]:=by
 show [renOb (pos? [3]) (rowB out)] = _
 rw [renOb_row,rens_cBs]
section
variable {N:Nat→C} {B:Nat} {k:List K} {t:T} {Q:X→T→List Ob→Prop} {dd:Option Nat} {l:List S} {f:Nat} {m:TM} {d:DM} {out out':List ABind} {kn:MM} {J:List Ob}
theorem callG_s {z:Term} {R:V→MM→Prop} (h:Spec prog f [.ptr 2 0,encT z,.map 3] (kH m d kn) fun x' H'=>∃ kn',R x' kn'∧H' = kH m d kn') (k':∀ x' kn',R x' kn'→Run prog N B (.r l :: k) (setO dd (ren (back [0,1,2,4] (J.length+5)) x') t) (sHl m d out kn' J) Q):CallG prog N B dd l k t Q (.func f) [.ptr 2 0,encT z,.map 4] (sHl m d out kn J):=by
 have h2:pos? [0,1,2,4] 2 = some 2:=rfl
 have h3:pos? [0,1,2,4] 4 = some 3:=rfl
 refine CallG.some [0,1,2,4] (by simp) (by simp) (R:=fun x' H'=>∃ kn',R x' kn'∧H' = kH m d kn') (by rw [give_s];push_cast [h2,h3];exact h) ?_
 rintro x' H' ⟨kn',hr,rfl⟩ _
 rw [take_s];exact k' x' kn' hr
theorem callG_b {v:Str} {z:Term} {n:Nat} (h:Spec prog f [.rw 0 4 n,.str v,encT z] [rowB out] fun x' H'=>x' = .rw 0 4 (n+1)∧H' = [rowB out']) (k':Run prog N B (.r l :: k) (setO dd (.rw 3 4 (n+1)) t) (sHl m d out' kn J) Q):CallG prog N B dd l k t Q (.func f) [.rw 3 4 n,.str v,encT z] (sHl m d out kn J):=by
 have h3:pos? [3] 3 = some 0:=rfl
 have h0:∀ n,back [3] n 0 = some 3:=fun _=>rfl
 refine CallG.some [3] (by simp) (by simp) (R:=fun x' H'=>x' = .rw 0 4 (n+1)∧H' = [rowB out']) (by rw [give_b];push_cast [h3];exact h) ?_
 rintro x' H' ⟨rfl,rfl⟩ _
 rw [take_b];push_cast [h0];exact k'
end
end Go.Dw
end
section
namespace Go.Dw
theorem image_bound {s:List ABind} (hs:Sorted s) {v:Str} (h:∀ b∈s,b.name ≠ v):image s v = none:=by
 cases hi:image s v with
 | none=>rfl
 | some t=>exact absurd rfl (h _ (image_mem2 hi))
theorem mem_bindT {s:List ABind} {v:Str} {t:Term} {b:ABind}:b∈bindT s v t ↔ b∈s ∨ b = ⟨v,t⟩:=by
 constructor
 ·exact bindT_mem
 ·intro h
  unfold bindT
  rw [List.mem_append,List.mem_cons]
  rcases h with h | h
  ·rw [← List.take_append_drop (lbd v s) s,List.mem_append] at h
   rcases h with h | h
   ·exact .inl h
   ·exact .inr (.inr h)
  ·exact .inr (.inl h)
theorem keys_len {s:List ABind} {m:TM} (h:MR s m) (hs:Sorted s):m.length≤s.length:=by
 have h1:(m.map (·.1)).Nodup:=h.2
 have h2:=h1.length_le_of_subset (l₂:=s.map (·.name)) fun v hv=>by
  obtain ⟨p,hp,rfl⟩:=List.mem_map.1 hv
  have h3:=getK_of_mem h.2 (k:=p.1) (x:=p.2) hp
  rw [h.1] at h3
  exact List.mem_map.2 ⟨_,image_mem2 h3,rfl⟩
 simpa using h2
section
variable {s:List ABind} {σ:Sub} {rk:Str→Nat} (hu:UOk s σ rk) {m:TM} {d:DM} (hm:MR s m) (hwb:WB s) {D:Nat} (hD:∀ v,depth (σ v)≤D) (hDb:D < 2^60) (hlen:s.length < 2^38)
include hu hm hwb hD hDb hlen
theorem solve_range (hsig:sigma s = σ):unify_Solve.L3 (.ptr 2 0) (.rw 3 4 0) (.map 4) (.it 5) 0 (sHl m d [] [] [.iter (some 0) m.length []]) (Ends 0 unify_Solve.rs fun x H'=>x = (if hugeS s then .tup [encBs [],.bool false,.int .i64 3] else .tup [encBs (wholeS s),.bool true,.int .i64 0])∧H' = []):=by
 have hml:=keys_len hm hu.srt
 have hel:(encS encT m).length = m.length:=encS_len _ _
 have hkey:∀ {i j:Nat},i < m.length→j < m.length→(m.getD i default).1 = (m.getD j default).1→i = j:=fun {i j} hi hj e=>by
  have h1:(m.map (·.1)).Nodup:=hm.2
  have:=(List.getElem_inj (i:=i) (j:=j) (h₀:=by simpa using hi) (h₁:=by simpa using hj) h1).1
  simp only [List.getElem_map] at this
  exact this (by simpa [List.getD_eq_getElem?_getD,hi,hj] using e)
 have himg:∀ {i:Nat},i < m.length→image s (m.getD i default).1 = some (m.getD i default).2:=fun {i} hi=>by
  rw [← hm.1]
  exact getK_of_mem hm.2 (getD_mem hi)
 refine range_up m.length (fun seen=>∀ (out:List ABind) (kn:MM),Sorted out→out.length = seen.length→(∀ b,b∈out ↔ ∃ i∈seen,b = ⟨(m.getD i default).1,σ (m.getD i default).1⟩)→(∀ i∈seen,fits (σ (m.getD i default).1) = true)→KnOk σ kn →
  unify_Solve.L3 (.ptr 2 0) (.rw 3 4 seen.length) (.map 4) (.it 5) 0 (sHl m d out kn [.iter (some 0) m.length seen]) (Ends 0 unify_Solve.rs fun x H'=>x = (if hugeS s then .tup [encBs [],.bool false,.int .i64 3] else .tup [encBs (wholeS s),.bool true,.int .i64 0])∧H' = [])) ?_ [] [] List.Pairwise.nil rfl (by simp) (by simp) (fun v p h=>by cases h)
 intro seen hnd hlt hl ih out kn hso hlo hmem hfit hkn
 refine unify_Solve.G3 ?_
 push_cast
 refine nxP_of 0 m.length seen (encS encT m) rfl rfl hel.symm (fun hall=>?_) (fun k p hp hk=>?_)
 ·have hout:out = wholeS s:=by
   refine sorted_ext hso ?_ fun x=>?_
   ·unfold wholeS Sorted
    rw [List.pairwise_map]
    exact hu.srt
   ·rw [hmem]
    unfold wholeS
    rw [List.mem_map,hsig]
    constructor
    ·rintro ⟨i,hi,rfl⟩
     exact ⟨_,image_mem2 (himg (hlt i hi)),rfl⟩
    ·rintro ⟨b,hb,rfl⟩
     have h1:=image_of_mem hu.srt hb
     rw [← hm.1] at h1
     obtain ⟨i,hi,e⟩:=List.getElem_of_mem (getK_mem h1)
     refine ⟨i,hall i hi,?_⟩
     have:(m.getD i default) = (b.name,b.term):=by simp [List.getD_eq_getElem?_getD,hi,e]
     rw [this]
  have hhu:hugeS s = false:=by
   unfold hugeS
   rw [List.any_eq_false]
   intro b hb
   have h1:(⟨b.name,σ b.name⟩:ABind)∈out:=by
    rw [hout];unfold wholeS;rw [hsig];exact List.mem_map_of_mem (f:=fun b:ABind=>(⟨b.name,σ b.name⟩:ABind)) hb
   obtain ⟨i,hi,e⟩:=(hmem _).1 h1
   have:=hfit i hi
   injection e with e1 e2
   rw [hsig,e2,this];simp
  rw [hhu]
  have hlo':(wholeS s).length = seen.length:=by rw [← hout,hlo]
  rw [hout]
  push_cast
  exact ⟨by simp [hlo'],pf_ret (by push_cast [unify_Solve.rs];rfl)⟩
 ·have hkl:k < m.length:=by rw [← hel];exact (List.getElem?_eq_some_iff.1 hp).1
  have hpe:p = (.str (m.getD k default).1,encT (m.getD k default).2):=by
   unfold encS at hp
   rw [List.getElem?_map] at hp
   simp [hkl] at hp
   rw [← hp];simp [List.getD_eq_getElem?_getD,hkl]
  subst hpe
  have hi:=himg hkl
  have hen:∀ (J:List Ob),enV (sHl m d out kn (.iter (some 0) m.length (seen++[k]) :: J)) (.it 5) = some (.tup [.str (m.getD k default).1,encT (m.getD k default).2]):=fun J=>by
   simp [enV,hel,hp]
  generalize hv:(m.getD k default).1 = v at hi hen
  obtain ⟨n,hn⟩:=hu.need (varT v)
  have hdv:depth (app σ (varT v))≤D:=by rw [app_var rfl];exact hD v
  have hM:=unify_measure_s hu (d:=d) hm.1 hwb n (varT v) kn hn rfl (by simp [varT,wide,wides]) (by omega) hkn
  have hW:=unify_whole_s hu (d:=d) hm.1 hwb n (varT v) hn rfl (by simp [varT,wide,wides])
  rw [app_var (t:=varT v) rfl] at hW
  have hz:V.agg [.str v,.bool true,.sl 3 []] = encT (varT v):=rfl
  have hmt:mtr σ (varT v) = (min (size (σ v)) 4001,depth (σ v)):=by unfold mtr;rw [app_var (t:=varT v) rfl];rfl
  rw [hmt] at hM
  have hfe:fits (σ v) = (decide (size (σ v)≤4000) && decide (depth (σ v)≤200)):=rfl
  generalize hp1:min (size (σ v)) 4001 = p1 at hM
  generalize hp2:depth (σ v) = p2 at hM hfe
  push_cast [hen]
  rw [hz]
  refine callG_s (J:=[_,_]) (R:=fun x' kn'=>x' = encMt (p1,p2)∧KnOk σ kn') hM ?_
  rintro x' kn' ⟨rfl,hkn'⟩
  by_cases hf:fits (σ v) = true
  ·have hf2:=hf
   rw [hfe,Bool.and_eq_true,decide_eq_true_eq,decide_eq_true_eq] at hf2
   have c1:((4000:Int) < (p1:Int)) = False:=eq_false (by omega)
   have c2:((200:Int) < (p2:Int)) = False:=eq_false (by omega)
   push_cast [encMt,c1,c2]
   rw [hz]
   have p2':pos? [0,1,2] 2 = some 2:=rfl
   refine callG_ul (J:=[_,_,_,_,_]) (by push_cast [p2']) hW ?_
   push_cast
   rw [← hlo]
   refine callG_b (J:=[_,_,_]) (unify_bind_row out v _ hso (by omega)) ?_
   have hnew:image out v = none:=image_bound hso fun b hb e=>by
    obtain ⟨i,hi2,rfl⟩:=(hmem b).1 hb
    have:=hkey (hlt i hi2) hkl (e.trans hv.symm)
    exact hk (this ▸ hi2)
   have:=ih k hkl hk (bindT out v (σ v)) kn' (bindT_sorted hso hnew) (by rw [bindT_len,hlo];simp) (fun b=>by
    rw [mem_bindT,hmem]
    constructor
    ·rintro (⟨i,hi2,rfl⟩ | rfl)
     ·exact ⟨i,by simp [hi2],rfl⟩
     ·exact ⟨k,by simp,by rw [hv]⟩
    ·rintro ⟨i,hi2,rfl⟩
     rcases List.mem_append.1 hi2 with h | h
     ·exact .inl ⟨i,h,rfl⟩
     ·rw [List.mem_singleton.1 h];exact .inr (by rw [hv])) (fun i hi2=>by
    rcases List.mem_append.1 hi2 with h | h
    ·exact hfit i h
    ·rw [List.mem_singleton.1 h,hv];exact hf) hkn'
   have hsl:(seen++[k]).length = out.length+1:=by simp [hlo]
   rw [hsl] at this
   push_cast
   push_cast at this
   exact this
  ·have hhu:hugeS s = true:=by
    unfold hugeS
    rw [List.any_eq_true]
    refine ⟨_,image_mem2 hi,?_⟩
    rw [hsig];simp [hf]
   rw [hhu,if_pos rfl]
   have hf2:¬ (size (σ v)≤4000∧p2≤200):=fun h=>hf (by rw [hfe];simp [h])
   by_cases h1:size (σ v)≤4000
   ·have c1:((4000:Int) < (p1:Int)) = False:=eq_false (by omega)
    have c2:((200:Int) < (p2:Int)) = True:=eq_true (by omega)
    push_cast [encMt,c1,c2]
    exact pf_ret (by push_cast [unify_Solve.rs];rfl)
   ·have c1:((4000:Int) < (p1:Int)) = True:=eq_true (by omega)
    push_cast [encMt,c1]
    exact pf_ret (by push_cast [unify_Solve.rs];rfl)
end
def encUn (r:List ABind × Bool × Int):V:=.tup [encBs r.1,.bool r.2.1,.int .i64 r.2.2]
structure SolveOk (l:List ARule) (Vs:List Str) (D:Nat):Prop where
 am:∀ x∈l,Among Vs x.left∧Among Vs x.right
 wd:∀ x∈l,wide x.left < 2^40∧wide x.right < 2^40
 dp:∀ x∈l,depth x.left≤D∧depth x.right≤D
 vs:Vs.length < 2^28
 hd:D < 2^28
 len:l.length < 2^40
theorem unify_Solve_s (l:List ARule) (Vs:List Str) (D:Nat) (h:SolveOk l Vs D):PF n_unify_Solve [encRs l] (encUn (unifE (l.map (·.left)) (l.map (·.right)))):=by
 obtain ⟨n,r,hr⟩:=solvesW_ends Vs (l.map (·.left)) (l.map (·.right)) [] varT (fun _=>0) UOk.nil (fun v t h=>by cases h) (by simp only [List.mem_map];rintro z ⟨x,hx,rfl⟩;exact (h.am x hx).1) (by simp only [List.mem_map];rintro z ⟨x,hx,rfl⟩;exact (h.am x hx).2)
 have hS:=solveS_eq hr
 have hlv:=h.len
 have p2:pos? [0,1,2] 2 = some 2:=rfl
 refine pf_of unify_Solve.ok rfl ?_
 push_cast
 refine loop_up (n:=l.length) (R:=fun k=>∀ (s:List ABind) (σ:Sub) (rk:Str→Nat) (m:TM) (d:DM),UOk s σ rk→MR s m→WB s→(∀ v t,image s v = some t→depth t≤D)→(∀ v t,image s v = some t→Among Vs t∧v∈Vs)→(∀ k,(getK d k).isSome = true→DoneK s k) →
   solvesW (solveN n) s ((l.map (·.left)).drop k) ((l.map (·.right)).drop k) = some r→unify_Solve.L7 (.ptr 2 0) (encRs l) (.int .i64 l.length) (.int .i64 k) 0 (uHl m d []) (Ends 0 unify_Solve.rs fun x H'=>x = encUn (unifE (l.map (·.left)) (l.map (·.right)))∧H' = [])) ?_ ?_ 0 (by omega)
  [] varT (fun _=>0) [] [] UOk.nil ⟨fun v=>rfl,List.nodup_nil⟩ (fun v t h=>by cases h) (fun v t h=>by cases h) (fun v t h=>by cases h) (fun k h=>by cases h) hr
 ·intro k hk ih s σ rk m d hu hm hwb hdp ham hdone hsol
  have hme:=getD_mem hk
  have e1:(l.map (·.left)).getD k default = (l.getD k default).left:=by simp [List.getD_eq_getElem?_getD,hk]
  have e2:(l.map (·.right)).getD k default = (l.getD k default).right:=by simp [List.getD_eq_getElem?_getD,hk]
  rw [drop_getD (show k < (l.map (·.left)).length by simpa using hk),drop_getD (show k < (l.map (·.right)).length by simpa using hk),e1,e2] at hsol
  generalize hx:l.getD k default = x at hme hsol
  obtain ⟨hal,har⟩:=h.am x hme
  obtain ⟨hwl,hwr⟩:=h.wd x hme
  obtain ⟨hdl,hdr⟩:=h.dp x hme
  simp only [solvesW] at hsol
  cases hf:solveN n s x.left x.right with
  | none=>rw [hf] at hsol;cases hsol
  | some p =>
   obtain ⟨s1,ok⟩:=p
   rw [hf] at hsol
   obtain ⟨σ1,rk1,hok⟩:=solveN_ok n s σ rk x.left x.right (s1,ok) hu hal.1 har.1 hf
   have hc:=unify_solve_s n s σ rk m d x.left x.right (s1,ok) hu hm hwb hal.1 har.1 hwl hwr hf fun k hk=>.inl (hdone k hk)
   refine unify_Solve.G7 ?_
   push_cast [ilt hk,hx]
   refine callG_u (J:=[_]) (by push_cast [p2]) hc ?_
   rintro x' m1 d1 ⟨rfl,hR⟩
   cases ok with
   | false =>
    simp only [Option.some.injEq] at hsol
    have hu2:unifE (l.map (·.left)) (l.map (·.right)) = ([],false,0):=by unfold unifE;rw [hS,← hsol];rfl
    push_cast
    rw [hu2]
    exact pf_ret (by push_cast [unify_Solve.rs];rfl)
   | true =>
    obtain ⟨hm1,hk1⟩:=hR rfl
    push_cast [w64 (show k < 2^62 by omega)]
    have:=ih s1 σ1 rk1 m1 d1 hok.ok hm1 (hwb.solve hwl hwr hf)
     (fun v t hv=>(solveN_keep (P:=fun t=>depth t≤D) (Q:=fun _=>True) (fun t a h ha=>by have:=depth_args t;have:=depth_mem ha;omega) (fun _ _ _=>trivial) n s x.left x.right _ (fun v t hv=>⟨hdp v t hv,trivial⟩) hdl hdr hf v t hv).1)
     (among_keep ham hal har hf) (fun k hk=>by
      rcases hk1 k hk with h | h
      ·exact fun θ hθ=>hdone k h θ (hθ.mono hok.ext)
      ·exact h) hsol
    push_cast at this
    exact this
 ·intro s σ rk m d hu hm hwb hdp ham hdone hsol
  have e1:(l.map (·.left)).drop l.length = []:=by rw [List.drop_eq_nil_of_le];simp
  rw [e1] at hsol
  simp only [solvesW,Option.some.injEq] at hsol
  have hlen:=among_names hu.srt ham
  have hvs:=h.vs
  have hhd:=h.hd
  have hsig:=sigma_eq hu
  have hDb:s.length * D+1 < 2^60:=by
   have:s.length * D≤2^28 * 2^28:=Nat.mul_le_mul (by omega) (by omega)
   omega
  have hq:=solve_range hu (d:=d) hm hwb (D:=s.length * D+1) (fun v=>by
   have h1:=hu.deep hdp v
   have h2:cnt s rk v * D≤s.length * D:=Nat.mul_le_mul_right D (cnt_le s rk v)
   omega) hDb (by omega) hsig
  have hu2:encUn (unifE (l.map (·.left)) (l.map (·.right))) = (if hugeS s then .tup [encBs [],.bool false,.int .i64 3] else .tup [encBs (wholeS s),.bool true,.int .i64 0]):=by
   unfold unifE
   rw [hS,← hsol]
   simp only [Bool.true_eq_false,if_false]
   cases hugeS s <;> rfl
  rw [hu2]
  refine unify_Solve.G7 ?_
  push_cast [inlt (Nat.le_refl _),encS_len]
  exact hq
end Go.Dw
end
section
namespace Go.Dw
def cNt (n:Nat):List V:=[.int .i64 n]
theorem rens_cNt {σ:Nat→Option Nat} (l:List Nat):(l.map cNt).map (rens σ) = l.map cNt:=by rw [List.map_map];rfl
attribute [push_cast] rens_cNt
end Go.Dw
end
