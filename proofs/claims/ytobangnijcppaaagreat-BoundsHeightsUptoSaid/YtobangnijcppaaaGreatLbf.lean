/-
  Contracts and lemmas for BoundsHeights: part f of 8.
-/
import Derived.Test.YtobangnijcppaaaGreatLbe
import Derived.Shelf.SlSortCmp.NoneTotal
import Derived.Ground.SlsfProg
import Derived.Shelf.Slices.In.CompactS
set_option linter.unusedVariables false
set_option linter.unusedSimpArgs false
set_option maxRecDepth 100000
section
namespace Go.Dw
mutual
def count (v:Str):Term→Nat
 | .mk n b l=>(if b && decide (n = v) then 1 else 0)+counts v l
def counts (v:Str):List Term→Nat
 | []=>0
 | a :: l=>count v a+counts v l
end
theorem count_eq (v:Str) (t:Term):count v t = (if t.var && decide (t.name = v) then 1 else 0)+counts v t.args:=by cases t;rfl
theorem counts_append (v:Str) (a b:List Term):counts v (a++b) = counts v a+counts v b:=by
 induction a with
 | nil=>simp [counts]
 | cons x xs ih=>simp [counts,ih];omega
theorem counts_take_succ (v:Str) (l:List Term) (k:Nat) (h:k < l.length):counts v (l.take (k+1)) = counts v (l.take k)+count v (l.getD k default):=by
 rw [take_succ_getD h,counts_append];simp [counts]
theorem counts_take_le (v:Str) (l:List Term) (k:Nat):counts v (l.take k)≤counts v l:=by
 conv=>rhs;rw [← List.take_append_drop k l]
 rw [counts_append];omega
mutual
theorem count_le (v:Str):∀ t,count v t≤size t
 | .mk n b l=>by simp only [count,size];have:=counts_le v l;split <;> omega
theorem counts_le (v:Str):∀ l,counts v l≤sizes l
 | []=>by simp [counts,sizes]
 | a :: l=>by simp only [counts,sizes];have:=count_le v a;have:=counts_le v l;omega
end
theorem r01_Count_s (t:Term) (v:Str) (hs:size t < 2^62):PF n_r01_Count [encT t,.str v] (.int .i64 (count v t)):=by
 induction t using term_ind with
 | h t ih =>
 have hst:=size_args t
 have hl:=length_le_sizes t.args
 have hce:=count_eq v t
 have hcl:=counts_le v t.args
 have fin:∀ c:Nat,c≤1→count v t = c+counts v t.args→r01_Count.L3 (.str v) (.int .i64 c) (encTs t.args) (.int .i64 t.args.length) (.int .i64 0) 0 [] (Ends 0 r01_Count.rs fun x' H'=>x' = .int .i64 (count v t)∧H' = []):=by
  intro c hc hcv
  refine loop_up (n:=t.args.length) (R:=fun k=>r01_Count.L3 (.str v) (.int .i64 ((c+counts v (t.args.take k):Nat):Int)) (encTs t.args) (.int .i64 t.args.length) (.int .i64 k) 0 [] _) ?_ ?_ 0 (by omega)
  ·intro k hk ih2
   have h1:=counts_take_succ v _ _ hk
   have h2:=counts_take_le v t.args (k+1)
   have hm:=getD_mem hk
   have hm2:=size_mem hm
   refine r01_Count.G3 ?_
   push_cast [ilt hk]
   refine .of (ih _ hm (by omega)) ?_
   push_cast [w64 (show k < 2^62 by omega)]
   rw [wrap64 (by omega) (by omega)]
   rw [h1] at ih2
   simpa [Int.add_assoc] using ih2
  ·refine r01_Count.G3 ?_
   push_cast [inlt (Nat.le_refl _)]
   refine pf_ret ?_
   push_cast [r01_Count.rs,List.take_length,hcv]
 refine pf_of r01_Count.ok rfl ?_
 cases hv:t.var with
 | true =>
  by_cases hn:t.name = v
  ·push_cast [hv,hn]
   exact fin 1 (by omega) (by rw [hce];simp [hv,hn])
  ·push_cast [hv,hn]
   exact fin 0 (by omega) (by rw [hce];simp [hv,hn])
 | false =>
  push_cast [hv]
  exact fin 0 (by omega) (by rw [hce];simp [hv])
def lbg {α:Type} (p:α→Bool):List α→Nat
 | []=>0
 | x :: l=>if p x then lbg p l+1 else 0
theorem lbg_le {α:Type} (p:α→Bool):∀ l:List α,lbg p l≤l.length
 | []=>Nat.le_refl _
 | x :: l=>by simp only [lbg];have:=lbg_le p l;split <;> simp <;> omega
theorem lbg_lt {α:Type} [Inhabited α] {p:α→Bool}:∀ {l:List α} {j:Nat},j < lbg p l→p (l.getD j default) = true
 | [],j,h=>by simp [lbg] at h
 | x :: l,j,h=>by
  simp only [lbg] at h
  split at h
  ·rename_i hx
   cases j with
   | zero=>simpa using hx
   | succ j=>simpa using lbg_lt (l:=l) (j:=j) (by omega)
  ·omega
theorem lbg_ge {α:Type} [Inhabited α] {p:α→Bool}:∀ {l:List α},lbg p l < l.length→p (l.getD (lbg p l) default) = false
 | [],h=>by simp at h
 | x :: l,h=>by
  simp only [lbg] at h ⊢
  split
  ·rename_i hx
   rw [if_pos hx] at h
   simpa using lbg_ge (l:=l) (by simpa using h)
  ·rename_i hx
   simpa using hx
def insS (l:List Str) (s:Str):List Str:=if lbg (fun x=>decide (x < s)) l < l.length∧l.getD (lbg (fun x=>decide (x < s)) l) default = s then l else l.take (lbg (fun x=>decide (x < s)) l)++s :: l.drop (lbg (fun x=>decide (x < s)) l)
theorem mem_insS {l:List Str} {s v:Str}:v∈insS l s ↔ v∈l ∨ v = s:=by
 unfold insS
 split
 ·rename_i h
  constructor
  ·exact .inl
  ·rintro (h2 | rfl)
   ·exact h2
   ·rw [← h.2];exact getD_mem h.1
 ·generalize lbg (fun x=>decide (x < s)) l = k
  have:=List.take_append_drop k l
  constructor
  ·intro h
   simp only [List.mem_append,List.mem_cons] at h
   rcases h with h | h | h
   ·exact .inl (List.mem_of_mem_take h)
   ·exact .inr h
   ·exact .inl (List.mem_of_mem_drop h)
  ·rintro (h | rfl)
   ·rw [← this] at h
    simp only [List.mem_append,List.mem_cons] at h ⊢
    rcases h with h | h
    ·exact .inl h
    ·exact .inr (.inr h)
   ·simp
theorem insS_len (l:List Str) (s:Str):(insS l s).length≤l.length+1:=by
 unfold insS
 have:=lbg_le (fun x=>decide (x < s)) l
 split <;> simp <;> omega
theorem r01_Insert_s (l:List Str) (s:Str) (hl:l.length < 2^40) (hn:∀ x∈l,x.length < 2^62) (hs:s.length < 2^62):PF n_r01_Insert [encSs l,.str s] (encSs (insS l s)):=by
 have hle:=lbg_le (fun x=>decide (x < s)) l
 have hge:=@lbg_ge _ _ (fun x=>decide (x < s)) l
 have hlt:=fun j=>@lbg_lt _ _ (fun x=>decide (x < s)) l j
 unfold insS
 generalize lbg (fun x=>decide (x < s)) l = a at hle hge hlt
 refine pf_of r01_Insert.ok rfl ?_
 push_cast
 refine loop_up (n:=a) (R:=fun k=>r01_Insert.L4 (encSs l) (.str s) (.int .i64 k) 0 [] _) ?_ ?_ 0 (by omega)
 ·intro k hk ih
  have hkl:k < l.length:=by omega
  have h1:cmpS (l.getD k default) s < 0:=cmpS_neg.2 (by simpa using hlt k hk)
  refine r01_Insert.G4 ?_
  push_cast [ilt hkl]
  refine .of (r01_CompareNames_s _ _ (hn _ (getD_mem hkl)) hs) ?_
  push_cast [h1,w64 (show k < 2^62 by omega)]
  exact ih
 ·refine r01_Insert.G4 ?_
  have tail:∀ m:Nat,m≤2^40→∀ b,b≤64→m * b≤maxEls:=fun m hm b hb=>Nat.le_trans (Nat.mul_le_mul hm hb) (by unfold maxEls;decide)
  rcases Nat.lt_or_ge a l.length with h | h
  ·have h2:¬ cmpS (l.getD a default) s < 0:=fun hc=>by have:=cmpS_neg.1 hc;have:=hge h;simp_all
   push_cast [ilt h]
   refine .of (r01_CompareNames_s _ _ (hn _ (getD_mem h)) hs) ?_
   by_cases he:l.getD a default = s
   ·rw [he] at h2
    push_cast [h2,ilt h,he,h]
    exact pf_ret (by push_cast [r01_Insert.rs])
   ·push_cast [h2,ilt h,he,h]
    refine ⟨⟨by omega,hle⟩,tail _ (by simp;omega) _ (by omega),tail _ (by simp;omega) _ (by omega),hle,tail _ (by simp;omega) _ (by omega),pf_ret ?_⟩
    push_cast [r01_Insert.rs]
    simp [encL,cS,List.take_of_length_le]
  ·push_cast [inlt h]
   rw [if_neg (by omega)]
   refine ⟨⟨by omega,hle⟩,tail _ (by simp;omega) _ (by omega),tail _ (by simp;omega) _ (by omega),hle,tail _ (by simp;omega) _ (by omega),pf_ret ?_⟩
   push_cast [r01_Insert.rs]
   simp [encL,cS,List.take_of_length_le]
mutual
def collectT (l:List Str):Term→List Str
 | .mk n b ar=>collectTs (if b then insS l n else l) ar
def collectTs (l:List Str):List Term→List Str
 | []=>l
 | a :: ar=>collectTs (collectT l a) ar
end
theorem collectT_eq (l:List Str) (t:Term):collectT l t = collectTs (if t.var then insS l t.name else l) t.args:=by cases t;rfl
theorem collectTs_append (a b:List Term):∀ l:List Str,collectTs l (a++b) = collectTs (collectTs l a) b:=by
 induction a with
 | nil=>intro l;simp [collectTs]
 | cons x xs ih=>intro l;simp [collectTs,ih]
theorem collectTs_take_succ (s:List Str) (l:List Term) (k:Nat) (h:k < l.length):collectTs s (l.take (k+1)) = collectT (collectTs s (l.take k)) (l.getD k default):=by
 rw [take_succ_getD h,collectTs_append];simp [collectTs]
mutual
theorem collectT_len:∀ (t:Term) (l:List Str),(collectT l t).length≤l.length+size t
 | .mk n b ar,l=>by
  simp only [collectT,size]
  have:=collectTs_len ar (if b then insS l n else l)
  have:=insS_len l n
  cases b <;> simp at * <;> omega
theorem collectTs_len:∀ (ar:List Term) (l:List Str),(collectTs l ar).length≤l.length+sizes ar
 | [],l=>by simp [collectTs,sizes]
 | a :: ar,l=>by simp only [collectTs,sizes];have:=collectT_len a l;have:=collectTs_len ar (collectT l a);omega
end
mutual
def occ (v:Str):Term→Bool
 | .mk n b ar=>(b && decide (n = v)) || occs v ar
def occs (v:Str):List Term→Bool
 | []=>false
 | a :: ar=>occ v a || occs v ar
end
mutual
theorem mem_collectT (v:Str):∀ (t:Term) (l:List Str),v∈collectT l t ↔ v∈l ∨ occ v t = true
 | .mk n b ar,l=>by
  simp only [collectT,occ,mem_collectTs v ar]
  cases b
  ·simp
  ·simp only [if_true,mem_insS,Bool.true_and,Bool.or_eq_true,decide_eq_true_eq,or_assoc]
   constructor
   ·rintro (h | h | h)
    ·exact .inl h
    ·exact .inr (.inl h.symm)
    ·exact .inr (.inr h)
   ·rintro (h | h | h)
    ·exact .inl h
    ·exact .inr (.inl h.symm)
    ·exact .inr (.inr h)
theorem mem_collectTs (v:Str):∀ (ar:List Term) (l:List Str),v∈collectTs l ar ↔ v∈l ∨ occs v ar = true
 | [],l=>by simp [collectTs,occs]
 | a :: ar,l=>by simp only [collectTs,occs,mem_collectTs v ar,mem_collectT v a,Bool.or_eq_true,or_assoc]
end
mutual
theorem occ_len (v:Str):∀ t,occ v t = true→v.length < tb t
 | .mk n b ar,h=>by
  simp only [occ,Bool.or_eq_true,Bool.and_eq_true,decide_eq_true_eq] at h
  simp only [tb]
  rcases h with ⟨_,rfl⟩ | h
  ·omega
  ·have:=occs_len v ar h;simp only [tbs] at this;omega
theorem occs_len (v:Str):∀ l,occs v l = true→v.length < tbs l
 | [],h=>by simp [occs] at h
 | a :: ar,h=>by
  simp only [occs,Bool.or_eq_true] at h
  simp only [tbs,tb.tbs]
  rcases h with h | h
  ·have:=occ_len v a h;omega
  ·have:=occs_len v ar h;simp only [tbs] at this;omega
end
mutual
theorem count_occ (v:Str):∀ t,decide (count v t = 0) = !occ v t
 | .mk n b ar=>by
  simp only [count,occ]
  have:=counts_occ v ar
  cases b <;> by_cases h:n = v <;> simp_all
theorem counts_occ (v:Str):∀ l,decide (counts v l = 0) = !occs v l
 | []=>by simp [counts,occs]
 | a :: ar=>by
  have h1:=count_occ v a
  have h2:=counts_occ v ar
  have e:counts v (a :: ar) = count v a+counts v ar:=rfl
  have e2:occs v (a :: ar) = (occ v a || occs v ar):=rfl
  rw [e2,Bool.not_or,← h1,← h2]
  by_cases c1:count v a = 0 <;> by_cases c2:counts v ar = 0 <;> simp [e,c1,c2]
end
theorem tbs_take_le (l:List Term) (k:Nat):tbs (l.take k)≤tbs l:=by
 induction l generalizing k with
 | nil=>simp
 | cons a l ih=>cases k with
  | zero=>simp [tbs,tb.tbs]
  | succ k=>simp only [List.take_succ_cons,tbs,tb.tbs];have:=ih k;simp only [tbs] at this;omega
theorem r01_collect_s (t:Term):∀ (l:List Str),tb t < 2^39→l.length+size t < 2^39→(∀ x∈l,x.length < 2^62)→PF n_r01_collect [encT t,encSs l] (encSs (collectT l t)):=by
 induction t using term_ind with
 | h t ih =>
 intro l htb hls hn
 have hst:=size_args t
 have htb2:=tb_args t
 have hll:=length_le_sizes t.args
 have hce:=collectT_eq l t
 have fin:∀ s:List Str,s = (if t.var then insS l t.name else l)→r01_collect.L3 (encSs s) (encTs t.args) (.int .i64 t.args.length) (.int .i64 0) 0 [] (Ends 0 r01_collect.rs fun x' H'=>x' = encSs (collectT l t)∧H' = []):=by
  intro s hs
  have hsl:s.length≤l.length+1:=by rw [hs];have:=insS_len l t.name;split <;> omega
  have hsn:∀ x∈s,x.length < 2^62:=by
   intro x hx
   rw [hs] at hx
   split at hx
   ·rcases mem_insS.1 hx with h | rfl
    ·exact hn x h
    ·omega
   ·exact hn x hx
  rw [← hs] at hce
  refine loop_up (n:=t.args.length) (R:=fun k=>r01_collect.L3 (encSs (collectTs s (t.args.take k))) (encTs t.args) (.int .i64 t.args.length) (.int .i64 k) 0 [] _) ?_ ?_ 0 (by omega)
  ·intro k hk ih2
   have h1:=collectTs_take_succ s _ _ hk
   have h2:=collectTs_len (t.args.take k) s
   have h3:=sizes_take_le t.args (k+1)
   rw [sizes_take_succ _ _ hk] at h3
   have hm:=getD_mem hk
   have hm3:=tb_mem hm
   refine r01_collect.G3 ?_
   push_cast [ilt hk]
   refine .of (ih _ hm _ (by omega) (by omega) fun x hx=>?_) ?_
   ·rcases (mem_collectTs x _ _).1 hx with h | h
    ·exact hsn x h
    ·have:=occs_len x _ h
     have h4:=tbs_take_le t.args k
     omega
   push_cast [w64 (show k < 2^62 by omega)]
   rw [h1] at ih2
   exact ih2
  ·refine r01_collect.G3 ?_
   push_cast [inlt (Nat.le_refl _)]
   refine pf_ret ?_
   push_cast [r01_collect.rs,List.take_length,hce]
 refine pf_of r01_collect.ok rfl ?_
 cases hv:t.var with
 | true =>
  push_cast [hv]
  refine .of (r01_Insert_s l t.name (by omega) hn (by omega)) ?_
  push_cast
  exact fin _ (by rw [hv];rfl)
 | false =>
  push_cast [hv]
  exact fin _ (by rw [hv];rfl)
def varsT (t:Term):List Str:=collectT [] t
theorem r01_Vars_s (t:Term) (ht:tb t < 2^39):PF n_r01_Vars [encTs [t]] (encSs (varsT t)):=by
 have:=size_le_tb t
 refine pf_of r01_Vars.ok rfl ?_
 push_cast
 rw [show (V.sl 1 []:V) = encSs (collectTs [] ([t].take 0)) from rfl]
 refine loop_up (n:=1) (R:=fun k=>r01_Vars.L3 (encSs (collectTs [] ([t].take k))) (encTs [t]) (.int .i64 1) (.int .i64 k) 0 [] _) ?_ ?_ 0 (by omega)
 ·intro k hk ih2
  obtain rfl:k = 0:=by omega
  refine r01_Vars.G3 ?_
  push_cast
  refine .of (r01_collect_s t [] ht (by simpa using by omega) (by simp)) ?_
  push_cast
  exact ih2
 ·refine r01_Vars.G3 ?_
  push_cast
  refine pf_ret ?_
  push_cast [r01_Vars.rs]
  rfl
def within (a b:Term):Bool:=(varsT a).all fun v=>occ v b
theorem r01_Within_s (a b:Term) (ha:tb a < 2^39) (hb:tb b < 2^39):PF n_r01_Within [encT a,encT b] (.bool (within a b)):=by
 have hsa:=size_le_tb a
 have hsb:=size_le_tb b
 have hvl:=collectT_len a []
 have hV:=r01_Vars_s a ha
 unfold within
 have e1:(.sl 3 [cT a]:V) = encTs [a]:=rfl
 have hcl:(varsT a).length < 2^62:=by unfold varsT;simp at hvl;omega
 generalize varsT a = l at hV hcl
 refine pf_of r01_Within.ok rfl ?_
 push_cast [e1]
 refine .of hV ?_
 push_cast
 refine loop_up (n:=l.length) (R:=fun k=>((l.drop k).all fun v=>occ v b) = (l.all fun v=>occ v b)→r01_Within.L3 (.ro (cT b) 0) (encSs l) (.int .i64 l.length) (.int .i64 k) 0 [] _) ?_ ?_ 0 (by omega) rfl
 ·intro k hk ih hq
  rw [drop_getD hk] at hq
  simp only [List.all_cons] at hq
  refine r01_Within.G3 ?_
  push_cast [ilt hk]
  refine .of (r01_Count_s _ _ (by omega)) ?_
  have hc:=count_occ (l.getD k default) b
  push_cast [w64 (show k < 2^62 by omega)]
  refine ⟨fun h=>pf_ret ?_,fun h=>ih ?_⟩
  ·push_cast [r01_Within.rs]
   rw [← hq]
   have h0:count (l.getD k default) b = 0:=by omega
   rw [decide_eq_true h0] at hc
   simp_all
  ·rw [← hq]
   have h0:¬ count (l.getD k default) b = 0:=by omega
   rw [decide_eq_false h0] at hc
   simp_all
 ·intro hq
  refine r01_Within.G3 ?_
  push_cast [inlt (Nat.le_refl _)]
  refine pf_ret ?_
  push_cast [r01_Within.rs]
  rw [← hq,drop_map_none];rfl
theorem r01_Rules_s (r:List ARule) (hs:rbs r < 2^61):PF n_r01_Rules [encRs r] (.int .i64 (checkRules r)):=by
 have hl:=length_le_rbs r
 refine pf_of r01_Rules.ok rfl ?_
 by_cases h64:64 < r.length
 ·have hi:((64:Int) < (r.length:Int)) = True:=eq_true (by omega)
  push_cast [hi]
  refine pf_ret ?_
  push_cast [r01_Rules.rs,checkRules,h64]
 ·have hi:((64:Int) < (r.length:Int)) = False:=eq_false (by omega)
  push_cast [hi,checkRules,h64]
  refine loop_up (n:=r.length) (R:=fun k=>checkPairs (r.drop k) = checkPairs r→r01_Rules.L3 (encRs r) (.int .i64 r.length) (.int .i64 k) 0 [] _) ?_ ?_ 0 (by omega) rfl
  ·intro k hk ih hq
   have hm:=rbs_mem (getD_mem hk)
   refine r01_Rules.G3 ?_
   rw [drop_getD hk] at hq
   simp only [checkPairs] at hq
   generalize hx:r.getD k default = x at hm hq
   have hA:=r01_CheckAll_s [x.left,x.right] (by simp) (by simp;omega)
   push_cast [ilt hk,hx,encTs_two]
   refine .of hA ?_
   push_cast [w64 (show k < 2^62 by omega)]
   refine ⟨fun h=>pf_ret ?_,fun h=>ih ?_⟩
   ·push_cast [r01_Rules.rs]
    rw [← hq,if_pos h]
   ·rw [← hq,if_neg h]
  ·intro hq
   refine r01_Rules.G3 ?_
   push_cast [inlt (Nat.le_refl _)]
   refine pf_ret ?_
   push_cast [r01_Rules.rs]
   rw [← hq,drop_map_none];rfl
end Go.Dw
end
section
namespace Go.Dw
structure ASym where
 name:Str
 arity:Int
 deriving Inhabited,DecidableEq
def cSy (s:ASym):List V:=[.str s.name,.int .i64 s.arity]
abbrev encSys (l:List ASym):V:=encL cSy 2 l
theorem cSy_len (s:ASym):(cSy s).length = 2:=rfl
theorem cSy_0 (s:ASym):(cSy s)[0]? = some (.str s.name):=rfl
theorem cSy_1 (s:ASym):(cSy s)[1]? = some (.int .i64 s.arity):=rfl
theorem own_sym {i:Nat} {l:List ASym} {n:Str} {k:Int}:(.own i 2 (l.map cSy++[[V.str n,.int .i64 k]]):V) = ownL cSy i 2 (l++[⟨n,k⟩]):=by simp [ownL,cSy]
attribute [push_cast] cSy_len cSy_0 cSy_1
abbrev syAt (l:List ASym) (n:Str):Nat:=lbg (fun x=>decide (x.name < n)) l
def insSy (l:List ASym) (n:Str) (k:Int):List ASym:=if syAt l n < l.length∧(l.getD (syAt l n) default).name = n then l else l.take (syAt l n)++⟨n,k⟩ :: l.drop (syAt l n)
mutual
def symT (l:List ASym):Term→List ASym × Bool
 | .mk n b ar=>if b then (l,true) else if marked n then (l,false) else if ((insSy l n ar.length).getD (syAt l n) default).arity ≠ ar.length then (insSy l n ar.length,false) else symTs (insSy l n ar.length) ar
def symTs (l:List ASym):List Term→List ASym × Bool
 | []=>(l,true)
 | a :: ar=>if (symT l a).2 then symTs (symT l a).1 ar else (l,false)
end
theorem symT_eq (l:List ASym) (t:Term):symT l t = if t.var then (l,true) else if marked t.name then (l,false) else if ((insSy l t.name t.args.length).getD (syAt l t.name) default).arity ≠ t.args.length then (insSy l t.name t.args.length,false) else symTs (insSy l t.name t.args.length) t.args:=by cases t;rfl
theorem insSy_len (l:List ASym) (n:Str) (k:Int):(insSy l n k).length≤l.length+1:=by
 unfold insSy
 have:=lbg_le (fun x:ASym=>decide (x.name < n)) l
 split <;> simp <;> omega
theorem mem_insSy {l:List ASym} {n:Str} {k:Int} {x:ASym} (h:x∈insSy l n k):x∈l ∨ x = ⟨n,k⟩:=by
 unfold insSy at h
 split at h
 ·exact .inl h
 ·simp only [List.mem_append,List.mem_cons] at h
  rcases h with h | h | h
  ·exact .inl (List.mem_of_mem_take h)
  ·exact .inr h
  ·exact .inl (List.mem_of_mem_drop h)
def Few (M:Nat) (m:Nat) (l:List ASym):Prop:=l.length≤m∧∀ x∈l,x.name.length < M
theorem Few.ins {M m:Nat} {l:List ASym} (h:Few M m l) {n:Str} {k:Int} (hn:n.length < M):Few M (m+1) (insSy l n k):=by
 refine ⟨by have:=insSy_len l n k;have:=h.1;omega,fun x hx=>?_⟩
 rcases mem_insSy hx with h1 | rfl
 ·exact h.2 x h1
 ·exact hn
mutual
theorem few_symT {M:Nat}:∀ (t:Term) (m:Nat) (l:List ASym),Few M m l→tb t≤M→Few M (m+size t) (symT l t).1
 | .mk n b ar,m,l,h,ht=>by
  simp only [tb] at ht
  have h0:Few M (m+size (.mk n b ar)) l:=⟨by have:=h.1;omega,h.2⟩
  have h1:=h.ins (n:=n) (k:=ar.length) (by omega)
  have h2:Few M (m+size (.mk n b ar)) (insSy l n ar.length):=⟨by have:=h1.1;simp only [size];omega,h1.2⟩
  have h3:=few_symTs ar (m+1) _ h1 (by simp only [tbs];omega)
  simp only [symT]
  split
  ·exact h0
  split
  ·exact h0
  split
  ·exact h2
  ·exact ⟨by have:=h3.1;simp only [size];omega,h3.2⟩
theorem few_symTs {M:Nat}:∀ (ar:List Term) (m:Nat) (l:List ASym),Few M m l→tbs ar≤M→Few M (m+sizes ar) (symTs l ar).1
 | [],m,l,h,_=>by simpa [symTs,sizes] using h
 | a :: ar,m,l,h,ht=>by
  simp only [tbs,tb.tbs] at ht
  have h1:=few_symT a m l h (by omega)
  have h2:=few_symTs ar _ _ h1 (by simp only [tbs];omega)
  simp only [symTs]
  split
  ·exact ⟨by have:=h2.1;simp only [sizes];omega,h2.2⟩
  ·exact ⟨by have:=h.1;show l.length≤_;omega,h.2⟩
end
theorem symTs_append (a b:List Term):∀ l:List ASym,(symTs l a).2 = true→symTs l (a++b) = symTs (symTs l a).1 b:=by
 induction a with
 | nil=>intro l _;rfl
 | cons x xs ih =>
  intro l h
  simp only [symTs,List.cons_append] at h ⊢
  by_cases hx:(symT l x).2 = true
  ·rw [if_pos hx] at h ⊢
   rw [if_pos hx]
   exact ih _ h
  ·rw [if_neg hx] at h
   cases h
set_option maxHeartbeats 1000000 in
theorem r01_symbols_s (t:Term):∀ (m:Nat) (l:List ASym),tb t < 2^39→m+size t < 2^39→Few (2^39) m l→PF n_r01_symbols [encT t,encSys l] (.tup [encSys (symT l t).1,.bool (symT l t).2]):=by
 induction t using term_ind with
 | h t ih =>
 intro m l htb hms hf
 have hst:=size_args t
 have htb2:=tb_args t
 have hll:=length_le_sizes t.args
 have hse:=symT_eq l t
 have hl:l.length < 2^39:=by have:=hf.1;omega
 refine pf_of r01_symbols.ok rfl ?_
 cases hv:t.var with
 | true =>
  rw [hv,if_pos rfl] at hse
  push_cast [hv]
  exact pf_ret (by push_cast [r01_symbols.rs,hse])
 | false =>
 rw [hv,if_neg (by simp)] at hse
 push_cast [hv]
 refine .of (r01_Marked_s t.name (by omega)) ?_
 cases hmk:hasSuf t.name [35] with
 | true =>
  have hmk':marked t.name = true:=hmk
  rw [hmk',if_pos rfl] at hse
  push_cast
  exact pf_ret (by push_cast [r01_symbols.rs,hse])
 | false =>
 have hmk':marked t.name = false:=hmk
 rw [hmk',if_neg (by simp)] at hse
 have hI:=insSy_len l t.name t.args.length
 have hF:=hf.ins (n:=t.name) (k:=t.args.length) (by omega)
 have hle:syAt l t.name≤l.length:=lbg_le (fun x:ASym=>decide (x.name < t.name)) l
 have hge:syAt l t.name < l.length→¬ (l.getD (syAt l t.name) default).name < t.name:=fun h=>of_decide_eq_false (@lbg_ge _ _ (fun x:ASym=>decide (x.name < t.name)) l h)
 have hlt:∀ j,j < syAt l t.name→(l.getD j default).name < t.name:=fun j h=>of_decide_eq_true (@lbg_lt _ _ (fun x:ASym=>decide (x.name < t.name)) l j h)
 have hat:syAt l t.name < (insSy l t.name t.args.length).length:=by
  unfold insSy
  split
  ·rename_i h;exact h.1
  ·rw [List.length_append,List.length_take,List.length_cons,Nat.min_eq_left hle];omega
 have hins:insSy l t.name t.args.length = if syAt l t.name < l.length∧(l.getD (syAt l t.name) default).name = t.name then l else l.take (syAt l t.name)++⟨t.name,t.args.length⟩ :: l.drop (syAt l t.name):=rfl
 generalize insSy l t.name t.args.length = l1 at *
 have kids:(l1.getD (syAt l t.name) default).arity = t.args.length→r01_symbols.L3 (encSys l1) (encTs t.args) (.int .i64 t.args.length) (.int .i64 0) 0 [] (Ends 0 r01_symbols.rs fun x' H'=>x' = .tup [encSys (symT l t).1,.bool (symT l t).2]∧H' = []):=by
  intro har
  rw [if_neg (by simpa using har)] at hse
  rw [hse]
  refine loop_up (n:=t.args.length) (R:=fun k=>(symTs l1 (t.args.take k)).2 = true→r01_symbols.L3 (encSys (symTs l1 (t.args.take k)).1) (encTs t.args) (.int .i64 t.args.length) (.int .i64 k) 0 [] _) ?_ ?_ 0 (by omega) rfl
  ·intro k hk ih2 hok
   have hm:=getD_mem hk
   have hm3:=tb_mem hm
   have h3:=sizes_take_le t.args (k+1)
   rw [sizes_take_succ _ _ hk] at h3
   have hFk:=few_symTs (t.args.take k) _ _ hF (by have:=tbs_take_le t.args k;omega)
   have hcat:symTs l1 (t.args.take (k+1)) = if (symT (symTs l1 (t.args.take k)).1 (t.args.getD k default)).2 then (symT (symTs l1 (t.args.take k)).1 (t.args.getD k default)) else ((symTs l1 (t.args.take k)).1,false):=by
    rw [take_succ_getD hk,symTs_append _ _ _ hok]
    simp only [symTs]
    split
    ·rename_i h;exact Prod.ext rfl h.symm
    ·rfl
   have hend:(symT (symTs l1 (t.args.take k)).1 (t.args.getD k default)).2 = false→symTs l1 t.args = ((symTs l1 (t.args.take k)).1,false):=by
    intro h
    conv=>lhs;rw [← List.take_append_drop k t.args]
    rw [symTs_append _ _ _ hok,drop_getD hk]
    simp only [symTs,h]
    rfl
   refine r01_symbols.G3 ?_
   push_cast [ilt hk]
   refine .of (ih _ hm _ _ (by omega) (by omega) hFk) ?_
   cases hb:(symT (symTs l1 (t.args.take k)).1 (t.args.getD k default)).2 with
   | false =>
    push_cast
    refine pf_ret ?_
    push_cast [r01_symbols.rs,hend hb]
   | true =>
    rw [hb,if_pos rfl] at hcat
    push_cast [w64 (show k < 2^62 by omega)]
    rw [hcat] at ih2
    exact ih2 hb
  ·intro hok
   rw [List.take_length] at hok
   refine r01_symbols.G3 ?_
   push_cast [inlt (Nat.le_refl _)]
   refine pf_ret ?_
   push_cast [r01_symbols.rs,List.take_length,hok]
 generalize syAt l t.name = a at *
 push_cast
 refine loop_up (n:=a) (R:=fun k=>r01_symbols.L9 (encSys l) (.ro (cT t) 0) (.int .i64 k) 0 [] _) ?_ ?_ 0 (by omega)
 ·intro k hk ih2
  have hkl:k < l.length:=by omega
  have h1:cmpS (l.getD k default).name t.name < 0:=cmpS_neg.2 (hlt k hk)
  refine r01_symbols.G9 ?_
  push_cast [ilt hkl]
  refine .of (r01_CompareNames_s _ _ (by have:=hf.2 _ (getD_mem hkl);omega) (by omega)) ?_
  push_cast [h1,w64 (show k < 2^62 by omega)]
  exact ih2
 ·refine r01_symbols.G9 ?_
  have tail:∀ m:Nat,m≤2^40→∀ b,b≤64→m * b≤maxEls:=fun m hm b hb=>Nat.le_trans (Nat.mul_le_mul hm hb) (by unfold maxEls;decide)
  have e1:(l.drop 0).take (a - 0) = l.take a:=by simp
  have e2:(l.drop a).take (l.length - a) = l.drop a:=by rw [List.take_of_length_le];simp
  rcases Nat.lt_or_ge a l.length with h | h
  ·have h2:¬ cmpS (l.getD a default).name t.name < 0:=fun hc=>hge h (cmpS_neg.1 hc)
   have h3:((a:Int) = (l.length:Int)) = False:=eq_false (by omega)
   push_cast [ilt h]
   refine .of (r01_CompareNames_s _ _ (by have:=hf.2 _ (getD_mem h);omega) (by omega)) ?_
   by_cases he:(l.getD a default).name = t.name
   ·rw [if_pos ⟨h,he⟩] at hins
    subst hins
    rw [he] at h2
    push_cast [h2,h3,he,ilt h]
    refine ⟨fun har=>pf_ret ?_,fun har=>kids (by simpa using har)⟩
    rw [if_pos har] at hse
    push_cast [r01_symbols.rs,hse]
   ·rw [if_neg (fun hh=>he hh.2)] at hins
    push_cast [h2,h3,he,ilt h,own_sym,e1,e2,List.cons_append,List.nil_append,← hins,hat]
    refine ⟨⟨by omega,hle⟩,tail _ (by simp;omega) _ (by omega),tail _ (by simp;omega) _ (by omega),hle,⟨by simp,tail _ (by simp;omega) _ (by omega)⟩,by omega,fun har=>pf_ret ?_,fun har=>kids (by simpa using har)⟩
    rw [if_pos har] at hse
    push_cast [r01_symbols.rs,hse]
  ·rw [if_neg (fun hh=>by omega)] at hins
   have h3:((a:Int) = (l.length:Int)) = True:=eq_true (by omega)
   push_cast (maxSteps:=1000000) [inlt h,h3,own_sym,e1,e2,List.cons_append,List.nil_append,← hins,hat]
   refine ⟨⟨by omega,hle⟩,tail _ (by simp;omega) _ (by omega),tail _ (by simp;omega) _ (by omega),hle,⟨by simp,tail _ (by simp;omega) _ (by omega)⟩,by omega,fun har=>pf_ret ?_,fun har=>kids (by simpa using har)⟩
   rw [if_pos har] at hse
   push_cast [r01_symbols.rs,hse]
end Go.Dw
end
section
namespace Go.Dw
open Go.Proofs (sortS)
def symRs (l:List ASym):List ARule→List ASym × Bool
 | []=>(l,true)
 | x :: r=>if (symT l x.left).2 then if (symT (symT l x.left).1 x.right).2 then symRs (symT (symT l x.left).1 x.right).1 r else ([],false) else ([],false)
theorem r01_Symbols_s (r:List ARule) (hs:rbs r < 2^38):PF n_r01_Symbols [encRs r] (.tup [encSys (symRs [] r).1,.bool (symRs [] r).2]):=by
 have hl:=length_le_rbs r
 have hw1:IntKind.i64.wrap 1 = 1:=wrap64 (by omega) (by omega)
 have hw2:IntKind.i64.wrap 2 = 2:=wrap64 (by omega) (by omega)
 refine pf_of r01_Symbols.ok rfl ?_
 push_cast
 rw [show (V.sl 2 []:V) = encSys [] from rfl]
 refine loop_up (n:=r.length) (R:=fun k=>∀ l m,Few (2^39) m l→m+rbs (r.drop k) < 2^38→symRs l (r.drop k) = symRs [] r→r01_Symbols.L6 (encSys l) (encRs r) (.int .i64 r.length) (.int .i64 k) 0 [] (Ends 0 r01_Symbols.rs fun x' H'=>x' = .tup [encSys (symRs [] r).1,.bool (symRs [] r).2]∧H' = [])) ?_ ?_ 0 (by omega) [] 0 ⟨by simp,by simp⟩ (by simpa using hs) rfl
 ·intro k hk ih l m hf hm hq
  have hr:=rbs_mem (getD_mem hk)
  rw [drop_getD hk] at hm hq
  simp only [rbs,symRs] at hm hq
  generalize hx:r.getD k default = x at hm hq hr
  have s1:=size_le_tb x.left
  have s2:=size_le_tb x.right
  have hf1:=few_symT x.left m l hf (by omega)
  have hf2:=few_symT x.right _ _ hf1 (by omega)
  refine r01_Symbols.G6 ?_
  push_cast [ilt hk,hx,encTs_two]
  refine r01_Symbols.G4 ?_
  push_cast
  refine .of (r01_symbols_s x.left m l (by omega) (by omega) hf) ?_
  cases h1:(symT l x.left).2 with
  | false =>
   rw [if_neg (by simp [h1])] at hq
   push_cast
   refine pf_ret ?_
   push_cast [r01_Symbols.rs,← hq]
   rfl
  | true =>
   rw [if_pos h1] at hq
   push_cast [hw1]
   refine r01_Symbols.G4 ?_
   push_cast
   refine .of (r01_symbols_s x.right _ _ (by omega) (by omega) hf1) ?_
   cases h2:(symT (symT l x.left).1 x.right).2 with
   | false =>
    rw [if_neg (by simp [h2])] at hq
    push_cast
    refine pf_ret ?_
    push_cast [r01_Symbols.rs,← hq]
    rfl
   | true =>
    rw [if_pos h2] at hq
    push_cast [hw2]
    refine r01_Symbols.G4 ?_
    push_cast [w64 (show k < 2^62 by omega)]
    exact ih _ _ hf2 (by omega) hq
 ·intro l m hf hm hq
  refine r01_Symbols.G6 ?_
  push_cast [inlt (Nat.le_refl _)]
  refine pf_ret ?_
  rw [drop_map_none] at hq
  push_cast [r01_Symbols.rs,← hq]
  exact ⟨rfl,rfl⟩
def extraR (x:ARule):Bool:=x.left.var || !within x.right x.left
def checkSystemR (r:List ARule):Int:=if checkRules r ≠ 0 then checkRules r else if (symRs [] r).2 then (if r.any extraR then 7 else 0) else 6
theorem r01_CheckSystem_sR (r:List ARule) (hs:rbs r < 2^38):PF n_r01_CheckSystem [encRs r] (.int .i64 (checkSystemR r)):=by
 have hl:=length_le_rbs r
 refine pf_of r01_CheckSystem.ok rfl ?_
 push_cast
 refine .of (r01_Rules_s r (by omega)) ?_
 unfold checkSystemR
 by_cases h1:checkRules r = 0
 ·rw [if_neg (by simpa using h1)]
  push_cast [h1]
  refine .of (r01_Symbols_s r hs) ?_
  cases h2:(symRs [] r).2 with
  | false =>
   push_cast
   refine pf_ret ?_
   push_cast [r01_CheckSystem.rs]
  | true =>
   push_cast
   refine loop_up (n:=r.length) (R:=fun k=>(r.drop k).any extraR = r.any extraR→r01_CheckSystem.L3 (encRs r) (.int .i64 r.length) (.int .i64 k) 0 [] _) ?_ ?_ 0 (by omega) rfl
   ·intro k hk ih hq
    have hr:=rbs_mem (getD_mem hk)
    rw [drop_getD hk] at hq
    simp only [List.any_cons] at hq
    generalize hx:r.getD k default = x at hq hr
    refine r01_CheckSystem.G3 ?_
    cases hv:x.left.var with
    | true =>
     push_cast [ilt hk,hx,hv]
     refine pf_ret ?_
     push_cast [r01_CheckSystem.rs,← hq,extraR,hv]
     simp
    | false =>
     push_cast [ilt hk,hx,hv]
     refine .of (r01_Within_s _ _ (by omega) (by omega)) ?_
     cases hw:within x.right x.left with
     | false =>
      push_cast
      refine pf_ret ?_
      push_cast [r01_CheckSystem.rs,← hq,extraR,hv,hw]
      rfl
     | true =>
      push_cast [w64 (show k < 2^62 by omega)]
      exact ih (by rw [← hq];simp [extraR,hv,hw])
   ·intro hq
    rw [drop_map_none] at hq
    refine r01_CheckSystem.G3 ?_
    push_cast [inlt (Nat.le_refl _)]
    refine pf_ret ?_
    push_cast [r01_CheckSystem.rs,← hq]
    rfl
 ·rw [if_pos h1]
  push_cast [h1]
  refine pf_ret ?_
  push_cast [r01_CheckSystem.rs]
theorem mem_foldl_addS (v:Str):∀ (l ks:List Str),v∈l.foldl addS ks ↔ v∈ks ∨ v∈l
 | [],ks=>by simp
 | x :: l,ks=>by
  rw [List.foldl_cons,mem_foldl_addS v l]
  unfold addS
  split
  ·rename_i h
   simp only [List.mem_cons]
   constructor
   ·rintro (h1 | h1)
    ·exact .inl h1
    ·exact .inr (.inr h1)
   ·rintro (h1 | rfl | h1)
    ·exact .inl h1
    ·exact .inl h
    ·exact .inr h1
  ·simp [or_assoc]
theorem varsIn_cons (x:List Int × Term) (l:List (List Int × Term)):varsIn (x :: l) = if x.2.var then x.2.name :: varsIn l else varsIn l:=by
 unfold varsIn;rw [List.filter_cons];split <;> rfl
theorem varsIn_append (a b:List (List Int × Term)):varsIn (a++b) = varsIn a++varsIn b:=by
 unfold varsIn;rw [List.filter_append,List.map_append]
mutual
theorem mem_varsIn (v:Str):∀ (t:Term) (p:List Int),v∈varsIn (visit t p) ↔ occ v t = true
 | .mk n b ar,p=>by
  have h:=mem_varsIns v ar p 0
  rw [visit_eq,varsIn_cons]
  cases b
  ·rw [if_neg (by simp [Term.var])]
   simpa [occ,Term.args] using h
  ·rw [if_pos (by simp [Term.var])]
   simp only [occ,Bool.true_and,Bool.or_eq_true,decide_eq_true_eq,List.mem_cons,← h]
   exact ⟨fun h=>h.imp (fun e=>e.symm) id,fun h=>h.imp (fun e=>e.symm) id⟩
theorem mem_varsIns (v:Str):∀ (ar:List Term) (p:List Int) (i:Nat),v∈varsIn (visits ar p i) ↔ occs v ar = true
 | [],p,i=>by simp [visits,varsIn,occs]
 | a :: ar,p,i=>by
  have h1:=mem_varsIn v a (p++[(i:Int)])
  have h2:=mem_varsIns v ar p (i+1)
  simp only [visits,varsIn_append,List.mem_append,h1,h2,occs,Bool.or_eq_true]
end
theorem mem_varsOf (v:Str) (t:Term):v∈varsOf [t] ↔ occ v t = true:=by
 unfold varsOf
 rw [show (v∈sortS (vsetT [] [t])) ↔ v∈vsetT [] [t] from (List.mergeSort_perm _ _).mem_iff]
 simp only [vsetT,List.foldl_cons,List.foldl_nil,vset,mem_foldl_addS,mem_varsIn,List.not_mem_nil,false_or]
theorem extra_eq (x:ARule):extra x = extraR x:=by
 unfold extra extraR within
 congr 1
 rw [Bool.eq_iff_iff]
 simp only [List.any_eq_true,Bool.not_eq_true',decide_eq_false_iff_not,mem_varsOf,List.all_eq_false,varsT,mem_collectT,List.not_mem_nil,false_or]
theorem getA_append (m:Ars) (n v:Str) (k:Nat):getA (m++[(n,k)]) v = match getA m v with | some a=>some a | none=>if n = v then some k else none:=by
 induction m with
 | nil=>simp [getA]
 | cons p m ih =>
  simp only [List.cons_append,getA]
  split
  ·rfl
  ·exact ih
def getSy:List ASym→Str→Option Int
 | [],_=>none
 | x :: l,n=>if x.name = n then some x.arity else getSy l n
abbrev SySorted (l:List ASym):Prop:=l.Pairwise fun a b=>a.name < b.name
theorem getSy_none {l:List ASym} {n:Str} (h:∀ x∈l,x.name ≠ n):getSy l n = none:=by
 induction l with
 | nil=>rfl
 | cons x l ih=>simp only [getSy];rw [if_neg (h x (by simp))];exact ih fun y hy=>h y (by simp [hy])
theorem getSy_at {n:Str}:∀ {l:List ASym},SySorted l→getSy l n = if syAt l n < l.length∧(l.getD (syAt l n) default).name = n then some (l.getD (syAt l n) default).arity else none
 | [],_=>by simp [getSy]
 | x :: l,hs=>by
  obtain ⟨h1,h2⟩:=List.pairwise_cons.1 hs
  have ih:=getSy_at (n:=n) h2
  by_cases hx:x.name < n
  ·have e:syAt (x :: l) n = syAt l n+1:=by simp [syAt,lbg,hx]
   simp only [getSy,e]
   rw [if_neg (fun e2:x.name = n=>slt_irrefl n (by rw [e2] at hx;exact hx)),ih]
   simp
  ·have e:syAt (x :: l) n = 0:=by simp only [syAt,lbg];rw [if_neg (by simpa using hx)]
   simp only [getSy,e]
   by_cases he:x.name = n
   ·simp [he]
   ·rw [if_neg he]
    simp only [List.length_cons,Nat.zero_lt_succ,true_and,List.getD_cons_zero,he,if_false]
    refine getSy_none fun y hy e=>?_
    have:=h1 y hy
    rw [e] at this
    exact hx this
def insR (n:Str) (k:Int):List ASym→List ASym
 | []=>[⟨n,k⟩]
 | x :: l=>if x.name < n then x :: insR n k l else ⟨n,k⟩ :: x :: l
theorem insR_eq (n:Str) (k:Int):∀ l:List ASym,l.take (syAt l n)++⟨n,k⟩ :: l.drop (syAt l n) = insR n k l
 | []=>rfl
 | x :: l=>by
  have ih:=insR_eq n k l
  by_cases hx:x.name < n
  ·have e:syAt (x :: l) n = syAt l n+1:=by simp [syAt,lbg,hx]
   simp only [insR]
   rw [if_pos hx,e,List.take_succ_cons,List.drop_succ_cons,List.cons_append,ih]
  ·have e:syAt (x :: l) n = 0:=by simp only [syAt,lbg];rw [if_neg (by simpa using hx)]
   simp only [insR]
   rw [if_neg hx,e];rfl
theorem mem_insR {n:Str} {k:Int} {x:ASym}:∀ {l:List ASym},x∈insR n k l ↔ x = ⟨n,k⟩ ∨ x∈l
 | []=>by simp [insR]
 | y :: l=>by
  simp only [insR]
  split
  ·simp only [List.mem_cons,mem_insR (l:=l)]
   constructor
   ·rintro (h | h | h)
    ·exact .inr (.inl h)
    ·exact .inl h
    ·exact .inr (.inr h)
   ·rintro (h | h | h)
    ·exact .inr (.inl h)
    ·exact .inl h
    ·exact .inr (.inr h)
  ·simp
theorem insR_sorted {n:Str} {k:Int}:∀ {l:List ASym},SySorted l→(∀ x∈l,x.name ≠ n)→SySorted (insR n k l)
 | [],_,_=>by simp [insR,SySorted]
 | x :: l,hs,hn=>by
  obtain ⟨h1,h2⟩:=List.pairwise_cons.1 hs
  simp only [insR]
  split
  ·rename_i hx
   refine List.pairwise_cons.2 ⟨fun y hy=>?_,insR_sorted h2 fun y hy=>hn y (by simp [hy])⟩
   rcases mem_insR.1 hy with rfl | h
   ·exact hx
   ·exact h1 y h
  ·rename_i hx
   have hlt:n < x.name:=by
    rcases Classical.em (n < x.name) with h | h
    ·exact h
    ·exact absurd (slt_eq hx h) (hn x (by simp))
   refine List.pairwise_cons.2 ⟨fun y hy=>?_,hs⟩
   rcases List.mem_cons.1 hy with rfl | h
   ·exact hlt
   ·exact slt_trans hlt (h1 y h)
theorem getSy_insR {n v:Str} {k:Int}:∀ {l:List ASym},(∀ x∈l,x.name ≠ n)→getSy (insR n k l) v = if n = v then some k else getSy l v
 | [],_=>by simp [insR,getSy]
 | x :: l,hn=>by
  simp only [insR]
  split
  ·simp only [getSy]
   rw [getSy_insR fun y hy=>hn y (by simp [hy])]
   by_cases h:x.name = v
   ·rw [if_pos h,if_pos h,if_neg (fun e=>hn x (by simp) (h.trans e.symm))]
   ·rw [if_neg h,if_neg h]
  ·simp only [getSy]
theorem getSy_some {l:List ASym} {n:Str} {x:ASym} (hx:x∈l) (hn:x.name = n):getSy l n ≠ none:=by
 induction l with
 | nil=>cases hx
 | cons y l ih =>
  simp only [getSy]
  split
  ·simp
  ·rename_i h
   rcases List.mem_cons.1 hx with rfl | hx
   ·exact absurd hn h
   ·exact ih hx
def mk (m:Ars):Bool:=m.any fun p=>marked p.1
def Rel (l:List ASym) (m:Ars):Prop:=SySorted l∧(∀ n,getSy l n = (getA m n).map fun k:Nat=>(k:Int))∧mk m = false
theorem mk_getA {m:Ars} {n:Str} {k:Nat} (h:getA m n = some k) (hm:mk m = false):marked n = false:=by
 induction m with
 | nil=>cases h
 | cons p m ih =>
  simp only [mk,List.any_cons,Bool.or_eq_false_iff] at hm
  simp only [getA] at h
  split at h
  ·rename_i e;rw [← e];exact hm.1
  ·exact ih h hm.2
theorem arStep_mk {m m':Ars} {u:Term} (h:arStep m u = some m') (hm:mk m = true):mk m' = true:=by
 unfold arStep at h
 split at h
 ·cases h;exact hm
 ·split at h
  ·split at h
   ·cases h;exact hm
   ·cases h
  ·cases h
   simp only [mk,List.any_append,Bool.or_eq_true] at hm ⊢
   exact .inl hm
theorem arAll_mk:∀ (l:List (List Int × Term)) {m m':Ars},arAll m l = some m'→mk m = true→mk m' = true
 | [],m,m',h,hm=>by cases h;exact hm
 | x :: l,m,m',h,hm=>by
  simp only [arAll] at h
  cases hs:arStep m x.2 with
  | none=>rw [hs] at h;cases h
  | some m1 =>
   rw [hs,Option.bind_some] at h
   exact arAll_mk l h (arStep_mk hs hm)
def Says (o:Option Ars) (s:List ASym × Bool):Prop:=match o with
 | none=>s.2 = false
 | some m=>if mk m then s.2 = false else s.2 = true∧Rel s.1 m
theorem insSy_eq (l:List ASym) (n:Str) (k:Int) (hs:SySorted l):insSy l n k = if getSy l n = none then insR n k l else l:=by
 unfold insSy
 rw [getSy_at hs,insR_eq]
 split
 ·simp
 ·simp
theorem sy_new {l:List ASym} {n:Str} {k:Int}:(l.take (syAt l n)++⟨n,k⟩ :: l.drop (syAt l n)).getD (syAt l n) default = ⟨n,k⟩:=by
 have hle:syAt l n≤l.length:=lbg_le (fun x:ASym=>decide (x.name < n)) l
 rw [List.getD_eq_getElem?_getD,List.getElem?_append_right (by simp;omega),List.length_take,Nat.min_eq_left hle]
 simp
mutual
theorem says_T:∀ (t:Term) (p:List Int) (l:List ASym) (m:Ars),Rel l m→formed t = true→Says (arAll m (visit t p)) (symT l t)
 | .mk n b ar,p,l,m,hR,hf=>by
  have ht:=formed_eq (.mk n b ar)
  rw [hf] at ht
  simp only [Term.var,Term.args,Term.name] at ht
  simp only [visit_eq,arAll,symT,Term.args]
  cases b with
  | true =>
   simp only [if_true] at ht
   have har:ar = []:=by
    have:=ht.symm
    simp only [Bool.and_eq_true,decide_eq_true_eq] at this
    exact List.length_eq_zero_iff.1 (of_decide_eq_true this.1)
   subst har
   simp only [arStep,Term.var,if_true,visits,arAll,Option.bind_some,Says,hR.2.2,Bool.false_eq_true,if_false]
   exact ⟨trivial,hR⟩
  | false =>
   have hfs:formeds ar = true:=by
    rw [formeds_all]
    have:=ht.symm
    simp only [Bool.false_eq_true,if_false,Bool.and_eq_true] at this
    exact this.2.2
   simp only [Bool.false_eq_true,if_false]
   by_cases hmk:marked n = true
   ·rw [if_pos hmk]
    have hg:getA m n = none:=by
     cases hg:getA m n with
     | none=>rfl
     | some k=>rw [mk_getA hg hR.2.2] at hmk;cases hmk
    have hst:arStep m (.mk n false ar) = some (m++[(n,ar.length)]):=by simp [arStep,Term.var,Term.name,Term.args,hg]
    rw [hst,Option.bind_some]
    have hm1:mk (m++[(n,ar.length)]) = true:=by simp [mk,hmk]
    cases hr:arAll (m++[(n,ar.length)]) (visits ar p 0) with
    | none=>rfl
    | some m'=>simp only [Says,arAll_mk _ hr hm1,if_true]
   ·rw [if_neg hmk]
    have hg2:=hR.2.1 n
    have hat:=getSy_at (n:=n) hR.1
    cases hg:getA m n with
    | some k =>
     rw [hg] at hg2
     have hne:¬ getSy l n = none:=by rw [hg2];simp
     have hins:insSy l n ar.length = l:=by rw [insSy_eq _ _ _ hR.1,if_neg hne]
     have har:(l.getD (syAt l n) default).arity = k:=by
      rw [hg2] at hat
      split at hat
      ·simpa using hat.symm
      ·cases hat
     rw [hins,har]
     by_cases hk:k = ar.length
     ·have hst:arStep m (.mk n false ar) = some m:=by simp [arStep,Term.var,Term.name,Term.args,hg,hk]
      rw [hst,Option.bind_some,if_neg (by simp [hk])]
      exact says_Ts ar p 0 l m hR hfs
     ·have hst:arStep m (.mk n false ar) = none:=by simp [arStep,Term.var,Term.name,Term.args,hg,hk]
      rw [hst,if_pos (by simp;omega)]
      rfl
    | none =>
     rw [hg] at hg2
     have hg2':getSy l n = none:=hg2
     have hnm:∀ x∈l,x.name ≠ n:=fun x hx e=>getSy_some hx e hg2'
     have hst:arStep m (.mk n false ar) = some (m++[(n,ar.length)]):=by simp [arStep,Term.var,Term.name,Term.args,hg]
     have hins:insSy l n ar.length = insR n ar.length l:=by rw [insSy_eq _ _ _ hR.1,if_pos hg2']
     have hnew:((insR n ar.length l).getD (syAt l n) default).arity = ar.length:=by rw [← insR_eq,sy_new]
     rw [hst,Option.bind_some,hins,hnew,if_neg (by simp)]
     refine says_Ts ar p 0 _ _ ⟨insR_sorted hR.1 hnm,fun v=>?_,?_⟩ hfs
     ·rw [getSy_insR hnm,getA_append,hR.2.1 v]
      by_cases e:n = v
      ·subst e;rw [if_pos rfl,if_pos rfl,hg];rfl
      ·rw [if_neg e,if_neg e];cases getA m v <;> rfl
     ·have:=hR.2.2
      simp only [mk] at this ⊢
      rw [List.any_append,this]
      simpa using hmk
theorem says_Ts:∀ (ar:List Term) (p:List Int) (i:Nat) (l:List ASym) (m:Ars),Rel l m→formeds ar = true→Says (arAll m (visits ar p i)) (symTs l ar)
 | [],p,i,l,m,hR,_=>by
  simp only [visits,arAll,symTs,Says,hR.2.2,Bool.false_eq_true,if_false]
  exact ⟨trivial,hR⟩
 | a :: ar,p,i,l,m,hR,hf=>by
  simp only [formeds,Bool.and_eq_true] at hf
  have h1:=says_T a (p++[(i:Int)]) l m hR hf.1
  simp only [visits,arAll_append,symTs]
  cases hr:arAll m (visit a (p++[(i:Int)])) with
  | none =>
   rw [hr] at h1
   rw [if_neg (by rw [show (symT l a).2 = false from h1];simp)]
   rfl
  | some m1 =>
   rw [hr] at h1
   rw [Option.bind_some]
   simp only [Says] at h1
   by_cases hm1:mk m1 = true
   ·rw [if_pos hm1] at h1
    rw [if_neg (by rw [h1];simp)]
    cases hr2:arAll m1 (visits ar p (i+1)) with
    | none=>rfl
    | some m'=>simp only [Says,arAll_mk _ hr2 hm1,if_true]
   ·rw [if_neg hm1] at h1
    rw [if_pos h1.1]
    exact says_Ts ar p (i+1) _ _ h1.2 hf.2
end
theorem says_Rs:∀ (r:List ARule) (l:List ASym) (m:Ars),Rel l m→(∀ x∈r,formed x.left = true∧formed x.right = true)→match arRules m r with
  | none=>(symRs l r).2 = false
  | some m=>(symRs l r).2 = !mk m
 | [],l,m,hR,_=>by simp only [arRules,symRs,hR.2.2];rfl
 | x :: r,l,m,hR,hf=>by
  obtain ⟨hf1,hf2⟩:=hf x (by simp)
  have h1:=says_T x.left [] l m hR hf1
  have mono:∀ (r:List ARule) {m m':Ars},arRules m r = some m'→mk m = true→mk m' = true:=by
   intro r
   induction r with
   | nil=>intro m m' h hm;cases h;exact hm
   | cons y r ih =>
    intro m m' h hm
    simp only [arRules] at h
    cases ha:arAll m (visit y.left []) with
    | none=>rw [ha] at h;cases h
    | some m1 =>
     rw [ha,Option.bind_some] at h
     cases hb:arAll m1 (visit y.right []) with
     | none=>rw [hb] at h;cases h
     | some m2 =>
      rw [hb,Option.bind_some] at h
      exact ih h (arAll_mk _ hb (arAll_mk _ ha hm))
  simp only [arRules,symRs]
  cases ha:arAll m (visit x.left []) with
  | none =>
   rw [ha] at h1
   have:(symT l x.left).2 = false:=h1
   simp [this]
  | some m1 =>
   rw [ha] at h1
   simp only [Says] at h1
   rw [Option.bind_some]
   by_cases hm1:mk m1 = true
   ·rw [if_pos hm1] at h1
    rw [if_neg (by rw [h1];simp)]
    cases hr:(arAll m1 (visit x.right [])).bind fun m2=>arRules m2 r with
    | none=>rfl
    | some m' =>
     have:mk m' = true:=by
      cases hb:arAll m1 (visit x.right []) with
      | none=>rw [hb] at hr;cases hr
      | some m2=>rw [hb,Option.bind_some] at hr;exact mono r hr (arAll_mk _ hb hm1)
     simp [this]
   ·rw [if_neg hm1] at h1
    rw [if_pos h1.1]
    have h2:=says_T x.right [] _ m1 h1.2 hf2
    cases hb:arAll m1 (visit x.right []) with
    | none =>
     rw [hb] at h2
     have:(symT (symT l x.left).1 x.right).2 = false:=h2
     simp [this]
    | some m2 =>
     rw [hb] at h2
     simp only [Says] at h2
     rw [Option.bind_some]
     by_cases hm2:mk m2 = true
     ·rw [if_pos hm2] at h2
      rw [if_neg (by rw [h2];simp)]
      cases hr:arRules m2 r with
      | none=>rfl
      | some m'=>simp [mono r hr hm2]
     ·rw [if_neg hm2] at h2
      rw [if_pos h2.1]
      exact says_Rs r _ _ h2.2 fun y hy=>hf y (by simp [hy])
theorem check_formed {t:Term} (h:check t = 0):formed t = true:=by
 unfold check at h
 split at h
 ·assumption
 ·omega
theorem checkPairs_formed:∀ {r:List ARule},checkPairs r = 0→∀ x∈r,check x.left = 0∧check x.right = 0
 | [],_,x,hx=>by cases hx
 | y :: r,h,x,hx=>by
  simp only [checkPairs] at h
  split at h
  ·omega
  ·rename_i h1
   rcases List.mem_cons.1 hx with rfl | hx
   ·simp only [checks,ne_eq,Classical.not_not] at h1
    split at h1
    ·omega
    ·rename_i h2
     split at h1
     ·omega
     ·rename_i h3
      exact ⟨by simpa using h2,by simpa using h3⟩
   ·exact checkPairs_formed h x hx
theorem checkRules_formed {r:List ARule} (h:checkRules r = 0):∀ x∈r,check x.left = 0∧check x.right = 0:=by
 unfold checkRules at h
 split at h
 ·omega
 ·exact checkPairs_formed h
theorem checkSystemR_eq (r:List ARule):checkSystemR r = checkSystem r:=by
 unfold checkSystemR checkSystem
 by_cases h1:checkRules r = 0
 ·rw [h1,if_neg (show ¬ ((0:Int) ≠ 0) by simp),if_neg (show ¬ ((0:Int) ≠ 0) by simp)]
  have hf:=checkRules_formed h1
  have:=says_Rs r [] [] ⟨by simp [SySorted],fun n=>rfl,rfl⟩ fun x hx=>⟨check_formed (hf x hx).1,check_formed (hf x hx).2⟩
  rw [show r.any extra = r.any extraR from by congr 1;funext x;exact extra_eq x]
  cases ha:arRules [] r with
  | none=>rw [ha] at this;simp only at this;simp [this]
  | some m =>
   rw [ha] at this
   simp only at this
   rw [this]
   by_cases hk:(m.any fun p=>marked p.1) = true
   ·simp [mk,hk]
   ·simp [mk,hk]
 ·rw [if_pos (by simpa using h1),if_pos (by simpa using h1)]
theorem r01_CheckSystem_s (r:List ARule) (hs:rbs r < 2^38):PF n_r01_CheckSystem [encRs r] (.int .i64 (checkSystem r)):=checkSystemR_eq r ▸ r01_CheckSystem_sR r hs
end Go.Dw
end
section
namespace Go.Dw
theorem rens_cTs {σ:Nat→Option Nat} {l:List Term}:(l.map cT).map (rens σ) = l.map cT:=by rw [List.map_map];rfl
end Go.Dw
end
section
namespace Go.Dw
namespace idxEdge
end idxEdge
theorem rens_cSts {σ:Nat→Option Nat} {l:List AStep}:(l.map cSt).map (rens σ) = l.map cSt:=by rw [List.map_map];rfl
attribute [push_cast] rens_cSts
end Go.Dw
end
section
namespace Go.Dw
theorem own_pos {i:Nat} {l:List (List Int)} {p:List Int}:(.own i 1 (l.map cPp++[[encP p]]):V) = ownL cPp i 1 (l++[p]):=by simp [ownL,cPp]
end Go.Dw
end
section
namespace Go.Dw
section
variable {P:Program} {N:Nat→C} {B:Nat} {ds:List Nat} {g l:List S} {s:List K} {t:T} {H:List Ob} {Q:X→T→List Ob→Prop}
theorem gP_tt:gP P N B true ds g l s t H Q (.bool true) = Run P N B (.r (g++l) :: s) t H Q:=by simp [gP]
theorem gP_ff:gP P N B false ds g l s t H Q (.bool false) = Run P N B (.r (g++l) :: s) t H Q:=by simp [gP]
theorem gP_tf:gP P N B true ds g l s t H Q (.bool false) = Run P N B (.r l :: s) (ds.map (fun d=>(d,V.tup []))++t) H Q:=by simp [gP]
theorem gP_ft:gP P N B false ds g l s t H Q (.bool true) = Run P N B (.r l :: s) (ds.map (fun d=>(d,V.tup []))++t) H Q:=by simp [gP]
theorem cP_t {a b:C}:cP P N B a b s t H Q (.bool true) = Run P N B (.c a :: s) t H Q:=by simp [cP]
theorem cP_f {a b:C}:cP P N B a b s t H Q (.bool false) = Run P N B (.c b :: s) t H Q:=by simp [cP]
end
end Go.Dw
end
section
namespace Go.Dw
theorem checkSystem_nv {r:List ARule} (h:checkSystem r = 0):∀ x∈r,x.left.var = false:=by
 unfold checkSystem at h
 split at h
 ·rename_i h1;exact absurd h h1
 ·split at h
  ·cases h
  ·split at h
   ·cases h
   ·split at h
    ·cases h
    ·rename_i h3
     intro x hx
     have h4:extra x = false:=by
      cases he:extra x with
      | false=>rfl
      | true=>exact absurd (List.any_eq_true.2 ⟨x,hx,he⟩) h3
     unfold extra at h4
     simp only [Bool.or_eq_false_iff] at h4
     exact h4.1
end Go.Dw
end
section
namespace Go.Dw
theorem image_append (a b:List ABind) (n:Str):image (a++b) n = match image a n with | some x=>some x | none=>image b n:=by
 induction a with
 | nil=>rfl
 | cons x a ih =>
  simp only [List.cons_append,image]
  split
  ·rfl
  ·exact ih
theorem image_bindT {s:List ABind} {v:Str} {t:Term} (h:image s v = none) (n:Str):image (bindT s v t) n = if v = n then some t else image s n:=by
 unfold bindT
 have h0:=image_append (s.take (lbd v s)) (s.drop (lbd v s)) n
 rw [List.take_append_drop] at h0
 rw [image_append]
 by_cases hv:v = n
 ·subst hv
  rw [h] at h0
  rw [if_pos rfl]
  cases ha:image (s.take (lbd v s)) v with
  | some x=>rw [ha] at h0;cases h0
  | none=>simp only [image,if_true]
 ·rw [if_neg hv,h0]
  cases image (s.take (lbd v s)) n with
  | some x=>rfl
  | none=>simp only [image,if_neg hv]
def ExtB (a b:List ABind):Prop:=∀ n x,image a n = some x→image b n = some x
theorem ExtB.refl (a:List ABind):ExtB a a:=fun _ _ h=>h
theorem ExtB.trans {a b c:List ABind} (h:ExtB a b) (h2:ExtB b c):ExtB a c:=fun n x hx=>h2 n x (h n x hx)
theorem ext_bindT {s:List ABind} {v:Str} {t:Term} (h:image s v = none):ExtB s (bindT s v t):=fun n x hx=>by
 rw [image_bindT h]
 split
 ·rename_i e;subst e;rw [h] at hx;cases hx
 ·exact hx
theorem term_mk (t:Term):t = .mk t.name t.var t.args:=by cases t;rfl
theorem matchT_sound (p:Term):∀ (s:List ABind) (t:Term),(matchT s p t).2 = true→ExtB s (matchT s p t).1∧∀ s2,ExtB (matchT s p t).1 s2→inst s2 p = t:=by
 induction p using term_ind with
 | h p ih =>
 intro s t
 rw [matchT_eq]
 cases hv:p.var with
 | true =>
  rw [if_pos rfl]
  cases hx:image s p.name with
  | some x =>
   intro h
   have h:x = t:=by simpa using h
   subst h
   refine ⟨.refl s,fun s2 h2=>?_⟩
   rw [inst_eq,hv,if_pos rfl,h2 _ _ hx];rfl
  | none =>
   intro _
   refine ⟨ext_bindT hx,fun s2 h2=>?_⟩
   rw [inst_eq,hv,if_pos rfl,h2 p.name t (by rw [image_bindT hx,if_pos rfl])];rfl
 | false =>
  rw [if_neg (by simp)]
  by_cases hc:t.var ∨ p.name ≠ t.name ∨ p.args.length ≠ t.args.length
  ·rw [if_pos hc];intro h;cases h
  ·rw [if_neg hc]
   simp only [not_or,Classical.not_not] at hc
   have key:∀ (l m:List Term) (s:List ABind),(∀ a∈l,a∈p.args)→l.length = m.length→(matchTs s l m).2 = true→ExtB s (matchTs s l m).1∧∀ s2,ExtB (matchTs s l m).1 s2→l.map (inst s2) = m:=by
    intro l
    induction l with
    | nil =>
     intro m s _ hl _
     cases m with
     | nil=>exact ⟨.refl s,fun _ _=>rfl⟩
     | cons b m=>cases hl
    | cons a l ihl =>
     intro m s hm hl h
     cases m with
     | nil=>cases hl
     | cons b m =>
      simp only [matchTs] at h ⊢
      by_cases hab:(matchT s a b).2 = true
      ·rw [if_pos hab] at h ⊢
       obtain ⟨h1,h2⟩:=ih a (hm a (by simp)) s b hab
       obtain ⟨h3,h4⟩:=ihl m _ (fun x hx=>hm x (by simp [hx])) (by simpa using hl) h
       refine ⟨h1.trans h3,fun s2 hs2=>?_⟩
       rw [List.map_cons,h2 s2 (h3.trans hs2),h4 s2 hs2]
      ·rw [if_neg hab] at h;cases h
   intro h
   obtain ⟨h1,h2⟩:=key p.args t.args s (fun _ h=>h) hc.2.2 h
   refine ⟨h1,fun s2 hs2=>?_⟩
   rw [inst_eq,hv,if_neg (by simp),h2 s2 hs2,hc.2.1]
   rw [term_mk t]
   have:t.var = false:=by simpa using hc.1
   simp only [Term.name,Term.args,this]
end Go.Dw
end
section
namespace Go.Dw
def wordT:Term→List Str × Term
 | .mk n false [a]=>(n :: (wordT a).1,(wordT a).2)
 | t=>([],t)
theorem wordT_step (t:Term):wordT t = if t.var = false∧t.args.length = 1 then (t.name :: (wordT (t.args.getD 0 default)).1,(wordT (t.args.getD 0 default)).2) else ([],t):=by
 cases t with | mk n v l =>
 cases v with
 | true=>rw [if_neg (by simp [Term.var])];simp [wordT]
 | false =>
  cases l with
  | nil=>rw [if_neg (by simp [Term.args])];simp [wordT]
  | cons a l =>
   cases l with
   | nil=>rw [if_pos (by simp [Term.var,Term.args])];simp [wordT,Term.name,Term.args]
   | cons b l=>rw [if_neg (by simp [Term.args])];simp [wordT]
theorem own_str {i:Nat} {l:List Str} {s:Str}:(.own i 1 (l.map cS++[[V.str s]]):V) = ownL cS i 1 (l++[s]):=by simp [ownL,cS]
theorem put_cTz (t u:Term):put 0 (cT t) (cT u) = cT t:=rfl
theorem bounds_word_s (t:Term) (hs:size t < 2^40):PF n_bounds_word [encT t] (.tup [encSs (wordT t).1,encT (wordT t).2]):=by
 refine pf_of bounds_word.ok rfl ?_
 push_cast
 have key:∀ (n:Nat) (u:Term) (acc:List Str),size u≤n→acc.length+size u≤size t→(acc++(wordT u).1,(wordT u).2) = wordT t →
   bounds_word.L3 (.ptr 0 0) (.ptr 1 0) (ownL cS 2 1 acc) 0 [.cells t_Term (cT u),.cells t_Term [.str [],.bool false,.sl 3 []],.arr t_string 1 acc.length] (Ends 0 bounds_word.rs fun x' H'=>x' = .tup [encSs (wordT t).1,encT (wordT t).2]∧H' = []):=by
  intro n
  induction n with
  | zero=>intro u acc h;have:=size_args u;omega
  | succ n ih =>
   intro u acc h hl hw
   have hsu:=size_args u
   rw [wordT_step u] at hw
   refine bounds_word.G3 ?_
   by_cases h1:u.var = false
   ·by_cases h2:u.args.length = 1
    ·rw [if_pos ⟨h1,h2⟩] at hw
     have h2i:((u.args.length:Int) = 1) = True:=eq_true (by omega)
     have h0i:((0:Int) < (u.args.length:Int)) = True:=eq_true (by omega)
     have hm:=size_mem (getD_mem (l:=u.args) (k:=0) (by omega))
     push_cast [h1,h2i,h0i,own_str,put_cTz]
     refine ⟨Nat.le_trans (Nat.mul_le_mul_right 16 (show _≤2^41 by omega)) (by unfold maxEls;decide),?_⟩
     have:=ih (u.args.getD 0 default) (acc++[u.name]) (by omega) (by rw [List.length_append,List.length_singleton];omega) (by rw [← hw];simp)
     rw [List.length_append,List.length_singleton] at this
     exact this
    ·rw [if_neg (by simp [h2])] at hw
     have h2i:((u.args.length:Int) = 1) = False:=eq_false (by omega)
     push_cast [h1,h2i,put_cTz]
     rw [← hw]
     exact pf_ret (by push_cast [bounds_word.rs,List.append_nil])
   ·have h1:u.var = true:=by simpa using h1
    rw [if_neg (by simp [h1])] at hw
    push_cast [h1,put_cTz]
    rw [← hw]
    exact pf_ret (by push_cast [bounds_word.rs,List.append_nil])
 exact key (size t) t [] (Nat.le_refl _) (by simp) rfl
theorem r24_Word_s (t:Term) (hs:size t < 2^40):PF n_r24_Word [encT t] (.tup [encSs (wordT t).1,encT (wordT t).2]):=by
 refine pf_of r24_Word.ok rfl ?_
 push_cast
 have key:∀ (n:Nat) (u:Term) (acc:List Str),size u≤n→acc.length+size u≤size t→(acc++(wordT u).1,(wordT u).2) = wordT t →
   r24_Word.L3 (.ptr 0 0) (.ptr 1 0) (ownL cS 2 1 acc) 0 [.cells t_Term (cT u),.cells t_Term [.str [],.bool false,.sl 3 []],.arr t_string 1 acc.length] (Ends 0 r24_Word.rs fun x' H'=>x' = .tup [encSs (wordT t).1,encT (wordT t).2]∧H' = []):=by
  intro n
  induction n with
  | zero=>intro u acc h;have:=size_args u;omega
  | succ n ih =>
   intro u acc h hl hw
   have hsu:=size_args u
   rw [wordT_step u] at hw
   refine r24_Word.G3 ?_
   by_cases h1:u.var = false
   ·by_cases h2:u.args.length = 1
    ·rw [if_pos ⟨h1,h2⟩] at hw
     have h2i:((u.args.length:Int) = 1) = True:=eq_true (by omega)
     have h0i:((0:Int) < (u.args.length:Int)) = True:=eq_true (by omega)
     have hm:=size_mem (getD_mem (l:=u.args) (k:=0) (by omega))
     push_cast [h1,h2i,h0i,own_str,put_cTz]
     refine ⟨Nat.le_trans (Nat.mul_le_mul_right 16 (show _≤2^41 by omega)) (by unfold maxEls;decide),?_⟩
     have:=ih (u.args.getD 0 default) (acc++[u.name]) (by omega) (by rw [List.length_append,List.length_singleton];omega) (by rw [← hw];simp)
     rw [List.length_append,List.length_singleton] at this
     exact this
    ·rw [if_neg (by simp [h2])] at hw
     have h2i:((u.args.length:Int) = 1) = False:=eq_false (by omega)
     push_cast [h1,h2i,put_cTz]
     rw [← hw]
     exact pf_ret (by push_cast [r24_Word.rs,List.append_nil])
   ·have h1:u.var = true:=by simpa using h1
    rw [if_neg (by simp [h1])] at hw
    push_cast [h1,put_cTz]
    rw [← hw]
    exact pf_ret (by push_cast [r24_Word.rs,List.append_nil])
 exact key (size t) t [] (Nat.le_refl _) (by simp) rfl
end Go.Dw
end
section
namespace Go.Dw
structure ARl where
 left:List Str
 right:List Str
 deriving Inhabited,DecidableEq
def cRl (x:ARl):List V:=[encSs x.left,encSs x.right]
abbrev encRls (l:List ARl):V:=encL cRl 2 l
theorem cRl_0 (x:ARl):(cRl x)[0]? = some (encSs x.left):=rfl
theorem cRl_1 (x:ARl):(cRl x)[1]? = some (encSs x.right):=rfl
theorem cRl_len (x:ARl):(cRl x).length = 2:=rfl
attribute [push_cast] cRl_0 cRl_1 cRl_len
def strR (x:ARule):Bool:=(wordT x.left).2.var && (wordT x.right).2.var
def toRl (x:ARule):ARl:=⟨(wordT x.left).1,(wordT x.right).1⟩
def rulesV (r:List ARule):V:=if r.all strR then .tup [encRls (r.map toRl),.bool true] else .tup [encRls [],.bool false]
theorem own_rl {i:Nat} {l:List ARl} {x:ARule}:(.own i 2 (l.map cRl++[[encSs (wordT x.left).1,encSs (wordT x.right).1]]):V) = ownL cRl i 2 (l++[toRl x]):=by simp [ownL,cRl,toRl]
theorem bounds_rules_s (r:List ARule) (hr:rbs r < 2^38):PF n_bounds_rules [encRs r] (rulesV r):=by
 have hl:=length_le_rbs r
 refine pf_of bounds_rules.ok rfl ?_
 push_cast
 refine loop_up (n:=r.length) (R:=fun k=>(r.take k).all strR = true→bounds_rules.L3 (ownL cRl 0 2 ((r.take k).map toRl)) (encRs r) (.int .i64 r.length) (.int .i64 k) 0 [.arr t_bounds_rule 2 k] (Ends 0 bounds_rules.rs fun x H=>x = rulesV r∧H = [])) ?_ ?_ 0 (Nat.zero_le _) (by simp)
 ·intro k hk ih hall
  have hmm:=rbs_mem (getD_mem hk)
  have htk:r.take (k+1) = r.take k++[r.getD k default]:=by rw [List.take_succ_eq_append_getElem hk];simp [List.getD_eq_getElem?_getD,hk]
  have hlk:((r.take k).map toRl).length = k:=by simp;omega
  refine bounds_rules.G3 ?_
  have hmem:=getD_mem hk
  generalize hx:r.getD k default = x at htk hmm hmem
  have h1:=size_le_tb x.left
  have h2:=size_le_tb x.right
  push_cast [ilt hk,hx]
  refine .of (bounds_word_s x.left (by omega)) ?_
  push_cast
  refine .of (bounds_word_s x.right (by omega)) ?_
  cases ha:(wordT x.left).2.var with
  | false =>
   have hno:r.all strR = false:=List.all_eq_false.2 ⟨x,hmem,by simp [strR,ha]⟩
   push_cast [ha]
   refine pf_ret ?_
   push_cast [bounds_rules.rs,rulesV,hno]
   rfl
  | true =>
   cases hb:(wordT x.right).2.var with
   | false =>
    have hno:r.all strR = false:=List.all_eq_false.2 ⟨x,hmem,by simp [strR,hb]⟩
    push_cast [ha,hb]
    refine pf_ret ?_
    push_cast [bounds_rules.rs,rulesV,hno]
    rfl
   | true =>
    push_cast [ha,hb,own_rl,hlk,w64 (show k < 2^62 by omega)]
    rw [htk,List.map_append,List.all_append] at ih
    have:=ih (by simp [hall,strR,ha,hb])
    push_cast at this
    refine ⟨by unfold maxEls;omega,?_⟩
    exact this
 ·intro hall
  rw [List.take_length] at hall
  refine bounds_rules.G3 ?_
  push_cast [inlt (Nat.le_refl _),List.take_length]
  refine pf_ret ?_
  push_cast [bounds_rules.rs,rulesV,hall]
end Go.Dw
end
section
namespace Go.Dw
def systemE (r:List ARule):List ARl × Int:=if checkSystem r ≠ 0 then ([],checkSystem r) else if r.all strR then (r.map toRl,0) else ([],4)
theorem bounds_system_s (r:List ARule) (hr:rbs r < 2^38):PF n_bounds_system [encRs r] (.tup [encRls (systemE r).1,.int .i64 (systemE r).2]):=by
 refine pf_of bounds_system.ok rfl ?_
 unfold systemE
 push_cast
 refine .of (term_CheckSystem_t r hr) ?_
 by_cases h:checkSystem r = 0
 ·rw [if_neg (by simpa using h)]
  push_cast [h]
  refine .of (bounds_rules_s r hr) ?_
  unfold rulesV
  cases ha:r.all strR with
  | true =>
   push_cast [if_true]
   exact pf_ret (by push_cast [bounds_system.rs])
  | false =>
   push_cast
   exact pf_ret (by push_cast [bounds_system.rs];rfl)
 ·rw [if_pos (by simpa using h)]
  push_cast [h]
  exact pf_ret (by push_cast [bounds_system.rs];rfl)
def strQ (x:ARule):Bool:=(wordT x.left).2.var && (wordT x.right).2.var && decide ((wordT x.left).2.name = (wordT x.right).2.name)
theorem all_drop_false {α:Type} {p:α→Bool} {l:List α} {k:Nat} [Inhabited α] (hk:k < l.length) (h:p (l.getD k default) = false):l.all p = false:=List.all_eq_false.2 ⟨_,getD_mem hk,by rw [h];exact Bool.false_ne_true⟩
theorem r24_Is_s (r:List ARule) (hr:rbs r < 2^38):PF n_r24_Is [encRs r] (.bool (r.all strQ)):=by
 have hl:=length_le_rbs r
 refine pf_of r24_Is.ok rfl ?_
 push_cast
 refine loop_up (n:=r.length) (R:=fun k=>(r.take k).all strQ = true→r24_Is.L3 (encRs r) (.int .i64 r.length) (.int .i64 k) 0 [] (Ends 0 r24_Is.rs fun x H=>x = .bool (r.all strQ)∧H = [])) ?_ ?_ 0 (Nat.zero_le _) (by simp)
 ·intro k hk ih hall
  have hmm:=rbs_mem (getD_mem hk)
  have htk:r.take (k+1) = r.take k++[r.getD k default]:=by rw [List.take_succ_eq_append_getElem hk];simp [List.getD_eq_getElem?_getD,hk]
  have hno:=all_drop_false (p:=strQ) hk
  refine r24_Is.G3 ?_
  generalize hx:r.getD k default = x at htk hmm hno
  have h1:=size_le_tb x.left
  have h2:=size_le_tb x.right
  push_cast [ilt hk,hx]
  refine .of (r24_Word_s x.left (by omega)) ?_
  push_cast
  refine .of (r24_Word_s x.right (by omega)) ?_
  cases ha:(wordT x.left).2.var with
  | false =>
   push_cast [ha]
   refine pf_ret ?_
   push_cast [r24_Is.rs,hno (by simp [strQ,ha])]
  | true =>
   cases hb:(wordT x.right).2.var with
   | false =>
    push_cast [ha,hb]
    refine pf_ret ?_
    push_cast [r24_Is.rs,hno (by simp [strQ,hb])]
   | true =>
    by_cases hc:(wordT x.left).2.name = (wordT x.right).2.name
    ·push_cast [ha,hb,eq_true hc,w64 (show k < 2^62 by omega)]
     rw [htk,List.all_append] at ih
     have:=ih (by simp [hall,strQ,ha,hb,hc])
     push_cast at this
     exact this
    ·push_cast [ha,hb,eq_false hc]
     refine pf_ret ?_
     push_cast [r24_Is.rs,hno (by simp [strQ,hc])]
 ·intro hall
  rw [List.take_length] at hall
  refine r24_Is.G3 ?_
  push_cast [inlt (Nat.le_refl _)]
  refine pf_ret ?_
  push_cast [r24_Is.rs,hall]
end Go.Dw
end
section
namespace Go.Dw
theorem occ_word:∀ (n:Nat) (t:Term),size t≤n→short t = true→(wordT t).2.var = true→∀ v,occ v t = true ↔ (wordT t).2.name = v:=by
 intro n
 induction n with
 | zero=>intro t h;have:=size_args t;omega
 | succ n ih =>
  intro t h hsh hv v
  have hs3:=short_iff.1 hsh
  rw [wordT_step] at hv ⊢
  cases t with | mk nm vr l =>
  cases vr with
  | true =>
   rw [if_neg (by simp [Term.var])] at hv ⊢
   have hl:l = []:=hs3.2.1 rfl
   subst hl
   simp [occ,occs,Term.name]
  | false =>
   cases l with
   | nil=>rw [if_neg (by simp [Term.args])] at hv;simp [Term.var] at hv
   | cons a l =>
    cases l with
    | cons b l=>rw [if_neg (by simp [Term.args])] at hv;simp [Term.var] at hv
    | nil =>
     rw [if_pos (by simp [Term.var,Term.args])] at hv ⊢
     simp only [Term.args,List.getD_cons_zero] at hv ⊢
     have h2:=ih a (by simp only [size,sizes] at h;omega) (hs3.2.2 a (by simp [Term.args])) hv v
     rw [← h2]
     simp [occ,occs]
theorem strR_Q {r:List ARule} (h:checkSystem r = 0):r.all strR = r.all strQ:=by
 have hx:∀ x∈r,strR x = strQ x:=by
  intro x hx
  obtain ⟨hg1,hg2⟩:=checkSystem_good h x hx
  unfold strR strQ
  cases ha:(wordT x.left).2.var with
  | false=>rfl
  | true =>
   cases hb:(wordT x.right).2.var with
   | false=>rfl
   | true =>
    have he:extra x = false:=by
     unfold checkSystem at h
     split at h
     ·rename_i h1;exact absurd h h1
     ·split at h
      ·cases h
      ·split at h
       ·cases h
       ·split at h
        ·cases h
        ·rename_i h3
         cases he:extra x with
         | false=>rfl
         | true=>exact absurd (List.any_eq_true.2 ⟨x,hx,he⟩) h3
    unfold extra at he
    simp only [Bool.or_eq_false_iff] at he
    have h1:(wordT x.right).2.name∈varsOf [x.right]:=(mem_varsOf _ _).2 ((occ_word _ _ (Nat.le_refl _) hg2.1 hb _).2 rfl)
    have h2:=List.any_eq_false.1 he.2 _ h1
    have h3:(wordT x.right).2.name∈varsOf [x.left]:=by simpa using h2
    have h4:=(occ_word _ _ (Nat.le_refl _) hg1.1 ha _).1 ((mem_varsOf _ _).1 h3)
    simp [h4]
 rw [Bool.eq_iff_iff,List.all_eq_true,List.all_eq_true]
 exact ⟨fun h x hx'=>by rw [← hx x hx'];exact h x hx',fun h x hx'=>by rw [hx x hx'];exact h x hx'⟩
end Go.Dw
end
section
namespace Go.Dw
structure AMove where
 src:Int
 dst:Int
 name:Str
 h:Int
 deriving Inhabited,DecidableEq
def cMv (m:AMove):List V:=[.int .i64 m.src,.int .i64 m.dst,.str m.name,.int .i64 m.h]
def encMv (m:AMove):V:=.agg (cMv m)
abbrev encMvs (l:List AMove):V:=encL cMv 4 l
theorem cMv_0 (m:AMove):(cMv m)[0]? = some (.int .i64 m.src):=rfl
theorem cMv_1 (m:AMove):(cMv m)[1]? = some (.int .i64 m.dst):=rfl
theorem cMv_2 (m:AMove):(cMv m)[2]? = some (.str m.name):=rfl
theorem cMv_3 (m:AMove):(cMv m)[3]? = some (.int .i64 m.h):=rfl
theorem cMv_len (m:AMove):(cMv m).length = 4:=rfl
theorem sto_encMv (m:AMove):sto (encMv m) = some (cMv m):=rfl
theorem ren_encMv {σ:Nat→Option Nat} (m:AMove):ren σ (encMv m) = encMv m:=rfl
theorem rens_cMv {σ:Nat→Option Nat} (m:AMove):rens σ (cMv m) = cMv m:=rfl
theorem agg_cMv (m:AMove):V.agg (cMv m) = encMv m:=rfl
theorem sub_cMv (m:AMove):sub 0 4 (cMv m) = cMv m:=rfl
attribute [push_cast] cMv_0 cMv_1 cMv_2 cMv_3 cMv_len sto_encMv ren_encMv rens_cMv agg_cMv sub_cMv
theorem isNaN_int_s (a:Int):PF n_cmp_isNaN_int [.int .i64 a] (.bool false):=by
 refine pf_of cmp_isNaN_int.ok rfl ?_
 push_cast
 exact pf_ret (by push_cast [cmp_isNaN_int.rs])
theorem cmp_Compare_int_s (a b:Int):PF n_cmp_Compare_int [.int .i64 a,.int .i64 b] (.int .i64 (cmpI a b)):=by
 refine pf_of cmp_Compare_int.ok rfl ?_
 push_cast
 refine .of (isNaN_int_s a) ?_
 push_cast
 refine .of (isNaN_int_s b) ?_
 unfold cmpI
 by_cases h1:a < b
 ·push_cast [eq_true h1]
  exact pf_ret (by push_cast [cmp_Compare_int.rs,h1])
 ·by_cases h2:b < a
  ·push_cast [eq_false h1,eq_true h2]
   exact pf_ret (by push_cast [cmp_Compare_int.rs,h1,h2])
  ·push_cast [eq_false h1,eq_false h2]
   exact pf_ret (by push_cast [cmp_Compare_int.rs,h1,h2])
def firstN:List Int→Int
 | []=>0
 | x :: l=>if x ≠ 0 then x else firstN l
theorem cmp_Or_int_s (l:List Int) (hl:l.length < 2^62):PF n_cmp_Or_int [encP l] (.int .i64 (firstN l)):=by
 refine pf_of cmp_Or_int.ok rfl ?_
 push_cast
 refine loop_up (n:=l.length) (R:=fun k=>firstN (l.drop k) = firstN l→cmp_Or_int.L3 (.int .i64 0) (encP l) (.int .i64 l.length) (.int .i64 k) 0 [] (Ends 0 cmp_Or_int.rs fun x H=>x = .int .i64 (firstN l)∧H = [])) ?_ ?_ 0 (Nat.zero_le _) rfl
 ·intro k hk ih hq
  rw [drop_getD hk] at hq
  refine cmp_Or_int.G3 ?_
  generalize hx:l.getD k default = x at hq
  simp only [firstN] at hq
  by_cases h:x = 0
  ·push_cast [ilt hk,hx,h,w64 (show k < 2^62 by omega)]
   rw [if_neg (by simp [h])] at hq
   have:=ih hq
   push_cast at this
   exact this
  ·push_cast [ilt hk,hx,h]
   rw [if_pos h] at hq
   rw [← hq]
   exact pf_ret (by push_cast [cmp_Or_int.rs])
 ·intro hq
  rw [drop_map_none] at hq
  refine cmp_Or_int.G3 ?_
  push_cast [inlt (Nat.le_refl _)]
  rw [← hq]
  exact pf_ret (by push_cast [cmp_Or_int.rs,firstN])
theorem isNaN_str_s (a:Str):PF n_cmp_isNaN_string [.str a] (.bool false):=by
 refine pf_of cmp_isNaN_string.ok rfl ?_
 push_cast
 exact pf_ret (by push_cast [cmp_isNaN_string.rs,bne_self_eq_false])
theorem cmp_Compare_string_s (a b:Str):PF n_cmp_Compare_string [.str a,.str b] (.int .i64 (cmpS a b)):=by
 rw [cmpS_eq]
 refine pf_of cmp_Compare_string.ok rfl ?_
 push_cast
 refine .of (isNaN_str_s a) ?_
 push_cast
 refine .of (isNaN_str_s b) ?_
 by_cases h1:a < b
 ·push_cast [decide_eq_true h1]
  exact pf_ret (by push_cast [cmp_Compare_string.rs,h1])
 ·by_cases h2:b < a
  ·push_cast [decide_eq_false h1,decide_eq_true h2]
   exact pf_ret (by push_cast [cmp_Compare_string.rs,h1,h2])
  ·push_cast [decide_eq_false h1,decide_eq_false h2]
   exact pf_ret (by push_cast [cmp_Compare_string.rs,h1,h2])
def cmpM (a b:AMove):Int:=firstN [cmpI a.src b.src,cmpI a.dst b.dst,cmpS a.name b.name,cmpI a.h b.h]
theorem bounds_compare_s (a b:AMove):PF n_bounds_compare [encMv a,encMv b] (.int .i64 (cmpM a b)):=by
 refine pf_of bounds_compare.ok rfl ?_
 push_cast
 refine .of (cmp_Compare_int_s _ _) ?_
 push_cast
 refine .of (cmp_Compare_int_s _ _) ?_
 push_cast
 refine .of (cmp_Compare_string_s _ _) ?_
 push_cast
 refine .of (cmp_Compare_int_s _ _) ?_
 push_cast
 refine .of (show PF n_cmp_Or_int [.sl 1 [[V.int .i64 _],[V.int .i64 _],[V.int .i64 _],[V.int .i64 _]]] _ from cmp_Or_int_s [_,_,_,_] (by simp)) ?_
 push_cast
 exact pf_ret (by push_cast [bounds_compare.rs];rfl)
def lessM (a b:AMove):Bool:=if a.src ≠ b.src then decide (a.src < b.src) else if a.dst ≠ b.dst then decide (a.dst < b.dst) else if a.name ≠ b.name then decide (a.name < b.name) else decide (a.h < b.h)
theorem r24_less_s (a b:AMove):PF n_r24_less [encMv a,encMv b] (.bool (lessM a b)):=by
 unfold lessM
 refine pf_of r24_less.ok rfl ?_
 by_cases h1:a.src = b.src
 ·by_cases h2:a.dst = b.dst
  ·by_cases h3:a.name = b.name
   ·push_cast [h1,h2,h3,bne_self_eq_false]
    exact pf_ret (by push_cast [r24_less.rs])
   ·push_cast [h1,h2,h3]
    exact pf_ret (by push_cast [r24_less.rs])
  ·push_cast [h1,h2]
   exact pf_ret (by push_cast [r24_less.rs])
 ·push_cast [h1]
  exact pf_ret (by push_cast [r24_less.rs])
theorem cmpI_three (x y:Int):(x = y∧cmpI x y = 0) ∨ (x ≠ y∧x < y∧cmpI x y = -1) ∨ (x ≠ y∧¬ x < y∧cmpI x y = 1):=by
 unfold cmpI
 by_cases h1:x < y
 ·exact .inr (.inl ⟨by omega,h1,by simp [h1]⟩)
 ·by_cases h2:y < x
  ·exact .inr (.inr ⟨by omega,h1,by simp [h1,h2]⟩)
  ·exact .inl ⟨by omega,by simp [h1,h2]⟩
theorem cmpS_three (x y:Str):(x = y∧cmpS x y = 0) ∨ (x ≠ y∧x < y∧cmpS x y = -1) ∨ (x ≠ y∧¬ x < y∧cmpS x y = 1):=by
 rw [cmpS_eq]
 by_cases h1:x < y
 ·exact .inr (.inl ⟨fun e=>slt_irrefl y (e ▸ h1),h1,by simp [h1]⟩)
 ·by_cases h2:y < x
  ·exact .inr (.inr ⟨fun e=>slt_irrefl y (e ▸ h2),h1,by simp [h1,h2]⟩)
  ·exact .inl ⟨slt_eq h1 h2,by simp [h1,h2]⟩
theorem cmpM_less (a b:AMove):0≤cmpM a b ↔ lessM a b = false:=by
 unfold cmpM lessM
 simp only [firstN]
 rcases cmpI_three a.src b.src with ⟨h1,e1⟩ | ⟨h1,l1,e1⟩ | ⟨h1,l1,e1⟩
 ·rcases cmpI_three a.dst b.dst with ⟨h2,e2⟩ | ⟨h2,l2,e2⟩ | ⟨h2,l2,e2⟩
  ·rcases cmpS_three a.name b.name with ⟨h3,e3⟩ | ⟨h3,l3,e3⟩ | ⟨h3,l3,e3⟩
   ·rcases cmpI_three a.h b.h with ⟨h4,e4⟩ | ⟨h4,l4,e4⟩ | ⟨h4,l4,e4⟩
    ·rw [e1,e2,e3,e4];simp [h1,h2,h3,h4]
    ·rw [e1,e2,e3,e4];simp [h1,h2,h3,l4]
    ·rw [e1,e2,e3,e4];simp [h1,h2,h3];omega
   ·rw [e1,e2,e3];simp [h1,h2,h3,l3]
   ·rw [e1,e2,e3];simp [h1,h2,l3];exact fun h=>absurd h h3
  ·rw [e1,e2];simp [h1,h2,l2]
  ·rw [e1,e2];simp [h1,h2];omega
 ·rw [e1];simp [h1,l1]
 ·rw [e1];simp [h1];omega
end Go.Dw
end
section
namespace Go.Dw
structure AAut where
 states:Int
 bound:Int
 moves:List AMove
 deriving Inhabited,DecidableEq
def cAu (a:AAut):List V:=[.int .i64 a.states,.int .i64 a.bound,encMvs a.moves]
def encAu (a:AAut):V:=.agg (cAu a)
theorem cAu_0 (a:AAut):(cAu a)[0]? = some (.int .i64 a.states):=rfl
theorem cAu_1 (a:AAut):(cAu a)[1]? = some (.int .i64 a.bound):=rfl
theorem cAu_2 (a:AAut):(cAu a)[2]? = some (encMvs a.moves):=rfl
theorem cAu_len (a:AAut):(cAu a).length = 3:=rfl
theorem sto_encAu (a:AAut):sto (encAu a) = some (cAu a):=rfl
theorem ren_encAu {σ:Nat→Option Nat} (a:AAut):ren σ (encAu a) = encAu a:=rfl
theorem rens_cAu {σ:Nat→Option Nat} (a:AAut):rens σ (cAu a) = cAu a:=rfl
theorem agg_cAu (a:AAut):V.agg (cAu a) = encAu a:=rfl
theorem sub_cAu (a:AAut):sub 0 3 (cAu a) = cAu a:=rfl
attribute [push_cast] cAu_0 cAu_1 cAu_2 cAu_len sto_encAu ren_encAu rens_cAu agg_cAu sub_cAu
def moveE (a:AAut) (x:AMove):Int :=
 if x.src < 0 ∨ a.states≤x.src ∨ x.dst < 0 ∨ a.states≤x.dst then 8 else if x.h < 0 ∨ a.bound < x.h then 2 else if isName x.name true then 0 else 4
def movesE (a:AAut):List AMove→Int
 | []=>0
 | x :: l=>if moveE a x ≠ 0 then moveE a x else movesE a l
def inOrder (l:List AMove):Bool:=(List.range (l.length - 1)).all fun i=>lessM (l.getD i default) (l.getD (i+1) default)
def formE (a:AAut):Int :=
 if a.states < 1 ∨ 256 < a.states ∨ a.bound < 0 ∨ 16 < a.bound then 2 else if 4096 < a.moves.length then 3 else
  if movesE a a.moves ≠ 0 then movesE a a.moves else if inOrder a.moves then 0 else 4
theorem bounds_form_s (a:AAut) (hl:a.moves.length < 2^40) (hn:∀ x∈a.moves,x.name.length < 2^40):PF n_bounds_form [encAu a] (.int .i64 (formE a)):=by
 refine pf_of bounds_form.ok rfl ?_
 unfold formE
 by_cases c1:a.states < 1
 ·rw [if_pos (.inl c1)]
  push_cast [eq_true c1]
  exact pf_ret (by push_cast [bounds_form.rs])
 by_cases c2:256 < a.states
 ·rw [if_pos (.inr (.inl c2))]
  push_cast [eq_false c1,eq_true c2]
  exact pf_ret (by push_cast [bounds_form.rs])
 by_cases c3:a.bound < 0
 ·rw [if_pos (.inr (.inr (.inl c3)))]
  push_cast [eq_false c1,eq_false c2,eq_true c3]
  exact pf_ret (by push_cast [bounds_form.rs])
 by_cases c4:16 < a.bound
 ·rw [if_pos (.inr (.inr (.inr c4)))]
  push_cast [eq_false c1,eq_false c2,eq_false c3,eq_true c4]
  exact pf_ret (by push_cast [bounds_form.rs])
 rw [if_neg (by omega)]
 by_cases c5:4096 < a.moves.length
 ·have c5i:((4096:Int) < (a.moves.length:Int)) = True:=eq_true (by omega)
  rw [if_pos c5]
  push_cast [eq_false c1,eq_false c2,eq_false c3,eq_false c4,c5i]
  exact pf_ret (by push_cast [bounds_form.rs])
 have c5i:((4096:Int) < (a.moves.length:Int)) = False:=eq_false (by omega)
 rw [if_neg c5]
 push_cast [eq_false c1,eq_false c2,eq_false c3,eq_false c4,c5i]
 refine loop_up (n:=a.moves.length) (R:=fun k=>movesE a (a.moves.drop k) = movesE a a.moves→bounds_form.L7 (.ro (cAu a) 0) (encMvs a.moves) (.int .i64 a.moves.length) (.int .i64 k) 0 [] _) ?_ ?_ 0 (Nat.zero_le _) rfl
 ·intro k hk ih hq
  have hnm:=hn _ (getD_mem hk)
  rw [drop_getD hk] at hq
  refine bounds_form.G7 ?_
  generalize hx:a.moves.getD k default = x at hq hnm
  simp only [movesE] at hq
  have bad:∀ e:Int,moveE a x = e→e ≠ 0→movesE a a.moves = e:=fun e h1 h2=>by rw [← hq,if_pos (by rw [h1];exact h2),h1]
  by_cases d1:x.src < 0
  ·rw [bad 8 (by unfold moveE;rw [if_pos (.inl d1)]) (by decide),if_pos (by decide)]
   push_cast [ilt hk,hx,eq_true d1]
   exact pf_ret (by push_cast [bounds_form.rs])
  by_cases d2:a.states≤x.src
  ·rw [bad 8 (by unfold moveE;rw [if_pos (.inr (.inl d2))]) (by decide),if_pos (by decide)]
   push_cast [ilt hk,hx,eq_false d1,eq_true d2]
   exact pf_ret (by push_cast [bounds_form.rs])
  by_cases d3:x.dst < 0
  ·rw [bad 8 (by unfold moveE;rw [if_pos (.inr (.inr (.inl d3)))]) (by decide),if_pos (by decide)]
   push_cast [ilt hk,hx,eq_false d1,eq_false d2,eq_true d3]
   exact pf_ret (by push_cast [bounds_form.rs])
  by_cases d4:a.states≤x.dst
  ·rw [bad 8 (by unfold moveE;rw [if_pos (.inr (.inr (.inr d4)))]) (by decide),if_pos (by decide)]
   push_cast [ilt hk,hx,eq_false d1,eq_false d2,eq_false d3,eq_true d4]
   exact pf_ret (by push_cast [bounds_form.rs])
  have hm1:moveE a x = if x.h < 0 ∨ a.bound < x.h then 2 else if isName x.name true then 0 else 4:=by unfold moveE;rw [if_neg (by omega)]
  by_cases d5:x.h < 0
  ·rw [bad 2 (by rw [hm1,if_pos (.inl d5)]) (by decide),if_pos (by decide)]
   push_cast [ilt hk,hx,eq_false d1,eq_false d2,eq_false d3,eq_false d4,eq_true d5]
   exact pf_ret (by push_cast [bounds_form.rs])
  by_cases d6:a.bound < x.h
  ·rw [bad 2 (by rw [hm1,if_pos (.inr d6)]) (by decide),if_pos (by decide)]
   push_cast [ilt hk,hx,eq_false d1,eq_false d2,eq_false d3,eq_false d4,eq_false d5,eq_true d6]
   exact pf_ret (by push_cast [bounds_form.rs])
  rw [if_neg (by omega)] at hm1
  push_cast [ilt hk,hx,eq_false d1,eq_false d2,eq_false d3,eq_false d4,eq_false d5,eq_false d6]
  refine .of (term_IsName_s x.name true (by omega)) ?_
  cases hi:isName x.name true with
  | false =>
   rw [bad 4 (by rw [hm1,hi];rfl) (by decide),if_pos (by decide)]
   push_cast
   exact pf_ret (by push_cast [bounds_form.rs])
  | true =>
   rw [hi,if_pos rfl] at hm1
   rw [hm1,if_neg (by decide)] at hq
   push_cast [w64 (show k < 2^62 by omega)]
   have:=ih hq
   push_cast at this
   exact this
 ·intro hq
  rw [drop_map_none] at hq
  have h0:movesE a a.moves = 0:=by rw [← hq];rfl
  rw [h0,if_neg (by decide)]
  refine bounds_form.G7 ?_
  push_cast [inlt (Nat.le_refl _)]
  have hb:∀ k,k < a.moves.length - 1→lessM (a.moves.getD k default) (a.moves.getD (k+1) default) = false→inOrder a.moves = false:=fun k hk h =>
   List.all_eq_false.2 ⟨k,List.mem_range.2 hk,by rw [h];exact Bool.false_ne_true⟩
  refine loop_up (n:=a.moves.length - 1) (R:=fun k=>(∀ j,j < k→lessM (a.moves.getD j default) (a.moves.getD (j+1) default) = true)→bounds_form.L3 (.ro (cAu a) 0) (.int .i64 ((k+1:Nat):Int)) 0 [] (Ends 0 bounds_form.rs fun x' H'=>x' = V.int IntKind.i64 (if inOrder a.moves = true then 0 else 4)∧H' = [])) ?_ ?_ 0 (Nat.zero_le _) (by intro j hj;omega)
  ·intro k hk ih hj
   refine bounds_form.G3 ?_
   have hk1:(((k+1:Nat):Int) < (a.moves.length:Int)) = True:=eq_true (by omega)
   have hk0:((k:Int) < (a.moves.length:Int)) = True:=eq_true (by omega)
   have hw:IntKind.i64.wrap (((k:Int)+1) - 1) = k:=by rw [wrap64 (by omega) (by omega)];omega
   have hbk:=hb k hk
   have hjk:lessM (a.moves.getD k default) (a.moves.getD (k+1) default) = true→∀ j,j < k+1→lessM (a.moves.getD j default) (a.moves.getD (j+1) default) = true:=fun h j hj'=>by
    by_cases e:j = k
    ·subst e;exact h
    ·exact hj j (by omega)
   have hcl:=cmpM_less (a.moves.getD k default) (a.moves.getD (k+1) default)
   generalize hx:a.moves.getD k default = x at hbk hjk hcl
   generalize hy:a.moves.getD (k+1) default = y at hbk hjk hcl
   push_cast at hk1
   have htn:((k:Int)+1).toNat = k+1:=by omega
   push_cast [hk1,hk0,hw,hx,htn,hy]
   refine ⟨by omega,?_⟩
   refine .of (bounds_compare_s x y) ?_
   by_cases hc:0≤cmpM x y
   ·push_cast [eq_true hc]
    rw [hbk (hcl.1 hc)]
    exact pf_ret (by push_cast [bounds_form.rs])
   ·have hw2:IntKind.i64.wrap ((k:Int)+1+1) = (k:Int)+1+1:=by rw [wrap64 (by omega) (by omega)]
    push_cast [eq_false hc,hw2]
    have:=ih (hjk (by cases hl:lessM x y with | true=>rfl | false=>exact absurd (hcl.2 hl) hc))
    push_cast at this
    exact this
  ·intro hj
   have hio:inOrder a.moves = true:=List.all_eq_true.2 fun k hk=>hj k (List.mem_range.1 hk)
   refine bounds_form.G3 ?_
   have hk1:(((a.moves.length - 1+1:Nat):Int) < (a.moves.length:Int)) = False:=eq_false (by omega)
   generalize a.moves.length - 1+1 = i at hk1
   push_cast [hk1]
   rw [hio]
   exact pf_ret (by push_cast [bounds_form.rs])
end Go.Dw
end
section
namespace Go.Dw
def symbolsR:List ARule→List Str
 | []=>[]
 | x :: r=>(wordT x.left).1++(wordT x.right).1++symbolsR r
theorem symbolsR_append (a b:List ARule):symbolsR (a++b) = symbolsR a++symbolsR b:=by
 induction a with
 | nil=>rfl
 | cons x a ih=>simp [symbolsR,ih]
theorem symbolsR_take (r:List ARule) {k:Nat} (hk:k < r.length):symbolsR (r.take (k+1)) = symbolsR (r.take k)++(wordT (r.getD k default).left).1++(wordT (r.getD k default).right).1:=by
 rw [List.take_succ_eq_append_getElem hk,symbolsR_append];simp [symbolsR,List.getD_eq_getElem?_getD,hk]
theorem wordT_len:∀ (n:Nat) (t:Term),size t≤n→(wordT t).1.length < size t
 | 0,t,h=>by have:=size_args t;omega
 | n+1,t,h=>by
  have hs:=size_args t
  rw [wordT_step]
  split
  ·rename_i hc
   have hm:=size_mem (getD_mem (l:=t.args) (k:=0) (by omega))
   have:=wordT_len n (t.args.getD 0 default) (by omega)
   simp only [List.length_cons];omega
  ·simp only [List.length_nil];omega
theorem symbolsR_len:∀ r:List ARule,(symbolsR r).length≤rbs r
 | []=>by simp [symbolsR]
 | x :: r=>by
  have h1:=wordT_len _ x.left (Nat.le_refl _)
  have h2:=wordT_len _ x.right (Nat.le_refl _)
  have h3:=symbolsR_len r
  have h4:=size_le_tb x.left
  have h5:=size_le_tb x.right
  simp only [symbolsR,List.length_append,rbs]
  omega
theorem r24_Symbols_s (r:List ARule) (hr:rbs r < 2^38):PF n_r24_Symbols [encRs r] (encSs (symbolsR r)):=by
 have hl:=length_le_rbs r
 refine pf_of r24_Symbols.ok rfl ?_
 push_cast
 refine loop_up (n:=r.length) (R:=fun k=>r24_Symbols.L3 (ownL cS 0 1 (symbolsR (r.take k))) (encRs r) (.int .i64 r.length) (.int .i64 k) 0 [.arr t_string 1 (symbolsR (r.take k)).length] (Ends 0 r24_Symbols.rs fun x H=>x = encSs (symbolsR r)∧H = [])) ?_ ?_ 0 (Nat.zero_le _)
 ·intro k hk ih
  have hmm:=rbs_mem (getD_mem hk)
  have htk:=symbolsR_take r hk
  have hsl:(symbolsR (r.take (k+1))).length≤rbs r:=by
   have h1:=symbolsR_len r
   have h2:=symbolsR_append (r.take (k+1)) (r.drop (k+1))
   rw [List.take_append_drop] at h2
   rw [h2,List.length_append] at h1
   omega
  rw [htk] at ih hsl
  refine r24_Symbols.G3 ?_
  generalize hx:r.getD k default = x at hmm ih hsl
  generalize symbolsR (r.take k) = A at ih hsl ⊢
  have h1:=size_le_tb x.left
  have h2:=size_le_tb x.right
  push_cast [ilt hk,hx]
  refine .of (r24_Word_s x.left (by omega)) ?_
  push_cast
  refine .of (r24_Word_s x.right (by omega)) ?_
  generalize (wordT x.left).1 = u at ih hsl ⊢
  generalize (wordT x.right).1 = v at ih hsl ⊢
  simp only [List.length_append] at hsl
  push_cast [w64 (show k < 2^62 by omega)]
  have e1:(List.map cS u).length = u.length:=by simp
  have e2:(List.map cS v).length = v.length:=by simp
  rw [e1,e2]
  rw [List.append_assoc,List.length_append,List.length_append,← Nat.add_assoc] at ih
  push_cast at ih
  refine ⟨by unfold maxEls;omega,⟨rfl,by unfold maxEls;omega⟩,?_⟩
  exact ih
 ·refine r24_Symbols.G3 ?_
  push_cast [inlt (Nat.le_refl _),List.take_length]
  exact pf_ret (by push_cast [r24_Symbols.rs])
def hasI (l:List Int) (x:Int):Bool:=l.any fun y=>decide (x = y)
theorem r24_contains_s (l:List Int) (x:Int) (hl:l.length < 2^62):PF n_r24_contains [encP l,.int .i64 x] (.bool (hasI l x)):=by
 refine pf_of r24_contains.ok rfl ?_
 push_cast
 refine loop_up (n:=l.length) (R:=fun k=>hasI (l.drop k) x = hasI l x→r24_contains.L3 (.int .i64 x) (encP l) (.int .i64 l.length) (.int .i64 k) 0 [] (Ends 0 r24_contains.rs fun y H=>y = .bool (hasI l x)∧H = [])) ?_ ?_ 0 (Nat.zero_le _) rfl
 ·intro k hk ih hq
  rw [drop_getD hk] at hq
  refine r24_contains.G3 ?_
  generalize hy:l.getD k default = y at hq
  simp only [hasI,List.any_cons] at hq
  by_cases h:x = y
  ·push_cast [ilt hk,hy,eq_true h]
   simp only [h,decide_true,Bool.true_or] at hq
   exact pf_ret (by push_cast [r24_contains.rs,hasI,h,← hq])
  ·push_cast [ilt hk,hy,eq_false h,w64 (show k < 2^62 by omega)]
   simp only [h,decide_false,Bool.false_or] at hq
   have:=ih hq
   push_cast at this
   exact this
 ·intro hq
  rw [drop_map_none] at hq
  refine r24_contains.G3 ?_
  push_cast [inlt (Nat.le_refl _)]
  rw [← hq]
  exact pf_ret (by push_cast [r24_contains.rs,hasI];rfl)
end Go.Dw
end
section
namespace Go.Dw
abbrev Gr:=List (Int × List AMove)
def addGr (x:AMove):Gr→Gr
 | []=>[(x.src,[x])]
 | p :: g=>if p.1 = x.src then (p.1,p.2++[x]) :: g else p :: addGr x g
def getG (s:Int):Gr→List AMove
 | []=>[]
 | p :: g=>if p.1 = s then p.2 else getG s g
def fromM (l:List AMove):Gr:=l.foldl (fun g x=>addGr x g) []
theorem getG_add (s:Int) (x:AMove):∀ g:Gr,getG s (addGr x g) = getG s g++if x.src = s then [x] else []
 | []=>by simp only [addGr,getG];split <;> simp
 | p :: g=>by
  simp only [addGr]
  by_cases h:p.1 = x.src
  ·rw [if_pos h]
   simp only [getG]
   by_cases h2:p.1 = s
   ·rw [if_pos h2,if_pos h2,if_pos (by omega)]
   ·rw [if_neg h2,if_neg h2,if_neg (by omega)];simp
  ·rw [if_neg h]
   simp only [getG]
   by_cases h2:p.1 = s
   ·rw [if_pos h2,if_pos h2,if_neg (by omega)];simp
   ·rw [if_neg h2,if_neg h2,getG_add s x g]
theorem getG_foldl (s:Int):∀ (l:List AMove) (g:Gr),getG s (l.foldl (fun g x=>addGr x g) g) = getG s g++l.filter fun x=>decide (x.src = s)
 | [],g=>by simp
 | x :: l,g=>by
  rw [List.foldl_cons,getG_foldl s l,getG_add,List.append_assoc,List.filter_cons]
  by_cases h:x.src = s <;> simp [h]
theorem getG_from (s:Int) (l:List AMove):getG s (fromM l) = l.filter fun x=>decide (x.src = s):=by
 unfold fromM;rw [getG_foldl];rfl
def encGr (g:Gr):List (V × V):=g.map fun p=>(.int .i64 p.1,encMvs p.2)
abbrev Go':=List (Int × Nat × List AMove)
def entG (g:Go'):List (V × V):=g.map fun p=>(.int .i64 p.1,ownL cMv p.2.1 4 p.2.2)
def addGo (new:Nat) (x:AMove):Go'→Go'
 | []=>[(x.src,new,[x])]
 | p :: g=>if p.1 = x.src then (p.1,p.2.1,p.2.2++[x]) :: g else p :: addGo new x g
def plainG (g:Go'):Gr:=g.map fun p=>(p.1,p.2.2)
theorem plain_add (new:Nat) (x:AMove):∀ g:Go',plainG (addGo new x g) = addGr x (plainG g)
 | []=>rfl
 | p :: g=>by
  simp only [addGo,plainG,List.map_cons,addGr]
  by_cases h:p.1 = x.src
  ·rw [if_pos h,if_pos h];rfl
  ·rw [if_neg h,if_neg h]
   have:=plain_add new x g
   simp only [plainG] at this
   simp only [List.map_cons,this]
theorem findM_none {s:Int}:∀ {g:Go'} {i:Nat},(∀ p∈g,p.1 ≠ s)→findM (.int .i64 s) (entG g) i = some none
 | [],i,_=>rfl
 | p :: g,i,h=>by
  have h1:=h p (by simp)
  have:(s == p.1) = false:=by simpa using fun e=>h1 e.symm
  simp [entG,findM,sameK,this]
  exact findM_none (g:=g) fun q hq=>h q (by simp [hq])
theorem addGo_none {new:Nat} {x:AMove}:∀ {g:Go'},(∀ p∈g,p.1 ≠ x.src)→addGo new x g = g++[(x.src,new,[x])]
 | [],_=>rfl
 | p :: g,h=>by
  simp only [addGo]
  rw [if_neg (h p (by simp)),addGo_none fun q hq=>h q (by simp [hq])];rfl
theorem findM_some {x:AMove}:∀ {g:Go'},(∃ p∈g,p.1 = x.src)→∃ j p,g[j]? = some p∧p.1 = x.src∧(∀ i,findM (.int .i64 x.src) (entG g) i = some (some (i+j,ownL cMv p.2.1 4 p.2.2)))∧∀ new,addGo new x g = g.set j (p.1,p.2.1,p.2.2++[x])
 | [],h=>by obtain ⟨p,hp,_⟩:=h;cases hp
 | q :: g,h=>by
  by_cases h1:q.1 = x.src
  ·refine ⟨0,q,rfl,h1,fun i=>?_,fun new=>?_⟩
   ·simp [entG,findM,sameK,h1]
   ·simp only [addGo];rw [if_pos h1];rfl
  ·obtain ⟨j,p,h2,h3,h4,h5⟩:=findM_some (x:=x) (g:=g) (by
    obtain ⟨p,hp,h2⟩:=h
    rcases List.mem_cons.1 hp with rfl | hp
    ·exact absurd h2 h1
    ·exact ⟨p,hp,h2⟩)
   refine ⟨j+1,p,h2,h3,fun i=>?_,fun new=>?_⟩
   ·have hb:(x.src == q.1) = false:=by simpa using fun e=>h1 e.symm
    have:findM (.int .i64 x.src) (entG (q :: g)) i = findM (.int .i64 x.src) (entG g) (i+1):=by simp [entG,findM,sameK,hb]
    rw [this,h4];congr 3;omega
   ·simp only [addGo];rw [if_neg h1,h5];rfl
structure GoOk (g:Go') (H:List Ob):Prop where
 map:H[0]? = some (.map (entG g))
 arr:∀ p∈g,0 < p.2.1∧H[p.2.1]? = some (.arr t_Move 4 p.2.2.length)
 nd:(g.map (·.2.1)).Nodup
theorem set_last {H:List Ob} {o o':Ob}:(H++[o]).set H.length o' = H++[o']:=by
 rw [List.set_append_right _ _ (Nat.le_refl _)];simp
theorem get_last {H:List Ob} {o:Ob}:(H++[o])[H.length]? = some o:=by simp
theorem bounds_from_s (a:AAut) (hl:a.moves.length < 2^38):Spec prog n_bounds_from [encAu a] [] fun x H'=>x = .map 0∧H' = [.map (encGr (fromM a.moves))]:=by
 refine spec_of_run mixed bounds_from.ok rfl ?_
 push_cast
 refine loop_up (n:=a.moves.length) (R:=fun k=>∀ g H,GoOk g H→plainG g = fromM (a.moves.take k)→(∀ p∈g,p.2.2.length≤k)→bounds_from.L3 (.map 0) (encMvs a.moves) (.int .i64 a.moves.length) (.int .i64 k) 0 H (Ends 0 bounds_from.rs fun x H'=>x = .map 0∧H' = [.map (encGr (fromM a.moves))])) ?_ ?_ 0 (Nat.zero_le _) [] [.map []] ⟨rfl,by simp,by simp⟩ rfl (by simp)
 ·intro k hk ih g H hg hp hc
  refine bounds_from.G3 ?_
  have htk:a.moves.take (k+1) = a.moves.take k++[a.moves.getD k default]:=take_succ_getD hk
  generalize hx0:a.moves.getD k default = x at htk
  have hfm:fromM (a.moves.take (k+1)) = addGr x (fromM (a.moves.take k)):=by rw [htk];simp [fromM]
  have hHl:0 < H.length:=(List.getElem?_eq_some_iff.1 hg.map).1
  have hm1:∀ R:List Ob,(H++R)[0]? = some (.map (entG g)):=fun R=>by rw [List.getElem?_append_left hHl];exact hg.map
  have hmx:(40≤maxEls) = True:=eq_true (by unfold maxEls;decide)
  by_cases hx:∃ p∈g,p.1 = x.src
  ·obtain ⟨j,p,q1,q2,q3,q4⟩:=findM_some hx
   have hpm:=List.mem_of_getElem? q1
   obtain ⟨r1,r2⟩:=hg.arr p hpm
   have hpl:=hc p hpm
   have hil:p.2.1 < H.length:=(List.getElem?_eq_some_iff.1 r2).1
   have hjl:j < g.length:=(List.getElem?_eq_some_iff.1 q1).1
   have hlk:lookV (H++[.dead]) false false .nil (.map 0) (.int .i64 x.src) = some (.own p.2.1 4 (p.2.2.map cMv)):=by
    have h0:entsV (H++[.dead]) (.map 0) = some (entG g):=by unfold entsV;simp only [hm1]
    unfold lookV;rw [h0];simp only [q3 0];rfl
   have hgi:(H++[Ob.dead])[p.2.1]? = some (.arr t_Move 4 p.2.2.length):=by rw [List.getElem?_append_left hil];exact r2
   have hsi:∀ o,(H++[Ob.dead]).set p.2.1 o = H.set p.2.1 o++[.dead]:=fun o=>List.set_append_left _ _ hil
   have hm2:∀ o,(H.set p.2.1 o++[Ob.dead])[0]? = some (.map (entG g)):=fun o=>by
    rw [List.getElem?_append_left (by simpa using hHl),List.getElem?_set_ne (by omega)];exact hg.map
   have hs2:∀ o o',(H.set p.2.1 o++[Ob.dead]).set 0 o' = (H.set p.2.1 o).set 0 o'++[.dead]:=fun o o'=>List.set_append_left _ _ (by simpa using hHl)
   have hup:updM (.int .i64 x.src) (ownL cMv p.2.1 4 (p.2.2++[x])) (entG g) = some (entG (addGo 0 x g)):=by
    unfold updM;rw [q3 0,q4]
    simp only [Nat.zero_add,entG,List.map_set,q2]
   have hlen:(p.2.2.length * 40+40≤maxEls) = True:=eq_true (by unfold maxEls;omega)
   have hlen2:((p.2.2.length+1) * 40≤maxEls) = True:=eq_true (by unfold maxEls;omega)
   push_cast [ilt hk,hx0,set_last,get_last,hlk,hgi,hsi,hm2,hs2,hup,hlen,hlen2,hmx,ksB,List.length_map,w64 (show k < 2^62 by omega)]
   have:=ih (addGo 0 x g) ((H.set p.2.1 (.arr t_Move 4 (p.2.2.length+1))).set 0 (.map (entG (addGo 0 x g)))++[.dead]) ?_ (by rw [plain_add,hp,hfm]) ?_
   ·push_cast at this
    exact this
   ·rw [q4]
    refine ⟨by rw [List.getElem?_append_left (by simpa using hHl),List.getElem?_set_self (by simpa using hHl)],fun p' hp'=>?_,?_⟩
    ·obtain ⟨l,hl1,hl2⟩:=List.getElem_of_mem hp'
     have hll:l < g.length:=by simpa using hl1
     have h0:∀ n,n < H.length→0 < n→((H.set p.2.1 (.arr t_Move 4 (p.2.2.length+1))).set 0 (Ob.map (entG (g.set j (p.1,p.2.1,p.2.2++[x]))))++[Ob.dead])[n]? = (H.set p.2.1 (.arr t_Move 4 (p.2.2.length+1)))[n]?:=fun n h1 h2=>by
      rw [List.getElem?_append_left (by simpa using h1),List.getElem?_set_ne (by omega)]
     rw [List.getElem_set] at hl2
     split at hl2
     ·rw [← hl2]
      refine ⟨r1,?_⟩
      rw [h0 _ hil r1,List.getElem?_set_self hil];simp
     ·have hp'g:p'∈g:=by rw [← hl2];exact List.getElem_mem _
      obtain ⟨s1,s2⟩:=hg.arr p' hp'g
      have hne:p.2.1 ≠ p'.2.1:=fun e=>by
       rename_i hjl'
       have hnd:=hg.nd
       have e1:(g.map (·.2.1))[j]'(by simpa using hjl) = (g.map (·.2.1))[l]'(by simpa using hll):=by
        simp only [List.getElem_map]
        have:g[j] = p:=(List.getElem?_eq_some_iff.1 q1).2
        rw [this,hl2];exact e
       exact hjl' ((List.getElem_inj hnd).1 e1)
      have hil':p'.2.1 < H.length:=(List.getElem?_eq_some_iff.1 s2).1
      exact ⟨s1,by rw [h0 _ hil' s1,List.getElem?_set_ne hne];exact s2⟩
    ·rw [List.map_set]
     have:(g.map (·.2.1)).set j p.2.1 = g.map (·.2.1):=by
      have h1:(g.map (·.2.1))[j]'(by simpa using hjl) = p.2.1:=by
       simp only [List.getElem_map]
       have:g[j] = p:=(List.getElem?_eq_some_iff.1 q1).2
       rw [this]
      rw [← h1,List.set_getElem_self]
     show ((g.map (·.2.1)).set j p.2.1).Nodup
     rw [this];exact hg.nd
   ·rw [q4]
    intro p' hp'
    rcases List.mem_or_eq_of_mem_set hp' with h | h
    ·have:=hc p' h;omega
    ·rw [h];simp;omega
  ·have hx':∀ p∈g,p.1 ≠ x.src:=fun p hp e=>hx ⟨p,hp,e⟩
   have hlk:lookV (H++[.dead]) false false .nil (.map 0) (.int .i64 x.src) = some .nil:=by
    have h0:entsV (H++[.dead]) (.map 0) = some (entG g):=by unfold entsV;simp only [hm1]
    unfold lookV;rw [h0];simp only [findM_none hx'];rfl
   have hg2:(H++[Ob.dead,Ob.arr t_Move 4 0])[H.length+1]? = some (.arr t_Move 4 0):=by
    rw [List.getElem?_append_right (by omega)];simp
   have hs2:∀ o,(H++[Ob.dead,Ob.arr t_Move 4 0]).set (H.length+1) o = H++[.dead,o]:=fun o=>by
    rw [List.set_append_right _ _ (by omega)];simp
   have hs3:∀ R o,(H++R).set 0 o = H.set 0 o++R:=fun R o=>List.set_append_left _ _ hHl
   have hup:updM (.int .i64 x.src) (.own (H.length+1) 4 [cMv x]) (entG g) = some (entG (addGo (H.length+1) x g)):=by
    unfold updM;rw [findM_none hx',addGo_none hx']
    simp only [entG,List.map_append];rfl
   push_cast [ilt hk,hx0,set_last,get_last,hlk,hg2,hs2,hm1,hs3,hup,hmx,ksB,w64 (show k < 2^62 by omega)]
   have:=ih (addGo (H.length+1) x g) (H.set 0 (.map (entG (addGo (H.length+1) x g)))++[.dead,.arr t_Move 4 1]) ?_ (by rw [plain_add,hp,hfm]) ?_
   ·push_cast at this
    exact this
   ·rw [addGo_none hx']
    refine ⟨by rw [List.getElem?_append_left (by simpa using hHl),List.getElem?_set_self (by simpa using hHl)],fun p' hp'=>?_,?_⟩
    ·rcases List.mem_append.1 hp' with h | h
     ·obtain ⟨s1,s2⟩:=hg.arr p' h
      have hil':p'.2.1 < H.length:=(List.getElem?_eq_some_iff.1 s2).1
      exact ⟨s1,by rw [List.getElem?_append_left (by simpa using hil'),List.getElem?_set_ne (by omega)];exact s2⟩
     ·rw [List.mem_singleton.1 h]
      refine ⟨by show 0 < H.length+1;omega,?_⟩
      show (H.set 0 _++[Ob.dead,Ob.arr t_Move 4 1])[H.length+1]? = _
      rw [List.getElem?_append_right (by simp)];simp
    ·rw [List.map_append,List.nodup_append]
     refine ⟨hg.nd,by simp,fun u hu v hv=>?_⟩
     obtain ⟨p',hp',rfl⟩:=List.mem_map.1 hu
     have hil':p'.2.1 < H.length:=(List.getElem?_eq_some_iff.1 (hg.arr p' hp').2).1
     have hv:v = H.length+1:=by simpa using hv
     omega
   ·rw [addGo_none hx']
    intro p' hp'
    rcases List.mem_append.1 hp' with h | h
    ·have:=hc p' h;omega
    ·rw [List.mem_singleton.1 h];simp
 ·intro g H hg hp hc
  refine bounds_from.G3 ?_
  push_cast [inlt (Nat.le_refl _)]
  rw [List.take_length] at hp
  have hHl:0 < H.length:=(List.getElem?_eq_some_iff.1 hg.map).1
  refine ends_ex (.inl rfl) [0] (x:=.map 0) (by simp) (by simpa using hHl) rfl ⟨rfl,?_⟩
  have h1:pos? [0] = fun i=>if i = 0 then some 0 else none:=by
   funext i;cases i <;> rfl
  show [renOb (pos? [0]) (H.getD 0 .dead)] = _
  have h2:H.getD 0 .dead = .map (entG g):=by rw [List.getD_eq_getElem?_getD,hg.map];rfl
  rw [h2,← hp]
  push_cast
  simp only [entG,encGr,plainG,List.map_map]
  refine congrArg Ob.map (List.map_congr_left fun p hpm=>?_)
  have:=(hg.arr p hpm).1
  obtain ⟨s,n,l⟩:=p
  simp only [Function.comp,ren_int,ren_ownL]
  have h3:pos? [0] n = none:=by rw [h1];simp only;rw [if_neg (by simp at this;omega)]
  rw [h3]
end Go.Dw
end
section
namespace Go.Dw
theorem seen_full {n:Nat} {seen:List Nat} {k:Nat} (hm:n≤seen.length) (hnd:seen.Nodup) (hlt:∀ i∈seen,i < n) (hk:k ∉ seen) (hkn:k < n):False:=by
 have h1:(seen++[k]).Nodup:=by simp [List.nodup_append,hnd];intro a ha e;exact hk (e ▸ ha)
 have h2:(seen++[k]).length≤(List.range n).length:=List.Nodup.length_le_of_subset h1 (by
  intro i hi
  rw [List.mem_range]
  rcases List.mem_append.1 hi with h | h
  ·exact hlt i h
  ·simp only [List.mem_singleton] at h;subst h;exact hkn)
 simp at h2;omega
theorem range_up (n:Nat) (R:List Nat→Prop) (h:∀ seen,seen.Nodup→(∀ i∈seen,i < n)→seen.length≤n→(∀ k,k < n→k ∉ seen→R (seen++[k]))→R seen):R []:=by
 have key:∀ (f:Nat) (seen:List Nat),n - seen.length < f→seen.Nodup→(∀ i∈seen,i < n)→R seen:=by
  intro f
  induction f with
  | zero=>intro seen hf;omega
  | succ f ih =>
   intro seen hf hnd hlt
   have hl:seen.length≤n:=by simpa using List.Nodup.length_le_of_subset hnd (l₂:=List.range n) fun i hi=>List.mem_range.2 (hlt i hi)
   refine h seen hnd hlt hl fun k hkn hk=>?_
   have hlen:seen.length < n:=by
    rcases Nat.lt_or_ge seen.length n with h | h
    ·exact h
    ·exact (seen_full h hnd hlt hk hkn).elim
   refine ih (seen++[k]) (by simp;omega) (by simp [List.nodup_append,hnd];intro a ha e;exact hk (e ▸ ha)) fun i hi=>?_
   rcases List.mem_append.1 hi with h | h
   ·exact hlt i h
   ·simp only [List.mem_singleton] at h;subst h;exact hkn
 exact key (n+1) [] (by simp) List.nodup_nil (by simp)
abbrev ASp:=Int × Int
def cSp (s:ASp):List V:=[.int .i64 s.1,.int .i64 s.2]
def encSp (s:ASp):V:=.agg (cSp s)
abbrev encSps (l:List ASp):V:=encL cSp 2 l
theorem cSp_0 (s:ASp):(cSp s)[0]? = some (.int .i64 s.1):=rfl
theorem cSp_1 (s:ASp):(cSp s)[1]? = some (.int .i64 s.2):=rfl
theorem cSp_len (s:ASp):(cSp s).length = 2:=rfl
theorem sto_encSp (s:ASp):sto (encSp s) = some (cSp s):=rfl
theorem ren_encSp {σ:Nat→Option Nat} (s:ASp):ren σ (encSp s) = encSp s:=rfl
theorem rens_cSp {σ:Nat→Option Nat} (s:ASp):rens σ (cSp s) = cSp s:=rfl
theorem agg_cSp (s:ASp):V.agg (cSp s) = encSp s:=rfl
theorem sub_cSp (s:ASp):sub 0 2 (cSp s) = cSp s:=rfl
attribute [push_cast] cSp_0 cSp_1 cSp_len sto_encSp ren_encSp rens_cSp agg_cSp sub_cSp
def insK (K:List ASp) (s:ASp):List ASp:=if s∈K then K else K++[s]
def entS (K:List ASp):List (V × V):=K.map fun s=>(encSp s,.bool true)
theorem ren_entS {σ:Nat→Option Nat} {K:List ASp}:((entS K).map fun p=>(ren σ p.1,ren σ p.2)) = entS K:=by
 unfold entS;rw [List.map_map];rfl
theorem ren_encGr {σ:Nat→Option Nat} {g:Gr}:((encGr g).map fun p=>(ren σ p.1,ren σ p.2)) = encGr g:=by
 unfold encGr;rw [List.map_map];rfl
attribute [push_cast] ren_entS ren_encGr
theorem sameQ_sp (s u:ASp):sameQ (encSp s) (encSp u) = some (decide (s = u)):=by
 obtain ⟨a,b⟩:=s
 obtain ⟨c,d⟩:=u
 simp only [sameQ,encSp,cSp,sameC,sameK,if_true]
 by_cases h1:a = c
 ·subst h1
  by_cases h2:b = d
  ·subst h2;simp
  ·have e:(b == d) = false:=by simpa using h2
   simp [h2,e]
 ·have e:(a == c) = false:=by simpa using h1
  simp [h1,e]
theorem findQ_entS (s:ASp):∀ (K:List ASp) (i:Nat),(s ∉ K→findQ (encSp s) (entS K) i = some none)∧(s∈K→∃ j,findQ (encSp s) (entS K) i = some (some (i+j,.bool true))∧K[j]? = some s)
 | [],i=>⟨fun _=>rfl,fun h=>by cases h⟩
 | u :: K,i=>by
  obtain ⟨h1,h2⟩:=findQ_entS s K (i+1)
  by_cases h:s = u
  ·subst h
   refine ⟨fun h=>absurd List.mem_cons_self h,fun _=>⟨0,?_,rfl⟩⟩
   simp [entS,findQ,sameQ_sp]
  ·have e:findQ (encSp s) (entS (u :: K)) i = findQ (encSp s) (entS K) (i+1):=by simp [entS,findQ,sameQ_sp,h]
   refine ⟨fun hn=>?_,fun hm=>?_⟩
   ·rw [e];exact h1 fun hm=>hn (List.mem_cons_of_mem _ hm)
   ·obtain ⟨j,q1,q2⟩:=h2 ((List.mem_cons.1 hm).resolve_left h)
    exact ⟨j+1,by rw [e,q1];congr 3;omega,q2⟩
theorem updQ_entS (s:ASp) (K:List ASp):updQ (encSp s) (.bool true) (entS K) = some (entS (insK K s)):=by
 obtain ⟨h1,h2⟩:=findQ_entS s K 0
 unfold updQ insK
 by_cases h:s∈K
 ·obtain ⟨j,q1,q2⟩:=h2 h
  rw [q1,if_pos h]
  simp only [Nat.zero_add,Option.some.injEq]
  have h3:(entS K)[j]? = some (encSp s,.bool true):=by simp [entS,q2]
  obtain ⟨h4,h5⟩:=List.getElem?_eq_some_iff.1 h3
  rw [← h5,List.set_getElem_self]
 ·rw [h1 h,if_neg h];simp [entS]
theorem shB_sp (s:ASp):shB [false,false] (encSp s) = true:=rfl
theorem insK_mem {K:List ASp} {s u:ASp}:u∈insK K s ↔ u∈K ∨ u = s:=by
 unfold insK;split
 ·rename_i h;exact ⟨.inl,fun h2=>h2.elim id fun e=>e ▸ h⟩
 ·simp
theorem insK_nodup {K:List ASp} {s:ASp} (h:K.Nodup):(insK K s).Nodup:=by
 unfold insK;split
 ·exact h
 ·rename_i hn;rw [List.nodup_append];exact ⟨h,by simp,fun a ha b hb e=>hn (by rw [← List.mem_singleton.1 hb,← e];exact ha)⟩
def stepL (mv:List AMove) (fit:Int→Bool) (n:Str) (s:ASp):List ASp:=((mv.filter fun x=>decide (x.src = s.1)).filter fun x=>decide (x.name = n) && fit x.h).map fun x=>(x.dst,if x.h < s.2 then x.h else s.2)
def nextL (mv:List AMove) (fit:Int→Bool) (K:List ASp) (n:Str):List ASp:=(K.flatMap (stepL mv fit n)).foldl insK []
def readL (mv:List AMove) (fit:Int→Bool) (s:ASp) (w:List Str):List ASp:=w.foldl (nextL mv fit) [s]
theorem foldl_insK:∀ (l K:List ASp),K.Nodup→(l.foldl insK K).Nodup∧∀ u,u∈l.foldl insK K ↔ u∈K ∨ u∈l
 | [],K,h=>⟨h,fun u=>by simp⟩
 | s :: l,K,h=>by
  obtain ⟨h1,h2⟩:=foldl_insK l (insK K s) (insK_nodup h)
  exact ⟨h1,fun u=>by rw [List.foldl_cons,h2,insK_mem,List.mem_cons];grind⟩
theorem readL_snoc (mv:List AMove) (fit:Int→Bool) (s:ASp) (w:List Str) (n:Str):readL mv fit s (w++[n]) = nextL mv fit (readL mv fit s w) n:=by simp [readL]
theorem readL_nodup (mv:List AMove) (fit:Int→Bool) (s:ASp) (w:List Str):(readL mv fit s w).Nodup:=by
 rcases List.eq_nil_or_concat w with rfl | ⟨w,n,rfl⟩
 ·simp [readL]
 ·rw [List.concat_eq_append,readL_snoc];exact (foldl_insK _ _ List.nodup_nil).1
theorem nextL_mem {mv:List AMove} {fit:Int→Bool} {K:List ASp} {n:Str} {u:ASp}:u∈nextL mv fit K n ↔ ∃ s∈K,u∈stepL mv fit n s:=by
 unfold nextL;rw [(foldl_insK _ _ List.nodup_nil).2];simp
def cfS (x y:ASp):Int:=firstN [cmpI x.1 y.1,cmpI x.2 y.2]
end Go.Dw
end
section
namespace Go.Dw
theorem findM_encGr (s:Int):∀ (g:Gr) (i:Nat),∃ o,findM (.int .i64 s) (encGr g) i = some o∧(match o with | some p=>p.2 | none=>(.sl 4 []:V)) = encMvs (getG s g)
 | [],i=>⟨none,rfl,rfl⟩
 | p :: g,i=>by
  obtain ⟨o,h1,h2⟩:=findM_encGr s g (i+1)
  by_cases h:p.1 = s
  ·refine ⟨some (i,encMvs p.2),?_,by simp [getG,h]⟩
   simp [encGr,findM,sameK,h]
  ·have hb:(s == p.1) = false:=by simpa using fun e=>h e.symm
   refine ⟨o,?_,by simp only [getG,if_neg h];exact h2⟩
   rw [← h1];simp [encGr,findM,sameK,hb]
theorem look_encGr {H:List Ob} {k:Nat} {g:Gr} (s:Int) (hk:H[k]? = some (.map (encGr g))):lookV H false false (.sl 4 []) (.map k) (.int .i64 s) = some (encMvs (getG s g)):=by
 obtain ⟨o,h1,h2⟩:=findM_encGr s g 0
 have he:entsV H (.map k) = some (encGr g):=by simp [entsV,hk]
 unfold lookV
 rw [he]
 simp only [h1,ksB,Bool.not_false,if_true]
 rw [← h2];rfl
def sortSp (l:List ASp):List ASp:=l.mergeSort fun x y=>!decide (cfS y x < 0)
def readsL (mv:List AMove) (fit:Int→Bool) (p:Int) (w:List Str):List ASp:=sortSp (readL mv fit (p,17) w)
theorem objIs_one {t:T} {r:Nat}:objIs t [r] = (objI (lk t r)).map fun i=>[i]:=by unfold objIs;cases objI (lk t r) <;> rfl
theorem objI_map {i:Nat}:objI (.map i) = some i:=rfl
theorem kk_11:kkB 1 2 [1] = true:=by decide
theorem kk_21:kkB 1 4 [2] = true:=by decide
theorem kp_10:pos? (List.range 1++[1]) 0 = some 0:=rfl
theorem kp_11:pos? (List.range 1++[1]) 1 = some 1:=rfl
theorem kp_20:pos? (List.range 1++[2]) 0 = some 0:=rfl
theorem kp_22:pos? (List.range 1++[2]) 2 = some 1:=rfl
theorem kg_1 {a b:Ob}:give (List.range 1++[1]) [a,b] = [renOb (pos? (List.range 1++[1])) a,renOb (pos? (List.range 1++[1])) b]:=rfl
theorem kg_2 {a b c d:Ob}:give (List.range 1++[2]) [a,b,c,d] = [renOb (pos? (List.range 1++[2])) a,renOb (pos? (List.range 1++[2])) c]:=rfl
theorem rens_cSps {σ:Nat→Option Nat} {l:List ASp}:(l.map cSp).map (rens σ) = l.map cSp:=by rw [List.map_map];rfl
theorem bounds_graph_reads_s {f:Nat} {caps:List V} (fit:Int→Bool) (hc:∀ σ,rens σ caps = caps) (mv:List AMove) (hfit:∀ x∈mv,PF f (.int .i64 x.h :: caps) (.bool (fit x.h)))
  (p:Int) (w:List Str) (hw:w.length < 2^40) (hmv:mv.length < 2^40) (hK:∀ k,k≤w.length→(readL mv fit (p,17) (w.take k)).length < 2^40)
  (hsort:∀ K:List ASp,K.Nodup→(∀ u,u∈K ↔ u∈readL mv fit (p,17) w)→Spec prog n_slices_SortFunc_s_bounds_spot_bounds_spot [.rw 0 2 K.length,.fn (.func n_bounds_graph_reads_1) [] []] [.row t_bounds_spot 2 (K.map cSp)] fun x H'=>x = .tup []∧H' = [.row t_bounds_spot 2 ((readsL mv fit p w).map cSp)]) :
  Spec prog n_bounds_graph_reads [.map 0,.int .i64 p,encSs w,.fn (.func f) [] caps] [.map (encGr (fromM mv))] fun x H'=>x = encSps (readsL mv fit p w)∧H' = [.map (encGr (fromM mv))]:=by
 refine spec_of_run mixed bounds_graph_reads.ok rfl ?_
 have hbd:∀ a b,V.agg [V.int .i64 a,V.int .i64 b] = encSp (a,b):=fun _ _=>rfl
 have hu0:∀ s,updQ (encSp s) (.bool true) [] = some (entS [s]):=fun s=>updQ_entS s []
 push_cast [hbd,hu0,shB_sp,objIs_one,objI_map,kk_11,kp_10,kp_11,kg_1,hc]
 refine loop_up (n:=w.length) (R:=fun k=>∀ K:List ASp,K.Nodup→(∀ u,u∈K ↔ u∈readL mv fit (p,17) (w.take k))→bounds_graph_reads.L13 (.map 0) (.fn (.func f) [] caps) (.map 1) (encSs w) (.int .i64 w.length) (.int .i64 k) 1 [.map (encGr (fromM mv)),.map (entS K)] (Ends 1 bounds_graph_reads.rs fun x H'=>x = encSps (readsL mv fit p w)∧H' = [.map (encGr (fromM mv))])) ?_ ?_ 0 (Nat.zero_le _) [(p,17)] (by simp) (fun u=>by simp [readL])
 ·intro k hk ih K hnd hmem
  refine bounds_graph_reads.G13 ?_
  have htk:w.take (k+1) = w.take k++[w.getD k default]:=take_succ_getD hk
  generalize hn0:w.getD k default = name at htk
  have hKl:K.length < 2^40:=by
   have:=List.Nodup.length_le_of_subset hnd (l₂:=readL mv fit (p,17) (w.take k)) fun u hu=>(hmem u).1 hu
   have:=hK k (by omega);omega
  have hel:∀ K:List ASp,(entS K).length = K.length:=fun K=>by simp [entS]
  push_cast [ilt hk,hn0,hc,hel]
  refine range_up K.length (R:=fun seen=>∀ NK:List ASp,NK.Nodup→(∀ u,u∈NK ↔ ∃ i∈seen,u∈stepL mv fit name (K.getD i default))→bounds_graph_reads.L11 (.map 0) (.fn (.func f) [] caps) (.str name) (.map 2) (encSs w) (.int .i64 w.length) (.int .i64 k) (.it 3) 1
   [.map (encGr (fromM mv)),.map (entS K),.map (entS NK),.iter (some 1) K.length seen] (Ends 1 bounds_graph_reads.rs fun x H'=>x = encSps (readsL mv fit p w)∧H' = [.map (encGr (fromM mv))])) ?_ [] (by simp) (by simp)
  intro seen hsn hslt hsl ih2 NK hNd hNm
  refine bounds_graph_reads.G11 ?_
  push_cast
  refine nxP_of 1 K.length seen (entS K) rfl rfl (hel K).symm (fun hall=>?_) (fun j q hq hj=>?_)
  ·push_cast [objIs_one,objI_map,kk_21,kp_20,kp_22,kg_2,hc,w64 (show k < 2^62 by omega)]
   have:=ih NK hNd (fun u=>by
    rw [htk,readL_snoc,nextL_mem,hNm]
    constructor
    ·rintro ⟨i,hi,hu⟩
     exact ⟨_,(hmem _).1 (getD_mem (hslt i hi)),hu⟩
    ·rintro ⟨s,hs,hu⟩
     obtain ⟨i,hi,rfl⟩:=List.getElem_of_mem ((hmem s).2 hs)
     exact ⟨i,hall i hi,by simpa [List.getD_eq_getElem?_getD,hi] using hu⟩)
   push_cast at this
   exact this
  ·have hjl:j < K.length:=by rw [← hel K];exact (List.getElem?_eq_some_iff.1 hq).1
   have ih3:=ih2 j hjl hj
   have hqe:q = (encSp (K.getD j default),.bool true):=by
    unfold entS at hq
    rw [List.getElem?_map] at hq
    simp [hjl] at hq
    rw [← hq];simp [List.getD_eq_getElem?_getD,hjl]
   have hen:∀ a c,enV [a,.map (entS K),c,.iter (some 1) K.length (seen++[j])] (.it 3) = some (.tup [q.1,q.2]):=fun a c=>by
    simp [enV,hel,hq]
   subst hqe
   have hKj:K.getD j default∈K:=getD_mem hjl
   generalize hs:K.getD j default = s at hen hKj
   have hlk:∀ R,lookV (.map (encGr (fromM mv)) :: R) false false (.sl 4 []) (.map 0) (.int .i64 s.1) = some (encMvs (mv.filter fun x=>decide (x.src = s.1))):=fun R=>by
    rw [look_encGr s.1 (g:=fromM mv) rfl,getG_from]
   have hml:(mv.filter fun x=>decide (x.src = s.1)).length≤mv.length:=List.length_filter_le _ _
   have hmm:∀ x∈mv.filter fun x=>decide (x.src = s.1),x∈mv:=fun x hx=>(List.mem_filter.1 hx).1
   generalize hl:(mv.filter fun x=>decide (x.src = s.1)) = l at hlk hml hmm
   push_cast [hen,hlk,hc]
   refine loop_up (n:=l.length) (R:=fun m=>∀ NK:List ASp,NK.Nodup→(∀ u,u∈NK ↔ (∃ i∈seen,u∈stepL mv fit name (K.getD i default)) ∨ ∃ x∈l.take m,x.name = name∧fit x.h = true∧u = (x.dst,if x.h < s.2 then x.h else s.2)) →
    bounds_graph_reads.L9 (.map 0) (.fn (.func f) [] caps) (.str name) (.map 2) (.ro (cSp s) 0) (encSs w) (.int .i64 w.length) (.int .i64 k) (.it 3) (encMvs l) (.int .i64 l.length) (.int .i64 m) 1
    [.map (encGr (fromM mv)),.map (entS K),.map (entS NK),.iter (some 1) K.length (seen++[j]),.dead] (Ends 1 bounds_graph_reads.rs fun x H'=>x = encSps (readsL mv fit p w)∧H' = [.map (encGr (fromM mv))])) ?_ ?_ 0 (Nat.zero_le _) NK hNd (fun u=>by rw [hNm];simp)
   ·intro m hm ih4 MK hMd hMm
    refine bounds_graph_reads.G9 ?_
    have htm:l.take (m+1) = l.take m++[l.getD m default]:=take_succ_getD hm
    have hxm:l.getD m default∈l:=getD_mem hm
    generalize hx0:l.getD m default = x at htm hxm
    have hw1:=w64 (show m < 2^62 by omega)
    have skip:¬ (x.name = name∧fit x.h = true)→∀ u,u∈MK ↔ (∃ i∈seen,u∈stepL mv fit name (K.getD i default)) ∨ ∃ x∈l.take (m+1),x.name = name∧fit x.h = true∧u = (x.dst,if x.h < s.2 then x.h else s.2):=fun hn u=>by
     rw [hMm,htm]
     refine or_congr Iff.rfl ⟨fun ⟨y,hy,h⟩=>⟨y,List.mem_append_left _ hy,h⟩,fun ⟨y,hy,h1,h2,h3⟩=>?_⟩
     rcases List.mem_append.1 hy with hy | hy
     ·exact ⟨y,hy,h1,h2,h3⟩
     ·rw [List.mem_singleton.1 hy] at h1 h2;exact absurd ⟨h1,h2⟩ hn
    by_cases hnm:x.name = name
    ·push_cast [ilt hm,hx0,hnm,hc]
     refine .of (hfit x (hmm x hxm)) ?_
     cases hf:fit x.h with
     | false =>
      push_cast [hw1,hc]
      have:=ih4 MK hMd (skip (by rw [hf];simp))
      push_cast at this
      exact this
     | true =>
      push_cast [hw1,hc,hbd,shB_sp,updQ_entS]
      have:=ih4 (insK MK (x.dst,if x.h < s.2 then x.h else s.2)) (insK_nodup hMd) (fun u=>by
       rw [insK_mem,hMm,htm]
       constructor
       ·rintro ((h | ⟨y,hy,h⟩) | rfl)
        ·exact .inl h
        ·exact .inr ⟨y,List.mem_append_left _ hy,h⟩
        ·exact .inr ⟨x,by simp,hnm,hf,rfl⟩
       ·rintro (h | ⟨y,hy,h1,h2,h3⟩)
        ·exact .inl (.inl h)
        ·rcases List.mem_append.1 hy with hy | hy
         ·exact .inl (.inr ⟨y,hy,h1,h2,h3⟩)
         ·rw [List.mem_singleton.1 hy] at h3;exact .inr h3)
      push_cast at this
      exact this
    ·push_cast [ilt hm,hx0,hnm,hc,hw1]
     have:=ih4 MK hMd (skip fun h=>hnm h.1)
     push_cast at this
     exact this
   ·intro MK hMd hMm
    refine bounds_graph_reads.G9 ?_
    push_cast [inlt (Nat.le_refl _),hc]
    have:=ih3 MK hMd (fun u=>by
     rw [hMm,List.take_length]
     constructor
     ·rintro (⟨i,hi,h⟩ | ⟨x,hx,h1,h2,h3⟩)
      ·exact ⟨i,by simp [hi],h⟩
      ·refine ⟨j,by simp,?_⟩
       rw [hs,h3]
       exact List.mem_map.2 ⟨x,List.mem_filter.2 ⟨hl ▸ hx,by simp [h1,h2]⟩,rfl⟩
     ·rintro ⟨i,hi,h⟩
      rcases List.mem_append.1 hi with hi | hi
      ·exact .inl ⟨i,hi,h⟩
      ·rw [List.mem_singleton.1 hi,hs] at h
       obtain ⟨x,hx,h3⟩:=List.mem_map.1 h
       obtain ⟨hx1,hx2⟩:=List.mem_filter.1 hx
       simp at hx2
       exact .inr ⟨x,hl ▸ hx1,hx2.1,hx2.2,h3.symm⟩)
    push_cast at this
    exact this
 ·intro K hnd hmem
  refine bounds_graph_reads.G13 ?_
  rw [List.take_length] at hmem
  have hKl:K.length < 2^40:=by
   have:=List.Nodup.length_le_of_subset hnd (l₂:=readL mv fit (p,17) w) fun u hu=>(hmem u).1 hu
   have:=hK w.length (Nat.le_refl _);rw [List.take_length] at this;omega
  have hel:∀ K:List ASp,(entS K).length = K.length:=fun K=>by simp [entS]
  push_cast [inlt (Nat.le_refl _),hel]
  refine range_up K.length (R:=fun seen=>bounds_graph_reads.L3 (.rw 2 2 seen.length) (.it 3) 1
   [.map (encGr (fromM mv)),.map (entS K),.row t_bounds_spot 2 ((seen.map fun i=>K.getD i default).map cSp),.iter (some 1) K.length seen] (Ends 1 bounds_graph_reads.rs fun x H'=>x = encSps (readsL mv fit p w)∧H' = [.map (encGr (fromM mv))])) ?_
  intro seen hsn hslt hsl ih2
  refine bounds_graph_reads.G3 ?_
  push_cast
  refine nxP_of 1 K.length seen (entS K) rfl rfl (hel K).symm (fun hall=>?_) (fun j q hq hj=>?_)
  ·have hsl:(seen.map fun i=>K.getD i default).length = seen.length:=by simp
   have hmap:∀ i (hi:i < seen.length),(seen.map fun i=>K.getD i default)[i]'(by simpa using hi) = K.getD seen[i] default:=fun i hi=>by simp
   have hKd:(seen.map fun i=>K.getD i default).Nodup:=by
    rw [List.nodup_iff_pairwise_ne,List.pairwise_map]
    refine (List.nodup_iff_pairwise_ne.1 hsn).imp_of_mem fun {a b} ha hb hab e=>hab ?_
    have h1:=hslt a ha
    have h2:=hslt b hb
    simp only [List.getD_eq_getElem?_getD,List.getElem?_eq_getElem,h1,h2,Option.getD_some] at e
    exact (List.getElem_inj hnd).1 e
   have hc:=hsort (seen.map fun i=>K.getD i default) hKd (fun u=>by
    rw [← hmem]
    constructor
    ·intro hu
     obtain ⟨i,hi,rfl⟩:=List.mem_map.1 hu
     exact getD_mem (hslt i hi)
    ·intro hu
     obtain ⟨i,hi,rfl⟩:=List.getElem_of_mem hu
     exact List.mem_map.2 ⟨i,hall i hi,by simp [List.getD_eq_getElem?_getD,hi]⟩)
   have hso:(readsL mv fit p w).length = seen.length:=by
    have h1:(readsL mv fit p w).length = (readL mv fit (p,17) w).length:=(List.mergeSort_perm _ _).length_eq
    have h2:=List.Nodup.length_le_of_subset (readL_nodup mv fit (p,17) w) (l₂:=K) fun u hu=>(hmem u).2 hu
    have h3:=List.Nodup.length_le_of_subset hnd (l₂:=readL mv fit (p,17) w) fun u hu=>(hmem u).1 hu
    have h4:=List.Nodup.length_le_of_subset (List.nodup_range (n:=K.length)) (l₂:=seen) fun i hi=>hall i (List.mem_range.1 hi)
    simp at h4
    omega
   rw [hsl] at hc
   push_cast
   refine CallG.some [2] (by simp) (by simp) (R:=fun x H'=>x = .tup []∧H' = [.row t_bounds_spot 2 ((readsL mv fit p w).map cSp)]) (by rw [give_2,renOb_row,rens_cSps];exact hc) ?_
   rintro x H' ⟨rfl,rfl⟩ _
   rw [take_2]
   push_cast [rens_cSps]
   refine ⟨by rw [List.length_map];exact hso,?_⟩
   exact ends_keep (H:=[.map (encGr (fromM mv))]) (J:=[_,_,_]) (n:=1) ⟨rfl,by push_cast⟩ rfl ⟨rfl,rfl⟩
  ·have hjl:j < K.length:=by rw [← hel K];exact (List.getElem?_eq_some_iff.1 hq).1
   have hqe:q = (encSp (K.getD j default),.bool true):=by
    unfold entS at hq
    rw [List.getElem?_map] at hq
    simp [hjl] at hq
    rw [← hq];simp [List.getD_eq_getElem?_getD,hjl]
   have hen:∀ a c,enV [a,.map (entS K),c,.iter (some 1) K.length (seen++[j])] (.it 3) = some (.tup [q.1,q.2]):=fun a c=>by
    simp [enV,hel,hq]
   subst hqe
   have ih3:=ih2 j hjl hj
   push_cast [hen]
   refine ⟨⟨by simp,by unfold maxEls;omega⟩,?_⟩
   have e1:List.map cSp (List.map (fun i=>K.getD i default) seen)++[cSp (K.getD j default)] = (List.map (fun i=>K.getD i default) (seen++[j])).map cSp:=by simp
   rw [e1,rens_cSps]
   rw [List.length_append] at ih3
   exact ih3
end Go.Dw
end
section
namespace Go.Dw
open Go.Proofs Go.Sort
theorem pfe_of {f:Nat} {nd:Nat→C} {c:C} {n:Nat} {rs:List RV} (hok:okF prog f nd c n rs = true) {args:List V} {x:V} (hn:args.length = n)
  (hrun:Run prog nd 0 [.c c] (ini 0 args) [] (Ends 0 rs fun x' H'=>x' = x∧H' = [])):SpecE prog f args [] fun x' H'=>x' = x∧H' = []:=spece_of_run mixed hok hn hrun
theorem calls_pfe {f:Nat} {args:List V} {n:Int} (h:SpecE prog f args [] fun x' H'=>x' = .int .i64 n∧H' = []) {vs:List Value} (hr:∀ W:World,repL ⟨W,fun _ _=>False,fun _=>none,[]⟩ args vs) (W:World) :
  Calls prog f vs.toArray W fun e w'=>e = .returned (.int .i64 n)∧∃ q os',w' = grow (W.drewN q) os':=by
 have hc:Conc ⟨W,fun _ _=>False,fun _=>none,[]⟩:=⟨fun i j b k k' hi=>by simp at hi,fun b o h=>h.elim,fun i o h=>by simp at h⟩
 refine ((h ⟨W,fun _ _=>False,fun _=>none,[]⟩ vs rfl hc (hr W)).2).mono ?_
 rintro e w' ⟨v,x,c',rfl,rfl,⟨rfl,hH⟩,_,hv,hf⟩
 have hv:v = .int .i64 n:=hv
 refine ⟨by rw [hv],c'.w.drawn - W.drawn,c'.w.heap.extract W.heap.size c'.w.heap.size,?_⟩
 have h1:W.drawn≤c'.w.drawn:=hf.drawn
 have h2:W.heap.size≤c'.w.heap.size:=hf.size
 have h3:c'.w.heap = W.heap++c'.w.heap.extract W.heap.size c'.w.heap.size:=by
  apply Array.ext (by simp;omega)
  intro i hi hi2
  by_cases hlt:i < W.heap.size
  ·have:=hf.heap i hlt (by rintro ⟨j,k,hj,_⟩;simp at hj)
   rw [Array.getElem_append_left hlt]
   have e1:c'.w.heap[i]? = W.heap[i]?:=this
   rw [Array.getElem?_eq_getElem hi,Array.getElem?_eq_getElem hlt] at e1
   exact Option.some.inj e1
  ·rw [Array.getElem_append_right (by omega)]
   simp;congr 1;omega
 have h4:c'.w.os = W.os:=hf.os
 have h5:c'.w.tape = W.tape:=hf.tape
 have h6:c'.w.output = W.output:=hf.output
 generalize c'.w = W' at h1 h3 h4 h5 h6 ⊢
 obtain ⟨heap,tape,drawn,os,output⟩:=W'
 obtain ⟨heap',tape',drawn',os',output'⟩:=W
 simp only at h1 h3 h4 h5 h6 ⊢
 subst h4;subst h5;subst h6
 simp only [grow,World.drewN,World.mk.injEq,true_and,and_true]
 exact ⟨h3,by omega⟩
theorem sort_rowK {α:Type} [Inhabited α] {f g e k:Nat} (encV:α→List V) (enc:α→List Value) (so:List α→List α) (hk0:0 < k) (hk:∀ x,(enc x).length = k) (hkV:∀ x,(encV x).length = k)
  (hdet:∀ (c:Cx) (a:α) (j:Nat) (x:V) (v:Value),(encV a)[j]? = some x→rep c x v→(enc a)[j]? = some v) (hrep:∀ (c:Cx) (a:α) (j:Nat) (x:V),(encV a)[j]? = some x→∃ v,(enc a)[j]? = some v∧oneC v = true∧rep c x v)
  (l:List α) (hlen:(so l).length = l.length)
  (hin:∀ (args:Array Value) (w:World),(callFunc f args).run prog w = .ok (.enter f args) w)
  (hcall:∀ (b cap:Nat) (w:World),HoldsK enc k w b 0 l.toArray→b < w.heap.size→Calls prog f #[.slice (some ⟨b,0,none⟩) l.toArray.size cap,.func (.func g) #[] #[]] w fun e w'=>e = .returned (.tuple #[])∧∃ n os,w' = sortWorldK enc k w b 0 n (so l).toArray os)
  (hnone:∀ (cap:Nat) (w:World),Calls prog f #[.slice none 0 cap,.func (.func g) #[] #[]] w fun e w'=>e = .returned (.tuple #[])∧w' = w) :
  Spec prog f [.rw 0 k l.length,.fn (.func g) [] []] [.row e k (l.map encV)] fun x H'=>x = .tup []∧H' = [.row e k ((so l).map encV)]:=by
 intro c vs hH hc hr
 obtain ⟨v,vs',rfl,h1,v2,vs2,rfl,h2,h3⟩:=hr
 have h3:vs2 = []:=h3
 subst h3
 obtain ⟨va,vc,rfl,h4,h5⟩:=h2
 have h4:va.toList = []:=h4
 have h5:vc.toList = []:=h5
 obtain rfl:va = #[]:=by simpa using h4
 obtain rfl:vc = #[]:=by simpa using h5
 left
 have h0:c.H[0]? = some (.row e k (l.map encV)):=by rw [hH];rfl
 obtain ⟨q1,q2⟩:=hc.obj 0 _ h0
 obtain ⟨p1,⟨a,kk,p2,p3,p4⟩,p5⟩:=h1
 have hcur:=(p5 _ _ _ h0).2.2 (by simp)
 refine ⟨hin _ _,?_⟩
 cases hρ:c.ρ 0 with
 | none =>
  have hl:l = []:=by simpa using q1 hρ
  subst hl
  rw [hρ] at hcur
  have hcur:v = .slice none 0 0:=hcur
  subst hcur
  have hso:so [] = []:=List.eq_nil_of_length_eq_zero hlen
  refine (hnone 0 c.w).mono ?_
  rintro e w' ⟨rfl,rfl⟩
  exact ⟨_,.tup [],c,rfl,rfl,⟨rfl,by rw [hH,hso]⟩,hc,⟨#[],rfl,rfl⟩,.refl c⟩
 | some bk =>
  obtain ⟨b,m⟩:=bk
  rw [hρ] at hcur
  have hcur:v = .slice (some ⟨b,0,none⟩) l.length m:=hcur
  subst hcur
  obtain ⟨vs,r1,r2,r3,r4,r5,r6⟩:=q2 b m hρ
  have hblt:b < c.w.heap.size:=(Array.getElem?_eq_some_iff.1 r1).1
  have hvsz:l.length * k≤vs.size:=by rw [r2];exact Nat.mul_le_mul_right _ (by simpa using r3)
  have hcell:∀ (a:α) (i j:Nat) (v:Value),l[i]? = some a→(enc a)[j]? = some v→vs[i * k+j]? = some v:=fun a i j v hi hj=>by
   obtain ⟨_,hx⟩:=r6 i (encV a) (by rw [List.getElem?_map,hi];rfl)
   have hjk:j < k:=by rw [← hk a];exact (List.getElem?_eq_some_iff.1 hj).1
   have hgx:(encV a)[j]? = some ((encV a)[j]'(by rw [hkV];exact hjk)):=List.getElem?_eq_getElem _
   obtain ⟨v',e1,_,e3⟩:=hx j _ hgx
   have:=hdet c a j _ v' hgx e3
   rw [hj] at this
   rw [e1,← this]
  have hHolds:HoldsK enc k c.w b 0 l.toArray:=fun t ht=>by
   have ht:t < l.length * k:=by simpa using ht
   have hi:t / k < l.length:=(Nat.div_lt_iff_lt_mul hk0).2 ht
   have hj:t % k < k:=Nat.mod_lt _ hk0
   rw [get_flatK _ _ _ _ (by simpa using ht)]
   have hgi:l.toArray[t / k]! = l[t / k]:=by simp [hi]
   rw [hgi]
   have hlt:t % k < (enc l[t / k]).length:=by rw [hk];exact hj
   have hgj:(enc l[t / k])[t % k]! = (enc l[t / k])[t % k]:=getElem!_pos (enc l[t / k]) (t % k) hlt
   rw [hgj]
   have:=hcell l[t / k] (t / k) (t % k) _ (List.getElem?_eq_getElem hi) (List.getElem?_eq_getElem hlt)
   rw [Nat.mul_comm,Nat.div_add_mod] at this
   refine ⟨?_,?_⟩
   ·simp only [World.cell?,r1,Nat.zero_add]
    exact this
   ·simp [World.frozen?,r1]
  have hca:=hcall b m c.w hHolds hblt
  rw [List.size_toArray] at hca
  refine hca.mono ?_
  rintro e2 w' ⟨rfl,n,os,rfl⟩
  generalize hso:so l = s at hlen
  generalize hw':sortWorldK enc k c.w b 0 n s.toArray os = w'
  have hsz:w'.heap.size = c.w.heap.size+os.size:=by subst hw';simp [sortWorldK,putRowK,grow,putRow,mapBlock,Sort.ahead]
  have hoth:∀ b',b' < c.w.heap.size→b' ≠ b→w'.heap[b']? = c.w.heap[b']?:=fun b' h1 h2=>by
   subst hw'
   simp only [sortWorldK,putRowK,grow,putRow,mapBlock,Sort.ahead]
   rw [Array.getElem?_append_left (by simpa using h1),Array.getElem?_modify,if_neg (Ne.symm h2)]
  have hsame:w'.heap[b]? = some (.cells (putCells id 0 (flatK enc k s.toArray) vs) e (0,0)):=by
   subst hw'
   simp only [sortWorldK,putRowK,grow,putRow,mapBlock,Sort.ahead]
   rw [Array.getElem?_append_left (by simpa using hblt),Array.getElem?_modify,if_pos rfl,r1]
   rfl
  have howns:∀ b',c.owns b' ↔ b' = b:=fun b'=>by
   constructor
   ·rintro ⟨i,k',h1,h2⟩
    have:i = 0:=by rw [hH] at h1;simpa using h1
    subst this
    rw [hρ] at h2;cases h2;rfl
   ·rintro rfl;exact ⟨0,m,p1,hρ⟩
  refine ⟨_,.tup [],⟨w',c.ok,c.ρ,[.row e k (s.map encV)]⟩,rfl,rfl,⟨rfl,rfl⟩,?_,⟨#[],rfl,rfl⟩,?_⟩
  ·refine ⟨fun i j b1 k1 k2 h1 h2 _ _=>?_,fun b' o h=>?_,fun i o hi=>?_⟩
   ·simp only [List.length_singleton] at h1 h2;omega
   ·have:=hc.okLt _ _ h;show b' < w'.heap.size;omega
   ·cases i with
    | succ i=>simp at hi
    | zero =>
     simp only [List.getElem?_cons_zero,Option.some.injEq] at hi
     subst hi
     refine ⟨fun h=>?_,fun b' k' h=>?_⟩
     ·have h:c.ρ 0 = none:=h
      rw [hρ] at h;cases h
     ·have h:c.ρ 0 = some (b',k'):=h
      rw [hρ] at h;cases h
      refine ⟨putCells id 0 (flatK enc k s.toArray) vs,hsame,by simpa [putCells] using r2,by simpa [hlen] using r3,r4,r5,fun i el hi=>?_⟩
      rw [List.getElem?_map] at hi
      cases hs:s[i]? with
      | none=>rw [hs] at hi;cases hi
      | some a =>
       rw [hs] at hi;cases hi
       refine ⟨hkV a,fun j x hx=>?_⟩
       obtain ⟨v,e1,e2,e3⟩:=hrep ⟨w',c.ok,c.ρ,[.row e k (s.map encV)]⟩ a j x hx
       refine ⟨v,?_,e2,e3⟩
       have hil:i < s.length:=(List.getElem?_eq_some_iff.1 hs).1
       have hsi:s[i] = a:=(List.getElem?_eq_some_iff.1 hs).2
       have hjk:j < k:=by rw [← hk a];exact (List.getElem?_eq_some_iff.1 e1).1
       have htk:i * k+j < s.length * k:=by
        have:(i+1) * k≤s.length * k:=Nat.mul_le_mul_right _ hil
        rw [Nat.succ_mul] at this;omega
       have hiv:i * k+j < vs.size:=by rw [hlen] at htk;omega
       simp only [putCells,Array.getElem?_mapIdx,Array.getElem?_eq_getElem hiv,Option.map_some]
       rw [if_pos (by simpa using htk)]
       simp only [Nat.sub_zero,id]
       rw [get_flatK _ _ _ _ (by simpa using htk),Nat.mul_comm i k,Nat.mul_add_div hk0,Nat.div_eq_of_lt hjk,Nat.add_zero,Nat.mul_add_mod,Nat.mod_eq_of_lt hjk]
       have:s.toArray[i]! = a:=by simp [hil,hsi]
       rw [this,getElem!_def,e1]
  ·refine ⟨fun _ _ h=>h,fun b' o h=>?_,by show c.w.heap.size≤w'.heap.size;omega,fun _ _ h=>.inl h,fun b' hb hno=>hoth b' hb (fun e=>hno ((howns b').2 e)),fun b' hb=>.inl ?_,fun j o hj=>?_,?_,?_,?_,?_⟩
   ·have hne:b' ≠ b:=fun e=>r5 o (e ▸ h)
    simp only [World.cell?]
    rw [hoth b' (hc.okLt _ _ h) hne]
   ·obtain ⟨i,k',h1,h2⟩:=hb
    exact ⟨i,k',by rw [hH];exact h1,h2⟩
   ·rw [hH] at hj
    cases j with
    | succ j=>simp at hj
    | zero =>
     simp only [List.getElem?_cons_zero,Option.some.injEq] at hj
     subst hj
     exact ⟨_,rfl,rfl,rfl,by simp [hlen],fun _=>rfl⟩
   ·subst hw';rfl
   ·subst hw';rfl
   ·subst hw';rfl
   ·subst hw';exact Nat.le_add_right _ _
end Go.Dw
end
section
namespace Go.Proofs
open Go.Shelf Go.RowKit Go.Lib Go.Sort
def Tryz.sortSpot_ren:Go.Shelf.Ren:=⟨fun | 6=>226 | 15=>173 | 14=>264 | 28=>240 | 29=>241 | 20=>286 | 21=>287 | 22=>288 | 23=>289 | 24=>290 | 25=>291 | 26=>292 | 27=>293 | 46=>304 | 47=>276 | 48=>277 | 49=>305 | 50=>306 | 57=>312 | n=>n,fun | 22=>187 | 24=>191 | 25=>251 | 3=>3 | 39=>176 | 0=>0 | 53=>234 | 55=>114 | 4=>4 | 46=>257 | 45=>256 | 50=>194 | 5=>5 | 9=>9 | 66=>286 | 70=>290 | 76=>307 | 77=>83 | n=>n,fun | n=>n⟩
theorem Tryz.sortSpot:Go.Proofs.SlLaysF0.n6 Tryz.prog Tryz.sortSpot_ren:={
 mixed:=by kernel_rfl
 f6:=⟨Tryz.f226.name,by decide,Tryz.func226.trans (congrArg some (by kernel_rfl))⟩
 f14:=⟨Tryz.f264.name,by decide,Tryz.func264.trans (congrArg some (by kernel_rfl))⟩
 f15:=Tryz.func173.trans (congrArg some (by kernel_rfl))
 f20:=⟨Tryz.f286.name,by decide,Tryz.func286.trans (congrArg some (by kernel_rfl))⟩
 f21:=⟨Tryz.f287.name,by decide,Tryz.func287.trans (congrArg some (by kernel_rfl))⟩
 f22:=⟨Tryz.f288.name,by decide,Tryz.func288.trans (congrArg some (by kernel_rfl))⟩
 f23:=⟨Tryz.f289.name,by decide,Tryz.func289.trans (congrArg some (by kernel_rfl))⟩
 f24:=⟨Tryz.f290.name,by decide,Tryz.func290.trans (congrArg some (by kernel_rfl))⟩
 f25:=⟨Tryz.f291.name,by decide,Tryz.func291.trans (congrArg some (by kernel_rfl))⟩
 f26:=⟨Tryz.f292.name,by decide,Tryz.func292.trans (congrArg some (by kernel_rfl))⟩
 f27:=⟨Tryz.f293.name,by decide,Tryz.func293.trans (congrArg some (by kernel_rfl))⟩
 f28:=Tryz.func240.trans (congrArg some (by kernel_rfl))
 f29:=Tryz.func241.trans (congrArg some (by kernel_rfl))
 f46:=⟨Tryz.f304.name,by decide,Tryz.func304.trans (congrArg some (by kernel_rfl))⟩
 f47:=Tryz.func276.trans (congrArg some (by kernel_rfl))
 f48:=Tryz.func277.trans (congrArg some (by kernel_rfl))
 f49:=⟨Tryz.f305.name,by decide,Tryz.func305.trans (congrArg some (by kernel_rfl))⟩
 f50:=⟨Tryz.f306.name,by decide,Tryz.func306.trans (congrArg some (by kernel_rfl))⟩
 f57:=⟨Tryz.f312.name,by decide,Tryz.func312.trans (congrArg some (by kernel_rfl))⟩
 t0:=Tryz.underlying0
 a0:=Tryz.isAgg0
 z0:=Tryz.sizeOf0
 v0:=Tryz.zeroValue0
 t3:=Tryz.underlying3
 a3:=Tryz.isAgg3
 z3:=Tryz.sizeOf3
 v3:=Tryz.zeroValue3
 t4:=Tryz.underlying4
 a4:=Tryz.isAgg4
 z4:=Tryz.sizeOf4
 v4:=Tryz.zeroValue4
 t5:=Tryz.underlying5
 a5:=Tryz.isAgg5
 z5:=Tryz.sizeOf5
 v5:=Tryz.zeroValue5
 t9:=Tryz.underlying9
 a9:=Tryz.isAgg9
 z9:=Tryz.sizeOf9
 v9:=Tryz.zeroValue9
 t22:=Tryz.underlying187
 a22:=Tryz.isAgg187
 z22:=Tryz.sizeOf187
 v22:=Tryz.zeroValue187
 t25:=Tryz.underlying251
 a25:=Tryz.isAgg251
 z25:=Tryz.sizeOf251
 v25:=Tryz.zeroValue251
 t39:=Tryz.underlying176
 a39:=Tryz.isAgg176
 z39:=Tryz.sizeOf176
 v39:=Tryz.zeroValue176
 t45:=Tryz.underlying256
 a45:=Tryz.isAgg256
 z45:=Tryz.sizeOf256
 v45:=Tryz.zeroValue256
 t46:=Tryz.underlying257
 a46:=Tryz.isAgg257
 z46:=Tryz.sizeOf257
 v46:=Tryz.zeroValue257
 t50:=Tryz.underlying194
 a50:=Tryz.isAgg194
 z50:=Tryz.sizeOf194
 v50:=Tryz.zeroValue194
 t53:=Tryz.underlying234
 a53:=Tryz.isAgg234
 z53:=Tryz.sizeOf234
 v53:=Tryz.zeroValue234
 t55:=Tryz.underlying114
 a55:=Tryz.isAgg114
 z55:=Tryz.sizeOf114
 v55:=Tryz.zeroValue114
 t66:=Tryz.underlying286
 a66:=Tryz.isAgg286
 z66:=Tryz.sizeOf286
 v66:=Tryz.zeroValue286
 t70:=Tryz.underlying290
 a70:=Tryz.isAgg290
 z70:=Tryz.sizeOf290
 v70:=Tryz.zeroValue290
 t76:=Tryz.underlying307
 a76:=Tryz.isAgg307
 z76:=Tryz.sizeOf307
 v76:=Tryz.zeroValue307
 t77:=Tryz.underlying83
 a77:=Tryz.isAgg83
 z77:=Tryz.sizeOf83
 v77:=Tryz.zeroValue83 }
theorem Tryz.sortSpot_num:Tryz.sortSpot_ren.f 6 = Go.Dw.n_slices_SortFunc_s_bounds_spot_bounds_spot:=by kernel_rfl
theorem Tryz.sortSpot_t:Tryz.sortSpot_ren.t 24 = Go.Dw.t_bounds_spot:=by kernel_rfl
theorem Tryz.sortSpot_in (args:Array Value) (w:World):(callFunc Go.Dw.n_slices_SortFunc_s_bounds_spot_bounds_spot args).run Tryz.prog w = .ok (.enter Go.Dw.n_slices_SortFunc_s_bounds_spot_bounds_spot args) w:=by
 have:=enters_of (P:=Tryz.prog) (f:=Go.Dw.n_slices_SortFunc_s_bounds_spot_bounds_spot) (by kernel_rfl:Tryz.prog.funcs[Go.Dw.n_slices_SortFunc_s_bounds_spot_bounds_spot]? = some Tryz.f226) (by kernel_rfl) rfl args w
 exact this
theorem Tryz.spotCmp_in (args:Array Value) (w:World):(callFunc Go.Dw.n_bounds_graph_reads_1 args).run Tryz.prog w = .ok (.enter Go.Dw.n_bounds_graph_reads_1 args) w:=by
 have:=enters_of (P:=Tryz.prog) (f:=Go.Dw.n_bounds_graph_reads_1) (by kernel_rfl:Tryz.prog.funcs[Go.Dw.n_bounds_graph_reads_1]? = some Tryz.f227) (by kernel_rfl) rfl args w
 exact this
theorem Tryz.spot_agg:Go.Dw.aggB Tryz.prog Go.Dw.t_bounds_spot = true:=by kernel_rfl
theorem Tryz.spot_size:Go.Dw.sizeB Tryz.prog Go.Dw.t_bounds_spot 2 = true:=by kernel_rfl
end Go.Proofs
namespace Go.Dw
open Go.Proofs Go.Sort
theorem graph_reads_1_e (x y:ASp):SpecE prog n_bounds_graph_reads_1 [encSp x,encSp y] [] fun x' H'=>x' = .int .i64 (cfS x y)∧H' = []:=by
 refine pfe_of bounds_graph_reads_1.ok rfl ?_
 have hp:∀ a b:Int,(V.sl 1 [[V.int .i64 a],[V.int .i64 b]]) = encP [a,b]:=fun _ _=>rfl
 push_cast
 refine .of (cmp_Compare_int_s _ _) ?_
 push_cast
 refine .of (cmp_Compare_int_s _ _) ?_
 push_cast [hp]
 refine .of (cmp_Or_int_s _ (by simp)) ?_
 push_cast
 exact pf_ret (by push_cast [bounds_graph_reads_1.rs];rfl)
def encSpv (s:ASp):List Value:=[.int .i64 s.1,.int .i64 s.2]
theorem ltS_iff (x y:ASp):ltOf cfS x y = decide (x.1 < y.1 ∨ x.1 = y.1∧x.2 < y.2):=by
 unfold ltOf cfS firstN firstN firstN cmpI
 by_cases h1:x.1 < y.1
 ·simp [h1]
 ·by_cases h2:y.1 < x.1
  ·have:¬ x.1 = y.1:=by omega
   simp [h1,h2,this]
  ·have h3:x.1 = y.1:=by omega
   by_cases h4:x.2 < y.2
   ·simp [h1,h2,h4,h3]
   ·by_cases h5:y.2 < x.2 <;> simp [h1,h2,h3,h4,h5]
theorem swoS:SWO (ltOf cfS) where
 irrefl x:=by rw [ltS_iff];simp
 trans x y z h1 h2:=by rw [ltS_iff] at *;simp at *;omega
 ntrans x y z h1 h2:=by rw [ltS_iff] at *;simp at *;omega
theorem totS (x y:ASp) (h1:ltOf cfS x y = false) (h2:ltOf cfS y x = false):x = y:=by
 rw [ltS_iff] at h1 h2;simp at h1 h2
 exact Prod.ext (by omega) (by omega)
theorem cmpLaysS (blk off size:Nat) (w:World):CmpLays prog n_bounds_graph_reads_1 #[] encSpv 2 cfS blk off size w:=fun m os dk _ x y=>by
 have h:=calls_pfe (graph_reads_1_e x y) (vs:=[.agg (encSpv x).toArray,.agg (encSpv y).toArray]) (fun W=>⟨_,_,rfl,⟨_,rfl,⟨_,_,rfl,rfl,_,_,rfl,rfl,rfl⟩,by simp [encSpv,oneC]⟩,_,_,rfl,⟨_,rfl,⟨_,_,rfl,rfl,_,_,rfl,rfl,rfl⟩,by simp [encSpv,oneC]⟩,rfl⟩) (sortWorldK encSpv 2 w blk off m dk os)
 exact h
theorem sortSp_row (l:List ASp) (hl:l.length < 2^40):Spec prog n_slices_SortFunc_s_bounds_spot_bounds_spot [.rw 0 2 l.length,.fn (.func n_bounds_graph_reads_1) [] []] [.row t_bounds_spot 2 (l.map cSp)] fun x H'=>x = .tup []∧H' = [.row t_bounds_spot 2 ((sortSp l).map cSp)]:=by
 refine sort_rowK (k:=2) cSp encSpv sortSp (by decide) (fun _=>rfl) (fun _=>rfl) ?_ ?_ l ((List.mergeSort_perm _ _).length_eq) Tryz.sortSpot_in ?_ ?_
 ·intro c a j x v hx hr
  match j,hx with
  | 0,hx=>cases hx;have hr:v = _:=hr;rw [hr];rfl
  | 1,hx=>cases hx;have hr:v = _:=hr;rw [hr];rfl
  | j+2,hx=>simp [cSp] at hx
 ·intro c a j x hx
  match j,hx with
  | 0,hx=>cases hx;exact ⟨_,rfl,rfl,rfl⟩
  | 1,hx=>cases hx;exact ⟨_,rfl,rfl,rfl⟩
  | j+2,hx=>simp [cSp] at hx
 ·intro b cap w hH hb
  have:=AnyQ.slices_SortFunc_total Tryz.sortSpot 2 (fun w=>by rw [Tryz.sortSpot_t];exact run_isAgg_true Tryz.spot_agg w) (fun w=>by
    rw [Tryz.sortSpot_t]
    have h:=Tryz.spot_size
    unfold sizeB at h
    cases hi:Tryz.prog.info? t_bounds_spot with
    | none=>rw [hi] at h;cases h
    | some i =>
     rw [hi] at h
     have h:i.size = 2:=by simpa using h
     simp [sizeOf,typeInfo,hi,h]) encSpv (fun _=>rfl) (fun x v hv=>by simp [encSpv] at hv;rcases hv with rfl | rfl <;> rfl) cfS swoS n_bounds_graph_reads_1 #[] b 0 cap l.toArray w Tryz.spotCmp_in (cmpLaysS b 0 l.toArray.size w) hH hb (by simp;omega) totS
  rw [Tryz.sortSpot_num] at this
  exact this
 ·intro cap w
  have:=AnyF.slices_SortFunc_none { Tryz.sortSpot with } none cap (.func (.func n_bounds_graph_reads_1) #[] #[]) w
  rw [Tryz.sortSpot_num] at this
  exact this
theorem sortSp_perm {K L:List ASp} (h:K.Perm L):sortSp K = sortSp L:=by
 have tr:∀ a b c:ASp,(!decide (cfS b a < 0)) = true→(!decide (cfS c b < 0)) = true→(!decide (cfS c a < 0)) = true:=fun a b c h1 h2=>by
  have h1:ltOf cfS b a = false:=by simpa [ltOf] using h1
  have h2:ltOf cfS c b = false:=by simpa [ltOf] using h2
  have:=swoS.ntrans c b a h2 h1
  simpa [ltOf] using this
 have tot:∀ a b:ASp,((!decide (cfS b a < 0)) || (!decide (cfS a b < 0))) = true:=fun a b=>by
  have h1:=ltS_iff b a
  have h2:=ltS_iff a b
  unfold ltOf at h1 h2
  rw [h1,h2];simp;omega
 have p1:=List.pairwise_mergeSort tr tot K
 have p2:=List.pairwise_mergeSort tr tot L
 refine List.Perm.eq_of_pairwise (fun a b _ _ h1 h2=>?_) p1 p2 ((List.mergeSort_perm _ _).trans (h.trans (List.mergeSort_perm _ _).symm))
 exact totS a b (by simpa [ltOf] using h2) (by simpa [ltOf] using h1)
theorem bounds_graph_reads_t {f:Nat} {caps:List V} (fit:Int→Bool) (hc:∀ σ,rens σ caps = caps) (mv:List AMove) (hfit:∀ x∈mv,PF f (.int .i64 x.h :: caps) (.bool (fit x.h)))
  (p:Int) (w:List Str) (hw:w.length < 2^40) (hmv:mv.length < 2^40) (hK:∀ k,k≤w.length→(readL mv fit (p,17) (w.take k)).length < 2^40) :
  Spec prog n_bounds_graph_reads [.map 0,.int .i64 p,encSs w,.fn (.func f) [] caps] [.map (encGr (fromM mv))] fun x H'=>x = encSps (readsL mv fit p w)∧H' = [.map (encGr (fromM mv))]:=by
 refine bounds_graph_reads_s fit hc mv hfit p w hw hmv hK fun K hK1 hK2=>?_
 have hp:K.Perm (readL mv fit (p,17) w):=(List.perm_ext_iff_of_nodup hK1 (readL_nodup _ _ _ _)).2 hK2
 have:=sortSp_row K (by have:=hK w.length (Nat.le_refl _);rw [List.take_length] at this;rw [hp.length_eq];exact this)
 rw [sortSp_perm hp] at this
 exact this
end Go.Dw
end
section
namespace Go.Dw
theorem slices_IndexFunc_s_bounds_spot_bounds_spot_s {p:ASp→Bool} {g:Nat} {caps:List V} (hc:∀ σ,rens σ caps = caps) (l:List ASp) (hl:l.length < 2^62) (h:∀ a∈l,PF g (encSp a :: caps) (.bool (p a))) :
  PF n_slices_IndexFunc_s_bounds_spot_bounds_spot [encL cSp 2 l,.fn (.func g) [] caps] (.int .i64 (idxI p l)):=by
 refine pf_of slices_IndexFunc_s_bounds_spot_bounds_spot.ok rfl ?_
 push_cast [hc]
 refine loop_up (n:=l.length) (R:=fun k=>(∀ j,j < k→p (l.getD j default) = false)→slices_IndexFunc_s_bounds_spot_bounds_spot.L3 (encL cSp 2 l) (.fn (.func g) [] caps) (.int .i64 l.length) (.int .i64 k) 0 [] _) ?_ ?_ 0 (by omega) (by intro j hj;omega)
 ·intro k hk ih hq
  refine slices_IndexFunc_s_bounds_spot_bounds_spot.G3 ?_
  push_cast [ilt hk,cU8_0,cS_0,hc]
  refine .of (h _ (getD_mem hk)) ?_
  push_cast [w64 (show k < 2^62 by omega),hc]
  refine ⟨fun hp=>pf_ret ?_,fun hp=>?_⟩
  ·push_cast [slices_IndexFunc_s_bounds_spot_bounds_spot.rs]
   rw [idxI_some hk hp hq]
  ·exact ih fun j hj=>by rcases Nat.lt_succ_iff_lt_or_eq.1 hj with h | rfl;exact hq j h;exact hp
 ·intro hq
  refine slices_IndexFunc_s_bounds_spot_bounds_spot.G3 ?_
  push_cast [inlt (Nat.le_refl _)]
  refine pf_ret ?_
  push_cast [slices_IndexFunc_s_bounds_spot_bounds_spot.rs]
  rw [idxI_none hq]
theorem slices_ContainsFunc_s_bounds_spot_bounds_spot_s {p:ASp→Bool} {g:Nat} {caps:List V} (hc:∀ σ,rens σ caps = caps) (l:List ASp) (hl:l.length < 2^62) (h:∀ a∈l,PF g (encSp a :: caps) (.bool (p a))) :
  PF n_slices_ContainsFunc_s_bounds_spot_bounds_spot [encL cSp 2 l,.fn (.func g) [] caps] (.bool (l.any p)):=by
 refine pf_of slices_ContainsFunc_s_bounds_spot_bounds_spot.ok rfl ?_
 push_cast [hc]
 refine .of (slices_IndexFunc_s_bounds_spot_bounds_spot_s hc l hl h) ?_
 push_cast [hc]
 refine pf_ret ?_
 push_cast [slices_ContainsFunc_s_bounds_spot_bounds_spot.rs,idxI_any]
def OkA (mv:List AMove):Prop:=∀ x∈mv,0≤x.dst∧x.dst < 256∧0≤x.h∧x.h≤16
theorem readL_in {mv:List AMove} (ho:OkA mv) (fit:Int→Bool) {p:Int} (hp:0≤p∧p < 256) (w:List Str):∀ s∈readL mv fit (p,17) w,(0≤s.1∧s.1 < 256)∧0≤s.2∧s.2 < 18:=by
 have key:∀ (n:Nat) (w:List Str),w.length = n→∀ s∈readL mv fit (p,17) w,(0≤s.1∧s.1 < 256)∧0≤s.2∧s.2 < 18:=by
  intro n
  induction n with
  | zero =>
   intro w hw s hs
   obtain rfl:=List.eq_nil_of_length_eq_zero hw
   have:s = (p,17):=by simpa [readL] using hs
   rw [this];exact ⟨hp,by simp⟩
  | succ n ih =>
   intro w hw s hs
   rcases List.eq_nil_or_concat w with rfl | ⟨w,c,rfl⟩
   ·simp at hw
   ·rw [List.concat_eq_append] at hs hw
    rw [readL_snoc,nextL_mem] at hs
    obtain ⟨u,hu,hs⟩:=hs
    have hu2:=ih w (by simpa using hw) u hu
    obtain ⟨x,hx,rfl⟩:=List.mem_map.1 hs
    have hxm:=ho x (List.mem_filter.1 (List.mem_filter.1 hx).1).1
    refine ⟨⟨hxm.1,hxm.2.1⟩,?_⟩
    simp only
    split <;> omega
 exact key w.length w rfl
def allSp:List ASp:=(List.range 256).flatMap fun (i:Nat)=>(List.range 18).map fun (j:Nat)=>((i:Int),(j:Int))
theorem allSp_len:allSp.length = 4608:=by
 unfold allSp
 rw [List.length_flatMap]
 simp only [List.length_map,List.length_range]
 decide
theorem readL_len {mv:List AMove} (ho:OkA mv) (fit:Int→Bool) {p:Int} (hp:0≤p∧p < 256) (w:List Str):(readL mv fit (p,17) w).length≤4608:=by
 rw [← allSp_len]
 refine List.Nodup.length_le_of_subset (readL_nodup _ _ _ _) fun s hs=>?_
 obtain ⟨⟨h1,h2⟩,h3,h4⟩:=readL_in ho fit hp w s hs
 unfold allSp
 refine List.mem_flatMap.2 ⟨s.1.toNat,List.mem_range.2 (by omega),List.mem_map.2 ⟨s.2.toNat,List.mem_range.2 (by omega),?_⟩⟩
 rw [Int.toNat_of_nonneg h1,Int.toNat_of_nonneg h3]
theorem readsL_mem {mv:List AMove} {fit:Int→Bool} {p:Int} {w:List Str} {s:ASp}:s∈readsL mv fit p w ↔ s∈readL mv fit (p,17) w:=(List.mergeSort_perm _ _).mem_iff
theorem readsL_len {mv:List AMove} (ho:OkA mv) (fit:Int→Bool) {p:Int} (hp:0≤p∧p < 256) (w:List Str):(readsL mv fit p w).length≤4608:=by
 have:(readsL mv fit p w).length = (readL mv fit (p,17) w).length:=(List.mergeSort_perm _ _).length_eq
 rw [this];exact readL_len ho fit hp w
def linkedM (mv:List AMove) (p q:Int) (w:List Str) (h:Int):Bool:=(readsL mv (fun x=>decide (x = h)) p w).any fun s=>decide (s.1 = q)
theorem graph_linked_1_s (h t:Int):PF n_bounds_graph_linked_1 [.int .i64 h,.ro [.int .i64 t] 0] (.bool (decide (h = t))):=by
 refine pf_of bounds_graph_linked_1.ok rfl ?_
 push_cast
 exact pf_ret (by push_cast [bounds_graph_linked_1.rs])
theorem graph_linked_2_s (s:ASp) (q:Int):PF n_bounds_graph_linked_2 [encSp s,.ro [.int .i64 q] 0] (.bool (decide (s.1 = q))):=by
 refine pf_of bounds_graph_linked_2.ok rfl ?_
 push_cast
 exact pf_ret (by push_cast [bounds_graph_linked_2.rs])
theorem lacks_1_s (h:Int):PF n_bounds_lacks_1 [.int .i64 h] (.bool true):=by
 refine pf_of bounds_lacks_1.ok rfl ?_
 push_cast
 exact pf_ret (by push_cast [bounds_lacks_1.rs])
theorem give_a (a:Ob):give [0] [a] = [renOb (pos? [0]) a]:=rfl
theorem take_a (a b:Ob):takeB [0] [a] [b] = [renOb (back [0] 1) b]:=rfl
theorem bounds_graph_linked_s (mv:List AMove) (ho:OkA mv) (p q:Int) (hp:0≤p∧p < 256) (w:List Str) (h:Int) (hw:w.length < 2^40) (hmv:mv.length < 2^40) :
  Spec prog n_bounds_graph_linked [.map 0,.int .i64 p,.int .i64 q,encSs w,.int .i64 h] [.map (encGr (fromM mv))] fun x H'=>x = .bool (linkedM mv p q w h)∧H' = [.map (encGr (fromM mv))]:=by
 refine spec_of_run mixed bounds_graph_linked.ok rfl ?_
 push_cast
 refine CallG.some [0] (by simp) (by simp) (R:=fun x H'=>x = encSps (readsL mv (fun x=>decide (x = h)) p w)∧H' = [.map (encGr (fromM mv))]) ?_ ?_
 ·have:=bounds_graph_reads_t (f:=n_bounds_graph_linked_1) (caps:=[.ro [.int .i64 h] 0]) (fun x=>decide (x = h)) (fun _=>rfl) mv (fun x _=>graph_linked_1_s x.h h) p w hw hmv (fun k _=>by have:=readL_len ho (fun x=>decide (x = h)) hp (w.take k);omega)
  rw [give_a]
  push_cast
  exact this
 ·rintro x H' ⟨rfl,rfl⟩ _
  rw [take_a]
  push_cast
  refine .of (slices_ContainsFunc_s_bounds_spot_bounds_spot_s (p:=fun s=>decide (s.1 = q)) (fun _=>rfl) _ (by have:=readsL_len ho (fun x=>decide (x = h)) hp w;omega) fun s _=>graph_linked_2_s s q) ?_
  push_cast
  exact ends_keep (H:=[.map (encGr (fromM mv))]) (J:=[]) (n:=1) ⟨rfl,by push_cast⟩ rfl ⟨rfl,rfl⟩
end Go.Dw
end
section
namespace Go.Dw
theorem rens_cRl {σ:Nat→Option Nat} (x:ARl):rens σ (cRl x) = cRl x:=rfl
theorem sub_cRl (x:ARl):sub 0 2 (cRl x) = cRl x:=rfl
theorem sto_cRl (x:ARl):sto (.agg (cRl x)) = some (cRl x):=rfl
attribute [push_cast] rens_cRl sub_cRl sto_cRl
structure AMs where
 p:Int
 q:Int
 h:Int
 word:List Str
 deriving Inhabited,DecidableEq
def cMs (m:AMs):List V:=[.int .i64 m.p,.int .i64 m.q,.int .i64 m.h,encSs m.word]
def encMs (m:AMs):V:=.agg (cMs m)
def spotF (mv:List AMove) (x:ARl) (p:Nat) (s:ASp):Option AMs:=if linkedM mv p s.1 x.right (s.2+1) then none else some ⟨p,s.1,s.2+1,x.right⟩
def stateF (mv:List AMove) (x:ARl) (p:Nat):Option AMs:=(readsL mv (fun _=>true) p x.left).findSome? (spotF mv x p)
def ruleF (mv:List AMove) (S:Nat) (x:ARl):Option AMs:=(List.range S).findSome? (stateF mv x)
def lacksM (mv:List AMove) (S:Nat) (l:List ARl):Option AMs:=l.findSome? (ruleF mv S)
def lackV:Option AMs→V
 | some m=>.tup [encMs m,.bool true]
 | none=>.tup [.agg [.int .i64 0,.int .i64 0,.int .i64 0,.sl 1 []],.bool false]
theorem range_getD {S k:Nat} (h:k < S):(List.range S).getD k default = k:=by simp [List.getD_eq_getElem?_getD,h]
theorem give_b (a b c:Ob):give [1] [a,b,c] = [renOb (pos? [1]) b]:=rfl
theorem take_b (a b c o:Ob):takeB [1] [a,b,c] [o] = [a,renOb (back [1] 3) o,c]:=rfl
theorem give_c (a b c d:Ob):give [1] [a,b,c,d] = [renOb (pos? [1]) b]:=rfl
theorem take_c (a b c d o:Ob):takeB [1] [a,b,c,d] [o] = [a,renOb (back [1] 4) o,c,d]:=rfl
theorem bounds_lacks_s (l:List ARl) (a:AAut) (S:Nat) (hS:a.states = S) (hS2:S≤256) (ho:OkA a.moves) (hmv:a.moves.length < 2^38) (hl:l.length < 2^38) (hw:∀ x∈l,x.left.length < 2^38∧x.right.length < 2^38) :
  PF n_bounds_lacks [encRls l,encAu a] (lackV (lacksM a.moves S l)):=by
 refine pf_of bounds_lacks.ok rfl ?_
 generalize hT:lacksM a.moves S l = T
 push_cast
 have hfr:=bounds_from_s a hmv
 refine CallG.some [] List.nodup_nil (fun i hi=>by cases hi) (R:=fun x H'=>x = .map 0∧H' = [.map (encGr (fromM a.moves))]) (by rw [pos_nil];push_cast;exact hfr) ?_
 rintro x H' ⟨rfl,rfl⟩ _
 rw [takeB_none]
 have hbk:back [] 1 = fun i=>some (1+i):=by funext i;simp [back]
 push_cast [hbk]
 refine loop_up (n:=l.length) (R:=fun k=>(l.drop k).findSome? (ruleF a.moves S) = T→bounds_lacks.L9 (.ro (cAu a) 0) (.ptr 0 0) (.map 1) (encRls l) (.int .i64 l.length) (.int .i64 k) 0 [.cells t_bounds_missing [.int .i64 0,.int .i64 0,.int .i64 0,.sl 1 []],.map (encGr (fromM a.moves))] (Ends 0 bounds_lacks.rs fun x' H'=>x' = lackV T∧H' = [])) ?_ ?_ 0 (Nat.zero_le _) (by rw [List.drop_zero];exact hT)
 ·intro k hk ih hq
  refine bounds_lacks.G9 ?_
  rw [drop_getD hk,List.findSome?_cons] at hq
  have hxm:=getD_mem hk
  generalize hx0:l.getD k default = x at hq hxm
  push_cast [ilt hk,hx0]
  rw [hS]
  obtain ⟨hxl,hxr⟩:=hw x hxm
  generalize hR1:(l.drop (k+1)).findSome? (ruleF a.moves S) = R1 at hq ih
  refine loop_up (n:=S) (R:=fun p=>(match ((List.range S).drop p).findSome? (stateF a.moves x) with | some m=>some m | none=>R1) = T→bounds_lacks.L7 (.ro (cAu a) 0) (.ptr 0 0) (.map 1) (.ro (cRl x) 0) (encRls l) (.int .i64 l.length) (.int .i64 k) (.int .i64 S) (.int .i64 p) 0
   [.cells t_bounds_missing [.int .i64 0,.int .i64 0,.int .i64 0,.sl 1 []],.map (encGr (fromM a.moves)),.dead] (Ends 0 bounds_lacks.rs fun x' H'=>x' = lackV T∧H' = [])) ?_ ?_ 0 (Nat.zero_le _) (by rw [List.drop_zero,← hq];unfold ruleF;cases (List.range S).findSome? (stateF a.moves x) <;> rfl)
  ·intro p hp ih2 hq2
   refine bounds_lacks.G7 ?_
   rw [drop_getD (by simpa using hp),List.findSome?_cons,range_getD hp] at hq2
   push_cast [ilt hp]
   have hpi:0≤(p:Int)∧(p:Int) < 256:=by omega
   refine CallG.some [1] (by simp) (by simp) (R:=fun x' H'=>x' = encSps (readsL a.moves (fun _=>true) p x.left)∧H' = [.map (encGr (fromM a.moves))]) ?_ ?_
   ·rw [give_b]
    push_cast
    exact bounds_graph_reads_t (f:=n_bounds_lacks_1) (caps:=[]) (fun _=>true) (fun _=>rens_nil) a.moves (fun y _=>lacks_1_s y.h) p x.left (by omega) (by omega) (fun j _=>by have:=readL_len ho (fun _=>true) hpi (x.left.take j);omega)
   rintro x' H' ⟨rfl,rfl⟩ _
   rw [take_b]
   have hsl:=readsL_len ho (fun _=>true) hpi x.left
   have hsi:∀ s∈readsL a.moves (fun _=>true) p x.left,0≤s.2∧s.2 < 18:=fun s hs=>(readL_in ho _ hpi _ s (readsL_mem.1 hs)).2
   unfold stateF at hq2
   generalize readsL a.moves (fun _=>true) p x.left = sl at hsl hsi hq2 ⊢
   push_cast
   generalize hR2:(match ((List.range S).drop (p+1)).findSome? (stateF a.moves x) with | some m=>some m | none=>R1) = R2 at ih2
   have hq3:(match sl.findSome? (spotF a.moves x p) with | some m=>some m | none=>R2) = T:=by
    rw [← hq2,← hR2]
    unfold stateF
    cases sl.findSome? (spotF a.moves x p) <;> rfl
   refine loop_up (n:=sl.length) (R:=fun j=>(match (sl.drop j).findSome? (spotF a.moves x p) with | some m=>some m | none=>R2) = T→bounds_lacks.L5 (.ro (cAu a) 0) (.ptr 0 0) (.map 1) (.ro (cRl x) 0) (.int .i64 p) (encRls l) (.int .i64 l.length) (.int .i64 k) (.int .i64 S) (.int .i64 p) (encSps sl) (.int .i64 sl.length) (.int .i64 j) 0
    [.cells t_bounds_missing [.int .i64 0,.int .i64 0,.int .i64 0,.sl 1 []],.map (encGr (fromM a.moves)),.dead] (Ends 0 bounds_lacks.rs fun x' H'=>x' = lackV T∧H' = [])) ?_ ?_ 0 (Nat.zero_le _) (by rw [List.drop_zero];exact hq3)
   ·intro j hj ih3 hq4
    refine bounds_lacks.G5 ?_
    rw [drop_getD hj,List.findSome?_cons] at hq4
    have hsj:=hsi _ (getD_mem hj)
    generalize hs0:sl.getD j default = s at hq4 hsj
    have hw1:IntKind.i64.wrap (s.2+1) = s.2+1:=wrap64 (by omega) (by omega)
    push_cast [ilt hj,hs0,hw1]
    refine CallG.some [1] (by simp) (by simp) (R:=fun x' H'=>x' = .bool (linkedM a.moves p s.1 x.right (s.2+1))∧H' = [.map (encGr (fromM a.moves))]) ?_ ?_
    ·rw [give_c]
     push_cast
     exact bounds_graph_linked_s a.moves ho p s.1 hpi x.right (s.2+1) (by omega) (by omega)
    rintro x' H' ⟨rfl,rfl⟩ _
    rw [take_c]
    cases hlk:linkedM a.moves p s.1 x.right (s.2+1) with
    | true =>
     have hf:spotF a.moves x p s = none:=by unfold spotF;rw [hlk];rfl
     rw [hf] at hq4
     push_cast [w64 (show j < 2^62 by omega)]
     have:=ih3 hq4
     push_cast at this
     exact this
    | false =>
     have hf:spotF a.moves x p s = some ⟨p,s.1,s.2+1,x.right⟩:=by unfold spotF;rw [hlk];rfl
     rw [hf] at hq4
     simp only at hq4
     push_cast [hw1]
     refine pf_ret ?_
     push_cast [bounds_lacks.rs]
     rw [← hq4];rfl
   ·intro hq4
    rw [drop_map_none] at hq4
    refine bounds_lacks.G5 ?_
    push_cast [inlt (Nat.le_refl _),w64 (show p < 2^62 by omega)]
    have:=ih2 hq4
    push_cast at this
    exact this
  ·intro hq2
   have hd:(List.range S).drop S = []:=List.drop_of_length_le (by simp)
   rw [hd] at hq2
   refine bounds_lacks.G7 ?_
   push_cast [inlt (Nat.le_refl _),w64 (show k < 2^62 by omega)]
   have:=ih hq2
   push_cast at this
   exact this
 ·intro hq
  rw [drop_map_none] at hq
  refine bounds_lacks.G9 ?_
  push_cast [inlt (Nat.le_refl _)]
  refine pf_ret ?_
  push_cast [bounds_lacks.rs]
  rw [← hq];rfl
end Go.Dw
end
section
namespace Go.Proofs
open Go.RowKit Go.Shelf Go.Sort
def Tryz.laysComp_ren:Go.Shelf.Ren:=⟨fun | 194=>166 | n=>n,fun | 31=>104 | 9=>9 | 3=>3 | 4=>4 | 0=>0 | n=>n,fun | n=>n⟩
theorem Tryz.laysComp:Go.Proofs.Lays.n194 Tryz.prog Tryz.laysComp_ren:={
 mixed:=by kernel_rfl
 f194:=Tryz.func166.trans (congrArg some (by kernel_rfl))
 t0:=Tryz.underlying0
 a0:=Tryz.isAgg0
 z0:=Tryz.sizeOf0
 v0:=Tryz.zeroValue0
 t3:=Tryz.underlying3
 a3:=Tryz.isAgg3
 z3:=Tryz.sizeOf3
 v3:=Tryz.zeroValue3
 t4:=Tryz.underlying4
 a4:=Tryz.isAgg4
 z4:=Tryz.sizeOf4
 v4:=Tryz.zeroValue4
 t9:=Tryz.underlying9
 a9:=Tryz.isAgg9
 z9:=Tryz.sizeOf9
 v9:=Tryz.zeroValue9
 t31:=Tryz.underlying104
 a31:=Tryz.isAgg104
 z31:=Tryz.sizeOf104
 v31:=Tryz.zeroValue104 }
theorem Tryz.comp_num:Tryz.laysComp_ren.f 194 = Go.Dw.n_slices_Compact_s_string_string:=by kernel_rfl
theorem Tryz.comp_in (args:Array Value) (w:World):(callFunc Go.Dw.n_slices_Compact_s_string_string args).run Tryz.prog w = .ok (.enter Go.Dw.n_slices_Compact_s_string_string args) w:=by
 have:=enters_of (P:=Tryz.prog) Tryz.laysComp.f194 (by kernel_rfl) rfl args w
 rw [Tryz.comp_num] at this
 exact this
theorem Tryz.comp_c (blk off cap:Nat) (zs:List (List UInt8)) (w:World) (hH:Holds encStr w blk off zs.toArray) (hsz:zs.length≤9223372036854775807) (hcap:zs.length≤cap) :
  Calls Tryz.prog Go.Dw.n_slices_Compact_s_string_string #[.slice (some ⟨blk,off,none⟩) zs.length cap] w fun e w' =>
   e = .returned (.slice (some ⟨blk,off,none⟩) (Lib.compact zs).length cap)∧∃ q,w' = putRow encStr (Sort.ahead w q) blk off (Lib.compact zs++List.replicate (zs.length - (Lib.compact zs).length) []).toArray:=by
 have:=calls_of_every_depth fun D=>AnyS.slices_Compact_string_in Tryz.laysComp D blk off cap zs w hH hsz hcap
 rw [Tryz.comp_num] at this
 exact this
theorem Tryz.comp_n (cap:Nat) (w:World):Calls Tryz.prog Go.Dw.n_slices_Compact_s_string_string #[.slice none 0 cap] w fun e w'=>e = .returned (.slice none 0 cap)∧w' = w:=by
 have:=calls_of_every_depth fun D=>AnyS.slices_Compact_string_empty_in Tryz.laysComp D none cap w
 rw [Tryz.comp_num] at this
 exact this
end Go.Proofs
namespace Go.Dw
open Go.Proofs Go.Sort
theorem comp_le (zs:List (List UInt8)):(Lib.compact zs).length≤zs.length:=by
 unfold Lib.compact Lib.compactUpTo
 rw [List.length_map]
 exact Nat.le_trans (List.length_filter_le _ _) (by simp)
theorem put_strs {c:Cx} (hc:Conc c) {l so:List (List UInt8)} {b m n:Nat} {os:Array Obj} {vs:Array Value} (hH:c.H = [.row t_string 1 (l.map fun s=>[V.str s])]) (p1:0 < c.H.length) (hρ:c.ρ 0 = some (b,m)) (hblt:b < c.w.heap.size)
  (r1:c.w.heap[b]? = some (.cells vs t_string (0,0))) (r2:vs.size = m * 1) (r3:(l.map fun s=>[V.str s]).length≤m) (r4:m≤capMax) (r5:∀ o,¬ c.ok b o) (hperm:so.length = l.length) :
  ∃ c':Cx,c'.w = grow (putRow encStr (Sort.ahead c.w n) b 0 so.toArray) os∧c'.H = [.row t_string 1 (so.map fun s=>[V.str s])]∧c'.ok = c.ok∧c'.ρ = c.ρ∧Conc c'∧Fr c c':=by
 generalize hw':grow (putRow encStr (Sort.ahead c.w n) b 0 so.toArray) os = w'
 have hsz:w'.heap.size = c.w.heap.size+os.size:=by subst hw';simp [grow,putRow,mapBlock,Sort.ahead]
 have hoth:∀ b',b' < c.w.heap.size→b' ≠ b→w'.heap[b']? = c.w.heap[b']?:=fun b' h1 h2=>by
  subst hw'
  simp only [grow,putRow,mapBlock,Sort.ahead]
  rw [Array.getElem?_append_left (by simpa using h1),Array.getElem?_modify,if_neg (Ne.symm h2)]
 have hsame:w'.heap[b]? = some (.cells (putCells encStr 0 so.toArray vs) t_string (0,0)):=by
  subst hw'
  simp only [grow,putRow,mapBlock,Sort.ahead]
  rw [Array.getElem?_append_left (by simpa using hblt),Array.getElem?_modify,if_pos rfl,r1]
  rfl
 have howns:∀ b',c.owns b' ↔ b' = b:=fun b'=>by
  constructor
  ·rintro ⟨i,k',h1,h2⟩
   have:i = 0:=by rw [hH] at h1;simpa using h1
   subst this
   rw [hρ] at h2;cases h2;rfl
  ·rintro rfl;exact ⟨0,m,p1,hρ⟩
 refine ⟨⟨w',c.ok,c.ρ,[.row t_string 1 (so.map fun s=>[V.str s])]⟩,rfl,rfl,rfl,rfl,?_,?_⟩
 ·refine ⟨fun i j b1 k1 k2 h1 h2 _ _=>?_,fun b' o h=>?_,fun i o hi=>?_⟩
  ·simp only [List.length_singleton] at h1 h2;omega
  ·have:=hc.okLt _ _ h;show b' < w'.heap.size;omega
  ·cases i with
   | succ i=>simp at hi
   | zero =>
    simp only [List.getElem?_cons_zero,Option.some.injEq] at hi
    subst hi
    refine ⟨fun h=>?_,fun b' k' h=>?_⟩
    ·have h:c.ρ 0 = none:=h
     rw [hρ] at h;cases h
    ·have h:c.ρ 0 = some (b',k'):=h
     rw [hρ] at h;cases h
     refine ⟨putCells encStr 0 so.toArray vs,hsame,by simpa [putCells] using r2,by simpa [hperm] using r3,r4,r5,fun i el hi=>?_⟩
     rw [List.getElem?_map] at hi
     cases hs:so[i]? with
     | none=>rw [hs] at hi;cases hi
     | some s =>
      rw [hs] at hi;cases hi
      refine ⟨rfl,fun j x hx=>?_⟩
      cases j with
      | succ j=>simp at hx
      | zero =>
       simp only [List.getElem?_cons_zero,Option.some.injEq] at hx
       subst hx
       have hil:i < so.length:=(List.getElem?_eq_some_iff.1 hs).1
       have hsi:so[i] = s:=(List.getElem?_eq_some_iff.1 hs).2
       have hiv:i < vs.size:=by rw [List.length_map] at r3;omega
       refine ⟨encStr s,?_,rfl,rfl⟩
       rw [Nat.mul_one,Nat.add_zero]
       simp only [putCells,Array.getElem?_mapIdx,Array.getElem?_eq_getElem hiv,Option.map_some]
       rw [if_pos (by simpa using hil)]
       simp [hil,hsi]
 ·refine ⟨fun _ _ h=>h,fun b' o h=>?_,by show c.w.heap.size≤w'.heap.size;omega,fun _ _ h=>.inl h,fun b' hb hno=>hoth b' hb (fun e=>hno ((howns b').2 e)),fun b' hb=>.inl ?_,fun j o hj=>?_,?_,?_,?_,?_⟩
  ·have hne:b' ≠ b:=fun e=>r5 o (e ▸ h)
   simp only [World.cell?]
   rw [hoth b' (hc.okLt _ _ h) hne]
  ·obtain ⟨i,k',h1,h2⟩:=hb
   exact ⟨i,k',by rw [hH];exact h1,h2⟩
  ·rw [hH] at hj
   cases j with
   | succ j=>simp at hj
   | zero =>
    simp only [List.getElem?_cons_zero,Option.some.injEq] at hj
    subst hj
    exact ⟨_,rfl,rfl,rfl,by simp [hperm],fun _=>rfl⟩
  ·subst hw';rfl
  ·subst hw';rfl
  ·subst hw';rfl
  ·subst hw';exact Nat.le_add_right _ _
theorem comp_row (l:List (List UInt8)):Spec prog n_slices_Compact_s_string_string [.rw 0 1 l.length] [.row t_string 1 (l.map fun s=>[V.str s])] fun x H'=>x = .sl 1 ((Lib.compact l).map fun s=>[V.str s])∧H' = [.dead]:=by
 intro c vs hH hc hr
 obtain ⟨v,vs',rfl,h1,h2⟩:=hr
 have h2:vs' = []:=h2
 subst h2
 left
 have h0:c.H[0]? = some (.row t_string 1 (l.map fun s=>[V.str s])):=by rw [hH];rfl
 obtain ⟨q1,q2⟩:=hc.obj 0 _ h0
 obtain ⟨p1,⟨a,k,p2,p3,p4⟩,p5⟩:=h1
 have hcur:=(p5 _ _ _ h0).2.2 (by simp)
 refine ⟨Tryz.comp_in _ _,?_⟩
 have hcl:=comp_le l
 cases hρ:c.ρ 0 with
 | none =>
  have hl:l = []:=by simpa using q1 hρ
  subst hl
  rw [hρ] at hcur
  have hcur:v = .slice none 0 0:=hcur
  subst hcur
  refine (Tryz.comp_n 0 c.w).mono ?_
  rintro e w' ⟨rfl,rfl⟩
  obtain ⟨f1,f2,f3⟩:=freeze hc h0 (by simp)
  refine ⟨_,.sl 1 [],c.frz 0 1 0,rfl,rfl,⟨rfl,by simp [Cx.frz,hH]⟩,f2,rep_of_prep (c:=c.frz 0 1 0) (f3 _ (by rw [hρ];rfl)),f1⟩
 | some bk =>
  obtain ⟨b,m⟩:=bk
  rw [hρ] at hcur
  have hcur:v = .slice (some ⟨b,0,none⟩) l.length m:=hcur
  subst hcur
  obtain ⟨vs,r1,r2,r3,r4,r5,r6⟩:=q2 b m hρ
  have hblt:b < c.w.heap.size:=(Array.getElem?_eq_some_iff.1 r1).1
  have hcell:∀ j (s:List UInt8),l[j]? = some s→vs[j]? = some (encStr s):=fun j s hj=>by
   obtain ⟨_,hx⟩:=r6 j [V.str s] (by rw [List.getElem?_map,hj];rfl)
   obtain ⟨v,e1,_,e3⟩:=hx 0 _ rfl
   have e3:v = .string ⟨⟨s⟩⟩:=e3
   rw [Nat.mul_one,Nat.add_zero] at e1
   rw [e1,e3]
  have hHolds:Holds encStr c.w b 0 l.toArray:=fun j hj=>by
   have hj:j < l.length:=by simpa using hj
   have hg:l[j]? = some l[j]:=by simp [hj]
   have:=hcell j _ hg
   have hgd:l.toArray[j]! = l[j]:=by simp [hj]
   refine ⟨?_,?_⟩
   ·simp only [World.cell?,r1,Nat.zero_add,hgd]
    exact this
   ·simp [World.frozen?,r1]
  have r3':l.length≤m:=by simpa using r3
  have hm:l.length≤140737488355328:=p3
  refine (Tryz.comp_c b 0 m l c.w hHolds (by omega) r3').mono ?_
  rintro e w' ⟨rfl,q,rfl⟩
  generalize hp:Lib.compact l++List.replicate (l.length - (Lib.compact l).length) [] = p
  have hpl:p.length = l.length:=by rw [← hp];simp;omega
  obtain ⟨c1,t1,t2,t3,t4,t5,t6⟩:=put_strs (so:=p) (n:=q) (os:=#[]) hc hH p1 hρ hblt r1 r2 r3 r4 r5 hpl
  rw [grow_empty] at t1
  have hi1:c1.H[0]? = some (.row t_string 1 (p.map fun s=>[V.str s])):=by rw [t2];rfl
  obtain ⟨f1,f2,f3⟩:=freeze t5 hi1 (by rw [List.length_map,hpl];exact p3)
  rw [List.length_map] at f1 f2 f3
  have hv:=f3 (.slice (some ⟨b,0,none⟩) p.length m) (by rw [t4,hρ];rfl)
  obtain ⟨a',c',b',o',g1,g2,g3,g4,g5,g6⟩:=hv
  simp only [Value.slice.injEq,List.length_map] at g1
  obtain ⟨g1a,_,g1c⟩:=g1
  refine ⟨_,.sl 1 ((Lib.compact l).map fun s=>[V.str s]),c1.frz 0 1 p.length,rfl,t1,⟨rfl,by simp [Cx.frz,t2]⟩,f2,?_,t6.trans f1⟩
  refine rep_of_prep (c:=c1.frz 0 1 p.length) ?_
  have hsub:=prepE_sub (l:=0) (m:=(Lib.compact l).length) g6
  rw [List.drop_zero,Nat.zero_mul,Nat.add_zero,List.map_map] at hsub
  have hpm:(p.map ((rens fun _=>none) ∘ fun s=>[V.str s])).take (Lib.compact l).length = (Lib.compact l).map fun s=>[V.str s]:=by
   rw [← hp,List.map_append,List.take_append_of_le_length (by simp),List.take_of_length_le (by simp)]
   rfl
  rw [hpm] at hsub
  refine ⟨some ⟨b,0,none⟩,m,b',o',by simp,by simp;omega,r4,by simp;unfold maxEls;omega,?_,?_⟩
  ·rcases g5 with h | h
   ·left
    have:p = []:=by simpa using h
    have:l.length = 0:=by rw [← hpl,this];rfl
    have:(Lib.compact l).length = 0:=by omega
    rw [List.eq_nil_of_length_eq_zero this];rfl
   ·right;rw [g1a];exact h
  ·exact hsub
end Go.Dw
end
section
namespace Go.Dw
theorem compact_mem {α:Type} [Inhabited α] [DecidableEq α] {zs:List α} {x:α}:x∈Lib.compact zs ↔ x∈zs:=by
 constructor
 ·intro h
  unfold Lib.compact Lib.compactUpTo at h
  obtain ⟨i,hi,rfl⟩:=List.mem_map.1 h
  have hi':i < zs.length:=List.mem_range.1 (List.mem_filter.1 hi).1
  simp [getElem!_pos,hi']
 ·intro h
  obtain ⟨i,hi,rfl⟩:=List.getElem_of_mem h
  have key:∀ (n i:Nat) (hi:i < zs.length),i = n→zs[i]∈Lib.compact zs:=by
   intro n
   induction n with
   | zero =>
    rintro i hi rfl
    refine List.mem_map.2 ⟨0,List.mem_filter.2 ⟨List.mem_range.2 hi,by simp [Lib.keeps]⟩,by simp [getElem!_pos,hi]⟩
   | succ n ih =>
    rintro i hi rfl
    by_cases e:zs[n+1] = zs[n]'(by omega)
    ·rw [e];exact ih n (by omega) rfl
    ·refine List.mem_map.2 ⟨n+1,List.mem_filter.2 ⟨List.mem_range.2 hi,?_⟩,by simp [getElem!_pos,hi]⟩
     have h1:zs.toArray[n+1]! = zs[n+1]:=by simp [getElem!_pos,hi]
     have h2:zs.toArray[n]! = zs[n]'(by omega):=by
      have:n < zs.length:=by omega
      simp [getElem!_pos,this]
     simp only [Lib.keeps,Nat.add_sub_cancel,h1,h2]
     simpa using e
  exact key i i hi rfl
def allN:List ARl→List Str
 | []=>[]
 | x :: l=>x.left++x.right++allN l
def namesM (l:List ARl):List Str:=Lib.compact (Proofs.sortS (allN l))
theorem allN_append (a b:List ARl):allN (a++b) = allN a++allN b:=by
 induction a with
 | nil=>rfl
 | cons x a ih=>simp [allN,ih]
theorem allN_take (r:List ARl) {k:Nat} (hk:k < r.length):allN (r.take (k+1)) = allN (r.take k)++((r.getD k default).left++(r.getD k default).right):=by
 rw [take_succ_getD hk,allN_append];simp [allN]
theorem namesM_mem {l:List ARl} {n:Str}:n∈namesM l ↔ n∈allN l:=by
 unfold namesM;rw [compact_mem];exact (List.mergeSort_perm _ _).mem_iff
theorem rens_strs2 {σ:Nat→Option Nat} {l:List Str}:(l.map fun s=>[V.str s]).map (rens σ) = l.map fun s=>[V.str s]:=by rw [List.map_map];rfl
theorem bounds_names_s (l:List ARl) (hl:l.length < 2^38) (ho:(allN l).length < 2^38):PF n_bounds_names [encRls l] (encSs (namesM l)):=by
 refine pf_of bounds_names.ok rfl ?_
 push_cast
 refine loop_up (n:=l.length) (R:=fun k=>bounds_names.L3 (.rw 0 1 (allN (l.take k)).length) (encRls l) (.int .i64 l.length) (.int .i64 k) 0 [.row t_string 1 ((allN (l.take k)).map fun s=>[V.str s])] (Ends 0 bounds_names.rs fun x' H'=>x' = encSs (namesM l)∧H' = [])) ?_ ?_ 0 (Nat.zero_le _)
 ·intro k hk ih
  refine bounds_names.G3 ?_
  have htk:=allN_take l hk
  have hle:(allN (l.take (k+1))).length≤(allN l).length:=by
   have h2:=allN_append (l.take (k+1)) (l.drop (k+1))
   rw [List.take_append_drop] at h2
   rw [h2,List.length_append];omega
  generalize hx0:l.getD k default = x at htk
  rw [htk] at ih hle
  generalize allN (l.take k) = A at ih hle ⊢
  simp only [List.length_append] at hle
  have hcs:cS = fun s=>[V.str s]:=rfl
  push_cast [ilt hk,hx0,w64 (show k < 2^62 by omega)]
  simp only [List.length_map]
  refine ⟨⟨trivial,by unfold maxEls;omega⟩,⟨trivial,by unfold maxEls;omega⟩,?_⟩
  rw [hcs,← List.map_append,← List.map_append,rens_strs2]
  rw [List.length_append,List.length_append,← Nat.add_assoc] at ih
  push_cast at ih
  exact ih
 ·refine bounds_names.G3 ?_
  rw [List.take_length]
  push_cast [inlt (Nat.le_refl _)]
  refine CallG.some [0] (by simp) (by simp) (R:=fun x' H'=>x' = .tup []∧H' = [.row t_string 1 ((Proofs.sortS (allN l)).map fun s=>[V.str s])]) ?_ ?_
  ·rw [give_a,renOb_row,rens_strs2]
   push_cast
   exact sort_row (allN l)
  rintro x' H' ⟨rfl,rfl⟩ _
  rw [take_a]
  have hsl:(Proofs.sortS (allN l)).length = (allN l).length:=(List.mergeSort_perm _ _).length_eq
  push_cast [rens_strs2]
  rw [← hsl]
  refine CallG.some [0] (by simp) (by simp) (R:=fun x' H'=>x' = .sl 1 ((namesM l).map fun s=>[V.str s])∧H' = [.dead]) ?_ ?_
  ·rw [give_a,renOb_row,rens_strs2]
   push_cast
   exact comp_row (Proofs.sortS (allN l))
  rintro x' H' ⟨rfl,rfl⟩ _
  rw [take_a]
  push_cast
  refine pf_ret ?_
  push_cast [bounds_names.rs]
  rfl
end Go.Dw
end
section
namespace Go.Dw
namespace idxStr
def nd:Nat→C
 | 0=>.seq (.reg [.mv 4 (.i (-1))]) (.ret)
 | 1=>.gh [.ks 0 [0,1,7,8]] (.m 3)
 | 2=>.seq (.blk 1 (.seq (.reg [.mv 10 (.s 8),.mv 5 (.s 10)]) (.seq (.reg [.mv 11 (.s 1),.mv 12 (.s 0),.mv 13 (.s 5),.ia 14 1 (.s 12) (.s 13),.ld 15 (.s 14),.callv (some 16) (.s 11) [.s 15]]) (.cond (.s 16) (.seq (.reg [.mv 17 (.s 5),.mv 4 (.s 17)]) (.ret)) (.skip))))) (.reg [.bin 18 .add (.s 8) (.i 1),.mv 8 (.s 18)])
 | 3=>.seq (.reg [.bin 9 .lss (.s 8) (.s 7)]) (.seq (.cond (.s 9) (.skip) (.exit 0)) (.n 2))
 | _=>.skip
def body:C:=.seq (.reg [.mv 4 (.i 0)]) (.seq (.seq (.reg [.mv 6 (.s 0),.len 7 (.s 6),.mv 8 (.i 0)]) (.blk 0 (.loop (.n 1)))) (.n 0))
def rs:List RV:=[.t 4]
attribute [push_cast] nd body
theorem ok:okF prog n_slices_IndexFunc_s_string_string nd body 2 rs = true:=by kernel_rfl
abbrev L3 (v0 v1 v7 v8:V) (B:Nat) (H:List Ob) (Q:X→T→List Ob→Prop):Prop:=Run prog nd B [.c (.m 3),.c (.loop (.n 1)),.mk 0,.c (.n 0)] [(0,v0),(1,v1),(7,v7),(8,v8)] H Q
theorem G3 {v0 v1 v7 v8:V} {B:Nat} {H:List Ob} {Q:X→T→List Ob→Prop} (h:Run prog nd B [.c (nd 3),.c (.loop (.n 1)),.mk 0,.c (.n 0)] [(0,v0),(1,v1),(7,v7),(8,v8)] H Q):L3 v0 v1 v7 v8 B H Q:=run_m.2 h
end idxStr
namespace cntStr
def nd (_:Nat):C:=.skip
def body:C:=.seq (.reg [.mv 4 (.c (.bool false))]) (.seq (.reg [.mv 5 (.s 0),.mv 6 (.s 1),.call (some 7) n_slices_IndexFunc_s_string_string [.s 5,.s 6],.bin 8 .geq (.s 7) (.i 0),.mv 4 (.s 8)]) (.ret))
def rs:List RV:=[.t 4]
attribute [push_cast] nd body
theorem ok:okF prog n_slices_ContainsFunc_s_string_string nd body 2 rs = true:=by kernel_rfl
end cntStr
section
variable {p:Str→Bool} {g:Nat} {caps:List V} {H:List Ob} (hc:rens (clip H.length) caps = caps) (hH:H.map (renOb (clip H.length)) = H) (l:List Str) (hl:l.length < 2^62) (h:∀ a∈l,Spec prog g (.str a :: caps) H fun x H'=>x = .bool (p a)∧H' = H)
include hc hH hl h
theorem IndexFunc_str:Spec prog n_slices_IndexFunc_s_string_string [encSs l,.fn (.func g) [] caps] H fun x H'=>x = .int .i64 (idxI p l)∧H' = H:=by
 refine spec_of_run mixed idxStr.ok rfl ?_
 push_cast [hc,hH,List.take_length]
 refine loop_up (n:=l.length) (R:=fun k=>(∀ j,j < k→p (l.getD j default) = false)→idxStr.L3 (encSs l) (.fn (.func g) [] caps) (.int .i64 l.length) (.int .i64 k) H.length H (Ends H.length idxStr.rs fun x H'=>x = .int .i64 (idxI p l)∧H' = H)) ?_ ?_ 0 (Nat.zero_le _) (by intro j hj;omega)
 ·intro k hk ih hq
  refine idxStr.G3 ?_
  have hm:=getD_mem hk
  have hi:p (l.getD k default) = true→idxI p l = k:=fun hp=>idxI_some hk hp hq
  have hn:p (l.getD k default) = false→∀ j,j < k+1→p (l.getD j default) = false:=fun hp j hj=>by
   rcases Nat.lt_succ_iff_lt_or_eq.1 hj with h | rfl
   ·exact hq j h
   ·exact hp
  generalize hx:l.getD k default = a at hm hi hn
  push_cast [ilt hk,hx,cS_0]
  refine CallG.all (R:=fun x H'=>x = .bool (p a)∧H' = H) (h a hm) ?_
  rintro x H' ⟨rfl,rfl⟩
  cases hp:p a with
  | true =>
   push_cast
   exact ends_all (.inl rfl) rfl ⟨by rw [hi hp];rfl,rfl⟩
  | false =>
   push_cast [hc,hH,List.take_length,w64 (show k < 2^62 by omega)]
   have:=ih (hn hp)
   push_cast at this
   exact this
 ·intro hq
  refine idxStr.G3 ?_
  push_cast [inlt (Nat.le_refl _)]
  exact ends_all (.inl rfl) rfl ⟨by rw [idxI_none hq];rfl,rfl⟩
theorem ContainsFunc_str:Spec prog n_slices_ContainsFunc_s_string_string [encSs l,.fn (.func g) [] caps] H fun x H'=>x = .bool (l.any p)∧H' = H:=by
 refine spec_of_run mixed cntStr.ok rfl ?_
 push_cast
 refine CallG.all (R:=fun x H'=>x = .int .i64 (idxI p l)∧H' = H) (IndexFunc_str hc hH l hl h) ?_
 rintro x H' ⟨rfl,rfl⟩
 push_cast
 exact ends_all (.inl rfl) rfl ⟨by push_cast [idxI_any],rfl⟩
end
end Go.Dw
end
section
namespace Go.Dw
abbrev grH (mv:List AMove):List Ob:=[.map (encGr (fromM mv)),.cells t_bounds_graph [.map 0]]
theorem give_g (a b:Ob):give [0] [a,b] = [renOb (pos? [0]) a]:=rfl
theorem take_g (a b o:Ob):takeB [0] [a,b] [o] = [renOb (back [0] 2) o,b]:=rfl
theorem sl_one (n:Str):V.sl 1 [[V.str n]] = encSs [n]:=rfl
theorem loops_1_s (mv:List AMove) (ho:OkA mv) (hmv:mv.length < 2^38) (n:Str):Spec prog n_bounds_loops_1 [.str n,.ptr 1 0] (grH mv) fun x H'=>x = .bool (!linkedM mv 0 0 [n] 0)∧H' = grH mv:=by
 refine spec_of_run mixed bounds_loops_1.ok rfl ?_
 push_cast [sl_one]
 refine CallG.some [0] (by simp) (by simp) (R:=fun x' H'=>x' = .bool (linkedM mv 0 0 [n] 0)∧H' = [.map (encGr (fromM mv))]) ?_ ?_
 ·rw [give_g]
  push_cast
  exact bounds_graph_linked_s mv ho 0 0 (by omega) [n] 0 (by simp) (by omega)
 rintro x' H' ⟨rfl,rfl⟩ _
 rw [take_g]
 push_cast
 exact ends_all (.inl rfl) rfl ⟨rfl,rfl⟩
def loopsM (l:List ARl) (mv:List AMove):Bool:=!(namesM l).any fun n=>!linkedM mv 0 0 [n] 0
theorem bounds_loops_s (l:List ARl) (a:AAut) (ho:OkA a.moves) (hmv:a.moves.length < 2^38) (hl:l.length < 2^38) (hn:(allN l).length < 2^38):PF n_bounds_loops [encRls l,encAu a] (.bool (loopsM l a.moves)):=by
 refine pf_of bounds_loops.ok rfl ?_
 push_cast
 refine CallG.some [] List.nodup_nil (fun i hi=>by cases hi) (R:=fun x H'=>x = .map 0∧H' = [.map (encGr (fromM a.moves))]) (by rw [pos_nil];push_cast;exact bounds_from_s a hmv) ?_
 rintro x H' ⟨rfl,rfl⟩ _
 rw [takeB_none]
 push_cast
 have hnl:(namesM l).length≤(allN l).length:=by
  have:=Go.Dw.comp_le (Proofs.sortS (allN l))
  rw [show (Proofs.sortS (allN l)).length = (allN l).length from (List.mergeSort_perm _ _).length_eq] at this
  exact this
 have hbk:back [] 0 = fun i=>some (0+i):=by funext i;simp [back]
 push_cast [hbk]
 refine .of (bounds_names_s l hl hn) ?_
 push_cast
 refine CallG.all (R:=fun x H'=>x = .bool ((namesM l).any fun n=>!linkedM a.moves 0 0 [n] 0)∧H' = grH a.moves) (ContainsFunc_str (H:=grH a.moves) (caps:=[.ptr 1 0]) rfl (by push_cast) (namesM l) (by omega) fun n _=>loops_1_s a.moves ho hmv n) ?_
 rintro x H' ⟨rfl,rfl⟩
 push_cast
 exact pf_ret (by push_cast [bounds_loops.rs];rfl)
theorem movesE_ok {a:AAut}:∀ {l:List AMove},movesE a l = 0→∀ x∈l,moveE a x = 0
 | [],_,x,hx=>by cases hx
 | y :: l,h,x,hx=>by
  simp only [movesE] at h
  by_cases h1:moveE a y = 0
  ·rw [if_neg (by simp [h1])] at h
   rcases List.mem_cons.1 hx with rfl | hx
   ·exact h1
   ·exact movesE_ok h x hx
  ·rw [if_pos h1] at h;exact absurd h h1
theorem moveE_ok {a:AAut} {x:AMove} (h:moveE a x = 0):(0≤x.src∧x.src < a.states)∧(0≤x.dst∧x.dst < a.states)∧(0≤x.h∧x.h≤a.bound)∧isName x.name true = true:=by
 unfold moveE at h
 split at h
 ·cases h
 ·rename_i h1
  split at h
  ·cases h
  ·rename_i h2
   split at h
   ·rename_i h3;exact ⟨by omega,by omega,by omega,h3⟩
   ·cases h
structure FormOk (a:AAut):Prop where
 st:1≤a.states∧a.states≤256
 bd:0≤a.bound∧a.bound≤16
 len:a.moves.length≤4096
 mv:∀ x∈a.moves,(0≤x.src∧x.src < a.states)∧(0≤x.dst∧x.dst < a.states)∧(0≤x.h∧x.h≤a.bound)∧isName x.name true = true
 ord:inOrder a.moves = true
theorem formE_iff {a:AAut}:formE a = 0 ↔ FormOk a:=by
 unfold formE
 constructor
 ·intro h
  split at h
  ·cases h
  ·rename_i h1
   split at h
   ·cases h
   ·rename_i h2
    split at h
    ·rename_i h3;exact absurd h h3
    ·rename_i h3
     split at h
     ·rename_i h4
      exact ⟨by omega,by omega,by omega,fun x hx=>moveE_ok (movesE_ok (by simpa using h3) x hx),h4⟩
     ·cases h
 ·intro h
  have h1:=h.st
  have h2:=h.bd
  have h3:=h.len
  rw [if_neg (by omega),if_neg (by omega)]
  have h4:∀ l:List AMove,(∀ x∈l,x∈a.moves)→movesE a l = 0:=by
   intro l
   induction l with
   | nil=>intro _;rfl
   | cons x l ih =>
    intro hm
    have hx:=h.mv x (hm x (by simp))
    have:moveE a x = 0:=by unfold moveE;rw [if_neg (by omega),if_neg (by omega),if_pos hx.2.2.2]
    simp only [movesE,this,ne_eq,not_true_eq_false,if_false]
    exact ih fun y hy=>hm y (by simp [hy])
  rw [h4 _ (fun x hx=>hx),if_neg (by simp),if_pos h.ord]
theorem FormOk.okA {a:AAut} (h:FormOk a):OkA a.moves:=fun x hx=>by
 have h1:=h.mv x hx
 have h2:=h.st
 have h3:=h.bd
 omega
def checkB (r:List ARule) (a:AAut):Int :=
 if (systemE r).2 ≠ 0 then (systemE r).2 else if formE a ≠ 0 then formE a else if loopsM (systemE r).1 a.moves = false then 11 else if (lacksM a.moves a.states.toNat (systemE r).1).isSome then 11 else 0
structure Sz (r:List ARule) (a:AAut):Prop where
 r:rbs r < 2^28
 l:a.moves.length < 2^38
 n:∀ x∈a.moves,x.name.length < 2^38
theorem allN_rl:∀ r:List ARule,allN (r.map toRl) = symbolsR r
 | []=>rfl
 | x :: r=>by simp only [List.map_cons,allN,symbolsR,allN_rl r,toRl]
theorem sys_sz {r:List ARule} (hr:rbs r < 2^38):(systemE r).1.length < 2^38∧(allN (systemE r).1).length < 2^38∧∀ x∈(systemE r).1,x.left.length < 2^38∧x.right.length < 2^38:=by
 have hl:=length_le_rbs r
 have hsy:=symbolsR_len r
 unfold systemE
 split
 ·simp [allN]
 ·split
  ·refine ⟨by simp;omega,by rw [allN_rl];omega,fun x hx=>?_⟩
   obtain ⟨y,hy,rfl⟩:=List.mem_map.1 hx
   have hm:=rbs_mem hy
   have h1:=wordT_len _ y.left (Nat.le_refl _)
   have h2:=wordT_len _ y.right (Nat.le_refl _)
   have h4:=size_le_tb y.left
   have h5:=size_le_tb y.right
   simp only [toRl];omega
  ·simp [allN]
theorem bounds_Check_s (r:List ARule) (a:AAut) (hs:Sz r a):PF n_bounds_Check [encRs r,encAu a] (.int .i64 (checkB r a)):=by
 have hr:=hs.r
 refine pf_of bounds_Check.ok rfl ?_
 unfold checkB
 push_cast
 refine .of (bounds_system_s r (by omega)) ?_
 obtain ⟨z1,z2,z3⟩:=sys_sz (r:=r) (by omega)
 generalize systemE r = sy at z1 z2 z3 ⊢
 obtain ⟨l,e⟩:=sy
 simp only at z1 z2 z3 ⊢
 by_cases h1:e = 0
 ·subst h1
  push_cast
  refine .of (bounds_form_s a (by have:=hs.l;omega) (fun x hx=>by have:=hs.n x hx;omega)) ?_
  by_cases h2:formE a = 0
  ·have hf:=formE_iff.1 h2
   have hst:=hf.st
   rw [h2]
   push_cast
   refine .of (bounds_loops_s l a hf.okA hs.l z1 z2) ?_
   cases h3:loopsM l a.moves with
   | false =>
    push_cast
    exact pf_ret (by push_cast [bounds_Check.rs])
   | true =>
    push_cast
    refine .of (bounds_lacks_s l a a.states.toNat (by omega) (by omega) hf.okA hs.l z1 z3) ?_
    cases h4:lacksM a.moves a.states.toNat l with
    | none =>
     push_cast [lackV]
     exact pf_ret (by push_cast [bounds_Check.rs];rfl)
    | some m =>
     have e1:sto (encMs m) = some (cMs m):=rfl
     have e2:(cMs m).length = 4:=rfl
     have e3:∀ σ,ren σ (encMs m) = encMs m:=fun _=>rfl
     have e4:∀ σ,rens σ (cMs m) = cMs m:=fun _=>rfl
     push_cast [lackV,e1,e2,e3,e4]
     exact pf_ret (by push_cast [bounds_Check.rs];rfl)
  ·push_cast [eq_false h2]
   exact pf_ret (by push_cast [bounds_Check.rs])
 ·push_cast [eq_false h1]
  exact pf_ret (by push_cast [bounds_Check.rs])
end Go.Dw
end
section
namespace Go.Dw
theorem sameQ_mv (x y:AMove):sameQ (encMv x) (encMv y) = some (decide (x = y)):=by
 obtain ⟨a,b,c,d⟩:=x
 obtain ⟨a',b',c',d'⟩:=y
 simp only [sameQ,encMv,cMv,sameC,sameK,if_true]
 by_cases h1:a = a'
 ·subst h1
  by_cases h2:b = b'
  ·subst h2
   by_cases h3:c = c'
   ·subst h3
    by_cases h4:d = d'
    ·subst h4;simp
    ·have e:(d == d') = false:=by simpa using h4
     simp [h4,e]
   ·have e:(c == c') = false:=by simpa using h3
    simp [h3,e]
  ·have e:(b == b') = false:=by simpa using h2
   simp [h2,e]
 ·have e:(a == a') = false:=by simpa using h1
  simp [h1,e]
theorem eqsV_mv (x y:AMove):eqsV false [false,false,true,false] (encMv x) (encMv y) = some (.bool (decide (x = y))):=by
 unfold eqsV
 have:shB [false,false,true,false] (encMv x) = true:=rfl
 rw [this,sameQ_mv];rfl
def hasM (mv:List AMove) (x:AMove):Bool:=mv.any fun y=>decide (x = y)
theorem r24_has_s (a:AAut) (x:AMove) (hl:a.moves.length < 2^62):PF n_r24_has [encAu a,encMv x] (.bool (hasM a.moves x)):=by
 refine pf_of r24_has.ok rfl ?_
 push_cast
 refine loop_up (n:=a.moves.length) (R:=fun k=>hasM (a.moves.drop k) x = hasM a.moves x→r24_has.L3 (.ro (cMv x) 0) (encMvs a.moves) (.int .i64 a.moves.length) (.int .i64 k) 0 [] (Ends 0 r24_has.rs fun y H=>y = .bool (hasM a.moves x)∧H = [])) ?_ ?_ 0 (Nat.zero_le _) rfl
 ·intro k hk ih hq
  rw [drop_getD hk] at hq
  refine r24_has.G3 ?_
  generalize hy:a.moves.getD k default = y at hq
  simp only [hasM,List.any_cons] at hq
  by_cases h:x = y
  ·push_cast [ilt hk,hy,eqsV_mv,eq_true h]
   simp only [h,decide_true,Bool.true_or] at hq
   exact pf_ret (by push_cast [r24_has.rs,hasM,h,← hq])
  ·push_cast [ilt hk,hy,eqsV_mv,eq_false h,w64 (show k < 2^62 by omega)]
   simp only [h,decide_false,Bool.false_or] at hq
   have:=ih hq
   push_cast at this
   exact this
 ·intro hq
  rw [drop_map_none] at hq
  refine r24_has.G3 ?_
  push_cast [inlt (Nat.le_refl _)]
  rw [← hq]
  exact pf_ret (by push_cast [r24_has.rs,hasM];rfl)
theorem hasI_mem {l:List Int} {x:Int}:hasI l x = true ↔ x∈l:=by simp [hasI]
def RdOk (mv:List AMove) (h p:Int) (w:List Str) (A:List Int):Prop:=A.Nodup∧∀ y,y∈A ↔ ∃ s∈readL mv (fun x=>decide (x = h)) (p,17) w,s.1 = y
theorem RdOk.len {mv:List AMove} {h p:Int} {w:List Str} {A:List Int} (hA:RdOk mv h p w A) (ho:OkA mv) (hp:0≤p∧p < 256):A.length≤4608:=by
 have h1:=List.Nodup.length_le_of_subset hA.1 (l₂:=(readL mv (fun x=>decide (x = h)) (p,17) w).map (·.1)) fun y hy=>by
  obtain ⟨s,hs,e⟩:=(hA.2 y).1 hy
  exact List.mem_map.2 ⟨s,hs,e⟩
 rw [List.length_map] at h1
 have:=readL_len ho (fun x=>decide (x = h)) hp w;omega
theorem linked_iff {mv:List AMove} {p q:Int} {w:List Str} {h:Int}:linkedM mv p q w h = true ↔ ∃ s∈readL mv (fun x=>decide (x = h)) (p,17) w,s.1 = q:=by
 unfold linkedM
 rw [List.any_eq_true]
 constructor
 ·rintro ⟨s,hs,e⟩;exact ⟨s,readsL_mem.1 hs,by simpa using e⟩
 ·rintro ⟨s,hs,e⟩;exact ⟨s,readsL_mem.2 hs,by simpa using e⟩
theorem nodup_256 {l:List Int} (h:l.Nodup) (hr:∀ y∈l,0≤y∧y < 256):l.length≤256:=by
 have:=List.Nodup.length_le_of_subset h (l₂:=(List.range 256).map fun (i:Nat)=>(i:Int)) fun y hy=>by
  obtain ⟨h1,h2⟩:=hr y hy
  exact List.mem_map.2 ⟨y.toNat,List.mem_range.2 (by omega),by omega⟩
 simpa using this
theorem r24_Reads_s (a:AAut) (ho:OkA a.moves) (p q:Int) (hp:0≤p∧p < 256) (w:List Str) (h:Int) (hw:w.length < 2^40) (hmv:a.moves.length < 2^40) :
  PF n_r24_Reads [encAu a,.int .i64 p,.int .i64 q,encSs w,.int .i64 h] (.bool (linkedM a.moves p q w h)):=by
 refine pf_of r24_Reads.ok rfl ?_
 have h0:(V.sl 1 [[V.int .i64 p]]:V) = encP [p]:=rfl
 push_cast [h0]
 generalize hmvs:a.moves = mv at ho hmv ⊢
 refine loop_up (n:=w.length) (R:=fun k=>∀ A,RdOk mv h p (w.take k) A→r24_Reads.L9 (.int .i64 q) (.int .i64 h) (.ro (cAu a) 0) (encP A) (encSs w) (.int .i64 w.length) (.int .i64 k) 0 [] (Ends 0 r24_Reads.rs fun x H=>x = .bool (linkedM mv p q w h)∧H = [])) ?_ ?_ 0 (Nat.zero_le _) [p] ⟨by simp,fun y=>by simp [readL,eq_comm]⟩
 ·intro k hk ih A hA
  refine r24_Reads.G9 ?_
  have htk:w.take (k+1) = w.take k++[w.getD k default]:=take_succ_getD hk
  generalize hn0:w.getD k default = name at htk
  have hAl:=hA.len ho hp
  push_cast [ilt hk,hn0]
  refine loop_up (n:=A.length) (R:=fun i=>∀ N:List Int,N.Nodup→(∀ y,y∈N ↔ ∃ s∈A.take i,∃ x∈mv,x.src = s∧x.name = name∧x.h = h∧y = x.dst) →
   r24_Reads.L7 (.int .i64 q) (.int .i64 h) (.ro (cAu a) 0) (.str name) (ownL cI 0 1 N) (encSs w) (.int .i64 w.length) (.int .i64 k) (encP A) (.int .i64 A.length) (.int .i64 i) 0 [.arr t_int 1 N.length] (Ends 0 r24_Reads.rs fun x H=>x = .bool (linkedM mv p q w h)∧H = [])) ?_ ?_ 0 (Nat.zero_le _) [] List.nodup_nil (fun y=>by simp)
  ·intro i hi ih2 N hN1 hN2
   refine r24_Reads.G7 ?_
   have hti:A.take (i+1) = A.take i++[A.getD i default]:=take_succ_getD hi
   generalize hs0:A.getD i default = s at hti
   push_cast [ilt hi,hs0,hmvs]
   refine loop_up (n:=mv.length) (R:=fun j=>∀ N:List Int,N.Nodup→(∀ y,y∈N ↔ (∃ s∈A.take i,∃ x∈mv,x.src = s∧x.name = name∧x.h = h∧y = x.dst) ∨ ∃ x∈mv.take j,x.src = s∧x.name = name∧x.h = h∧y = x.dst) →
    r24_Reads.L5 (.int .i64 q) (.int .i64 h) (.ro (cAu a) 0) (.str name) (ownL cI 0 1 N) (.int .i64 s) (encSs w) (.int .i64 w.length) (.int .i64 k) (encP A) (.int .i64 A.length) (.int .i64 i) (encMvs mv) (.int .i64 mv.length) (.int .i64 j) 0 [.arr t_int 1 N.length] (Ends 0 r24_Reads.rs fun x H=>x = .bool (linkedM mv p q w h)∧H = [])) ?_ ?_ 0 (Nat.zero_le _) N hN1 (fun y=>by rw [hN2];simp)
   ·intro j hj ih3 N hN1 hN2
    refine r24_Reads.G5 ?_
    have htj:mv.take (j+1) = mv.take j++[mv.getD j default]:=take_succ_getD hj
    have hxm:=getD_mem hj
    generalize hx0:mv.getD j default = x at htj hxm
    have hw1:=w64 (show j < 2^62 by omega)
    have hNl:N.length≤256:=nodup_256 hN1 fun y hy=>by
     rcases (hN2 y).1 hy with ⟨s,_,x,hx,_,_,_,rfl⟩ | ⟨x,hx,_,_,_,rfl⟩
     ·exact ⟨(ho x hx).1,(ho x hx).2.1⟩
     ·have:=ho x (List.mem_of_mem_take hx);exact ⟨this.1,this.2.1⟩
    have skip:¬ (x.src = s∧x.name = name∧x.h = h∧x.dst ∉ N)→r24_Reads.L5 (.int .i64 q) (.int .i64 h) (.ro (cAu a) 0) (.str name) (ownL cI 0 1 N) (.int .i64 s) (encSs w) (.int .i64 w.length) (.int .i64 k) (encP A) (.int .i64 A.length) (.int .i64 i) (encMvs mv) (.int .i64 mv.length) (.int .i64 ((j:Int)+1)) 0 [.arr t_int 1 N.length] (Ends 0 r24_Reads.rs fun x H=>x = .bool (linkedM mv p q w h)∧H = []):=fun hn=>by
     have:=ih3 N hN1 (fun y=>by
      rw [hN2,htj]
      constructor
      ·rintro (h' | ⟨z,hz,h'⟩)
       ·exact .inl h'
       ·exact .inr ⟨z,List.mem_append_left _ hz,h'⟩
      ·rintro (h' | ⟨z,hz,e1,e2,e3,e4⟩)
       ·exact .inl h'
       ·rcases List.mem_append.1 hz with hz | hz
        ·exact .inr ⟨z,hz,e1,e2,e3,e4⟩
        ·rw [List.mem_singleton.1 hz] at e1 e2 e3 e4
         have hd:x.dst∈N:=Classical.byContradiction fun hc=>hn ⟨e1,e2,e3,hc⟩
         rw [e4];exact (hN2 _).1 hd)
     push_cast at this
     exact this
    by_cases e1:x.src = s
    ·by_cases e2:x.name = name
     ·by_cases e3:x.h = h
      ·push_cast [ilt hj,hx0,e1,e2,e3]
       refine .of (r24_contains_s N x.dst (by omega)) ?_
       cases e4:hasI N x.dst with
       | true =>
        push_cast [hw1]
        exact skip fun hc=>hc.2.2.2 (hasI_mem.1 e4)
       | false =>
        have e4':x.dst ∉ N:=fun hc=>by rw [hasI_mem.2 hc] at e4;cases e4
        have hcI:∀ z:Int,[V.int .i64 z] = cI z:=fun _=>rfl
        have hcI2:∀ σ (z:Int),rens σ (cI z) = cI z:=fun _ _=>rfl
        push_cast [hw1,hcI,hcI2]
        refine ⟨by unfold maxEls;omega,?_⟩
        have:=ih3 (N++[x.dst]) (by rw [List.nodup_append];exact ⟨hN1,by simp,fun a ha b hb e=>e4' (by rw [← List.mem_singleton.1 hb,← e];exact ha)⟩) (fun y=>by
         rw [List.mem_append,hN2,htj]
         constructor
         ·rintro ((h' | ⟨z,hz,h'⟩) | h')
          ·exact .inl h'
          ·exact .inr ⟨z,List.mem_append_left _ hz,h'⟩
          ·exact .inr ⟨x,by simp,e1,e2,e3,List.mem_singleton.1 h'⟩
         ·rintro (h' | ⟨z,hz,f1,f2,f3,f4⟩)
          ·exact .inl (.inl h')
          ·rcases List.mem_append.1 hz with hz | hz
           ·exact .inl (.inr ⟨z,hz,f1,f2,f3,f4⟩)
           ·rw [List.mem_singleton.1 hz] at f4;exact .inr (by simp [f4]))
        rw [List.length_append] at this
        push_cast at this
        exact this
      ·push_cast [ilt hj,hx0,e1,e2,eq_false e3,hw1]
       exact skip fun hc=>e3 hc.2.2.1
     ·push_cast [ilt hj,hx0,e1,eq_false e2,hw1]
      exact skip fun hc=>e2 hc.2.1
    ·push_cast [ilt hj,hx0,eq_false e1,hw1]
     exact skip fun hc=>e1 hc.1
   ·intro N hN1 hN2
    refine r24_Reads.G5 ?_
    push_cast [inlt (Nat.le_refl _),w64 (show i < 2^62 by omega)]
    have:=ih2 N hN1 (fun y=>by
     rw [hN2,List.take_length,hti]
     constructor
     ·rintro (⟨t,ht,h'⟩ | h')
      ·exact ⟨t,List.mem_append_left _ ht,h'⟩
      ·exact ⟨s,by simp,h'⟩
     ·rintro ⟨t,ht,h'⟩
      rcases List.mem_append.1 ht with ht | ht
      ·exact .inl ⟨t,ht,h'⟩
      ·rw [List.mem_singleton.1 ht] at h';exact .inr h')
    push_cast at this
    exact this
  ·intro N hN1 hN2
   refine r24_Reads.G7 ?_
   push_cast [inlt (Nat.le_refl _),w64 (show k < 2^62 by omega)]
   have:=ih N ⟨hN1,fun y=>by
    rw [hN2,List.take_length,htk,readL_snoc]
    constructor
    ·rintro ⟨s,hs,x,hx,e1,e2,e3,rfl⟩
     obtain ⟨u,hu,rfl⟩:=(hA.2 s).1 hs
     refine ⟨(x.dst,if x.h < u.2 then x.h else u.2),nextL_mem.2 ⟨u,hu,List.mem_map.2 ⟨x,List.mem_filter.2 ⟨List.mem_filter.2 ⟨hx,by simp [e1]⟩,by simp [e2,e3]⟩,rfl⟩⟩,rfl⟩
    ·rintro ⟨s,hs,rfl⟩
     obtain ⟨u,hu,hs⟩:=nextL_mem.1 hs
     obtain ⟨x,hx,rfl⟩:=List.mem_map.1 hs
     obtain ⟨hx1,hx2⟩:=List.mem_filter.1 hx
     obtain ⟨hx3,hx4⟩:=List.mem_filter.1 hx1
     simp at hx2 hx4
     exact ⟨u.1,(hA.2 u.1).2 ⟨u,hu,rfl⟩,x,hx3,hx4,hx2.1,hx2.2,rfl⟩⟩
   push_cast at this
   exact this
 ·intro A hA
  refine r24_Reads.G9 ?_
  rw [List.take_length] at hA
  have hAl:=hA.len ho hp
  push_cast [inlt (Nat.le_refl _)]
  refine .of (r24_contains_s A q (by omega)) ?_
  push_cast
  refine pf_ret ?_
  push_cast [r24_Reads.rs]
  have e:hasI A q = true ↔ linkedM mv p q w h = true:=by rw [hasI_mem,hA.2,linked_iff]
  cases h1:hasI A q <;> cases h2:linkedM mv p q w h <;> simp_all
end Go.Dw
end
section
namespace Go.Dw
structure RowsAt (H:List Ob) (i S W:Nat) (M:Nat→Nat→Bool):Prop where
 out:H[i]? = some (.row t_s_bool 1 ((List.range S).map fun q=>[V.rw (i+1+q) 1 W]))
 row:∀ q,q < S→H[i+1+q]? = some (.row t_bool 1 ((List.range W).map fun m=>[V.bool (M q m)]))
theorem getOb_app {H X:List Ob} {i:Nat} {o:Ob} (h:H[i]? = some o):(H++X)[i]? = some o:=by
 rw [List.getElem?_append_left (List.getElem?_eq_some_iff.1 h).1];exact h
theorem RowsAt.app {H:List Ob} {i S W:Nat} {M:Nat→Nat→Bool} (h:RowsAt H i S W M) (X:List Ob):RowsAt (H++X) i S W M:=⟨getOb_app h.out,fun q hq=>getOb_app (h.row q hq)⟩
theorem RowsAt.lt {H:List Ob} {i S W:Nat} {M:Nat→Nat→Bool} (h:RowsAt H i S W M) {q:Nat} (hq:q < S):i+1+q < H.length:=(List.getElem?_eq_some_iff.1 (h.row q hq)).1
theorem RowsAt.setOther {H:List Ob} {i S W j:Nat} {M:Nat→Nat→Bool} {o:Ob} (h:RowsAt H i S W M) (hj:i+S < j):RowsAt (H.set j o) i S W M :=
 ⟨by rw [List.getElem?_set_ne (by omega)];exact h.out,fun q hq=>by rw [List.getElem?_set_ne (by omega)];exact h.row q hq⟩
def setM (M:Nat→Nat→Bool) (q m:Nat):Nat→Nat→Bool:=fun q' m'=>if q' = q∧m' = m then true else M q' m'
theorem brow_get {W m:Nat} {f:Nat→Bool} (h:m < W):((List.range W).map fun m=>[V.bool (f m)])[m]? = some [V.bool (f m)]:=by simp [h]
theorem brow_set {W m:Nat} {f:Nat→Bool} (h:m < W):((List.range W).map fun m=>[V.bool (f m)]).set m [V.bool true] = (List.range W).map fun m'=>[V.bool (if m' = m then true else f m')]:=by
 apply List.ext_getElem (by simp)
 intro n h1 h2
 rw [List.getElem_set]
 by_cases e:m = n
 ·subst e;simp
 ·simp [e,Ne.symm e]
theorem RowsAt.set {H:List Ob} {i S W q m:Nat} {M:Nat→Nat→Bool} (h:RowsAt H i S W M) (hq:q < S) (hm:m < W) :
  RowsAt (H.set (i+1+q) (.row t_bool 1 (((List.range W).map fun m=>[V.bool (M q m)]).set m [V.bool true]))) i S W (setM M q m):=by
 have hl:=h.lt hq
 refine ⟨by rw [List.getElem?_set_ne (by omega)];exact h.out,fun q' hq'=>?_⟩
 by_cases e:q' = q
 ·subst e
  rw [List.getElem?_set_self hl,brow_set hm]
  simp [setM]
 ·rw [List.getElem?_set_ne (by omega),h.row q' hq']
  simp [setM,e]
theorem out_get {i S W q:Nat} (h:q < S):((List.range S).map fun q=>[V.rw (i+1+q) 1 W])[q]? = some [V.rw (i+1+q) 1 W]:=by simp [h]
def outK (i S W k:Nat):List (List V):=(List.range S).map fun q=>if q < k then [V.rw (i+1+q) 1 W] else [V.sl 1 []]
theorem outK_0 (i S W:Nat):outK i S W 0 = List.replicate S [V.sl 1 []]:=by
 apply List.ext_getElem (by simp [outK])
 intro n h1 h2
 simp [outK]
theorem outK_full (i S W:Nat):outK i S W S = (List.range S).map fun q=>[V.rw (i+1+q) 1 W]:=by
 unfold outK
 refine List.map_congr_left fun q hq=>?_
 rw [if_pos (List.mem_range.1 hq)]
theorem outK_len (i S W k:Nat):(outK i S W k).length = S:=by simp [outK]
theorem outK_set {i S W k:Nat} (h:k < S):(outK i S W k).set k (put 0 [V.rw (i+1+k) 1 W] ((outK i S W k).getD k [])) = outK i S W (k+1):=by
 have h1:(outK i S W k).getD k [] = [V.sl 1 []]:=by simp [outK,List.getD_eq_getElem?_getD,h]
 rw [h1]
 apply List.ext_getElem (by simp [outK])
 intro n hn1 hn2
 rw [List.getElem_set]
 by_cases e:k = n
 ·subst e;simp [outK,put_s,put_z]
 ·rw [if_neg e]
  simp only [outK,List.getElem_map,List.getElem_range]
  by_cases e2:n < k
  ·rw [if_pos e2,if_pos (by omega)]
  ·rw [if_neg e2,if_neg (by omega)]
def zrow (W:Nat):Ob:=.row t_bool 1 (List.replicate W [V.bool false])
theorem rows_laid (H0:List Ob) (S W:Nat):RowsAt (H0++.row t_s_bool 1 (outK H0.length S W S) :: List.replicate S (zrow W)) H0.length S W fun _ _=>false:=by
 refine ⟨by rw [List.getElem?_append_right (Nat.le_refl _),Nat.sub_self,outK_full];rfl,fun q hq=>?_⟩
 rw [List.getElem?_append_right (by omega),show H0.length+1+q - H0.length = q+1 by omega,List.getElem?_cons_succ,List.getElem?_replicate,if_pos hq]
 unfold zrow
 congr 2
 apply List.ext_getElem (by simp)
 intro n h1 h2
 simp
end Go.Dw
end
