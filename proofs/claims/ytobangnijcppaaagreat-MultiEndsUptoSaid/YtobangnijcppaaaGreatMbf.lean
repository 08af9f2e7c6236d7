/-
  Contracts and lemmas for MultiEnds: part f of 7.
-/
import Derived.Test.YtobangnijcppaaaGreatMbe
import Derived.Test.YtobangnijcppaaaGreatMbd
import Derived.WalkKit
import Derived.Laws.MathBits
import Derived.Test.YtobangnijcppaaaGreatMbc
set_option linter.unusedVariables false
set_option linter.unusedSimpArgs false
set_option maxRecDepth 100000
section
namespace Go.Dw
theorem r01_Size_s (t:Term) (hs:size t < 2^62):PF n_r01_Size [encT t] (.int .i64 (size t)):=by
 induction t using term_ind with
 | h t ih =>
 refine pf_of r01_Size.ok rfl ?_
 have hst:=size_args t
 have hl:=length_le_sizes t.args
 push_cast
 refine loop_up (n:=t.args.length) (R:=fun k=>r01_Size.L3 (.int .i64 ((1+sizes (t.args.take k):Nat):Int)) (encTs t.args) (.int .i64 t.args.length) (.int .i64 k) 0 [] _) ?_ ?_ 0 (by omega)
 ·intro k hk ih2
  have h1:=sizes_take_succ _ _ hk
  have h2:=sizes_take_le t.args (k+1)
  have hm:=getD_mem hk
  refine r01_Size.G3 ?_
  push_cast [ilt hk]
  refine .of (ih _ hm (by omega)) ?_
  push_cast [w64 (show k < 2^62 by omega)]
  rw [wrap64 (by omega) (by omega)]
  rw [h1] at ih2
  simpa [Int.add_assoc] using ih2
 ·refine r01_Size.G3 ?_
  push_cast [inlt (Nat.le_refl _)]
  refine pf_ret ?_
  push_cast [r01_Size.rs,List.take_length,hst]
theorem r01_Depth_s (t:Term) (hs:size t < 2^62):PF n_r01_Depth [encT t] (.int .i64 (depth t)):=by
 induction t using term_ind with
 | h t ih =>
 refine pf_of r01_Depth.ok rfl ?_
 have hst:=size_args t
 have hl:=length_le_sizes t.args
 have hd:=depths_le_sizes t.args
 push_cast
 refine loop_up (n:=t.args.length) (R:=fun k=>r01_Depth.L3 (.int .i64 (depths (t.args.take k):Nat)) (encTs t.args) (.int .i64 t.args.length) (.int .i64 k) 0 [] _) ?_ ?_ 0 (by omega)
 ·intro k hk ih2
  have h1:=depths_take_succ _ _ hk
  have hm:=getD_mem hk
  have:=size_mem hm
  refine r01_Depth.G3 ?_
  push_cast [ilt hk]
  refine .of (ih _ hm (by omega)) ?_
  push_cast [w64 (show k < 2^62 by omega)]
  rw [h1] at ih2
  exact ih2
 ·refine r01_Depth.G3 ?_
  push_cast [inlt (Nat.le_refl _)]
  rw [wrap64 (by have:=depths_take_le t.args t.args.length;omega) (by have:=depths_take_le t.args t.args.length;omega)]
  refine pf_ret ?_
  push_cast [r01_Depth.rs,List.take_length,depth_args t]
theorem r01_Formed_s (t:Term) (hs:tb t < 2^62):PF n_r01_Formed [encT t] (.bool (formed t)):=by
 induction t using term_ind with
 | h t ih =>
 have htb:=tb_args t
 have hl:=length_le_tbs t.args
 have hI:∀ m,PF n_r01_IsName [.str t.name,.bool m] (.bool (isName t.name m)):=fun m=>r01_IsName_s _ m (by omega)
 refine pf_of r01_Formed.ok rfl ?_
 cases hv:t.var with
 | true =>
  push_cast [hv]
  refine .of (hI false) ?_
  cases hn:isName t.name false
  ·push_cast
   exact pf_ret (by push_cast [r01_Formed.rs,formed_eq t,hv,hn])
  ·push_cast
   exact pf_ret (by push_cast [r01_Formed.rs,formed_eq t,hv,hn];simp)
 | false =>
  push_cast [hv]
  refine .of (hI true) ?_
  have hf:formed t = (decide (t.args.length≤8) && (isName t.name true && t.args.all formed)):=by rw [formed_eq,hv];rfl
  rw [hf]
  cases hn:isName t.name true
  ·push_cast
   exact pf_ret (by push_cast [r01_Formed.rs])
  ·by_cases h0:t.args.length≤8
   ·have hi:((8:Int) < (t.args.length:Int)) = False:=eq_false (by omega)
    push_cast [hi,h0]
    refine loop_up (n:=t.args.length) (R:=fun k=>(t.args.drop k).all formed = t.args.all formed→r01_Formed.L3 (encTs t.args) (.int .i64 t.args.length) (.int .i64 k) 0 [] _) ?_ ?_ 0 (by omega) rfl
    ·intro k hk ih2 hq
     rw [drop_getD hk] at hq
     simp only [List.all_cons] at hq
     have hm:=getD_mem hk
     refine r01_Formed.G3 ?_
     push_cast [ilt hk]
     refine .of (ih _ hm (by have:=tb_mem hm;omega)) ?_
     push_cast [w64 (show k < 2^62 by omega)]
     refine ⟨fun h=>pf_ret ?_,fun h=>ih2 ?_⟩
     ·push_cast [r01_Formed.rs]
      rw [← hq];simp_all
     ·rw [← hq];simp_all
    ·intro hq
     refine r01_Formed.G3 ?_
     push_cast [inlt (Nat.le_refl _)]
     refine pf_ret ?_
     push_cast [r01_Formed.rs]
     rw [← hq,drop_map_none];rfl
   ·have hi:((8:Int) < (t.args.length:Int)) = True:=eq_true (by omega)
    push_cast [hi,h0]
    exact pf_ret (by push_cast [r01_Formed.rs])
theorem r01_Check_s (t:Term) (hs:tb t < 2^62):PF n_r01_Check [encT t] (.int .i64 (check t)):=by
 have hst:=size_le_tb t
 refine pf_of r01_Check.ok rfl ?_
 push_cast
 refine .of (r01_Formed_s t hs) ?_
 cases hf:formed t
 ·push_cast
  exact pf_ret (by push_cast [r01_Check.rs,check,hf])
 ·push_cast
  refine .of (r01_Size_s t (by omega)) ?_
  by_cases h:size t≤4000
  ·have hi:((4000:Int) < (size t:Int)) = False:=eq_false (by omega)
   push_cast [hi]
   refine .of (r01_Depth_s t (by omega)) ?_
   by_cases hd:depth t≤200
   ·have hi2:((200:Int) < (depth t:Int)) = False:=eq_false (by omega)
    push_cast [hi2]
    exact pf_ret (by push_cast [r01_Check.rs,check,hf,fits,h,hd])
   ·have hi2:((200:Int) < (depth t:Int)) = True:=eq_true (by omega)
    push_cast [hi2]
    exact pf_ret (by push_cast [r01_Check.rs,check,hf,fits,h,hd])
  ·have hi:((4000:Int) < (size t:Int)) = True:=eq_true (by omega)
   push_cast [hi]
   exact pf_ret (by push_cast [r01_Check.rs,check,hf,fits,h])
theorem r01_CheckAll_s (l:List Term) (hl:l.length < 2^62) (hs:∀ t∈l,tb t < 2^62):PF n_r01_CheckAll [encTs l] (.int .i64 (checks l)):=by
 refine pf_of r01_CheckAll.ok rfl ?_
 push_cast
 refine loop_up (n:=l.length) (R:=fun k=>checks (l.drop k) = checks l→r01_CheckAll.L3 (encTs l) (.int .i64 l.length) (.int .i64 k) 0 [] _) ?_ ?_ 0 (by omega) rfl
 ·intro k hk ih hq
  rw [drop_getD hk] at hq
  simp only [checks] at hq
  refine r01_CheckAll.G3 ?_
  push_cast [ilt hk]
  refine .of (r01_Check_s _ (hs _ (getD_mem hk))) ?_
  push_cast [w64 (show k < 2^62 by omega)]
  refine ⟨fun h=>pf_ret ?_,fun h=>ih ?_⟩
  ·push_cast [r01_CheckAll.rs]
   rw [← hq,if_pos (by simpa using h)]
  ·rw [← hq,if_neg (by simpa using h)]
 ·intro hq
  refine r01_CheckAll.G3 ?_
  push_cast [inlt (Nat.le_refl _)]
  refine pf_ret ?_
  push_cast [r01_CheckAll.rs]
  rw [← hq,drop_map_none];rfl
def cmpI (a b:Int):Int:=if a < b then -1 else if b < a then 1 else 0
theorem r01_CompareInts_s (a b:Int):PF n_r01_CompareInts [.int .i64 a,.int .i64 b] (.int .i64 (cmpI a b)):=by
 refine pf_of r01_CompareInts.ok rfl ?_
 push_cast
 refine ⟨fun h=>pf_ret ?_,fun h=>⟨fun h2=>pf_ret ?_,fun h2=>pf_ret ?_⟩⟩ <;> push_cast [r01_CompareInts.rs,cmpI,h]
 ·simp_all
 ·simp_all
def cmpB:Str→Str→Int
 | [],[]=>0
 | [],_ :: _=>-1
 | _ :: _,[]=>1
 | a :: s,b :: u=>if a = b then cmpB s u else cmpI a.toNat b.toNat
theorem cmpB_eq:∀ a b:Str,cmpB a b = cmpS a b:=by
 intro a b
 rw [cmpS_eq]
 induction a generalizing b with
 | nil=>cases b <;> simp [cmpB]
 | cons x a ih =>
  cases b with
  | nil=>simp [cmpB]
  | cons y b =>
   simp only [cmpB,List.cons_lt_cons_iff]
   by_cases h:x = y
   ·subst h
    rw [if_pos rfl,ih]
    have:¬ x < x:=UInt8.lt_irrefl x
    simp [this]
   ·rw [if_neg h]
    have h':¬ y = x:=fun e=>h e.symm
    simp only [h,h',false_and,or_false,cmpI,UInt8.lt_iff_toNat_lt]
    norm_cast
theorem r01_CompareNames_s (a b:Str) (ha:a.length < 2^62) (hb:b.length < 2^62):PF n_r01_CompareNames [.str a,.str b] (.int .i64 (cmpS a b)):=by
 rw [← cmpB_eq]
 refine pf_of r01_CompareNames.ok rfl ?_
 have hmn:(if (b.length:Int) < (a.length:Int) then (b.length:Int) else (a.length:Int)) = ((min a.length b.length:Nat):Int):=by split <;> omega
 push_cast [hmn]
 refine loop_up (n:=min a.length b.length) (R:=fun k=>cmpB (a.drop k) (b.drop k) = cmpB a b→r01_CompareNames.L3 (.str a) (.str b) (.int .i64 (min a.length b.length:Nat)) (.int .i64 k) 0 [] _) ?_ ?_ 0 (by omega) rfl
 ·intro k hk ih hq
  have hka:k < a.length:=by omega
  have hkb:k < b.length:=by omega
  rw [drop_getD hka,drop_getD hkb] at hq
  simp only [cmpB] at hq
  have h1:btV a k = ((a.getD k default).toNat:Int):=rfl
  have h2:btV b k = ((b.getD k default).toNat:Int):=rfl
  have hr:∀ c:UInt8,IntKind.i64.wrap (c.toNat:Int) = c.toNat:=fun c=>wrap64 (by omega) (by have:=UInt8.toNat_lt c;omega)
  refine r01_CompareNames.G3 ?_
  push_cast [ilt hk,ilt hka,ilt hkb,h1,h2,hr,w64 (show k < 2^62 by omega)]
  refine ⟨fun h=>.of (r01_CompareInts_s _ _) ?_,fun h=>ih ?_⟩
  ·push_cast
   refine pf_ret ?_
   push_cast [r01_CompareNames.rs]
   rw [← hq,if_neg]
   intro e;rw [e] at h;exact h rfl
  ·rw [← hq,if_pos]
   exact UInt8.toNat_inj.1 (Int.ofNat.inj (by simpa using h))
 ·intro hq
  refine r01_CompareNames.G3 ?_
  push_cast [inlt (Nat.le_refl _)]
  refine .of (r01_CompareInts_s _ _) ?_
  push_cast
  refine pf_ret ?_
  push_cast [r01_CompareNames.rs]
  rw [← hq]
  rcases Nat.lt_or_ge a.length b.length with h | h
  ·rw [Nat.min_eq_left (by omega),drop_map_none,drop_getD h]
   simp [cmpB,cmpI];omega
  ·rw [Nat.min_eq_right (by omega),drop_map_none]
   rcases Nat.lt_or_ge b.length a.length with h2 | h2
   ·rw [drop_getD h2]
    simp [cmpB,cmpI];omega
   ·rw [show b.length = a.length by omega,drop_map_none]
    simp [cmpB,cmpI]
end Go.Dw
end
section
namespace Go.Dw
mutual
def count (v:Str):Term→Nat
 | .mk n b l=>(if b && decide (n = v) then 1 else 0)+counts v l
def counts (v:Str):List Term→Nat
 | []=>0
 | a :: l=>count v a+counts v l
end
theorem count_eq (v:Str) (t:Term):count v t = (if t.var && decide (t.name = v) then 1 else 0)+counts v t.args:=by cases t;rfl
theorem counts_append (v:Str) (a b:List Term):counts v (a++b) = counts v a+counts v b:=by
 induction a with
 | nil=>simp [counts]
 | cons x xs ih=>simp [counts,ih];omega
theorem counts_take_succ (v:Str) (l:List Term) (k:Nat) (h:k < l.length):counts v (l.take (k+1)) = counts v (l.take k)+count v (l.getD k default):=by
 rw [take_succ_getD h,counts_append];simp [counts]
theorem counts_take_le (v:Str) (l:List Term) (k:Nat):counts v (l.take k)≤counts v l:=by
 conv=>rhs;rw [← List.take_append_drop k l]
 rw [counts_append];omega
mutual
theorem count_le (v:Str):∀ t,count v t≤size t
 | .mk n b l=>by simp only [count,size];have:=counts_le v l;split <;> omega
theorem counts_le (v:Str):∀ l,counts v l≤sizes l
 | []=>by simp [counts,sizes]
 | a :: l=>by simp only [counts,sizes];have:=count_le v a;have:=counts_le v l;omega
end
theorem r01_Count_s (t:Term) (v:Str) (hs:size t < 2^62):PF n_r01_Count [encT t,.str v] (.int .i64 (count v t)):=by
 induction t using term_ind with
 | h t ih =>
 have hst:=size_args t
 have hl:=length_le_sizes t.args
 have hce:=count_eq v t
 have hcl:=counts_le v t.args
 have fin:∀ c:Nat,c≤1→count v t = c+counts v t.args→r01_Count.L3 (.str v) (.int .i64 c) (encTs t.args) (.int .i64 t.args.length) (.int .i64 0) 0 [] (Ends 0 r01_Count.rs fun x' H'=>x' = .int .i64 (count v t)∧H' = []):=by
  intro c hc hcv
  refine loop_up (n:=t.args.length) (R:=fun k=>r01_Count.L3 (.str v) (.int .i64 ((c+counts v (t.args.take k):Nat):Int)) (encTs t.args) (.int .i64 t.args.length) (.int .i64 k) 0 [] _) ?_ ?_ 0 (by omega)
  ·intro k hk ih2
   have h1:=counts_take_succ v _ _ hk
   have h2:=counts_take_le v t.args (k+1)
   have hm:=getD_mem hk
   have hm2:=size_mem hm
   refine r01_Count.G3 ?_
   push_cast [ilt hk]
   refine .of (ih _ hm (by omega)) ?_
   push_cast [w64 (show k < 2^62 by omega)]
   rw [wrap64 (by omega) (by omega)]
   rw [h1] at ih2
   simpa [Int.add_assoc] using ih2
  ·refine r01_Count.G3 ?_
   push_cast [inlt (Nat.le_refl _)]
   refine pf_ret ?_
   push_cast [r01_Count.rs,List.take_length,hcv]
 refine pf_of r01_Count.ok rfl ?_
 cases hv:t.var with
 | true =>
  by_cases hn:t.name = v
  ·push_cast [hv,hn]
   exact fin 1 (by omega) (by rw [hce];simp [hv,hn])
  ·push_cast [hv,hn]
   exact fin 0 (by omega) (by rw [hce];simp [hv,hn])
 | false =>
  push_cast [hv]
  exact fin 0 (by omega) (by rw [hce];simp [hv])
def lbg {α:Type} (p:α→Bool):List α→Nat
 | []=>0
 | x :: l=>if p x then lbg p l+1 else 0
theorem lbg_le {α:Type} (p:α→Bool):∀ l:List α,lbg p l≤l.length
 | []=>Nat.le_refl _
 | x :: l=>by simp only [lbg];have:=lbg_le p l;split <;> simp <;> omega
theorem lbg_lt {α:Type} [Inhabited α] {p:α→Bool}:∀ {l:List α} {j:Nat},j < lbg p l→p (l.getD j default) = true
 | [],j,h=>by simp [lbg] at h
 | x :: l,j,h=>by
  simp only [lbg] at h
  split at h
  ·rename_i hx
   cases j with
   | zero=>simpa using hx
   | succ j=>simpa using lbg_lt (l:=l) (j:=j) (by omega)
  ·omega
theorem lbg_ge {α:Type} [Inhabited α] {p:α→Bool}:∀ {l:List α},lbg p l < l.length→p (l.getD (lbg p l) default) = false
 | [],h=>by simp at h
 | x :: l,h=>by
  simp only [lbg] at h ⊢
  split
  ·rename_i hx
   rw [if_pos hx] at h
   simpa using lbg_ge (l:=l) (by simpa using h)
  ·rename_i hx
   simpa using hx
def insS (l:List Str) (s:Str):List Str:=if lbg (fun x=>decide (x < s)) l < l.length∧l.getD (lbg (fun x=>decide (x < s)) l) default = s then l else l.take (lbg (fun x=>decide (x < s)) l)++s :: l.drop (lbg (fun x=>decide (x < s)) l)
theorem mem_insS {l:List Str} {s v:Str}:v∈insS l s ↔ v∈l ∨ v = s:=by
 unfold insS
 split
 ·rename_i h
  constructor
  ·exact .inl
  ·rintro (h2 | rfl)
   ·exact h2
   ·rw [← h.2];exact getD_mem h.1
 ·generalize lbg (fun x=>decide (x < s)) l = k
  have:=List.take_append_drop k l
  constructor
  ·intro h
   simp only [List.mem_append,List.mem_cons] at h
   rcases h with h | h | h
   ·exact .inl (List.mem_of_mem_take h)
   ·exact .inr h
   ·exact .inl (List.mem_of_mem_drop h)
  ·rintro (h | rfl)
   ·rw [← this] at h
    simp only [List.mem_append,List.mem_cons] at h ⊢
    rcases h with h | h
    ·exact .inl h
    ·exact .inr (.inr h)
   ·simp
theorem insS_len (l:List Str) (s:Str):(insS l s).length≤l.length+1:=by
 unfold insS
 have:=lbg_le (fun x=>decide (x < s)) l
 split <;> simp <;> omega
theorem r01_Insert_s (l:List Str) (s:Str) (hl:l.length < 2^40) (hn:∀ x∈l,x.length < 2^62) (hs:s.length < 2^62):PF n_r01_Insert [encSs l,.str s] (encSs (insS l s)):=by
 have hle:=lbg_le (fun x=>decide (x < s)) l
 have hge:=@lbg_ge _ _ (fun x=>decide (x < s)) l
 have hlt:=fun j=>@lbg_lt _ _ (fun x=>decide (x < s)) l j
 unfold insS
 generalize lbg (fun x=>decide (x < s)) l = a at hle hge hlt
 refine pf_of r01_Insert.ok rfl ?_
 push_cast
 refine loop_up (n:=a) (R:=fun k=>r01_Insert.L4 (encSs l) (.str s) (.int .i64 k) 0 [] _) ?_ ?_ 0 (by omega)
 ·intro k hk ih
  have hkl:k < l.length:=by omega
  have h1:cmpS (l.getD k default) s < 0:=cmpS_neg.2 (by simpa using hlt k hk)
  refine r01_Insert.G4 ?_
  push_cast [ilt hkl]
  refine .of (r01_CompareNames_s _ _ (hn _ (getD_mem hkl)) hs) ?_
  push_cast [h1,w64 (show k < 2^62 by omega)]
  exact ih
 ·refine r01_Insert.G4 ?_
  have tail:∀ m:Nat,m≤2^40→∀ b,b≤64→m * b≤maxEls:=fun m hm b hb=>Nat.le_trans (Nat.mul_le_mul hm hb) (by unfold maxEls;decide)
  rcases Nat.lt_or_ge a l.length with h | h
  ·have h2:¬ cmpS (l.getD a default) s < 0:=fun hc=>by have:=cmpS_neg.1 hc;have:=hge h;simp_all
   push_cast [ilt h]
   refine .of (r01_CompareNames_s _ _ (hn _ (getD_mem h)) hs) ?_
   by_cases he:l.getD a default = s
   ·rw [he] at h2
    push_cast [h2,ilt h,he,h]
    exact pf_ret (by push_cast [r01_Insert.rs])
   ·push_cast [h2,ilt h,he,h]
    refine ⟨⟨by omega,hle⟩,tail _ (by simp;omega) _ (by omega),tail _ (by simp;omega) _ (by omega),hle,tail _ (by simp;omega) _ (by omega),pf_ret ?_⟩
    push_cast [r01_Insert.rs]
    simp [encL,cS,List.take_of_length_le]
  ·push_cast [inlt h]
   rw [if_neg (by omega)]
   refine ⟨⟨by omega,hle⟩,tail _ (by simp;omega) _ (by omega),tail _ (by simp;omega) _ (by omega),hle,tail _ (by simp;omega) _ (by omega),pf_ret ?_⟩
   push_cast [r01_Insert.rs]
   simp [encL,cS,List.take_of_length_le]
mutual
def collectT (l:List Str):Term→List Str
 | .mk n b ar=>collectTs (if b then insS l n else l) ar
def collectTs (l:List Str):List Term→List Str
 | []=>l
 | a :: ar=>collectTs (collectT l a) ar
end
theorem collectT_eq (l:List Str) (t:Term):collectT l t = collectTs (if t.var then insS l t.name else l) t.args:=by cases t;rfl
theorem collectTs_append (a b:List Term):∀ l:List Str,collectTs l (a++b) = collectTs (collectTs l a) b:=by
 induction a with
 | nil=>intro l;simp [collectTs]
 | cons x xs ih=>intro l;simp [collectTs,ih]
theorem collectTs_take_succ (s:List Str) (l:List Term) (k:Nat) (h:k < l.length):collectTs s (l.take (k+1)) = collectT (collectTs s (l.take k)) (l.getD k default):=by
 rw [take_succ_getD h,collectTs_append];simp [collectTs]
mutual
theorem collectT_len:∀ (t:Term) (l:List Str),(collectT l t).length≤l.length+size t
 | .mk n b ar,l=>by
  simp only [collectT,size]
  have:=collectTs_len ar (if b then insS l n else l)
  have:=insS_len l n
  cases b <;> simp at * <;> omega
theorem collectTs_len:∀ (ar:List Term) (l:List Str),(collectTs l ar).length≤l.length+sizes ar
 | [],l=>by simp [collectTs,sizes]
 | a :: ar,l=>by simp only [collectTs,sizes];have:=collectT_len a l;have:=collectTs_len ar (collectT l a);omega
end
mutual
def occ (v:Str):Term→Bool
 | .mk n b ar=>(b && decide (n = v)) || occs v ar
def occs (v:Str):List Term→Bool
 | []=>false
 | a :: ar=>occ v a || occs v ar
end
mutual
theorem mem_collectT (v:Str):∀ (t:Term) (l:List Str),v∈collectT l t ↔ v∈l ∨ occ v t = true
 | .mk n b ar,l=>by
  simp only [collectT,occ,mem_collectTs v ar]
  cases b
  ·simp
  ·simp only [if_true,mem_insS,Bool.true_and,Bool.or_eq_true,decide_eq_true_eq,or_assoc]
   constructor
   ·rintro (h | h | h)
    ·exact .inl h
    ·exact .inr (.inl h.symm)
    ·exact .inr (.inr h)
   ·rintro (h | h | h)
    ·exact .inl h
    ·exact .inr (.inl h.symm)
    ·exact .inr (.inr h)
theorem mem_collectTs (v:Str):∀ (ar:List Term) (l:List Str),v∈collectTs l ar ↔ v∈l ∨ occs v ar = true
 | [],l=>by simp [collectTs,occs]
 | a :: ar,l=>by simp only [collectTs,occs,mem_collectTs v ar,mem_collectT v a,Bool.or_eq_true,or_assoc]
end
mutual
theorem occ_len (v:Str):∀ t,occ v t = true→v.length < tb t
 | .mk n b ar,h=>by
  simp only [occ,Bool.or_eq_true,Bool.and_eq_true,decide_eq_true_eq] at h
  simp only [tb]
  rcases h with ⟨_,rfl⟩ | h
  ·omega
  ·have:=occs_len v ar h;simp only [tbs] at this;omega
theorem occs_len (v:Str):∀ l,occs v l = true→v.length < tbs l
 | [],h=>by simp [occs] at h
 | a :: ar,h=>by
  simp only [occs,Bool.or_eq_true] at h
  simp only [tbs,tb.tbs]
  rcases h with h | h
  ·have:=occ_len v a h;omega
  ·have:=occs_len v ar h;simp only [tbs] at this;omega
end
mutual
theorem count_occ (v:Str):∀ t,decide (count v t = 0) = !occ v t
 | .mk n b ar=>by
  simp only [count,occ]
  have:=counts_occ v ar
  cases b <;> by_cases h:n = v <;> simp_all
theorem counts_occ (v:Str):∀ l,decide (counts v l = 0) = !occs v l
 | []=>by simp [counts,occs]
 | a :: ar=>by
  have h1:=count_occ v a
  have h2:=counts_occ v ar
  have e:counts v (a :: ar) = count v a+counts v ar:=rfl
  have e2:occs v (a :: ar) = (occ v a || occs v ar):=rfl
  rw [e2,Bool.not_or,← h1,← h2]
  by_cases c1:count v a = 0 <;> by_cases c2:counts v ar = 0 <;> simp [e,c1,c2]
end
theorem tbs_take_le (l:List Term) (k:Nat):tbs (l.take k)≤tbs l:=by
 induction l generalizing k with
 | nil=>simp
 | cons a l ih=>cases k with
  | zero=>simp [tbs,tb.tbs]
  | succ k=>simp only [List.take_succ_cons,tbs,tb.tbs];have:=ih k;simp only [tbs] at this;omega
theorem r01_collect_s (t:Term):∀ (l:List Str),tb t < 2^39→l.length+size t < 2^39→(∀ x∈l,x.length < 2^62)→PF n_r01_collect [encT t,encSs l] (encSs (collectT l t)):=by
 induction t using term_ind with
 | h t ih =>
 intro l htb hls hn
 have hst:=size_args t
 have htb2:=tb_args t
 have hll:=length_le_sizes t.args
 have hce:=collectT_eq l t
 have fin:∀ s:List Str,s = (if t.var then insS l t.name else l)→r01_collect.L3 (encSs s) (encTs t.args) (.int .i64 t.args.length) (.int .i64 0) 0 [] (Ends 0 r01_collect.rs fun x' H'=>x' = encSs (collectT l t)∧H' = []):=by
  intro s hs
  have hsl:s.length≤l.length+1:=by rw [hs];have:=insS_len l t.name;split <;> omega
  have hsn:∀ x∈s,x.length < 2^62:=by
   intro x hx
   rw [hs] at hx
   split at hx
   ·rcases mem_insS.1 hx with h | rfl
    ·exact hn x h
    ·omega
   ·exact hn x hx
  rw [← hs] at hce
  refine loop_up (n:=t.args.length) (R:=fun k=>r01_collect.L3 (encSs (collectTs s (t.args.take k))) (encTs t.args) (.int .i64 t.args.length) (.int .i64 k) 0 [] _) ?_ ?_ 0 (by omega)
  ·intro k hk ih2
   have h1:=collectTs_take_succ s _ _ hk
   have h2:=collectTs_len (t.args.take k) s
   have h3:=sizes_take_le t.args (k+1)
   rw [sizes_take_succ _ _ hk] at h3
   have hm:=getD_mem hk
   have hm3:=tb_mem hm
   refine r01_collect.G3 ?_
   push_cast [ilt hk]
   refine .of (ih _ hm _ (by omega) (by omega) fun x hx=>?_) ?_
   ·rcases (mem_collectTs x _ _).1 hx with h | h
    ·exact hsn x h
    ·have:=occs_len x _ h
     have h4:=tbs_take_le t.args k
     omega
   push_cast [w64 (show k < 2^62 by omega)]
   rw [h1] at ih2
   exact ih2
  ·refine r01_collect.G3 ?_
   push_cast [inlt (Nat.le_refl _)]
   refine pf_ret ?_
   push_cast [r01_collect.rs,List.take_length,hce]
 refine pf_of r01_collect.ok rfl ?_
 cases hv:t.var with
 | true =>
  push_cast [hv]
  refine .of (r01_Insert_s l t.name (by omega) hn (by omega)) ?_
  push_cast
  exact fin _ (by rw [hv];rfl)
 | false =>
  push_cast [hv]
  exact fin _ (by rw [hv];rfl)
def varsT (t:Term):List Str:=collectT [] t
theorem r01_Vars_s (t:Term) (ht:tb t < 2^39):PF n_r01_Vars [encTs [t]] (encSs (varsT t)):=by
 have:=size_le_tb t
 refine pf_of r01_Vars.ok rfl ?_
 push_cast
 rw [show (V.sl 1 []:V) = encSs (collectTs [] ([t].take 0)) from rfl]
 refine loop_up (n:=1) (R:=fun k=>r01_Vars.L3 (encSs (collectTs [] ([t].take k))) (encTs [t]) (.int .i64 1) (.int .i64 k) 0 [] _) ?_ ?_ 0 (by omega)
 ·intro k hk ih2
  obtain rfl:k = 0:=by omega
  refine r01_Vars.G3 ?_
  push_cast
  refine .of (r01_collect_s t [] ht (by simpa using by omega) (by simp)) ?_
  push_cast
  exact ih2
 ·refine r01_Vars.G3 ?_
  push_cast
  refine pf_ret ?_
  push_cast [r01_Vars.rs]
  rfl
def within (a b:Term):Bool:=(varsT a).all fun v=>occ v b
theorem r01_Within_s (a b:Term) (ha:tb a < 2^39) (hb:tb b < 2^39):PF n_r01_Within [encT a,encT b] (.bool (within a b)):=by
 have hsa:=size_le_tb a
 have hsb:=size_le_tb b
 have hvl:=collectT_len a []
 have hV:=r01_Vars_s a ha
 unfold within
 have e1:(.sl 3 [cT a]:V) = encTs [a]:=rfl
 have hcl:(varsT a).length < 2^62:=by unfold varsT;simp at hvl;omega
 generalize varsT a = l at hV hcl
 refine pf_of r01_Within.ok rfl ?_
 push_cast [e1]
 refine .of hV ?_
 push_cast
 refine loop_up (n:=l.length) (R:=fun k=>((l.drop k).all fun v=>occ v b) = (l.all fun v=>occ v b)→r01_Within.L3 (.ro (cT b) 0) (encSs l) (.int .i64 l.length) (.int .i64 k) 0 [] _) ?_ ?_ 0 (by omega) rfl
 ·intro k hk ih hq
  rw [drop_getD hk] at hq
  simp only [List.all_cons] at hq
  refine r01_Within.G3 ?_
  push_cast [ilt hk]
  refine .of (r01_Count_s _ _ (by omega)) ?_
  have hc:=count_occ (l.getD k default) b
  push_cast [w64 (show k < 2^62 by omega)]
  refine ⟨fun h=>pf_ret ?_,fun h=>ih ?_⟩
  ·push_cast [r01_Within.rs]
   rw [← hq]
   have h0:count (l.getD k default) b = 0:=by omega
   rw [decide_eq_true h0] at hc
   simp_all
  ·rw [← hq]
   have h0:¬ count (l.getD k default) b = 0:=by omega
   rw [decide_eq_false h0] at hc
   simp_all
 ·intro hq
  refine r01_Within.G3 ?_
  push_cast [inlt (Nat.le_refl _)]
  refine pf_ret ?_
  push_cast [r01_Within.rs]
  rw [← hq,drop_map_none];rfl
theorem r01_Rules_s (r:List ARule) (hs:rbs r < 2^61):PF n_r01_Rules [encRs r] (.int .i64 (checkRules r)):=by
 have hl:=length_le_rbs r
 refine pf_of r01_Rules.ok rfl ?_
 by_cases h64:64 < r.length
 ·have hi:((64:Int) < (r.length:Int)) = True:=eq_true (by omega)
  push_cast [hi]
  refine pf_ret ?_
  push_cast [r01_Rules.rs,checkRules,h64]
 ·have hi:((64:Int) < (r.length:Int)) = False:=eq_false (by omega)
  push_cast [hi,checkRules,h64]
  refine loop_up (n:=r.length) (R:=fun k=>checkPairs (r.drop k) = checkPairs r→r01_Rules.L3 (encRs r) (.int .i64 r.length) (.int .i64 k) 0 [] _) ?_ ?_ 0 (by omega) rfl
  ·intro k hk ih hq
   have hm:=rbs_mem (getD_mem hk)
   refine r01_Rules.G3 ?_
   rw [drop_getD hk] at hq
   simp only [checkPairs] at hq
   generalize hx:r.getD k default = x at hm hq
   have hA:=r01_CheckAll_s [x.left,x.right] (by simp) (by simp;omega)
   push_cast [ilt hk,hx,encTs_two]
   refine .of hA ?_
   push_cast [w64 (show k < 2^62 by omega)]
   refine ⟨fun h=>pf_ret ?_,fun h=>ih ?_⟩
   ·push_cast [r01_Rules.rs]
    rw [← hq,if_pos h]
   ·rw [← hq,if_neg h]
  ·intro hq
   refine r01_Rules.G3 ?_
   push_cast [inlt (Nat.le_refl _)]
   refine pf_ret ?_
   push_cast [r01_Rules.rs]
   rw [← hq,drop_map_none];rfl
end Go.Dw
end
section
namespace Go.Dw
structure ASym where
 name:Str
 arity:Int
 deriving Inhabited,DecidableEq
def cSy (s:ASym):List V:=[.str s.name,.int .i64 s.arity]
abbrev encSys (l:List ASym):V:=encL cSy 2 l
theorem cSy_len (s:ASym):(cSy s).length = 2:=rfl
theorem cSy_0 (s:ASym):(cSy s)[0]? = some (.str s.name):=rfl
theorem cSy_1 (s:ASym):(cSy s)[1]? = some (.int .i64 s.arity):=rfl
theorem own_sym {i:Nat} {l:List ASym} {n:Str} {k:Int}:(.own i 2 (l.map cSy++[[V.str n,.int .i64 k]]):V) = ownL cSy i 2 (l++[⟨n,k⟩]):=by simp [ownL,cSy]
attribute [push_cast] cSy_len cSy_0 cSy_1
abbrev syAt (l:List ASym) (n:Str):Nat:=lbg (fun x=>decide (x.name < n)) l
def insSy (l:List ASym) (n:Str) (k:Int):List ASym:=if syAt l n < l.length∧(l.getD (syAt l n) default).name = n then l else l.take (syAt l n)++⟨n,k⟩ :: l.drop (syAt l n)
mutual
def symT (l:List ASym):Term→List ASym × Bool
 | .mk n b ar=>if b then (l,true) else if marked n then (l,false) else if ((insSy l n ar.length).getD (syAt l n) default).arity ≠ ar.length then (insSy l n ar.length,false) else symTs (insSy l n ar.length) ar
def symTs (l:List ASym):List Term→List ASym × Bool
 | []=>(l,true)
 | a :: ar=>if (symT l a).2 then symTs (symT l a).1 ar else (l,false)
end
theorem symT_eq (l:List ASym) (t:Term):symT l t = if t.var then (l,true) else if marked t.name then (l,false) else if ((insSy l t.name t.args.length).getD (syAt l t.name) default).arity ≠ t.args.length then (insSy l t.name t.args.length,false) else symTs (insSy l t.name t.args.length) t.args:=by cases t;rfl
theorem insSy_len (l:List ASym) (n:Str) (k:Int):(insSy l n k).length≤l.length+1:=by
 unfold insSy
 have:=lbg_le (fun x:ASym=>decide (x.name < n)) l
 split <;> simp <;> omega
theorem mem_insSy {l:List ASym} {n:Str} {k:Int} {x:ASym} (h:x∈insSy l n k):x∈l ∨ x = ⟨n,k⟩:=by
 unfold insSy at h
 split at h
 ·exact .inl h
 ·simp only [List.mem_append,List.mem_cons] at h
  rcases h with h | h | h
  ·exact .inl (List.mem_of_mem_take h)
  ·exact .inr h
  ·exact .inl (List.mem_of_mem_drop h)
def Few (M:Nat) (m:Nat) (l:List ASym):Prop:=l.length≤m∧∀ x∈l,x.name.length < M
theorem Few.ins {M m:Nat} {l:List ASym} (h:Few M m l) {n:Str} {k:Int} (hn:n.length < M):Few M (m+1) (insSy l n k):=by
 refine ⟨by have:=insSy_len l n k;have:=h.1;omega,fun x hx=>?_⟩
 rcases mem_insSy hx with h1 | rfl
 ·exact h.2 x h1
 ·exact hn
mutual
theorem few_symT {M:Nat}:∀ (t:Term) (m:Nat) (l:List ASym),Few M m l→tb t≤M→Few M (m+size t) (symT l t).1
 | .mk n b ar,m,l,h,ht=>by
  simp only [tb] at ht
  have h0:Few M (m+size (.mk n b ar)) l:=⟨by have:=h.1;omega,h.2⟩
  have h1:=h.ins (n:=n) (k:=ar.length) (by omega)
  have h2:Few M (m+size (.mk n b ar)) (insSy l n ar.length):=⟨by have:=h1.1;simp only [size];omega,h1.2⟩
  have h3:=few_symTs ar (m+1) _ h1 (by simp only [tbs];omega)
  simp only [symT]
  split
  ·exact h0
  split
  ·exact h0
  split
  ·exact h2
  ·exact ⟨by have:=h3.1;simp only [size];omega,h3.2⟩
theorem few_symTs {M:Nat}:∀ (ar:List Term) (m:Nat) (l:List ASym),Few M m l→tbs ar≤M→Few M (m+sizes ar) (symTs l ar).1
 | [],m,l,h,_=>by simpa [symTs,sizes] using h
 | a :: ar,m,l,h,ht=>by
  simp only [tbs,tb.tbs] at ht
  have h1:=few_symT a m l h (by omega)
  have h2:=few_symTs ar _ _ h1 (by simp only [tbs];omega)
  simp only [symTs]
  split
  ·exact ⟨by have:=h2.1;simp only [sizes];omega,h2.2⟩
  ·exact ⟨by have:=h.1;show l.length≤_;omega,h.2⟩
end
theorem symTs_append (a b:List Term):∀ l:List ASym,(symTs l a).2 = true→symTs l (a++b) = symTs (symTs l a).1 b:=by
 induction a with
 | nil=>intro l _;rfl
 | cons x xs ih =>
  intro l h
  simp only [symTs,List.cons_append] at h ⊢
  by_cases hx:(symT l x).2 = true
  ·rw [if_pos hx] at h ⊢
   rw [if_pos hx]
   exact ih _ h
  ·rw [if_neg hx] at h
   cases h
set_option maxHeartbeats 1000000 in
theorem r01_symbols_s (t:Term):∀ (m:Nat) (l:List ASym),tb t < 2^39→m+size t < 2^39→Few (2^39) m l→PF n_r01_symbols [encT t,encSys l] (.tup [encSys (symT l t).1,.bool (symT l t).2]):=by
 induction t using term_ind with
 | h t ih =>
 intro m l htb hms hf
 have hst:=size_args t
 have htb2:=tb_args t
 have hll:=length_le_sizes t.args
 have hse:=symT_eq l t
 have hl:l.length < 2^39:=by have:=hf.1;omega
 refine pf_of r01_symbols.ok rfl ?_
 cases hv:t.var with
 | true =>
  rw [hv,if_pos rfl] at hse
  push_cast [hv]
  exact pf_ret (by push_cast [r01_symbols.rs,hse])
 | false =>
 rw [hv,if_neg (by simp)] at hse
 push_cast [hv]
 refine .of (r01_Marked_s t.name (by omega)) ?_
 cases hmk:hasSuf t.name [35] with
 | true =>
  have hmk':marked t.name = true:=hmk
  rw [hmk',if_pos rfl] at hse
  push_cast
  exact pf_ret (by push_cast [r01_symbols.rs,hse])
 | false =>
 have hmk':marked t.name = false:=hmk
 rw [hmk',if_neg (by simp)] at hse
 have hI:=insSy_len l t.name t.args.length
 have hF:=hf.ins (n:=t.name) (k:=t.args.length) (by omega)
 have hle:syAt l t.name≤l.length:=lbg_le (fun x:ASym=>decide (x.name < t.name)) l
 have hge:syAt l t.name < l.length→¬ (l.getD (syAt l t.name) default).name < t.name:=fun h=>of_decide_eq_false (@lbg_ge _ _ (fun x:ASym=>decide (x.name < t.name)) l h)
 have hlt:∀ j,j < syAt l t.name→(l.getD j default).name < t.name:=fun j h=>of_decide_eq_true (@lbg_lt _ _ (fun x:ASym=>decide (x.name < t.name)) l j h)
 have hat:syAt l t.name < (insSy l t.name t.args.length).length:=by
  unfold insSy
  split
  ·rename_i h;exact h.1
  ·rw [List.length_append,List.length_take,List.length_cons,Nat.min_eq_left hle];omega
 have hins:insSy l t.name t.args.length = if syAt l t.name < l.length∧(l.getD (syAt l t.name) default).name = t.name then l else l.take (syAt l t.name)++⟨t.name,t.args.length⟩ :: l.drop (syAt l t.name):=rfl
 generalize insSy l t.name t.args.length = l1 at *
 have kids:(l1.getD (syAt l t.name) default).arity = t.args.length→r01_symbols.L3 (encSys l1) (encTs t.args) (.int .i64 t.args.length) (.int .i64 0) 0 [] (Ends 0 r01_symbols.rs fun x' H'=>x' = .tup [encSys (symT l t).1,.bool (symT l t).2]∧H' = []):=by
  intro har
  rw [if_neg (by simpa using har)] at hse
  rw [hse]
  refine loop_up (n:=t.args.length) (R:=fun k=>(symTs l1 (t.args.take k)).2 = true→r01_symbols.L3 (encSys (symTs l1 (t.args.take k)).1) (encTs t.args) (.int .i64 t.args.length) (.int .i64 k) 0 [] _) ?_ ?_ 0 (by omega) rfl
  ·intro k hk ih2 hok
   have hm:=getD_mem hk
   have hm3:=tb_mem hm
   have h3:=sizes_take_le t.args (k+1)
   rw [sizes_take_succ _ _ hk] at h3
   have hFk:=few_symTs (t.args.take k) _ _ hF (by have:=tbs_take_le t.args k;omega)
   have hcat:symTs l1 (t.args.take (k+1)) = if (symT (symTs l1 (t.args.take k)).1 (t.args.getD k default)).2 then (symT (symTs l1 (t.args.take k)).1 (t.args.getD k default)) else ((symTs l1 (t.args.take k)).1,false):=by
    rw [take_succ_getD hk,symTs_append _ _ _ hok]
    simp only [symTs]
    split
    ·rename_i h;exact Prod.ext rfl h.symm
    ·rfl
   have hend:(symT (symTs l1 (t.args.take k)).1 (t.args.getD k default)).2 = false→symTs l1 t.args = ((symTs l1 (t.args.take k)).1,false):=by
    intro h
    conv=>lhs;rw [← List.take_append_drop k t.args]
    rw [symTs_append _ _ _ hok,drop_getD hk]
    simp only [symTs,h]
    rfl
   refine r01_symbols.G3 ?_
   push_cast [ilt hk]
   refine .of (ih _ hm _ _ (by omega) (by omega) hFk) ?_
   cases hb:(symT (symTs l1 (t.args.take k)).1 (t.args.getD k default)).2 with
   | false =>
    push_cast
    refine pf_ret ?_
    push_cast [r01_symbols.rs,hend hb]
   | true =>
    rw [hb,if_pos rfl] at hcat
    push_cast [w64 (show k < 2^62 by omega)]
    rw [hcat] at ih2
    exact ih2 hb
  ·intro hok
   rw [List.take_length] at hok
   refine r01_symbols.G3 ?_
   push_cast [inlt (Nat.le_refl _)]
   refine pf_ret ?_
   push_cast [r01_symbols.rs,List.take_length,hok]
 generalize syAt l t.name = a at *
 push_cast
 refine loop_up (n:=a) (R:=fun k=>r01_symbols.L9 (encSys l) (.ro (cT t) 0) (.int .i64 k) 0 [] _) ?_ ?_ 0 (by omega)
 ·intro k hk ih2
  have hkl:k < l.length:=by omega
  have h1:cmpS (l.getD k default).name t.name < 0:=cmpS_neg.2 (hlt k hk)
  refine r01_symbols.G9 ?_
  push_cast [ilt hkl]
  refine .of (r01_CompareNames_s _ _ (by have:=hf.2 _ (getD_mem hkl);omega) (by omega)) ?_
  push_cast [h1,w64 (show k < 2^62 by omega)]
  exact ih2
 ·refine r01_symbols.G9 ?_
  have tail:∀ m:Nat,m≤2^40→∀ b,b≤64→m * b≤maxEls:=fun m hm b hb=>Nat.le_trans (Nat.mul_le_mul hm hb) (by unfold maxEls;decide)
  have e1:(l.drop 0).take (a - 0) = l.take a:=by simp
  have e2:(l.drop a).take (l.length - a) = l.drop a:=by rw [List.take_of_length_le];simp
  rcases Nat.lt_or_ge a l.length with h | h
  ·have h2:¬ cmpS (l.getD a default).name t.name < 0:=fun hc=>hge h (cmpS_neg.1 hc)
   have h3:((a:Int) = (l.length:Int)) = False:=eq_false (by omega)
   push_cast [ilt h]
   refine .of (r01_CompareNames_s _ _ (by have:=hf.2 _ (getD_mem h);omega) (by omega)) ?_
   by_cases he:(l.getD a default).name = t.name
   ·rw [if_pos ⟨h,he⟩] at hins
    subst hins
    rw [he] at h2
    push_cast [h2,h3,he,ilt h]
    refine ⟨fun har=>pf_ret ?_,fun har=>kids (by simpa using har)⟩
    rw [if_pos har] at hse
    push_cast [r01_symbols.rs,hse]
   ·rw [if_neg (fun hh=>he hh.2)] at hins
    push_cast [h2,h3,he,ilt h,own_sym,e1,e2,List.cons_append,List.nil_append,← hins,hat]
    refine ⟨⟨by omega,hle⟩,tail _ (by simp;omega) _ (by omega),tail _ (by simp;omega) _ (by omega),hle,⟨by simp,tail _ (by simp;omega) _ (by omega)⟩,by omega,fun har=>pf_ret ?_,fun har=>kids (by simpa using har)⟩
    rw [if_pos har] at hse
    push_cast [r01_symbols.rs,hse]
  ·rw [if_neg (fun hh=>by omega)] at hins
   have h3:((a:Int) = (l.length:Int)) = True:=eq_true (by omega)
   push_cast (maxSteps:=1000000) [inlt h,h3,own_sym,e1,e2,List.cons_append,List.nil_append,← hins,hat]
   refine ⟨⟨by omega,hle⟩,tail _ (by simp;omega) _ (by omega),tail _ (by simp;omega) _ (by omega),hle,⟨by simp,tail _ (by simp;omega) _ (by omega)⟩,by omega,fun har=>pf_ret ?_,fun har=>kids (by simpa using har)⟩
   rw [if_pos har] at hse
   push_cast [r01_symbols.rs,hse]
end Go.Dw
end
section
namespace Go.Dw
open Go.Proofs (sortS)
def symRs (l:List ASym):List ARule→List ASym × Bool
 | []=>(l,true)
 | x :: r=>if (symT l x.left).2 then if (symT (symT l x.left).1 x.right).2 then symRs (symT (symT l x.left).1 x.right).1 r else ([],false) else ([],false)
theorem r01_Symbols_s (r:List ARule) (hs:rbs r < 2^38):PF n_r01_Symbols [encRs r] (.tup [encSys (symRs [] r).1,.bool (symRs [] r).2]):=by
 have hl:=length_le_rbs r
 have hw1:IntKind.i64.wrap 1 = 1:=wrap64 (by omega) (by omega)
 have hw2:IntKind.i64.wrap 2 = 2:=wrap64 (by omega) (by omega)
 refine pf_of r01_Symbols.ok rfl ?_
 push_cast
 rw [show (V.sl 2 []:V) = encSys [] from rfl]
 refine loop_up (n:=r.length) (R:=fun k=>∀ l m,Few (2^39) m l→m+rbs (r.drop k) < 2^38→symRs l (r.drop k) = symRs [] r→r01_Symbols.L6 (encSys l) (encRs r) (.int .i64 r.length) (.int .i64 k) 0 [] (Ends 0 r01_Symbols.rs fun x' H'=>x' = .tup [encSys (symRs [] r).1,.bool (symRs [] r).2]∧H' = [])) ?_ ?_ 0 (by omega) [] 0 ⟨by simp,by simp⟩ (by simpa using hs) rfl
 ·intro k hk ih l m hf hm hq
  have hr:=rbs_mem (getD_mem hk)
  rw [drop_getD hk] at hm hq
  simp only [rbs,symRs] at hm hq
  generalize hx:r.getD k default = x at hm hq hr
  have s1:=size_le_tb x.left
  have s2:=size_le_tb x.right
  have hf1:=few_symT x.left m l hf (by omega)
  have hf2:=few_symT x.right _ _ hf1 (by omega)
  refine r01_Symbols.G6 ?_
  push_cast [ilt hk,hx,encTs_two]
  refine r01_Symbols.G4 ?_
  push_cast
  refine .of (r01_symbols_s x.left m l (by omega) (by omega) hf) ?_
  cases h1:(symT l x.left).2 with
  | false =>
   rw [if_neg (by simp [h1])] at hq
   push_cast
   refine pf_ret ?_
   push_cast [r01_Symbols.rs,← hq]
   rfl
  | true =>
   rw [if_pos h1] at hq
   push_cast [hw1]
   refine r01_Symbols.G4 ?_
   push_cast
   refine .of (r01_symbols_s x.right _ _ (by omega) (by omega) hf1) ?_
   cases h2:(symT (symT l x.left).1 x.right).2 with
   | false =>
    rw [if_neg (by simp [h2])] at hq
    push_cast
    refine pf_ret ?_
    push_cast [r01_Symbols.rs,← hq]
    rfl
   | true =>
    rw [if_pos h2] at hq
    push_cast [hw2]
    refine r01_Symbols.G4 ?_
    push_cast [w64 (show k < 2^62 by omega)]
    exact ih _ _ hf2 (by omega) hq
 ·intro l m hf hm hq
  refine r01_Symbols.G6 ?_
  push_cast [inlt (Nat.le_refl _)]
  refine pf_ret ?_
  rw [drop_map_none] at hq
  push_cast [r01_Symbols.rs,← hq]
  exact ⟨rfl,rfl⟩
def extraR (x:ARule):Bool:=x.left.var || !within x.right x.left
def checkSystemR (r:List ARule):Int:=if checkRules r ≠ 0 then checkRules r else if (symRs [] r).2 then (if r.any extraR then 7 else 0) else 6
theorem r01_CheckSystem_sR (r:List ARule) (hs:rbs r < 2^38):PF n_r01_CheckSystem [encRs r] (.int .i64 (checkSystemR r)):=by
 have hl:=length_le_rbs r
 refine pf_of r01_CheckSystem.ok rfl ?_
 push_cast
 refine .of (r01_Rules_s r (by omega)) ?_
 unfold checkSystemR
 by_cases h1:checkRules r = 0
 ·rw [if_neg (by simpa using h1)]
  push_cast [h1]
  refine .of (r01_Symbols_s r hs) ?_
  cases h2:(symRs [] r).2 with
  | false =>
   push_cast
   refine pf_ret ?_
   push_cast [r01_CheckSystem.rs]
  | true =>
   push_cast
   refine loop_up (n:=r.length) (R:=fun k=>(r.drop k).any extraR = r.any extraR→r01_CheckSystem.L3 (encRs r) (.int .i64 r.length) (.int .i64 k) 0 [] _) ?_ ?_ 0 (by omega) rfl
   ·intro k hk ih hq
    have hr:=rbs_mem (getD_mem hk)
    rw [drop_getD hk] at hq
    simp only [List.any_cons] at hq
    generalize hx:r.getD k default = x at hq hr
    refine r01_CheckSystem.G3 ?_
    cases hv:x.left.var with
    | true =>
     push_cast [ilt hk,hx,hv]
     refine pf_ret ?_
     push_cast [r01_CheckSystem.rs,← hq,extraR,hv]
     simp
    | false =>
     push_cast [ilt hk,hx,hv]
     refine .of (r01_Within_s _ _ (by omega) (by omega)) ?_
     cases hw:within x.right x.left with
     | false =>
      push_cast
      refine pf_ret ?_
      push_cast [r01_CheckSystem.rs,← hq,extraR,hv,hw]
      rfl
     | true =>
      push_cast [w64 (show k < 2^62 by omega)]
      exact ih (by rw [← hq];simp [extraR,hv,hw])
   ·intro hq
    rw [drop_map_none] at hq
    refine r01_CheckSystem.G3 ?_
    push_cast [inlt (Nat.le_refl _)]
    refine pf_ret ?_
    push_cast [r01_CheckSystem.rs,← hq]
    rfl
 ·rw [if_pos h1]
  push_cast [h1]
  refine pf_ret ?_
  push_cast [r01_CheckSystem.rs]
theorem mem_foldl_addS (v:Str):∀ (l ks:List Str),v∈l.foldl addS ks ↔ v∈ks ∨ v∈l
 | [],ks=>by simp
 | x :: l,ks=>by
  rw [List.foldl_cons,mem_foldl_addS v l]
  unfold addS
  split
  ·rename_i h
   simp only [List.mem_cons]
   constructor
   ·rintro (h1 | h1)
    ·exact .inl h1
    ·exact .inr (.inr h1)
   ·rintro (h1 | rfl | h1)
    ·exact .inl h1
    ·exact .inl h
    ·exact .inr h1
  ·simp [or_assoc]
theorem varsIn_cons (x:List Int × Term) (l:List (List Int × Term)):varsIn (x :: l) = if x.2.var then x.2.name :: varsIn l else varsIn l:=by
 unfold varsIn;rw [List.filter_cons];split <;> rfl
theorem varsIn_append (a b:List (List Int × Term)):varsIn (a++b) = varsIn a++varsIn b:=by
 unfold varsIn;rw [List.filter_append,List.map_append]
mutual
theorem mem_varsIn (v:Str):∀ (t:Term) (p:List Int),v∈varsIn (visit t p) ↔ occ v t = true
 | .mk n b ar,p=>by
  have h:=mem_varsIns v ar p 0
  rw [visit_eq,varsIn_cons]
  cases b
  ·rw [if_neg (by simp [Term.var])]
   simpa [occ,Term.args] using h
  ·rw [if_pos (by simp [Term.var])]
   simp only [occ,Bool.true_and,Bool.or_eq_true,decide_eq_true_eq,List.mem_cons,← h]
   exact ⟨fun h=>h.imp (fun e=>e.symm) id,fun h=>h.imp (fun e=>e.symm) id⟩
theorem mem_varsIns (v:Str):∀ (ar:List Term) (p:List Int) (i:Nat),v∈varsIn (visits ar p i) ↔ occs v ar = true
 | [],p,i=>by simp [visits,varsIn,occs]
 | a :: ar,p,i=>by
  have h1:=mem_varsIn v a (p++[(i:Int)])
  have h2:=mem_varsIns v ar p (i+1)
  simp only [visits,varsIn_append,List.mem_append,h1,h2,occs,Bool.or_eq_true]
end
theorem mem_varsOf (v:Str) (t:Term):v∈varsOf [t] ↔ occ v t = true:=by
 unfold varsOf
 rw [show (v∈sortS (vsetT [] [t])) ↔ v∈vsetT [] [t] from (List.mergeSort_perm _ _).mem_iff]
 simp only [vsetT,List.foldl_cons,List.foldl_nil,vset,mem_foldl_addS,mem_varsIn,List.not_mem_nil,false_or]
theorem extra_eq (x:ARule):extra x = extraR x:=by
 unfold extra extraR within
 congr 1
 rw [Bool.eq_iff_iff]
 simp only [List.any_eq_true,Bool.not_eq_true',decide_eq_false_iff_not,mem_varsOf,List.all_eq_false,varsT,mem_collectT,List.not_mem_nil,false_or]
theorem getA_append (m:Ars) (n v:Str) (k:Nat):getA (m++[(n,k)]) v = match getA m v with | some a=>some a | none=>if n = v then some k else none:=by
 induction m with
 | nil=>simp [getA]
 | cons p m ih =>
  simp only [List.cons_append,getA]
  split
  ·rfl
  ·exact ih
def getSy:List ASym→Str→Option Int
 | [],_=>none
 | x :: l,n=>if x.name = n then some x.arity else getSy l n
abbrev SySorted (l:List ASym):Prop:=l.Pairwise fun a b=>a.name < b.name
theorem getSy_none {l:List ASym} {n:Str} (h:∀ x∈l,x.name ≠ n):getSy l n = none:=by
 induction l with
 | nil=>rfl
 | cons x l ih=>simp only [getSy];rw [if_neg (h x (by simp))];exact ih fun y hy=>h y (by simp [hy])
theorem getSy_at {n:Str}:∀ {l:List ASym},SySorted l→getSy l n = if syAt l n < l.length∧(l.getD (syAt l n) default).name = n then some (l.getD (syAt l n) default).arity else none
 | [],_=>by simp [getSy]
 | x :: l,hs=>by
  obtain ⟨h1,h2⟩:=List.pairwise_cons.1 hs
  have ih:=getSy_at (n:=n) h2
  by_cases hx:x.name < n
  ·have e:syAt (x :: l) n = syAt l n+1:=by simp [syAt,lbg,hx]
   simp only [getSy,e]
   rw [if_neg (fun e2:x.name = n=>slt_irrefl n (by rw [e2] at hx;exact hx)),ih]
   simp
  ·have e:syAt (x :: l) n = 0:=by simp only [syAt,lbg];rw [if_neg (by simpa using hx)]
   simp only [getSy,e]
   by_cases he:x.name = n
   ·simp [he]
   ·rw [if_neg he]
    simp only [List.length_cons,Nat.zero_lt_succ,true_and,List.getD_cons_zero,he,if_false]
    refine getSy_none fun y hy e=>?_
    have:=h1 y hy
    rw [e] at this
    exact hx this
def insR (n:Str) (k:Int):List ASym→List ASym
 | []=>[⟨n,k⟩]
 | x :: l=>if x.name < n then x :: insR n k l else ⟨n,k⟩ :: x :: l
theorem insR_eq (n:Str) (k:Int):∀ l:List ASym,l.take (syAt l n)++⟨n,k⟩ :: l.drop (syAt l n) = insR n k l
 | []=>rfl
 | x :: l=>by
  have ih:=insR_eq n k l
  by_cases hx:x.name < n
  ·have e:syAt (x :: l) n = syAt l n+1:=by simp [syAt,lbg,hx]
   simp only [insR]
   rw [if_pos hx,e,List.take_succ_cons,List.drop_succ_cons,List.cons_append,ih]
  ·have e:syAt (x :: l) n = 0:=by simp only [syAt,lbg];rw [if_neg (by simpa using hx)]
   simp only [insR]
   rw [if_neg hx,e];rfl
theorem mem_insR {n:Str} {k:Int} {x:ASym}:∀ {l:List ASym},x∈insR n k l ↔ x = ⟨n,k⟩ ∨ x∈l
 | []=>by simp [insR]
 | y :: l=>by
  simp only [insR]
  split
  ·simp only [List.mem_cons,mem_insR (l:=l)]
   constructor
   ·rintro (h | h | h)
    ·exact .inr (.inl h)
    ·exact .inl h
    ·exact .inr (.inr h)
   ·rintro (h | h | h)
    ·exact .inr (.inl h)
    ·exact .inl h
    ·exact .inr (.inr h)
  ·simp
theorem insR_sorted {n:Str} {k:Int}:∀ {l:List ASym},SySorted l→(∀ x∈l,x.name ≠ n)→SySorted (insR n k l)
 | [],_,_=>by simp [insR,SySorted]
 | x :: l,hs,hn=>by
  obtain ⟨h1,h2⟩:=List.pairwise_cons.1 hs
  simp only [insR]
  split
  ·rename_i hx
   refine List.pairwise_cons.2 ⟨fun y hy=>?_,insR_sorted h2 fun y hy=>hn y (by simp [hy])⟩
   rcases mem_insR.1 hy with rfl | h
   ·exact hx
   ·exact h1 y h
  ·rename_i hx
   have hlt:n < x.name:=by
    rcases Classical.em (n < x.name) with h | h
    ·exact h
    ·exact absurd (slt_eq hx h) (hn x (by simp))
   refine List.pairwise_cons.2 ⟨fun y hy=>?_,hs⟩
   rcases List.mem_cons.1 hy with rfl | h
   ·exact hlt
   ·exact slt_trans hlt (h1 y h)
theorem getSy_insR {n v:Str} {k:Int}:∀ {l:List ASym},(∀ x∈l,x.name ≠ n)→getSy (insR n k l) v = if n = v then some k else getSy l v
 | [],_=>by simp [insR,getSy]
 | x :: l,hn=>by
  simp only [insR]
  split
  ·simp only [getSy]
   rw [getSy_insR fun y hy=>hn y (by simp [hy])]
   by_cases h:x.name = v
   ·rw [if_pos h,if_pos h,if_neg (fun e=>hn x (by simp) (h.trans e.symm))]
   ·rw [if_neg h,if_neg h]
  ·simp only [getSy]
theorem getSy_some {l:List ASym} {n:Str} {x:ASym} (hx:x∈l) (hn:x.name = n):getSy l n ≠ none:=by
 induction l with
 | nil=>cases hx
 | cons y l ih =>
  simp only [getSy]
  split
  ·simp
  ·rename_i h
   rcases List.mem_cons.1 hx with rfl | hx
   ·exact absurd hn h
   ·exact ih hx
def mk (m:Ars):Bool:=m.any fun p=>marked p.1
def Rel (l:List ASym) (m:Ars):Prop:=SySorted l∧(∀ n,getSy l n = (getA m n).map fun k:Nat=>(k:Int))∧mk m = false
theorem mk_getA {m:Ars} {n:Str} {k:Nat} (h:getA m n = some k) (hm:mk m = false):marked n = false:=by
 induction m with
 | nil=>cases h
 | cons p m ih =>
  simp only [mk,List.any_cons,Bool.or_eq_false_iff] at hm
  simp only [getA] at h
  split at h
  ·rename_i e;rw [← e];exact hm.1
  ·exact ih h hm.2
theorem arStep_mk {m m':Ars} {u:Term} (h:arStep m u = some m') (hm:mk m = true):mk m' = true:=by
 unfold arStep at h
 split at h
 ·cases h;exact hm
 ·split at h
  ·split at h
   ·cases h;exact hm
   ·cases h
  ·cases h
   simp only [mk,List.any_append,Bool.or_eq_true] at hm ⊢
   exact .inl hm
theorem arAll_mk:∀ (l:List (List Int × Term)) {m m':Ars},arAll m l = some m'→mk m = true→mk m' = true
 | [],m,m',h,hm=>by cases h;exact hm
 | x :: l,m,m',h,hm=>by
  simp only [arAll] at h
  cases hs:arStep m x.2 with
  | none=>rw [hs] at h;cases h
  | some m1 =>
   rw [hs,Option.bind_some] at h
   exact arAll_mk l h (arStep_mk hs hm)
def Says (o:Option Ars) (s:List ASym × Bool):Prop:=match o with
 | none=>s.2 = false
 | some m=>if mk m then s.2 = false else s.2 = true∧Rel s.1 m
theorem insSy_eq (l:List ASym) (n:Str) (k:Int) (hs:SySorted l):insSy l n k = if getSy l n = none then insR n k l else l:=by
 unfold insSy
 rw [getSy_at hs,insR_eq]
 split
 ·simp
 ·simp
theorem sy_new {l:List ASym} {n:Str} {k:Int}:(l.take (syAt l n)++⟨n,k⟩ :: l.drop (syAt l n)).getD (syAt l n) default = ⟨n,k⟩:=by
 have hle:syAt l n≤l.length:=lbg_le (fun x:ASym=>decide (x.name < n)) l
 rw [List.getD_eq_getElem?_getD,List.getElem?_append_right (by simp;omega),List.length_take,Nat.min_eq_left hle]
 simp
mutual
theorem says_T:∀ (t:Term) (p:List Int) (l:List ASym) (m:Ars),Rel l m→formed t = true→Says (arAll m (visit t p)) (symT l t)
 | .mk n b ar,p,l,m,hR,hf=>by
  have ht:=formed_eq (.mk n b ar)
  rw [hf] at ht
  simp only [Term.var,Term.args,Term.name] at ht
  simp only [visit_eq,arAll,symT,Term.args]
  cases b with
  | true =>
   simp only [if_true] at ht
   have har:ar = []:=by
    have:=ht.symm
    simp only [Bool.and_eq_true,decide_eq_true_eq] at this
    exact List.length_eq_zero_iff.1 (of_decide_eq_true this.1)
   subst har
   simp only [arStep,Term.var,if_true,visits,arAll,Option.bind_some,Says,hR.2.2,Bool.false_eq_true,if_false]
   exact ⟨trivial,hR⟩
  | false =>
   have hfs:formeds ar = true:=by
    rw [formeds_all]
    have:=ht.symm
    simp only [Bool.false_eq_true,if_false,Bool.and_eq_true] at this
    exact this.2.2
   simp only [Bool.false_eq_true,if_false]
   by_cases hmk:marked n = true
   ·rw [if_pos hmk]
    have hg:getA m n = none:=by
     cases hg:getA m n with
     | none=>rfl
     | some k=>rw [mk_getA hg hR.2.2] at hmk;cases hmk
    have hst:arStep m (.mk n false ar) = some (m++[(n,ar.length)]):=by simp [arStep,Term.var,Term.name,Term.args,hg]
    rw [hst,Option.bind_some]
    have hm1:mk (m++[(n,ar.length)]) = true:=by simp [mk,hmk]
    cases hr:arAll (m++[(n,ar.length)]) (visits ar p 0) with
    | none=>rfl
    | some m'=>simp only [Says,arAll_mk _ hr hm1,if_true]
   ·rw [if_neg hmk]
    have hg2:=hR.2.1 n
    have hat:=getSy_at (n:=n) hR.1
    cases hg:getA m n with
    | some k =>
     rw [hg] at hg2
     have hne:¬ getSy l n = none:=by rw [hg2];simp
     have hins:insSy l n ar.length = l:=by rw [insSy_eq _ _ _ hR.1,if_neg hne]
     have har:(l.getD (syAt l n) default).arity = k:=by
      rw [hg2] at hat
      split at hat
      ·simpa using hat.symm
      ·cases hat
     rw [hins,har]
     by_cases hk:k = ar.length
     ·have hst:arStep m (.mk n false ar) = some m:=by simp [arStep,Term.var,Term.name,Term.args,hg,hk]
      rw [hst,Option.bind_some,if_neg (by simp [hk])]
      exact says_Ts ar p 0 l m hR hfs
     ·have hst:arStep m (.mk n false ar) = none:=by simp [arStep,Term.var,Term.name,Term.args,hg,hk]
      rw [hst,if_pos (by simp;omega)]
      rfl
    | none =>
     rw [hg] at hg2
     have hg2':getSy l n = none:=hg2
     have hnm:∀ x∈l,x.name ≠ n:=fun x hx e=>getSy_some hx e hg2'
     have hst:arStep m (.mk n false ar) = some (m++[(n,ar.length)]):=by simp [arStep,Term.var,Term.name,Term.args,hg]
     have hins:insSy l n ar.length = insR n ar.length l:=by rw [insSy_eq _ _ _ hR.1,if_pos hg2']
     have hnew:((insR n ar.length l).getD (syAt l n) default).arity = ar.length:=by rw [← insR_eq,sy_new]
     rw [hst,Option.bind_some,hins,hnew,if_neg (by simp)]
     refine says_Ts ar p 0 _ _ ⟨insR_sorted hR.1 hnm,fun v=>?_,?_⟩ hfs
     ·rw [getSy_insR hnm,getA_append,hR.2.1 v]
      by_cases e:n = v
      ·subst e;rw [if_pos rfl,if_pos rfl,hg];rfl
      ·rw [if_neg e,if_neg e];cases getA m v <;> rfl
     ·have:=hR.2.2
      simp only [mk] at this ⊢
      rw [List.any_append,this]
      simpa using hmk
theorem says_Ts:∀ (ar:List Term) (p:List Int) (i:Nat) (l:List ASym) (m:Ars),Rel l m→formeds ar = true→Says (arAll m (visits ar p i)) (symTs l ar)
 | [],p,i,l,m,hR,_=>by
  simp only [visits,arAll,symTs,Says,hR.2.2,Bool.false_eq_true,if_false]
  exact ⟨trivial,hR⟩
 | a :: ar,p,i,l,m,hR,hf=>by
  simp only [formeds,Bool.and_eq_true] at hf
  have h1:=says_T a (p++[(i:Int)]) l m hR hf.1
  simp only [visits,arAll_append,symTs]
  cases hr:arAll m (visit a (p++[(i:Int)])) with
  | none =>
   rw [hr] at h1
   rw [if_neg (by rw [show (symT l a).2 = false from h1];simp)]
   rfl
  | some m1 =>
   rw [hr] at h1
   rw [Option.bind_some]
   simp only [Says] at h1
   by_cases hm1:mk m1 = true
   ·rw [if_pos hm1] at h1
    rw [if_neg (by rw [h1];simp)]
    cases hr2:arAll m1 (visits ar p (i+1)) with
    | none=>rfl
    | some m'=>simp only [Says,arAll_mk _ hr2 hm1,if_true]
   ·rw [if_neg hm1] at h1
    rw [if_pos h1.1]
    exact says_Ts ar p (i+1) _ _ h1.2 hf.2
end
theorem says_Rs:∀ (r:List ARule) (l:List ASym) (m:Ars),Rel l m→(∀ x∈r,formed x.left = true∧formed x.right = true)→match arRules m r with
  | none=>(symRs l r).2 = false
  | some m=>(symRs l r).2 = !mk m
 | [],l,m,hR,_=>by simp only [arRules,symRs,hR.2.2];rfl
 | x :: r,l,m,hR,hf=>by
  obtain ⟨hf1,hf2⟩:=hf x (by simp)
  have h1:=says_T x.left [] l m hR hf1
  have mono:∀ (r:List ARule) {m m':Ars},arRules m r = some m'→mk m = true→mk m' = true:=by
   intro r
   induction r with
   | nil=>intro m m' h hm;cases h;exact hm
   | cons y r ih =>
    intro m m' h hm
    simp only [arRules] at h
    cases ha:arAll m (visit y.left []) with
    | none=>rw [ha] at h;cases h
    | some m1 =>
     rw [ha,Option.bind_some] at h
     cases hb:arAll m1 (visit y.right []) with
     | none=>rw [hb] at h;cases h
     | some m2 =>
      rw [hb,Option.bind_some] at h
      exact ih h (arAll_mk _ hb (arAll_mk _ ha hm))
  simp only [arRules,symRs]
  cases ha:arAll m (visit x.left []) with
  | none =>
   rw [ha] at h1
   have:(symT l x.left).2 = false:=h1
   simp [this]
  | some m1 =>
   rw [ha] at h1
   simp only [Says] at h1
   rw [Option.bind_some]
   by_cases hm1:mk m1 = true
   ·rw [if_pos hm1] at h1
    rw [if_neg (by rw [h1];simp)]
    cases hr:(arAll m1 (visit x.right [])).bind fun m2=>arRules m2 r with
    | none=>rfl
    | some m' =>
     have:mk m' = true:=by
      cases hb:arAll m1 (visit x.right []) with
      | none=>rw [hb] at hr;cases hr
      | some m2=>rw [hb,Option.bind_some] at hr;exact mono r hr (arAll_mk _ hb hm1)
     simp [this]
   ·rw [if_neg hm1] at h1
    rw [if_pos h1.1]
    have h2:=says_T x.right [] _ m1 h1.2 hf2
    cases hb:arAll m1 (visit x.right []) with
    | none =>
     rw [hb] at h2
     have:(symT (symT l x.left).1 x.right).2 = false:=h2
     simp [this]
    | some m2 =>
     rw [hb] at h2
     simp only [Says] at h2
     rw [Option.bind_some]
     by_cases hm2:mk m2 = true
     ·rw [if_pos hm2] at h2
      rw [if_neg (by rw [h2];simp)]
      cases hr:arRules m2 r with
      | none=>rfl
      | some m'=>simp [mono r hr hm2]
     ·rw [if_neg hm2] at h2
      rw [if_pos h2.1]
      exact says_Rs r _ _ h2.2 fun y hy=>hf y (by simp [hy])
theorem check_formed {t:Term} (h:check t = 0):formed t = true:=by
 unfold check at h
 split at h
 ·assumption
 ·omega
theorem checkPairs_formed:∀ {r:List ARule},checkPairs r = 0→∀ x∈r,check x.left = 0∧check x.right = 0
 | [],_,x,hx=>by cases hx
 | y :: r,h,x,hx=>by
  simp only [checkPairs] at h
  split at h
  ·omega
  ·rename_i h1
   rcases List.mem_cons.1 hx with rfl | hx
   ·simp only [checks,ne_eq,Classical.not_not] at h1
    split at h1
    ·omega
    ·rename_i h2
     split at h1
     ·omega
     ·rename_i h3
      exact ⟨by simpa using h2,by simpa using h3⟩
   ·exact checkPairs_formed h x hx
theorem checkRules_formed {r:List ARule} (h:checkRules r = 0):∀ x∈r,check x.left = 0∧check x.right = 0:=by
 unfold checkRules at h
 split at h
 ·omega
 ·exact checkPairs_formed h
theorem checkSystemR_eq (r:List ARule):checkSystemR r = checkSystem r:=by
 unfold checkSystemR checkSystem
 by_cases h1:checkRules r = 0
 ·rw [h1,if_neg (show ¬ ((0:Int) ≠ 0) by simp),if_neg (show ¬ ((0:Int) ≠ 0) by simp)]
  have hf:=checkRules_formed h1
  have:=says_Rs r [] [] ⟨by simp [SySorted],fun n=>rfl,rfl⟩ fun x hx=>⟨check_formed (hf x hx).1,check_formed (hf x hx).2⟩
  rw [show r.any extra = r.any extraR from by congr 1;funext x;exact extra_eq x]
  cases ha:arRules [] r with
  | none=>rw [ha] at this;simp only at this;simp [this]
  | some m =>
   rw [ha] at this
   simp only at this
   rw [this]
   by_cases hk:(m.any fun p=>marked p.1) = true
   ·simp [mk,hk]
   ·simp [mk,hk]
 ·rw [if_pos (by simpa using h1),if_pos (by simpa using h1)]
theorem r01_CheckSystem_s (r:List ARule) (hs:rbs r < 2^38):PF n_r01_CheckSystem [encRs r] (.int .i64 (checkSystem r)):=checkSystemR_eq r ▸ r01_CheckSystem_sR r hs
end Go.Dw
end
section
namespace Go.Dw
mutual
def allM (f:AMulti→Bool):AMulti→Bool
 | .mk k n v l=>f (.mk k n v l) && allMs f l
def allMs (f:AMulti→Bool):List AMulti→Bool
 | []=>true
 | a :: l=>allM f a && allMs f l
end
theorem allMs_all (f:AMulti→Bool) (l:List AMulti):allMs f l = l.all (allM f):=by induction l with | nil=>rfl | cons a l ih=>simp [allMs,ih]
theorem allM_eq (f:AMulti→Bool) (m:AMulti):allM f m = (f m && m.args.all (allM f)):=by cases m;simp only [allM,allMs_all,AMulti.args]
theorem allM_arg {f:AMulti→Bool} {m a:AMulti} (h:allM f m = true) (ha:a∈m.args):allM f a = true:=by
 rw [allM_eq,Bool.and_eq_true] at h
 exact List.all_eq_true.1 h.2 a ha
theorem allM_self {f:AMulti→Bool} {m:AMulti} (h:allM f m = true):f m = true:=by
 rw [allM_eq,Bool.and_eq_true] at h;exact h.1
def rangedM (n:Nat) (m:AMulti):Bool:=decide (0≤m.rule) && decide (m.rule≤n)
def ruleOf (r:List ARule) (m:AMulti):ARule:=r.getD (m.rule - 1).toNat default
def formedM (r:List ARule) (m:AMulti):Bool :=
 if 0 < m.rule then decide (m.name = []) && (!m.var && decide (m.args.length = (varsOf [(ruleOf r m).left]).length))
 else if m.var then decide (m.args.length = 0) && isName m.name false
 else decide (m.args.length≤8) && isName m.name true
def checkM (r:List ARule) (m:AMulti):Int :=
 if checkSystem r ≠ 0 then checkSystem r else if allM (rangedM r.length) m = false then 8 else if allM (formedM r) m = false then 4 else if 4000 < msize m ∨ 200 < mdepth m then 3 else 0
mutual
def countM:AMulti→Nat
 | .mk k _ _ l=>(if k = 0 then 0 else 1)+countMs l
def countMs:List AMulti→Nat
 | []=>0
 | a :: l=>countM a+countMs l
end
theorem countM_eq (m:AMulti):countM m = (if m.rule = 0 then 0 else 1)+countMs m.args:=by cases m;rfl
theorem countMs_append (a b:List AMulti):countMs (a++b) = countMs a+countMs b:=by
 induction a with
 | nil=>simp [countMs]
 | cons x xs ih=>simp [countMs,ih];omega
theorem countMs_take_succ (l:List AMulti) (k:Nat) (h:k < l.length):countMs (l.take (k+1)) = countMs (l.take k)+countM (l.getD k default):=by
 rw [take_succ_getD h,countMs_append];simp [countMs]
theorem countMs_take_le (l:List AMulti) (k:Nat):countMs (l.take k)≤countMs l:=by
 conv=>rhs;rw [← List.take_append_drop k l]
 rw [countMs_append];omega
mutual
theorem countM_le:∀ m,countM m≤msize m
 | .mk k n v l=>by simp only [countM,msize];have:=countMs_le l;split <;> omega
theorem countMs_le:∀ l,countMs l≤msizes l
 | []=>Nat.le_refl _
 | a :: l=>by simp only [countMs,msizes];have:=countM_le a;have:=countMs_le l;omega
end
mutual
def sizeP:AMulti→Nat
 | .mk _ _ _ l=>sizePs 1 l
def sizePs (n:Nat):List AMulti→Nat
 | []=>n
 | a :: l=>if 4000 < n+sizeP a then n+sizeP a else sizePs (n+sizeP a) l
end
theorem sizeP_args (m:AMulti):sizeP m = sizePs 1 m.args:=by cases m;simp [sizeP,AMulti.args]
mutual
theorem sizeP_le:∀ m,sizeP m≤msize m
 | .mk _ _ _ l=>by simp only [sizeP,msize];have:=sizePs_le l 1;omega
theorem sizePs_le:∀ (l:List AMulti) (n:Nat),sizePs n l≤n+msizes l
 | [],n=>by simp [sizePs,msizes]
 | a :: l,n=>by
  simp only [sizePs,msizes]
  have h1:=sizeP_le a
  have h2:=sizePs_le l (n+sizeP a)
  split <;> omega
end
mutual
theorem sizeP_eq:∀ m,sizeP m≤4000→sizeP m = msize m
 | .mk _ _ _ l=>by simp only [sizeP,msize];exact fun h=>sizePs_eq l 1 h
theorem sizePs_eq:∀ (l:List AMulti) (n:Nat),sizePs n l≤4000→sizePs n l = n+msizes l
 | [],n=>by simp [sizePs,msizes]
 | a :: l,n=>by
  simp only [sizePs,msizes]
  intro h
  split at h
  ·omega
  ·rename_i hc
   rw [if_neg hc]
   have:=sizeP_eq a (by omega)
   rw [sizePs_eq l _ h];omega
end
theorem sizeP_gt (m:AMulti):4000 < sizeP m ↔ 4000 < msize m:=by
 constructor
 ·intro h;have:=sizeP_le m;omega
 ·intro h
  by_cases hc:sizeP m≤4000
  ·rw [sizeP_eq m hc] at hc;omega
  ·omega
mutual
def plainM:Term→AMulti
 | .mk n v l=>.mk 0 n v (plainMs l)
def plainMs:List Term→List AMulti
 | []=>[]
 | a :: l=>plainM a :: plainMs l
end
def ixS (v:Str) (l:List Str):Nat:=(idxI (fun x=>decide (v = x)) l).toNat
theorem idxI_ix {v:Str}:∀ {l:List Str},v∈l→idxI (fun x=>decide (v = x)) l = ixS v l∧ixS v l < l.length∧l.getD (ixS v l) default = v
 | [],h=>by cases h
 | x :: l,h=>by
  unfold ixS
  simp only [idxI]
  by_cases he:v = x
  ·subst he;simp
  ·have hm:v∈l:=(List.mem_cons.1 h).resolve_left he
   obtain ⟨h1,h2,h3⟩:=idxI_ix hm
   have hd:decide (v = x) = false:=by simpa using he
   simp only [hd,Bool.false_eq_true,if_false]
   rw [h1]
   have hn:¬ ((ixS v l:Nat):Int) < 0:=by omega
   have h4:(((ixS v l:Nat):Int)+1).toNat = ixS v l+1:=by omega
   simp only [hn,if_false,h4,List.length_cons]
   refine ⟨by omega,by omega,?_⟩
   simpa [List.getD_eq_getElem?_getD] using h3
mutual
def plugT (vars:List Str) (x:List Term):Term→Term
 | .mk n v l=>if v then x.getD (ixS n vars) default else .mk n false (plugTs vars x l)
def plugTs (vars:List Str) (x:List Term):List Term→List Term
 | []=>[]
 | a :: l=>plugT vars x a :: plugTs vars x l
end
theorem plugTs_map (vars:List Str) (x:List Term) (l:List Term):plugTs vars x l = l.map (plugT vars x):=by induction l with | nil=>rfl | cons a l ih=>simp [plugTs,ih]
theorem plugT_eq (vars:List Str) (x:List Term) (t:Term):plugT vars x t = if t.var then x.getD (ixS t.name vars) default else .mk t.name false (t.args.map (plugT vars x)):=by cases t;simp only [plugT,plugTs_map,Term.name,Term.var,Term.args];rfl
mutual
def sideM (r:List ARule) (f:ARule→Term):AMulti→Term
 | .mk k n v l=>if k = 0 then .mk n v (sideMs r f l) else plugT (varsOf [(r.getD (k - 1).toNat default).left]) (sideMs r f l) (f (r.getD (k - 1).toNat default))
def sideMs (r:List ARule) (f:ARule→Term):List AMulti→List Term
 | []=>[]
 | a :: l=>sideM r f a :: sideMs r f l
end
theorem sideMs_map (r:List ARule) (f:ARule→Term) (l:List AMulti):sideMs r f l = l.map (sideM r f):=by induction l with | nil=>rfl | cons a l ih=>simp [sideMs,ih]
theorem sideM_eq (r:List ARule) (f:ARule→Term) (m:AMulti):sideM r f m = if m.rule = 0 then .mk m.name m.var (m.args.map (sideM r f)) else plugT (varsOf [(ruleOf r m).left]) (m.args.map (sideM r f)) (f (ruleOf r m)):=by cases m;simp only [sideM,sideMs_map,AMulti.rule,AMulti.name,AMulti.var,AMulti.args,ruleOf];rfl
def endM (r:List ARule) (f:ARule→Term) (m:AMulti):Option Term × Int :=
 if checkM r m ≠ 0 then (none,checkM r m) else if fits (sideM r f m) then (some (sideM r f m),0) else (none,3)
structure OkM (r:List ARule) (m:AMulti):Prop where
 rg:allM (rangedM r.length) m = true
 fm:allM (formedM r) m = true
theorem OkM.arg {r:List ARule} {m a:AMulti} (h:OkM r m) (ha:a∈m.args):OkM r a:=⟨allM_arg h.rg ha,allM_arg h.fm ha⟩
theorem checkM_ok {r:List ARule} {m:AMulti} (h:checkM r m = 0):checkSystem r = 0∧OkM r m∧msize m≤4000∧mdepth m≤200:=by
 unfold checkM at h
 split at h
 ·rename_i hc;exact absurd h hc
 ·rename_i h1
  split at h
  ·cases h
  ·rename_i h2
   split at h
   ·cases h
   ·rename_i h3
    split at h
    ·cases h
    ·exact ⟨Classical.not_not.1 h1,⟨by simpa using h2,by simpa using h3⟩,by omega,by omega⟩
theorem OkM.rule {r:List ARule} {m:AMulti} (h:OkM r m) (hr:m.rule ≠ 0):0 < m.rule∧m.rule≤r.length∧ruleOf r m∈r∧m.args.length = (varsOf [(ruleOf r m).left]).length∧m.name = []∧m.var = false:=by
 have h1:=allM_self h.rg
 have h2:=allM_self h.fm
 unfold rangedM at h1
 rw [Bool.and_eq_true,decide_eq_true_eq,decide_eq_true_eq] at h1
 unfold formedM at h2
 rw [if_pos (by omega),Bool.and_eq_true,Bool.and_eq_true,decide_eq_true_eq,decide_eq_true_eq] at h2
 exact ⟨by omega,h1.2,getD_mem (by omega),h2.2.2,h2.1,by simpa using h2.2.1⟩
end Go.Dw
end
section
namespace Go.Dw
theorem slices_IndexFunc_s_Multi_Multi_s {p:AMulti→Bool} {g:Nat} {caps:List V} (hc:∀ σ,rens σ caps = caps) (l:List AMulti) (hl:l.length < 2^62) (h:∀ a∈l,PF g (encM a :: caps) (.bool (p a))) :
  PF n_slices_IndexFunc_s_Multi_Multi [encL cM 4 l,.fn (.func g) [] caps] (.int .i64 (idxI p l)):=by
 refine pf_of slices_IndexFunc_s_Multi_Multi.ok rfl ?_
 push_cast [hc]
 refine loop_up (n:=l.length) (R:=fun k=>(∀ j,j < k→p (l.getD j default) = false)→slices_IndexFunc_s_Multi_Multi.L3 (encL cM 4 l) (.fn (.func g) [] caps) (.int .i64 l.length) (.int .i64 k) 0 [] _) ?_ ?_ 0 (by omega) (by intro j hj;omega)
 ·intro k hk ih hq
  refine slices_IndexFunc_s_Multi_Multi.G3 ?_
  push_cast [ilt hk,cU8_0,cS_0,hc]
  refine .of (h _ (getD_mem hk)) ?_
  push_cast [w64 (show k < 2^62 by omega),hc]
  refine ⟨fun hp=>pf_ret ?_,fun hp=>?_⟩
  ·push_cast [slices_IndexFunc_s_Multi_Multi.rs]
   rw [idxI_some hk hp hq]
  ·exact ih fun j hj=>by rcases Nat.lt_succ_iff_lt_or_eq.1 hj with h | rfl;exact hq j h;exact hp
 ·intro hq
  refine slices_IndexFunc_s_Multi_Multi.G3 ?_
  push_cast [inlt (Nat.le_refl _)]
  refine pf_ret ?_
  push_cast [slices_IndexFunc_s_Multi_Multi.rs]
  rw [idxI_none hq]
theorem slices_ContainsFunc_s_Multi_Multi_s {p:AMulti→Bool} {g:Nat} {caps:List V} (hc:∀ σ,rens σ caps = caps) (l:List AMulti) (hl:l.length < 2^62) (h:∀ a∈l,PF g (encM a :: caps) (.bool (p a))) :
  PF n_slices_ContainsFunc_s_Multi_Multi [encL cM 4 l,.fn (.func g) [] caps] (.bool (l.any p)):=by
 refine pf_of slices_ContainsFunc_s_Multi_Multi.ok rfl ?_
 push_cast [hc]
 refine .of (slices_IndexFunc_s_Multi_Multi_s hc l hl h) ?_
 push_cast [hc]
 refine pf_ret ?_
 push_cast [slices_ContainsFunc_s_Multi_Multi.rs,idxI_any]
end Go.Dw
end
section
namespace Go.Dw
theorem put3_cM (m:AMulti) (v:V):put 3 [v] (cM m) = [.int .i64 m.rule,.str m.name,.bool m.var,v]:=by rw [cM_eq];rfl
attribute [push_cast] put3_cM
theorem multi_size_s (m:AMulti) (hs:msize m < 2^40):PF n_multi_size [encM m] (.int .i64 (sizeP m)):=by
 induction m using multi_ind with
 | h m ih =>
 refine pf_of multi_size.ok rfl ?_
 have hst:=msize_args m
 have hl:=length_le_msizes m.args
 rw [sizeP_args]
 push_cast
 refine loop_up (n:=m.args.length) (R:=fun k=>∀ v:Nat,sizePs v (m.args.drop k) = sizePs 1 m.args→v≤1+msizes (m.args.take k)→multi_size.L3 (.int .i64 v) (encMs m.args) (.int .i64 m.args.length) (.int .i64 k) 0 [] (Ends 0 multi_size.rs fun x' H'=>x' = .int .i64 (sizePs 1 m.args)∧H' = [])) ?_ ?_ 0 (Nat.zero_le _) 1 (by simp) (by omega)
 ·intro k hk ih2 v hv hb
  have h1:=msizes_take_succ _ _ hk
  have h2:=msizes_take_le m.args (k+1)
  have hm:=getD_mem hk
  have hsp:=sizeP_le (m.args.getD k default)
  have hih:=ih _ hm (by omega)
  rw [drop_getD hk] at hv
  simp only [sizePs] at hv
  generalize hx:m.args.getD k default = a at hm hv h1 hsp hih
  refine multi_size.G3 ?_
  push_cast [ilt hk,hx]
  refine .of hih ?_
  have hw:IntKind.i64.wrap ((v:Int)+(sizeP a:Int)) = ((v+sizeP a:Nat):Int):=by rw [wrap64 (by omega) (by omega)];omega
  by_cases hc:4000 < v+sizeP a
  ·rw [if_pos hc] at hv
   have hci:((4000:Int) < ((v+sizeP a:Nat):Int)) = True:=eq_true (by omega)
   rw [hv] at hw hci
   generalize sizePs 1 m.args = w at hw hci
   push_cast [hw,hci]
   exact pf_ret (by push_cast [multi_size.rs])
  ·rw [if_neg hc] at hv
   have hci:((4000:Int) < ((v+sizeP a:Nat):Int)) = False:=eq_false (by omega)
   have:=ih2 (v+sizeP a) hv (by omega)
   generalize v+sizeP a = w at hw hci this
   push_cast [hw,hci,w64 (show k < 2^62 by omega)]
   exact this
 ·intro v hv hb
  rw [drop_map_none] at hv
  refine multi_size.G3 ?_
  push_cast [inlt (Nat.le_refl _)]
  refine pf_ret ?_
  push_cast [multi_size.rs,← hv]
  rfl
theorem multi_depth_s (m:AMulti) (hs:msize m < 2^40):PF n_multi_depth [encM m] (.int .i64 (mdepth m)):=by
 induction m using multi_ind with
 | h m ih =>
 refine pf_of multi_depth.ok rfl ?_
 have hst:=msize_args m
 have hl:=length_le_msizes m.args
 have hd:=mdepths_le_msizes m.args
 push_cast
 refine loop_up (n:=m.args.length) (R:=fun k=>multi_depth.L3 (.int .i64 (mdepths (m.args.take k):Nat)) (encMs m.args) (.int .i64 m.args.length) (.int .i64 k) 0 [] _) ?_ ?_ 0 (by omega)
 ·intro k hk ih2
  have h1:=mdepths_take_succ _ _ hk
  have hm:=getD_mem hk
  have:=msize_mem hm
  refine multi_depth.G3 ?_
  push_cast [ilt hk]
  refine .of (ih _ hm (by omega)) ?_
  push_cast [w64 (show k < 2^62 by omega)]
  rw [h1] at ih2
  exact ih2
 ·refine multi_depth.G3 ?_
  push_cast [inlt (Nat.le_refl _),List.take_length]
  rw [wrap64 (by omega) (by omega)]
  refine pf_ret ?_
  push_cast [multi_depth.rs,List.take_length,mdepth_args m]
theorem multi_Count_s (m:AMulti) (hs:msize m < 2^40):PF n_multi_Count [encM m] (.int .i64 (countM m)):=by
 induction m using multi_ind with
 | h m ih =>
 refine pf_of multi_Count.ok rfl ?_
 have hst:=msize_args m
 have hl:=length_le_msizes m.args
 have hcl:=countMs_le m.args
 rw [countM_eq]
 generalize hc:(if m.rule = 0 then 0 else 1:Nat) = c
 have hc1:c≤1:=by subst hc;split <;> omega
 have h0:=loop_up (n:=m.args.length) (R:=fun k=>multi_Count.L3 (.int .i64 ((c+countMs (m.args.take k):Nat):Int)) (encMs m.args) (.int .i64 m.args.length) (.int .i64 k) 0 [] (Ends 0 multi_Count.rs fun x' H'=>x' = .int .i64 ((c+countMs m.args:Nat):Int)∧H' = [])) ?_ ?_ 0 (by omega)
 ·simp only [List.take_zero,countMs,Nat.add_zero] at h0
  by_cases hr:m.rule = 0
  ·rw [if_pos hr] at hc
   subst hc
   push_cast [hr]
   push_cast at h0
   exact h0
  ·rw [if_neg hr] at hc
   subst hc
   push_cast [eq_false hr]
   push_cast at h0
   exact h0
 ·intro k hk ih2
  have h1:=countMs_take_succ _ _ hk
  have h2:=countMs_take_le m.args (k+1)
  have hm:=getD_mem hk
  have:=msize_mem hm
  refine multi_Count.G3 ?_
  push_cast [ilt hk]
  refine .of (ih _ hm (by omega)) ?_
  push_cast [w64 (show k < 2^62 by omega)]
  rw [wrap64 (by omega) (by omega)]
  rw [h1] at ih2
  push_cast at ih2
  simpa [Int.add_assoc] using ih2
 ·refine multi_Count.G3 ?_
  push_cast [inlt (Nat.le_refl _),List.take_length]
  exact pf_ret (by push_cast [multi_Count.rs])
def fitM (m:AMulti):Bool:=decide (msize m≤4000) && decide (mdepth m≤200)
theorem multi_all_s {p q:AMulti→Bool} {g:Nat} {caps:List V} {B:Nat} (hc:∀ σ,rens σ caps = caps) (h:∀ a,q a = true→mb a≤B→PF g (encM a :: caps) (.bool (p a))) (hB:B < 2^40) (m:AMulti) (hq:allM q m = true) (hm:mb m≤B) :
  PF n_multi_all [encM m,.fn (.func g) [] caps] (.bool (allM p m)):=by
 induction m using multi_ind with
 | h m ih =>
 have hmb:=mb_args m
 have hsz:=msize_le_mb m
 have hst:=msize_args m
 have hl:=length_le_msizes m.args
 have hC:=slices_ContainsFunc_s_Multi_Multi_s (p:=fun a=>!allM p a) (g:=n_multi_all_1) (caps:=[.ro [.fn (.func g) [] caps] 0]) (fun σ=>by push_cast) m.args (by omega) fun a ha=>by
  refine pf_of multi_all_1.ok rfl ?_
  push_cast [hc]
  refine .of (ih a ha (allM_arg hq ha) (by have:=mb_mem ha;omega)) ?_
  push_cast
  exact pf_ret (by push_cast [multi_all_1.rs])
 refine pf_of multi_all.ok rfl ?_
 rw [allM_eq]
 push_cast [hc]
 refine .of (h m (allM_self hq) hm) ?_
 cases hp:p m with
 | false =>
  push_cast [hc]
  exact pf_ret (by push_cast [multi_all.rs])
 | true =>
  push_cast [hc]
  refine .of hC ?_
  push_cast [hc]
  exact pf_ret (by push_cast [multi_all.rs,any_not])
end Go.Dw
end
section
namespace Go.Dw
theorem multi_formed_s (r:List ARule) (m:AMulti) (hr:rbs r < 2^38) (hq:rangedM r.length m = true) (hm:mb m < 2^40):PF n_multi_formed [encRs r,encM m] (.bool (formedM r m)):=by
 have hmb:=mb_args m
 have hsz:=msize_le_mb m
 have hst:=msize_args m
 have hl:=length_le_msizes m.args
 have hI:∀ b,PF n_term_IsName [.str m.name,.bool b] (.bool (isName m.name b)):=fun b=>term_IsName_s _ b (by omega)
 unfold rangedM at hq
 rw [Bool.and_eq_true,decide_eq_true_eq,decide_eq_true_eq] at hq
 refine pf_of multi_formed.ok rfl ?_
 unfold formedM
 by_cases h1:0 < m.rule
 ·have hm1:r.getD (m.rule - 1).toNat default∈r:=getD_mem (by omega)
  have hrm:=rbs_mem hm1
  have hst:=size_le_tb (ruleOf r m).left
  have hru:r.getD (m.rule - 1).toNat default = ruleOf r m:=rfl
  have hw:IntKind.i64.wrap (m.rule - 1) = m.rule - 1:=wrap64 (by have:=length_le_rbs r;omega) (by have:=length_le_rbs r;omega)
  have hc1:((0:Int)≤m.rule - 1) = True:=eq_true (by omega)
  have hc2:(m.rule - 1 < (r.length:Int)) = True:=eq_true (by omega)
  rw [hru] at hrm
  have hV:=term_VarsOf_s [(ruleOf r m).left] (by simp [sizes];omega)
  rw [if_pos h1]
  by_cases h2:m.name = []
  ·cases h3:m.var with
   | true =>
    push_cast [eq_true h1,h2,h3]
    exact pf_ret (by push_cast [multi_formed.rs])
   | false =>
    push_cast [eq_true h1,h2,h3,hw,hc1,hc2,hru]
    refine .of hV ?_
    push_cast
    exact pf_ret (by push_cast [multi_formed.rs];exact decide_eq_decide.2 (by omega))
  ·push_cast [eq_true h1,eq_false h2]
   exact pf_ret (by push_cast [multi_formed.rs])
 ·rw [if_neg h1]
  cases hv:m.var with
  | true =>
   rw [if_pos rfl]
   by_cases h0:m.args.length = 0
   ·push_cast [eq_false h1,hv,h0]
    refine .of (hI false) ?_
    push_cast
    exact pf_ret (by push_cast [multi_formed.rs])
   ·have hi:((m.args.length:Int) = 0) = False:=eq_false (by omega)
    push_cast [eq_false h1,hv,hi]
    exact pf_ret (by push_cast [multi_formed.rs,h0])
  | false =>
   rw [if_neg (by simp)]
   by_cases h0:m.args.length≤8
   ·have hi:((m.args.length:Int)≤8) = True:=eq_true (by omega)
    push_cast [eq_false h1,hv,hi]
    refine .of (hI true) ?_
    push_cast
    exact pf_ret (by push_cast [multi_formed.rs,h0])
   ·have hi:((m.args.length:Int)≤8) = False:=eq_false (by omega)
    push_cast [eq_false h1,hv,hi]
    exact pf_ret (by push_cast [multi_formed.rs,h0])
theorem allM_true (m:AMulti):allM (fun _=>true) m = true:=by
 induction m using multi_ind with
 | h m ih=>rw [allM_eq,Bool.true_and,List.all_eq_true];exact ih
theorem Check_1_s (r:List ARule) (a:AMulti):PF n_multi_Check_1 [encM a,.ro [encRs r] 0] (.bool (rangedM r.length a)):=by
 refine pf_of multi_Check_1.ok rfl ?_
 unfold rangedM
 by_cases h:0≤a.rule
 ·push_cast [eq_true h]
  exact pf_ret (by push_cast [multi_Check_1.rs])
 ·push_cast [eq_false h]
  exact pf_ret (by push_cast [multi_Check_1.rs])
theorem Check_2_s (r:List ARule) (a:AMulti) (hr:rbs r < 2^38) (hq:rangedM r.length a = true) (hm:mb a < 2^40):PF n_multi_Check_2 [encM a,.ro [encRs r] 0] (.bool (formedM r a)):=by
 refine pf_of multi_Check_2.ok rfl ?_
 push_cast
 refine .of (multi_formed_s r a hr hq hm) ?_
 push_cast
 exact pf_ret (by push_cast [multi_Check_2.rs])
theorem multi_Check_s (r:List ARule) (m:AMulti) (hr:rbs r < 2^38) (hm:mb m < 2^39):PF n_multi_Check [encRs r,encM m] (.int .i64 (checkM r m)):=by
 have hsz:=msize_le_mb m
 have hsp:=sizeP_gt m
 refine pf_of multi_Check.ok rfl ?_
 push_cast
 refine .of (term_CheckSystem_t r hr) ?_
 generalize hT:checkM r m = T
 unfold checkM at hT
 by_cases h1:¬ checkSystem r = 0
 ·rw [if_pos h1] at hT
  subst hT
  push_cast [eq_false h1]
  exact pf_ret (by push_cast [multi_Check.rs])
 have h1:checkSystem r = 0:=Classical.not_not.1 h1
 rw [if_neg (by simpa using h1)] at hT
 push_cast [h1]
 refine .of (multi_all_s (p:=rangedM r.length) (q:=fun _=>true) (B:=2^39) (caps:=[.ro [encRs r] 0]) (fun σ=>by push_cast) (fun a _ _=>Check_1_s r a) (by omega) m (allM_true m) (by omega)) ?_
 cases h2:allM (rangedM r.length) m with
 | false =>
  rw [h2,if_pos rfl] at hT
  subst hT
  push_cast
  exact pf_ret (by push_cast [multi_Check.rs])
 | true =>
 rw [h2,if_neg (by simp)] at hT
 push_cast
 refine .of (multi_all_s (p:=formedM r) (q:=rangedM r.length) (B:=2^39) (caps:=[.ro [encRs r] 0]) (fun σ=>by push_cast) (fun a hq hb=>Check_2_s r a hr hq (by omega)) (by omega) m h2 (by omega)) ?_
 cases h3:allM (formedM r) m with
 | false =>
  rw [h3,if_pos rfl] at hT
  subst hT
  push_cast
  exact pf_ret (by push_cast [multi_Check.rs])
 | true =>
 rw [h3,if_neg (by simp)] at hT
 push_cast
 refine .of (multi_size_s m (by omega)) ?_
 by_cases h4:4000 < sizeP m
 ·have hi:((4000:Int) < (sizeP m:Int)) = True:=eq_true (by omega)
  rw [if_pos (by omega)] at hT
  subst hT
  push_cast [hi]
  exact pf_ret (by push_cast [multi_Check.rs])
 ·have hi:((4000:Int) < (sizeP m:Int)) = False:=eq_false (by omega)
  push_cast [hi]
  refine .of (multi_depth_s m (by omega)) ?_
  by_cases h5:200 < mdepth m
  ·have hj:((200:Int) < (mdepth m:Int)) = True:=eq_true (by omega)
   rw [if_pos (by omega)] at hT
   subst hT
   push_cast [hj]
   exact pf_ret (by push_cast [multi_Check.rs])
  ·have hj:((200:Int) < (mdepth m:Int)) = False:=eq_false (by omega)
   rw [if_neg (by omega)] at hT
   subst hT
   push_cast [hj]
   exact pf_ret (by push_cast [multi_Check.rs])
end Go.Dw
end
section
namespace Go.Dw
theorem r01_Image_s (s:List ABind) (v:Str) (hl:s.length < 2^62):PF n_r01_Image [encBs s,.str v] (encT ((image s v).getD (.mk v true []))):=by
 refine pf_of r01_Image.ok rfl ?_
 push_cast
 refine loop_up (n:=s.length) (R:=fun k=>image (s.drop k) v = image s v→r01_Image.L3 (.str v) (.ptr 0 0) (encBs s) (.int .i64 s.length) (.int .i64 k) 0 [.cells t_Term [.str [],.bool false,.sl 3 []]] _) ?_ ?_ 0 (by omega) rfl
 ·intro k hk ih hq
  rw [drop_getD hk] at hq
  simp only [image] at hq
  generalize hgi:s.getD k default = b at hq
  refine r01_Image.G3 ?_
  by_cases h:b.name = v
  ·rw [if_pos h] at hq
   push_cast [ilt hk,hgi,h]
   refine pf_ret ?_
   push_cast [r01_Image.rs,← hq]
   rfl
  ·rw [if_neg h] at hq
   push_cast [ilt hk,hgi,h,w64 (show k < 2^62 by omega)]
   exact ih hq
 ·intro hq
  rw [drop_map_none] at hq
  refine r01_Image.G3 ?_
  push_cast [inlt (Nat.le_refl _)]
  refine pf_ret ?_
  push_cast [r01_Image.rs,← hq]
  rfl
theorem r01_Apply_s (s:List ABind) (hl:s.length < 2^62) (t:Term) (ht:size t < 2^40):PF n_r01_Apply [encBs s,encT t] (encT (inst s t)):=by
 induction t using term_ind with
 | h t ih =>
 have hst:=size_args t
 have hll:=length_le_sizes t.args
 refine pf_of r01_Apply.ok rfl ?_
 rw [inst_eq]
 cases hv:t.var with
 | true =>
  push_cast [hv]
  refine .of (r01_Image_s s t.name hl) ?_
  push_cast
  exact pf_ret (by push_cast [r01_Apply.rs])
 | false =>
  push_cast [hv]
  refine loop_up (n:=t.args.length) (R:=fun k=>r01_Apply.L3 (encBs s) (.ptr 0 0) (.ptr 1 0) (encTs t.args) (.int .i64 t.args.length) (.int .i64 k) 0 [.cells t_Term [.str [],.bool false,.sl 3 []],.cells t_Term [.str t.name,.bool false,ownL cT 2 3 ((t.args.take k).map (inst s))],.arr t_Term 3 k] _) ?_ ?_ 0 (by omega)
  ·intro k hk ih2
   have hm:=getD_mem hk
   have hm2:=size_mem hm
   have hlen:((t.args.take k).map (inst s)).length = k:=by simp;omega
   rw [take_succ_getD hk,List.map_append,List.map_singleton] at ih2
   refine r01_Apply.G3 ?_
   push_cast [ilt hk]
   refine .of (ih _ hm (by omega)) ?_
   push_cast [hlen,w64 (show k < 2^62 by omega)]
   exact ⟨Nat.le_trans (Nat.mul_le_mul_right 48 (show _≤2^41 by omega)) (by unfold maxEls;decide),ih2⟩
  ·refine r01_Apply.G3 ?_
   push_cast [inlt (Nat.le_refl _)]
   refine pf_ret ?_
   push_cast [r01_Apply.rs,List.take_length]
   unfold encT
   rw [cT_eq];rfl
end Go.Dw
end
section
namespace Go.Dw
mutual
def cmpT:Term→Term→Int
 | .mk n v l,t=>if v ≠ t.var then (if v then -1 else 1) else if cmpS n t.name ≠ 0 then cmpS n t.name else if cmpI l.length t.args.length ≠ 0 then cmpI l.length t.args.length else cmpTs l t.args
def cmpTs:List Term→List Term→Int
 | [],_=>0
 | _ :: _,[]=>0
 | a :: l,b :: m=>if cmpT a b ≠ 0 then cmpT a b else cmpTs l m
end
theorem cmpT_eq (a t:Term):cmpT a t = if a.var ≠ t.var then (if a.var then -1 else 1) else if cmpS a.name t.name ≠ 0 then cmpS a.name t.name else if cmpI a.args.length t.args.length ≠ 0 then cmpI a.args.length t.args.length else cmpTs a.args t.args:=by
 cases a;simp only [cmpT];rfl
theorem cmpI_zero {a b:Int}:cmpI a b = 0 ↔ a = b:=by unfold cmpI;split <;> (try split) <;> omega
theorem cmpTs_zero:∀ (l m:List Term),l.length = m.length→(∀ a∈l,∀ b,cmpT a b = 0 ↔ a = b)→(cmpTs l m = 0 ↔ l = m)
 | [],[],_,_=>by simp [cmpTs]
 | [],_ :: _,h,_=>by simp at h
 | _ :: _,[],h,_=>by simp at h
 | a :: l,b :: m,h,hc=>by
  have ih:=cmpTs_zero l m (by simpa using h) fun x hx=>hc x (by simp [hx])
  have h1:=hc a (by simp) b
  simp only [cmpTs]
  by_cases he:a = b
  ·rw [if_neg (by simpa using h1.2 he),ih]
   simp [he]
  ·have:¬ cmpT a b = 0:=fun e=>he (h1.1 e)
   rw [if_pos this]
   simp [this,he]
theorem cmpT_zero (a:Term):∀ b,cmpT a b = 0 ↔ a = b:=by
 induction a using term_ind with
 | h a ih =>
 intro b
 rw [cmpT_eq,term_eq_iff]
 by_cases h1:a.var = b.var
 ·rw [if_neg (by simpa using h1)]
  by_cases h2:a.name = b.name
  ·rw [if_neg (by simpa using cmpS_zero.2 h2)]
   by_cases h3:a.args.length = b.args.length
   ·rw [if_neg (by simpa using cmpI_zero.2 (by omega)),cmpTs_zero _ _ h3 ih]
    simp [h1,h2]
   ·have:¬ cmpI a.args.length b.args.length = 0:=fun e=>h3 (by have:=cmpI_zero.1 e;omega)
    rw [if_pos this]
    simp only [this,false_iff,not_and]
    intro _ _ e;exact h3 (by rw [e])
  ·have:¬ cmpS a.name b.name = 0:=fun e=>h2 (cmpS_zero.1 e)
   rw [if_pos this]
   simp [this,h2]
 ·rw [if_pos h1]
  simp only [h1,false_and,and_false,iff_false]
  split <;> decide
theorem r01_Compare_s (a:Term):∀ b,tb a < 2^62→tb b < 2^62→PF n_r01_Compare [encT a,encT b] (.int .i64 (cmpT a b)):=by
 induction a using term_ind with
 | h a ih =>
 intro b ha hb
 have ha2:=tb_args a
 have hb2:=tb_args b
 have hla:=length_le_tbs a.args
 rw [cmpT_eq]
 refine pf_of r01_Compare.ok rfl ?_
 by_cases h1:a.var = b.var
 ·rw [if_neg (by simpa using h1)]
  push_cast [h1,show ∀ x y:Bool,(x != y) = !decide (x = y) from fun x y=>by cases x <;> cases y <;> rfl]
  refine .of (r01_CompareNames_s _ _ (by omega) (by omega)) ?_
  by_cases h2:cmpS a.name b.name = 0
  ·rw [if_neg (by simpa using h2)]
   push_cast [h2]
   refine .of (r01_CompareInts_s _ _) ?_
   by_cases h3:cmpI a.args.length b.args.length = 0
   ·have hll:a.args.length = b.args.length:=by have:=cmpI_zero.1 h3;omega
    rw [if_neg (by simpa using h3)]
    push_cast [h3]
    refine loop_up (n:=a.args.length) (R:=fun k=>cmpTs (a.args.drop k) (b.args.drop k) = cmpTs a.args b.args→r01_Compare.L3 (.ro (cT a) 0) (.ro (cT b) 0) (.int .i64 a.args.length) (.int .i64 k) 0 [] _) ?_ ?_ 0 (by omega) rfl
    ·intro k hk ih2 hq
     have hkb:k < b.args.length:=by omega
     rw [drop_getD hk,drop_getD hkb] at hq
     simp only [cmpTs] at hq
     have hm:=getD_mem hk
     have hmb:=getD_mem hkb
     refine r01_Compare.G3 ?_
     push_cast [ilt hk,ilt hkb]
     refine .of (ih _ hm _ (by have:=tb_mem hm;omega) (by have:=tb_mem hmb;omega)) ?_
     push_cast [w64 (show k < 2^62 by omega)]
     refine ⟨fun h=>pf_ret ?_,fun h=>ih2 ?_⟩
     ·push_cast [r01_Compare.rs]
      rw [← hq,if_pos (by simpa using h)]
     ·rw [← hq,if_neg (by simpa using h)]
    ·intro hq
     refine r01_Compare.G3 ?_
     push_cast [inlt (Nat.le_refl _)]
     refine pf_ret ?_
     push_cast [r01_Compare.rs]
     rw [← hq,drop_map_none];rfl
   ·rw [if_pos h3]
    push_cast [h3]
    exact pf_ret (by push_cast [r01_Compare.rs])
  ·rw [if_pos h2]
   push_cast [h2]
   exact pf_ret (by push_cast [r01_Compare.rs])
 ·rw [if_pos h1]
  have e:∀ x y:Bool,(x != y) = !decide (x = y):=fun x y=>by cases x <;> cases y <;> rfl
  cases hv:a.var <;> cases hv2:b.var
  ·exact absurd (hv.trans hv2.symm) h1
  ·push_cast [hv,hv2,e]
   exact pf_ret (by push_cast [r01_Compare.rs])
  ·push_cast [hv,hv2,e]
   exact pf_ret (by push_cast [r01_Compare.rs])
  ·exact absurd (hv.trans hv2.symm) h1
theorem r01_Equal_s (a b:Term) (ha:tb a < 2^62) (hb:tb b < 2^62):PF n_r01_Equal [encT a,encT b] (.bool (decide (a = b))):=by
 refine pf_of r01_Equal.ok rfl ?_
 push_cast
 refine .of (r01_Compare_s a b ha hb) ?_
 push_cast
 refine pf_ret ?_
 push_cast [r01_Equal.rs,cmpT_zero]
end Go.Dw
end
section
namespace Go.Dw
theorem depth_mem {l:List Term} {a:Term} (h:a∈l):depth a≤depths l:=by
 induction l with
 | nil=>cases h
 | cons x xs ih=>rcases List.mem_cons.1 h with rfl | h <;> simp only [depths];omega;have:=ih h;omega
end Go.Dw
end
section
namespace Go.Dw
mutual
theorem visit_sub:∀ (t:Term) (p:List Int),∀ x∈visit t p,size x.2≤size t∧x.1.length≤p.length+size t
 | .mk n v l,p,x,hx=>by
  rw [visit_eq] at hx
  rcases List.mem_cons.1 hx with rfl | hx
  ·exact ⟨Nat.le_refl _,Nat.le_add_right _ _⟩
  ·have:=visits_sub l p 0 x hx
   simp only [size]
   omega
theorem visits_sub:∀ (l:List Term) (p:List Int) (i:Nat),∀ x∈visits l p i,size x.2≤sizes l∧x.1.length≤p.length+1+sizes l
 | [],p,i,x,hx=>by simp [visits] at hx
 | a :: l,p,i,x,hx=>by
  simp only [visits,List.mem_append] at hx
  simp only [sizes]
  rcases hx with hx | hx
  ·have:=visit_sub a _ x hx
   simp only [List.length_append,List.length_singleton] at this
   omega
  ·have:=visits_sub l _ _ x hx;omega
end
end Go.Dw
end
section
namespace Go.Dw
theorem rens_cTs {σ:Nat→Option Nat} {l:List Term}:(l.map cT).map (rens σ) = l.map cT:=by rw [List.map_map];rfl
end Go.Dw
end
section
namespace Go.Dw
namespace idxEdge
end idxEdge
theorem rens_cSts {σ:Nat→Option Nat} {l:List AStep}:(l.map cSt).map (rens σ) = l.map cSt:=by rw [List.map_map];rfl
attribute [push_cast] rens_cSts
end Go.Dw
end
section
namespace Go.Dw
theorem own_pos {i:Nat} {l:List (List Int)} {p:List Int}:(.own i 1 (l.map cPp++[[encP p]]):V) = ownL cPp i 1 (l++[p]):=by simp [ownL,cPp]
end Go.Dw
end
section
namespace Go.Dw
theorem clone_int_p (p:List Int) (hp:p.length < 2^40):PF n_slices_Clone_s_int_int [encP p] (encP p):=by
 refine pf_of slices_Clone_s_int_int.ok rfl ?_
 push_cast
 intro c hc
 refine ⟨fun h=>?_,fun h=>⟨by rw [List.length_map];unfold maxEls;omega,?_⟩⟩
 ·have hp0:p = []:=by simpa using hc (by cases c <;> simp_all)
  subst hp0
  exact pf_ret (by push_cast [slices_Clone_s_int_int.rs];rfl)
 ·exact pf_ret (by push_cast [slices_Clone_s_int_int.rs];rfl)
end Go.Dw
end
section
namespace Go.Dw
def isV (v:Str) (x:List Int × Term):Bool:=x.2.var && decide (x.2.name = v)
def occW (v:Str) (l:List (List Int × Term)):List (List Int):=(l.filter (isV v)).map Prod.fst
def occM (t:Term) (v:Str):List (List Int):=occW v (visit t [])
theorem occW_snoc (v:Str) (l:List (List Int × Term)) (x:List Int × Term):occW v (l++[x]) = if isV v x then occW v l++[x.1] else occW v l:=by
 unfold occW
 rw [List.filter_append,List.map_append]
 cases h:isV v x <;> simp [h]
theorem occW_len (v:Str) (l:List (List Int × Term)):(occW v l).length≤l.length:=by
 unfold occW;rw [List.length_map];exact List.length_filter_le _ _
theorem multi_occurrences_s (t:Term) (v:Str) (hs:size t < 2^38):PF n_multi_occurrences [encT t,.str v] (encPs (occM t v)):=by
 refine pf_of multi_occurrences.ok rfl ?_
 push_cast
 refine .of (term_Walk_s _) ?_
 push_cast
 have hlen:=visit_len t []
 have hss:=visit_sub t []
 refine Run.rf n_term_Walk_1 [] [.ro (cT t) 0] ((visit t []).map encIt) (fun j H1=>H1 = [.cells t_s_s_int [ownL cPp 1 1 (occW v ((visit t []).take j))],.arr t_s_int 1 (occW v ((visit t []).take j)).length]) (fun _ _=>False) rfl (term_Walk_iter t (by omega)) ?_ rfl ?_ ?_ (fun _ _ h=>h.elim) ?_ ?_ (fun _ _ h=>h.elim)
 ·intro it hit
  obtain ⟨x,_,rfl⟩:=List.mem_map.1 hit
  rfl
 ·push_cast
 ·rintro j H1 rfl
  refine ⟨rfl,?_⟩
  push_cast
 ·rintro lo r j it H1 hit rfl
  rw [List.getElem?_map] at hit
  cases hx:(visit t [])[j]? with
  | none=>rw [hx] at hit;cases hit
  | some x =>
  rw [hx] at hit
  have hit:it = encIt x:=by simpa using hit.symm
  subst hit
  have hj:j < (visit t []).length:=(List.getElem?_eq_some_iff.1 hx).1
  have hxj:(visit t [])[j] = x:=(List.getElem?_eq_some_iff.1 hx).2
  have htk:(visit t []).take (j+1) = (visit t []).take j++[x]:=by rw [List.take_succ_eq_append_getElem hj,hxj]
  have hxl:=(hss x (List.mem_of_getElem? hx)).2
  have hol:=occW_len v ((visit t []).take j)
  rw [List.length_take] at hol
  have hsn:=occW_snoc v ((visit t []).take j) x
  rw [← htk] at hsn
  push_cast [setPs,encIt]
  refine run_m.2 ?_
  cases hv:x.2.var with
  | false =>
   have hvs:occW v ((visit t []).take (j+1)) = occW v ((visit t []).take j):=by rw [hsn];simp [isV,hv]
   push_cast [hv]
   refine ⟨rfl,?_⟩
   push_cast [cut,hvs]
  | true =>
   by_cases hn:x.2.name = v
   ·have hvs:occW v ((visit t []).take (j+1)) = occW v ((visit t []).take j)++[x.1]:=by rw [hsn];simp [isV,hv,hn]
    push_cast [hv,hn]
    refine .of (clone_int_p x.1 (by simp at hxl;omega)) ?_
    push_cast
    refine ⟨by unfold maxEls;omega,?_⟩
    rw [own_pos]
    refine ⟨rfl,?_⟩
    push_cast [cut,hvs,List.length_append]
   ·have hvs:occW v ((visit t []).take (j+1)) = occW v ((visit t []).take j):=by rw [hsn];simp [isV,hv,hn]
    push_cast [hv,eq_false hn]
    refine ⟨rfl,?_⟩
    push_cast [cut,hvs]
 ·rintro H1 rfl
  have:(visit t []).take ((visit t []).map encIt).length = visit t []:=by rw [List.length_map,List.take_length]
  rw [this]
  push_cast
  exact pf_ret (by push_cast [multi_occurrences.rs];rfl)
end Go.Dw
end
section
namespace Go.Dw
namespace idxTm
def nd:Nat→C
 | 0=>.seq (.reg [.mv 4 (.i (-1))]) (.ret)
 | 1=>.gh [.ks 0 [0,1,7,8]] (.m 3)
 | 2=>.seq (.blk 1 (.seq (.reg [.mv 10 (.s 8),.mv 5 (.s 10)]) (.seq (.reg [.mv 11 (.s 1),.mv 12 (.s 0),.mv 13 (.s 5),.ia 14 3 (.s 12) (.s 13),.la 15 3 (.s 14),.callv (some 16) (.s 11) [.s 15]]) (.cond (.s 16) (.seq (.reg [.mv 17 (.s 5),.mv 4 (.s 17)]) (.ret)) (.skip))))) (.reg [.bin 18 .add (.s 8) (.i 1),.mv 8 (.s 18)])
 | 3=>.seq (.reg [.bin 9 .lss (.s 8) (.s 7)]) (.seq (.cond (.s 9) (.skip) (.exit 0)) (.n 2))
 | _=>.skip
def body:C:=.seq (.reg [.mv 4 (.i 0)]) (.seq (.seq (.reg [.mv 6 (.s 0),.len 7 (.s 6),.mv 8 (.i 0)]) (.blk 0 (.loop (.n 1)))) (.n 0))
def rs:List RV:=[.t 4]
attribute [push_cast] nd body
theorem ok:okF prog n_slices_IndexFunc_s_Term_Term nd body 2 rs = true:=by kernel_rfl
abbrev L3 (v0 v1 v7 v8:V) (B:Nat) (H:List Ob) (Q:X→T→List Ob→Prop):Prop:=Run prog nd B [.c (.m 3),.c (.loop (.n 1)),.mk 0,.c (.n 0)] [(0,v0),(1,v1),(7,v7),(8,v8)] H Q
theorem G3 {v0 v1 v7 v8:V} {B:Nat} {H:List Ob} {Q:X→T→List Ob→Prop} (h:Run prog nd B [.c (nd 3),.c (.loop (.n 1)),.mk 0,.c (.n 0)] [(0,v0),(1,v1),(7,v7),(8,v8)] H Q):L3 v0 v1 v7 v8 B H Q:=run_m.2 h
end idxTm
namespace cntTm
def nd (_:Nat):C:=.skip
def body:C:=.seq (.reg [.mv 4 (.c (.bool false))]) (.seq (.reg [.mv 5 (.s 0),.mv 6 (.s 1),.call (some 7) n_slices_IndexFunc_s_Term_Term [.s 5,.s 6],.bin 8 .geq (.s 7) (.i 0),.mv 4 (.s 8)]) (.ret))
def rs:List RV:=[.t 4]
attribute [push_cast] nd body
theorem ok:okF prog n_slices_ContainsFunc_s_Term_Term nd body 2 rs = true:=by kernel_rfl
end cntTm
def stF {S:Type} (F:S→Term→S × Bool) (s:S):List Term→S × Bool
 | []=>(s,false)
 | a :: l=>if (F s a).2 then ((F s a).1,true) else stF F (F s a).1 l
def ixF {S:Type} (F:S→Term→S × Bool) (s:S) (k:Nat):List Term→Int
 | []=>-1
 | a :: l=>if (F s a).2 then k else ixF F (F s a).1 (k+1) l
theorem ixF_st {S:Type} (F:S→Term→S × Bool):∀ (l:List Term) (s:S) (k:Nat),0≤ixF F s k l ↔ (stF F s l).2 = true
 | [],s,k=>by simp [ixF,stF]
 | a :: l,s,k=>by
  unfold ixF stF
  by_cases h:(F s a).2 = true
  ·rw [if_pos h,if_pos h];simp
  ·rw [if_neg h,if_neg h];exact ixF_st F l _ _
section
variable {S:Type} {F:S→Term→S × Bool} {Hs:S→List Ob} {Inv:S→Prop} {g n:Nat} {caps:List V} (hn:∀ s,(Hs s).length = n) (hc:rens (clip n) caps = caps) (hH:∀ s,(Hs s).map (renOb (clip n)) = Hs s)
 (l:List Term) (hl:l.length < 2^62) (h:∀ a∈l,∀ s,Inv s→Spec prog g (encT a :: caps) (Hs s) fun x H'=>x = .bool (F s a).2∧H' = Hs (F s a).1) (hi:∀ a∈l,∀ s,Inv s→(F s a).2 = false→Inv (F s a).1)
include hn hc hH hl h hi
theorem IndexFunc_st (s0:S) (h0:Inv s0):Spec prog n_slices_IndexFunc_s_Term_Term [encTs l,.fn (.func g) [] caps] (Hs s0) fun x H'=>x = .int .i64 (ixF F s0 0 l)∧H' = Hs (stF F s0 l).1:=by
 have htk:∀ s,(Hs s).take n = Hs s:=fun s=>List.take_of_length_le (by rw [hn];exact Nat.le_refl _)
 refine spec_of_run mixed idxTm.ok rfl ?_
 push_cast [hc,hH,hn,htk]
 refine loop_up (n:=l.length) (R:=fun k=>∀ s,Inv s→ixF F s k (l.drop k) = ixF F s0 0 l→stF F s (l.drop k) = stF F s0 l→idxTm.L3 (encTs l) (.fn (.func g) [] caps) (.int .i64 l.length) (.int .i64 k) n (Hs s) (Ends n idxTm.rs fun x H'=>x = .int .i64 (ixF F s0 0 l)∧H' = Hs (stF F s0 l).1)) ?_ ?_ 0 (Nat.zero_le _) s0 h0 rfl rfl
 ·intro k hk ih s hs hq1 hq2
  refine idxTm.G3 ?_
  have hm:=getD_mem hk
  rw [drop_getD hk] at hq1 hq2
  generalize hx:l.getD k default = a at hm hq1 hq2
  simp only [ixF,stF] at hq1 hq2
  push_cast [ilt hk,hx]
  refine CallG.all (R:=fun x H'=>x = .bool (F s a).2∧H' = Hs (F s a).1) (h a hm s hs) ?_
  rintro x H' ⟨rfl,rfl⟩
  cases hp:(F s a).2 with
  | true =>
   rw [hp,if_pos rfl] at hq1 hq2
   push_cast
   exact ends_all (.inl rfl) rfl ⟨by rw [← hq1];rfl,by rw [← hq2]⟩
  | false =>
   rw [hp,if_neg (by simp)] at hq1 hq2
   push_cast [hc,hH,hn,htk,w64 (show k < 2^62 by omega)]
   have:=ih _ (hi a hm s hs hp) hq1 hq2
   push_cast at this
   exact this
 ·intro s hs hq1 hq2
  refine idxTm.G3 ?_
  push_cast [inlt (Nat.le_refl _)]
  rw [drop_map_none] at hq1 hq2
  exact ends_all (.inl rfl) rfl ⟨by rw [← hq1];rfl,by rw [← hq2];rfl⟩
theorem ContainsFunc_st (s0:S) (h0:Inv s0):Spec prog n_slices_ContainsFunc_s_Term_Term [encTs l,.fn (.func g) [] caps] (Hs s0) fun x H'=>x = .bool (stF F s0 l).2∧H' = Hs (stF F s0 l).1:=by
 refine spec_of_run mixed cntTm.ok rfl ?_
 push_cast
 refine CallG.all (R:=fun x H'=>x = .int .i64 (ixF F s0 0 l)∧H' = Hs (stF F s0 l).1) (IndexFunc_st hn hc hH l hl h hi s0 h0) ?_
 rintro x H' ⟨rfl,rfl⟩
 push_cast
 have hd:decide (0≤ixF F s0 0 l) = (stF F s0 l).2:=by
  have:=ixF_st F l s0 0
  cases hq:(stF F s0 l).2 with
  | true=>rw [hq] at this;simpa using this
  | false=>rw [hq] at this;simpa using this
 rw [hn]
 exact ends_all (.inl rfl) rfl ⟨by rw [← hd];rfl,rfl⟩
end
mutual
def cntT (n:Int):Term→Int × Bool
 | .mk _ _ l=>if n - 1 < 0 then (n - 1,true) else cntTs (n - 1) l
def cntTs (n:Int):List Term→Int × Bool
 | []=>(n,false)
 | a :: l=>if (cntT n a).2 then ((cntT n a).1,true) else cntTs (cntT n a).1 l
end
theorem cntT_eq (n:Int) (t:Term):cntT n t = if n - 1 < 0 then (n - 1,true) else cntTs (n - 1) t.args:=by cases t;rfl
theorem cntTs_st (n:Int) (l:List Term):cntTs n l = stF cntT n l:=by
 induction l generalizing n with
 | nil=>rfl
 | cons a l ih=>simp only [cntTs,stF,ih]
mutual
theorem cntT_law:∀ (t:Term) (n:Int),0≤n→((size t:Int)≤n→cntT n t = (n - size t,false))∧(n < (size t:Int)→(cntT n t).2 = true)
 | .mk x v l,n,hn=>by
  have hs:size (.mk x v l) = 1+sizes l:=rfl
  rw [hs]
  simp only [cntT]
  by_cases h:n - 1 < 0
  ·rw [if_pos h]
   exact ⟨fun h2=>by omega,fun _=>rfl⟩
  ·rw [if_neg h]
   have:=cntTs_law l (n - 1) (by omega)
   refine ⟨fun h2=>?_,fun h2=>this.2 (by omega)⟩
   rw [this.1 (by omega)]
   congr 1;omega
theorem cntTs_law:∀ (l:List Term) (n:Int),0≤n→((sizes l:Int)≤n→cntTs n l = (n - sizes l,false))∧(n < (sizes l:Int)→(cntTs n l).2 = true)
 | [],n,hn=>⟨fun _=>by simp [cntTs,sizes],fun h=>by simp [sizes] at h;omega⟩
 | a :: l,n,hn=>by
  have hs:sizes (a :: l) = size a+sizes l:=rfl
  rw [hs]
  simp only [cntTs]
  have h1:=cntT_law a n hn
  by_cases h2:(size a:Int)≤n
  ·have h3:=cntTs_law l (n - size a) (by omega)
   rw [h1.1 h2]
   simp only [Bool.false_eq_true,if_false]
   refine ⟨fun h4=>?_,fun h4=>h3.2 (by omega)⟩
   rw [h3.1 (by omega)]
   congr 1;omega
  ·rw [h1.2 (by omega),if_pos rfl]
   exact ⟨fun h4=>by omega,fun _=>rfl⟩
end
theorem cntT_inv {n:Int} {t:Term} (hn:0≤n∧n≤4000) (h:(cntT n t).2 = false):0≤(cntT n t).1∧(cntT n t).1≤4000:=by
 have:=cntT_law t n hn.1
 by_cases h2:(size t:Int)≤n
 ·rw [this.1 h2];simp;omega
 ·rw [this.2 (by omega)] at h;cases h
mutual
def wide:Term→Nat
 | .mk _ _ l=>max l.length (wides l)
def wides:List Term→Nat
 | []=>0
 | a :: l=>max (wide a) (wides l)
end
theorem wide_args (t:Term):t.args.length≤wide t∧wides t.args≤wide t:=by cases t;simp only [wide,Term.args];omega
theorem wide_mem {l:List Term} {a:Term} (h:a∈l):wide a≤wides l:=by
 induction l with
 | nil=>cases h
 | cons x xs ih=>rcases List.mem_cons.1 h with rfl | h <;> simp only [wides];omega;have:=ih h;omega
def largeH (n:Int):List Ob:=[.cells t_int [.int .i64 n],.cells t_func_Term_bool [.fn (.func n_multi_large_1) [] [.ptr 0 0,.ptr 1 0]]]
theorem largeH_keep (n:Int):(largeH n).map (renOb (clip 2)) = largeH n:=rfl
theorem multi_large_1_s (W:Nat) (hW:W < 2^60) (t:Term) (hw:wide t≤W):∀ n:Int,0≤n∧n≤4000→Spec prog n_multi_large_1 [encT t,.ptr 0 0,.ptr 1 0] (largeH n) fun x H'=>x = .bool (cntT n t).2∧H' = largeH (cntT n t).1:=by
 induction t using term_ind with
 | h t ih =>
 intro n hn
 have hwa:=wide_args t
 have hw1:IntKind.i64.wrap (n - 1) = n - 1:=wrap64 (by omega) (by omega)
 refine spec_of_run mixed multi_large_1.ok rfl ?_
 rw [cntT_eq]
 by_cases h:n - 1 < 0
 ·rw [if_pos h]
  unfold largeH
  push_cast [hw1,eq_true h]
  exact ends_all (.inl rfl) rfl ⟨rfl,rfl⟩
 ·rw [if_neg h,cntTs_st]
  have hC:=ContainsFunc_st (S:=Int) (F:=cntT) (Hs:=largeH) (Inv:=fun n=>0≤n∧n≤4000) (g:=n_multi_large_1) (n:=2) (caps:=[.ptr 0 0,.ptr 1 0]) (fun _=>rfl) rfl largeH_keep t.args (by omega)
   (fun a ha s hs=>ih a ha (by have:=wide_mem ha;omega) s hs) (fun a ha s hs hf=>cntT_inv hs hf) (n - 1) (by omega)
  unfold largeH at hC ⊢
  push_cast [hw1,eq_false h]
  refine CallG.all (R:=fun x H'=>x = .bool (stF cntT (n - 1) t.args).2∧H' = [.cells t_int [.int .i64 (stF cntT (n - 1) t.args).1],.cells t_func_Term_bool [.fn (.func n_multi_large_1) [] [.ptr 0 0,.ptr 1 0]]]) hC ?_
  rintro x H' ⟨rfl,rfl⟩
  push_cast
  exact ends_all (.inl rfl) rfl ⟨rfl,rfl⟩
theorem multi_large_s (t:Term) (hw:wide t < 2^60):PF n_multi_large [encT t] (.bool (decide (4000 < size t))):=by
 refine pf_of multi_large.ok rfl ?_
 push_cast
 have hL:=multi_large_1_s _ hw t (Nat.le_refl _) 4000 (by omega)
 unfold largeH at hL
 refine CallG.all (R:=fun x H'=>x = .bool (cntT 4000 t).2∧H' = [.cells t_int [.int .i64 (cntT 4000 t).1],.cells t_func_Term_bool [.fn (.func n_multi_large_1) [] [.ptr 0 0,.ptr 1 0]]]) hL ?_
 rintro x H' ⟨rfl,rfl⟩
 push_cast
 refine pf_ret ?_
 push_cast [multi_large.rs]
 have:=cntT_law t 4000 (by omega)
 by_cases h:4000 < size t
 ·rw [this.2 (by omega)];simpa using h
 ·rw [this.1 (by omega)];simpa using h
end Go.Dw
end
section
namespace Go.Dw
section
variable {P:Program} {N:Nat→C} {B:Nat} {ds:List Nat} {g l:List S} {s:List K} {t:T} {H:List Ob} {Q:X→T→List Ob→Prop}
theorem gP_tt:gP P N B true ds g l s t H Q (.bool true) = Run P N B (.r (g++l) :: s) t H Q:=by simp [gP]
theorem gP_ff:gP P N B false ds g l s t H Q (.bool false) = Run P N B (.r (g++l) :: s) t H Q:=by simp [gP]
theorem gP_tf:gP P N B true ds g l s t H Q (.bool false) = Run P N B (.r l :: s) (ds.map (fun d=>(d,V.tup []))++t) H Q:=by simp [gP]
theorem gP_ft:gP P N B false ds g l s t H Q (.bool true) = Run P N B (.r l :: s) (ds.map (fun d=>(d,V.tup []))++t) H Q:=by simp [gP]
theorem cP_t {a b:C}:cP P N B a b s t H Q (.bool true) = Run P N B (.c a :: s) t H Q:=by simp [cP]
theorem cP_f {a b:C}:cP P N B a b s t H Q (.bool false) = Run P N B (.c b :: s) t H Q:=by simp [cP]
end
end Go.Dw
end
section
namespace Go.Dw
theorem occ_eq (v:Str) (t:Term):occ v t = ((t.var && decide (t.name = v)) || occs v t.args):=by cases t;rfl
theorem occs_mem {v:Str} {l:List Term} {a:Term} (h:a∈l) (ho:occ v a = true):occs v l = true:=by
 induction l with
 | nil=>cases h
 | cons x xs ih =>
  simp only [occs,Bool.or_eq_true]
  rcases List.mem_cons.1 h with rfl | h
  ·exact .inl ho
  ·exact .inr (ih h)
theorem occ_arg {v:Str} {t a:Term} (h:a∈t.args) (ho:occ v a = true):occ v t = true:=by rw [occ_eq,occs_mem h ho,Bool.or_true]
theorem occ_self {t:Term} (h:t.var = true):occ t.name t = true:=by rw [occ_eq,h];simp
theorem multi_plug_s (vars:List Str) (x:List Term) (hva:vars.length≤x.length) (hl:vars.length < 2^40) (t:Term) (ht:size t < 2^40) (ho:∀ v,occ v t = true→v∈vars):PF n_multi_plug [encT t,encSs vars,encTs x] (encT (plugT vars x t)):=by
 induction t using term_ind with
 | h t ih =>
 have hst:=size_args t
 have hll:=length_le_sizes t.args
 refine pf_of multi_plug.ok rfl ?_
 rw [plugT_eq]
 cases hv:t.var with
 | true =>
  obtain ⟨h1,h2,h3⟩:=idxI_ix (ho _ (occ_self hv))
  have hI:=slices_Index_str_s vars t.name (by omega)
  rw [h1] at hI
  have hlt:((ixS t.name vars:Int) < (x.length:Int)) = True:=eq_true (by omega)
  push_cast [hv]
  refine .of hI ?_
  push_cast [hlt]
  exact pf_ret (by push_cast [multi_plug.rs])
 | false =>
  push_cast [hv]
  refine loop_up (n:=t.args.length) (R:=fun k=>multi_plug.L3 (encSs vars) (encTs x) (.ptr 0 0) (.ptr 1 0) (encTs t.args) (.int .i64 t.args.length) (.int .i64 k) 0 [.cells t_Term [.str [],.bool false,.sl 3 []],.cells t_Term [.str t.name,.bool false,ownL cT 2 3 ((t.args.take k).map (plugT vars x))],.arr t_Term 3 k] _) ?_ ?_ 0 (by omega)
  ·intro k hk ih2
   have hm:=getD_mem hk
   have hm2:=size_mem hm
   have hlen:((t.args.take k).map (plugT vars x)).length = k:=by simp;omega
   rw [take_succ_getD hk,List.map_append,List.map_singleton] at ih2
   refine multi_plug.G3 ?_
   push_cast [ilt hk]
   refine .of (ih _ hm (by omega) fun v hv2=>ho v (occ_arg hm hv2)) ?_
   push_cast [hlen,w64 (show k < 2^62 by omega)]
   exact ⟨Nat.le_trans (Nat.mul_le_mul_right 48 (show _≤2^41 by omega)) (by unfold maxEls;decide),ih2⟩
  ·refine multi_plug.G3 ?_
   push_cast [inlt (Nat.le_refl _)]
   refine pf_ret ?_
   push_cast [multi_plug.rs,List.take_length,cT_mk]
   try rfl
theorem multi_side_s (r:List ARule) (f:ARule→Term) (g:Nat) (hr:rbs r < 2^38) (hof:∀ x∈r,PF g [encR x] (encT (f x))) (hsz:∀ x∈r,size (f x) < 2^40) (hvs:∀ x∈r,∀ v,occ v (f x) = true→v∈varsOf [x.left]) (m:AMulti) (hok:OkM r m) (hm:msize m < 2^39) :
  PF n_multi_side [encRs r,encM m,.fn (.func g) [] []] (encT (sideM r f m)):=by
 induction m using multi_ind with
 | h m ih =>
 have hst:=msize_args m
 have hll:=length_le_msizes m.args
 refine pf_of multi_side.ok rfl ?_
 rw [sideM_eq]
 push_cast
 refine loop_up (n:=m.args.length) (R:=fun k=>multi_side.L4 (encRs r) (.fn (.func g) [] []) (.ro (cM m) 0) (.ptr 0 0) (ownL cT 1 3 ((m.args.take k).map (sideM r f))) (encMs m.args) (.int .i64 m.args.length) (.int .i64 k) 0 [.cells t_Term [.str [],.bool false,.sl 3 []],.arr t_Term 3 k] _) ?_ ?_ 0 (by omega)
 ·intro k hk ih2
  have hmm:=getD_mem hk
  have hm2:=msize_mem hmm
  have hlen:((m.args.take k).map (sideM r f)).length = k:=by simp;omega
  rw [take_succ_getD hk,List.map_append,List.map_singleton] at ih2
  refine multi_side.G4 ?_
  push_cast [ilt hk]
  refine .of (ih _ hmm (hok.arg hmm) (by omega)) ?_
  push_cast [hlen,w64 (show k < 2^62 by omega)]
  exact ⟨Nat.le_trans (Nat.mul_le_mul_right 48 (show _≤2^41 by omega)) (by unfold maxEls;decide),ih2⟩
 ·refine multi_side.G4 ?_
  push_cast [inlt (Nat.le_refl _),List.take_length]
  by_cases h0:m.rule = 0
  ·push_cast [eq_true h0]
   refine pf_ret ?_
   push_cast [multi_side.rs]
   show V.agg [.str m.name,.bool m.var,encTs (m.args.map (sideM r f))] = encT (.mk m.name m.var (m.args.map (sideM r f)))
   unfold encT;rw [cT_eq];rfl
  ·obtain ⟨k1,k2,k3,k4,k5,k6⟩:=hok.rule h0
   have hw:IntKind.i64.wrap (m.rule - 1) = m.rule - 1:=wrap64 (by have:=length_le_rbs r;omega) (by have:=length_le_rbs r;omega)
   have hc1:((0:Int)≤m.rule - 1) = True:=eq_true (by omega)
   have hc2:(m.rule - 1 < (r.length:Int)) = True:=eq_true (by omega)
   have hru:r.getD (m.rule - 1).toNat default = ruleOf r m:=rfl
   have hrm:=rbs_mem k3
   have hsl:=size_le_tb (ruleOf r m).left
   have hV:=term_VarsOf_s [(ruleOf r m).left] (by simp [sizes];omega)
   push_cast [eq_false h0,hw,hc1,hc2,hru]
   refine .of (hof _ k3) ?_
   push_cast
   refine .of hV ?_
   push_cast
   refine .of (multi_plug_s (varsOf [(ruleOf r m).left]) (m.args.map (sideM r f)) (by rw [List.length_map,k4];exact Nat.le_refl _) (by rw [← k4];omega) _ (hsz _ k3) (hvs _ k3)) ?_
   push_cast
   exact pf_ret (by push_cast [multi_side.rs])
theorem wides_map {α:Type} {f:α→Term} {W:Nat}:∀ {l:List α},(∀ a∈l,wide (f a)≤W)→wides (l.map f)≤W
 | [],_=>by simp [wides]
 | a :: l,h=>by
  simp only [List.map_cons,wides]
  have h1:=h a (by simp)
  have h2:=wides_map (f:=f) (l:=l) fun b hb=>h b (by simp [hb])
  omega
theorem wides_getD {l:List Term} {k:Nat}:wide (l.getD k default)≤wides l:=by
 by_cases h:k < l.length
 ·exact wide_mem (getD_mem h)
 ·rw [List.getD_eq_getElem?_getD,List.getElem?_eq_none (by omega)]
  exact Nat.zero_le _
theorem wide_plug (vars:List Str) (x:List Term) (t:Term):wide (plugT vars x t)≤max (wides x) (size t):=by
 induction t using term_ind with
 | h t ih =>
  rw [plugT_eq]
  have hst:=size_args t
  have hll:=length_le_sizes t.args
  split
  ·have:=wides_getD (l:=x) (k:=ixS t.name vars);omega
  ·simp only [wide,List.length_map]
   have:=wides_map (f:=plugT vars x) (W:=max (wides x) (size t)) (l:=t.args) fun a ha=>by
    have:=ih a ha
    have:=size_mem ha
    omega
   omega
theorem wide_side (r:List ARule) (f:ARule→Term) {W:Nat} (hsz:∀ x∈r,size (f x)≤W) (m:AMulti) (hok:OkM r m) (hm:msize m≤W):wide (sideM r f m)≤W:=by
 induction m using multi_ind with
 | h m ih =>
  rw [sideM_eq]
  have hst:=msize_args m
  have hll:=length_le_msizes m.args
  have hw:=wides_map (f:=sideM r f) (W:=W) (l:=m.args) fun a ha=>ih a ha (hok.arg ha) (by have:=msize_mem ha;omega)
  split
  ·simp only [wide,List.length_map];omega
  ·rename_i h0
   have:=wide_plug (varsOf [(ruleOf r m).left]) (m.args.map (sideM r f)) (f (ruleOf r m))
   have:=hsz _ (hok.rule h0).2.2.1
   omega
theorem multi_end_s (r:List ARule) (f:ARule→Term) (g:Nat) (m:AMulti) (hr:rbs r < 2^38) (hm:mb m < 2^38) (hof:∀ x∈r,PF g [encR x] (encT (f x))) (hsz:∀ x∈r,size (f x) < 2^40) (hvs:checkSystem r = 0→∀ x∈r,∀ v,occ v (f x) = true→v∈varsOf [x.left]) :
  PF n_multi_end [encRs r,encM m,.fn (.func g) [] []] (encTE (endM r f m).1 (endM r f m).2):=by
 have hmz:=msize_le_mb m
 refine pf_of multi_end.ok rfl ?_
 push_cast
 refine .of (multi_Check_s r m hr (by omega)) ?_
 unfold endM
 by_cases h1:¬ checkM r m = 0
 ·rw [if_pos h1]
  push_cast [eq_false h1]
  exact pf_ret (by push_cast [multi_end.rs];rfl)
 have h1:checkM r m = 0:=Classical.not_not.1 h1
 rw [if_neg (by simpa using h1)]
 obtain ⟨c1,c2,c3,c4⟩:=checkM_ok h1
 have hS:=multi_side_s r f g hr hof hsz (hvs c1) m c2 (by omega)
 have hwd:=wide_side r f (W:=2^40) (fun x hx=>by have:=hsz x hx;omega) m c2 (by omega)
 generalize sideM r f m = t at hS hwd
 push_cast [h1]
 refine .of hS ?_
 push_cast
 refine .of (multi_large_s t (by omega)) ?_
 by_cases h2:4000 < size t
 ·have hf:fits t = false:=by unfold fits;simp;omega
  rw [hf]
  push_cast [eq_true h2]
  exact pf_ret (by push_cast [multi_end.rs];rfl)
 ·push_cast [eq_false h2]
  refine .of (term_Own_s t (by omega)) ?_
  push_cast
  refine .of (term_Fit_s t (by omega)) ?_
  cases hf:fits t with
  | true =>
   rw [if_pos rfl,if_pos rfl]
   unfold encTE
   push_cast
   exact pf_ret (by push_cast [multi_end.rs];try rfl)
  | false =>
   rw [if_neg (by simp),if_neg (by simp)]
   unfold encTE
   push_cast
   exact pf_ret (by push_cast [multi_end.rs];try rfl)
theorem varsOf_left (x:ARule):∀ v,occ v x.left = true→v∈varsOf [x.left]:=fun v h=>(mem_varsOf v x.left).2 h
theorem varsOf_right {r:List ARule} (h:checkSystem r = 0):∀ x∈r,∀ v,occ v x.right = true→v∈varsOf [x.left]:=by
 unfold checkSystem at h
 split at h
 ·rename_i h1;exact absurd h h1
 ·split at h
  ·cases h
  ·split at h
   ·cases h
   ·split at h
    ·cases h
    ·rename_i h3
     intro x hx v hv
     have h4:extra x = false:=by
      cases he:extra x with
      | false=>rfl
      | true=>exact absurd (List.any_eq_true.2 ⟨x,hx,he⟩) h3
     unfold extra at h4
     simp only [Bool.or_eq_false_iff] at h4
     have:=List.any_eq_false.1 h4.2 v ((mem_varsOf v x.right).2 hv)
     simpa using this
theorem multi_Source_1_s (x:ARule):PF n_multi_Source_1 [encR x] (encT x.left):=by
 refine pf_of multi_Source_1.ok rfl ?_
 push_cast
 exact pf_ret (by push_cast [multi_Source_1.rs];try rfl)
theorem multi_Target_1_s (x:ARule):PF n_multi_Target_1 [encR x] (encT x.right):=by
 refine pf_of multi_Target_1.ok rfl ?_
 push_cast
 exact pf_ret (by push_cast [multi_Target_1.rs];try rfl)
theorem multi_Source_s (r:List ARule) (m:AMulti) (hr:rbs r < 2^38) (hm:mb m < 2^38):PF n_multi_Source [encRs r,encM m] (encTE (endM r ARule.left m).1 (endM r ARule.left m).2):=by
 refine pf_of multi_Source.ok rfl ?_
 have hE:=multi_end_s r ARule.left n_multi_Source_1 m hr hm (fun x _=>multi_Source_1_s x) (fun x hx=>by have:=rbs_mem hx;have:=size_le_tb x.left;omega) (fun _ x _=>varsOf_left x)
 push_cast
 refine .of hE ?_
 generalize (endM r ARule.left m) = p
 obtain ⟨o,e⟩:=p
 cases o <;> (unfold encTE;push_cast;exact pf_ret (by push_cast [multi_Source.rs];try rfl))
theorem multi_Target_s (r:List ARule) (m:AMulti) (hr:rbs r < 2^38) (hm:mb m < 2^38):PF n_multi_Target [encRs r,encM m] (encTE (endM r ARule.right m).1 (endM r ARule.right m).2):=by
 refine pf_of multi_Target.ok rfl ?_
 have hE:=multi_end_s r ARule.right n_multi_Target_1 m hr hm (fun x _=>multi_Target_1_s x) (fun x hx=>by have:=rbs_mem hx;have:=size_le_tb x.right;omega) (fun h=>varsOf_right h)
 push_cast
 refine .of hE ?_
 generalize (endM r ARule.right m) = p
 obtain ⟨o,e⟩:=p
 cases o <;> (unfold encTE;push_cast;exact pf_ret (by push_cast [multi_Target.rs];try rfl))
end Go.Dw
end
section
namespace Go.Proofs
open Go.RowKit
set_option maxHeartbeats 4000000 in
set_option maxRecDepth 100000 in
theorem Tryz.len64_2 (w:World):Calls Tryz.prog 241 #[.int .u64 2] w fun e w'=>e = .returned (.int .i64 2)∧w' = w:=by
 go_enter Tryz.func241,Tryz.ntmps241
 go_wp2
 go_ret
 exact ⟨by kernel_rfl,rfl⟩
set_option maxHeartbeats 4000000 in
set_option maxRecDepth 100000 in
theorem Tryz.len_2 (w:World):Calls Tryz.prog 173 #[.int .u64 2] w fun e w'=>e = .returned (.int .i64 2)∧w' = w:=by
 have hm:=Tryz.len64_2
 go_enter Tryz.func173,Tryz.ntmps173
 go_wp2_with (go_at_call 241;refine (hm _).mono ?_;rintro e w' ⟨rfl,rfl⟩)
 go_ret
 exact ⟨rfl,rfl⟩
end Go.Proofs
namespace Go.Dw
open Go.Proofs
theorem len_in (args:Array Value) (w:World):(callFunc 173 args).run Tryz.prog w = .ok (.enter 173 args) w:=enters_of (P:=Tryz.prog) Tryz.func173 (by kernel_rfl) rfl args w
theorem bits_Len_2:PF n_bits_Len [.int .u64 2] (.int .i64 2):=by
 intro c vs hH hc hr
 obtain ⟨v,vs1,rfl,h1,h2⟩:=hr
 have h1:v = .int .u64 2:=h1
 have h2:vs1 = []:=h2
 subst h1;subst h2
 left
 refine ⟨len_in _ _,?_⟩
 refine (Tryz.len_2 c.w).mono ?_
 rintro e w' ⟨rfl,rfl⟩
 exact ⟨_,.int .i64 2,c,rfl,rfl,⟨rfl,hH⟩,hc,rfl,.refl c⟩
end Go.Dw
end
section
namespace Go.Dw
def vX:Term:=.mk [120] true []
def tA:Term:=.mk [97] false []
def fT (t:Term):Term:=.mk [102] false [t]
def gT (t u:Term):Term:=.mk [103] false [t,u]
def dbl:List ARule:=[⟨fT vX,gT vX vX⟩]
def mA:AMulti:=.mk 0 [97] false []
def mF (m:AMulti):AMulti:=.mk 1 [] false [m]
def m0:AMulti:=mF (mF mA)
theorem dbl_rbs:rbs dbl < 2^28:=by decide
theorem vars_f:varsOf [fT vX] = [[120]]:=by
 unfold varsOf
 have:vsetT [] [fT vX] = [[120]]:=by decide
 rw [this]
 unfold Proofs.sortS
 exact List.mergeSort_of_pairwise (by decide)
theorem run_vars:PF n_term_VarsOf [encTs [fT vX]] (encSs [[120]]):=by
 have:=term_VarsOf_s [fT vX] (by decide)
 rwa [vars_f] at this
theorem run_occ:PF n_multi_occurrences [encT (fT vX),.str [120]] (encPs [[0]]):=multi_occurrences_s (fT vX) [120] (by decide)
theorem run_cat (a b:List Int) (ha:a.length+b.length < 2^40):PF n_slices_Concat_s_int_int [encPs [a,b]] (encP (a++b)):=by
 have:=slices_Concat_s [a,b] (by simp) (by simpa using ha)
 simpa using this
theorem ok_m0:checkM dbl m0 = 0:=by decide +kernel
theorem end_l:endM dbl ARule.left m0 = (some (fT (fT tA)),0):=by decide +kernel
theorem end_r:endM dbl ARule.right m0 = (some (gT (gT tA tA) (gT tA tA)),0):=by decide +kernel
theorem run_src:PF n_multi_Source [encRs dbl,encM m0] (encTE (some (fT (fT tA))) 0):=by
 have:=multi_Source_s dbl m0 (by decide) (by decide)
 rwa [end_l] at this
theorem run_do (t u:Term) (s:AStep) (h:doE dbl t s = (some u,0)) (ht:tb t < 2^20) (hp:s.pos.length < 2^40):PF n_rewrite_Do [encRs dbl,encT t,encSt s] (encTE (some u) 0):=by
 have:=rewrite_Do_s dbl t s dbl_rbs (by omega) hp fun x hx=>by have:=setT_size s.pos t x;have:=fits_size hx;have:=size_le_tb t;omega
 rwa [h] at this
theorem do_1:doE dbl (fT (fT tA)) ⟨0,[]⟩ = (some (gT (fT tA) (fT tA)),0):=by decide +kernel
theorem do_2:doE dbl (gT (fT tA) (fT tA)) ⟨0,[0]⟩ = (some (gT (gT tA tA) (fT tA)),0):=by decide +kernel
theorem do_3:doE dbl (gT (gT tA tA) (fT tA)) ⟨0,[1]⟩ = (some (gT (gT tA tA) (gT tA tA)),0):=by decide +kernel
theorem do_4:doE dbl (fT (fT tA)) ⟨0,[0]⟩ = (some (fT (gT tA tA)),0):=by decide +kernel
theorem do_5:doE dbl (fT (gT tA tA)) ⟨0,[]⟩ = (some (gT (gT tA tA) (gT tA tA)),0):=by decide +kernel
def tab17:List PK:=[⟨_,_,pOne_ok run_vars⟩,⟨_,_,pOne_ok run_occ⟩,⟨_,_,pOne_ok (run_cat [] [0] (by decide))⟩,⟨_,_,pOne_ok (run_cat [] [1] (by decide))⟩,⟨_,_,pOne_ok (run_cat [0] [0] (by decide))⟩,⟨_,_,pOne_ok run_src⟩,
 ⟨_,_,pOne_ok (run_do _ _ _ do_1 (by decide) (by decide))⟩,⟨_,_,pOne_ok (run_do _ _ _ do_2 (by decide) (by decide))⟩,⟨_,_,pOne_ok (run_do _ _ _ do_3 (by decide) (by decide))⟩,⟨_,_,pOne_ok (run_do _ _ _ do_4 (by decide) (by decide))⟩,⟨_,_,pOne_ok (run_do _ _ _ do_5 (by decide) (by decide))⟩,⟨_,_,pOne_ok bits_Len_2⟩]
def chV:V:=.tup [encC ⟨fT (fT tA),[⟨0,[]⟩,⟨0,[0]⟩,⟨0,[1]⟩]⟩,.int .i64 0]
def inV:V:=.tup [encC ⟨fT (fT tA),[⟨0,[0]⟩,⟨0,[]⟩]⟩,.int .i64 0]
def stV:V:=.tup [encSts [⟨0,[]⟩,⟨0,[0]⟩],.int .i64 0]
theorem ch_run:yields (callI code (primsOf tab17) (go code (primsOf tab17) 100000) true n_multi_Chain [encRs dbl,encM m0] []) chV = true:=by kernel_rfl
theorem in_run:yields (callI code (primsOf tab17) (go code (primsOf tab17) 100000) true n_multi_Inner [encRs dbl,encM m0] []) inV = true:=by kernel_rfl
theorem st_run:yields (callI code (primsOf tab17) (go code (primsOf tab17) 100000) true n_multi_Steps [encRs dbl,encM m0] []) stV = true:=by kernel_rfl
end Go.Dw
end
section
namespace Go.Dw
section
variable {P:Program} {N:Nat→C} {B:Nat} {ds:List Nat} {g l:List S} {s:List K} {t:T} {H:List Ob} {Q:X→T→List Ob→Prop}
theorem gK_tt:gP P N B true ds g l s t H Q (.bool true) = Run P N B (.r (g++l) :: s) t H Q:=by simp [gP]
theorem gK_ff:gP P N B false ds g l s t H Q (.bool false) = Run P N B (.r (g++l) :: s) t H Q:=by simp [gP]
theorem gK_tf:gP P N B true ds g l s t H Q (.bool false) = Run P N B (.r l :: s) (ds.map (fun d=>(d,V.tup []))++t) H Q:=by simp [gP]
theorem gK_ft:gP P N B false ds g l s t H Q (.bool true) = Run P N B (.r l :: s) (ds.map (fun d=>(d,V.tup []))++t) H Q:=by simp [gP]
theorem cK_t {a b:C}:cP P N B a b s t H Q (.bool true) = Run P N B (.c a :: s) t H Q:=by simp [cP]
theorem cK_f {a b:C}:cP P N B a b s t H Q (.bool false) = Run P N B (.c b :: s) t H Q:=by simp [cP]
end
attribute [push_cast] gK_tt gK_ff gK_tf gK_ft cK_t cK_f
end Go.Dw
end
section
namespace Go.Dw
theorem run_ch:PF n_multi_Chain [encRs dbl,encM m0] chV:=closed tab17 100000 (yields_sound ch_run)
theorem run_in:PF n_multi_Inner [encRs dbl,encM m0] inV:=closed tab17 100000 (yields_sound in_run)
theorem run_st:PF n_multi_Steps [encRs dbl,encM m0] stV:=closed tab17 100000 (yields_sound st_run)
theorem run_tg:PF n_multi_Target [encRs dbl,encM m0] (encTE (some (gT (gT tA tA) (gT tA tA))) 0):=by
 have:=multi_Target_s dbl m0 (by decide) (by decide)
 rwa [end_r] at this
theorem run_ck:PF n_multi_Check [encRs dbl,encM m0] (.int .i64 0):=by
 have:=multi_Check_s dbl m0 (by decide) (by decide)
 rwa [ok_m0] at this
theorem run_ct:PF n_multi_Count [encM m0] (.int .i64 2):=multi_Count_s m0 (by decide)
theorem run_sz:PF n_r01_Size [encT (gT (gT tA tA) (gT tA tA))] (.int .i64 7):=r01_Size_s _ (by decide)
theorem l17_double_s:PF n_l17_double [] (encRs dbl):=by
 refine pf_of l17_double.ok rfl ?_
 push_cast
 exact pf_ret (by push_cast [l17_double.rs];rfl)
set_option maxHeartbeats 4000000 in
theorem alive17:PF n_l17_alive [] (.bool true):=by
 refine pf_of l17_alive.ok rfl ?_
 push_cast
 refine .of l17_double_s ?_
 push_cast
 refine .of run_tg ?_
 unfold encTE
 push_cast
 refine .of l17_double_s ?_
 push_cast
 refine .of run_ch ?_
 unfold chV
 push_cast
 refine .of l17_double_s ?_
 push_cast
 refine .of run_in ?_
 unfold inV
 push_cast
 refine .of l17_double_s ?_
 push_cast
 refine .of run_st ?_
 unfold stV
 push_cast
 refine .of l17_double_s ?_
 push_cast
 refine .of run_ck ?_
 push_cast
 refine .of run_ct ?_
 push_cast
 refine .of run_sz ?_
 push_cast
 exact pf_ret (by push_cast [l17_alive.rs])
end Go.Dw
end
section
namespace Go.Dw
def insRS (s:Str):List Str→List Str
 | []=>[s]
 | x :: l=>if x < s then x :: insRS s l else if x = s then x :: l else s :: x :: l
theorem insS_R (s:Str):∀ l:List Str,insS l s = insRS s l
 | []=>rfl
 | x :: l=>by
  have ih:=insS_R s l
  unfold insS at ih ⊢
  simp only [lbg,insRS]
  by_cases h:x < s
  ·simp only [h,decide_true,if_true]
   rw [← ih]
   simp only [List.length_cons,Nat.add_lt_add_iff_right,List.getD_cons_succ,List.take_succ_cons,List.drop_succ_cons]
   split <;> simp
  ·simp only [h,decide_false,Bool.false_eq_true,if_false,List.length_cons,Nat.zero_lt_succ,true_and,List.getD_cons_zero,List.take_zero,List.drop_zero,List.nil_append]
def SS (l:List Str):Prop:=l.Pairwise (· < ·)
theorem insRS_mem {s v:Str}:∀ {l:List Str},v∈insRS s l→v∈l ∨ v = s
 | [],h=>.inr (by simpa [insRS] using h)
 | x :: l,h=>by
  unfold insRS at h
  split at h
  ·rcases List.mem_cons.1 h with rfl | h
   ·exact .inl (by simp)
   ·rcases insRS_mem h with h | h
    ·exact .inl (by simp [h])
    ·exact .inr h
  ·split at h
   ·exact .inl h
   ·rcases List.mem_cons.1 h with rfl | h
    ·exact .inr rfl
    ·exact .inl h
theorem insRS_sorted {s:Str}:∀ {l:List Str},SS l→SS (insRS s l)
 | [],_=>by simp [insRS,SS]
 | x :: l,h=>by
  unfold SS at h ⊢
  rw [List.pairwise_cons] at h
  unfold insRS
  split
  ·rename_i hx
   rw [List.pairwise_cons]
   refine ⟨fun v hv=>?_,insRS_sorted h.2⟩
   rcases insRS_mem hv with hv | rfl
   ·exact h.1 v hv
   ·exact hx
  ·rename_i hx
   split
   ·rw [List.pairwise_cons];exact h
   ·rename_i hne
    have hsx:s < x:=by
     rcases Classical.em (s < x) with hc | hc
     ·exact hc
     ·exact absurd (slt_eq hc hx).symm hne
    rw [List.pairwise_cons,List.pairwise_cons]
    refine ⟨fun v hv=>?_,h⟩
    rcases List.mem_cons.1 hv with rfl | hv
    ·exact hsx
    ·exact slt_trans hsx (h.1 v hv)
mutual
theorem collectT_sorted:∀ (t:Term) (l:List Str),SS l→SS (collectT l t)
 | .mk n b ar,l,h=>by
  simp only [collectT]
  refine collectTs_sorted ar _ ?_
  split
  ·rw [insS_R];exact insRS_sorted h
  ·exact h
theorem collectTs_sorted:∀ (ar:List Term) (l:List Str),SS l→SS (collectTs l ar)
 | [],l,h=>h
 | a :: ar,l,h=>by simp only [collectTs];exact collectTs_sorted ar _ (collectT_sorted a l h)
end
theorem vset_nodup (l:List Str):∀ ks:List Str,ks.Nodup→(l.foldl addS ks).Nodup:=by
 induction l with
 | nil=>intro ks h;exact h
 | cons x l ih =>
  intro ks h
  refine ih _ ?_
  unfold addS
  split
  ·exact h
  ·rename_i hx
   rw [List.nodup_append]
   exact ⟨h,by simp,fun a ha b hb e=>by rw [List.mem_singleton] at hb;subst hb;subst e;exact hx ha⟩
theorem varsT_eq (t:Term):varsT t = varsOf [t]:=by
 have h1:SS (varsT t):=collectT_sorted t [] List.Pairwise.nil
 have h2:(vsetT [] [t]).Nodup:=by
  show (vset [] (visit t [])).Nodup
  exact vset_nodup _ _ List.nodup_nil
 have hm:∀ v,v∈varsT t ↔ v∈vsetT [] [t]:=fun v=>by
  have e1:v∈varsT t ↔ occ v t = true:=by
   unfold varsT;rw [mem_collectT];simp
  have e2:=mem_varsOf v t
  unfold varsOf at e2
  rw [(List.mergeSort_perm _ _).mem_iff] at e2
  rw [e1,e2]
 have hnd:(varsT t).Nodup:=h1.imp fun hab e=>by rw [e] at hab;exact slt_irrefl _ hab
 have hp:(varsT t).Perm (vsetT [] [t]):=(List.perm_ext_iff_of_nodup hnd h2).2 hm
 unfold varsOf
 have e3:Proofs.sortS (vsetT [] [t]) = Proofs.sortS (varsT t):=Go.mergeSort_of_perm hp.symm
 rw [e3]
 unfold Proofs.sortS
 refine (List.mergeSort_of_pairwise ?_).symm
 refine h1.imp fun {a b} hab=>?_
 simpa using List.le_of_lt hab
theorem r17_Vars_s (x:ARule) (ht:tb x.left < 2^39):PF n_r17_Vars [encR x] (encSs (varsOf [x.left])):=by
 refine pf_of r17_Vars.ok rfl ?_
 push_cast
 have hV:=r01_Vars_s x.left ht
 rw [varsT_eq] at hV
 refine .of hV ?_
 push_cast
 exact pf_ret (by push_cast [r17_Vars.rs])
theorem all_drop_succ {α:Type} [Inhabited α] {p:α→Bool} {l:List α} {k:Nat} (hk:k < l.length):(l.drop k).all p = (p (l.getD k default) && (l.drop (k+1)).all p):=by
 rw [drop_getD hk,List.all_cons]
theorem r17_ranged_s (r:List ARule) (m:AMulti) (hs:msize m < 2^40):PF n_r17_ranged [encRs r,encM m] (.bool (allM (rangedM r.length) m)):=by
 induction m using multi_ind with
 | h m ih =>
 have hst:=msize_args m
 have hl:=length_le_msizes m.args
 refine pf_of r17_ranged.ok rfl ?_
 rw [allM_eq]
 have hrd:rangedM r.length m = (decide (0≤m.rule) && decide (m.rule≤r.length)):=rfl
 by_cases h1:m.rule < 0
 ·have hf:rangedM r.length m = false:=by rw [hrd];simp;omega
  push_cast [eq_true h1,hf]
  exact pf_ret (by push_cast [r17_ranged.rs])
 by_cases h2:(r.length:Int) < m.rule
 ·have hf:rangedM r.length m = false:=by rw [hrd];simp;omega
  push_cast [eq_false h1,eq_true h2,hf]
  exact pf_ret (by push_cast [r17_ranged.rs])
 have ht:rangedM r.length m = true:=by rw [hrd];simp;omega
 push_cast [eq_false h1,eq_false h2,ht]
 refine loop_up (n:=m.args.length) (R:=fun k=>(m.args.drop k).all (allM (rangedM r.length)) = m.args.all (allM (rangedM r.length))→r17_ranged.L3 (encRs r) (encMs m.args) (.int .i64 m.args.length) (.int .i64 k) 0 [] (Ends 0 r17_ranged.rs fun x' H'=>x' = .bool (m.args.all (allM (rangedM r.length)))∧H' = [])) ?_ ?_ 0 (by omega) rfl
 ·intro k hk ih2 hq
  have hm:=getD_mem hk
  have hsm:=msize_mem hm
  rw [all_drop_succ hk] at hq
  refine r17_ranged.G3 ?_
  push_cast [ilt hk]
  refine .of (ih _ hm (by omega)) ?_
  cases hp:allM (rangedM r.length) (m.args.getD k default) with
  | false =>
   rw [hp,Bool.false_and] at hq
   push_cast [← hq]
   exact pf_ret (by push_cast [r17_ranged.rs])
  | true =>
   rw [hp,Bool.true_and] at hq
   push_cast [w64 (show k < 2^62 by omega)]
   exact ih2 hq
 ·intro hq
  refine r17_ranged.G3 ?_
  push_cast [inlt (Nat.le_refl _)]
  rw [drop_map_none] at hq
  exact pf_ret (by push_cast [r17_ranged.rs,← hq];rfl)
theorem r17_Size_s (m:AMulti) (hs:msize m < 2^40):PF n_r17_Size [encM m] (.tup [.int .i64 (msize m),.int .i64 (mdepth m)]):=by
 induction m using multi_ind with
 | h m ih =>
 refine pf_of r17_Size.ok rfl ?_
 have hst:=msize_args m
 have hdt:=mdepth_args m
 have hl:=length_le_msizes m.args
 have hd:=mdepths_le_msizes m.args
 push_cast
 refine loop_up (n:=m.args.length) (R:=fun k=>r17_Size.L3 (.int .i64 ((1+msizes (m.args.take k):Nat):Int)) (.int .i64 (mdepths (m.args.take k):Nat)) (encMs m.args) (.int .i64 m.args.length) (.int .i64 k) 0 [] _) ?_ ?_ 0 (by omega)
 ·intro k hk ih2
  have h1:=mdepths_take_succ _ _ hk
  have h2:=msizes_take_succ _ _ hk
  have h3:=msizes_take_le m.args (k+1)
  have hm:=getD_mem hk
  have:=msize_mem hm
  refine r17_Size.G3 ?_
  push_cast [ilt hk]
  refine .of (ih _ hm (by omega)) ?_
  push_cast [w64 (show k < 2^62 by omega)]
  rw [wrap64 (by omega) (by omega)]
  rw [h1,h2] at ih2
  push_cast at ih2
  simpa [Int.add_assoc] using ih2
 ·refine r17_Size.G3 ?_
  push_cast [inlt (Nat.le_refl _),List.take_length]
  rw [wrap64 (by omega) (by omega)]
  refine pf_ret ?_
  push_cast [r17_Size.rs,hst,hdt]
theorem r17_Small_s (m:AMulti) (hs:msize m < 2^40):PF n_r17_Small [encM m] (.bool (fitM m)):=by
 refine pf_of r17_Small.ok rfl ?_
 push_cast
 refine .of (r17_Size_s m hs) ?_
 unfold fitM
 by_cases h:msize m≤4000
 ·have hi:((msize m:Int)≤4000) = True:=eq_true (by omega)
  push_cast [hi]
  refine pf_ret ?_
  push_cast [r17_Small.rs,h]
  exact decide_eq_decide.2 (by omega)
 ·have hi:((msize m:Int)≤4000) = False:=eq_false (by omega)
  push_cast [hi]
  exact pf_ret (by push_cast [r17_Small.rs,h];try rfl)
set_option maxHeartbeats 2000000 in
theorem r17_formed_s (r:List ARule) (hr:rbs r < 2^38) (m:AMulti) (hq:allM (rangedM r.length) m = true) (hm:mb m < 2^40):PF n_r17_formed [encRs r,encM m] (.bool (allM (formedM r) m)):=by
 induction m using multi_ind with
 | h m ih =>
 have hmb:=mb_args m
 have hsz:=msize_le_mb m
 have hst:=msize_args m
 have hl:=length_le_msizes m.args
 have hI:∀ b,PF n_r01_IsName [.str m.name,.bool b] (.bool (isName m.name b)):=fun b=>r01_IsName_s _ b (by omega)
 have hqs:=allM_self hq
 unfold rangedM at hqs
 rw [Bool.and_eq_true,decide_eq_true_eq,decide_eq_true_eq] at hqs
 refine pf_of r17_formed.ok rfl ?_
 rw [allM_eq]
 have hloop:formedM r m = true→r17_formed.L3 (encRs r) (encMs m.args) (.int .i64 m.args.length) (.int .i64 0) 0 [] (Ends 0 r17_formed.rs fun x' H'=>x' = .bool (formedM r m && m.args.all (allM (formedM r)))∧H' = []):=fun hf=>by
  rw [hf,Bool.true_and]
  refine loop_up (n:=m.args.length) (R:=fun k=>(m.args.drop k).all (allM (formedM r)) = m.args.all (allM (formedM r))→r17_formed.L3 (encRs r) (encMs m.args) (.int .i64 m.args.length) (.int .i64 k) 0 [] (Ends 0 r17_formed.rs fun x' H'=>x' = .bool (m.args.all (allM (formedM r)))∧H' = [])) ?_ ?_ 0 (by omega) rfl
  ·intro k hk ih2 hq2
   have hm2:=getD_mem hk
   have hsm:=mb_mem hm2
   rw [all_drop_succ hk] at hq2
   refine r17_formed.G3 ?_
   push_cast [ilt hk]
   refine .of (ih _ hm2 (allM_arg hq hm2) (by omega)) ?_
   cases hp:allM (formedM r) (m.args.getD k default) with
   | false =>
    rw [hp,Bool.false_and] at hq2
    push_cast [← hq2]
    exact pf_ret (by push_cast [r17_formed.rs])
   | true =>
    rw [hp,Bool.true_and] at hq2
    push_cast [w64 (show k < 2^62 by omega)]
    exact ih2 hq2
  ·intro hq2
   refine r17_formed.G3 ?_
   push_cast [inlt (Nat.le_refl _)]
   rw [drop_map_none] at hq2
   exact pf_ret (by push_cast [r17_formed.rs,← hq2];rfl)
 have hfe:formedM r m = if 0 < m.rule then decide (m.name = []) && (!m.var && decide (m.args.length = (varsOf [(ruleOf r m).left]).length)) else if m.var then decide (m.args.length = 0) && isName m.name false else decide (m.args.length≤8) && isName m.name true:=rfl
 by_cases h1:0 < m.rule
 ·have hm1:r.getD (m.rule - 1).toNat default∈r:=getD_mem (by omega)
  have hrm:=rbs_mem hm1
  have hru:r.getD (m.rule - 1).toNat default = ruleOf r m:=rfl
  have hw:IntKind.i64.wrap (m.rule - 1) = m.rule - 1:=wrap64 (by have:=length_le_rbs r;omega) (by have:=length_le_rbs r;omega)
  have hc1:((0:Int)≤m.rule - 1) = True:=eq_true (by omega)
  have hc2:(m.rule - 1 < (r.length:Int)) = True:=eq_true (by omega)
  rw [hru] at hrm
  have hV:=r17_Vars_s (ruleOf r m) (by omega)
  rw [if_pos h1] at hfe
  cases h3:m.var with
  | true =>
   have hf:formedM r m = false:=by rw [hfe,h3];simp
   push_cast [eq_true h1,h3,hf]
   exact pf_ret (by push_cast [r17_formed.rs])
  | false =>
  by_cases h2:m.name = []
  ·by_cases h4:m.args.length = (varsOf [(ruleOf r m).left]).length
   ·have hf:formedM r m = true:=by rw [hfe,h3,h2];simp [h4]
    have hL:=hloop hf
    have h4i:((m.args.length:Int) = ((varsOf [(ruleOf r m).left]).length:Int)) = True:=eq_true (by omega)
    push_cast [eq_true h1,h2,h3,hw,hc1,hc2,hru]
    refine .of hV ?_
    push_cast [h4i]
    exact hL
   ·have hf:formedM r m = false:=by rw [hfe,h3,h2];simp [h4]
    have h4i:((m.args.length:Int) = ((varsOf [(ruleOf r m).left]).length:Int)) = False:=eq_false (by omega)
    push_cast [eq_true h1,h2,h3,hw,hc1,hc2,hru,hf]
    refine .of hV ?_
    push_cast [h4i]
    exact pf_ret (by push_cast [r17_formed.rs])
  ·have hf:formedM r m = false:=by rw [hfe];simp [h2]
   push_cast [eq_true h1,eq_false h2,h3,hf]
   exact pf_ret (by push_cast [r17_formed.rs])
 ·rw [if_neg h1] at hfe
  cases hv:m.var with
  | true =>
   rw [hv,if_pos rfl] at hfe
   cases hn:isName m.name false with
   | false =>
    have hf:formedM r m = false:=by rw [hfe,hn];simp
    push_cast [eq_false h1,hv]
    refine .of (hI false) ?_
    push_cast [hn,hf]
    exact pf_ret (by push_cast [r17_formed.rs])
   | true =>
   by_cases h0:m.args.length = 0
   ·have hf:formedM r m = true:=by rw [hfe,hn];simp [h0]
    have hL:=hloop hf
    have h0i:(0 < (m.args.length:Int)) = False:=eq_false (by omega)
    push_cast [eq_false h1,hv]
    refine .of (hI false) ?_
    push_cast [hn,h0i]
    exact hL
   ·have hf:formedM r m = false:=by rw [hfe,hn];simp [h0]
    have h0i:(0 < (m.args.length:Int)) = True:=eq_true (by omega)
    push_cast [eq_false h1,hv]
    refine .of (hI false) ?_
    push_cast [hn,h0i,hf]
    exact pf_ret (by push_cast [r17_formed.rs])
  | false =>
   rw [hv,if_neg (by simp)] at hfe
   cases hn:isName m.name true with
   | false =>
    have hf:formedM r m = false:=by rw [hfe,hn];simp
    push_cast [eq_false h1,hv]
    refine .of (hI true) ?_
    push_cast [hn,hf]
    exact pf_ret (by push_cast [r17_formed.rs])
   | true =>
   by_cases h0:m.args.length≤8
   ·have hf:formedM r m = true:=by rw [hfe,hn];simp [h0]
    have hL:=hloop hf
    have h0i:(8 < (m.args.length:Int)) = False:=eq_false (by omega)
    push_cast [eq_false h1,hv]
    refine .of (hI true) ?_
    push_cast [hn,h0i]
    exact hL
   ·have hf:formedM r m = false:=by rw [hfe,hn];simp [h0]
    have h0i:(8 < (m.args.length:Int)) = True:=eq_true (by omega)
    push_cast [eq_false h1,hv]
    refine .of (hI true) ?_
    push_cast [hn,h0i,hf]
    exact pf_ret (by push_cast [r17_formed.rs])
theorem fitM_iff (m:AMulti):fitM m = true ↔ ¬ (4000 < msize m ∨ 200 < mdepth m):=by unfold fitM;simp
theorem r17_Check_s (r:List ARule) (m:AMulti) (hr:rbs r < 2^38) (hm:mb m < 2^39):PF n_r17_Check [encRs r,encM m] (.int .i64 (checkM r m)):=by
 have hsz:=msize_le_mb m
 refine pf_of r17_Check.ok rfl ?_
 push_cast
 refine .of (r01_CheckSystem_s r (by omega)) ?_
 generalize hT:checkM r m = T
 unfold checkM at hT
 by_cases h1:¬ checkSystem r = 0
 ·rw [if_pos h1] at hT
  subst hT
  push_cast [eq_false h1]
  exact pf_ret (by push_cast [r17_Check.rs])
 have h1:checkSystem r = 0:=Classical.not_not.1 h1
 rw [if_neg (by simpa using h1)] at hT
 push_cast [h1]
 refine .of (r17_ranged_s r m (by omega)) ?_
 cases h2:allM (rangedM r.length) m with
 | false =>
  rw [h2,if_pos rfl] at hT
  subst hT
  push_cast
  exact pf_ret (by push_cast [r17_Check.rs])
 | true =>
 rw [h2,if_neg (by simp)] at hT
 push_cast
 refine .of (r17_formed_s r hr m h2 (by omega)) ?_
 cases h3:allM (formedM r) m with
 | false =>
  rw [h3,if_pos rfl] at hT
  subst hT
  push_cast
  exact pf_ret (by push_cast [r17_Check.rs])
 | true =>
 rw [h3,if_neg (by simp)] at hT
 push_cast
 refine .of (r17_Small_s m (by omega)) ?_
 have hf:=fitM_iff m
 cases h4:fitM m with
 | false =>
  rw [h4] at hf
  rw [if_pos (Classical.not_not.1 fun h=>by simpa using hf.2 h)] at hT
  subst hT
  push_cast
  exact pf_ret (by push_cast [r17_Check.rs])
 | true =>
  rw [if_neg (hf.1 h4)] at hT
  subst hT
  push_cast
  exact pf_ret (by push_cast [r17_Check.rs])
end Go.Dw
end
section
namespace Go.Dw
open Go.Proofs.YtobangnijcppaaaGreat
section
variable {H:Type} {enc:TypeId × Value→H} {W:World}
theorem mc25:prog.cellsOf 25 = 1+1+1+1:=by kernel_rfl
theorem mc23:prog.cellsOf 23 = 1:=by kernel_rfl
theorem msplit4 {α:Type} {cs:List α} {a b c d:Nat} (h:cs.length = a+b+c+d):cs = (cs.drop 0).take a++((cs.drop a).take b++((cs.drop (a+b)).take c++(cs.drop (a+b+c)).take d)):=by
 have h1:cs.drop (a+b) = (cs.drop (a+b)).take c++(cs.drop (a+b+c)).take d:=by
  rw [List.take_of_length_le (l:=cs.drop (a+b+c)) (by simp;omega),← List.drop_drop (i:=c),List.take_append_drop]
 have h2:cs.drop a = (cs.drop a).take b++cs.drop (a+b):=by rw [← List.drop_drop (i:=b),List.take_append_drop]
 rw [← h1,← h2,List.drop_zero,List.take_append_drop]
theorem mbs_sumB (l:List AMulti):sumB mb l = mbs l:=by
 induction l with
 | nil=>rfl
 | cons a l ih=>simp only [sumB,mbs,ih]
theorem br_multi:∀ n,Br enc W n 25 cM mb
 | 0=>by intro cs x h;simp [DataW.trod] at h
 | n+1=>by
  intro cs x h hbk
  obtain ⟨xs,m,hm,rfl,hl,hlen,hf⟩:=DataW.trod_struct (P:=prog) Go.Proofs.Tryz.underlying25 h
  obtain rfl:n = m:=by omega
  rw [mc25] at hl
  match xs,hlen with
  | [x0,x1,x2,x3],_ =>
  have f0:trd enc W n 3 ((cs.drop 0).take (prog.cellsOf 3)) = some x0:=hf 0 _ rfl
  have f1:trd enc W n 9 ((cs.drop 1).take (prog.cellsOf 9)) = some x1:=hf 1 _ rfl
  have f2:trd enc W n 4 ((cs.drop 2).take (prog.cellsOf 4)) = some x2:=hf 2 _ rfl
  have f3:trd enc W n 23 ((cs.drop 3).take (prog.cellsOf 23)) = some x3:=hf 3 _ rfl
  rw [c3] at f0;rw [c9] at f1;rw [c4] at f2;rw [mc23] at f3
  simp only [List.map_cons,List.map_nil,Rows.uptoBulk,Rows.uptoBulkAll] at hbk ⊢
  obtain ⟨k,b0,d0⟩:=br_int _ _ f0 (by omega)
  obtain ⟨s,b1,d1⟩:=br_str _ _ f1 (by omega)
  obtain ⟨v,b2,d2⟩:=br_bool _ _ f2 (by omega)
  obtain ⟨l,b3,d3⟩:=br_slice (n:=n) (sz:=4) (c:=cM) (b:=mb) Go.Proofs.Tryz.underlying23 mc25 (by omega) (fun _=>rfl) (fun m hm=>br_multi m) _ _ f3 (by omega)
  try dsimp only at b0
  try dsimp only at b1
  try dsimp only at b2
  try dsimp only at b3
  refine ⟨.mk k s v l,?_,?_⟩
  ·rw [mbs_sumB] at b3
   simp only [mb]
   omega
  ·rw [msplit4 hl,cM_eq]
   exact d0.app (d1.app (d2.app d3))
end
end Go.Dw
end
section
namespace Go.Dw
def sd (b:Bool) (x:ARule):Term:=if b then x.right else x.left
theorem r17_side_s (x:ARule) (b:Bool):PF n_r17_side [encR x,.bool b] (encT (sd b x)):=by
 refine pf_of r17_side.ok rfl ?_
 cases b <;> (push_cast;exact pf_ret (by push_cast [r17_side.rs];try rfl))
theorem r17_index_s (l:List Str) (v:Str) (hl:l.length < 2^62):PF n_r17_index [encSs l,.str v] (.int .i64 (idxI (fun x=>decide (v = x)) l)):=by
 refine pf_of r17_index.ok rfl ?_
 push_cast
 refine loop_up (n:=l.length) (R:=fun k=>(∀ j,j < k→(fun x=>decide (v = x)) (l.getD j default) = false)→r17_index.L3 (.str v) (encSs l) (.int .i64 l.length) (.int .i64 k) 0 [] (Ends 0 r17_index.rs fun x' H'=>x' = .int .i64 (idxI (fun x=>decide (v = x)) l)∧H' = [])) ?_ ?_ 0 (by omega) (by intro j hj;omega)
 ·intro k hk ih hq
  refine r17_index.G3 ?_
  generalize hx:l.getD k default = s
  by_cases h:s = v
  ·have hi:=idxI_some (p:=fun x=>decide (v = x)) hk (by show decide (v = l.getD k default) = true;rw [hx,h];simp) hq
   push_cast [ilt hk,hx,eq_true h]
   exact pf_ret (by push_cast [r17_index.rs,hi])
  ·push_cast [ilt hk,hx,eq_false h,w64 (show k < 2^62 by omega)]
   exact ih fun j hj=>by
    rcases Nat.lt_succ_iff_lt_or_eq.1 hj with hj | rfl
    ·exact hq j hj
    ·rw [hx];simpa using fun e=>h e.symm
 ·intro hq
  refine r17_index.G3 ?_
  have hi:=idxI_none (p:=fun x=>decide (v = x)) (l:=l) hq
  push_cast [inlt (Nat.le_refl _)]
  exact pf_ret (by push_cast [r17_index.rs,hi])
def cap (n:Nat):Nat:=if n < 1099511627776 then n else 1099511627776
theorem cap_le (n:Nat):cap n≤1099511627776:=by unfold cap;split <;> omega
theorem cap_step (a b:Nat):(if ((cap a:Int)+(cap b:Int)) < 1099511627776 then (cap a:Int)+(cap b:Int) else 1099511627776) = ((cap (a+b):Nat):Int):=by
 unfold cap;split <;> split <;> split <;> split <;> omega
theorem cap_one:(1:Int) = ((cap 1:Nat):Int):=rfl
theorem depths_map_le {f:Term→Term} {D:Nat}:∀ {l:List Term},(∀ a∈l,depth (f a)≤D)→depths (l.map f)≤D
 | [],_=>by simp [depths]
 | a :: l,h=>by
  simp only [List.map_cons,depths]
  have h1:=h a (by simp)
  have h2:=depths_map_le (f:=f) (l:=l) fun b hb=>h b (by simp [hb])
  omega
theorem depth_getD {l:List Term} {k:Nat}:depth (l.getD k default)≤max 1 (depths l):=by
 by_cases h:k < l.length
 ·have:=depth_mem (getD_mem h);omega
 ·rw [List.getD_eq_getElem?_getD,List.getElem?_eq_none (by omega)]
  exact Nat.le_max_left _ _
theorem depth_plug (vars:List Str) (x:List Term) (t:Term):depth (plugT vars x t)≤depth t+depths x:=by
 induction t using term_ind with
 | h t ih =>
  have hda:=depth_args t
  rw [plugT_eq]
  split
  ·have:=depth_getD (l:=x) (k:=ixS t.name vars);omega
  ·simp only [depth]
   have:=depths_map_le (f:=plugT vars x) (D:=depths t.args+depths x) (l:=t.args) fun a ha=>by
    have:=ih a ha
    have:=depth_mem ha
    omega
   omega
theorem depth_side (r:List ARule) (f:ARule→Term) {B:Nat} (hB:∀ x∈r,depth (f x)≤B) (m:AMulti) (hok:OkM r m):depth (sideM r f m)≤mdepth m * (1+B):=by
 induction m using multi_ind with
 | h m ih =>
  have hd:depths (m.args.map (sideM r f))≤mdepths m.args * (1+B):=by
   have:∀ l:List AMulti,(∀ a∈l,depth (sideM r f a)≤mdepth a * (1+B))→depths (l.map (sideM r f))≤mdepths l * (1+B):=by
    intro l
    induction l with
    | nil=>intro _;simp [depths]
    | cons a l ihl =>
     intro h
     have h1:=h a (by simp)
     have h2:=ihl fun b hb=>h b (by simp [hb])
     simp only [List.map_cons,depths,mdepths]
     have h3:mdepth a * (1+B)≤max (mdepth a) (mdepths l) * (1+B):=Nat.mul_le_mul_right _ (Nat.le_max_left _ _)
     have h4:mdepths l * (1+B)≤max (mdepth a) (mdepths l) * (1+B):=Nat.mul_le_mul_right _ (Nat.le_max_right _ _)
     omega
   exact this m.args fun a ha=>ih a ha (hok.arg ha)
  rw [sideM_eq,mdepth_args,Nat.succ_mul]
  split
  ·simp only [depth];omega
  ·rename_i h0
   have:=depth_plug (varsOf [(ruleOf r m).left]) (m.args.map (sideM r f)) (f (ruleOf r m))
   have:=hB _ (hok.rule h0).2.2.1
   omega
theorem r17_filled_s (vars:List Str) (x:List Term) (hva:vars.length≤x.length) (hl:vars.length < 2^40) (D:Nat) (hD:depths x≤D) (hD2:D < 2^40) (t:Term) (ht:size t < 2^40) (ho:∀ v,occ v t = true→v∈vars) :
  PF n_r17_filled [encT t,encSs vars,encP (x.map fun a=>((cap (size a):Nat):Int)),encP (x.map fun a=>((depth a:Nat):Int))] (.tup [.int .i64 (cap (size (plugT vars x t)):Nat),.int .i64 (depth (plugT vars x t):Nat)]):=by
 induction t using term_ind with
 | h t ih =>
 have hst:=size_args t
 have hll:=length_le_sizes t.args
 have hdz:=depth_le_size t
 have hdp:=depth_plug vars x t
 refine pf_of r17_filled.ok rfl ?_
 rw [plugT_eq] at hdp ⊢
 cases hv:t.var with
 | true =>
  obtain ⟨h1,h2,h3⟩:=idxI_ix (ho _ (occ_self hv))
  have hI:=r17_index_s vars t.name (by omega)
  rw [h1] at hI
  have hlt:((ixS t.name vars:Int) < (x.length:Int)) = True:=eq_true (by omega)
  have hix:ixS t.name vars < x.length:=by omega
  have hg1:(x.map fun a=>((cap (size a):Nat):Int)).getD (ixS t.name vars) default = (cap (size (x.getD (ixS t.name vars) default)):Nat):=by
   simp [List.getD_eq_getElem?_getD,hix]
  have hg2:(x.map fun a=>((depth a:Nat):Int)).getD (ixS t.name vars) default = (depth (x.getD (ixS t.name vars) default):Nat):=by
   simp [List.getD_eq_getElem?_getD,hix]
  push_cast [hv]
  refine .of hI ?_
  push_cast [hlt,hg1,hg2]
  refine ⟨by rw [List.length_map];omega,by rw [List.length_map];omega,pf_ret ?_⟩
  push_cast [r17_filled.rs]
 | false =>
  rw [hv,if_neg (by simp)] at hdp
  rw [if_neg (by simp)]
  simp only [size,depth] at hdp ⊢
  push_cast [hv]
  rw [cap_one]
  refine loop_up (n:=t.args.length) (R:=fun k=>r17_filled.L3 (encSs vars) (encP (x.map fun a=>((cap (size a):Nat):Int))) (encP (x.map fun a=>((depth a:Nat):Int))) (.int .i64 (cap (1+sizes ((t.args.take k).map (plugT vars x))):Nat)) (.int .i64 (depths ((t.args.take k).map (plugT vars x)):Nat)) (encTs t.args) (.int .i64 t.args.length) (.int .i64 k) 0 []
   (Ends 0 r17_filled.rs fun x' H'=>x' = .tup [.int .i64 (cap (1+sizes (t.args.map (plugT vars x))):Nat),.int .i64 ((depths (t.args.map (plugT vars x))+1:Nat):Int)]∧H' = [])) ?_ ?_ 0 (by omega)
  ·intro k hk ih2
   have hm:=getD_mem hk
   have hm2:=size_mem hm
   have hs1:sizes ((t.args.take (k+1)).map (plugT vars x)) = sizes ((t.args.take k).map (plugT vars x))+size (plugT vars x (t.args.getD k default)):=by
    rw [take_succ_getD hk,List.map_append,sizes_append];simp [sizes]
   have hd1:depths ((t.args.take (k+1)).map (plugT vars x)) = max (depths ((t.args.take k).map (plugT vars x))) (depth (plugT vars x (t.args.getD k default))):=by
    rw [take_succ_getD hk,List.map_append,depths_append];simp [depths]
   rw [hs1,hd1,← Nat.add_assoc] at ih2
   have hc1:=cap_le (1+sizes ((t.args.take k).map (plugT vars x)))
   have hc2:=cap_le (size (plugT vars x (t.args.getD k default)))
   refine r17_filled.G3 ?_
   push_cast [ilt hk]
   refine .of (ih _ hm (by omega) fun v hv2=>ho v (occ_arg hm hv2)) ?_
   have hst2:=cap_step (1+sizes ((t.args.take k).map (plugT vars x))) (size (plugT vars x (t.args.getD k default)))
   generalize size (plugT vars x (t.args.getD k default)) = sa at ih2 hc2 hst2 ⊢
   generalize depth (plugT vars x (t.args.getD k default)) = da at ih2 ⊢
   generalize 1+sizes ((t.args.take k).map (plugT vars x)) = sb at ih2 hc1 hst2 ⊢
   have hw:IntKind.i64.wrap ((cap sb:Int)+(cap sa:Int)) = (cap sb:Int)+(cap sa:Int):=wrap64 (by omega) (by omega)
   push_cast [hw,hst2,w64 (show k < 2^62 by omega)]
   exact ih2
  ·refine r17_filled.G3 ?_
   push_cast [inlt (Nat.le_refl _),List.take_length]
   rw [wrap64 (by omega) (by omega)]
   refine pf_ret ?_
   push_cast [r17_filled.rs]
   try rfl
end Go.Dw
end
section
namespace Go.Dw
theorem r17_Measure_s (r:List ARule) (b:Bool) (hr:rbs r < 2^28) (hvs:∀ x∈r,∀ v,occ v (sd b x) = true→v∈varsOf [x.left]) (m:AMulti) (hok:OkM r m) (hm:msize m < 2^30) (hmd:mdepth m≤200) :
  PF n_r17_Measure [encRs r,encM m,.bool b] (.tup [.int .i64 (cap (size (sideM r (sd b) m)):Nat),.int .i64 (depth (sideM r (sd b) m):Nat)]):=by
 induction m using multi_ind with
 | h m ih =>
 have hst:=msize_args m
 have hdt:=mdepth_args m
 have hll:=length_le_msizes m.args
 have hsdz:∀ x∈r,size (sd b x) < 268435456:=fun x hx=>by
  have:=rbs_mem hx
  have:=size_le_tb x.left
  have:=size_le_tb x.right
  cases b <;> (simp only [sd,if_true,if_false,Bool.false_eq_true];omega)
 have hdm:∀ a∈m.args,depth (sideM r (sd b) a)≤53687091400:=fun a ha=>by
  have h1:=depth_side r (sd b) (B:=268435456) (fun x hx=>by have:=hsdz x hx;have:=depth_le_size (sd b x);omega) a (hok.arg ha)
  have h2:mdepth a≤mdepths m.args:=by
   have:∀ l:List AMulti,a∈l→mdepth a≤mdepths l:=by
    intro l
    induction l with
    | nil=>intro h;cases h
    | cons x xs ihx=>intro h;rcases List.mem_cons.1 h with rfl | h <;> simp only [mdepths];omega;have:=ihx h;omega
   exact this _ ha
  have h3:mdepth a * (1+268435456)≤200 * (1+268435456):=Nat.mul_le_mul_right _ (by omega)
  omega
 have hds:depths (m.args.map (sideM r (sd b)))≤53687091400:=by
  have:∀ l:List AMulti,(∀ a∈l,depth (sideM r (sd b) a)≤53687091400)→depths (l.map (sideM r (sd b)))≤53687091400:=by
   intro l
   induction l with
   | nil=>intro _;simp [depths]
   | cons a l ihl =>
    intro h
    have h1:=h a (by simp)
    have h2:=ihl fun c hc=>h c (by simp [hc])
    simp only [List.map_cons,depths];omega
  exact this _ hdm
 refine pf_of r17_Measure.ok rfl ?_
 push_cast
 rw [cap_one]
 refine loop_up (n:=m.args.length) (R:=fun k=>r17_Measure.L4 (encRs r) (.bool b) (.ro (cM m) 0) (ownL cI 0 1 (((m.args.take k).map (sideM r (sd b))).map fun a=>((cap (size a):Nat):Int))) (ownL cI 1 1 (((m.args.take k).map (sideM r (sd b))).map fun a=>((depth a:Nat):Int))) (.int .i64 (cap (1+sizes ((m.args.take k).map (sideM r (sd b)))):Nat)) (.int .i64 (depths ((m.args.take k).map (sideM r (sd b))):Nat)) (encMs m.args) (.int .i64 m.args.length) (.int .i64 k) 0 [.arr t_int 1 k,.arr t_int 1 k]
  (Ends 0 r17_Measure.rs fun x' H'=>x' = .tup [.int .i64 (cap (size (sideM r (sd b) m)):Nat),.int .i64 (depth (sideM r (sd b) m):Nat)]∧H' = [])) ?_ ?_ 0 (by omega)
 ·intro k hk ih2
  have hmm:=getD_mem hk
  have hm2:=msize_mem hmm
  have hmd2:mdepth (m.args.getD k default)≤200:=by
   have:∀ l:List AMulti,∀ a∈l,mdepth a≤mdepths l:=by
    intro l a
    induction l with
    | nil=>intro h;cases h
    | cons x xs ihx=>intro h;rcases List.mem_cons.1 h with rfl | h <;> simp only [mdepths];omega;have:=ihx h;omega
   have:=this _ _ hmm
   omega
  have hdk:=hdm _ hmm
  have htk:m.args.take (k+1) = m.args.take k++[m.args.getD k default]:=take_succ_getD hk
  rw [htk,List.map_append,sizes_append,depths_append,List.map_append,List.map_append,List.map_singleton,List.map_singleton,List.map_singleton] at ih2
  simp only [sizes,depths,Nat.add_zero,Nat.max_zero] at ih2
  rw [← Nat.add_assoc] at ih2
  have hih:=ih _ hmm (hok.arg hmm) (by omega) hmd2
  have hl1:((m.args.take k).map (sideM r (sd b))).length = k:=by simp;omega
  refine r17_Measure.G4 ?_
  push_cast [ilt hk]
  refine .of hih ?_
  generalize sideM r (sd b) (m.args.getD k default) = u at ih2 hdk ⊢
  generalize (m.args.take k).map (sideM r (sd b)) = us at ih2 hl1 ⊢
  have hc1:=cap_le (1+sizes us)
  have hc2:=cap_le (size u)
  have hst2:=cap_step (1+sizes us) (size u)
  generalize 1+sizes us = sb at ih2 hc1 hst2 ⊢
  have hw:IntKind.i64.wrap ((cap sb:Int)+(cap (size u):Int)) = (cap sb:Int)+(cap (size u):Int):=wrap64 (by omega) (by omega)
  have hm1:(us.map fun a=>((cap (size a):Nat):Int)).length = k:=by rw [List.length_map,hl1]
  have hm2:(us.map fun a=>((depth a:Nat):Int)).length = k:=by rw [List.length_map,hl1]
  have e5:∀ (i:Nat) (l:List Int) (v:Int),V.own i 1 (List.map cI l++[[V.int .i64 v]]) = ownL cI i 1 (l++[v]):=fun i l v=>by simp [ownL,cI]
  push_cast [hw,hst2,hm1,hm2,e5,w64 (show k < 2^62 by omega)]
  refine ⟨by unfold maxEls;omega,by unfold maxEls;omega,?_⟩
  exact ih2
 ·refine r17_Measure.G4 ?_
  push_cast [inlt (Nat.le_refl _),List.take_length]
  rw [sideM_eq]
  by_cases h0:m.rule = 0
  ·have h0i:(0 < m.rule) = False:=eq_false (by omega)
   rw [if_pos h0]
   simp only [size,depth]
   push_cast [h0i]
   rw [wrap64 (by omega) (by omega)]
   refine pf_ret ?_
   push_cast [r17_Measure.rs]
   try rfl
  ·obtain ⟨k1,k2,k3,k4,k5,k6⟩:=hok.rule h0
   rw [if_neg h0]
   have hw:IntKind.i64.wrap (m.rule - 1) = m.rule - 1:=wrap64 (by have:=length_le_rbs r;omega) (by have:=length_le_rbs r;omega)
   have hc1:((0:Int)≤m.rule - 1) = True:=eq_true (by omega)
   have hc2:(m.rule - 1 < (r.length:Int)) = True:=eq_true (by omega)
   have hc3:(0 < m.rule) = True:=eq_true k1
   have hru:r.getD (m.rule - 1).toNat default = ruleOf r m:=rfl
   have hrm:=rbs_mem k3
   have hF:=r17_filled_s (varsOf [(ruleOf r m).left]) (m.args.map (sideM r (sd b))) (by rw [List.length_map,k4];exact Nat.le_refl _) (by rw [← k4];omega) 53687091400 hds (by omega) (sd b (ruleOf r m)) (by have:=hsdz _ k3;omega) (hvs _ k3)
   push_cast [hc3,hw,hc1,hc2,hru]
   refine .of (r17_side_s (ruleOf r m) b) ?_
   push_cast [hc3,hw,hc1,hc2,hru]
   refine .of (r17_Vars_s (ruleOf r m) (by omega)) ?_
   push_cast
   refine .of hF ?_
   push_cast
   exact pf_ret (by push_cast [r17_Measure.rs])
def bindL (vars:List Str) (x:List Term):List ABind:=List.zipWith ABind.mk vars x
theorem image_bindL {v:Str}:∀ {vars:List Str} {x:List Term},v∈vars→vars.length≤x.length→image (bindL vars x) v = some (x.getD (ixS v vars) default)
 | [],_,h,_=>by cases h
 | w :: vars,[],_,hl=>by simp at hl
 | w :: vars,u :: x,h,hl=>by
  simp only [bindL,List.zipWith_cons_cons,image]
  unfold ixS
  simp only [idxI]
  by_cases he:v = w
  ·subst he;simp
  ·have hm:v∈vars:=(List.mem_cons.1 h).resolve_left he
   obtain ⟨h1,h2,h3⟩:=idxI_ix hm
   have hd:decide (v = w) = false:=by simpa using he
   have ih:=image_bindL (x:=x) hm (by simpa using hl)
   unfold bindL at ih
   rw [if_neg (fun e=>he e.symm)]
   simp only [hd,Bool.false_eq_true,if_false]
   rw [h1,ih]
   have hn:¬ ((ixS v vars:Nat):Int) < 0:=by omega
   have h4:(((ixS v vars:Nat):Int)+1).toNat = ixS v vars+1:=by omega
   simp only [hn,if_false,h4]
   simp [List.getD_eq_getElem?_getD]
theorem inst_bindL (vars:List Str) (x:List Term) (hl:vars.length≤x.length) (t:Term) (ho:∀ v,occ v t = true→v∈vars):inst (bindL vars x) t = plugT vars x t:=by
 induction t using term_ind with
 | h t ih =>
  rw [inst_eq,plugT_eq]
  cases hv:t.var with
  | true=>rw [if_pos rfl,if_pos rfl,image_bindL (ho _ (occ_self hv)) hl];rfl
  | false =>
   rw [if_neg (by simp),if_neg (by simp)]
   congr 1
   exact List.map_congr_left fun a ha=>ih a ha fun v hv2=>ho v (occ_arg ha hv2)
theorem bindL_take {vars:List Str} {x:List Term} {k:Nat} (hk:k < vars.length) (hl:vars.length≤x.length):bindL (vars.take (k+1)) x = bindL (vars.take k) x++[⟨vars.getD k default,x.getD k default⟩]:=by
 unfold bindL
 apply List.ext_getElem?
 intro i
 have hx:k < x.length:=by omega
 by_cases h1:i < k
 ·rw [List.getElem?_append_left (by simp;omega)]
  simp [List.getElem?_zipWith,List.getElem?_take,h1,show i < k+1 by omega]
 ·by_cases h2:i = k
  ·subst h2
   rw [List.getElem?_append_right (by simp;omega)]
   simp [List.getElem?_zipWith,List.getElem?_take,hk,hx,List.getD_eq_getElem?_getD,show min i vars.length = i by omega,show min i x.length = i by omega]
  ·rw [List.getElem?_eq_none (by simp;omega),List.getElem?_eq_none (by simp;omega)]
end Go.Dw
end
section
namespace Go.Dw
theorem own_bind' {i:Nat} {l:List ABind} {n:Str} {t:Term}:(.own i 4 (l.map cB++[V.str n :: cT t]):V) = ownL cB i 4 (l++[⟨n,t⟩]):=by simp [ownL,cB]
theorem r17_build_s (r:List ARule) (b:Bool) (hr:rbs r < 2^28) (hvs:∀ x∈r,∀ v,occ v (sd b x) = true→v∈varsOf [x.left]) (m:AMulti) (hok:OkM r m) (hm:msize m < 2^30) :
  PF n_r17_build [encRs r,encM m,.bool b] (encT (sideM r (sd b) m)):=by
 induction m using multi_ind with
 | h m ih =>
 have hst:=msize_args m
 have hll:=length_le_msizes m.args
 refine pf_of r17_build.ok rfl ?_
 rw [sideM_eq]
 push_cast
 refine loop_up (n:=m.args.length) (R:=fun k=>r17_build.L8 (encRs r) (.bool b) (.ro (cM m) 0) (.ptr 0 0) (ownL cT 1 3 ((m.args.take k).map (sideM r (sd b)))) (encMs m.args) (.int .i64 m.args.length) (.int .i64 k) 0 [.cells t_Term [.str [],.bool false,.sl 3 []],.arr t_Term 3 k] _) ?_ ?_ 0 (by omega)
 ·intro k hk ih2
  have hmm:=getD_mem hk
  have hm2:=msize_mem hmm
  have hlen:((m.args.take k).map (sideM r (sd b))).length = k:=by simp;omega
  rw [take_succ_getD hk,List.map_append,List.map_singleton] at ih2
  refine r17_build.G8 ?_
  push_cast [ilt hk]
  refine .of (ih _ hmm (hok.arg hmm) (by omega)) ?_
  push_cast [hlen,w64 (show k < 2^62 by omega)]
  exact ⟨Nat.le_trans (Nat.mul_le_mul_right 48 (show _≤2^41 by omega)) (by unfold maxEls;decide),ih2⟩
 ·refine r17_build.G8 ?_
  push_cast [inlt (Nat.le_refl _),List.take_length]
  by_cases h0:m.rule = 0
  ·push_cast [eq_true h0]
   refine pf_ret ?_
   push_cast [r17_build.rs]
   show V.agg [.str m.name,.bool m.var,encTs (m.args.map (sideM r (sd b)))] = encT (.mk m.name m.var (m.args.map (sideM r (sd b))))
   unfold encT;rw [cT_eq];rfl
  ·obtain ⟨k1,k2,k3,k4,k5,k6⟩:=hok.rule h0
   have hw:IntKind.i64.wrap (m.rule - 1) = m.rule - 1:=wrap64 (by have:=length_le_rbs r;omega) (by have:=length_le_rbs r;omega)
   have hc1:((0:Int)≤m.rule - 1) = True:=eq_true (by omega)
   have hc2:(m.rule - 1 < (r.length:Int)) = True:=eq_true (by omega)
   have hru:r.getD (m.rule - 1).toNat default = ruleOf r m:=rfl
   have hrm:=rbs_mem k3
   have hzl:=size_le_tb (ruleOf r m).left
   have hzr:=size_le_tb (ruleOf r m).right
   push_cast [eq_false h0,hw,hc1,hc2,hru]
   refine .of (r17_Vars_s (ruleOf r m) (by omega)) ?_
   push_cast
   have hxl:(m.args.map (sideM r (sd b))).length = m.args.length:=List.length_map ..
   have hbi:=inst_bindL (varsOf [(ruleOf r m).left]) (m.args.map (sideM r (sd b))) (by rw [hxl,k4];exact Nat.le_refl _) (sd b (ruleOf r m)) (hvs _ k3)
   generalize hvv:varsOf [(ruleOf r m).left] = vars at k4 hbi ⊢
   generalize hxx:m.args.map (sideM r (sd b)) = x at hxl hbi ⊢
   have hvl:vars.length≤x.length:=by omega
   have h9:=loop_up (n:=vars.length) (R:=fun k=>r17_build.L3 (.bool b) (.ptr 0 0) (ownL cT 1 3 x) (.ro (cR (ruleOf r m)) 0) (ownL cB 3 4 (bindL (vars.take k) x)) (encSs vars) (.int .i64 vars.length) (.int .i64 k) 0 [.cells t_Term [.str [],.bool false,.sl 3 []],.arr t_Term 3 m.args.length,.dead,.arr t_Bind 4 k] (Ends 0 r17_build.rs fun x' H'=>x' = encT (plugT vars x (sd b (ruleOf r m)))∧H' = [])) ?_ ?_ 0 (by omega)
   ·simp only [List.take_zero,bindL,List.zipWith_nil_left] at h9
    exact h9
   ·intro k hk ih2
    have hkx:((k:Int) < (x.length:Int)) = True:=eq_true (by omega)
    have hbl:(bindL (vars.take k) x).length = k:=by unfold bindL;simp;omega
    rw [bindL_take hk hvl] at ih2
    refine r17_build.G3 ?_
    push_cast [ilt hk,hkx,hbl,w64 (show k < 2^62 by omega)]
    refine ⟨by unfold maxEls;omega,?_⟩
    rw [own_bind']
    exact ih2
   ·refine r17_build.G3 ?_
    push_cast [inlt (Nat.le_refl _),List.take_length]
    refine .of (r17_side_s (ruleOf r m) b) ?_
    push_cast
    refine .of (r01_Apply_s (bindL vars x) (by unfold bindL;simp;omega) (sd b (ruleOf r m)) (by cases b <;> (simp only [sd,if_true,if_false,Bool.false_eq_true];omega))) ?_
    rw [hbi]
    push_cast
    exact pf_ret (by push_cast [r17_build.rs])
theorem cap_gt (n:Nat):4000 < cap n ↔ 4000 < n:=by unfold cap;split <;> omega
def termM (r:List ARule) (f:ARule→Term) (m:AMulti):Option Term × Int:=if fits (sideM r f m) then (some (sideM r f m),0) else (none,3)
theorem r17_Term_s (r:List ARule) (b:Bool) (hr:rbs r < 2^28) (hvs:∀ x∈r,∀ v,occ v (sd b x) = true→v∈varsOf [x.left]) (m:AMulti) (hok:OkM r m) (hm:msize m < 2^30) (hmd:mdepth m≤200) :
  PF n_r17_Term [encRs r,encM m,.bool b] (encTE (termM r (sd b) m).1 (termM r (sd b) m).2):=by
 refine pf_of r17_Term.ok rfl ?_
 push_cast
 refine .of (r17_Measure_s r b hr hvs m hok hm hmd) ?_
 have hB:=r17_build_s r b hr hvs m hok hm
 unfold termM fits
 generalize sideM r (sd b) m = t at hB ⊢
 have hcg:=cap_gt (size t)
 by_cases h1:4000 < size t
 ·have hi:((4000:Int) < (cap (size t):Int)) = True:=eq_true (by omega)
  have h1':decide (size t≤4000) = false:=by simp;omega
  rw [h1']
  push_cast [hi]
  exact pf_ret (by push_cast [r17_Term.rs];rfl)
 ·have hi:((4000:Int) < (cap (size t):Int)) = False:=eq_false (by omega)
  have h1':decide (size t≤4000) = true:=by simp;omega
  rw [h1']
  by_cases h2:200 < depth t
  ·have hj:((200:Int) < (depth t:Int)) = True:=eq_true (by omega)
   have h2':decide (depth t≤200) = false:=by simp;omega
   rw [h2']
   push_cast [hi,hj]
   exact pf_ret (by push_cast [r17_Term.rs];rfl)
  ·have hj:((200:Int) < (depth t:Int)) = False:=eq_false (by omega)
   have h2':decide (depth t≤200) = true:=by simp;omega
   rw [h2']
   push_cast [hi,hj]
   refine .of hB ?_
   push_cast
   exact pf_ret (by push_cast [r17_Term.rs];try rfl)
theorem sd_left:sd false = ARule.left:=rfl
theorem sd_right:sd true = ARule.right:=rfl
theorem endM_term {r:List ARule} {f:ARule→Term} {m:AMulti} (h:checkM r m = 0):endM r f m = termM r f m:=by
 unfold endM termM;rw [if_neg (by simpa using h)]
theorem l17_none_z:PF n_l17_none [encT noT] (.bool true):=by
 have h1:noT.name = []:=rfl
 have h2:noT.var = false:=rfl
 have h3:noT.args = []:=rfl
 refine pf_of l17_none.ok rfl ?_
 push_cast [h1,h2,h3]
 exact pf_ret (by push_cast [l17_none.rs];try rfl)
theorem short_def:short (default:Term) = true:=by decide
theorem plug_short (vars:List Str) (x:List Term) (hx:∀ a∈x,short a = true) (t:Term) (ht:short t = true):short (plugT vars x t) = true:=by
 induction t using term_ind with
 | h t ih =>
  obtain ⟨h1,h2,h3⟩:=short_iff.1 ht
  rw [plugT_eq]
  split
  ·by_cases hk:ixS t.name vars < x.length
   ·exact hx _ (getD_mem hk)
   ·rw [List.getD_eq_getElem?_getD,List.getElem?_eq_none (by omega)];exact short_def
  ·refine short_iff.2 ⟨h1,fun h=>(by cases h),fun a ha=>?_⟩
   obtain ⟨u,hu,rfl⟩:=List.mem_map.1 ha
   exact ih u hu (h3 u hu)
theorem side_short (r:List ARule) (f:ARule→Term) (hf:∀ x∈r,short (f x) = true) (m:AMulti) (hok:OkM r m):short (sideM r f m) = true:=by
 induction m using multi_ind with
 | h m ih =>
  have hx:∀ a∈m.args.map (sideM r f),short a = true:=fun a ha=>by
   obtain ⟨u,hu,rfl⟩:=List.mem_map.1 ha
   exact ih u hu (hok.arg hu)
  rw [sideM_eq]
  split
  ·rename_i h0
   have hfm:=allM_self hok.fm
   unfold formedM at hfm
   rw [if_neg (by omega)] at hfm
   cases hv:m.var with
   | true =>
    rw [hv,if_pos rfl,Bool.and_eq_true,decide_eq_true_eq] at hfm
    have hn:isName m.name false = true:=hfm.2
    unfold isName at hn
    rw [Bool.and_eq_true,decide_eq_true_eq] at hn
    have ha:m.args = []:=List.length_eq_zero_iff.1 hfm.1
    exact short_iff.2 ⟨hn.1,fun _=>(by show m.args.map _ = [];rw [ha];rfl),hx⟩
   | false =>
    rw [hv,if_neg (by simp),Bool.and_eq_true] at hfm
    have hn:isName m.name true = true:=hfm.2
    unfold isName at hn
    rw [Bool.and_eq_true,decide_eq_true_eq] at hn
    exact short_iff.2 ⟨hn.1,fun h=>(by cases h),hx⟩
  ·rename_i h0
   exact plug_short _ _ hx _ (hf _ (hok.rule h0).2.2.1)
set_option maxHeartbeats 2000000 in
theorem MultiEnds_s (r:List ARule) (m:AMulti) (hr:rbs r < 2^28) (hm:mb m < 2^28) :
  SpecE prog n_l17_MultiEnds [encRs r,encM m] [] (fun x' H'=>x' = .bool true∧H' = []):=by
 have hsz:=msize_le_mb m
 have hS:=multi_Source_s r m (by omega) (by omega)
 have hT:=multi_Target_s r m (by omega) (by omega)
 refine spece_of_run mixed l17_MultiEnds.ok rfl ?_
 by_cases h1:checkM r m = 0
 ·obtain ⟨c1,c2,c3,c4⟩:=checkM_ok h1
  have hA:=r17_Term_s r false (by omega) (fun x _=>varsOf_left x) m c2 (by omega) c4
  have hB:=r17_Term_s r true (by omega) (varsOf_right c1) m c2 (by omega) c4
  rw [sd_left,← endM_term h1] at hA
  rw [sd_right,← endM_term h1] at hB
  have hE:∀ f,(∀ x∈r,short (f x) = true)→endM r f m = (none,3) ∨ ∃ t,endM r f m = (some t,0)∧tb t < 2^62:=fun f hf=>by
   rw [endM_term h1];unfold termM
   split
   ·rename_i hft
    have h2:=tb_short _ (side_short r f hf m c2)
    have h3:=fits_size hft
    exact .inr ⟨_,rfl,by omega⟩
   ·exact .inl rfl
  have hEl:=hE ARule.left (fun x hx=>(checkSystem_good c1 x hx).1.1)
  have hEr:=hE ARule.right (fun x hx=>(checkSystem_good c1 x hx).2.1)
  have hfin:∀ (o1 o2:Option Term) (e1 e2:Int),(∀ t,o1 = some t→tb t < 2^62)→(∀ t,o2 = some t→tb t < 2^62)→PF n_multi_Source [encRs r,encM m] (encTE o1 e1)→PF n_multi_Target [encRs r,encM m] (encTE o2 e2)→PF n_r17_Term [encRs r,encM m,.bool false] (encTE o1 e1)→PF n_r17_Term [encRs r,encM m,.bool true] (encTE o2 e2) →
    Run prog l17_MultiEnds.nd 0 [.c l17_MultiEnds.body] (ini 0 [encRs r,encM m]) [] (Ends 0 l17_MultiEnds.rs fun x' H'=>x' = .bool true∧H' = []):=by
   intro o1 o2 e1 e2 ht1 ht2 hS hT hA hB
   have hz:∀ (o:Option Term) (e:Int),(∀ t,o = some t→tb t < 2^62)→∃ t,encTE o e = .tup [encT t,.int .i64 e]∧tb t < 2^62:=fun o e ho=>by
    cases o with
    | none=>exact ⟨noT,rfl,by decide⟩
    | some t=>exact ⟨t,rfl,ho t rfl⟩
   obtain ⟨t1,q1,b1⟩:=hz o1 e1 ht1
   obtain ⟨t2,q2,b2⟩:=hz o2 e2 ht2
   rw [q1] at hS hA
   rw [q2] at hT hB
   have E1:=r01_Equal_s t1 t1 b1 b1
   have E2:=r01_Equal_s t2 t2 b2 b2
   push_cast
   refine .of hS ?_
   push_cast
   refine .of hT ?_
   push_cast
   refine .of (r17_Check_s r m (by omega) (by omega)) ?_
   push_cast [h1]
   refine .of hA ?_
   push_cast
   refine .of hB ?_
   push_cast
   refine .of E1 ?_
   push_cast
   refine .of E2 ?_
   push_cast
   refine .of alive17 ?_
   push_cast
   exact pf_ret (by push_cast [l17_MultiEnds.rs])
  have hb:∀ o:Option Term × Int,(o = (none,3) ∨ ∃ t,o = (some t,0)∧tb t < 2^62)→∀ t,o.1 = some t→tb t < 2^62:=fun o ho t ht=>by
   rcases ho with rfl | ⟨u,rfl,hu⟩
   ·cases ht
   ·cases ht;exact hu
  exact hfin _ _ _ _ (hb _ hEl) (hb _ hEr) hS hT hA hB
 ·have hEl:endM r ARule.left m = (none,checkM r m):=by unfold endM;rw [if_pos h1]
  have hEr:endM r ARule.right m = (none,checkM r m):=by unfold endM;rw [if_pos h1]
  rw [hEl] at hS
  rw [hEr] at hT
  unfold encTE at hS hT
  push_cast
  refine .of hS ?_
  push_cast
  refine .of hT ?_
  push_cast
  refine .of (r17_Check_s r m (by omega) (by omega)) ?_
  push_cast [eq_false h1]
  refine .of l17_none_z ?_
  push_cast
  refine .of l17_none_z ?_
  push_cast
  refine .of alive17 ?_
  push_cast
  exact pf_ret (by push_cast [l17_MultiEnds.rs])
end Go.Dw
end
