/-
  Contracts and lemmas for ResidualCube: part e of 8.
-/
import Derived.Test.YtkdcfkfdkimaeaaGreatDoorCad
import Derived.Lib.Bytealg
import Derived.Laws.Externs
import Derived.Ground.NamesProg
import Derived.Shelf.Slices.In.SortAlone
import Derived.Shelf.Slices.In.SortNone
import Derived.Sort.EveryDepth
import Derived.Sort.Grow
import Derived.Sort.KeysCollected
import Derived.Shelf.Spec.SlicesInsert
import Derived.Lib.AppendZerosOnto
import Derived.ArgAppend
import Derived.Shelf.Spec.SlicesGrow
import Derived.Test.YtkdcfkfdkimaeaaGreatDoorRows
import Derived.WalkKit
import Derived.ProofKit
import Derived.OpenShut
import Derived.JoinedCond
import Derived.ReadAgain
import Derived.Carry
set_option linter.unusedVariables false
set_option linter.unusedSimpArgs false
set_option maxRecDepth 100000
section
namespace Go.Dw
theorem slices_IndexFunc_s_byte_byte_s {p:UInt8→Bool} {g:Nat} {caps:List V} (hc:∀ σ,rens σ caps = caps) (l:List UInt8) (hl:l.length < 2^62) (h:∀ a∈l,PF g (.int .u8 a.toNat :: caps) (.bool (p a))) :
  PF n_slices_IndexFunc_s_byte_byte [encL cU8 1 l,.fn (.func g) [] caps] (.int .i64 (idxI p l)):=by
 refine pf_of slices_IndexFunc_s_byte_byte.ok rfl ?_
 push_cast [hc]
 refine loop_up (n:=l.length) (R:=fun k=>(∀ j,j < k→p (l.getD j default) = false)→slices_IndexFunc_s_byte_byte.L3 (encL cU8 1 l) (.fn (.func g) [] caps) (.int .i64 l.length) (.int .i64 k) 0 [] _) ?_ ?_ 0 (by omega) (by intro j hj;omega)
 ·intro k hk ih hq
  refine slices_IndexFunc_s_byte_byte.G3 ?_
  push_cast [ilt hk,cU8_0,cS_0,hc]
  refine .of (h _ (getD_mem hk)) ?_
  push_cast [w64 (show k < 2^62 by omega),hc]
  refine ⟨fun hp=>pf_ret ?_,fun hp=>?_⟩
  ·push_cast [slices_IndexFunc_s_byte_byte.rs]
   rw [idxI_some hk hp hq]
  ·exact ih fun j hj=>by rcases Nat.lt_succ_iff_lt_or_eq.1 hj with h | rfl;exact hq j h;exact hp
 ·intro hq
  refine slices_IndexFunc_s_byte_byte.G3 ?_
  push_cast [inlt (Nat.le_refl _)]
  refine pf_ret ?_
  push_cast [slices_IndexFunc_s_byte_byte.rs]
  rw [idxI_none hq]
theorem slices_ContainsFunc_s_byte_byte_s {p:UInt8→Bool} {g:Nat} {caps:List V} (hc:∀ σ,rens σ caps = caps) (l:List UInt8) (hl:l.length < 2^62) (h:∀ a∈l,PF g (.int .u8 a.toNat :: caps) (.bool (p a))) :
  PF n_slices_ContainsFunc_s_byte_byte [encL cU8 1 l,.fn (.func g) [] caps] (.bool (l.any p)):=by
 refine pf_of slices_ContainsFunc_s_byte_byte.ok rfl ?_
 push_cast [hc]
 refine .of (slices_IndexFunc_s_byte_byte_s hc l hl h) ?_
 push_cast [hc]
 refine pf_ret ?_
 push_cast [slices_ContainsFunc_s_byte_byte.rs,idxI_any]
theorem slices_IndexFunc_s_Term_Term_s {p:Term→Bool} {g:Nat} {caps:List V} (hc:∀ σ,rens σ caps = caps) (l:List Term) (hl:l.length < 2^62) (h:∀ a∈l,PF g (encT a :: caps) (.bool (p a))) :
  PF n_slices_IndexFunc_s_Term_Term [encL cT 3 l,.fn (.func g) [] caps] (.int .i64 (idxI p l)):=by
 refine pf_of slices_IndexFunc_s_Term_Term.ok rfl ?_
 push_cast [hc]
 refine loop_up (n:=l.length) (R:=fun k=>(∀ j,j < k→p (l.getD j default) = false)→slices_IndexFunc_s_Term_Term.L3 (encL cT 3 l) (.fn (.func g) [] caps) (.int .i64 l.length) (.int .i64 k) 0 [] _) ?_ ?_ 0 (by omega) (by intro j hj;omega)
 ·intro k hk ih hq
  refine slices_IndexFunc_s_Term_Term.G3 ?_
  push_cast [ilt hk,cU8_0,cS_0,hc]
  refine .of (h _ (getD_mem hk)) ?_
  push_cast [w64 (show k < 2^62 by omega),hc]
  refine ⟨fun hp=>pf_ret ?_,fun hp=>?_⟩
  ·push_cast [slices_IndexFunc_s_Term_Term.rs]
   rw [idxI_some hk hp hq]
  ·exact ih fun j hj=>by rcases Nat.lt_succ_iff_lt_or_eq.1 hj with h | rfl;exact hq j h;exact hp
 ·intro hq
  refine slices_IndexFunc_s_Term_Term.G3 ?_
  push_cast [inlt (Nat.le_refl _)]
  refine pf_ret ?_
  push_cast [slices_IndexFunc_s_Term_Term.rs]
  rw [idxI_none hq]
theorem slices_ContainsFunc_s_Term_Term_s {p:Term→Bool} {g:Nat} {caps:List V} (hc:∀ σ,rens σ caps = caps) (l:List Term) (hl:l.length < 2^62) (h:∀ a∈l,PF g (encT a :: caps) (.bool (p a))) :
  PF n_slices_ContainsFunc_s_Term_Term [encL cT 3 l,.fn (.func g) [] caps] (.bool (l.any p)):=by
 refine pf_of slices_ContainsFunc_s_Term_Term.ok rfl ?_
 push_cast [hc]
 refine .of (slices_IndexFunc_s_Term_Term_s hc l hl h) ?_
 push_cast [hc]
 refine pf_ret ?_
 push_cast [slices_ContainsFunc_s_Term_Term.rs,idxI_any]
theorem slices_IndexFunc_s_Rule_Rule_s {p:ARule→Bool} {g:Nat} {caps:List V} (hc:∀ σ,rens σ caps = caps) (l:List ARule) (hl:l.length < 2^62) (h:∀ a∈l,PF g (encR a :: caps) (.bool (p a))) :
  PF n_slices_IndexFunc_s_Rule_Rule [encL cR 6 l,.fn (.func g) [] caps] (.int .i64 (idxI p l)):=by
 refine pf_of slices_IndexFunc_s_Rule_Rule.ok rfl ?_
 push_cast [hc]
 refine loop_up (n:=l.length) (R:=fun k=>(∀ j,j < k→p (l.getD j default) = false)→slices_IndexFunc_s_Rule_Rule.L3 (encL cR 6 l) (.fn (.func g) [] caps) (.int .i64 l.length) (.int .i64 k) 0 [] _) ?_ ?_ 0 (by omega) (by intro j hj;omega)
 ·intro k hk ih hq
  refine slices_IndexFunc_s_Rule_Rule.G3 ?_
  push_cast [ilt hk,cU8_0,cS_0,hc]
  refine .of (h _ (getD_mem hk)) ?_
  push_cast [w64 (show k < 2^62 by omega),hc]
  refine ⟨fun hp=>pf_ret ?_,fun hp=>?_⟩
  ·push_cast [slices_IndexFunc_s_Rule_Rule.rs]
   rw [idxI_some hk hp hq]
  ·exact ih fun j hj=>by rcases Nat.lt_succ_iff_lt_or_eq.1 hj with h | rfl;exact hq j h;exact hp
 ·intro hq
  refine slices_IndexFunc_s_Rule_Rule.G3 ?_
  push_cast [inlt (Nat.le_refl _)]
  refine pf_ret ?_
  push_cast [slices_IndexFunc_s_Rule_Rule.rs]
  rw [idxI_none hq]
theorem slices_ContainsFunc_s_Rule_Rule_s {p:ARule→Bool} {g:Nat} {caps:List V} (hc:∀ σ,rens σ caps = caps) (l:List ARule) (hl:l.length < 2^62) (h:∀ a∈l,PF g (encR a :: caps) (.bool (p a))) :
  PF n_slices_ContainsFunc_s_Rule_Rule [encL cR 6 l,.fn (.func g) [] caps] (.bool (l.any p)):=by
 refine pf_of slices_ContainsFunc_s_Rule_Rule.ok rfl ?_
 push_cast [hc]
 refine .of (slices_IndexFunc_s_Rule_Rule_s hc l hl h) ?_
 push_cast [hc]
 refine pf_ret ?_
 push_cast [slices_ContainsFunc_s_Rule_Rule.rs,idxI_any]
theorem slices_IndexFunc_s_string_string_s {p:Str→Bool} {g:Nat} {caps:List V} (hc:∀ σ,rens σ caps = caps) (l:List Str) (hl:l.length < 2^62) (h:∀ a∈l,PF g (.str a :: caps) (.bool (p a))) :
  PF n_slices_IndexFunc_s_string_string [encL cS 1 l,.fn (.func g) [] caps] (.int .i64 (idxI p l)):=by
 refine pf_of slices_IndexFunc_s_string_string.ok rfl ?_
 push_cast [hc]
 refine loop_up (n:=l.length) (R:=fun k=>(∀ j,j < k→p (l.getD j default) = false)→slices_IndexFunc_s_string_string.L3 (encL cS 1 l) (.fn (.func g) [] caps) (.int .i64 l.length) (.int .i64 k) 0 [] _) ?_ ?_ 0 (by omega) (by intro j hj;omega)
 ·intro k hk ih hq
  refine slices_IndexFunc_s_string_string.G3 ?_
  push_cast [ilt hk,cU8_0,cS_0,hc]
  refine .of (h _ (getD_mem hk)) ?_
  push_cast [w64 (show k < 2^62 by omega),hc]
  refine ⟨fun hp=>pf_ret ?_,fun hp=>?_⟩
  ·push_cast [slices_IndexFunc_s_string_string.rs]
   rw [idxI_some hk hp hq]
  ·exact ih fun j hj=>by rcases Nat.lt_succ_iff_lt_or_eq.1 hj with h | rfl;exact hq j h;exact hp
 ·intro hq
  refine slices_IndexFunc_s_string_string.G3 ?_
  push_cast [inlt (Nat.le_refl _)]
  refine pf_ret ?_
  push_cast [slices_IndexFunc_s_string_string.rs]
  rw [idxI_none hq]
theorem slices_ContainsFunc_s_string_string_s {p:Str→Bool} {g:Nat} {caps:List V} (hc:∀ σ,rens σ caps = caps) (l:List Str) (hl:l.length < 2^62) (h:∀ a∈l,PF g (.str a :: caps) (.bool (p a))) :
  PF n_slices_ContainsFunc_s_string_string [encL cS 1 l,.fn (.func g) [] caps] (.bool (l.any p)):=by
 refine pf_of slices_ContainsFunc_s_string_string.ok rfl ?_
 push_cast [hc]
 refine .of (slices_IndexFunc_s_string_string_s hc l hl h) ?_
 push_cast [hc]
 refine pf_ret ?_
 push_cast [slices_ContainsFunc_s_string_string.rs,idxI_any]
end Go.Dw
end
section
namespace Go.Dw
def letter (c:UInt8):Bool:=decide (97≤c.toNat∧c.toNat≤122) || decide (65≤c.toNat∧c.toNat≤90) || decide (48≤c.toNat∧c.toNat≤57) || decide (c.toNat = 95) || decide (c.toNat = 39)
theorem letter_cases {p:Prop} (c:UInt8)
  (h:∀ b1 b2 b3 b4 b5 b6 b7 b8:Bool,((97:Int)≤(c.toNat:Int)) = (b1 = true)→((c.toNat:Int)≤122) = (b2 = true)→((65:Int)≤(c.toNat:Int)) = (b3 = true)→((c.toNat:Int)≤90) = (b4 = true)→((48:Int)≤(c.toNat:Int)) = (b5 = true)→((c.toNat:Int)≤57) = (b6 = true) →
   ((c.toNat:Int) = 95) = (b7 = true)→((c.toNat:Int) = 39) = (b8 = true)→letter c = ((b1 && b2) || (b3 && b4) || (b5 && b6) || b7 || b8) →
   (b1,b2,b3,b4,b5,b6,b7,b8)∈[(false,true,false,true,false,true,false,false),(false,true,false,true,false,true,false,true),(false,true,false,true,true,true,false,false),(false,true,false,true,true,false,false,false),(false,true,true,true,true,false,false,false),(false,true,true,false,true,false,false,false),(false,true,true,false,true,false,true,false),(true,true,true,false,true,false,false,false),(true,false,true,false,true,false,false,false)]→p):p:=by
 have hr:(c.toNat < 39 ∨ 40≤c.toNat∧c.toNat < 48) ∨ (c.toNat = 39) ∨ (48≤c.toNat∧c.toNat≤57) ∨ (58≤c.toNat∧c.toNat < 65) ∨ (65≤c.toNat∧c.toNat≤90) ∨ (91≤c.toNat∧c.toNat < 97∧c.toNat ≠ 95) ∨ (c.toNat = 95) ∨ (97≤c.toNat∧c.toNat≤122) ∨ (122 < c.toNat):=by omega
 rcases hr with hr | hr | hr | hr | hr | hr | hr | hr | hr
 ·refine h false true false true false true false false ?_ ?_ ?_ ?_ ?_ ?_ ?_ ?_ ?_ (by simp)
  case refine_9=>simp [letter];omega
  all_goals (simp;omega)
 ·refine h false true false true false true false true ?_ ?_ ?_ ?_ ?_ ?_ ?_ ?_ ?_ (by simp)
  case refine_9=>simp [letter];omega
  all_goals (simp;omega)
 ·refine h false true false true true true false false ?_ ?_ ?_ ?_ ?_ ?_ ?_ ?_ ?_ (by simp)
  case refine_9=>simp [letter];omega
  all_goals (simp;omega)
 ·refine h false true false true true false false false ?_ ?_ ?_ ?_ ?_ ?_ ?_ ?_ ?_ (by simp)
  case refine_9=>simp [letter];omega
  all_goals (simp;omega)
 ·refine h false true true true true false false false ?_ ?_ ?_ ?_ ?_ ?_ ?_ ?_ ?_ (by simp)
  case refine_9=>simp [letter];omega
  all_goals (simp;omega)
 ·refine h false true true false true false false false ?_ ?_ ?_ ?_ ?_ ?_ ?_ ?_ ?_ (by simp)
  case refine_9=>simp [letter];omega
  all_goals (simp;omega)
 ·refine h false true true false true false true false ?_ ?_ ?_ ?_ ?_ ?_ ?_ ?_ ?_ (by simp)
  case refine_9=>simp [letter];omega
  all_goals (simp;omega)
 ·refine h true true true false true false false false ?_ ?_ ?_ ?_ ?_ ?_ ?_ ?_ ?_ (by simp)
  case refine_9=>simp [letter];omega
  all_goals (simp;omega)
 ·refine h true false true false true false false false ?_ ?_ ?_ ?_ ?_ ?_ ?_ ?_ ?_ (by simp)
  case refine_9=>simp [letter];omega
  all_goals (simp;omega)
theorem term_inName_s (c:UInt8):PF n_term_inName [.int .u8 c.toNat] (.bool (letter c)):=by
 refine pf_of term_inName.ok rfl ?_
 refine letter_cases c fun b1 b2 b3 b4 b5 b6 b7 b8 e1 e2 e3 e4 e5 e6 e7 e8 hl hm=>?_
 rw [hl];clear hl
 simp only [List.mem_cons,Prod.mk.injEq,List.not_mem_nil,or_false] at hm
 rcases hm with h | h | h | h | h | h | h | h | h <;> obtain ⟨rfl,rfl,rfl,rfl,rfl,rfl,rfl,rfl⟩:=h <;> push_cast [e1,e2,e3,e4,e5,e6,e7,e8] <;> refine pf_ret ?_ <;> push_cast [term_inName.rs] <;> rfl
end Go.Dw
end
section
namespace Go.Dw
def hasSuf (s p:Str):Bool:=decide (p.length≤s.length) && decide (s.drop (s.length - p.length) = p)
theorem isub {a b:Nat} (h:b≤a) (h2:a < 2^62):IntKind.i64.wrap ((a:Int) - (b:Int)) = ((a - b:Nat):Int):=by rw [wrap64 (by omega) (by omega)];omega
theorem stringslite_HasSuffix_s (s p:Str) (h1:s.length < 2^62) (h2:p.length < 2^62):PF n_stringslite_HasSuffix [.str s,.str p] (.bool (hasSuf s p)):=by
 refine pf_of stringslite_HasSuffix.ok rfl ?_
 by_cases h:p.length≤s.length
 ·have hi:((p.length:Int)≤(s.length:Int)) = True:=eq_true (by omega)
  push_cast [hi,isub h h1]
  refine ⟨by omega,pf_ret ?_⟩
  push_cast [stringslite_HasSuffix.rs,hasSuf,h]
  rw [List.take_of_length_le (by simp)]
 ·have hi:((p.length:Int)≤(s.length:Int)) = False:=eq_false (by omega)
  push_cast [hi]
  refine pf_ret ?_
  push_cast [stringslite_HasSuffix.rs,hasSuf,h]
def trimSuf (s p:Str):Str:=if hasSuf s p then s.take (s.length - p.length) else s
theorem stringslite_TrimSuffix_s (s p:Str) (h1:s.length < 2^62) (h2:p.length < 2^62):PF n_stringslite_TrimSuffix [.str s,.str p] (.str (trimSuf s p)):=by
 refine pf_of stringslite_TrimSuffix.ok rfl ?_
 push_cast
 refine .of (stringslite_HasSuffix_s s p h1 h2) ?_
 push_cast
 refine ⟨fun h=>?_,fun h=>pf_ret ?_⟩
 ·have hl:p.length≤s.length:=by simp only [hasSuf,Bool.and_eq_true,decide_eq_true_eq] at h;exact h.1
  push_cast [isub hl h1]
  refine ⟨by omega,pf_ret ?_⟩
  push_cast [stringslite_TrimSuffix.rs,trimSuf,h]
  simp
 ·push_cast [stringslite_TrimSuffix.rs,trimSuf,h]
theorem strings_TrimSuffix_s (s p:Str) (h1:s.length < 2^62) (h2:p.length < 2^62):PF n_strings_TrimSuffix [.str s,.str p] (.str (trimSuf s p)):=by
 refine pf_of strings_TrimSuffix.ok rfl ?_
 push_cast
 refine .of (stringslite_TrimSuffix_s s p h1 h2) ?_
 push_cast
 exact pf_ret (by push_cast [strings_TrimSuffix.rs])
theorem strings_HasSuffix_s (s p:Str) (h1:s.length < 2^62) (h2:p.length < 2^62):PF n_strings_HasSuffix [.str s,.str p] (.bool (hasSuf s p)):=by
 refine pf_of strings_HasSuffix.ok rfl ?_
 push_cast
 refine .of (stringslite_HasSuffix_s s p h1 h2) ?_
 push_cast
 exact pf_ret (by push_cast [strings_HasSuffix.rs])
theorem term_Marked_s (s:Str) (h1:s.length < 2^62):PF n_term_Marked [.str s] (.bool (hasSuf s [35])):=by
 refine pf_of term_Marked.ok rfl ?_
 push_cast
 refine .of (strings_HasSuffix_s s [35] h1 (by decide)) ?_
 push_cast
 exact pf_ret (by push_cast [term_Marked.rs])
theorem term_IsName_1_s (c:UInt8):PF n_term_IsName_1 [.int .u8 c.toNat] (.bool (!letter c)):=by
 refine pf_of term_IsName_1.ok rfl ?_
 push_cast
 refine .of (term_inName_s c) ?_
 push_cast
 exact pf_ret (by push_cast [term_IsName_1.rs])
def nameOf (s:Str) (marked:Bool):Str:=if marked then trimSuf s [35] else s
def isName (s:Str) (marked:Bool):Bool:=decide (s.length≤24) && (!decide (nameOf s marked = []) && (nameOf s marked).all letter)
theorem any_not {α:Type} (p:α→Bool) (l:List α):(!l.any fun a=>!p a) = l.all p:=by induction l with | nil=>rfl | cons a l ih=>simp_all
theorem trimSuf_len (s p:Str):(trimSuf s p).length≤s.length:=by unfold trimSuf;split <;> simp
theorem nameOf_len (s:Str) (m:Bool):(nameOf s m).length≤s.length:=by unfold nameOf;split;exact trimSuf_len _ _;exact Nat.le_refl _
theorem term_IsName_s (s:Str) (m:Bool) (h1:s.length < 2^62):PF n_term_IsName [.str s,.bool m] (.bool (isName s m)):=by
 refine pf_of term_IsName.ok rfl ?_
 push_cast
 refine ⟨fun h=>pf_ret ?_,fun h=>?_⟩
 ·push_cast [term_IsName.rs,isName]
  rw [show decide (s.length≤24) = false from decide_eq_false (by omega)];rfl
 ·have hlen:s.length≤24:=by omega
  have fin:∀ u:Str,u.length≤24→u = nameOf s m→PF n_slices_ContainsFunc_s_byte_byte [encL cU8 1 u,.fn (.func n_term_IsName_1) [] []] (.bool (u.any fun c=>!letter c)):=fun u hu _=>slices_ContainsFunc_s_byte_byte_s (p:=fun c=>!letter c) (caps:=[]) (fun _=>by push_cast) u (by omega) fun c _=>term_IsName_1_s c
  have hnl:=nameOf_len s m
  have hmx:(nameOf s m).length≤maxEls:=by unfold maxEls;omega
  cases m with
  | true =>
   push_cast
   refine .of (strings_TrimSuffix_s s [35] h1 (by decide)) ?_
   have hn:trimSuf s [35] = nameOf s true:=rfl
   rw [hn]
   push_cast
   by_cases hu:nameOf s true = []
   ·push_cast [hu]
    exact pf_ret (by push_cast [term_IsName.rs,isName,hu])
   ·push_cast [hu,hmx]
    refine .of (fin _ (by omega) rfl) ?_
    push_cast
    exact pf_ret (by push_cast [term_IsName.rs,isName,hu,hlen,any_not])
  | false =>
   have hn:s = nameOf s false:=rfl
   have hmx':s.length≤maxEls:=by unfold maxEls;omega
   push_cast
   by_cases hu:s = []
   ·push_cast [hu]
    exact pf_ret (by push_cast [term_IsName.rs,isName];simp [hu,nameOf])
   ·push_cast [hu,hmx']
    refine .of (fin _ (by omega) rfl) ?_
    push_cast
    exact pf_ret (by push_cast [term_IsName.rs,isName,← hn,hu,hlen,any_not])
end Go.Dw
end
section
namespace Go.Dw
mutual
def depth:Term→Nat
 | .mk _ _ l=>depths l+1
def depths:List Term→Nat
 | []=>0
 | a :: l=>max (depth a) (depths l)
end
theorem depth_args (t:Term):depth t = depths t.args+1:=by cases t;simp [depth,Term.args]
theorem depths_append (a b:List Term):depths (a++b) = max (depths a) (depths b):=by
 induction a with
 | nil=>simp [depths]
 | cons x xs ih=>simp [depths,ih,Nat.max_assoc]
theorem depths_take_succ (l:List Term) (k:Nat) (h:k < l.length):depths (l.take (k+1)) = max (depths (l.take k)) (depth (l.getD k default)):=by
 rw [take_succ_getD h,depths_append];simp [depths]
mutual
theorem depth_le_size:∀ t,depth t≤size t
 | .mk _ _ l=>by simp only [depth,size];have:=depths_le_sizes l;omega
theorem depths_le_sizes:∀ l,depths l≤sizes l
 | []=>by simp [depths,sizes]
 | a :: l=>by simp only [depths,sizes];have:=depth_le_size a;have:=depths_le_sizes l;omega
end
theorem depths_take_le (l:List Term) (k:Nat):depths (l.take k)≤depths l:=by
 conv=>rhs;rw [← List.take_append_drop k l]
 rw [depths_append];omega
theorem imax {a b:Nat}:(if (b:Int) > (a:Int) then (b:Int) else (a:Int)) = ((max a b:Nat):Int):=by split <;> omega
attribute [push_cast] imax
theorem term_Depth_s (t:Term) (hs:size t < 2^62):PF n_term_Depth [encT t] (.int .i64 (depth t)):=by
 induction t using term_ind with
 | h t ih =>
 refine pf_of term_Depth.ok rfl ?_
 have hst:=size_args t
 have hl:=length_le_sizes t.args
 have hd:=depths_le_sizes t.args
 push_cast
 refine loop_up (n:=t.args.length) (R:=fun k=>term_Depth.L3 (.int .i64 (depths (t.args.take k):Nat)) (encTs t.args) (.int .i64 t.args.length) (.int .i64 k) 0 [] _) ?_ ?_ 0 (by omega)
 ·intro k hk ih2
  have h1:=depths_take_succ _ _ hk
  have hm:=getD_mem hk
  have:=size_mem hm
  refine term_Depth.G3 ?_
  push_cast [ilt hk]
  refine .of (ih _ hm (by omega)) ?_
  push_cast [w64 (show k < 2^62 by omega)]
  rw [h1] at ih2
  exact ih2
 ·refine term_Depth.G3 ?_
  push_cast [inlt (Nat.le_refl _)]
  rw [wrap64 (by have:=depths_take_le t.args t.args.length;omega) (by have:=depths_take_le t.args t.args.length;omega)]
  refine pf_ret ?_
  push_cast [term_Depth.rs,List.take_length,depth_args t]
def tb:Term→Nat
 | .mk n _ l=>1+n.length+tbs l
where tbs:List Term→Nat
 | []=>0
 | a :: l=>tb a+tbs l
abbrev tbs:=tb.tbs
theorem tb_args (t:Term):tb t = 1+t.name.length+tbs t.args:=by cases t;simp [tb,Term.name,Term.args]
theorem tb_mem {l:List Term} {a:Term} (h:a∈l):tb a≤tbs l:=by
 induction l with
 | nil=>cases h
 | cons x xs ih=>rcases List.mem_cons.1 h with rfl | h <;> simp [tbs,tb.tbs];have:=ih h;simp only [tbs] at this;omega
mutual
theorem size_le_tb:∀ t,size t≤tb t
 | .mk _ _ l=>by simp only [size,tb];have:=sizes_le_tbs l;simp only [tbs] at this;omega
theorem sizes_le_tbs:∀ l,sizes l≤tbs l
 | []=>by simp [sizes]
 | a :: l=>by simp only [sizes,tbs,tb.tbs];have:=size_le_tb a;have:=sizes_le_tbs l;simp only [tbs] at this;omega
end
mutual
def formed:Term→Bool
 | .mk n v l=>if v then decide (l.length = 0) && isName n false else decide (l.length≤8) && (isName n true && formeds l)
def formeds:List Term→Bool
 | []=>true
 | a :: l=>formed a && formeds l
end
theorem formeds_all (l:List Term):formeds l = l.all formed:=by induction l with | nil=>rfl | cons a l ih=>simp [formeds,ih]
theorem formed_eq (t:Term):formed t = if t.var then decide (t.args.length = 0) && isName t.name false else decide (t.args.length≤8) && (isName t.name true && t.args.all formed):=by
 cases t with | mk n v l=>cases v <;> simp [formed,formeds_all,Term.var,Term.args,Term.name] <;> rfl
theorem length_le_tbs (l:List Term):l.length≤tbs l:=Nat.le_trans (length_le_sizes l) (sizes_le_tbs l)
theorem term_formed_s (t:Term) (hs:tb t < 2^62):PF n_term_formed [encT t] (.bool (formed t)):=by
 induction t using term_ind with
 | h t ih =>
 have htb:=tb_args t
 have hl:=length_le_tbs t.args
 have hI:∀ m,PF n_term_IsName [.str t.name,.bool m] (.bool (isName t.name m)):=fun m=>term_IsName_s _ m (by omega)
 have hC:=slices_ContainsFunc_s_Term_Term_s (p:=fun a=>!formed a) (g:=n_term_formed_1) (caps:=[]) (fun _=>by push_cast) t.args (by omega) fun a ha=>by
  refine pf_of term_formed_1.ok rfl ?_
  push_cast
  refine .of (ih a ha (by have:=tb_mem ha;omega)) ?_
  push_cast
  exact pf_ret (by push_cast [term_formed_1.rs])
 refine pf_of term_formed.ok rfl ?_
 cases hv:t.var with
 | true =>
  by_cases h0:t.args.length = 0
  ·push_cast [hv,h0]
   refine .of (hI false) ?_
   push_cast
   exact pf_ret (by push_cast [term_formed.rs,formed_eq t,hv,h0])
  ·have hi:((t.args.length:Int) = 0) = False:=eq_false (by omega)
   push_cast [hv,hi]
   exact pf_ret (by push_cast [term_formed.rs,formed_eq t,hv,h0])
 | false =>
  by_cases h0:t.args.length≤8
  ·have hi:((t.args.length:Int)≤8) = True:=eq_true (by omega)
   push_cast [hv,hi]
   refine .of (hI true) ?_
   cases hn:isName t.name true
   ·push_cast
    exact pf_ret (by push_cast [term_formed.rs,formed_eq t,hv,h0,hn])
   ·push_cast
    refine .of hC ?_
    push_cast
    exact pf_ret (by push_cast [term_formed.rs,formed_eq t,hv,h0,hn,any_not])
  ·have hi:((t.args.length:Int)≤8) = False:=eq_false (by omega)
   push_cast [hv,hi]
   exact pf_ret (by push_cast [term_formed.rs,formed_eq t,hv,h0])
def fits (t:Term):Bool:=decide (size t≤4000) && decide (depth t≤200)
theorem term_fits_s (t:Term) (hs:size t < 2^62):PF n_term_fits [encT t] (.bool (fits t)):=by
 refine pf_of term_fits.ok rfl ?_
 push_cast
 refine .of (term_Size_s t hs) ?_
 push_cast
 by_cases h:size t≤4000
 ·have hi:((size t:Int)≤4000) = True:=eq_true (by omega)
  push_cast [hi]
  refine .of (term_Depth_s t hs) ?_
  push_cast
  exact pf_ret (by push_cast [term_fits.rs,fits,h];simp;omega)
 ·have hi:((size t:Int)≤4000) = False:=eq_false (by omega)
  push_cast [hi]
  exact pf_ret (by push_cast [term_fits.rs,fits,h])
def check (t:Term):Int:=if formed t then (if fits t then 0 else 3) else 4
theorem term_Check_s (t:Term) (hs:tb t < 2^62):PF n_term_Check [encT t] (.int .i64 (check t)):=by
 refine pf_of term_Check.ok rfl ?_
 push_cast
 refine .of (term_formed_s t hs) ?_
 cases hf:formed t
 ·push_cast
  exact pf_ret (by push_cast [term_Check.rs,check,hf])
 ·push_cast
  refine .of (term_fits_s t (by have:=size_le_tb t;omega)) ?_
  cases hg:fits t <;> push_cast <;> exact pf_ret (by push_cast [term_Check.rs,check,hf,hg])
end Go.Dw
end
section
namespace Go.Dw
theorem room {n b:Nat} (h:n < 2^40) (hb:b≤64):(n+1) * b≤maxEls:=by
 have:(n+1) * b≤(2^40) * 64:=Nat.mul_le_mul (by omega) hb
 unfold maxEls;omega
theorem term_Own_s (t:Term) (hs:size t < 2^40):PF n_term_Own [encT t] (encT t):=by
 induction t using term_ind with
 | h t ih =>
 refine pf_of term_Own.ok rfl ?_
 have hst:=size_args t
 have hl:=length_le_sizes t.args
 push_cast
 refine loop_up (n:=t.args.length) (R:=fun k=>term_Own.L3 (.ptr 0 0) (.ptr 1 0) (encTs t.args) (.int .i64 t.args.length) (.int .i64 k) 0
  [.cells t_Term [.str [],.bool false,.sl 3 []],.cells t_Term [.str t.name,.bool t.var,ownL cT 2 3 (t.args.take k)],.arr t_Term 3 k] _) ?_ ?_ 0 (by omega)
 ·intro k hk ih2
  have hm:=getD_mem hk
  have hsm:=size_mem hm
  have hlt:(t.args.take k).length = k:=by simp;omega
  refine term_Own.G3 ?_
  push_cast [ilt hk]
  refine .of (ih _ hm (by omega)) ?_
  push_cast [hlt,room (show k < 2^40 by omega) (show 48≤64 by omega),w64 (show k < 2^62 by omega)]
  rw [take_succ_getD hk] at ih2
  exact ih2
 ·refine term_Own.G3 ?_
  push_cast [inlt (Nat.le_refl _)]
  refine pf_ret ?_
  push_cast [term_Own.rs,List.take_length]
  rw [encT,cT_eq]
def subT (t:Term):List Int→Option Term
 | []=>some t
 | i :: p=>if 0≤i∧i < t.args.length then subT (t.args.getD i.toNat default) p else none
def noT:Term:=.mk [] false []
def encOT:Option Term→V
 | some t=>.tup [encT t,.bool true]
 | none=>.tup [encT noT,.bool false]
def setT (t:Term) (p:List Int) (x:Term):Term:=match p with
 | []=>x
 | i :: p=>.mk t.name t.var (if 0≤i∧i < t.args.length then t.args.set i.toNat (setT (t.args.getD i.toNat default) p x) else t.args)
theorem setT_args {t x:Term} {i:Int} {p:List Int}:(setT t (i :: p) x).args = if 0≤i∧i < t.args.length then t.args.set i.toNat (setT (t.args.getD i.toNat default) p x) else t.args:=rfl
theorem setT_args_get {t x:Term} {i:Int} {p:List Int} {k:Nat} (hk:k < t.args.length):(setT t (i :: p) x).args.getD k default = if (k:Int) = i then setT (t.args.getD k default) p x else t.args.getD k default:=by
 rw [setT_args]
 by_cases h:0≤i∧i < t.args.length
 ·rw [if_pos h]
  by_cases e:(k:Int) = i
  ·rw [if_pos e]
   subst e
   simp [List.getD_eq_getElem?_getD,hk]
  ·rw [if_neg e]
   simp only [List.getD_eq_getElem?_getD]
   rw [List.getElem?_set_ne (by omega)]
 ·rw [if_neg h,if_neg (by omega)]
theorem setT_args_len {t x:Term} {i:Int} {p:List Int}:(setT t (i :: p) x).args.length = t.args.length:=by
 rw [setT_args];split <;> simp
theorem setT_nv {t x:Term} {i:Int} {p:List Int}:(setT t (i :: p) x).name = t.name∧(setT t (i :: p) x).var = t.var:=⟨rfl,rfl⟩
theorem term_Set_s (p:List Int):∀ (t x:Term),size t < 2^40→size x < 2^40→p.length < 2^40→PF n_term_Set [encT t,encP p,encT x] (encT (setT t p x)):=by
 induction p with
 | nil =>
  intro t x ht hx hp
  refine pf_of term_Set.ok rfl ?_
  push_cast [List.length_nil]
  refine .of (term_Own_s x hx) ?_
  push_cast
  refine pf_ret ?_
  push_cast [term_Set.rs]
  rfl
 | cons i p ih =>
  intro t x ht hx hp
  have hst:=size_args t
  have hl:=length_le_sizes t.args
  have hpl:(i :: p).length = p.length+1:=rfl
  refine pf_of term_Set.ok rfl ?_
  have hne:((p.length:Int)+1 = 0) = False:=eq_false (by omega)
  push_cast [hne]
  have hal:=setT_args_len (t:=t) (x:=x) (i:=i) (p:=p)
  refine loop_up (n:=t.args.length) (R:=fun k=>term_Set.L3 (encP (i :: p)) (.ro (cT x) 0) (.ptr 0 0) (.ptr 1 0) (encTs t.args) (.int .i64 t.args.length) (.int .i64 k) 0
   [.cells t_Term [.str [],.bool false,.sl 3 []],.cells t_Term [.str t.name,.bool t.var,ownL cT 2 3 ((setT t (i :: p) x).args.take k)],.arr t_Term 3 k] _) ?_ ?_ 0 (by omega)
  ·intro k hk ih2
   have hm:=getD_mem hk
   have hsm:=size_mem hm
   have hlt:((setT t (i :: p) x).args.take k).length = k:=by simp;omega
   rw [take_succ_getD (by omega),setT_args_get hk] at ih2
   refine term_Set.G3 ?_
   have h0:((0:Int) < (p.length:Int)+1) = True:=eq_true (by omega)
   have hb:(1≤p.length+1) = True:=eq_true (by omega)
   by_cases he:(k:Int) = i
   ·rw [if_pos he] at ih2
    subst he
    push_cast [ilt hk,h0,List.getD_cons_zero,hb,List.drop_succ_cons,List.drop_zero,List.take_length]
    refine .of (ih _ _ (by omega) hx (by simp at hp;omega)) ?_
    push_cast [hlt,room (show k < 2^40 by omega) (show 48≤64 by omega),w64 (show k < 2^62 by omega)]
    exact ih2
   ·rw [if_neg he] at ih2
    push_cast [ilt hk,h0,List.getD_cons_zero,he,hb]
    refine .of (term_Own_s _ (by omega)) ?_
    push_cast [hlt,room (show k < 2^40 by omega) (show 48≤64 by omega),w64 (show k < 2^62 by omega)]
    exact ih2
  ·refine term_Set.G3 ?_
   push_cast [inlt (Nat.le_refl _)]
   refine pf_ret ?_
   rw [List.take_of_length_le (by omega)]
   push_cast [term_Set.rs]
   rw [encT,cT_eq,setT_nv.1,setT_nv.2]
def encTE (r:Option Term) (e:Int):V:=match r with
 | some t=>.tup [encT t,.int .i64 e]
 | none=>.tup [encT noT,.int .i64 e]
theorem term_Fit_s (t:Term) (hs:size t < 2^62):PF n_term_Fit [encT t] (if fits t then encTE (some t) 0 else encTE none 3):=by
 refine pf_of term_Fit.ok rfl ?_
 push_cast
 refine .of (term_fits_s t hs) ?_
 cases hf:fits t <;> push_cast <;> exact pf_ret (by push_cast [term_Fit.rs];rfl)
def checks:List Term→Int
 | []=>0
 | a :: l=>if check a ≠ 0 then check a else checks l
theorem term_All_s (l:List Term) (hl:l.length < 2^62) (hs:∀ t∈l,tb t < 2^62):PF n_term_All [encTs l] (.int .i64 (checks l)):=by
 refine pf_of term_All.ok rfl ?_
 push_cast
 refine loop_up (n:=l.length) (R:=fun k=>checks (l.drop k) = checks l→term_All.L3 (encTs l) (.int .i64 l.length) (.int .i64 k) 0 [] _) ?_ ?_ 0 (by omega) rfl
 ·intro k hk ih hq
  refine term_All.G3 ?_
  push_cast [ilt hk]
  refine .of (term_Check_s _ (hs _ (getD_mem hk))) ?_
  rw [drop_getD hk] at hq
  simp only [checks] at hq
  push_cast [w64 (show k < 2^62 by omega)]
  refine ⟨fun h=>pf_ret ?_,fun h=>ih ?_⟩
  ·push_cast [term_All.rs]
   rw [← hq,if_pos h]
  ·rw [← hq,if_neg h]
 ·intro hq
  refine term_All.G3 ?_
  push_cast [inlt (Nat.le_refl _)]
  refine pf_ret ?_
  push_cast [term_All.rs]
  rw [← hq,List.drop_eq_nil_of_le (Nat.le_refl _)];rfl
end Go.Dw
end
section
namespace Go.Dw
abbrev cmpS:Str→Str→Int:=Lib.compareBytes
theorem u8_lt_of {a b:UInt8} (h1:¬ a < b) (h2:¬ b < a):a = b:=UInt8.le_antisymm (UInt8.not_lt.1 h2) (UInt8.not_lt.1 h1)
theorem cmpS_eq:∀ a b:Str,cmpS a b = if a < b then -1 else if b < a then 1 else 0
 | [],[]=>by simp [cmpS,Lib.compareBytes]
 | [],_ :: _=>by simp [cmpS,Lib.compareBytes]
 | _ :: _,[]=>by simp [cmpS,Lib.compareBytes]
 | x :: a,y :: b=>by
  have ih:=cmpS_eq a b
  simp only [cmpS,Lib.compareBytes,List.cons_lt_cons_iff] at ih ⊢
  by_cases h1:x < y
  ·simp [h1]
  ·by_cases h2:y < x
   ·have hne:x ≠ y:=fun e=>by subst e;exact h1 h2
    have hne':y ≠ x:=fun e=>hne e.symm
    simp [h1,h2,hne]
   ·have:=u8_lt_of h1 h2
    subst this
    simp [h1,ih]
theorem slt_trans {a b c:Str} (h:a < b) (h2:b < c):a < c:=List.lt_trans h h2
theorem slt_asymm {a b:Str} (h:a < b):¬ b < a:=List.lt_asymm h
theorem slt_irrefl (a:Str):¬ a < a:=List.lt_irrefl a
theorem slt_eq {a b:Str} (h:¬ a < b) (h2:¬ b < a):a = b:=List.le_antisymm h2 h
theorem cmpS_neg {a b:Str}:cmpS a b < 0 ↔ a < b:=by
 rw [cmpS_eq]
 by_cases h:a < b
 ·simp [h]
 ·by_cases h2:b < a <;> simp [h,h2]
theorem cmpS_zero {a b:Str}:cmpS a b = 0 ↔ a = b:=by
 rw [cmpS_eq]
 by_cases h:a < b
 ·simp only [h,if_true];constructor
  ·intro e;omega
  ·intro e;subst e;exact absurd h (slt_irrefl a)
 ·by_cases h2:b < a
  ·simp only [h,h2,if_true,if_false];constructor
   ·intro e;omega
   ·intro e;subst e;exact absurd h2 (slt_irrefl a)
  ·simp only [h,h2,if_false,true_iff];exact slt_eq h h2
theorem bytesLess_eq:∀ a b:Str,Op.bytesLess a b = decide (a < b)
 | [],[]=>by simp [Op.bytesLess]
 | [],_ :: _=>by simp [Op.bytesLess]
 | _ :: _,[]=>by simp [Op.bytesLess]
 | x :: a,y :: b=>by
  simp only [Op.bytesLess,List.cons_lt_cons_iff,bytesLess_eq a b]
  rw [Bool.eq_iff_iff];simp
def Sorted (s:List ABind):Prop:=s.Pairwise fun a b=>a.name < b.name
def lbd (v:Str):List ABind→Nat
 | []=>0
 | b :: s=>if b.name < v then lbd v s+1 else 0
theorem lbd_le (v:Str):∀ s,lbd v s≤s.length
 | []=>Nat.le_refl _
 | b :: s=>by simp only [lbd,List.length_cons];have:=lbd_le v s;split <;> omega
theorem lbd_lt {v:Str}:∀ {s:List ABind} {j:Nat},j < lbd v s→(s.getD j default).name < v
 | [],j,h=>by simp [lbd] at h
 | b :: s,j,h=>by
  simp only [lbd] at h
  split at h
  ·rename_i hb
   cases j with
   | zero=>simpa using hb
   | succ j=>simpa using lbd_lt (s:=s) (j:=j) (by omega)
  ·omega
theorem lbd_ge {v:Str}:∀ {s:List ABind} {j:Nat},Sorted s→lbd v s≤j→j < s.length→¬ (s.getD j default).name < v
 | [],j,_,_,h=>by simp at h
 | b :: s,j,hs,h,hj=>by
  obtain ⟨h1,h2⟩:=List.pairwise_cons.1 hs
  simp only [lbd] at h
  split at h
  ·rename_i hb
   cases j with
   | zero=>omega
   | succ j=>simpa using lbd_ge (s:=s) (j:=j) h2 (by omega) (by simpa using hj)
  ·rename_i hb
   cases j with
   | zero=>simpa using hb
   | succ j =>
    have hm:s.getD j default∈s:=getD_mem (by simpa using hj)
    have:=h1 _ hm
    intro hlt
    simp only [List.getD_cons_succ] at hlt
    exact hb (slt_trans this hlt)
def image:List ABind→Str→Option Term
 | [],_=>none
 | b :: s,v=>if b.name = v then some b.term else image s v
def bound (s:List ABind) (v:Str):Bool:=(image s v).isSome
theorem image_lbd {v:Str}:∀ {s:List ABind},Sorted s→image s v = if lbd v s < s.length∧(s.getD (lbd v s) default).name = v then some (s.getD (lbd v s) default).term else none
 | [],_=>by simp [image]
 | b :: s,hs=>by
  obtain ⟨h1,h2⟩:=List.pairwise_cons.1 hs
  simp only [image,lbd]
  by_cases hb:b.name < v
  ·have hne:b.name ≠ v:=fun e=>by rw [e] at hb;exact slt_irrefl v hb
   simp only [hne,if_false,hb,if_true,image_lbd h2,List.getD_cons_succ,List.length_cons,Nat.add_lt_add_iff_right]
  ·simp only [hb,if_false,List.getD_cons_zero,List.length_cons]
   by_cases he:b.name = v
   ·simp [he]
   ·simp only [he,if_false,and_false]
    have:∀ c∈s,c.name ≠ v:=fun c hc e=>by
     have h3:=h1 c hc
     rw [e] at h3
     exact hb h3
    clear h1 h2 hs
    induction s with
    | nil=>rfl
    | cons c s ih=>simp only [image];rw [if_neg (this c (by simp)),ih fun d hd=>this d (by simp [hd])]
end Go.Dw
end
section
namespace Go.Dw
theorem cmpstring_s (a b:Str):PF n_bytealg_abigen_runtime_cmpstring [.str a,.str b] (.int .i64 (cmpS a b)):=by
 intro c vs hH hc hr
 obtain ⟨v1,vs1,rfl,h1,v2,vs2,rfl,h2,h3⟩:=hr
 have h1:v1 = .string ⟨⟨a⟩⟩:=h1
 have h2:v2 = .string ⟨⟨b⟩⟩:=h2
 have h3:vs2 = []:=h3
 subst h1 h2 h3
 right
 refine ⟨_,c.w,?_,_,.int .i64 (cmpS a b),c,rfl,rfl,⟨rfl,hH⟩,hc,rfl,.refl c⟩
 rw [run_callFunc_extern at_bytealg_abigen_runtime_cmpstring (by kernel_rfl) (by kernel_rfl) (by kernel_rfl) (e:=Extern.BytealgCompare.compare) (by kernel_rfl)]
 have:=Lib.run_compareString (P:=prog) ⟨⟨a⟩⟩ ⟨⟨b⟩⟩ c.w
 rw [this];rfl
theorem CompareString_s (a b:Str):PF n_bytealg_CompareString [.str a,.str b] (.int .i64 (cmpS a b)):=by
 refine pf_of bytealg_CompareString.ok rfl ?_
 push_cast
 refine .of (cmpstring_s a b) ?_
 push_cast
 exact pf_ret (by push_cast [bytealg_CompareString.rs])
theorem strings_Compare_s (a b:Str):PF n_strings_Compare [.str a,.str b] (.int .i64 (cmpS a b)):=by
 refine pf_of strings_Compare.ok rfl ?_
 push_cast
 refine .of (CompareString_s a b) ?_
 push_cast
 exact pf_ret (by push_cast [strings_Compare.rs])
theorem term_Image_1_s (b:ABind) (v:Str):PF n_term_Image_1 [encB b,.str v] (.int .i64 (cmpS b.name v)):=by
 refine pf_of term_Image_1.ok rfl ?_
 push_cast
 refine .of (strings_Compare_s _ _) ?_
 push_cast
 exact pf_ret (by push_cast [term_Image_1.rs])
theorem unify_bind_1_s (b:ABind) (v:Str):PF n_unify_bind_1 [encB b,.str v] (.int .i64 (cmpS b.name v)):=by
 refine pf_of unify_bind_1.ok rfl ?_
 push_cast
 refine .of (strings_Compare_s _ _) ?_
 push_cast
 exact pf_ret (by push_cast [unify_bind_1.rs])
theorem half {i j:Nat} (hi:i < 2^61) (hj:j < 2^61):IntKind.i64.wrap ((IntKind.u64.wrap (IntKind.i64.wrap ((i:Int)+(j:Int)))).fdiv (2^min 1 IntKind.u64.bits)) = (((i+j) / 2:Nat):Int):=by
 rw [wrap64 (x:=(i:Int)+j) (by omega) (by omega)]
 have h1:IntKind.u64.wrap ((i:Int)+(j:Int)) = ((i+j:Nat):Int):=by unfold IntKind.wrap IntKind.bits IntKind.signed;simp;omega
 rw [h1]
 have h2:(2^min 1 IntKind.u64.bits:Int) = 2:=by decide
 rw [h2]
 have h3:((i+j:Nat):Int).fdiv 2 = (((i+j) / 2:Nat):Int):=by
  rw [Int.fdiv_eq_ediv_of_nonneg _ (by omega)];omega
 rw [h3,wrap64 (by omega) (by omega)]
theorem BinarySearch_s {g:Nat} (hg:∀ b v,PF g [encB b,.str v] (.int .i64 (cmpS b.name v))) (s:List ABind) (v:Str) (hs:Sorted s) (hl:s.length < 2^61) :
  PF n_slices_BinarySearchFunc_s_Bind_Bind_string [encBs s,.str v,.fn (.func g) [] []] (.tup [.int .i64 (lbd v s),.bool (bound s v)]):=by
 refine pf_of slices_BinarySearchFunc_s_Bind_Bind_string.ok rfl ?_
 have hle:=lbd_le v s
 push_cast
 have key:∀ (m i j:Nat),j - i≤m→i≤lbd v s→lbd v s≤j→j≤s.length→slices_BinarySearchFunc_s_Bind_Bind_string.L3 (encBs s) (.str v) (.fn (.func g) [] []) (.int .i64 s.length) (.int .i64 i) (.int .i64 j) 0 []
   (Ends 0 slices_BinarySearchFunc_s_Bind_Bind_string.rs fun x' H'=>x' = .tup [.int .i64 (lbd v s),.bool (bound s v)]∧H' = []):=by
  intro m
  induction m with
  | zero =>
   intro i j hm h1 h2 h3
   have hij:i = lbd v s:=by omega
   refine slices_BinarySearchFunc_s_Bind_Bind_string.G3 ?_
   push_cast [inlt (show j≤i by omega)]
   unfold bound
   rw [image_lbd hs]
   by_cases hi:i < s.length
   ·push_cast [ilt hi]
    refine .of (hg _ _) ?_
    push_cast
    refine pf_ret ?_
    push_cast [slices_BinarySearchFunc_s_Bind_Bind_string.rs,cmpS_zero,hij]
    rw [hij] at hi
    by_cases hn:(s.getD (lbd v s) default).name = v
    ·rw [if_pos ⟨hi,hn⟩];simp only [hn];rfl
    ·rw [if_neg (fun h=>hn h.2)];simp only [hn];rfl
   ·push_cast [inlt (show s.length≤i by omega)]
    refine pf_ret ?_
    push_cast [slices_BinarySearchFunc_s_Bind_Bind_string.rs,hij]
    rw [if_neg (fun h=>hi (by omega))]
    rfl
  | succ m ih =>
   intro i j hm h1 h2 h3
   by_cases hij:i < j
   ·refine slices_BinarySearchFunc_s_Bind_Bind_string.G3 ?_
    have hh:=half (i:=i) (j:=j) (by omega) (by omega)
    generalize hq:(i+j) / 2 = h at hh
    have hk:h < s.length:=by omega
    push_cast [ilt hij]
    simp only [hh]
    push_cast [ilt hk]
    refine .of (hg _ _) ?_
    push_cast [w64 (show h < 2^62 by omega),cmpS_neg]
    refine ⟨fun hc=>ih (h+1) j (by omega) ?_ h2 h3,fun hc=>ih i h (by omega) h1 ?_ (by omega)⟩
    ·rcases Nat.lt_or_ge h (lbd v s) with h4 | h4
     ·omega
     ·exact absurd hc (lbd_ge hs h4 hk)
    ·rcases Nat.lt_or_ge h (lbd v s) with h4 | h4
     ·exact absurd (lbd_lt h4) hc
     ·exact h4
   ·exact ih i j (by omega) h1 h2 h3
 exact key s.length 0 s.length (by omega) (by omega) hle (Nat.le_refl _)
theorem term_Image_s (s:List ABind) (v:Str) (hs:Sorted s) (hl:s.length < 2^61):PF n_term_Image [encBs s,.str v] (encOT (image s v)):=by
 have hB:=BinarySearch_s term_Image_1_s s v hs hl
 have hi:=image_lbd (v:=v) hs
 refine pf_of term_Image.ok rfl ?_
 push_cast
 refine callG_new hB ?_
 push_cast
 unfold bound
 by_cases hc:lbd v s < s.length∧(s.getD (lbd v s) default).name = v
 ·rw [if_pos hc] at hi
  push_cast [hi,Option.isSome_some,ilt hc.1]
  refine pf_ret ?_
  push_cast [term_Image.rs]
  rfl
 ·rw [if_neg hc] at hi
  push_cast [hi,Option.isSome_none]
  refine pf_ret ?_
  push_cast [term_Image.rs]
  rfl
end Go.Dw
end
section
namespace Go.Dw
def bbs:List ABind→Nat
 | []=>0
 | b :: s=>1+b.name.length+tb b.term+bbs s
theorem bbs_mem {s:List ABind} {b:ABind} (h:b∈s):1+b.name.length+tb b.term≤bbs s:=by
 induction s with
 | nil=>cases h
 | cons x xs ih=>rcases List.mem_cons.1 h with rfl | h <;> simp [bbs];have:=ih h;omega
theorem length_le_bbs (s:List ABind):s.length≤bbs s:=by
 induction s with
 | nil=>simp
 | cons x xs ih=>simp only [bbs,List.length_cons];omega
theorem drop_map_none {α:Type} {l:List α}:l.drop l.length = []:=List.drop_eq_nil_of_le (Nat.le_refl _)
theorem sle {a b:Str}:(decide (a < b) || a == b) = !decide (b < a):=by
 by_cases h:b < a
 ·have h1:¬ a < b:=slt_asymm h
  have h2:a ≠ b:=fun e=>by subst e;exact slt_irrefl _ h
  simp [h,h1,h2]
 ·by_cases h1:a < b
  ·simp [h,h1]
  ·have:=slt_eq h1 h
   simp [h,this]
theorem strOpV_leq {a b:List UInt8}:strOpV .leq a b = some (.bool (!decide (b < a))):=by unfold strOpV;simp only [bytesLess_eq];rw [← sle]
theorem strOpV_gtr {a b:List UInt8}:strOpV .gtr a b = some (.bool (decide (b < a))):=by unfold strOpV;simp only [bytesLess_eq];rw [sle,Bool.not_not]
theorem strOpV_geq {a b:List UInt8}:strOpV .geq a b = some (.bool (!decide (a < b))):=by unfold strOpV;simp only [bytesLess_eq]
attribute [push_cast] strOpV_leq strOpV_gtr strOpV_geq bytesLess_eq
end Go.Dw
end
section
namespace Go.Dw
mutual
def inst (s:List ABind):Term→Term
 | .mk n v l=>if v then (image s n).getD (.mk n true []) else .mk n false (insts s l)
def insts (s:List ABind):List Term→List Term
 | []=>[]
 | a :: l=>inst s a :: insts s l
end
theorem insts_map (s:List ABind) (l:List Term):insts s l = l.map (inst s):=by induction l with | nil=>rfl | cons a l ih=>simp [insts,ih]
theorem inst_eq (s:List ABind) (t:Term):inst s t = if t.var then (image s t.name).getD (.mk t.name true []) else .mk t.name false (t.args.map (inst s)):=by
 cases t with | mk n v l=>simp only [inst,insts_map,Term.var,Term.name,Term.args];rfl
theorem image_mem {s:List ABind} {v:Str} {x:Term} (h:image s v = some x):∃ b∈s,b.name = v∧b.term = x:=by
 induction s with
 | nil=>cases h
 | cons b s ih =>
  simp only [image] at h
  split at h
  ·rename_i h2;exact ⟨b,by simp,h2,by simpa using h⟩
  ·obtain ⟨c,hc,h3⟩:=ih h;exact ⟨c,by simp [hc],h3⟩
theorem image_size {s:List ABind} {v:Str} {x:Term} (h:image s v = some x):tb x≤bbs s:=by
 obtain ⟨b,hb,_,rfl⟩:=image_mem h
 have:=bbs_mem hb;omega
theorem sizes_map_le {f:Term→Term} {m:Nat}:∀ {l:List Term},(∀ a∈l,size (f a)≤size a * m)→sizes (l.map f)≤sizes l * m
 | [],_=>by simp [sizes]
 | a :: l,h=>by
  have h1:=h a (by simp)
  have h2:=sizes_map_le (l:=l) fun b hb=>h b (by simp [hb])
  simp only [List.map_cons,sizes,Nat.add_mul];omega
theorem inst_size (s:List ABind) (t:Term):size (inst s t)≤size t * (1+bbs s):=by
 induction t using term_ind with
 | h t ih =>
  rw [inst_eq]
  have h1:1 * (1+bbs s)≤size t * (1+bbs s):=Nat.mul_le_mul_right _ (by rw [size_args];omega)
  split
  ·cases hx:image s t.name with
   | some x=>have:=image_size hx;have:=size_le_tb x;simp only [Option.getD_some];omega
   | none=>simp only [Option.getD_none,size,sizes];omega
  ·have:=sizes_map_le (f:=inst s) (m:=1+bbs s) ih
   simp only [size,size_args t,Nat.add_mul];omega
theorem term_replace_s (s:List ABind) (hs:Sorted s) (hb:bbs s < 2^40) (t:Term) (ht:tb t < 2^40):PF n_term_replace [encBs s,encT t] (encT (inst s t)):=by
 have hl:=length_le_bbs s
 induction t using term_ind with
 | h t ih =>
 have hI:=term_Image_s s t.name hs (by omega)
 have htb:=tb_args t
 have hlt:=length_le_tbs t.args
 refine pf_of term_replace.ok rfl ?_
 cases hv:t.var with
 | true =>
  push_cast [hv]
  refine .of hI ?_
  rw [inst_eq,hv]
  cases hx:image s t.name with
  | some x =>
   have h1:=image_size hx
   have h2:=size_le_tb x
   push_cast [encOT]
   refine .of (term_Own_s x (by omega)) ?_
   push_cast
   refine pf_ret ?_
   push_cast [term_replace.rs]
   rfl
  | none =>
   push_cast [encOT]
   refine pf_ret ?_
   push_cast [term_replace.rs]
   rfl
 | false =>
  have he:inst s t = .mk t.name false (t.args.map (inst s)):=by rw [inst_eq,hv];rfl
  rw [he]
  push_cast [hv]
  refine loop_up (n:=t.args.length) (R:=fun k=>term_replace.L3 (encBs s) (.ptr 0 0) (.ptr 1 0) (encTs t.args) (.int .i64 t.args.length) (.int .i64 k) 0
   [.cells t_Term [.str [],.bool false,.sl 3 []],.cells t_Term [.str t.name,.bool false,ownL cT 2 3 ((t.args.take k).map (inst s))],.arr t_Term 3 k] _) ?_ ?_ 0 (by omega)
  ·intro k hk ih2
   have hm:=getD_mem hk
   have htm:=tb_mem hm
   have hlt:((t.args.take k).map (inst s)).length = k:=by simp;omega
   rw [take_succ_getD hk,List.map_append] at ih2
   refine term_replace.G3 ?_
   push_cast [ilt hk]
   refine .of (ih _ hm (by omega)) ?_
   push_cast [hlt,room (show k < 2^40 by omega) (show 48≤64 by omega),w64 (show k < 2^62 by omega)]
   exact ih2
  ·refine term_replace.G3 ?_
   push_cast [inlt (Nat.le_refl _)]
   refine pf_ret ?_
   push_cast [term_replace.rs,List.take_length,cT_mk]
theorem inst_none (s:List ABind) (t:Term):(if 4000 < size (inst s t) ∨ 200 < depth (inst s t) then encTE none 3 else encTE (some (inst s t)) 0) = if fits (inst s t) then encTE (some (inst s t)) 0 else encTE none 3:=by
 unfold fits
 by_cases h1:4000 < size (inst s t)
 ·rw [if_pos (.inl h1),if_neg (by simp;omega)]
 ·by_cases h2:200 < depth (inst s t)
  ·rw [if_pos (.inr h2),if_neg (by simp;omega)]
  ·rw [if_neg (by omega),if_pos (by simp;omega)]
end Go.Dw
end
section
namespace Go.Dw
theorem ends_one {rs:List RV} {t:T} {H:List Ob} {Q:V→List Ob→Prop} {e:X} (k:Nat) {x:V} {o:Ob} (h:retV rs t H = some x) (hk:H[k]? = some o) (hq:Q (ren (pos? [k]) x) [renOb (pos? [k]) o])
  (he:e = .ret ∨ e = .fall:=by first | exact .inl rfl | exact .inr rfl):Ends 0 rs Q e t H:=by
 refine ends_ex (B:=0) he [k] (by simp) (fun i hi=>?_) h ?_
 ·simp only [List.mem_singleton] at hi;subst hi;exact (List.getElem?_eq_some_iff.1 hk).1
 ·have:give (List.range 0++[k]) H = [renOb (pos? [k]) o]:=by
   simp only [List.range_zero,List.nil_append,give,List.map_cons,List.map_nil,List.getD_eq_getElem?_getD,hk,Option.getD_some]
  rw [this];exact hq
theorem slices_Clone_int_s (p:List Int) (hp:p.length < 2^40):Spec prog n_slices_Clone_s_int_int [encP p] [] fun x' H'=>x' = ownL cI 0 1 p∧H' = [.arr t_int 1 p.length]:=by
 refine spec_of_run mixed slices_Clone_s_int_int.ok rfl ?_
 push_cast
 intro c hc
 refine ⟨fun h=>?_,fun h=>⟨by rw [List.length_map];unfold maxEls;omega,?_⟩⟩
 ·have hp0:p = []:=by simpa using hc (by cases c <;> simp_all)
  subst hp0
  exact ends_one 1 rfl rfl ⟨rfl,rfl⟩
 ·exact ends_one 1 rfl rfl ⟨rfl,by simp [renOb]⟩
section
variable {α:Type} {H l:List α} {n:Nat} (h:H.length = n)
include h
theorem get_off (k:Nat):(H++l)[n+k]? = l[k]?:=by rw [List.getElem?_append_right (by omega)];congr 1;omega
theorem get_off0:(H++l)[n]? = l[0]?:=get_off h 0
theorem set_off (k:Nat) (x:α):(H++l).set (n+k) x = H++l.set k x:=by rw [List.set_append_right _ _ (by omega)];congr 2;omega
theorem set_off0 (x:α):(H++l).set n x = H++l.set 0 x:=set_off h 0 x
theorem take_off:(H++l).take n = H:=List.take_left' h
end
theorem shut_clip {n:Nat} {H:List Ob} (h:Shut n H):H.map (renOb (clip n)) = H:=h.2
theorem pos_range (n:Nat):pos? (List.range n) = clip n:=by
 funext i
 unfold pos? clip
 by_cases h:i < n
 ·rw [if_pos h,List.findIdx?_eq_some_iff_getElem]
  refine ⟨by simpa using h,by simp,fun j hj=>by simp;omega⟩
 ·rw [if_neg h,List.findIdx?_eq_none_iff]
  intro x hx
  have:=List.mem_range.1 hx
  simp;omega
theorem give_keep {n:Nat} {H J:List Ob} (h:Shut n H):give (List.range n) (H++J) = H:=by
 have h2:=h.2
 unfold give
 rw [pos_range]
 conv=>rhs;rw [← h2]
 apply List.ext_getElem
 ·simp [h.1]
 ·intro i hi1 hi2
  have hi:i < H.length:=by simpa [h.1] using hi1
  simp [List.getD_eq_getElem?_getD,List.getElem?_append_left hi,hi]
theorem takeB_keep {n:Nat} {H J H':List Ob} (h:Shut n H) (h':Shut n H'):takeB (List.range n) (H++J) H' = H'++J:=by
 have hb:∀ i,i < n→back (List.range n) (H++J).length i = some i:=fun i hi=>by simp [back,hi]
 unfold takeB
 rw [List.length_range,List.drop_of_length_le (by rw [h'.1];exact Nat.le_refl _),List.map_nil,List.append_nil,shut_map h'.2 hb]
 unfold takeG
 rw [pos_range]
 apply List.ext_getElem
 ·simp [h.1,h'.1]
 ·intro i hi1 hi2
  simp only [List.getElem_map,List.getElem_range]
  unfold clip
  by_cases hi:i < n
  ·have:i < H'.length:=by rw [h'.1];exact hi
   rw [if_pos hi,List.getElem_append_left this]
   simp [List.getD_eq_getElem?_getD,this]
  ·rw [if_neg hi,List.getElem_append_right (by rw [h'.1];omega)]
   have:H.length≤i:=by rw [h.1];omega
   simp only [List.getD_eq_getElem?_getD]
   rw [List.getElem?_append_right this]
   have h3:i - H.length < J.length:=by simp only [List.length_append,h'.1] at hi2;rw [h.1];omega
   simp only [h.1,h'.1] at h3 ⊢
   simp [h3]
section
variable {N:Nat→C} {B:Nat} {s:List K} {t:T} {H:List Ob} {Q:X→T→List Ob→Prop}
theorem callG_keep {d:Option Nat} {l:List S} {F:Fn} {vs vs':List V} {n:Nat} {J:List Ob} {R:V→List Ob→Prop} (h:Shut n H) (hvs:rens (clip n) vs = vs') (hs:SpecF prog F vs' H R) (hR:∀ x H',R x H'→Shut n H')
  (k:∀ x H',R x H'→Run prog N B (.r l :: s) (setO d (ren (back (List.range n) (H++J).length) x) t) (H'++J) Q):CallG prog N B d l s t Q F vs (H++J):=by
 refine CallG.some (List.range n) List.nodup_range (fun i hi=>by have:=List.mem_range.1 hi;rw [List.length_append,h.1];omega) (R:=R) ?_ ?_
 ·rw [give_keep h,pos_range,hvs];exact hs
 ·intro x H' hx _
  rw [takeB_keep h (hR x H' hx)]
  exact k x H' hx
end
theorem ends_keep {rs:List RV} {t:T} {n:Nat} {H J:List Ob} {Q:V→List Ob→Prop} {e:X} {x:V} (h:Shut n H) (hr:retV rs t (H++J) = some x) (hq:Q (ren (clip n) x) H)
  (he:e = .ret ∨ e = .fall:=by first | exact .inl rfl | exact .inr rfl):Ends n rs Q e t (H++J):=by
 refine ends_ex (B:=n) he [] (by simp [List.nodup_range]) (fun i hi=>by cases hi) hr ?_
 rw [List.append_nil,give_keep h,pos_range];exact hq
mutual
def visit:Term→List Int→List (List Int × Term)
 | .mk n v l,p=>(p,.mk n v l) :: visits l p 0
def visits:List Term→List Int→Nat→List (List Int × Term)
 | [],_,_=>[]
 | a :: l,p,i=>visit a (p++[(i:Int)])++visits l p (i+1)
end
theorem visit_eq (t:Term) (p:List Int):visit t p = (p,t) :: visits t.args p 0:=by cases t;simp [visit,Term.args]
theorem visits_append (a b:List Term) (p:List Int) (i:Nat):visits (a++b) p i = visits a p i++visits b p (i+a.length):=by
 induction a generalizing i with
 | nil=>simp [visits]
 | cons x xs ih=>simp only [List.cons_append,visits,ih,List.append_assoc,List.length_cons];congr 3;omega
theorem visits_take_succ {l:List Term} {p:List Int} {k:Nat} (h:k < l.length):visits (l.take (k+1)) p 0 = visits (l.take k) p 0++visit (l.getD k default) (p++[(k:Int)]):=by
 rw [take_succ_getD h,visits_append]
 have:(l.take k).length = k:=by simp;omega
 simp [visits,this]
theorem visits_drop {l:List Term} {p:List Int} {k:Nat} (h:k < l.length):visits l p 0 = visits (l.take k) p 0++(visit (l.getD k default) (p++[(k:Int)])++visits (l.drop (k+1)) p (k+1)):=by
 have h1:l = l.take k++(l.getD k default :: l.drop (k+1)):=by rw [← drop_getD h,List.take_append_drop]
 have:(l.take k).length = k:=by simp;omega
 conv=>lhs;rw [h1,visits_append]
 rw [visits,this,Nat.zero_add]
def encIt (x:List Int × Term):List V:=[encP x.1,encT x.2]
theorem at_app {α:Type} {l a b c:List α} {k:Nat} (h:l.drop k = a++(b++c)):l.drop (k+a.length) = b++c:=by
 rw [← List.drop_drop,h,List.drop_left]
theorem at_get {α:Type} {l b:List α} {a:α} {k:Nat} (h:l.drop k = a :: b):l[k]? = some a:=by
 have:=List.getElem?_drop (xs:=l) (i:=k) (j:=0)
 rw [h] at this;simpa using this.symm
theorem term_walk_s {F:Fn} {G:Nat→List Ob→Prop} {S:List Ob→Prop} {n:Nat} {its:List (List Int × Term)} (hG:∀ k H,G k H→Shut n H) (hS:∀ H,S H→Shut n H)
  (hF:∀ k it H,its[k]? = some it→G k H→SpecF prog F (encIt it) H fun x H'=>x = .bool true∧G (k+1) H' ∨ x = .bool false∧S H') (t:Term) :
  ∀ (p:List Int) (k:Nat) (rest:List (List Int × Term)),its.drop k = visit t p++rest→p.length+size t < 2^40→∀ H,G k H→Spec prog n_term_walk [encT t,encP p,.fn F [] []] H fun x H'=>x = .bool true∧G (k+(visit t p).length) H' ∨ x = .bool false∧S H':=by
 induction t using term_ind with
 | h t ih =>
 intro p k rest hd hsz H hg
 have hH:=hG _ _ hg
 have hl:=length_le_sizes t.args
 have hst:=size_args t
 rw [visit_eq,List.cons_append] at hd
 refine spec_of_run mixed term_walk.ok rfl ?_
 push_cast
 refine .all (hF k _ H (at_get hd) hg) ?_
 rintro x H1 (⟨rfl,hg1⟩ | ⟨rfl,hs1⟩)
 case inr =>
  push_cast
  refine ends_all (.inl rfl) rfl (.inr ⟨rfl,hs1⟩)
 case inl =>
  have hH1:=hG _ _ hg1
  have hkp:∀ H1,Shut n H1→(H1.take H.length).map (renOb (clip H.length)) = H1:=fun H1 h=>by rw [hH.1,List.take_of_length_le (Nat.le_of_eq h.1),h.2]
  push_cast [hkp H1 hH1]
  have hd1:its.drop (k+1) = visits t.args p 0++rest:=by rw [← List.drop_drop,hd];rfl
  refine loop_up (n:=t.args.length) (R:=fun j=>∀ H1,G (k+1+(visits (t.args.take j) p 0).length) H1→term_walk.L3 (encP p) (.fn F [] []) (encTs t.args) (.int .i64 t.args.length) (.int .i64 j) H.length H1 _) ?_ ?_ 0 (by omega) H1 hg1
  ·intro j hj ih2 H1 hg1
   have hm:=getD_mem hj
   have hsm:=size_mem hm
   have hH1:=hG _ _ hg1
   have hn:H.length = n:=hH.1
   rw [hn]
   refine term_walk.G3 ?_
   push_cast [ilt hj,hH1.1,get_off0 hH1.1,get_off hH1.1,set_off hH1.1,set_off0 hH1.1,w64 (show j < 2^62 by omega)]
   have hp1:(p++[(j:Int)]).length+size (t.args.getD j default) < 2^40:=by rw [List.length_append,List.length_singleton];omega
   have hd2:its.drop (k+1+(visits (t.args.take j) p 0).length) = visit (t.args.getD j default) (p++[(j:Int)])++(visits (t.args.drop (j+1)) p (j+1)++rest):=by
    refine at_app ?_
    rw [hd1,visits_drop hj];simp
   have hw:SpecF prog (.func n_term_walk) _ _ _:=specF_func ▸ ih _ hm _ _ _ hd2 hp1 H1 hg1
   rw [visits_take_succ hj,List.length_append] at ih2
   refine ⟨?_,?_⟩ <;>
   ·refine callG_new (slices_Clone_int_s p (by omega)) ?_
    push_cast [hH1.1,get_off0 hH1.1,get_off hH1.1,set_off hH1.1,set_off0 hH1.1]
    refine ⟨by unfold maxEls;omega,?_⟩
    refine callG_keep hH1 (vs':=[encT (t.args.getD j default),encP (p++[(j:Int)]),.fn F [] []]) ?_ hw ?_ ?_
    ·push_cast
     rw [if_neg (by omega)]
     simp [encL,cI]
    ·rintro x H2 (⟨_,h⟩ | ⟨_,h⟩)
     ·exact hG _ _ h
     ·exact hS _ h
    ·rintro x H2 (⟨rfl,h⟩ | ⟨rfl,h⟩)
     ·have hH2:=hG _ _ h
      push_cast [w64 (show j < 2^62 by omega),take_off hH2.1,shut_clip hH2]
      have:=ih2 H2 (by rw [← Nat.add_assoc];exact h)
      rw [hn] at this
      exact this
     ·have hH2:=hS _ h
      push_cast
      exact ends_keep hH2 rfl (.inr ⟨rfl,h⟩)
  ·intro H1 hg1
   refine term_walk.G3 ?_
   push_cast [inlt (Nat.le_refl _)]
   refine ends_all (.inl rfl) rfl (.inl ⟨rfl,?_⟩)
   rw [List.take_length] at hg1
   rw [visit_eq,List.length_cons,Nat.add_comm _ 1,← Nat.add_assoc]
   exact hg1
theorem term_Walk_iter (t:Term) (hs:size t < 2^40):IterSpec prog n_term_Walk_1 [] [.ro (cT t) 0] ((visit t []).map encIt):=by
 intro F G S n hG hS hF H hg
 have hH:=hG _ _ hg
 refine spece_of_run mixed term_Walk_1.ok rfl ?_
 push_cast
 have hw:=term_walk_s (F:=F) (n:=n) (its:=visit t []) hG hS (fun k it H' hit=>hF k (encIt it) H' (by rw [List.getElem?_map,hit];rfl)) t [] 0 [] (by simp) (by simpa using hs) H hg
 have hw:SpecF prog (.func n_term_walk) _ _ _:=specF_func ▸ hw
 refine CallG.all hw ?_
 rintro x H1 (⟨rfl,h⟩ | ⟨rfl,h⟩)
 ·push_cast
  exact ends_all (.inr rfl) rfl (.inl (by rw [Nat.zero_add] at h;rw [List.length_map];exact h))
 ·push_cast
  exact ends_all (.inr rfl) rfl (.inr h)
theorem term_Walk_s (t:Term):PF n_term_Walk [encT t] (.fn (.func n_term_Walk_1) [] [.ro (cT t) 0]):=by
 refine pf_of term_Walk.ok rfl ?_
 push_cast
 exact pf_ret (by push_cast [term_Walk.rs])
end Go.Dw
end
section
namespace Go.Proofs
open Go.RowKit Go.Shelf Go.Sort
def Tryz.laysSort_ren:Go.Shelf.Ren:=⟨fun | 190=>125 | 125=>182 | 258=>181 | 128=>243 | 129=>244 | 302=>234 | 303=>235 | 304=>236 | 305=>237 | 306=>238 | 307=>239 | 308=>240 | 309=>241 | 310=>242 | 333=>273 | 329=>274 | 330=>275 | 334=>276 | 335=>277 | 336=>278 | 344=>298 | n=>n,fun | 31=>108 | 9=>9 | 3=>3 | 46=>208 | 0=>0 | 51=>252 | 53=>254 | 4=>4 | 183=>246 | 182=>245 | 131=>238 | 5=>5 | 218=>274 | 222=>278 | 228=>296 | 229=>117 | n=>n,fun | n=>n⟩
theorem Tryz.laysSort:Go.Proofs.Lays.n190 Tryz.prog Tryz.laysSort_ren:={
 mixed:=by kernel_rfl
 f125:=Tryz.func182.trans (congrArg some (by kernel_rfl))
 f128:=Tryz.func243.trans (congrArg some (by kernel_rfl))
 f129:=Tryz.func244.trans (congrArg some (by kernel_rfl))
 f190:=Tryz.func125.trans (congrArg some (by kernel_rfl))
 f258:=Tryz.func181.trans (congrArg some (by kernel_rfl))
 f302:=Tryz.func234.trans (congrArg some (by kernel_rfl))
 f303:=Tryz.func235.trans (congrArg some (by kernel_rfl))
 f304:=Tryz.func236.trans (congrArg some (by kernel_rfl))
 f305:=Tryz.func237.trans (congrArg some (by kernel_rfl))
 f306:=Tryz.func238.trans (congrArg some (by kernel_rfl))
 f307:=Tryz.func239.trans (congrArg some (by kernel_rfl))
 f308:=Tryz.func240.trans (congrArg some (by kernel_rfl))
 f309:=Tryz.func241.trans (congrArg some (by kernel_rfl))
 f310:=Tryz.func242.trans (congrArg some (by kernel_rfl))
 f329:=Tryz.func274.trans (congrArg some (by kernel_rfl))
 f330:=Tryz.func275.trans (congrArg some (by kernel_rfl))
 f333:=Tryz.func273.trans (congrArg some (by kernel_rfl))
 f334:=Tryz.func276.trans (congrArg some (by kernel_rfl))
 f335:=Tryz.func277.trans (congrArg some (by kernel_rfl))
 f336:=Tryz.func278.trans (congrArg some (by kernel_rfl))
 f344:=Tryz.func298.trans (congrArg some (by kernel_rfl))
 t0:=Tryz.underlying0
 a0:=Tryz.isAgg0
 z0:=Tryz.sizeOf0
 v0:=Tryz.zeroValue0
 t3:=Tryz.underlying3
 a3:=Tryz.isAgg3
 z3:=Tryz.sizeOf3
 v3:=Tryz.zeroValue3
 t4:=Tryz.underlying4
 a4:=Tryz.isAgg4
 z4:=Tryz.sizeOf4
 v4:=Tryz.zeroValue4
 t5:=Tryz.underlying5
 a5:=Tryz.isAgg5
 z5:=Tryz.sizeOf5
 v5:=Tryz.zeroValue5
 t9:=Tryz.underlying9
 a9:=Tryz.isAgg9
 z9:=Tryz.sizeOf9
 v9:=Tryz.zeroValue9
 t31:=Tryz.underlying108
 a31:=Tryz.isAgg108
 z31:=Tryz.sizeOf108
 v31:=Tryz.zeroValue108
 t46:=Tryz.underlying208
 a46:=Tryz.isAgg208
 z46:=Tryz.sizeOf208
 v46:=Tryz.zeroValue208
 t51:=Tryz.underlying252
 a51:=Tryz.isAgg252
 z51:=Tryz.sizeOf252
 v51:=Tryz.zeroValue252
 t53:=Tryz.underlying254
 a53:=Tryz.isAgg254
 z53:=Tryz.sizeOf254
 v53:=Tryz.zeroValue254
 t131:=Tryz.underlying238
 a131:=Tryz.isAgg238
 z131:=Tryz.sizeOf238
 v131:=Tryz.zeroValue238
 t182:=Tryz.underlying245
 a182:=Tryz.isAgg245
 z182:=Tryz.sizeOf245
 v182:=Tryz.zeroValue245
 t183:=Tryz.underlying246
 a183:=Tryz.isAgg246
 z183:=Tryz.sizeOf246
 v183:=Tryz.zeroValue246
 t218:=Tryz.underlying274
 a218:=Tryz.isAgg274
 z218:=Tryz.sizeOf274
 v218:=Tryz.zeroValue274
 t222:=Tryz.underlying278
 a222:=Tryz.isAgg278
 z222:=Tryz.sizeOf278
 v222:=Tryz.zeroValue278
 t228:=Tryz.underlying296
 a228:=Tryz.isAgg296
 z228:=Tryz.sizeOf296
 v228:=Tryz.zeroValue296
 t229:=Tryz.underlying117
 a229:=Tryz.isAgg117
 z229:=Tryz.sizeOf117
 v229:=Tryz.zeroValue117 }
theorem Tryz.sort_num:Tryz.laysSort_ren.f 190 = Go.Dw.n_slices_Sort_s_string_string:=by kernel_rfl
theorem Tryz.sort_in (args:Array Value) (w:World):(callFunc Go.Dw.n_slices_Sort_s_string_string args).run Tryz.prog w = .ok (.enter Go.Dw.n_slices_Sort_s_string_string args) w:=by
 have:=enters_of (P:=Tryz.prog) Tryz.laysSort.f190 (by kernel_rfl) rfl args w
 rw [Tryz.sort_num] at this
 exact this
abbrev sortS (l:List (List UInt8)):List (List UInt8):=l.mergeSort fun x y=>decide (x≤y)
theorem Tryz.sort_c (blk off cap:Nat) (zs:List (List UInt8)) (w:World) (hH:Holds encStr w blk off zs.toArray) (hblk:blk < w.heap.size) (hsz:zs.length < 4611686018427387904) :
  Calls Tryz.prog Go.Dw.n_slices_Sort_s_string_string #[.slice (some ⟨blk,off,none⟩) zs.length cap] w fun e w' =>
   e = .returned (.tuple #[])∧∃ n os,w' = grow (putRow encStr (Sort.ahead w n) blk off (sortS zs).toArray) os:=by
 have:=calls_of_every_depth fun D=>AnyS.slices_Sort_string_alone Tryz.laysSort D blk off cap zs w hH hblk hsz
 rw [Tryz.sort_num] at this
 exact this
theorem Tryz.sort_n (cap:Nat) (w:World):Calls Tryz.prog Go.Dw.n_slices_Sort_s_string_string #[.slice none 0 cap] w fun e w'=>e = .returned (.tuple #[])∧w' = w:=by
 have:=calls_of_every_depth fun D=>AnyS.slices_Sort_string_none_alone Tryz.laysSort D none cap w
 rw [Tryz.sort_num] at this
 exact this
end Go.Proofs
namespace Go.Dw
open Go.Proofs Go.Sort
theorem sort_row (l:List (List UInt8)):Spec prog n_slices_Sort_s_string_string [.rw 0 1 l.length] [.row t_string 1 (l.map fun s=>[V.str s])] fun x H'=>x = .tup []∧H' = [.row t_string 1 ((sortS l).map fun s=>[V.str s])]:=by
 intro c vs hH hc hr
 obtain ⟨v,vs',rfl,h1,h2⟩:=hr
 have h2:vs' = []:=h2
 subst h2
 left
 have h0:c.H[0]? = some (.row t_string 1 (l.map fun s=>[V.str s])):=by rw [hH];rfl
 obtain ⟨q1,q2⟩:=hc.obj 0 _ h0
 obtain ⟨p1,⟨a,k,p2,p3,p4⟩,p5⟩:=h1
 have hcur:=(p5 _ _ _ h0).2.2 (by simp)
 have hperm:(sortS l).length = l.length:=(List.mergeSort_perm l _).length_eq
 refine ⟨Tryz.sort_in _ _,?_⟩
 cases hρ:c.ρ 0 with
 | none =>
  have hl:l = []:=by simpa using q1 hρ
  subst hl
  rw [hρ] at hcur
  have hcur:v = .slice none 0 0:=hcur
  subst hcur
  refine (Tryz.sort_n 0 c.w).mono ?_
  rintro e w' ⟨rfl,rfl⟩
  exact ⟨_,.tup [],c,rfl,rfl,⟨rfl,by rw [hH];simp⟩,hc,⟨#[],rfl,rfl⟩,.refl c⟩
 | some bk =>
  obtain ⟨b,m⟩:=bk
  rw [hρ] at hcur
  have hcur:v = .slice (some ⟨b,0,none⟩) l.length m:=hcur
  subst hcur
  obtain ⟨vs,r1,r2,r3,r4,r5,r6⟩:=q2 b m hρ
  have hblt:b < c.w.heap.size:=(Array.getElem?_eq_some_iff.1 r1).1
  have hcell:∀ j (s:List UInt8),l[j]? = some s→vs[j]? = some (encStr s):=fun j s hj=>by
   obtain ⟨_,hx⟩:=r6 j [V.str s] (by rw [List.getElem?_map,hj];rfl)
   obtain ⟨v,e1,_,e3⟩:=hx 0 _ rfl
   have e3:v = .string ⟨⟨s⟩⟩:=e3
   rw [Nat.mul_one,Nat.add_zero] at e1
   rw [e1,e3]
  have hHolds:Holds encStr c.w b 0 l.toArray:=fun j hj=>by
   have hj:j < l.length:=by simpa using hj
   have hg:l[j]? = some l[j]:=by simp [hj]
   have:=hcell j _ hg
   have hgd:l.toArray[j]! = l[j]:=by simp [hj]
   refine ⟨?_,?_⟩
   ·simp only [World.cell?,r1,Nat.zero_add,hgd]
    exact this
   ·simp [World.frozen?,r1]
  refine (Tryz.sort_c b 0 m l c.w hHolds hblt (by unfold maxEls at p3;omega)).mono ?_
  rintro e w' ⟨rfl,n,os,rfl⟩
  generalize hso:sortS l = so at hperm
  generalize hw':grow (putRow encStr (Sort.ahead c.w n) b 0 so.toArray) os = w'
  have hsz:w'.heap.size = c.w.heap.size+os.size:=by subst hw';simp [grow,putRow,mapBlock,Sort.ahead]
  have hoth:∀ b',b' < c.w.heap.size→b' ≠ b→w'.heap[b']? = c.w.heap[b']?:=fun b' h1 h2=>by
   subst hw'
   simp only [grow,putRow,mapBlock,Sort.ahead]
   rw [Array.getElem?_append_left (by simpa using h1),Array.getElem?_modify,if_neg (Ne.symm h2)]
  have hsame:w'.heap[b]? = some (.cells (putCells encStr 0 so.toArray vs) t_string (0,0)):=by
   subst hw'
   simp only [grow,putRow,mapBlock,Sort.ahead]
   rw [Array.getElem?_append_left (by simpa using hblt),Array.getElem?_modify,if_pos rfl,r1]
   rfl
  have howns:∀ b',c.owns b' ↔ b' = b:=fun b'=>by
   constructor
   ·rintro ⟨i,k',h1,h2⟩
    have:i = 0:=by rw [hH] at h1;simpa using h1
    subst this
    rw [hρ] at h2;cases h2;rfl
   ·rintro rfl;exact ⟨0,m,p1,hρ⟩
  refine ⟨_,.tup [],⟨w',c.ok,c.ρ,[.row t_string 1 (so.map fun s=>[V.str s])]⟩,rfl,rfl,⟨rfl,rfl⟩,?_,⟨#[],rfl,rfl⟩,?_⟩
  ·refine ⟨fun i j b1 k1 k2 h1 h2 _ _=>?_,fun b' o h=>?_,fun i o hi=>?_,hc.glob.keep (fun b' hb hno=>hoth b' hb fun e=>hno ((howns b').2 e)) fun b' ⟨i,k',h1,h2⟩=>.inl ⟨i,k',by rw [hH];exact h1,h2⟩⟩
   ·simp only [List.length_singleton] at h1 h2;omega
   ·have:=hc.okLt _ _ h;show b' < w'.heap.size;omega
   ·cases i with
    | succ i=>simp at hi
    | zero =>
     simp only [List.getElem?_cons_zero,Option.some.injEq] at hi
     subst hi
     refine ⟨fun h=>?_,fun b' k' h=>?_⟩
     ·have h:c.ρ 0 = none:=h
      rw [hρ] at h;cases h
     ·have h:c.ρ 0 = some (b',k'):=h
      rw [hρ] at h;cases h
      refine ⟨putCells encStr 0 so.toArray vs,hsame,by simpa [putCells] using r2,by simpa [hperm] using r3,r4,r5,fun i el hi=>?_⟩
      rw [List.getElem?_map] at hi
      cases hs:so[i]? with
      | none=>rw [hs] at hi;cases hi
      | some s =>
       rw [hs] at hi;cases hi
       refine ⟨rfl,fun j x hx=>?_⟩
       cases j with
       | succ j=>simp at hx
       | zero =>
        simp only [List.getElem?_cons_zero,Option.some.injEq] at hx
        subst hx
        have hil:i < so.length:=(List.getElem?_eq_some_iff.1 hs).1
        have hsi:so[i] = s:=(List.getElem?_eq_some_iff.1 hs).2
        have hiv:i < vs.size:=by rw [List.length_map] at r3;omega
        refine ⟨encStr s,?_,rfl,rfl⟩
        rw [Nat.mul_one,Nat.add_zero]
        simp only [putCells,Array.getElem?_mapIdx,Array.getElem?_eq_getElem hiv,Option.map_some]
        rw [if_pos (by simpa using hil)]
        simp [hil,hsi]
  ·refine ⟨fun _ _ h=>h,fun b' o h=>?_,by show c.w.heap.size≤w'.heap.size;omega,fun _ _ h=>.inl h,fun b' hb hno=>hoth b' hb (fun e=>hno ((howns b').2 e)),fun b' hb=>.inl ?_,fun j o hj=>?_,?_,?_,?_,?_⟩
   ·have hne:b' ≠ b:=fun e=>r5 o (e ▸ h)
    simp only [World.cell?]
    rw [hoth b' (hc.okLt _ _ h) hne]
   ·obtain ⟨i,k',h1,h2⟩:=hb
    exact ⟨i,k',by rw [hH];exact h1,h2⟩
   ·rw [hH] at hj
    cases j with
    | succ j=>simp at hj
    | zero =>
     simp only [List.getElem?_cons_zero,Option.some.injEq] at hj
     subst hj
     exact ⟨_,rfl,rfl,rfl,by simp [hperm],fun _=>rfl⟩
   ·subst hw';rfl
   ·subst hw';rfl
   ·subst hw';rfl
   ·subst hw';exact Nat.le_add_right _ _
end Go.Dw
end
section
namespace Go.Dw
open Go.Proofs (sortS)
theorem rens_strs {σ:Nat→Option Nat} {l:List Str}:(l.map fun s=>[V.str s]).map (rens σ) = l.map fun s=>[V.str s]:=by rw [List.map_map];rfl
attribute [push_cast] rens_strs
theorem take_2 (a b c d o:Ob):takeB [2] [a,b,c,d] [o] = [a,b,renOb (back [2] 4) o,d]:=rfl
theorem give_2 (a b c d:Ob):give [2] [a,b,c,d] = [renOb (pos? [2]) c]:=rfl
def addS (ks:List Str) (n:Str):List Str:=if n∈ks then ks else ks++[n]
def encKs (ks:List Str):List (V × V):=ks.map fun k=>(.str k,.bool true)
theorem ren_encKs {σ:Nat→Option Nat} {ks:List Str}:((encKs ks).map fun p=>(ren σ p.1,ren σ p.2)) = encKs ks:=by
 unfold encKs;rw [List.map_map];rfl
attribute [push_cast] ren_encKs
theorem findM_encKs (n:Str):∀ (ks:List Str) (i:Nat),findM (.str n) (encKs ks) i = some (if n∈ks then some (i+ks.idxOf n,.bool true) else none)
 | [],i=>by simp [findM,encKs]
 | k :: ks,i=>by
  have ih:=findM_encKs n ks (i+1)
  unfold encKs at ih ⊢
  by_cases h:k = n
  ·subst h;simp [findM,sameK]
  ·have h':n ≠ k:=fun e=>h e.symm
   have e:sameK (.str n) (.str k) = some false:=by simp [sameK,h']
   have hb:(k == n) = false:=by simp [h]
   simp only [List.map_cons,findM,e,ih,List.mem_cons,h',false_or,List.idxOf_cons,hb,cond_false]
   split
   ·congr 3;omega
   ·rfl
theorem updM_encKs (n:Str) (ks:List Str):updM (.str n) (.bool true) (encKs ks) = some (encKs (addS ks n)):=by
 unfold updM
 rw [findM_encKs]
 unfold addS
 by_cases h:n∈ks
 ·simp only [h,if_true]
  congr 1
  unfold encKs
  apply List.ext_getElem (by simp)
  intro i h1 h2
  rw [List.getElem_set]
  split
  ·rename_i e
   subst e
   simp [List.getElem_idxOf]
  ·rfl
 ·simp only [h,if_false]
  simp [encKs]
def varsIn (l:List (List Int × Term)):List Str:=(l.filter fun x=>x.2.var).map fun x=>x.2.name
def vset (ks:List Str) (l:List (List Int × Term)):List Str:=(varsIn l).foldl addS ks
def vsetT (ks:List Str) (l:List Term):List Str:=l.foldl (fun ks t=>vset ks (visit t [])) ks
def varsOf (l:List Term):List Str:=sortS (vsetT [] l)
mutual
theorem visit_len:∀ (t:Term) (p:List Int),(visit t p).length = size t
 | .mk n v l,p=>by simp only [visit,size,List.length_cons,visits_len l p 0];omega
theorem visits_len:∀ (l:List Term) (p:List Int) (i:Nat),(visits l p i).length = sizes l
 | [],p,i=>rfl
 | a :: l,p,i=>by simp only [visits,sizes,List.length_append,visit_len a,visits_len l]
end
theorem addS_len (ks:List Str) (n:Str):(addS ks n).length≤ks.length+1:=by unfold addS;split <;> simp
theorem foldl_addS_len:∀ (l:List Str) (ks:List Str),(l.foldl addS ks).length≤ks.length+l.length
 | [],ks=>by simp
 | n :: l,ks=>by have:=foldl_addS_len l (addS ks n);have:=addS_len ks n;simp only [List.foldl_cons,List.length_cons];omega
theorem vset_len (ks:List Str) (l:List (List Int × Term)):(vset ks l).length≤ks.length+l.length:=by
 have h1:=foldl_addS_len (varsIn l) ks
 have h2:(varsIn l).length≤l.length:=by unfold varsIn;rw [List.length_map];exact List.length_filter_le _ _
 unfold vset;omega
theorem vsetT_len:∀ (l:List Term) (ks:List Str),(vsetT ks l).length≤ks.length+sizes l
 | [],ks=>by simp [vsetT,sizes]
 | t :: l,ks=>by
  have h1:=vsetT_len l (vset ks (visit t []))
  have h2:=vset_len ks (visit t [])
  rw [visit_len] at h2
  simp only [vsetT,List.foldl_cons,sizes] at h1 ⊢;omega
theorem term_VarsOf_s (l:List Term) (hs:sizes l < 2^40):PF n_term_VarsOf [encTs l] (encSs (varsOf l)):=by
 have hl:=length_le_sizes l
 refine pf_of term_VarsOf.ok rfl ?_
 push_cast
 refine loop_up (n:=l.length) (R:=fun k=>term_VarsOf.L8 (.ptr 1 0) .any (encTs l) (.int .i64 l.length) (.int .i64 k) 0 [.map (encKs (vsetT [] (l.take k))),.cells t_m_string_bool [.map 0]] _) ?_ ?_ 0 (by omega)
 ·intro k hk ih
  have hm:=getD_mem hk
  have hsm:=size_mem hm
  refine term_VarsOf.G8 ?_
  push_cast [ilt hk]
  refine .of (term_Walk_s _) ?_
  push_cast
  have hks:vsetT [] (l.take (k+1)) = vset (vsetT [] (l.take k)) (visit (l.getD k default) []):=by rw [take_succ_getD hk];simp [vsetT]
  rw [hks] at ih
  generalize vsetT [] (l.take k) = ks at ih ⊢
  generalize l.getD k default = u at ih hsm ⊢
  refine Run.rf n_term_Walk_1 [] [.ro (cT u) 0] ((visit u []).map encIt) (fun j H1=>H1 = [.map (encKs (vset ks ((visit u []).take j))),.cells t_m_string_bool [.map 0],.dead]) (fun _ _=>False) rfl (term_Walk_iter u (by omega)) ?_ (by simp [vset,varsIn]) ?_ ?_ (fun _ _ h=>h.elim) ?_ ?_ (fun _ _ h=>h.elim)
  ·intro it hit
   obtain ⟨x,_,rfl⟩:=List.mem_map.1 hit
   rfl
  ·push_cast
  ·rintro j H1 rfl
   refine ⟨rfl,?_⟩
   push_cast
  ·rintro lo r j it H1 hit rfl
   rw [List.getElem?_map] at hit
   cases hx:(visit u [])[j]? with
   | none=>rw [hx] at hit;cases hit
   | some x =>
   rw [hx] at hit
   have hit:it = encIt x:=by simpa using hit.symm
   subst hit
   have hj:j < (visit u []).length:=(List.getElem?_eq_some_iff.1 hx).1
   have hxj:(visit u [])[j] = x:=(List.getElem?_eq_some_iff.1 hx).2
   have htk:(visit u []).take (j+1) = (visit u []).take j++[x]:=by rw [List.take_succ_eq_append_getElem hj,hxj]
   push_cast [setPs,encIt]
   refine run_m.2 ?_
   cases hv:x.2.var with
   | false =>
    have hvs:vset ks ((visit u []).take (j+1)) = vset ks ((visit u []).take j):=by rw [htk];simp [vset,varsIn,hv]
    push_cast [hv]
    refine ⟨rfl,?_⟩
    push_cast [cut,hvs]
   | true =>
    have hvs:vset ks ((visit u []).take (j+1)) = addS (vset ks ((visit u []).take j)) x.2.name:=by rw [htk];simp [vset,varsIn,hv]
    push_cast [hv,updM_encKs,ksB]
    refine ⟨rfl,?_⟩
    push_cast [cut,hvs]
  ·rintro H1 rfl
   push_cast [w64 (show k < 2^62 by omega)]
   have:(visit u []).take ((visit u []).map encIt).length = visit u []:=by rw [List.length_map,List.take_length]
   rw [this]
   exact ih
 ·refine term_VarsOf.G8 ?_
  push_cast [inlt (Nat.le_refl _)]
  unfold varsOf
  rw [List.take_length]
  have hkl:=vsetT_len l []
  generalize vsetT [] l = ks at hkl ⊢
  simp only [List.length_nil,Nat.zero_add] at hkl
  have hlen:(encKs ks).length = ks.length:=by unfold encKs;rw [List.length_map]
  rw [hlen]
  have fin:∀ (seen:List Nat),seen.Nodup→(∀ i∈seen,i < ks.length)→(∀ k,k < ks.length→k∈seen)→sortS (seen.map fun i=>ks.getD i []) = sortS ks:=fun seen h1 h2 h3=>by
   refine Go.mergeSort_of_perm ?_
   have hp:seen.Perm (List.range ks.length):=(List.perm_ext_iff_of_nodup h1 List.nodup_range).2 fun i=>by rw [List.mem_range];exact ⟨h2 i,h3 i⟩
   have he:(List.range ks.length).map (fun i=>ks.getD i []) = ks:=by
    apply List.ext_getElem (by simp)
    intro i a b
    have hi:i < ks.length:=by simpa using b
    simp [List.getD_eq_getElem?_getD,hi]
   have:=hp.map fun i=>ks.getD i []
   rw [he] at this
   exact this
  have key:∀ (m:Nat) (seen:List Nat),ks.length - seen.length≤m→seen.Nodup→(∀ i∈seen,i < ks.length)→term_VarsOf.L3 (.rw 2 1 seen.length) (.it 3) 0
    [.map (encKs ks),.cells t_m_string_bool [.map 0],.row t_string 1 ((seen.map fun i=>ks.getD i []).map fun s=>[V.str s]),.iter (some 0) ks.length seen]
    (Ends 0 term_VarsOf.rs fun x' H'=>x' = encSs (sortS ks)∧H' = []):=by
   intro m
   induction m with
   | zero =>
    intro seen hm hnd hlt
    refine term_VarsOf.G3 ?_
    push_cast
    refine nxP_of 0 ks.length seen (encKs ks) rfl rfl hlen.symm (fun hall=>?_) (fun k p hp hk=>?_)
    ·have hsl:(seen.map fun i=>ks.getD i []).length = seen.length:=by simp
     have hc:=sort_row (seen.map fun i=>ks.getD i [])
     have hso:(sortS (seen.map fun i=>ks.getD i [])).length = seen.length:=by rw [(List.mergeSort_perm _ _).length_eq,hsl]
     rw [hsl,fin seen hnd hlt hall] at hc
     rw [fin seen hnd hlt hall] at hso
     push_cast
     refine CallG.some [2] (by simp) (by simp) (R:=fun x H'=>x = .tup []∧H' = [.row t_string 1 ((sortS ks).map fun s=>[V.str s])]) (by rw [give_2,renOb_row,rens_strs];exact hc) ?_
     rintro x H' ⟨rfl,rfl⟩ _
     rw [take_2]
     push_cast
     refine ⟨by rw [List.length_map];exact hso,pf_ret ?_⟩
     push_cast [term_VarsOf.rs]
     rfl
    ·have:(seen++[k]).length≤(List.range ks.length).length:=List.Nodup.length_le_of_subset (by simp [List.nodup_append,hnd];intro a ha e;exact hk (e ▸ ha)) (by
      intro i hi
      rw [List.mem_range]
      rcases List.mem_append.1 hi with h | h
      ·exact hlt i h
      ·simp only [List.mem_singleton] at h;subst h;rw [← hlen];exact (List.getElem?_eq_some_iff.1 hp).1)
     simp at this;omega
   | succ m ih =>
    intro seen hm hnd hlt
    refine term_VarsOf.G3 ?_
    push_cast
    refine nxP_of 0 ks.length seen (encKs ks) rfl rfl hlen.symm (fun hall=>?_) (fun k p hp hk=>?_)
    ·have hsl:(seen.map fun i=>ks.getD i []).length = seen.length:=by simp
     have hc:=sort_row (seen.map fun i=>ks.getD i [])
     have hso:(sortS (seen.map fun i=>ks.getD i [])).length = seen.length:=by rw [(List.mergeSort_perm _ _).length_eq,hsl]
     rw [hsl,fin seen hnd hlt hall] at hc
     rw [fin seen hnd hlt hall] at hso
     push_cast
     refine CallG.some [2] (by simp) (by simp) (R:=fun x H'=>x = .tup []∧H' = [.row t_string 1 ((sortS ks).map fun s=>[V.str s])]) (by rw [give_2,renOb_row,rens_strs];exact hc) ?_
     rintro x H' ⟨rfl,rfl⟩ _
     rw [take_2]
     push_cast
     refine ⟨by rw [List.length_map];exact hso,pf_ret ?_⟩
     push_cast [term_VarsOf.rs]
     rfl
    ·have hkl:k < ks.length:=by rw [← hlen];exact (List.getElem?_eq_some_iff.1 hp).1
     have hpe:p = (.str (ks.getD k []),.bool true):=by
      unfold encKs at hp
      rw [List.getElem?_map] at hp
      simp [hkl] at hp
      rw [← hp];simp [List.getD_eq_getElem?_getD,hkl]
     have hen:∀ a b,enV [.map (encKs ks),a,b,.iter (some 0) ks.length (seen++[k])] (.it 3) = some (.tup [p.1,p.2]):=fun a b=>by
      simp [enV,hlen,hp]
     subst hpe
     push_cast [hen]
     refine ⟨?_,?_⟩
     ·have:(seen.map fun i=>ks.getD i []).length = seen.length:=by simp
      have h2:seen.length≤ks.length:=by simpa using List.Nodup.length_le_of_subset hnd (l₂:=List.range ks.length) fun i hi=>List.mem_range.2 (hlt i hi)
      exact ⟨by simp,room (n:=seen.length) (b:=16) (by omega) (by omega)⟩
     ·have hnd2:(seen++[k]).Nodup:=by simp [List.nodup_append,hnd];intro a ha e;exact hk (e ▸ ha)
      have hlt2:∀ i∈seen++[k],i < ks.length:=fun i hi=>by
       rcases List.mem_append.1 hi with h | h
       ·exact hlt i h
       ·simp only [List.mem_singleton] at h;subst h;exact hkl
      have:=ih (seen++[k]) (by simp;omega) hnd2 hlt2
      simp only [List.map_append,List.map_cons,List.map_nil,List.length_append,List.length_singleton] at this
      rw [List.map_append,rens_strs]
      exact this
  exact key ks.length [] (by simp) List.nodup_nil (by simp)
end Go.Dw
end
section
namespace Go.Dw
open Go.Proofs (sortS)
def rbs:List ARule→Nat
 | []=>0
 | x :: r=>1+tb x.left+tb x.right+rbs r
theorem rbs_mem {r:List ARule} {x:ARule} (h:x∈r):1+tb x.left+tb x.right≤rbs r:=by
 induction r with
 | nil=>cases h
 | cons y ys ih=>rcases List.mem_cons.1 h with rfl | h <;> simp [rbs];have:=ih h;omega
theorem length_le_rbs (r:List ARule):r.length≤rbs r:=by
 induction r with
 | nil=>simp
 | cons x xs ih=>simp only [rbs,List.length_cons];omega
section
variable (r:ARule)
theorem cR_0:(cR r)[0]? = some (.str r.left.name):=rfl
theorem cR_1:(cR r)[1]? = some (.bool r.left.var):=rfl
theorem cR_2:(cR r)[2]? = some (encTs r.left.args):=by show some (V.sl 3 (argC r.left)) = _;rw [argC_eq];rfl
theorem cR_3:(cR r)[3]? = some (.str r.right.name):=rfl
theorem cR_4:(cR r)[4]? = some (.bool r.right.var):=rfl
theorem cR_5:(cR r)[5]? = some (encTs r.right.args):=by show some (V.sl 3 (argC r.right)) = _;rw [argC_eq];rfl
end
attribute [push_cast] cR_0 cR_1 cR_2 cR_3 cR_4 cR_5
def checkPairs:List ARule→Int
 | []=>0
 | x :: r=>if checks [x.left,x.right] ≠ 0 then checks [x.left,x.right] else checkPairs r
def checkRules (r:List ARule):Int:=if 64 < r.length then 3 else checkPairs r
theorem term_CheckRules_s (r:List ARule) (hs:rbs r < 2^61):PF n_term_CheckRules [encRs r] (.int .i64 (checkRules r)):=by
 have hl:=length_le_rbs r
 refine pf_of term_CheckRules.ok rfl ?_
 by_cases h64:64 < r.length
 ·have hi:((64:Int) < (r.length:Int)) = True:=eq_true (by omega)
  push_cast [hi]
  refine pf_ret ?_
  push_cast [term_CheckRules.rs,checkRules,h64]
 ·have hi:((64:Int) < (r.length:Int)) = False:=eq_false (by omega)
  push_cast [hi,checkRules,h64]
  refine loop_up (n:=r.length) (R:=fun k=>checkPairs (r.drop k) = checkPairs r→term_CheckRules.L3 (encRs r) (.int .i64 r.length) (.int .i64 k) 0 [] _) ?_ ?_ 0 (by omega) rfl
  ·intro k hk ih hq
   have hm:=rbs_mem (getD_mem hk)
   refine term_CheckRules.G3 ?_
   rw [drop_getD hk] at hq
   simp only [checkPairs] at hq
   generalize hx:r.getD k default = x at hm hq
   have hA:=term_All_s [x.left,x.right] (by simp) (by simp;omega)
   push_cast [ilt hk,hx]
   refine .of hA ?_
   push_cast [w64 (show k < 2^62 by omega)]
   refine ⟨fun h=>pf_ret ?_,fun h=>ih ?_⟩
   ·push_cast [term_CheckRules.rs]
    rw [← hq,if_pos h]
   ·rw [← hq,if_neg h]
  ·intro hq
   refine term_CheckRules.G3 ?_
   push_cast [inlt (Nat.le_refl _)]
   refine pf_ret ?_
   push_cast [term_CheckRules.rs]
   rw [← hq,drop_map_none];rfl
theorem slices_Index_str_s (l:List Str) (v:Str) (hl:l.length < 2^62):PF n_slices_Index_s_string_string [encSs l,.str v] (.int .i64 (idxI (fun x=>decide (v = x)) l)):=by
 refine pf_of slices_Index_s_string_string.ok rfl ?_
 push_cast
 refine loop_up (n:=l.length) (R:=fun k=>(∀ j,j < k→decide (v = l.getD j default) = false)→slices_Index_s_string_string.L3 (encSs l) (.str v) (.int .i64 l.length) (.int .i64 k) 0 [] _) ?_ ?_ 0 (by omega) (by intro j hj;omega)
 ·intro k hk ih hq
  refine slices_Index_s_string_string.G3 ?_
  push_cast [ilt hk,w64 (show k < 2^62 by omega)]
  refine ⟨fun hp=>pf_ret ?_,fun hp=>?_⟩
  ·push_cast [slices_Index_s_string_string.rs]
   rw [idxI_some hk (by simpa using hp) hq]
  ·refine ih fun j hj=>?_
   rcases Nat.lt_succ_iff_lt_or_eq.1 hj with h | rfl
   ·exact hq j h
   ·simpa using hp
 ·intro hq
  refine slices_Index_s_string_string.G3 ?_
  push_cast [inlt (Nat.le_refl _)]
  refine pf_ret ?_
  push_cast [slices_Index_s_string_string.rs]
  rw [idxI_none hq]
theorem slices_Contains_str_s (l:List Str) (v:Str) (hl:l.length < 2^62):PF n_slices_Contains_s_string_string [encSs l,.str v] (.bool (decide (v∈l))):=by
 refine pf_of slices_Contains_s_string_string.ok rfl ?_
 push_cast
 refine .of (slices_Index_str_s l v hl) ?_
 push_cast
 refine pf_ret ?_
 push_cast [slices_Contains_s_string_string.rs,idxI_any]
 rw [Bool.eq_iff_iff];simp
def extra (x:ARule):Bool:=x.left.var || (varsOf [x.right]).any fun v=>!decide (v∈varsOf [x.left])
theorem varsOf_len (l:List Term):(varsOf l).length≤sizes l:=by
 have:=vsetT_len l []
 unfold varsOf;rw [(List.mergeSort_perm _ _).length_eq];simpa using this
theorem term_extra_s (x:ARule) (hs:tb x.left+tb x.right < 2^39):PF n_term_extra [encR x] (.bool (extra x)):=by
 have h1:=size_le_tb x.left
 have h2:=size_le_tb x.right
 have e1:∀ t,sizes [t] = size t:=fun t=>by simp [sizes]
 have hv:=varsOf_len [x.left]
 have hv2:=varsOf_len [x.right]
 rw [e1] at hv hv2
 have hL:=term_VarsOf_s [x.left] (by rw [e1];omega)
 have hR:=term_VarsOf_s [x.right] (by rw [e1];omega)
 refine pf_of term_extra.ok rfl ?_
 push_cast
 refine .of hL ?_
 cases hvar:x.left.var with
 | true =>
  push_cast [hvar]
  refine pf_ret ?_
  push_cast [term_extra.rs,extra,hvar]
  rfl
 | false =>
  push_cast [hvar]
  refine .of hR ?_
  push_cast
  refine .of (slices_ContainsFunc_s_string_string_s (p:=fun v=>!decide (v∈varsOf [x.left])) (caps:=[.ro [encSs (varsOf [x.left])] 0]) (fun _=>rfl) _ (by omega) fun v hv=>?_) ?_
  ·refine pf_of term_extra_1.ok rfl ?_
   push_cast
   refine .of (slices_Contains_str_s _ _ (by omega)) ?_
   push_cast
   exact pf_ret (by push_cast [term_extra_1.rs])
  ·push_cast
   refine pf_ret ?_
   push_cast [term_extra.rs,extra,hvar]
   rfl
end Go.Dw
end
section
namespace Go.Dw
abbrev Ars:=List (Str × Nat)
def getA:Ars→Str→Option Nat
 | [],_=>none
 | p :: m,n=>if p.1 = n then some p.2 else getA m n
def arStep (m:Ars) (u:Term):Option Ars:=if u.var then some m else match getA m u.name with
 | some n=>if n = u.args.length then some m else none
 | none=>some (m++[(u.name,u.args.length)])
def arAll (m:Ars):List (List Int × Term)→Option Ars
 | []=>some m
 | x :: l=>(arStep m x.2).bind fun m'=>arAll m' l
def arRules (m:Ars):List ARule→Option Ars
 | []=>some m
 | x :: r=>(arAll m (visit x.left [])).bind fun m1=>(arAll m1 (visit x.right [])).bind fun m2=>arRules m2 r
theorem arAll_append:∀ (a b:List (List Int × Term)) (m:Ars),arAll m (a++b) = (arAll m a).bind fun m'=>arAll m' b
 | [],b,m=>rfl
 | x :: a,b,m=>by simp only [List.cons_append,arAll];cases arStep m x.2 <;> simp [arAll_append a b]
def encAr (m:Ars):List (V × V):=m.map fun p=>(.str p.1,.int .i64 p.2)
theorem ren_encAr {σ:Nat→Option Nat} {m:Ars}:((encAr m).map fun p=>(ren σ p.1,ren σ p.2)) = encAr m:=by
 unfold encAr;rw [List.map_map];rfl
attribute [push_cast] ren_encAr
theorem findM_encAr (n:Str):∀ (m:Ars) (i:Nat),match getA m n with
  | none=>findM (.str n) (encAr m) i = some none
  | some a=>∃ j,findM (.str n) (encAr m) i = some (some (i+j,.int .i64 a))∧(encAr m)[j]? = some (.str n,.int .i64 a)
 | [],i=>rfl
 | p :: m,i=>by
  have ih:=findM_encAr n m (i+1)
  unfold getA
  by_cases h:p.1 = n
  ·rw [if_pos h]
   refine ⟨0,?_,?_⟩
   ·simp [encAr,findM,sameK,h]
   ·simp [encAr,h]
  ·rw [if_neg h]
   have h':n ≠ p.1:=fun e=>h e.symm
   have hb:(n == p.1) = false:=by simpa using h'
   have e:∀ (k:Nat) ,findM (.str n) (encAr (p :: m)) k = findM (.str n) (encAr m) (k+1):=fun k=>by simp [encAr,findM,sameK,hb]
   cases hg:getA m n with
   | none=>rw [hg] at ih;simp only at ih ⊢;rw [e];exact ih
   | some a =>
    rw [hg] at ih
    obtain ⟨j,h1,h2⟩:=ih
    refine ⟨j+1,?_,?_⟩
    ·rw [e,h1];congr 3;omega
    ·simp only [encAr,List.map_cons,List.getElem?_cons_succ];exact h2
theorem look_encAr (m:Ars) (n:Str) {H:List Ob} {k:Nat} (hk:H[k]? = some (.map (encAr m))):lookV H true true (.int .i64 0) (.map k) (.str n) = some (.tup [.int .i64 ((getA m n).getD 0:Nat),.bool (getA m n).isSome]):=by
 have h:=findM_encAr n m 0
 have he:entsV H (.map k) = some (encAr m):=by simp [entsV,hk]
 unfold lookV
 rw [he]
 cases hg:getA m n with
 | none=>rw [hg] at h;simp only at h;simp [ksB,h,foundX]
 | some a=>rw [hg] at h;obtain ⟨j,h1,h2⟩:=h;simp [ksB,h1,foundX]
theorem upd_encAr {m m':Ars} {u:Term} (hv:u.var = false) (h:arStep m u = some m'):updM (.str u.name) (.int .i64 u.args.length) (encAr m) = some (encAr m'):=by
 have hf:=findM_encAr u.name m 0
 unfold arStep at h
 rw [hv] at h
 simp only [Bool.false_eq_true,if_false] at h
 unfold updM
 cases hg:getA m u.name with
 | none =>
  rw [hg] at h hf
  simp only [Option.some.injEq] at h hf
  subst h
  rw [hf];simp [encAr]
 | some a =>
  rw [hg] at h hf
  simp only at h
  split at h
  ·rename_i ha
   cases h
   obtain ⟨j,h1,h2⟩:=hf
   rw [h1]
   subst ha
   simp only [Nat.zero_add,Option.some.injEq]
   obtain ⟨h3,h4⟩:=List.getElem?_eq_some_iff.1 h2
   rw [← h4,List.set_getElem_self]
  ·cases h
def arOut (o:Option Ars) (x:V) (H:List Ob):Prop:=match o with
 | none=>x = .tup [.nilm,.bool false]∧H = []
 | some m=>x = .tup [.map 0,.bool true]∧H = [.map (encAr m)]
abbrev arH (m:Ars) (l:List Ob):List Ob:=.cells t_m_string_int [.nilm] :: .cells t_bool [.bool false] :: .map (encAr m) :: .cells t_m_string_int [.map 2] :: l
theorem ar_pass {u:Term} {m:Ars} {r:List ARule} {v24:V} {j k n:Nat} (hs:size u < 2^40) (hj:j < 2) (hra:∀ σ,ren σ v24 = v24) (hix:ixaV 3 2 (some 3) v24 (.int .i64 j) = some (encT u)) (hnone:arAll m (visit u []) = none→arRules [] r = none)
  (hsome:∀ m',arAll m (visit u []) = some m'→term_Arities.L6 (.ptr 0 0) (.ptr 1 0) (.ptr 3 0) .any (encRs r) (.int .i64 n) (.int .i64 k) v24 (.int .i64 (j+1:Nat)) 0 (arH m' [.dead]) (Ends 0 term_Arities.rs (arOut (arRules [] r)))) :
  term_Arities.L6 (.ptr 0 0) (.ptr 1 0) (.ptr 3 0) .any (encRs r) (.int .i64 n) (.int .i64 k) v24 (.int .i64 j) 0 (arH m [.dead]) (Ends 0 term_Arities.rs (arOut (arRules [] r))):=by
 have hj2:((j:Int) < 2) = True:=eq_true (by omega)
 refine term_Arities.G6 ?_
 push_cast [hj2,hix]
 refine .of (term_Walk_s _) ?_
 push_cast
 refine Run.rf n_term_Walk_1 [] [.ro (cT u) 0] ((visit u []).map encIt) (fun i H1=>∃ m',arAll m ((visit u []).take i) = some m'∧H1 = arH m' [.dead,.dead]) (fun e H1=>e = .ret∧arAll m (visit u []) = none∧∃ m',H1 = arH m' [.dead,.dead]) rfl (term_Walk_iter u hs) ?_ ⟨m,rfl,rfl⟩ ?_ ?_ ?_ ?_ ?_ ?_
 ·intro it hit
  obtain ⟨x,_,rfl⟩:=List.mem_map.1 hit
  rfl
 ·push_cast [hra]
 ·rintro i H1 ⟨m',_,rfl⟩
  refine ⟨rfl,?_⟩
  push_cast
 ·rintro i H1 ⟨_,_,m',rfl⟩
  refine ⟨rfl,?_⟩
  push_cast
 ·rintro lo rr i it H1 hit ⟨m',hm',rfl⟩
  rw [List.getElem?_map] at hit
  cases hx:(visit u [])[i]? with
  | none=>rw [hx] at hit;cases hit
  | some x =>
  rw [hx] at hit
  have hit:it = encIt x:=by simpa using hit.symm
  subst hit
  have hi:i < (visit u []).length:=(List.getElem?_eq_some_iff.1 hx).1
  have hxi:(visit u [])[i] = x:=(List.getElem?_eq_some_iff.1 hx).2
  have htk:(visit u []).take (i+1) = (visit u []).take i++[x]:=by rw [List.take_succ_eq_append_getElem hi,hxi]
  have hst:arAll m ((visit u []).take (i+1)) = arStep m' x.2:=by rw [htk,arAll_append,hm'];simp [arAll]
  have hlk:∀ (a b:Ob) l,lookV (a :: b :: .map (encAr m') :: l) true true (.int .i64 0) (.map 2) (.str x.2.name) = some (.tup [.int .i64 ((getA m' x.2.name).getD 0:Nat),.bool (getA m' x.2.name).isSome]):=fun a b l=>look_encAr m' _ rfl
  push_cast [setPs,encIt]
  refine run_m.2 ?_
  cases hv:x.2.var with
  | true =>
   have hst2:arStep m' x.2 = some m':=by unfold arStep;rw [hv];rfl
   push_cast [hv]
   refine ⟨rfl,?_⟩
   refine ⟨m',by rw [hst,hst2],?_⟩
   push_cast [cut]
  | false =>
   cases hg:getA m' x.2.name with
   | none =>
    have hst2:arStep m' x.2 = some (m'++[(x.2.name,x.2.args.length)]):=by unfold arStep;rw [hv,hg];rfl
    have hup:=upd_encAr hv hst2
    push_cast [hv,hlk,hg,Option.isSome_none,hup,ksB]
    refine ⟨rfl,?_⟩
    refine ⟨_,by rw [hst,hst2],?_⟩
    push_cast [cut]
   | some a =>
    by_cases ha:a = x.2.args.length
    ·have hst2:arStep m' x.2 = some m':=by unfold arStep;rw [hv,hg];simp [ha]
     have hup:=upd_encAr hv hst2
     have ha':((a:Int) = (x.2.args.length:Int)) = True:=eq_true (by omega)
     push_cast [hv,hlk,hg,Option.isSome_some,Option.getD_some,ha',hup,ksB]
     refine ⟨rfl,?_⟩
     refine ⟨_,by rw [hst,hst2],?_⟩
     push_cast [cut]
    ·have hst2:arStep m' x.2 = none:=by unfold arStep;rw [hv,hg];simp [ha]
     have ha':((a:Int) = (x.2.args.length:Int)) = False:=eq_false (by omega)
     push_cast [hv,hlk,hg,Option.isSome_some,Option.getD_some,ha',ksB]
     refine ⟨rfl,?_⟩
     have hall:arAll m (visit u []) = none:=by
      have:visit u [] = (visit u []).take (i+1)++(visit u []).drop (i+1):=(List.take_append_drop _ _).symm
      rw [this,arAll_append,hst,hst2];rfl
     refine ⟨rfl,hall,m',?_⟩
     push_cast [cut]
 ·rintro H1 ⟨m',hm',rfl⟩
  rw [List.length_map,List.take_length] at hm'
  have:=hsome m' hm'
  push_cast [hra,w64 (show j < 2^62 by omega)]
  push_cast at this
  exact this
 ·rintro e H1 ⟨rfl,hn,m',rfl⟩
  simp only [jumpC]
  push_cast
  rw [hnone hn]
  exact ends_nil (.inl rfl) rfl ⟨rfl,rfl⟩
theorem term_Arities_s (r:List ARule) (hs:rbs r < 2^40):Spec prog n_term_Arities [encRs r] [] (arOut (arRules [] r)):=by
 have hl:=length_le_rbs r
 refine spec_of_run mixed term_Arities.ok rfl ?_
 push_cast
 refine loop_up (n:=r.length) (R:=fun k=>∀ m,arRules m (r.drop k) = arRules [] r→term_Arities.L8 (.ptr 0 0) (.ptr 1 0) (.ptr 3 0) .any (encRs r) (.int .i64 r.length) (.int .i64 k) 0 (arH m []) (Ends 0 term_Arities.rs (arOut (arRules [] r)))) ?_ ?_ 0 (by omega) [] rfl
 ·intro k hk ih m hm
  have hmm:=rbs_mem (getD_mem hk)
  rw [drop_getD hk] at hm
  refine term_Arities.G8 ?_
  generalize hx:r.getD k default = x at hm hmm
  have h1:=size_le_tb x.left
  have h2:=size_le_tb x.right
  simp only [arRules] at hm
  have hr24:∀ σ,rens σ (cT x.left++cT x.right) = cT x.left++cT x.right:=fun σ=>rfl
  push_cast [ilt hk,hx,hr24]
  refine ar_pass (j:=0) (u:=x.left) (by omega) (by omega) (fun σ=>by rw [ren_agg,hr24]) rfl (fun h=>by rw [← hm,h];rfl) fun m1 hm1=>?_
  rw [hm1,Option.bind_some] at hm
  refine ar_pass (j:=1) (u:=x.right) (by omega) (by omega) (fun σ=>by rw [ren_agg,hr24]) rfl (fun h=>by rw [← hm,h];rfl) fun m2 hm2=>?_
  rw [hm2,Option.bind_some] at hm
  refine term_Arities.G6 ?_
  push_cast [w64 (show k < 2^62 by omega)]
  exact ih m2 hm
 ·intro m hm
  refine term_Arities.G8 ?_
  push_cast [inlt (Nat.le_refl _)]
  rw [drop_map_none] at hm
  rw [← hm]
  refine ends_one 2 rfl rfl ⟨rfl,?_⟩
  push_cast
end Go.Dw
end
section
namespace Go.Dw
def marked (n:Str):Bool:=hasSuf n [35]
def checkSystem (r:List ARule):Int:=if checkRules r ≠ 0 then checkRules r else match arRules [] r with
 | none=>6
 | some m=>if m.any (fun p=>marked p.1) then 6 else if r.any extra then 7 else 0
theorem seen_all {n:Nat} {seen:List Nat} {k:Nat} (hm:n≤seen.length) (hnd:seen.Nodup) (hlt:∀ i∈seen,i < n) (hk:k ∉ seen) (hkn:k < n):False:=by
 have h1:(seen++[k]).Nodup:=by simp [List.nodup_append,hnd];intro a ha e;exact hk (e ▸ ha)
 have h2:(seen++[k]).length≤(List.range n).length:=List.Nodup.length_le_of_subset h1 (by
  intro i hi
  rw [List.mem_range]
  rcases List.mem_append.1 hi with h | h
  ·exact hlt i h
  ·simp only [List.mem_singleton] at h;subst h;exact hkn)
 simp at h2;omega
theorem seen_snoc {n:Nat} {seen:List Nat} {k:Nat} (hnd:seen.Nodup) (hlt:∀ i∈seen,i < n) (hk:k ∉ seen) (hkn:k < n):(seen++[k]).Nodup∧∀ i∈seen++[k],i < n:=by
 refine ⟨by simp [List.nodup_append,hnd];intro a ha e;exact hk (e ▸ ha),fun i hi=>?_⟩
 rcases List.mem_append.1 hi with h | h
 ·exact hlt i h
 ·simp only [List.mem_singleton] at h;subst h;exact hkn
theorem term_CheckSystem_s (r:List ARule) (hs:rbs r < 2^38) (hn:∀ m,arRules [] r = some m→∀ p∈m,p.1.length < 2^62):PF n_term_CheckSystem [encRs r] (.int .i64 (checkSystem r)):=by
 have hl:=length_le_rbs r
 refine pf_of term_CheckSystem.ok rfl ?_
 push_cast
 refine .of (term_CheckRules_s r (by omega)) ?_
 unfold checkSystem
 by_cases h1:checkRules r = 0
 ·rw [if_neg (by simpa using h1)]
  push_cast [h1]
  refine CallG.all (show SpecF prog (.func n_term_Arities) [encRs r] [] (arOut (arRules [] r)) from specF_func ▸ term_Arities_s r (by omega)) ?_
  intro x H' h
  cases hr:arRules [] r with
  | none =>
   rw [hr] at h
   obtain ⟨rfl,rfl⟩:=h
   push_cast
   refine pf_ret ?_
   push_cast [term_CheckSystem.rs]
  | some m =>
   have hnm:=hn m hr
   rw [hr] at h
   obtain ⟨rfl,rfl⟩:=h
   push_cast
   have hlen:(encAr m).length = m.length:=by unfold encAr;rw [List.length_map]
   rw [hlen]
   have key:∀ (f:Nat) (seen:List Nat),m.length - seen.length < f→seen.Nodup→(∀ i∈seen,i < m.length)→(∀ i∈seen,marked (m.getD i default).1 = false)→term_CheckSystem.L4 (encRs r) (.it 1) 0
     [.map (encAr m),.iter (some 0) m.length seen] (Ends 0 term_CheckSystem.rs fun x' H'=>x' = .int .i64 (if m.any (fun p=>marked p.1) then 6 else if r.any extra then 7 else 0)∧H' = []):=by
    intro f
    induction f with
    | zero =>
     intro seen hm hnd hlt hun
     omega
    | succ f ih =>
     intro seen hm hnd hlt hun
     refine term_CheckSystem.G4 ?_
     push_cast
     refine nxP_of 0 m.length seen (encAr m) rfl rfl hlen.symm (fun hall=>?_) (fun k p hp hk=>?_)
     ·have hany:m.any (fun p=>marked p.1) = false:=by
       rw [List.any_eq_false]
       intro p hp
       obtain ⟨i,hi,rfl⟩:=List.getElem_of_mem hp
       have:=hun i (hall i hi)
       simp only [List.getD_eq_getElem?_getD,hi,List.getElem?_eq_getElem,Option.getD_some] at this
       simp [this]
      push_cast [hany]
      refine .of (slices_ContainsFunc_s_Rule_Rule_s (p:=extra) (g:=n_term_extra) (caps:=[]) (fun _=>rfl) r (by omega) fun x hx=>term_extra_s x (by have:=rbs_mem hx;omega)) ?_
      push_cast
      refine ⟨fun h=>pf_ret ?_,fun h=>pf_ret ?_⟩ <;> push_cast [term_CheckSystem.rs,h]
     ·have hkl:k < m.length:=by rw [← hlen];exact (List.getElem?_eq_some_iff.1 hp).1
      have hpe:p = (.str (m.getD k default).1,.int .i64 (m.getD k default).2):=by
       unfold encAr at hp
       rw [List.getElem?_map] at hp
       simp [hkl] at hp
       rw [← hp];simp [List.getD_eq_getElem?_getD,hkl]
      have hen:enV [.map (encAr m),.iter (some 0) m.length (seen++[k])] (.it 1) = some (.tup [p.1,p.2]):=by
       simp [enV,hlen,hp]
      subst hpe
      have hmem:m.getD k default∈m:=getD_mem hkl
      push_cast [hen]
      refine .of (term_Marked_s _ (hnm _ hmem)) ?_
      cases hmk:marked (m.getD k default).1 with
      | true =>
       have hany:m.any (fun p=>marked p.1) = true:=List.any_eq_true.2 ⟨_,hmem,hmk⟩
       unfold marked at hmk
       push_cast [hmk]
       refine pf_ret ?_
       push_cast [term_CheckSystem.rs,hany]
      | false =>
       have h2:=seen_snoc hnd hlt hk hkl
       have hlt':seen.length < m.length:=by
        rcases Nat.lt_or_ge seen.length m.length with h | h
        ·exact h
        ·exact (seen_all h hnd hlt hk hkl).elim
       have:=ih (seen++[k]) (by simp;omega) h2.1 h2.2 (fun i hi=>by
        rcases List.mem_append.1 hi with h | h
        ·exact hun i h
        ·simp only [List.mem_singleton] at h;subst h;exact hmk)
       unfold marked at hmk
       push_cast [hmk]
       exact this
   exact key (m.length+1) [] (by simp) List.nodup_nil (by simp) (by simp)
 ·rw [if_pos h1]
  push_cast [h1]
  refine pf_ret ?_
  push_cast [term_CheckSystem.rs]
end Go.Dw
end
section
namespace Go.Proofs
open Go.Shelf Go.RowKit Go.Lib
theorem run_copy_cellsZ {P:Program} (w:World) (dT sT ty elem:TypeId) (b o dLen dCap:Nat) (a:Addr) (sLen sCap z:Nat) (cs:List Value)
  (hu:P.underlying dT = some (.slice elem)) (hs:(P.info? elem).map (·.size) = some z) (hn:cs.length = Nat.min sLen dLen * z)
  (hsrc:∀ j v,cs[j]? = some v→w.cell? (a.add j) = some v) (hc:∀ j,j < cs.length→(w.cell? ⟨b,o+j,none⟩).isSome = true) (hf:∀ j,j < cs.length→w.frozen? ⟨b,o+j,none⟩ = false) (h1:∀ v∈cs,v.oneCell' = true) :
  (Builtin.copy_ #[dT,sT] ty #[.slice (some ⟨b,o,none⟩) dLen dCap,.slice (some a) sLen sCap]).run P w = .ok (goInt (Nat.min sLen dLen)) (w.setCells b o cs):=by
 have hl:=run_loadCells_list (P:=P) w a cs hsrc
 have hst:=run_storeCells_cells (P:=P) b o cs 0 w (by simpa using hc) (by simpa using hf) h1
 cases hq:P.info? elem with
 | none=>simp [hq] at hs
 | some i =>
  have hi:i.size = z:=by simpa [hq] using hs
  simp [Builtin.copy_,run_underlying hu,Builtin.lenOf,Builtin.firstCells,sizeOf,typeInfo,hq,hi,← hn,hl,hst]
theorem Tryz.bind_size:(Tryz.prog.info? 148).map (·.size) = some 4:=by kernel_rfl
set_option maxHeartbeats 4000000 in
set_option maxRecDepth 100000 in
theorem Tryz.ins_shift (b n c i vb vc:Nat) (cs vs:List Value) (w:World) (hi:i < n) (hroom:n+1≤c) (hc63:c≤9223372036854775807) (hvb:vb ≠ b)
  (hcl:cs.length = n * 4) (hvl:vs.length = 4)
  (hcs:∀ j v,cs[j]? = some v→w.cell? ⟨b,j,none⟩ = some v) (hsp:∀ j,j < (n+1) * 4→(w.cell? ⟨b,j,none⟩).isSome = true) (hfz:∀ j,j < (n+1) * 4→w.frozen? ⟨b,j,none⟩ = false)
  (hvs:∀ j v,vs[j]? = some v→w.cell? ⟨vb,j,none⟩ = some v) (h1c:∀ v∈cs,v.oneCell' = true) (h1v:∀ v∈vs,v.oneCell' = true)
  (tA tB:TypeId) (kA kB:Nat) (hsa:w.shape? vb = some (tA,kA)) (hsb:w.shape? b = some (tB,kB)) (hkB:kB ≠ 0) (hfa:w.frozen? ⟨vb,0,none⟩ = false) (hfe:w.frozen? ⟨vb,kA,none⟩ = false) :
  Calls Tryz.prog 297 #[.slice (some ⟨b,0,none⟩) n c,.int .i64 i,.slice (some ⟨vb,0,none⟩) 1 vc] w fun e w' =>
   e = .returned (.slice (some ⟨b,0,none⟩) (n+1) c)∧w' = (w.drew.setCells b ((i+1) * 4) (cs.drop (i * 4))).setCells b (i * 4) vs:=by
 have hz2:¬ ((i:Int) = (n:Int)):=by omega
 have hsz:=Tryz.bind_size
 have hov:∀ lb cb,(callFunc 308 #[.slice (some ⟨vb,0,none⟩) 1 vc,.slice (some ⟨b,(i+1) * 4,none⟩) lb cb]).run Tryz.prog w = .ok (.value (.bool false)) w:=fun lb cb=>by
  rw [run_callFunc_extern Tryz.func308 (by kernel_rfl) (by kernel_rfl) (by kernel_rfl) (e:=Extern.SlicesOverlaps.overlaps #[144,144] #[4]) (by kernel_rfl),
   Lib.run_overlaps_apart w 144 4 148 Tryz.underlying144 4 Tryz.sizeOf148 ⟨vb,0,none⟩ ⟨b,(i+1) * 4,none⟩ 1 vc lb cb hvb tA tB kA kB hsa hsb hkB hfa hfe]
  rfl
 have hdl:(cs.drop (i * 4)).length = (n - i) * 4:=by rw [List.length_drop,hcl];omega
 have hw1:IntKind.i64.wrap ((i:Int)+1) = (i:Int)+1:=by rw [IntKind.wrap_i64];omega
 have mixed:=Go.Dw.mixed
 have hb1:(0:Int)≤(i:Int)+1:=by omega
 have hin:i≤n:=by omega
 have htn:((i:Int)+1).toNat = i+1:=by omega
 have hb2:¬ (c = i+1):=by omega
 have hb3:(i:Int)≤(n:Int)+1:=by omega
 have hb4:¬ (c = i):=by omega
 have hcp1:∀ ty dc sc,(Builtin.copy_ #[144,144] ty #[.slice (some ⟨b,(i+1) * 4,none⟩) (n - i) dc,.slice (some ⟨b,i * 4,none⟩) (n+1 - i) sc]).run Tryz.prog w.drew = .ok (goInt (Nat.min (n+1 - i) (n - i))) (w.drew.setCells b ((i+1) * 4) (cs.drop (i * 4))):=fun ty dc sc =>
  run_copy_cellsZ w.drew _ _ ty 148 b ((i+1) * 4) (n - i) dc ⟨b,i * 4,none⟩ (n+1 - i) sc 4 (cs.drop (i * 4)) Tryz.underlying144 hsz (by rw [hdl];simp only [Nat.min_def];split <;> omega)
   (fun j v hj=>by rw [Addr.add_lit];exact hcs (i * 4+j) v (by rwa [List.getElem?_drop] at hj))
   (fun j hj=>hsp _ (by omega)) (fun j hj=>hfz _ (by omega)) (fun v hv=>h1c v (List.mem_of_mem_drop hv))
 obtain ⟨W1,hW1⟩:∃ W1,W1 = w.drew.setCells b ((i+1) * 4) (cs.drop (i * 4)):=⟨_,rfl⟩
 have hsp1:∀ k,k < (n+1) * 4→(W1.cell? ⟨b,k,none⟩).isSome = true:=fun k hk=>by
  rw [hW1]
  exact isSome_setCells b _ _ w.drew (fun j hj=>hsp ((i+1) * 4+j) (by rw [hdl] at hj;omega)) _ (hsp k hk)
 have hcp2:∀ (W:World),(∀ x,W.cell? x = W1.cell? x)→(∀ x,W.frozen? x = W1.frozen? x)→∀ ty dc,(Builtin.copy_ #[144,144] ty #[.slice (some ⟨b,i * 4,none⟩) (n+1 - i) dc,.slice (some ⟨vb,0,none⟩) 1 vc]).run Tryz.prog W = .ok (goInt (Nat.min 1 (n+1 - i))) (W.setCells b (i * 4) vs):=fun W hWc hWf ty dc =>
  run_copy_cellsZ W _ _ ty 148 b (i * 4) (n+1 - i) dc ⟨vb,0,none⟩ 1 vc 4 vs Tryz.underlying144 hsz (by rw [hvl];simp only [Nat.min_def];split <;> omega)
   (fun j v hj=>by
    rw [Addr.add_lit,hWc,hW1,World.cell?_setCells_out b _ _ _ _ (fun h _=>absurd h hvb),Nat.zero_add]
    exact hvs j v hj)
   (fun j hj=>by rw [hWc];exact hsp1 _ (by omega)) (fun j hj=>by rw [hWf,hW1,World.frozen?_setCells];exact hfz _ (by omega)) h1v
 rw [← hW1] at hcp1
 go_enter Tryz.func297,Tryz.ntmps297
 go_wp2_with (simp only [hov])
 go_region_law_o (refine step_copy_runI rfl _ _ 144 144 rfl _ _ (by simp [Act.eval,Act.put]) (by simp [Act.eval,Act.put]) (hcp1 _ _ _) ?_)
 go_wp2_with (at_builtin;refine wpList_copy_runI _ rfl _ _ 144 144 rfl _ _ rfl rfl (hcp2 _ (fun _=>rfl) (fun _=>rfl) _ _) ?_)
 go_ret
 first | exact ⟨rfl,rfl⟩ | exact ⟨rfl,by rw [hW1]⟩
end Go.Proofs
end
section
namespace Go.Proofs
open Go.Shelf Go.RowKit Go.Lib
def zBind:Value:=.agg #[.string ⟨#[]⟩,.string ⟨#[]⟩,.bool false,.slice none 0 0]
theorem Tryz.bind_info:(Tryz.prog.info? 148).map (fun i=>(i.zero,i.size,i.bytes)) = some (some zBind,4,64):=by kernel_rfl
theorem zeroCells_size (cs:Array Value) (k:Nat):(Builtin.zeroCells cs k).size = k * cs.size:=by
 simp [Builtin.zeroCells]
set_option maxHeartbeats 4000000 in
set_option maxRecDepth 100000 in
theorem Tryz.ins_grow (b n c i vb vc:Nat) (cs vs:List Value) (w:World) (hi:i < n) (hnc:n≤c) (hroom:c < n+1) (hbig:(n+1) * 64≤140737488355328)
  (hcl:cs.length = n * 4) (hvl:vs.length = 4)
  (hcs:∀ j v,cs[j]? = some v→w.cell? ⟨b,j,none⟩ = some v)
  (hvs:∀ j v,vs[j]? = some v→w.cell? ⟨vb,j,none⟩ = some v) (h1c:∀ v∈cs,v.oneCell' = true) (h1v:∀ v∈vs,v.oneCell' = true) :
  Calls Tryz.prog 297 #[.slice (some ⟨b,0,none⟩) n c,.int .i64 i,.slice (some ⟨vb,0,none⟩) 1 vc] w fun e w' =>
   e = .returned (.slice (some ⟨w.heap.size,0,none⟩) (n+1) (grownCap w (n+1) c 148)) ∧
   w' = (((w.alloc (.cells ((cs.take (i * 4)).toArray++Builtin.zeroCells zBind.cells (n+1 - i)++Builtin.zeroCells zBind.cells (grownCap w (n+1) c 148 - (n+1))) 148)).drew.setCells w.heap.size (i * 4) vs).drew).setCells w.heap.size ((i+1) * 4) (cs.drop (i * 4)):=by
 have mixed:=Go.Dw.mixed
 obtain ⟨i0,hi0,hz0,hzs,hzb⟩:=info_parts Tryz.bind_info
 have hz2:¬ ((i:Int) = (n:Int)):=by omega
 have hz3:(c:Int) < (n:Int)+1:=by omega
 have hsz:=Tryz.bind_size
 have hbw:b < w.heap.size:=block_lt_of_cell (hcs 0 _ (List.getElem?_eq_getElem (by omega)))
 have hvw:vb < w.heap.size:=block_lt_of_cell (hvs 0 _ (List.getElem?_eq_getElem (by omega)))
 have hkk:(n:Int)+1 - (i:Int) = ((n+1 - i:Nat):Int):=by omega
 have hik:i+(n+1 - i) = n+1:=by omega
 have hold:(Builtin.firstCells i0.size i (.slice (some ⟨b,0,none⟩) i c)).run Tryz.prog w.drew = .ok (cs.take (i * 4)).toArray w.drew:=by
  rw [hzs]
  exact run_firstCells_some w.drew 4 i ⟨b,0,none⟩ i c (cs.take (i * 4)) (by rw [List.length_take];omega) (fun j v hj=>by
   rw [Addr.add_lit,Nat.zero_add]
   rw [List.getElem?_take] at hj
   split at hj
   ·exact hcs j v hj
   ·cases hj)
 have hrz:∀ ty,(Builtin.append_ #[144,3] ty #[.slice (some ⟨b,0,none⟩) i c,.int .i64 ((n:Int)+1 - (i:Int))]).run Tryz.prog w =
   .ok (.slice (some ⟨w.heap.size,0,none⟩) (n+1) (grownCap w (n+1) c 148)) (w.drew.alloc (.cells ((cs.take (i * 4)).toArray++Builtin.zeroCells zBind.cells (n+1 - i)++Builtin.zeroCells zBind.cells (grownCap w (n+1) c 148 - (n+1))) 148)):=fun ty=>by
  have h:=Lib.run_append_grow_zeros w 144 3 ty 148 i0 _ .i64 .i64 Tryz.underlying144 Tryz.underlying3 hi0 hz0 (some ⟨b,0,none⟩) i c (cs.take (i * 4)) hold (n+1 - i) (by omega) (by omega) (by omega) (by omega) (by rw [hzb];omega) (by rw [hzb,hik];exact growslice_fits hroom hbig)
  rw [hik] at h
  rw [hkk]
  exact h
 obtain ⟨G,hG⟩:∃ G,G = grownCap w (n+1) c 148:=⟨_,rfl⟩
 obtain ⟨ROW,hROW⟩:∃ ROW:Array Value,ROW = (cs.take (i * 4)).toArray++Builtin.zeroCells zBind.cells (n+1 - i)++Builtin.zeroCells zBind.cells (G - (n+1)):=⟨_,rfl⟩
 rw [← hG] at hrz ⊢
 rw [← hROW] at hrz ⊢
 have hRl:(n+1) * 4≤ROW.size:=by
  rw [hROW]
  have hzc:zBind.cells.size = 4:=rfl
  simp only [Array.size_append,zeroCells_size,hzc,List.size_toArray,List.length_take,hcl]
  omega
 obtain ⟨W1,hW1⟩:∃ W1,W1 = w.drew.alloc (.cells ROW 148):=⟨_,rfl⟩
 rw [← hW1] at hrz
 have hN:∀ j,j < (n+1) * 4→(W1.cell? ⟨w.heap.size,j,none⟩).isSome = true:=fun j hj=>by
  rw [hW1,World.cell?_alloc_at (w:=w.drew) ROW _ w.heap.size j rfl,Array.getElem?_eq_getElem (by omega)];rfl
 have hNf:∀ j,W1.frozen? ⟨w.heap.size,j,none⟩ = false:=fun j=>by rw [hW1];exact World.frozen?_alloc_at (w:=w.drew) ROW _ w.heap.size j rfl
 have hOb:∀ j v,w.cell? ⟨b,j,none⟩ = some v→W1.cell? ⟨b,j,none⟩ = some v:=fun j v h=>by rw [hW1,World.cell?_alloc_past (w:=w.drew) _ b j hbw];exact h
 have hOv:∀ j v,w.cell? ⟨vb,j,none⟩ = some v→W1.cell? ⟨vb,j,none⟩ = some v:=fun j v h=>by rw [hW1,World.cell?_alloc_past (w:=w.drew) _ vb j hvw];exact h
 have hcpA:∀ (W:World),(∀ x,W.cell? x = W1.cell? x)→(∀ x,W.frozen? x = W1.frozen? x)→∀ ty dc,(Builtin.copy_ #[144,144] ty #[.slice (some ⟨w.heap.size,i * 4,none⟩) (n+1 - i) dc,.slice (some ⟨vb,0,none⟩) 1 vc]).run Tryz.prog W = .ok (goInt (Nat.min 1 (n+1 - i))) (W.setCells w.heap.size (i * 4) vs):=fun W hWc hWf ty dc =>
  run_copy_cellsZ W _ _ ty 148 w.heap.size (i * 4) (n+1 - i) dc ⟨vb,0,none⟩ 1 vc 4 vs Tryz.underlying144 hsz (by rw [hvl];simp only [Nat.min_def];split <;> omega)
   (fun j v hj=>by rw [Addr.add_lit,hWc,Nat.zero_add];exact hOv _ v (hvs j v hj))
   (fun j hj=>by rw [hWc];exact hN _ (by omega)) (fun j hj=>by rw [hWf];exact hNf _) h1v
 have hGn:n+1≤G:=by rw [hG];exact grownCap_ge w _ _ _
 have hG63:G≤9223372036854775807:=by
  have:=grownCap_le_maxLen w (n+1) c 148 (by unfold maxLen;omega)
  rw [← hG] at this
  unfold maxLen at this
  omega
 have hGi:¬ (G = i):=by omega
 have hGim:¬ (G = i+1):=by omega
 have hci:¬ (c = i):=by omega
 have hbN:b ≠ w.heap.size:=by omega
 have hdl:(cs.drop (i * 4)).length = (n - i) * 4:=by rw [List.length_drop,hcl];omega
 have hcpB:∀ (W:World),(∀ x,W.cell? x = (W1.setCells w.heap.size (i * 4) vs).cell? x)→(∀ x,W.frozen? x = (W1.setCells w.heap.size (i * 4) vs).frozen? x)→∀ ty dc sc,(Builtin.copy_ #[144,144] ty #[.slice (some ⟨w.heap.size,(i+1) * 4,none⟩) (n - i) dc,.slice (some ⟨b,i * 4,none⟩) (n - i) sc]).run Tryz.prog W = .ok (goInt (Nat.min (n - i) (n - i))) (W.setCells w.heap.size ((i+1) * 4) (cs.drop (i * 4))):=fun W hWc hWf ty dc sc =>
  run_copy_cellsZ W _ _ ty 148 w.heap.size ((i+1) * 4) (n - i) dc ⟨b,i * 4,none⟩ (n - i) sc 4 (cs.drop (i * 4)) Tryz.underlying144 hsz (by rw [hdl];simp only [Nat.min_def];split <;> omega)
   (fun j v hj=>by
    rw [Addr.add_lit,hWc,World.cell?_setCells_out _ _ _ _ _ (fun h _=>absurd h hbN)]
    exact hOb _ v (hcs (i * 4+j) v (by rwa [List.getElem?_drop] at hj)))
   (fun j hj=>by rw [hWc];exact isSome_setCells _ _ _ W1 (fun t ht=>hN (i * 4+t) (by omega)) _ (hN ((i+1) * 4+j) (by omega)))
   (fun j hj=>by rw [hWf,World.frozen?_setCells];exact hNf _) (fun v hv=>h1c v (List.mem_of_mem_drop hv))
 subst hW1
 have hE1:∀ x,((w.alloc (.cells ROW 148)).drew).cell? x = (w.drew.alloc (.cells ROW 148)).cell? x:=fun x=>rfl
 have hE2:∀ x,((w.alloc (.cells ROW 148)).drew).frozen? x = (w.drew.alloc (.cells ROW 148)).frozen? x:=fun x=>rfl
 have hF1:∀ x,(((w.alloc (.cells ROW 148)).drew.setCells w.heap.size (i * 4) vs).drew).cell? x = ((w.drew.alloc (.cells ROW 148)).setCells w.heap.size (i * 4) vs).cell? x:=fun x=>rfl
 have hF2:∀ x,(((w.alloc (.cells ROW 148)).drew.setCells w.heap.size (i * 4) vs).drew).frozen? x = ((w.drew.alloc (.cells ROW 148)).setCells w.heap.size (i * 4) vs).frozen? x:=fun x=>rfl
 have hw1:IntKind.i64.wrap ((i:Int)+1) = (i:Int)+1:=by rw [IntKind.wrap_i64];omega
 have hb1:(0:Int)≤(i:Int)+1:=by omega
 have hin:i≤n:=by omega
 have htn:((i:Int)+1).toNat = i+1:=by omega
 have hb3:(i:Int)≤(n:Int):=by omega
 clear hkk hik hold hROW hG hRl
 go_enter Tryz.func297,Tryz.ntmps297
 go_wp2_with (first
  | (at_builtin;refine Lib.wpList_append_run _ rfl _ _ _ _ rfl _ _ rfl rfl _ _ (hrz _) ?_)
  | (at_builtin;refine wpList_copy_runI _ rfl _ _ 144 144 rfl _ _ rfl rfl (hcpA _ hE1 hE2 _ _) ?_)
  | (at_builtin;refine wpList_copy_runI _ rfl _ _ 144 144 rfl _ _ rfl rfl (hcpB _ (fun _=>rfl) (fun _=>rfl) _ _ _) ?_))
 go_region_law_o (refine step_copy_runI rfl _ _ 144 144 rfl (.slice (some ⟨w.heap.size,(i+1) * 4,none⟩) (n - i) (G - (i+1))) (.slice (some ⟨b,i * 4,none⟩) (n - i) (c - i)) (by simp [Act.eval,Act.put]) (by simp [Act.eval,Act.put]) (hcpB _ hF1 hF2 3 (G - (i+1)) (c - i)) ?_)
 go_wp2
 go_ret
 exact ⟨rfl,rfl⟩
end Go.Proofs
end
section
namespace Go.Proofs
open Go.Shelf Go.RowKit Go.Lib
set_option maxHeartbeats 4000000 in
set_option maxRecDepth 100000 in
theorem Tryz.ins_end_grow (base:Option Addr) (n c vb vc:Nat) (cs vs:List Value) (w:World) (hnc:n≤c) (hroom:c < n+1) (hbig:(n+1) * 64≤140737488355328)
  (hcl:cs.length = n * 4) (hvl:vs.length = 4) (hnil:base = none→n = 0)
  (hcs:∀ a,base = some a→∀ j v,cs[j]? = some v→w.cell? (a.add j) = some v)
  (hvs:∀ j v,vs[j]? = some v→w.cell? ⟨vb,j,none⟩ = some v) (h1v:∀ v∈vs,v.oneCell' = true) :
  Calls Tryz.prog 297 #[.slice base n c,.int .i64 n,.slice (some ⟨vb,0,none⟩) 1 vc] w fun e w' =>
   e = .returned (.slice (some ⟨w.heap.size,0,none⟩) (n+1) (grownCap w (n+1) c 148)) ∧
   w' = w.drew.alloc (.cells ((cs++vs).toArray++Builtin.zeroCells zBind.cells (grownCap w (n+1) c 148 - (n+1))) 148):=by
 have mixed:=Go.Dw.mixed
 obtain ⟨i0,hi0,hz0,hzs,hzb⟩:=info_parts Tryz.bind_info
 have hsrc:Src Tryz.prog i0.size 144 (.slice (some ⟨vb,0,none⟩) 1 vc) 1 vs w:=by
  rw [hzs]
  exact Src.ofSlice w Tryz.underlying144 ⟨vb,0,none⟩ 1 vc vs (by omega) (fun j u hj=>by rw [Addr.add_lit,Nat.zero_add];exact hvs j u hj) h1v
 have hold:(Builtin.firstCells i0.size n (.slice base n c)).run Tryz.prog w.drew = .ok cs.toArray w.drew:=by
  rw [hzs]
  cases base with
  | none =>
   have h0:=hnil rfl
   subst h0
   have hc0:cs = []:=List.length_eq_zero_iff.1 (by omega)
   rw [hc0]
   exact run_firstCells_none w.drew 4 0 0 c
  | some a=>exact run_firstCells_some w.drew 4 n a n c cs (by omega) (fun j v hj=>hcs a rfl j v hj)
 have hrun:∀ ty,(Builtin.append_ #[144,144] ty #[.slice base n c,.slice (some ⟨vb,0,none⟩) 1 vc]).run Tryz.prog w = .ok (.slice (some ⟨w.heap.size,0,none⟩) (n+1) (grownCap w (n+1) c 148)) (w.drew.alloc (.cells ((cs++vs).toArray++Builtin.zeroCells zBind.cells (grownCap w (n+1) c 148 - (n+1))) 148)):=fun ty =>
  run_append_grow_src w 144 144 ty 148 i0 zBind Tryz.underlying144 hi0 hz0 base n c cs hold _ 1 vs hsrc hroom (by omega) (by rw [hzb];exact growslice_fits hroom hbig)
 obtain ⟨ROW,hROW⟩:∃ ROW:Array Value,ROW = (cs++vs).toArray++Builtin.zeroCells zBind.cells (grownCap w (n+1) c 148 - (n+1)):=⟨_,rfl⟩
 rw [← hROW] at hrun ⊢
 clear hROW
 go_enter Tryz.func297,Tryz.ntmps297
 cases base with
 | none =>
  have h0:=hnil rfl
  subst h0
  go_wp2_with (at_builtin;refine Lib.wpList_append_run _ rfl _ _ _ _ rfl _ _ rfl rfl _ _ (hrun _) ?_)
  go_ret
  exact ⟨rfl,rfl⟩
 | some a =>
  obtain ⟨ab,ao,asp⟩:=a
  go_wp2_with (at_builtin;refine Lib.wpList_append_run _ rfl _ _ _ _ rfl _ _ rfl rfl _ _ (hrun _) ?_)
  all_goals (go_ret;exact ⟨rfl,rfl⟩)
set_option maxHeartbeats 4000000 in
set_option maxRecDepth 100000 in
theorem Tryz.ins_end_room (b n c vb vc:Nat) (vs:List Value) (w:World) (hroom:n+1≤c) (hc63:c≤9223372036854775807)
  (hvl:vs.length = 4) (hsp:∀ j,j < 4→(w.cell? ⟨b,n * 4+j,none⟩).isSome = true) (hfz:∀ j,j < 4→w.frozen? ⟨b,n * 4+j,none⟩ = false)
  (hvs:∀ j v,vs[j]? = some v→w.cell? ⟨vb,j,none⟩ = some v) (h1v:∀ v∈vs,v.oneCell' = true) :
  Calls Tryz.prog 297 #[.slice (some ⟨b,0,none⟩) n c,.int .i64 n,.slice (some ⟨vb,0,none⟩) 1 vc] w fun e w' =>
   e = .returned (.slice (some ⟨b,0,none⟩) (n+1) c)∧w' = w.setCells b (n * 4) vs:=by
 have mixed:=Go.Dw.mixed
 obtain ⟨i0,hi0,hz0,hzs,hzb⟩:=info_parts Tryz.bind_info
 have hrun:∀ ty,(Builtin.append_ #[144,144] ty #[.slice (some ⟨b,0,none⟩) n c,.slice (some ⟨vb,0,none⟩) 1 vc]).run Tryz.prog w = .ok (.slice (some ⟨b,0,none⟩) (n+1) c) (w.setCells b (n * 4) vs):=fun ty=>by
  have h:=run_append_room_cells (P:=Tryz.prog) w 144 ty 148 i0 Tryz.underlying144 hi0 b 0 n c ⟨vb,0,none⟩ 1 vc vs (by rw [hzs];omega) (fun j u hj=>by rw [Addr.add_lit,Nat.zero_add];exact hvs j u hj) h1v hroom
   (fun j hj=>by rw [hzs,Nat.zero_add];exact hsp j (by omega)) (fun j hj=>by rw [hzs,Nat.zero_add];exact hfz j (by omega))
  rw [hzs,Nat.zero_add] at h
  exact h
 obtain ⟨W,hW⟩:∃ W,W = w.setCells b (n * 4) vs:=⟨_,rfl⟩
 rw [← hW] at hrun ⊢
 clear hW
 go_enter Tryz.func297,Tryz.ntmps297
 go_wp2_with (at_builtin;refine Lib.wpList_append_run _ rfl _ _ _ _ rfl _ _ rfl rfl _ _ (hrun _) ?_)
 go_ret
 exact ⟨rfl,rfl⟩
end Go.Proofs
end
section
namespace Go.Dw
open Go.Proofs Go.Sort Go.Lib
theorem heap_setCells (b:Nat):∀ (us:List Value) (o:Nat) (w:World),(w.setCells b o us).heap.size = w.heap.size∧(∀ b',b' ≠ b→(w.setCells b o us).heap[b']? = w.heap[b']?) ∧
  (∀ vs t fr,w.heap[b]? = some (.cells vs t fr)→∃ vs1,(w.setCells b o us).heap[b]? = some (.cells vs1 t fr)∧vs1.size = vs.size)∧(w.setCells b o us).os = w.os∧(w.setCells b o us).tape = w.tape∧(w.setCells b o us).output = w.output
 | [],o,w=>⟨rfl,fun _ _=>rfl,fun vs t fr h=>⟨vs,h,rfl⟩,rfl,rfl,rfl⟩
 | u :: us,o,w=>by
  obtain ⟨h1,h2,h3,h4,h5,h6⟩:=heap_setCells b us (o+1) (w.setCell ⟨b,o,none⟩ u)
  have e1:(w.setCell ⟨b,o,none⟩ u).heap.size = w.heap.size:=by rw [setCell_eq];simp [mapBlock]
  have e2:∀ b',b' ≠ b→(w.setCell ⟨b,o,none⟩ u).heap[b']? = w.heap[b']?:=fun b' hb=>by
   rw [setCell_eq];simp only [mapBlock];rw [Array.getElem?_modify,if_neg (Ne.symm hb)]
  refine ⟨by rw [World.setCells,h1,e1],fun b' hb=>by rw [World.setCells,h2 b' hb,e2 b' hb],fun vs t fr h=>?_,?_,?_,?_⟩
  ·have:(w.setCell ⟨b,o,none⟩ u).heap[b]? = some (.cells (vs.setIfInBounds o u) t fr):=by
    rw [setCell_eq];simp only [mapBlock];rw [Array.getElem?_modify,if_pos rfl,h];rfl
   obtain ⟨vs1,q1,q2⟩:=h3 _ _ _ this
   exact ⟨vs1,by rw [World.setCells];exact q1,by rw [q2];simp⟩
  ·rw [World.setCells,h4,setCell_eq];rfl
  ·rw [World.setCells,h5,setCell_eq];rfl
  ·rw [World.setCells,h6,setCell_eq];rfl
theorem drawn_setCells (b:Nat):∀ (us:List Value) (o:Nat) (w:World),(w.setCells b o us).drawn = w.drawn
 | [],o,w=>rfl
 | u :: us,o,w=>by rw [World.setCells,drawn_setCells b us,setCell_eq];rfl
theorem ins_fin {c:Cx} (hc:Conc c) {els:List (List V)} {new:List V} {e i n z:Nat} (hH:c.H = [.row e z els,.arr e z 1]) (hn:els.length = n) (hi:i≤n) {w':World} {bN kN:Nat} {vs1:Array Value} {us:List Value}
  (hb:(∃ k,c.ρ 0 = some (bN,k)) ∨ c.w.heap.size≤bN) (hmax:n+1≤maxEls)
  (h1:w'.heap[bN]? = some (.cells vs1 e (0,0))) (h2:vs1.size = kN * z) (h3:n+1≤kN) (h4:kN≤capMax)
  (hold:∀ (l:Nat) (el:List V),els[l]? = some el→el.length = z∧∀ (j:Nat) (x:V),el[j]? = some x→∃ v,vs1[(if l < i then l else l+1) * z+j]? = some v∧oneC v = true∧rep c x v)
  (hnew:new.length = z∧∀ (j:Nat) (x:V),new[j]? = some x→∃ v,vs1[i * z+j]? = some v∧oneC v = true∧rep c x v)
  (hoth:∀ b',b' < c.w.heap.size→b' ≠ bN→w'.heap[b']? = c.w.heap[b']?) (hsz:c.w.heap.size≤w'.heap.size) (hos:w'.os = c.w.os) (htp:w'.tape = c.w.tape) (hou:w'.output = c.w.output) (hdr:c.w.drawn≤w'.drawn) :
  ∃ v x c',Ending.returned (.slice (some ⟨bN,0,none⟩) (n+1) kN) = .returned v∧c'.w = w'∧(x = .rw 0 z (n+1)∧c'.H = [.row e z (els.take i++new :: els.drop i),.arr e z 1])∧Conc c'∧rep c' x v∧Fr c c':=by
 have hH0:c.H[0]? = some (.row e z els):=by rw [hH];rfl
 have hH1:c.H[1]? = some (.arr e z 1):=by rw [hH];rfl
 have hHl:c.H.length = 2:=by rw [hH];rfl
 obtain ⟨o1,o2⟩:=hc.obj 0 _ hH0
 have hnok:∀ o,¬ c.ok bN o:=fun o ho=>by
  rcases hb with ⟨k,hk⟩ | hb
  ·obtain ⟨_,_,_,_,_,h5,_⟩:=o2 bN k hk;exact h5 o ho
  ·have:=hc.okLt _ _ ho;omega
 have h1ne:∀ b' k',c.ρ 1 = some (b',k')→b' ≠ bN∧b' < c.w.heap.size:=fun b' k' h=>by
  have hlt:=own_lt hc (show 1 < c.H.length by omega) h
  refine ⟨fun e1=>?_,hlt⟩
  subst e1
  rcases hb with ⟨k,hk⟩ | hb
  ·exact absurd (hc.inj 0 1 b' k k' (by omega) (by omega) hk h) (by decide)
  ·omega
 generalize hc':(⟨w',c.ok,upd c.ρ 0 (some (bN,kN)),[.row e z (els.take i++new :: els.drop i),.arr e z 1]⟩:Cx) = c'
 have hw:c'.w = w':=by rw [← hc']
 have hk':c'.ok = c.ok:=by rw [← hc']
 have hρ0:c'.ρ 0 = some (bN,kN):=by rw [← hc'];simp [upd]
 have hρ1:∀ j,j ≠ 0→c'.ρ j = c.ρ j:=fun j hj=>by rw [← hc'];exact upd_ne hj
 have hH':c'.H = [.row e z (els.take i++new :: els.drop i),.arr e z 1]:=by rw [← hc']
 have hlen':(els.take i++new :: els.drop i).length = n+1:=by simp;omega
 have hf:Fr c c':=by
  refine ⟨fun _ _ h=>by rw [hk'];exact h,fun b' o h=>?_,by rw [hw];exact hsz,fun _ _ h=>.inl (by rw [hk'] at h;exact h),fun b' hlt hno=>?_,fun b' hb'=>?_,fun j o hj=>?_,by rw [hw];exact hos,by rw [hw];exact htp,by rw [hw];exact hou,by rw [hw];exact hdr⟩
  ·have hne:b' ≠ bN:=fun e=>hnok o (e ▸ h)
   simp only [World.cell?,hw]
   rw [hoth b' (hc.okLt _ _ h) hne]
  ·rw [hw]
   refine hoth b' hlt fun e1=>?_
   subst e1
   rcases hb with ⟨k,hk⟩ | hb
   ·exact hno ⟨0,k,by omega,hk⟩
   ·omega
  ·obtain ⟨j,k',hj,hr⟩:=hb'
   have hj:j < 2:=by rw [hH'] at hj;simpa using hj
   by_cases e0:j = 0
   ·subst e0
    rw [hρ0] at hr;cases hr
    rcases hb with ⟨k,hk⟩ | hb
    ·exact .inl ⟨0,k,by omega,hk⟩
    ·exact .inr hb
   ·rw [hρ1 j e0] at hr
    exact .inl ⟨j,k',by omega,hr⟩
  ·rw [hH] at hj
   match j,hj with
   | 0,hj =>
    simp only [List.getElem?_cons_zero,Option.some.injEq] at hj
    subst hj
    exact ⟨.row e z (els.take i++new :: els.drop i),by rw [hH'];rfl,rfl,rfl,by omega,fun h=>by omega⟩
   | 1,hj =>
    simp only [List.getElem?_cons_succ,List.getElem?_cons_zero,Option.some.injEq] at hj
    subst hj
    exact ⟨.arr e z 1,by rw [hH'];rfl,rfl,rfl,Nat.le_refl _,fun _=>hρ1 1 (by omega)⟩
   | j+2,hj=>simp at hj
 refine ⟨_,_,c',rfl,hw,⟨rfl,hH'⟩,?_,?_,hf⟩
 ·refine ⟨fun j1 j2 b' k1 k2 q1 q2 q3 q4=>?_,fun b' o h=>?_,fun j o hj=>?_,hc.globFr hf⟩
  ·rw [hH'] at q1 q2
   simp only [List.length_cons,List.length_nil] at q1 q2
   by_cases e1:j1 = 0 <;> by_cases e2:j2 = 0
   ·omega
   ·have:j2 = 1:=by omega
    subst e1 this
    rw [hρ0] at q3;cases q3
    rw [hρ1 1 (by omega)] at q4
    exact absurd rfl (h1ne _ _ q4).1
   ·have:j1 = 1:=by omega
    subst e2 this
    rw [hρ0] at q4;cases q4
    rw [hρ1 1 (by omega)] at q3
    exact absurd rfl (h1ne _ _ q3).1
   ·omega
  ·rw [hk'] at h;rw [hw];have:=hc.okLt _ _ h;omega
  ·rw [hH'] at hj
   match j,hj with
   | 0,hj =>
    simp only [List.getElem?_cons_zero,Option.some.injEq] at hj
    subst hj
    refine ⟨fun h=>(by rw [hρ0] at h;cases h),fun b' k' h=>?_⟩
    rw [hρ0] at h;cases h
    refine ⟨vs1,by rw [hw];exact h1,h2,by omega,h4,fun o ho=>hnok o (by rw [hk'] at ho;exact ho),fun l el hl=>?_⟩
    rw [List.getElem?_append] at hl
    have hti:(els.take i).length = i:=by rw [List.length_take];omega
    rw [hti] at hl
    by_cases e1:l < i
    ·rw [if_pos e1,List.getElem?_take,if_pos e1] at hl
     obtain ⟨q1,q2⟩:=hold l el hl
     refine ⟨q1,fun j x hx=>?_⟩
     obtain ⟨v,r1,r2,r3⟩:=q2 j x hx
     rw [if_pos e1] at r1
     exact ⟨v,r1,r2,rep_fr hf r3⟩
    ·rw [if_neg e1] at hl
     by_cases e2:l = i
     ·subst e2
      rw [Nat.sub_self,List.getElem?_cons_zero] at hl
      cases hl
      refine ⟨hnew.1,fun j x hx=>?_⟩
      obtain ⟨v,r1,r2,r3⟩:=hnew.2 j x hx
      exact ⟨v,r1,r2,rep_fr hf r3⟩
     ·obtain ⟨m,rfl⟩:∃ m,l = m+1:=⟨l - 1,by omega⟩
      have e3:m+1 - i = (m - i)+1:=by omega
      rw [e3,List.getElem?_cons_succ,List.getElem?_drop,show i+(m - i) = m by omega] at hl
      obtain ⟨q1,q2⟩:=hold m el hl
      refine ⟨q1,fun j x hx=>?_⟩
      obtain ⟨v,r1,r2,r3⟩:=q2 j x hx
      rw [if_neg (by omega)] at r1
      exact ⟨v,r1,r2,rep_fr hf r3⟩
   | 1,hj =>
    simp only [List.getElem?_cons_succ,List.getElem?_cons_zero,Option.some.injEq] at hj
    subst hj
    obtain ⟨a1,a2⟩:=hc.obj 1 _ hH1
    refine ⟨fun h=>a1 (by rw [← hρ1 1 (by omega)];exact h),fun b' k' h=>?_⟩
    rw [hρ1 1 (by omega)] at h
    obtain ⟨ne,hlt⟩:=h1ne _ _ h
    obtain ⟨vs,r1,r2,r3,r4,r5⟩:=a2 b' k' h
    exact ⟨vs,by rw [hw,hoth b' hlt ne];exact r1,r2,r3,r4,fun o ho=>by rw [hk'];exact r5 o ho⟩
   | j+2,hj=>simp at hj
 ·refine ⟨by rw [hH'];simp,⟨_,_,rfl,hmax,.inr ⟨_,_,rfl⟩⟩,fun e' sz' els' hh=>?_⟩
  rw [hH'] at hh
  simp only [List.getElem?_cons_zero,Option.some.injEq,Ob.row.injEq] at hh
  obtain ⟨rfl,rfl,rfl⟩:=hh
  exact ⟨rfl,by omega,fun _=>by rw [hρ0];rfl⟩
end Go.Dw
end
section
namespace Go.Dw
open Go.Proofs Go.Sort Go.Lib
theorem ins_in (args:Array Value) (w:World):(callFunc 297 args).run Tryz.prog w = .ok (.enter 297 args) w:=enters_of (P:=Tryz.prog) Tryz.func297 (by kernel_rfl) rfl args w
theorem ins_go {c:Cx} (hc:Conc c) {els:List (List V)} {new:List V} {e i n:Nat} (hH:c.H = [.row e 4 els,.arr e 4 1]) (hn:els.length = n) (hi:i≤n) {w':World} {bN kN:Nat} {vs0 vs1:Array Value} {us cs:List Value}
  (hb:(∃ k,c.ρ 0 = some (bN,k)) ∨ c.w.heap.size≤bN) (hmax:n+1≤maxEls) (h1:w'.heap[bN]? = some (.cells vs1 e (0,0))) (h2:vs1.size = kN * 4) (h3:n+1≤kN) (h4:kN≤capMax)
  (hrow:rowOk c 4 els vs0) (hcs:∀ j,j < n * 4→cs[j]? = vs0[j]?) (hus:new.length = 4∧∀ (j:Nat) (x:V),new[j]? = some x→∃ v,us[j]? = some v∧oneC v = true∧rep c x v)
  (hcell:∀ j,j < (n+1) * 4→vs1[j]? = if j < i * 4 then cs[j]? else if j < i * 4+4 then us[j - i * 4]? else cs[j - 4]?)
  (hoth:∀ b',b' < c.w.heap.size→b' ≠ bN→w'.heap[b']? = c.w.heap[b']?) (hsz:c.w.heap.size≤w'.heap.size) (hos:w'.os = c.w.os) (htp:w'.tape = c.w.tape) (hou:w'.output = c.w.output) (hdr:c.w.drawn≤w'.drawn:=by first | exact Nat.le_refl _ | exact Nat.le_succ _ | (simp only [drawn_setCells];first | exact Nat.le_refl _ | exact Nat.le_succ _) | (subst_vars;simp only [World.drew,World.alloc,drawn_setCells];omega)) :
  ∃ v x c',Ending.returned (.slice (some ⟨bN,0,none⟩) (n+1) kN) = .returned v∧c'.w = w'∧(x = .rw 0 4 (n+1)∧c'.H = [.row e 4 (els.take i++new :: els.drop i),.arr e 4 1])∧Conc c'∧rep c' x v∧Fr c c':=by
 refine ins_fin hc hH hn hi hb hmax h1 h2 h3 h4 (fun l el hl=>?_) ⟨hus.1,fun j x hx=>?_⟩ hoth hsz hos htp hou hdr (us:=us)
 ·obtain ⟨q1,q2⟩:=hrow l el hl
  refine ⟨q1,fun j x hx=>?_⟩
  obtain ⟨v,r1,r2,r3⟩:=q2 j x hx
  have hj:j < 4:=by rw [← q1];exact (List.getElem?_eq_some_iff.1 hx).1
  have hln:l < n:=by rw [← hn];exact (List.getElem?_eq_some_iff.1 hl).1
  refine ⟨v,?_,r2,r3⟩
  by_cases e1:l < i
  ·rw [if_pos e1,hcell _ (by omega),if_pos (by omega),hcs _ (by omega)];exact r1
  ·rw [if_neg e1,hcell _ (by omega),if_neg (by omega),if_neg (by omega),hcs _ (by omega),show (l+1) * 4+j - 4 = l * 4+j by omega];exact r1
 ·obtain ⟨v,r1,r2,r3⟩:=hus.2 j x hx
  have hj:j < 4:=by rw [← hus.1];exact (List.getElem?_eq_some_iff.1 hx).1
  refine ⟨v,?_,r2,r3⟩
  rw [hcell _ (by omega),if_neg (by omega),if_pos (by omega),show i * 4+j - i * 4 = j by omega];exact r1
theorem insert_row (els:List (List V)) (new:List V) (i n:Nat) (hn:els.length = n) (hi:i≤n) (hbig:(n+1) * 64≤maxEls) :
  Spec prog n_slices_Insert_s_Bind_Bind [.rw 0 4 n,.int .i64 i,.own 1 4 [new]] [.row t_Bind 4 els,.arr t_Bind 4 1] fun x H'=>x = .rw 0 4 (n+1)∧H' = [.row t_Bind 4 (els.take i++new :: els.drop i),.arr t_Bind 4 1]:=by
 intro c vs hH hc hr
 obtain ⟨v0,vs',rfl,hv0,v1,vs'',rfl,hv1,v2,vs3,rfl,hv2,hvn⟩:=hr
 have hvn:vs3 = []:=hvn
 subst hvn
 have hv1:v1 = .int .i64 i:=hv1
 subst hv1
 left
 have hH0:c.H[0]? = some (.row t_Bind 4 els):=by rw [hH];rfl
 have hH1:c.H[1]? = some (.arr t_Bind 4 1):=by rw [hH];rfl
 refine ⟨ins_in _ _,?_⟩
 obtain ⟨hp,_,q2⟩:=hv2
 have hcur:=(q2 _ _ _ hH1).2.2 rfl
 obtain ⟨a',c',b',o',e3,_,_,_,e4,e5⟩:=hp
 obtain ⟨us,s1,s2,s3⟩:=prepE_vals e5
 have he4:=e4.resolve_left (by simp)
 subst e3 he4
 cases hρ1:c.ρ 1 with
 | none=>rw [hρ1] at hcur;cases hcur
 | some bk =>
 obtain ⟨vb,kv⟩:=bk
 rw [hρ1] at hcur
 have hcur:Value.slice (some ⟨b',o',none⟩) 1 c' = .slice (some ⟨vb,0,none⟩) 1 kv:=hcur
 simp only [Value.slice.injEq,Option.some.injEq,Addr.mk.injEq,and_true,true_and] at hcur
 obtain ⟨⟨rfl,rfl⟩,rfl⟩:=hcur
 obtain ⟨va,va1,va2,va3,va4,_⟩:=(hc.obj 1 _ hH1).2 _ _ hρ1
 have hus4:us.length = 4:=by simpa using s1
 have husc:∀ j v,us[j]? = some v→c.w.cell? ⟨b',j,none⟩ = some v:=fun j v hj=>by have:=(s2 j v hj).1;simpa using this
 have hus1:∀ v∈us,v.oneCell' = true:=fun v hv=>by
  obtain ⟨j,hj,e⟩:=List.getElem_of_mem hv
  rw [oneC_eq];exact (s2 j v (by rw [List.getElem?_eq_getElem hj,e])).2
 have hnewf:new.length = 4∧∀ (j:Nat) (x:V),new[j]? = some x→∃ v,us[j]? = some v∧oneC v = true∧rep c x v:=by
  obtain ⟨t1,t2⟩:=s3 0 new rfl
  refine ⟨t1,fun j x hx=>?_⟩
  obtain ⟨v,u1,u2⟩:=t2 j x hx
  have u1:us[j]? = some v:=by simpa using u1
  exact ⟨v,u1,(s2 j v u1).2,rep_of_prep u2⟩
 have hvlt:b' < c.w.heap.size:=(Array.getElem?_eq_some_iff.1 va1).1
 have hmx:maxEls = 140737488355328:=rfl
 have hcm:capMax = 9223372036854775807:=rfl
 obtain ⟨_,⟨a0,k0,hv0,hle0,_⟩,q3⟩:=hv0
 have hcur0:=(q3 _ _ _ hH0).2.2 hn
 obtain ⟨o1,o2⟩:=hc.obj 0 _ hH0
 cases hρ0:c.ρ 0 with
 | none =>
  have hels:=o1 hρ0
  subst hels
  have hn0:n = 0:=hn.symm
  subst hn0
  have hi0:i = 0:=by omega
  subst hi0
  rw [hρ0] at hcur0
  have hcur0:v0 = .slice none 0 0:=hcur0
  subst hcur0
  refine (Tryz.ins_end_grow none 0 0 b' c' [] us c.w (by omega) (by omega) (by omega) rfl hus4 (fun _=>rfl) (fun a h=>by cases h) husc hus1).mono ?_
  rintro e w' ⟨rfl,rfl⟩
  have hG:=grownCap_ge c.w 1 0 148
  have hG2:=grownCap_le_maxLen c.w 1 0 148 (by unfold maxLen;omega)
  generalize grownCap c.w (0+1) 0 148 = G at hG hG2 ⊢
  refine ins_go hc hH rfl (Nat.le_refl 0) (bN:=c.w.heap.size) (kN:=G) (vs0:=#[]) (vs1:=([]++us).toArray++Builtin.zeroCells zBind.cells (G - 1)) (us:=us) (cs:=[]) (.inr (Nat.le_refl _)) (by omega) ?_ ?_ hG (by unfold maxLen at hG2;omega) (fun l el hl=>by simp at hl) (fun j hj=>by omega) hnewf (fun j hj=>?_) (fun b1 h1 h2=>?_) ?_ rfl rfl rfl
  ·show (c.w.heap.push _)[c.w.heap.size]? = _
   rw [Array.getElem?_push_size];rfl
  ·have hzc:zBind.cells.size = 4:=rfl
   simp only [Array.size_append,zeroCells_size,hzc,List.size_toArray,List.nil_append,hus4];omega
  ·rw [if_neg (by omega),if_pos (by omega),Array.getElem?_append_left (by simp;omega)]
   simp
  ·exact heap_push_lt h1
  ·show c.w.heap.size≤(c.w.heap.push _).size
   rw [Array.size_push];omega
 | some bk =>
 obtain ⟨b,k⟩:=bk
 rw [hρ0] at hcur0
 have hcur0:v0 = .slice (some ⟨b,0,none⟩) n k:=hcur0
 subst hcur0
 obtain ⟨vs0,r1,r2,r3,r4,r5,r6⟩:=o2 b k hρ0
 rw [hn] at r3
 have hblt:b < c.w.heap.size:=(Array.getElem?_eq_some_iff.1 r1).1
 have hvb:b' ≠ b:=fun e=>by
  have:=hc.inj 0 1 b k c' (by rw [hH];simp) (by rw [hH];simp) hρ0 (e ▸ hρ1)
  omega
 generalize hcs:vs0.toList.take (n * 4) = cs
 have hcsl:cs.length = n * 4:=by rw [← hcs,List.length_take,Array.length_toList,r2];omega
 have hcsg:∀ j,j < n * 4→cs[j]? = vs0[j]?:=fun j hj=>by rw [← hcs,List.getElem?_take,if_pos hj];simp
 have hcell:∀ j,c.w.cell? ⟨b,j,none⟩ = vs0[j]?:=fun j=>by simp only [World.cell?,r1];rfl
 have hfz:∀ j,c.w.frozen? ⟨b,j,none⟩ = false:=fun j=>by simp [World.frozen?,r1]
 have hcsc:∀ j v,cs[j]? = some v→c.w.cell? ⟨b,j,none⟩ = some v:=fun j v hj=>by
  have hjl:j < n * 4:=by rw [← hcsl];exact (List.getElem?_eq_some_iff.1 hj).1
  rw [hcell,← hcsg j hjl];exact hj
 have hcs1:∀ v∈cs,v.oneCell' = true:=fun v hv=>by
  obtain ⟨j,hj,e⟩:=List.getElem_of_mem hv
  have hjl:j < n * 4:=by rw [← hcsl];exact hj
  have hl:j / 4 < els.length:=by omega
  obtain ⟨t1,t2⟩:=r6 (j / 4) els[j / 4] (List.getElem?_eq_getElem hl)
  obtain ⟨u,u1,u2,_⟩:=t2 (j % 4) (els[j / 4][j % 4]'(by omega)) (List.getElem?_eq_getElem (by omega))
  rw [show j / 4 * 4+j % 4 = j by omega,← hcsg j hjl,List.getElem?_eq_getElem hj,e] at u1
  cases u1
  rw [oneC_eq];exact u2
 have hsp:k ≥ n+1→∀ j,j < (n+1) * 4→(c.w.cell? ⟨b,j,none⟩).isSome = true:=fun hk j hj=>by
  rw [hcell,Array.getElem?_eq_getElem (by omega)];rfl
 by_cases hin:i = n
 ·subst hin
  by_cases hk:i+1≤k
  ·refine (Tryz.ins_end_room b i k b' c' us c.w hk (by omega) hus4 (fun j hj=>hsp hk _ (by omega)) (fun j _=>hfz _) husc hus1).mono ?_
   rintro e w' ⟨rfl,rfl⟩
   obtain ⟨g1,g2,g3,g4,g5,g6⟩:=heap_setCells b us (i * 4) c.w
   obtain ⟨vs1,g7,g8⟩:=g3 _ _ _ r1
   have hw:∀ j,vs1[j]? = (c.w.setCells b (i * 4) us).cell? ⟨b,j,none⟩:=fun j=>by simp only [World.cell?,g7];rfl
   refine ins_go hc hH hn hi (bN:=b) (kN:=k) (vs0:=vs0) (vs1:=vs1) (us:=us) (cs:=cs) (.inl ⟨k,hρ0⟩) (by omega) g7 (by rw [g8,r2]) hk r4 r6 hcsg hnewf (fun j hj=>?_) (fun b1 _ h2=>g2 b1 h2) (by rw [g1];exact Nat.le_refl _) g4 g5 g6
   rw [hw]
   by_cases e1:j < i * 4
   ·rw [if_pos e1,World.cell?_setCells_out b _ _ _ _ (fun _ _=>.inl e1),hcell,hcsg j e1]
   ·rw [if_neg e1,if_pos (by omega)]
    have:=World.cell?_setCells_in b us (i * 4) c.w (fun t ht=>hsp hk _ (by omega)) (j - i * 4) (by omega)
    rw [show i * 4+(j - i * 4) = j by omega] at this
    rw [this,List.getElem?_eq_getElem]
  ·refine (Tryz.ins_end_grow (some ⟨b,0,none⟩) i k b' c' cs us c.w r3 (by omega) (by omega) hcsl hus4 (fun h=>by cases h) (fun a h j v hj=>by cases h;rw [Addr.add_lit,Nat.zero_add];exact hcsc j v hj) husc hus1).mono ?_
   rintro e w' ⟨rfl,rfl⟩
   have hG:=grownCap_ge c.w (i+1) k 148
   have hG2:=grownCap_le_maxLen c.w (i+1) k 148 (by unfold maxLen;omega)
   generalize grownCap c.w (i+1) k 148 = G at hG hG2 ⊢
   refine ins_go hc hH hn hi (bN:=c.w.heap.size) (kN:=G) (vs0:=vs0) (vs1:=(cs++us).toArray++Builtin.zeroCells zBind.cells (G - (i+1))) (us:=us) (cs:=cs) (.inr (Nat.le_refl _)) (by omega) ?_ ?_ hG (by unfold maxLen at hG2;omega) r6 hcsg hnewf (fun j hj=>?_) (fun b1 h1 h2=>?_) ?_ rfl rfl rfl
   ·show (c.w.heap.push _)[c.w.heap.size]? = _
    rw [Array.getElem?_push_size];rfl
   ·have hzc:zBind.cells.size = 4:=rfl
    simp only [Array.size_append,zeroCells_size,hzc,List.size_toArray,List.length_append,hus4,hcsl];omega
   ·rw [Array.getElem?_append_left (by simp [hcsl,hus4];omega),List.getElem?_toArray,List.getElem?_append,hcsl]
    by_cases e1:j < i * 4
    ·rw [if_pos e1,if_pos e1]
    ·rw [if_neg e1,if_neg e1,if_pos (by omega)]
   ·exact heap_push_lt h1
   ·show c.w.heap.size≤(c.w.heap.push _).size
    rw [Array.size_push];omega
 ·have hin':i < n:=by omega
  by_cases hk:n+1≤k
  ·refine (Tryz.ins_shift b n k i b' c' cs us c.w hin' hk (by omega) hvb hcsl hus4 hcsc (hsp hk) (fun j _=>hfz _) husc hcs1 hus1 t_Bind t_Bind va.size vs0.size (by simp [World.shape?,va1]) (by simp [World.shape?,r1]) (by omega) (by simp [World.frozen?,va1]) (by simp [World.frozen?,va1])).mono ?_
   rintro e w' ⟨rfl,rfl⟩
   have hdl:(cs.drop (i * 4)).length = (n - i) * 4:=by rw [List.length_drop,hcsl];omega
   have hsp':∀ j,j < (n+1) * 4→(c.w.drew.cell? ⟨b,j,none⟩).isSome = true:=hsp hk
   obtain ⟨g1,g2,g3,g4,g5,g6⟩:=heap_setCells b (cs.drop (i * 4)) ((i+1) * 4) c.w.drew
   obtain ⟨vsA,g7,g8⟩:=g3 _ _ _ r1
   generalize hW1:c.w.drew.setCells b ((i+1) * 4) (cs.drop (i * 4)) = W1 at g1 g2 g3 g4 g5 g6 g7 ⊢
   obtain ⟨f1,f2,f3,f4,f5,f6⟩:=heap_setCells b us (i * 4) W1
   obtain ⟨vs1,f7,f8⟩:=f3 _ _ _ g7
   have hw:∀ j,vs1[j]? = (W1.setCells b (i * 4) us).cell? ⟨b,j,none⟩:=fun j=>by simp only [World.cell?,f7];rfl
   refine ins_go hc hH hn hi (bN:=b) (kN:=k) (vs0:=vs0) (vs1:=vs1) (us:=us) (cs:=cs) (.inl ⟨k,hρ0⟩) (by omega) f7 (by rw [f8,g8,r2]) hk r4 r6 hcsg hnewf (fun j hj=>?_) (fun b1 _ h2=>by rw [f2 b1 h2,g2 b1 h2];rfl) (by rw [f1,g1];exact Nat.le_refl _) (by rw [f4,g4];rfl) (by rw [f5,g5];rfl) (by rw [f6,g6];rfl)
   rw [hw]
   have hsp1:∀ j,j < (n+1) * 4→(W1.cell? ⟨b,j,none⟩).isSome = true:=fun j hj=>by
    rw [← hW1]
    exact isSome_setCells b _ _ c.w.drew (fun t ht=>hsp' ((i+1) * 4+t) (by rw [hdl] at ht;omega)) _ (hsp' j hj)
   by_cases e1:j < i * 4
   ·rw [if_pos e1,World.cell?_setCells_out b _ _ _ _ (fun _ _=>.inl e1),← hW1,World.cell?_setCells_out b _ _ _ _ (fun _ _=>.inl (by show j < (i+1) * 4;omega))]
    show c.w.cell? ⟨b,j,none⟩ = _
    rw [hcell,hcsg j (by omega)]
   ·rw [if_neg e1]
    by_cases e2:j < i * 4+4
    ·rw [if_pos e2]
     have:=World.cell?_setCells_in b us (i * 4) W1 (fun t ht=>hsp1 _ (by omega)) (j - i * 4) (by omega)
     rw [show i * 4+(j - i * 4) = j by omega] at this
     rw [this,List.getElem?_eq_getElem]
    ·rw [if_neg e2,World.cell?_setCells_out b _ _ _ _ (fun _ _=>.inr (by show i * 4+us.length≤j;omega)),← hW1]
     have:=World.cell?_setCells_in b (cs.drop (i * 4)) ((i+1) * 4) c.w.drew (fun t ht=>hsp' _ (by omega)) (j - (i+1) * 4) (by omega)
     rw [show (i+1) * 4+(j - (i+1) * 4) = j by omega] at this
     rw [this,← List.getElem?_eq_getElem,List.getElem?_drop,show i * 4+(j - (i+1) * 4) = j - 4 by omega]
  ·refine (Tryz.ins_grow b n k i b' c' cs us c.w hin' r3 (by omega) (by omega) hcsl hus4 hcsc husc hcs1 hus1).mono ?_
   rintro e w' ⟨rfl,rfl⟩
   have hG:=grownCap_ge c.w (n+1) k 148
   have hG2:=grownCap_le_maxLen c.w (n+1) k 148 (by unfold maxLen;omega)
   generalize grownCap c.w (n+1) k 148 = G at hG hG2 ⊢
   have hdl:(cs.drop (i * 4)).length = (n - i) * 4:=by rw [List.length_drop,hcsl];omega
   have hzc:zBind.cells.size = 4:=rfl
   generalize hR:(cs.take (i * 4)).toArray++Builtin.zeroCells zBind.cells (n+1 - i)++Builtin.zeroCells zBind.cells (G - (n+1)) = ROW
   have hRs:ROW.size = G * 4:=by
    rw [← hR]
    simp only [Array.size_append,zeroCells_size,hzc,List.size_toArray,List.length_take,hcsl];omega
   have hRg:∀ j,j < i * 4→ROW[j]? = cs[j]?:=fun j hj=>by
    rw [← hR,Array.getElem?_append_left (by simp [zeroCells_size,hzc,hcsl];omega),Array.getElem?_append_left (by simp [hcsl];omega),List.getElem?_toArray,List.getElem?_take,if_pos hj]
   generalize hN:c.w.heap.size = N
   have hNb:∀ j,(c.w.alloc (.cells ROW 148)).cell? ⟨N,j,none⟩ = ROW[j]?:=fun j=>World.cell?_alloc_at (w:=c.w) ROW _ N j hN.symm
   generalize hW0:(c.w.alloc (.cells ROW 148)).drew = W0
   have hW0c:∀ j,W0.cell? ⟨N,j,none⟩ = ROW[j]?:=fun j=>by rw [← hW0];exact hNb j
   have hW0h:W0.heap = c.w.heap.push (.cells ROW 148):=by rw [← hW0];rfl
   obtain ⟨g1,g2,g3,g4,g5,g6⟩:=heap_setCells N us (i * 4) W0
   obtain ⟨vsA,g7,g8⟩:=g3 ROW t_Bind (0,0) (by rw [hW0h,← hN,Array.getElem?_push_size];rfl)
   have hsA:∀ j,j < (n+1) * 4→((W0.setCells N (i * 4) us).cell? ⟨N,j,none⟩).isSome = true:=fun j hj =>
    isSome_setCells N us _ W0 (fun t ht=>by rw [hW0c,Array.getElem?_eq_getElem (by omega)];rfl) _ (by rw [hW0c,Array.getElem?_eq_getElem (by omega)];rfl)
   generalize hW1:W0.setCells N (i * 4) us = W1 at g1 g2 g3 g4 g5 g6 g7 hsA ⊢
   obtain ⟨f1,f2,f3,f4,f5,f6⟩:=heap_setCells N (cs.drop (i * 4)) ((i+1) * 4) W1.drew
   obtain ⟨vs1,f7,f8⟩:=f3 _ _ _ g7
   have hw:∀ j,vs1[j]? = (W1.drew.setCells N ((i+1) * 4) (cs.drop (i * 4))).cell? ⟨N,j,none⟩:=fun j=>by simp only [World.cell?,f7];rfl
   have hold:∀ b1,b1 < c.w.heap.size→b1 ≠ N→W0.heap[b1]? = c.w.heap[b1]?:=fun b1 h _=>by rw [hW0h];exact heap_push_lt h
   refine ins_go hc hH hn hi (bN:=N) (kN:=G) (vs0:=vs0) (vs1:=vs1) (us:=us) (cs:=cs) (.inr (by omega)) (by omega) f7 (by rw [f8,g8,hRs]) hG (by unfold maxLen at hG2;omega) r6 hcsg hnewf (fun j hj=>?_) (fun b1 h1 h2=>?_) ?_ ?_ ?_ ?_
   ·rw [hw]
    by_cases e1:j < i * 4
    ·rw [if_pos e1,World.cell?_setCells_out N _ _ _ _ (fun _ _=>.inl (by show j < (i+1) * 4;omega))]
     show W1.cell? ⟨N,j,none⟩ = _
     rw [← hW1,World.cell?_setCells_out N _ _ _ _ (fun _ _=>.inl e1),hW0c,hRg j e1]
    ·rw [if_neg e1]
     by_cases e2:j < i * 4+4
     ·rw [if_pos e2,World.cell?_setCells_out N _ _ _ _ (fun _ _=>.inl (by show j < (i+1) * 4;omega))]
      show W1.cell? ⟨N,j,none⟩ = _
      rw [← hW1]
      have:=World.cell?_setCells_in N us (i * 4) W0 (fun t ht=>by rw [hW0c,Array.getElem?_eq_getElem (by omega)];rfl) (j - i * 4) (by omega)
      rw [show i * 4+(j - i * 4) = j by omega] at this
      rw [this,List.getElem?_eq_getElem]
     ·rw [if_neg e2]
      have:=World.cell?_setCells_in N (cs.drop (i * 4)) ((i+1) * 4) W1.drew (fun t ht=>hsA _ (by omega)) (j - (i+1) * 4) (by omega)
      rw [show (i+1) * 4+(j - (i+1) * 4) = j by omega] at this
      rw [this,← List.getElem?_eq_getElem,List.getElem?_drop,show i * 4+(j - (i+1) * 4) = j - 4 by omega]
   ·rw [f2 b1 h2]
    show W1.heap[b1]? = _
    rw [g2 b1 h2,hold b1 h1 h2]
   ·rw [f1]
    show c.w.heap.size≤W1.heap.size
    rw [g1,hW0h,Array.size_push];omega
   ·rw [f4]
    show W1.os = _
    rw [g4,← hW0];rfl
   ·rw [f5]
    show W1.tape = _
    rw [g5,← hW0];rfl
   ·rw [f6]
    show W1.output = _
    rw [g6,← hW0];rfl
end Go.Dw
end
section
namespace Go.Dw
theorem rens_cBs {σ:Nat→Option Nat} {s:List ABind}:(s.map cB).map (rens σ) = s.map cB:=by rw [List.map_map];rfl
attribute [push_cast] rens_cBs
theorem row_get {s:List ABind} {k:Nat} (h:k < s.length):(s.map cB)[k]? = some (cB (s.getD k default)):=by
 rw [List.getElem?_map];simp [List.getD_eq_getElem?_getD,h]
abbrev rowB (s:List ABind):Ob:=.row t_Bind 4 (s.map cB)
theorem BinarySearch_row {g:Nat} (hg:∀ b v,PF g [encB b,.str v] (.int .i64 (cmpS b.name v))) (s:List ABind) (v:Str) (hs:Sorted s) (hl:s.length < 2^61) :
  Spec prog n_slices_BinarySearchFunc_s_Bind_Bind_string [.rw 0 4 s.length,.str v,.fn (.func g) [] []] [rowB s] fun x H'=>x = .tup [.int .i64 (lbd v s),.bool (bound s v)]∧H' = [rowB s]:=by
 refine spec_of_run mixed slices_BinarySearchFunc_s_Bind_Bind_string.ok rfl ?_
 have hle:=lbd_le v s
 push_cast
 have key:∀ (m i j:Nat),j - i≤m→i≤lbd v s→lbd v s≤j→j≤s.length→slices_BinarySearchFunc_s_Bind_Bind_string.L3 (.rw 0 4 s.length) (.str v) (.fn (.func g) [] []) (.int .i64 s.length) (.int .i64 i) (.int .i64 j) 1 [rowB s]
   (Ends 1 slices_BinarySearchFunc_s_Bind_Bind_string.rs fun x' H'=>x' = .tup [.int .i64 (lbd v s),.bool (bound s v)]∧H' = [rowB s]):=by
  intro m
  induction m with
  | zero =>
   intro i j hm h1 h2 h3
   have hij:i = lbd v s:=by omega
   refine slices_BinarySearchFunc_s_Bind_Bind_string.G3 ?_
   push_cast [inlt (show j≤i by omega)]
   unfold bound
   rw [image_lbd hs]
   by_cases hi:i < s.length
   ·push_cast [ilt hi,row_get hi,List.length_map]
    refine .of (hg _ _) ?_
    push_cast
    refine ends_all (.inl rfl) rfl ⟨?_,rfl⟩
    push_cast [cmpS_zero,hij]
    rw [hij] at hi
    by_cases hn:(s.getD (lbd v s) default).name = v
    ·rw [if_pos ⟨hi,hn⟩];simp only [hn];rfl
    ·rw [if_neg (fun h=>hn h.2)];simp only [hn];rfl
   ·push_cast [inlt (show s.length≤i by omega)]
    refine ends_all (.inl rfl) rfl ⟨?_,rfl⟩
    push_cast [hij]
    rw [if_neg (fun h=>hi (by omega))]
    rfl
  | succ m ih =>
   intro i j hm h1 h2 h3
   by_cases hij:i < j
   ·refine slices_BinarySearchFunc_s_Bind_Bind_string.G3 ?_
    have hh:=half (i:=i) (j:=j) (by omega) (by omega)
    generalize hq:(i+j) / 2 = h at hh
    have hk:h < s.length:=by omega
    push_cast [ilt hij]
    simp only [hh]
    push_cast [ilt hk,row_get hk,List.length_map]
    refine .of (hg _ _) ?_
    push_cast [w64 (show h < 2^62 by omega),cmpS_neg]
    refine ⟨fun hc=>ih (h+1) j (by omega) ?_ h2 h3,fun hc=>ih i h (by omega) h1 ?_ (by omega)⟩
    ·rcases Nat.lt_or_ge h (lbd v s) with h4 | h4
     ·omega
     ·exact absurd hc (lbd_ge hs h4 hk)
    ·rcases Nat.lt_or_ge h (lbd v s) with h4 | h4
     ·exact absurd (lbd_lt h4) hc
     ·exact h4
   ·exact ih i j (by omega) h1 h2 h3
 exact key s.length 0 s.length (by omega) (by omega) hle (Nat.le_refl _)
end Go.Dw
end
section
namespace Go.Dw
def bindT (s:List ABind) (v:Str) (t:Term):List ABind:=s.take (lbd v s)++⟨v,t⟩ :: s.drop (lbd v s)
theorem bindT_len (s:List ABind) (v:Str) (t:Term):(bindT s v t).length = s.length+1:=by
 have:=lbd_le v s
 unfold bindT;simp;omega
theorem shut_row (s:List ABind):Shut 1 [rowB s]:=⟨rfl,by show [renOb (clip 1) (rowB s)] = _;rw [renOb_row,rens_cBs]⟩
theorem unify_bind_row (s:List ABind) (v:Str) (t:Term) (hs:Sorted s) (hl:s.length < 2^40):Spec prog n_unify_bind [.rw 0 4 s.length,.str v,encT t] [rowB s] fun x H'=>x = .rw 0 4 (s.length+1)∧H' = [rowB (bindT s v t)]:=by
 have hB:=BinarySearch_row unify_bind_1_s s v hs (by omega)
 have hle:=lbd_le v s
 have hI:=insert_row (s.map cB) (cB ⟨v,t⟩) (lbd v s) s.length (by simp) hle (by unfold maxEls;omega)
 have hbt:(s.map cB).take (lbd v s)++cB ⟨v,t⟩ :: (s.map cB).drop (lbd v s) = (bindT s v t).map cB:=by unfold bindT;simp
 rw [hbt] at hI
 refine spec_of_run mixed unify_bind.ok rfl ?_
 push_cast
 refine CallG.all (specF_func ▸ hB) ?_
 rintro x H' ⟨rfl,rfl⟩
 push_cast
 refine CallG.all (specF_func ▸ hI) ?_
 rintro x H' ⟨rfl,rfl⟩
 push_cast
 exact ends_keep (H:=[rowB (bindT s v t)]) (J:=[_]) (shut_row _) rfl ⟨rfl,rfl⟩
end Go.Dw
end
section
namespace Go.Dw
theorem bindT_sorted {s:List ABind} {v:Str} {t:Term} (hs:Sorted s) (hn:image s v = none):Sorted (bindT s v t):=by
 have hle:=lbd_le v s
 have h1:∀ b∈s.take (lbd v s),b.name < v:=fun b hb=>by
  obtain ⟨j,hj,rfl⟩:=List.getElem_of_mem hb
  have hjl:j < lbd v s:=by rw [List.length_take] at hj;omega
  have:=lbd_lt hjl
  simpa [List.getD_eq_getElem?_getD,show j < s.length by omega] using this
 have h2:∀ b∈s.drop (lbd v s),v < b.name:=fun b hb=>by
  obtain ⟨j,hj,rfl⟩:=List.getElem_of_mem hb
  have hjl:lbd v s+j < s.length:=by rw [List.length_drop] at hj;omega
  have h3:=lbd_ge hs (Nat.le_add_right (lbd v s) j) hjl
  have he:(s.drop (lbd v s))[j] = s.getD (lbd v s+j) default:=by simp [List.getD_eq_getElem?_getD,hjl]
  rw [he]
  have hne:(s.getD (lbd v s+j) default).name ≠ v:=fun e=>by
   have hi:=image_lbd (v:=v) hs
   rw [hn] at hi
   split at hi
   ·cases hi
   ·rename_i hc
    refine hc ⟨by omega,?_⟩
    rcases Nat.eq_zero_or_pos j with h0 | h0
    ·subst h0;exact e
    ·have h5:(s.getD (lbd v s) default).name < (s.getD (lbd v s+j) default).name:=by
      have:=List.pairwise_iff_getElem.1 hs (lbd v s) (lbd v s+j) (by omega) hjl (by omega)
      simpa [List.getD_eq_getElem?_getD,hjl,show lbd v s < s.length by omega] using this
     rw [e] at h5
     exact absurd h5 (lbd_ge hs (Nat.le_refl _) (by omega))
  rcases Classical.em (v < (s.getD (lbd v s+j) default).name) with h | h
  ·exact h
  ·exact absurd (slt_eq h3 h) hne
 unfold bindT
 refine List.pairwise_append.2 ⟨List.Pairwise.sublist (List.take_sublist _ _) hs,List.pairwise_cons.2 ⟨h2,List.Pairwise.sublist (List.drop_sublist _ _) hs⟩,fun a ha b hb=>?_⟩
 rcases List.mem_cons.1 hb with rfl | hb
 ·exact h1 a ha
 ·exact slt_trans (h1 a ha) (h2 b hb)
theorem bindT_mem {s:List ABind} {v:Str} {t:Term} {b:ABind} (h:b∈bindT s v t):b∈s ∨ b = ⟨v,t⟩:=by
 unfold bindT at h
 rcases List.mem_append.1 h with h | h
 ·exact .inl (List.mem_of_mem_take h)
 ·rcases List.mem_cons.1 h with h | h
  ·exact .inr h
  ·exact .inl (List.mem_of_mem_drop h)
end Go.Dw
end
section
namespace Go.Dw
mutual
def short:Term→Bool
 | .mk n v l=>decide (n.length≤24) && ((!v || l.isEmpty) && shorts l)
def shorts:List Term→Bool
 | []=>true
 | a :: l=>short a && shorts l
end
theorem shorts_iff {l:List Term}:shorts l = true ↔ ∀ a∈l,short a = true:=by
 induction l with
 | nil=>simp [shorts]
 | cons a l ih=>simp [shorts,ih]
theorem short_iff {t:Term}:short t = true ↔ t.name.length≤24∧(t.var = true→t.args = [])∧∀ a∈t.args,short a = true:=by
 cases t with | mk n v l=>cases v <;> simp [short,shorts_iff,Term.name,Term.var,Term.args]
theorem formed_short (t:Term):formed t = true→short t = true:=by
 induction t using term_ind with
 | h t ih =>
 intro h
 rw [formed_eq] at h
 rw [short_iff]
 split at h
 ·simp only [Bool.and_eq_true,decide_eq_true_eq,isName] at h
  refine ⟨h.2.1,fun _=>List.length_eq_zero_iff.1 h.1,fun a ha=>?_⟩
  rw [List.length_eq_zero_iff.1 h.1] at ha;cases ha
 ·rename_i hv
  simp only [Bool.and_eq_true,decide_eq_true_eq,isName,List.all_eq_true] at h
  exact ⟨h.2.1.1,fun hv2=>absurd hv2 hv,fun a ha=>ih a ha (h.2.2 a ha)⟩
mutual
theorem tb_short:∀ t,short t = true→tb t≤25 * size t
 | .mk n v l,h=>by
  simp only [short,Bool.and_eq_true,decide_eq_true_eq] at h
  have:=tbs_short l h.2.2
  simp only [tb,size]
  simp only [tbs] at this
  omega
theorem tbs_short:∀ l,shorts l = true→tbs l≤25 * sizes l
 | [],_=>by simp [tbs,tb.tbs,sizes]
 | a :: l,h=>by
  simp only [shorts,Bool.and_eq_true] at h
  have h1:=tb_short a h.1
  have h2:=tbs_short l h.2
  simp only [tbs,tb.tbs,sizes] at h2 ⊢
  omega
end
theorem sizes_set {l:List Term} {k:Nat} {x:Term} (hk:k < l.length):sizes (l.set k x)+size (l.getD k default) = sizes l+size x:=by
 induction l generalizing k with
 | nil=>simp at hk
 | cons a l ih =>
  cases k with
  | zero=>simp [sizes];omega
  | succ k =>
   have:=ih (k:=k) (by simpa using hk)
   simp only [List.set_cons_succ,sizes,List.getD_cons_succ]
   omega
theorem setT_size:∀ (p:List Int) (t x:Term),size (setT t p x)≤size t+size x
 | [],t,x=>by simp only [setT];omega
 | i :: p,t,x=>by
  have h1:=size_args t
  have h2:=size_args (setT t (i :: p) x)
  rw [h2,setT_args]
  split
  ·rename_i hi
   have hk:i.toNat < t.args.length:=by omega
   have h3:=sizes_set (x:=setT (t.args.getD i.toNat default) p x) hk
   have h4:=setT_size p (t.args.getD i.toNat default) x
   omega
  ·omega
theorem fits_size {t:Term} (h:fits t = true):size t≤4000:=by
 simp only [fits,Bool.and_eq_true,decide_eq_true_eq] at h;exact h.1
def good (t:Term):Prop:=short t = true∧size t≤4000
theorem check_good {t:Term} (h:check t = 0):good t:=by
 unfold check at h
 split at h
 ·rename_i h1
  split at h
  ·rename_i h2;exact ⟨formed_short t h1,fits_size h2⟩
  ·omega
 ·omega
end Go.Dw
end
section
namespace Go.Dw
def cPp (p:List Int):List V:=[encP p]
theorem cPp_0 (p:List Int):(cPp p)[0]? = some (encP p):=rfl
theorem cPp_len (p:List Int):(cPp p).length = 1:=rfl
attribute [push_cast] cPp_0 cPp_len
end Go.Dw
end
section
namespace Go.Dw
mutual
theorem visit_name:∀ (t:Term) (p:List Int),∀ x∈visit t p,x.2.name.length < tb t
 | .mk n v l,p,x,hx=>by
  rw [visit_eq] at hx
  simp only [tb]
  rcases List.mem_cons.1 hx with rfl | hx
  ·simp only [Term.name];omega
  ·have:=visits_name l p 0 x hx;simp only [tbs] at this;omega
theorem visits_name:∀ (l:List Term) (p:List Int) (i:Nat),∀ x∈visits l p i,x.2.name.length < tbs l
 | [],p,i,x,hx=>by simp [visits] at hx
 | a :: l,p,i,x,hx=>by
  simp only [visits,List.mem_append] at hx
  simp only [tbs,tb.tbs]
  rcases hx with hx | hx
  ·have:=visit_name a _ x hx;omega
  ·have:=visits_name l _ _ x hx;simp only [tbs] at this;omega
end
theorem arAll_name {M:Nat}:∀ (l:List (List Int × Term)) {m m':Ars},arAll m l = some m'→(∀ x∈l,x.2.name.length < M)→(∀ p∈m,p.1.length < M)→∀ p∈m',p.1.length < M
 | [],m,m',h,_,hm=>by cases h;exact hm
 | x :: l,m,m',h,hl,hm=>by
  simp only [arAll] at h
  cases hs:arStep m x.2 with
  | none=>rw [hs] at h;cases h
  | some m1 =>
   rw [hs,Option.bind_some] at h
   refine arAll_name l h (fun y hy=>hl y (by simp [hy])) ?_
   unfold arStep at hs
   split at hs
   ·cases hs;exact hm
   ·split at hs
    ·split at hs
     ·cases hs;exact hm
     ·cases hs
    ·cases hs
     intro p hp
     rcases List.mem_append.1 hp with hp | hp
     ·exact hm p hp
     ·simp only [List.mem_singleton] at hp;subst hp;exact hl x (by simp)
theorem arRules_name {M:Nat}:∀ (r:List ARule) {m m':Ars},arRules m r = some m'→rbs r≤M→(∀ p∈m,p.1.length < M)→∀ p∈m',p.1.length < M
 | [],m,m',h,_,hm=>by cases h;exact hm
 | x :: r,m,m',h,hM,hm=>by
  simp only [arRules] at h
  simp only [rbs] at hM
  cases ha:arAll m (visit x.left []) with
  | none=>rw [ha] at h;cases h
  | some m1 =>
   rw [ha,Option.bind_some] at h
   cases hb:arAll m1 (visit x.right []) with
   | none=>rw [hb] at h;cases h
   | some m2 =>
    rw [hb,Option.bind_some] at h
    exact arRules_name r h (by omega) (arAll_name _ hb (fun y hy=>by have:=visit_name _ _ y hy;omega) (arAll_name _ ha (fun y hy=>by have:=visit_name _ _ y hy;omega) hm))
theorem term_CheckSystem_t (r:List ARule) (hs:rbs r < 2^38):PF n_term_CheckSystem [encRs r] (.int .i64 (checkSystem r)) :=
 term_CheckSystem_s r hs fun m hm p hp=>by have:=arRules_name r hm (Nat.le_refl _) (by simp) p hp;omega
theorem checkPairs_ok:∀ {r:List ARule},checkPairs r = 0→∀ x∈r,check x.left = 0∧check x.right = 0
 | [],_,x,hx=>by cases hx
 | y :: r,h,x,hx=>by
  simp only [checkPairs] at h
  split at h
  ·omega
  ·rename_i h1
   rcases List.mem_cons.1 hx with rfl | hx
   ·simp only [checks,ne_eq,Classical.not_not] at h1
    split at h1
    ·omega
    ·rename_i h2
     split at h1
     ·omega
     ·rename_i h3
      exact ⟨by simpa using h2,by simpa using h3⟩
   ·exact checkPairs_ok h x hx
theorem checkSystem_good {r:List ARule} (h:checkSystem r = 0):∀ x∈r,good x.left∧good x.right:=by
 have h1:checkRules r = 0:=by
  unfold checkSystem at h
  split at h
  ·rename_i h1;exact absurd h h1
  ·rename_i h1;simpa using h1
 unfold checkRules at h1
 split at h1
 ·omega
 ·intro x hx
  have:=checkPairs_ok h1 x hx
  exact ⟨check_good this.1,check_good this.2⟩
end Go.Dw
end
section
namespace Go.Dw
open Go.Proofs.YtkdcfkfdkimaeaaGreatDoor
abbrev okW (W:World):Nat→Nat→Prop:=fun b _=>b < W.heap.size
def Cells (W:World) (xs:List V) (cs:List Value):Prop:=prepL W (okW W) xs cs∧∀ u∈cs,oneC u = true
theorem prepL_app {w:World} {ok:Nat→Nat→Prop}:∀ {xs ys:List V} {cs ds:List Value},prepL w ok xs cs→prepL w ok ys ds→prepL w ok (xs++ys) (cs++ds)
 | [],ys,cs,ds,h1,h2=>by
  have h1:cs = []:=h1
  subst h1;exact h2
 | x :: xs,ys,cs,ds,⟨v,vs,e,h1,h2⟩,h3=>by
  subst e
  exact ⟨v,vs++ds,rfl,h1,prepL_app h2 h3⟩
theorem prepL_get {w:World} {ok:Nat→Nat→Prop}:∀ {xs:List V} {cs:List Value} {i:Nat} {x:V},prepL w ok xs cs→xs[i]? = some x→∃ v,cs[i]? = some v∧prep w ok x v
 | [],_,i,x,_,h=>by simp at h
 | y :: xs,cs,i,x,⟨v,vs,e,h1,h2⟩,h=>by
  subst e
  cases i with
  | zero=>simp only [List.getElem?_cons_zero,Option.some.injEq] at h;subst h;exact ⟨v,rfl,h1⟩
  | succ i=>simp only [List.getElem?_cons_succ] at h ⊢;exact prepL_get h2 h
theorem Cells.app {W:World} {xs ys:List V} {cs ds:List Value} (h1:Cells W xs cs) (h2:Cells W ys ds):Cells W (xs++ys) (cs++ds) :=
 ⟨prepL_app h1.1 h2.1,fun u hu=>(List.mem_append.1 hu).elim (h1.2 u) (h2.2 u)⟩
theorem Cells.one {W:World} {x:V} {c:Value} (h:prep W (okW W) x c) (ho:oneC c = true):Cells W [x] [c]:=⟨⟨c,[],rfl,h,rfl⟩,fun u hu=>by simp only [List.mem_singleton] at hu;subst hu;exact ho⟩
section
variable {H:Type} {enc:TypeId × Value→H} {W:World}
noncomputable abbrev trd (enc:TypeId × Value→H) (W:World):=DataW.trod enc prog W 0 (fun _=>true) true
def Br {α:Type} (enc:TypeId × Value→H) (W:World) (n:Nat) (t:TypeId) (c:α→List V) (b:α→Nat):Prop:=∀ cs x,trd enc W n t cs = some x→Rows.uptoBulk x.1≤1048576→∃ a,b a≤Rows.uptoBulk x.1∧Cells W (c a) cs
theorem br_str {n:Nat}:Br enc W n t_string (fun s:Str=>[.str s]) (fun s=>s.length+1):=by
 intro cs x h _
 obtain ⟨s,rfl,rfl,_⟩:=DataW.trod_string (P:=prog) Go.Proofs.Tryz.underlying9 h
 refine ⟨s.data.toList,by simp [Rows.uptoBulk],Cells.one ?_ rfl⟩
 show Value.string s = .string ⟨⟨s.data.toList⟩⟩
 cases s with | mk d=>cases d;rfl
theorem br_bool {n:Nat}:Br enc W n t_bool (fun s:Bool=>[.bool s]) (fun _=>1):=by
 intro cs x h _
 obtain ⟨s,rfl,rfl⟩:=DataW.trod_bool (P:=prog) Go.Proofs.Tryz.underlying4 h
 exact ⟨s,by simp [Rows.uptoBulk],Cells.one rfl rfl⟩
theorem br_int {n:Nat}:Br enc W n t_int (fun s:Int=>cI s) (fun _=>1):=by
 intro cs x h _
 obtain ⟨s,rfl,rfl,_⟩:=DataW.trod_int (P:=prog) Go.Proofs.Tryz.underlying3 h
 exact ⟨s,by simp [Rows.uptoBulk],Cells.one rfl rfl⟩
theorem cell_spot {w:World} {a:Addr} {v:Value} (h:w.cell? a = some v):a.spot = none∧a.block < w.heap.size:=by
 unfold World.cell? at h
 split at h
 ·rename_i hb
  split at h
  ·cases h
  ·rename_i hs
   exact ⟨by cases hq:a.spot <;> simp_all,(Array.getElem?_eq_some_iff.1 hb).1⟩
 ·cases h
theorem addr_add {a:Addr} (h:a.spot = none) (n:Nat):a.add n = ⟨a.block,a.off+n,none⟩:=by
 unfold Addr.add
 split
 ·rename_i h0;subst h0;cases a;simp_all
 ·rfl
def sumB {α:Type} (b:α→Nat):List α→Nat
 | []=>0
 | x :: l=>b x+sumB b l
theorem one_le (d:DataW H):1≤Rows.uptoBulk d:=by
 cases d with
 | lit l=>cases l <;> simp [Rows.uptoBulk]
 | _=>simp [Rows.uptoBulk]
theorem bulk_len (l:List (DataW H)):l.length≤Rows.uptoBulkAll l:=by
 induction l with
 | nil=>simp [Rows.uptoBulkAll]
 | cons x r ih=>have:=one_le x;simp only [Rows.uptoBulkAll,List.length_cons];omega
theorem bulk_part {d:DataW H} {l:List (DataW H)} (h:d∈l):Rows.uptoBulk d≤Rows.uptoBulkAll l:=by
 induction l with
 | nil=>cases h
 | cons x r ih =>
  simp only [Rows.uptoBulkAll]
  rcases List.mem_cons.1 h with e | e
  ·subst e;omega
  ·have:=ih e;omega
theorem sumB_le {α:Type} {b:α→Nat}:∀ {l:List α} {es:List (DataW H × List MemPlace)},l.length = es.length→(∀ (i:Nat) (a:α) (e:DataW H × List MemPlace),l[i]? = some a→es[i]? = some e→b a≤Rows.uptoBulk e.1)→sumB b l≤Rows.uptoBulkAll (es.map (·.1))
 | [],[],_,_=>by simp [sumB]
 | [],_ :: _,h,_=>by simp at h
 | _ :: _,[],h,_=>by simp at h
 | a :: l,e :: es,h,hb=>by
  have h1:=hb 0 a e rfl rfl
  have h2:=sumB_le (l:=l) (es:=es) (by simpa using h) fun i a' e' h1 h2=>hb (i+1) a' e' (by simpa using h1) (by simpa using h2)
  simp only [sumB,List.map_cons,Rows.uptoBulkAll];omega
theorem br_slice {α:Type} {n:Nat} {ts t:TypeId} {sz:Nat} {c:α→List V} {b:α→Nat} (hts:prog.underlying ts = some (.slice t)) (hsz:prog.cellsOf t = sz) (hpos:0 < sz) (hc:∀ a,(c a).length = sz)
  (h:∀ m,m+1 = n→Br enc W m t c b):Br enc W n ts (fun l:List α=>[encL c sz l]) (fun l=>sumB b l+1):=by
 intro cs x hx hbk
 rcases DataW.trod_slice (P:=prog) hts hx with ⟨rfl,rfl⟩ | ⟨a,len,cap,elems,rest,m,rfl,rfl,rfl,_,hle,hcap,hlen,hel,_,_⟩
 ·exact ⟨[],by simp [sumB,Rows.uptoBulk],Cells.one ⟨none,0,0,0,rfl,Nat.le_refl _,by unfold capMax;omega,by unfold maxEls;simp,.inl rfl,trivial⟩ rfl⟩
 ·have hbr:=h m rfl
  have hba:Rows.uptoBulkAll (elems.map (·.1))≤1048576:=by simp only [Rows.uptoBulk] at hbk;omega
  have hln:=bulk_len (elems.map (·.1))
  rw [List.length_map] at hln
  rw [hsz] at hel
  have step:∀ i,i < len→∃ y:α,(∀ e,elems[i]? = some e→b y≤Rows.uptoBulk e.1)∧∃ ecs,W.cells? 0 (a.add (i * sz)) sz = some ecs∧Cells W (c y) ecs:=by
   intro i hi
   have h1:=hel i hi
   have hil:i < elems.length:=by omega
   rw [List.getElem?_eq_getElem hil] at h1
   simp only [Option.bind_eq_some_iff] at h1
   obtain ⟨ecs,h2,h3⟩:=h1
   obtain ⟨y,hy1,hy2⟩:=hbr ecs _ h3 (Nat.le_trans (bulk_part (List.mem_map.2 ⟨_,List.getElem_mem hil,rfl⟩)) hba)
   refine ⟨y,fun e he=>?_,ecs,h2,hy2⟩
   rw [List.getElem?_eq_getElem hil] at he
   cases he;exact hy1
  obtain ⟨f,hf⟩:∃ f:Nat→Option α,∀ i,i < len→∃ y,f i = some y∧(∀ e,elems[i]? = some e→b y≤Rows.uptoBulk e.1)∧∃ ecs,W.cells? 0 (a.add (i * sz)) sz = some ecs∧Cells W (c y) ecs:=by
   refine ⟨fun i=>if h:i < len then some (Classical.choose (step i h)) else none,fun i hi=>?_⟩
   exact ⟨Classical.choose (step i hi),by simp [hi],Classical.choose_spec (step i hi)⟩
  have hl:∀ k,k≤len→∃ l:List α,l.length = k∧∀ i,i < k→f i = l[i]?:=by
   intro k
   induction k with
   | zero=>intro _;exact ⟨[],rfl,fun i hi=>by omega⟩
   | succ k ih =>
    intro hk
    obtain ⟨l,h1,h2⟩:=ih (by omega)
    obtain ⟨y,hy,_⟩:=hf k (by omega)
    refine ⟨l++[y],by simp [h1],fun i hi=>?_⟩
    rcases Nat.lt_succ_iff_lt_or_eq.1 hi with h3 | rfl
    ·rw [List.getElem?_append_left (by omega)];exact h2 i h3
    ·rw [List.getElem?_append_right (by omega),h1];simpa using hy
  obtain ⟨l,hl1,hl2⟩:=hl len (Nat.le_refl _)
  have hat:∀ i y,l[i]? = some y→(∀ e,elems[i]? = some e→b y≤Rows.uptoBulk e.1)∧∃ ecs,W.cells? 0 (a.add (i * sz)) sz = some ecs∧Cells W (c y) ecs:=by
   intro i y hy
   have hi:i < len:=by rw [← hl1];exact (List.getElem?_eq_some_iff.1 hy).1
   obtain ⟨z,h1,h2⟩:=hf i hi
   rw [hl2 i hi,hy] at h1
   cases h1;exact h2
  refine ⟨l,?_,Cells.one ?_ rfl⟩
  ·have:=sumB_le (b:=b) (l:=l) (es:=elems) (by omega) fun i y e h1 h2=>(hat i y h1).1 e h2
   simp only [Rows.uptoBulk];omega
  ·have hspot:l ≠ []→a.spot = none∧a.block < W.heap.size:=by
    intro hne
    obtain ⟨y,hy⟩:∃ y,l[0]? = some y:=by cases l with | nil=>exact absurd rfl hne | cons y l=>exact ⟨y,rfl⟩
    obtain ⟨_,ecs,h1,h2⟩:=hat 0 y hy
    obtain ⟨_,g1,g2⟩:=World.cells?_some h1
    have h3:=g2 0 hpos
    have hel:ecs.length = sz:=g1
    obtain ⟨e0,he0⟩:∃ e0,ecs[0]? = some e0:=⟨ecs[0]'(by omega),List.getElem?_eq_getElem (by omega)⟩
    rw [he0] at h3
    simpa [Addr.add] using cell_spot h3
   refine ⟨some a,cap,a.block,a.off,by simp [hl1],by simpa [hl1] using hle,by unfold capMax;unfold maxLen at hcap;omega,?_,?_,prepE_mk fun i e he=>?_⟩
   ·rw [List.length_map];unfold maxEls;omega
   ·by_cases hne:l = []
    ·left;simp [hne]
    ·right
     have:=(hspot hne).1
     cases a;simp_all
   ·rw [List.getElem?_map] at he
    cases hy:l[i]? with
    | none=>rw [hy] at he;cases he
    | some y =>
     rw [hy] at he
     simp only [Option.map_some,Option.some.injEq] at he
     subst he
     obtain ⟨_,ecs,h1,h2⟩:=hat i y hy
     obtain ⟨_,g1,g2⟩:=World.cells?_some h1
     obtain ⟨hsp,hbl⟩:=hspot (by intro e;rw [e] at hy;simp at hy)
     refine ⟨hc y,prepC_mk fun j x hx=>?_⟩
     obtain ⟨v,k1,k2⟩:=prepL_get h2.1 hx
     have hj:j < sz:=by rw [← hc y];exact (List.getElem?_eq_some_iff.1 hx).1
     have h3:=g2 j hj
     rw [k1,addr_add hsp,addr_add rfl] at h3
     refine ⟨v,?_,hbl,h2.2 v (List.mem_of_getElem? k1),k2⟩
     rw [Nat.zero_add,← Nat.add_assoc]
     exact h3
theorem split2 {α:Type} {cs:List α} {a b:Nat} (h:cs.length = a+b):cs = (cs.drop 0).take a++(cs.drop a).take b:=by
 rw [List.drop_zero,List.take_of_length_le (l:=cs.drop a) (by simp;omega),List.take_append_drop]
theorem split3 {α:Type} {cs:List α} {a b c:Nat} (h:cs.length = a+b+c):cs = (cs.drop 0).take a++((cs.drop a).take b++(cs.drop (a+b)).take c):=by
 have h1:cs.drop a = (cs.drop a).take b++(cs.drop (a+b)).take c:=by
  rw [List.take_of_length_le (l:=cs.drop (a+b)) (by simp;omega),← List.drop_drop,List.take_append_drop]
 rw [← h1,List.drop_zero,List.take_append_drop]
theorem tbs_sumB (l:List Term):sumB tb l = tbs l:=by
 induction l with
 | nil=>rfl
 | cons a l ih=>simp only [sumB,tbs,tb.tbs,ih]
theorem sum_rbs:∀ l:List ARule,sumB (fun x:ARule=>1+tb x.left+tb x.right) l = rbs l
 | []=>rfl
 | a :: l=>by simp only [sumB,rbs,sum_rbs l]
theorem c9:prog.cellsOf 9 = 1:=by kernel_rfl
theorem c4:prog.cellsOf 4 = 1:=by kernel_rfl
theorem c3:prog.cellsOf 3 = 1:=by kernel_rfl
theorem c33:prog.cellsOf 33 = 1:=by kernel_rfl
theorem c35:prog.cellsOf 35 = 1+1+1:=by kernel_rfl
theorem c107:prog.cellsOf 107 = 3+3:=by kernel_rfl
theorem br_term:∀ n,Br enc W n 35 cT tb
 | 0=>by intro cs x h;simp [DataW.trod] at h
 | n+1=>by
  intro cs x h hbk
  obtain ⟨xs,m,hm,rfl,hl,hlen,hf⟩:=DataW.trod_struct (P:=prog) Go.Proofs.Tryz.underlying35 h
  obtain rfl:n = m:=by omega
  rw [c35] at hl
  match xs,hlen with
  | [x0,x1,x2],_ =>
  have f0:trd enc W n 9 ((cs.drop 0).take (prog.cellsOf 9)) = some x0:=hf 0 _ rfl
  have f1:trd enc W n 4 ((cs.drop 1).take (prog.cellsOf 4)) = some x1:=hf 1 _ rfl
  have f2:trd enc W n 33 ((cs.drop 2).take (prog.cellsOf 33)) = some x2:=hf 2 _ rfl
  rw [c9] at f0;rw [c4] at f1;rw [c33] at f2
  simp only [List.map_cons,List.map_nil,Rows.uptoBulk,Rows.uptoBulkAll] at hbk ⊢
  obtain ⟨s,b0,d0⟩:=br_str _ _ f0 (by omega)
  obtain ⟨v,b1,d1⟩:=br_bool _ _ f1 (by omega)
  obtain ⟨l,b2,d2⟩:=br_slice (n:=n) (sz:=3) (c:=cT) (b:=tb) Go.Proofs.Tryz.underlying33 c35 (by omega) (fun _=>rfl) (fun m hm=>br_term m) _ _ f2 (by omega)
  try dsimp only at b0
  try dsimp only at b1
  try dsimp only at b2
  refine ⟨.mk s v l,?_,?_⟩
  ·rw [tbs_sumB] at b2
   simp only [tb]
   simp only [tbs] at b2
   omega
  ·rw [split3 hl,cT_eq]
   exact d0.app (d1.app d2)
theorem br_rule:∀ n,Br enc W n 107 cR (fun x=>1+tb x.left+tb x.right)
 | 0=>by intro cs x h;simp [DataW.trod] at h
 | n+1=>by
  intro cs x h hbk
  obtain ⟨xs,m,hm,rfl,hl,hlen,hf⟩:=DataW.trod_struct (P:=prog) Go.Proofs.Tryz.underlying107 h
  obtain rfl:n = m:=by omega
  rw [c107] at hl
  match xs,hlen with
  | [x0,x1],_ =>
  have f0:trd enc W n 35 ((cs.drop 0).take (prog.cellsOf 35)) = some x0:=hf 0 _ rfl
  have f1:trd enc W n 35 ((cs.drop 3).take (prog.cellsOf 35)) = some x1:=hf 1 _ rfl
  rw [c35] at f0 f1
  simp only [List.map_cons,List.map_nil,Rows.uptoBulk,Rows.uptoBulkAll] at hbk ⊢
  obtain ⟨s,b0,d0⟩:=br_term n _ _ f0 (by omega)
  obtain ⟨v,b1,d1⟩:=br_term n _ _ f1 (by omega)
  try dsimp only at b0
  try dsimp only at b1
  refine ⟨⟨s,v⟩,by dsimp only;omega,?_⟩
  rw [split2 hl]
  exact d0.app d1
theorem br_rules {n:Nat}:Br enc W n 22 (fun r:List ARule=>[encRs r]) (fun r=>rbs r):=by
 intro cs x h hbk
 obtain ⟨l,b0,d0⟩:=br_slice (n:=n) (sz:=6) (c:=cR) (b:=fun x=>1+tb x.left+tb x.right) Go.Proofs.Tryz.underlying22 c107 (by omega) (fun _=>rfl) (fun m hm=>br_rule m) _ _ h hbk
 refine ⟨l,?_,d0⟩
 have:sumB (fun x:ARule=>1+tb x.left+tb x.right) l = rbs l:=sum_rbs l
 dsimp only at b0 ⊢
 omega
end
end Go.Dw
end
section
namespace Go.Dw
open Go.ChangeShapes Go.WideShapes Go.ChangeAt Go.RowKit Go.Proofs
theorem post_same {H:Type} {enc:TypeId × Value→H} {P:Program} {f:Func} {s:ChangeSpec} {apart fresh handsOn again:Bool} {W W':World} {args:Array Value} {v:Value} {ds gs:List (DataW H)} {before pa pv:List MemPlace}
  (hW:DataW.Whole enc P f.params.toList s.vars apart W args.toList ds gs before)
  (hres:∀ (b:Nat) (sp:Nat→Bool) (hd:Bool),DataW.TrodAll enc P W' b sp hd f.resultTypes.toList (v.resultList f.resultTypes.size) (s.fn H (ds++gs)).results [])
  (hargs:∀ sp:Nat→Bool,(∀ p∈before,sp p.block = true)→DataW.TrodAll enc P W' 0 sp true f.params.toList args.toList (s.fn H (ds++gs)).args pa)
  (hvars:∀ sp:Nat→Bool,(∀ p∈before,sp p.block = true)→DataW.TrodVars enc P W' sp s.vars (s.fn H (ds++gs)).vars pv)
  (hps:before = pa++pv) (hk:W.keptBut W' (·∈before)) (hfz:∀ a:Addr,a.block < W.heap.size→W'.frozen? a = W.frozen? a)
  (hok:∀ (j:Nat) (t:TypeId) (r:Value),f.resultTypes[j]? = some t→(v.resultList f.resultTypes.size)[j]? = some r→Value.okWide P W' .any 0 t r) :
  s.post enc P f apart fresh handsOn again W args v W':=by
 have hold:∀ p∈before,(fun b=>decide (b < W.heap.size)) p.block = true:=fun p hp=>by simpa using hW.lt p hp
 have hlt:=hW.lt
 refine ⟨ds,gs,before,[],pa,pv,hW,hres _ _ _,hargs _ hold,hvars _ hold,World.keptBut_mono (fun p hp=>⟨hp,?_⟩) hk,fun _=>?_⟩
 ·rw [hps,List.mem_append] at hp
  exact Or.inr hp
 ·obtain ⟨_,_,_,_,_,hz,hn⟩:=hW
  refine ⟨hok,_,_,([]++pa)++pv,⟨[]++pa,pv,trodAll_append (hargs _ (fun _ _=>rfl)) (hres _ _ _),hvars _ (fun _ _=>rfl),rfl,?_,?_⟩,?_⟩
  ·intro b off hp
   have hp':MemPlace.cell b off∈before:=by rw [hps];simpa using hp
   rw [hfz _ (hlt _ hp')]
   exact hz b off hp'
  ·intro ha
   have:=hn ha
   rw [hps] at this
   simpa using this
  ·intro p hp _
   rw [hps]
   simpa using hp
theorem trodAll_old {H:Type} {enc:TypeId × Value→H} {P:Program} {W W':World} (hh:∀ b,b < W.heap.size→W'.heap[b]? = W.heap[b]?) {base:Nat} {sp:Nat→Bool} {held:Bool} :
  ∀ {ts:List TypeId} {vs:List Value} {ds:List (DataW H)} {ps:List MemPlace},DataW.TrodAll enc P W base sp held ts vs ds ps→DataW.TrodAll enc P W' base sp held ts vs ds ps
 | [],[],[],_,h=>h
 | [],[],_ :: _,_,h=>h.elim
 | [],_ :: _,_,_,h=>h.elim
 | _ :: _,[],_,_,h=>h.elim
 | _ :: _,_ :: _,[],_,h=>h.elim
 | t :: ts,v :: vs,d :: ds,ps,⟨p,q,⟨n,h1⟩,h2,e⟩=>by
  refine ⟨p,q,⟨n,DataW.trod_carry n _ _ _ h1 fun x hx=>?_⟩,trodAll_old hh h2,e⟩
  have hl:=DataW.trod_lt n _ _ _ h1 x hx
  cases x with
  | cell b o=>exact World.cell?_of_block (w:=W) (hh b hl)
  | map b=>exact hh b hl
end Go.Dw
end
section
namespace Go.Dw
mutual
def eqV:V→V→Bool
 | .any,.any=>true
 | .int k n,.int k' n'=>decide (k = k') && decide (n = n')
 | .bool a,.bool b=>a == b
 | .str a,.str b=>decide (a = b)
 | .agg a,.agg b=>eqL a b
 | .tup a,.tup b=>eqL a b
 | .nil,.nil=>true
 | .sl z a,.sl z' b=>decide (z = z') && eqE a b
 | .ro a o,.ro b o'=>decide (o = o') && eqL a b
 | .nilp,.nilp=>true
 | .nilm,.nilm=>true
 | .nilf,.nilf=>true
 | .own i z a,.own i' z' b=>decide (i = i') && decide (z = z') && eqE a b
 | .ptr i o,.ptr i' o'=>decide (i = i') && decide (o = o')
 | .map i,.map i'=>decide (i = i')
 | .it i,.it i'=>decide (i = i')
 | .rw i z n,.rw i' z' n'=>decide (i = i') && decide (z = z') && decide (n = n')
 | .rp i n k o,.rp i' n' k' o'=>decide (i = i') && decide (n = n') && decide (k = k') && decide (o = o')
 | _,_=>false
def eqL:List V→List V→Bool
 | [],[]=>true
 | a :: l,b :: m=>eqV a b && eqL l m
 | _,_=>false
def eqE:List (List V)→List (List V)→Bool
 | [],[]=>true
 | a :: l,b :: m=>eqL a b && eqE l m
 | _,_=>false
end
def eqM:List (V × V)→List (V × V)→Bool
 | [],[]=>true
 | a :: l,b :: m=>eqV a.1 b.1 && eqV a.2 b.2 && eqM l m
 | _,_=>false
def eqOb:Ob→Ob→Bool
 | .cells e a,.cells e' b=>decide (e = e') && eqL a b
 | .arr e z n,.arr e' z' n'=>decide (e = e') && decide (z = z') && decide (n = n')
 | .map a,.map b=>eqM a b
 | .dead,.dead=>true
 | .row e z a,.row e' z' b=>decide (e = e') && decide (z = z') && eqE a b
 | _,_=>false
def eqH:List Ob→List Ob→Bool
 | [],[]=>true
 | a :: l,b :: m=>eqOb a b && eqH l m
 | _,_=>false
abbrev Res:=Option (V × List Ob)
abbrev Go:=Bool→List RV→(Nat→C)→Nat→List K→T→List Ob→Res
def bothR (a b:Res):Res:=match a with
 | some a=>match b with
  | some b=>if eqV a.1 b.1 && eqH a.2 b.2 then some a else none
  | none=>none
 | none=>none
def agree:List Res→Res
 | []=>none
 | [r]=>r
 | r :: r2 :: rs=>bothR r (agree (r2 :: rs))
mutual
def refs:V→List Nat
 | .agg cs | .tup cs=>refsL cs
 | .fn _ a l=>refsL a++refsL l
 | .own i _ _=>[i]
 | .ptr i _=>[i]
 | .map i=>[i]
 | .it i=>[i]
 | .rw i _ _=>[i]
 | .rp i _ _ _=>[i]
 | _=>[]
def refsL:List V→List Nat
 | []=>[]
 | x :: xs=>refs x++refsL xs
end
def refsM:List (V × V)→List Nat
 | []=>[]
 | p :: es=>refs p.2++refsM es
def refsE:List (List V)→List Nat
 | []=>[]
 | x :: xs=>refsL x++refsE xs
def refsO:Ob→List Nat
 | .cells _ cs=>refsL cs
 | .map es=>refsM es
 | .row _ _ els=>refsE els
 | .iter (some i) _ _=>[i]
 | _=>[]
def refsH:List Ob→List Nat
 | []=>[]
 | o :: H=>refsO o++refsH H
def memN (i:Nat):List Nat→Bool
 | []=>false
 | j :: l=>Nat.beq i j || memN i l
def reach (B:Nat) (H:List Ob):Nat→List Nat→List Nat→List Nat
 | 0,_,acc=>acc
 | _+1,[],acc=>acc
 | n+1,i :: l,acc=>bif Nat.blt i B || memN i acc then reach B H n l acc else reach B H n (refsO (H.getD i .dead)++l) (acc++[i])
def okEx (B n:Nat):List Nat→Bool
 | []=>true
 | i :: l=>Nat.ble B i && Nat.blt i n && !memN i l && okEx B n l
def fin (pure:Bool) (rs:List RV) (B:Nat) (t:T) (H:List Ob):Res :=
 match retV rs t H with
 | none=>none
 | some x=>bif pure then (match B with | 0=>some (ren (fun _=>none) x,[]) | _=>none) else
  match reach B H 1000 (refs x++refsH (H.take B)) [] with
  | ex=>bif okEx B H.length ex then some (ren (pos? (List.range B++ex)) x,give (List.range B++ex) H) else none
structure FD where
 nd:Nat→C
 c:C
 n:Nat
 rs:List RV
abbrev Code:=Nat→Option FD
abbrev Prims:=Nat→List V→List Ob→Res
def callI (code:Code) (prims:Prims) (ih:Go) (pure:Bool) (f:Nat) (args:List V) (H:List Ob):Res :=
 match prims f args H with
 | some r=>some r
 | none=>match code f with
  | some fd=>bif Nat.beq args.length fd.n then ih pure fd.rs fd.nd H.length [.c fd.c] (ini 0 args) H else none
  | none=>none
def nxK (seen:List Nat) (k:Nat):List (V × V)→List (Nat × V × V)
 | []=>[]
 | p :: es=>bif memN k seen then nxK seen (k+1) es else (k,p) :: nxK seen (k+1) es
def allSeen (seen:List Nat):Nat→Bool
 | 0=>true
 | n+1=>memN n seen && allSeen seen n
def step (code:Code) (prims:Prims) (ih:Go) (pure:Bool) (rs:List RV) (N:Nat→C) (B:Nat) (s:List K) (t:T) (H:List Ob):Res :=
 match s with
 | []=>fin pure rs B t H
 | .c c :: s=>match c with
  | .skip=>ih pure rs N B s t H
  | .seq a b=>ih pure rs N B (.c a :: .c b :: s) t H
  | .reg l=>ih pure rs N B (.r l :: s) t H
  | .dr _ l=>ih pure rs N B (.r l :: s) t H
  | .gh l c=>ih pure rs N B (.r (l.map .op) :: .c c :: s) t H
  | .cond x a b=>match ev t x with
   | .bool c=>ih pure rs N B (.c (if c then a else b) :: s) t H
   | _=>none
  | .blk id a=>ih pure rs N B (.c a :: .mk id :: s) t H
  | .loop a=>ih pure rs N B (.c a :: .c (.loop a) :: s) t H
  | .exit id=>match popTo id s with
   | some s'=>ih pure rs N B s' t H
   | none=>none
  | .ret=>fin pure rs B t H
  | .n k=>ih pure rs N B (.c (N k) :: s) t H
  | .m k=>ih pure rs N B (.c (N k) :: s) t H
  | _=>none
 | .mk _ :: s=>ih pure rs N B s t H
 | .br .. :: _=>none
 | .r l :: s=>match l with
  | []=>ih pure rs N B s t H
  | .op i :: l=>match exec B i t H with
   | some (t',H')=>ih pure rs N B (.r l :: s) t' H'
   | none=>none
  | .call d f args :: l=>match callI code prims ih false f (args.map (ev t)) H with
   | some (x,H')=>ih pure rs N B (.r l :: s) (setO d x t) H'
   | none=>none
  | .callv d g args :: l=>match ev t g with
   | .fn (.func f) fst caps=>match callI code prims ih false f (fst++args.map (ev t)++caps) H with
    | some (x,H')=>ih pure rs N B (.r l :: s) (setO d x t) H'
    | none=>none
   | _=>none
  | .callp d f args :: l=>match callI code prims ih true f (rens (fun _=>none) (args.map (ev t))) [] with
   | some (x,[])=>ih pure rs N B (.r l :: s) (setO d (ren (fun _=>none) x) t) H
   | _=>none
  | .callvp d g args :: l=>match ev t g with
   | .fn (.func f) fst caps=>match callI code prims ih true f (rens (fun _=>none) (fst++args.map (ev t)++caps)) [] with
    | some (x,[])=>ih pure rs N B (.r l :: s) (setO d (ren (fun _=>none) x) t) H
    | _=>none
   | _=>none
  | .gd x b ds g :: l=>match ev t x with
   | .bool c=>ih pure rs N B (.r ((if c = b then g else [])++l) :: s) (if c = b then t else ds.map (fun d=>(d,V.tup []))++t) H
   | .tup []=>ih pure rs N B (.r l :: s) (ds.map (fun d=>(d,V.tup []))++t) H
   | _=>none
  | .alt ls :: l=>match l with
   | []=>agree (ls.map fun p=>ih pure rs N B (.r p.2 :: s) t H)
   | _=>none
  | .nl d ne x :: l=>match elV (ev t x) with
   | some []=>agree [ih pure rs N B (.r l :: s) ((d,.bool (true != ne)) :: t) H,ih pure rs N B (.r l :: s) ((d,.bool (false != ne)) :: t) H]
   | some _=>ih pure rs N B (.r l :: s) ((d,.bool (false != ne)) :: t) H
   | none=>none
  | .nx d x :: l=>match ev t x with
   | .it j=>match H[j]? with
    | some (.iter (some i) n seen)=>match H[i]? with
     | some (.map es)=>if n = es.length then
       bif allSeen seen n then ih pure rs N B (.r l :: s) ((d,.tup [.bool false]) :: t) H
       else agree ((nxK seen 0 es).map fun p=>ih pure rs N B (.r l :: s) ((d,.tup [.bool true,p.2.1,p.2.2]) :: t) (H.set j (.iter (some i) n (seen++[p.1]))))
      else none
     | _=>none
    | _=>none
   | _=>none
end Go.Dw
end
section
namespace Go.Dw
inductive AMulti where
 | mk (rule:Int) (name:Str) (var:Bool) (args:List AMulti)
deriving Inhabited
namespace AMulti
def rule:AMulti→Int | mk r _ _ _=>r
def name:AMulti→Str | mk _ n _ _=>n
def var:AMulti→Bool | mk _ _ v _=>v
def args:AMulti→List AMulti | mk _ _ _ a=>a
theorem eta (t:AMulti):mk t.rule t.name t.var t.args = t:=by cases t;rfl
end AMulti
mutual
def margC:AMulti→List (List V)
 | .mk _ _ _ ts=>margCs ts
def margCs:List AMulti→List (List V)
 | []=>[]
 | a :: ts=>[.int .i64 a.rule,.str a.name,.bool a.var,.sl 4 (margC a)] :: margCs ts
end
def cM (t:AMulti):List V:=[.int .i64 t.rule,.str t.name,.bool t.var,.sl 4 (margC t)]
theorem margCs_eq (ts:List AMulti):margCs ts = ts.map cM:=by
 induction ts with
 | nil=>simp [margCs]
 | cons a ts ih=>simp [margCs,ih,cM]
theorem margC_eq (t:AMulti):margC t = t.args.map cM:=by cases t;simp [margC,margCs_eq,AMulti.args]
abbrev encMs (l:List AMulti):V:=encL cM 4 l
theorem cM_eq (t:AMulti):cM t = [.int .i64 t.rule,.str t.name,.bool t.var,encMs t.args]:=by rw [cM,margC_eq];rfl
def encM (t:AMulti):V:=.agg (cM t)
theorem sto_encM (t:AMulti):sto (encM t) = some (cM t):=rfl
theorem cM_len (t:AMulti):(cM t).length = 4:=rfl
theorem cM_0 (t:AMulti):(cM t)[0]? = some (.int .i64 t.rule):=rfl
theorem cM_1 (t:AMulti):(cM t)[1]? = some (.str t.name):=rfl
theorem cM_2 (t:AMulti):(cM t)[2]? = some (.bool t.var):=rfl
theorem cM_3 (t:AMulti):(cM t)[3]? = some (encMs t.args):=by rw [cM_eq];rfl
theorem cM_sub (t:AMulti):sub 0 4 (cM t) = cM t:=rfl
theorem encM_fold (t:AMulti):V.agg (cM t) = encM t:=rfl
theorem rens_cM {σ:Nat→Option Nat} (t:AMulti):rens σ (cM t) = cM t:=rfl
theorem ren_encM {σ:Nat→Option Nat} (t:AMulti):ren σ (encM t) = encM t:=by unfold encM;rw [ren_agg,rens_cM]
theorem cM_mk (r:Int) (n:Str) (v:Bool) (l:List AMulti):[V.int .i64 r,V.str n,.bool v,encMs l] = cM (.mk r n v l):=by rw [cM_eq];rfl
theorem fdV_encM_none (t:AMulti) (k:Nat):fdV k none (encM t) = (cM t)[k]?:=rfl
theorem put_0_4 (x:List V) (a b c d:V) (h:x.length = 4):put 0 x [a,b,c,d] = x:=by
 simp only [put,h];simp
theorem put_cM (t:AMulti) (a b c d:V):put 0 (cM t) [a,b,c,d] = cM t:=put_0_4 _ _ _ _ _ rfl
theorem put_cM' (t u:AMulti):put 0 (cM t) (cM u) = cM t:=put_0_4 _ _ _ _ _ rfl
attribute [push_cast] sto_encM cM_len cM_0 cM_1 cM_2 cM_3 cM_sub encM_fold ren_encM rens_cM fdV_encM_none put_cM put_cM'
mutual
def msize:AMulti→Nat
 | .mk _ _ _ l=>1+msizes l
def msizes:List AMulti→Nat
 | []=>0
 | a :: l=>msize a+msizes l
end
mutual
def mdepth:AMulti→Nat
 | .mk _ _ _ l=>mdepths l+1
def mdepths:List AMulti→Nat
 | []=>0
 | a :: l=>max (mdepth a) (mdepths l)
end
mutual
def mb:AMulti→Nat
 | .mk _ n _ l=>1+n.length+mbs l
def mbs:List AMulti→Nat
 | []=>0
 | a :: l=>mb a+mbs l
end
theorem msizes_append (a b:List AMulti):msizes (a++b) = msizes a+msizes b:=by
 induction a with
 | nil=>simp [msizes]
 | cons x xs ih=>simp [msizes,ih];omega
theorem msize_args (t:AMulti):msize t = 1+msizes t.args:=by cases t;simp [msize,AMulti.args]
theorem mdepth_args (t:AMulti):mdepth t = mdepths t.args+1:=by cases t;simp [mdepth,AMulti.args]
theorem mb_args (t:AMulti):mb t = 1+t.name.length+mbs t.args:=by cases t;simp [mb,AMulti.args,AMulti.name]
theorem msizes_take_succ (l:List AMulti) (k:Nat) (h:k < l.length):msizes (l.take (k+1)) = msizes (l.take k)+msize (l.getD k default):=by
 rw [take_succ_getD h,msizes_append];simp [msizes]
theorem msizes_take_le (l:List AMulti) (k:Nat):msizes (l.take k)≤msizes l:=by
 conv=>rhs;rw [← List.take_append_drop k l]
 rw [msizes_append];omega
theorem msize_mem {l:List AMulti} {a:AMulti} (h:a∈l):msize a≤msizes l:=by
 induction l with
 | nil=>cases h
 | cons x xs ih=>rcases List.mem_cons.1 h with rfl | h <;> simp [msizes];have:=ih h;omega
theorem mb_mem {l:List AMulti} {a:AMulti} (h:a∈l):mb a≤mbs l:=by
 induction l with
 | nil=>cases h
 | cons x xs ih=>rcases List.mem_cons.1 h with rfl | h <;> simp [mbs];have:=ih h;omega
theorem length_le_msizes (l:List AMulti):l.length≤msizes l:=by
 induction l with
 | nil=>simp
 | cons x xs ih=>simp only [msizes,List.length_cons];have:=msize_args x;omega
theorem mdepths_append (a b:List AMulti):mdepths (a++b) = max (mdepths a) (mdepths b):=by
 induction a with
 | nil=>simp [mdepths]
 | cons x xs ih=>simp [mdepths,ih,Nat.max_assoc]
theorem multi_ind {p:AMulti→Prop} (h:∀ t,(∀ a∈t.args,p a)→p t) (t:AMulti):p t:=by
 have:∀ n t,msize t≤n→p t:=by
  intro n
  induction n with
  | zero=>intro t ht;have:=msize_args t;omega
  | succ n ih =>
   intro t ht
   refine h t fun a ha=>ih a ?_
   have:=msize_args t
   have:=msize_mem ha
   omega
 exact this (msize t) t (Nat.le_refl _)
theorem mdepth_le_msize (t:AMulti):mdepth t≤msize t:=by
 induction t using multi_ind with
 | h t ih =>
  rw [mdepth_args,msize_args]
  have:∀ l:List AMulti,(∀ a∈l,mdepth a≤msize a)→mdepths l≤msizes l:=by
   intro l
   induction l with
   | nil=>intro _;simp [mdepths]
   | cons x l ihl =>
    intro hl
    have h1:=hl x (by simp)
    have h2:=ihl fun a ha=>hl a (by simp [ha])
    simp only [mdepths,msizes];omega
  have:=this t.args ih
  omega
theorem msize_le_mb (t:AMulti):msize t≤mb t:=by
 induction t using multi_ind with
 | h t ih =>
  rw [mb_args,msize_args]
  have:∀ l:List AMulti,(∀ a∈l,msize a≤mb a)→msizes l≤mbs l:=by
   intro l
   induction l with
   | nil=>intro _;simp [mbs,msizes]
   | cons x l ihl =>
    intro hl
    have h1:=hl x (by simp)
    have h2:=ihl fun a ha=>hl a (by simp [ha])
    simp only [mbs,msizes];omega
  have:=this t.args ih
  omega
theorem mdepths_take_succ (l:List AMulti) (k:Nat) (h:k < l.length):mdepths (l.take (k+1)) = max (mdepths (l.take k)) (mdepth (l.getD k default)):=by
 rw [take_succ_getD h,mdepths_append];simp [mdepths]
theorem mdepths_le_msizes (l:List AMulti):mdepths l≤msizes l:=by
 induction l with
 | nil=>simp [mdepths]
 | cons x l ih=>have:=mdepth_le_msize x;simp only [mdepths,msizes];omega
mutual
def meq:AMulti→AMulti→Bool
 | .mk r n v l,.mk r' n' v' l'=>r == r' && n == n' && v == v' && meqs l l'
def meqs:List AMulti→List AMulti→Bool
 | [],[]=>true
 | a :: l,b :: m=>meq a b && meqs l m
 | _,_=>false
end
mutual
theorem meq_iff:∀ a b:AMulti,meq a b = true ↔ a = b
 | .mk r n v l,.mk r' n' v' l'=>by simp [meq,meqs_iff l l',and_assoc]
theorem meqs_iff:∀ a b:List AMulti,meqs a b = true ↔ a = b
 | [],[]=>by simp [meqs]
 | a :: l,b :: m=>by simp [meqs,meq_iff a b,meqs_iff l m]
 | [],_ :: _=>by simp [meqs]
 | _ :: _,[]=>by simp [meqs]
end
instance:DecidableEq AMulti:=fun a b=>if h:meq a b = true then .isTrue ((meq_iff a b).1 h) else .isFalse fun e=>h ((meq_iff a b).2 e)
end Go.Dw
end
section
namespace Go.Dw
mutual
def count (v:Str):Term→Nat
 | .mk n b l=>(if b && decide (n = v) then 1 else 0)+counts v l
def counts (v:Str):List Term→Nat
 | []=>0
 | a :: l=>count v a+counts v l
end
theorem count_eq (v:Str) (t:Term):count v t = (if t.var && decide (t.name = v) then 1 else 0)+counts v t.args:=by cases t;rfl
theorem counts_append (v:Str) (a b:List Term):counts v (a++b) = counts v a+counts v b:=by
 induction a with
 | nil=>simp [counts]
 | cons x xs ih=>simp [counts,ih];omega
theorem counts_take_le (v:Str) (l:List Term) (k:Nat):counts v (l.take k)≤counts v l:=by
 conv=>rhs;rw [← List.take_append_drop k l]
 rw [counts_append];omega
mutual
theorem count_le (v:Str):∀ t,count v t≤size t
 | .mk n b l=>by simp only [count,size];have:=counts_le v l;split <;> omega
theorem counts_le (v:Str):∀ l,counts v l≤sizes l
 | []=>by simp [counts,sizes]
 | a :: l=>by simp only [counts,sizes];have:=count_le v a;have:=counts_le v l;omega
end
def lbg {α:Type} (p:α→Bool):List α→Nat
 | []=>0
 | x :: l=>if p x then lbg p l+1 else 0
theorem lbg_le {α:Type} (p:α→Bool):∀ l:List α,lbg p l≤l.length
 | []=>Nat.le_refl _
 | x :: l=>by simp only [lbg];have:=lbg_le p l;split <;> simp <;> omega
def insS (l:List Str) (s:Str):List Str:=if lbg (fun x=>decide (x < s)) l < l.length∧l.getD (lbg (fun x=>decide (x < s)) l) default = s then l else l.take (lbg (fun x=>decide (x < s)) l)++s :: l.drop (lbg (fun x=>decide (x < s)) l)
theorem mem_insS {l:List Str} {s v:Str}:v∈insS l s ↔ v∈l ∨ v = s:=by
 unfold insS
 split
 ·rename_i h
  constructor
  ·exact .inl
  ·rintro (h2 | rfl)
   ·exact h2
   ·rw [← h.2];exact getD_mem h.1
 ·generalize lbg (fun x=>decide (x < s)) l = k
  have:=List.take_append_drop k l
  constructor
  ·intro h
   simp only [List.mem_append,List.mem_cons] at h
   rcases h with h | h | h
   ·exact .inl (List.mem_of_mem_take h)
   ·exact .inr h
   ·exact .inl (List.mem_of_mem_drop h)
  ·rintro (h | rfl)
   ·rw [← this] at h
    simp only [List.mem_append,List.mem_cons] at h ⊢
    rcases h with h | h
    ·exact .inl h
    ·exact .inr (.inr h)
   ·simp
theorem insS_len (l:List Str) (s:Str):(insS l s).length≤l.length+1:=by
 unfold insS
 have:=lbg_le (fun x=>decide (x < s)) l
 split <;> simp <;> omega
mutual
def collectT (l:List Str):Term→List Str
 | .mk n b ar=>collectTs (if b then insS l n else l) ar
def collectTs (l:List Str):List Term→List Str
 | []=>l
 | a :: ar=>collectTs (collectT l a) ar
end
mutual
theorem collectT_len:∀ (t:Term) (l:List Str),(collectT l t).length≤l.length+size t
 | .mk n b ar,l=>by
  simp only [collectT,size]
  have:=collectTs_len ar (if b then insS l n else l)
  have:=insS_len l n
  cases b <;> simp at * <;> omega
theorem collectTs_len:∀ (ar:List Term) (l:List Str),(collectTs l ar).length≤l.length+sizes ar
 | [],l=>by simp [collectTs,sizes]
 | a :: ar,l=>by simp only [collectTs,sizes];have:=collectT_len a l;have:=collectTs_len ar (collectT l a);omega
end
mutual
def occ (v:Str):Term→Bool
 | .mk n b ar=>(b && decide (n = v)) || occs v ar
def occs (v:Str):List Term→Bool
 | []=>false
 | a :: ar=>occ v a || occs v ar
end
mutual
theorem mem_collectT (v:Str):∀ (t:Term) (l:List Str),v∈collectT l t ↔ v∈l ∨ occ v t = true
 | .mk n b ar,l=>by
  simp only [collectT,occ,mem_collectTs v ar]
  cases b
  ·simp
  ·simp only [if_true,mem_insS,Bool.true_and,Bool.or_eq_true,decide_eq_true_eq,or_assoc]
   constructor
   ·rintro (h | h | h)
    ·exact .inl h
    ·exact .inr (.inl h.symm)
    ·exact .inr (.inr h)
   ·rintro (h | h | h)
    ·exact .inl h
    ·exact .inr (.inl h.symm)
    ·exact .inr (.inr h)
theorem mem_collectTs (v:Str):∀ (ar:List Term) (l:List Str),v∈collectTs l ar ↔ v∈l ∨ occs v ar = true
 | [],l=>by simp [collectTs,occs]
 | a :: ar,l=>by simp only [collectTs,occs,mem_collectTs v ar,mem_collectT v a,Bool.or_eq_true,or_assoc]
end
mutual
theorem count_occ (v:Str):∀ t,decide (count v t = 0) = !occ v t
 | .mk n b ar=>by
  simp only [count,occ]
  have:=counts_occ v ar
  cases b <;> by_cases h:n = v <;> simp_all
theorem counts_occ (v:Str):∀ l,decide (counts v l = 0) = !occs v l
 | []=>by simp [counts,occs]
 | a :: ar=>by
  have h1:=count_occ v a
  have h2:=counts_occ v ar
  have e:counts v (a :: ar) = count v a+counts v ar:=rfl
  have e2:occs v (a :: ar) = (occ v a || occs v ar):=rfl
  rw [e2,Bool.not_or,← h1,← h2]
  by_cases c1:count v a = 0 <;> by_cases c2:counts v ar = 0 <;> simp [e,c1,c2]
end
def varsT (t:Term):List Str:=collectT [] t
end Go.Dw
end
section
namespace Go.Dw
structure ASym where
 name:Str
 arity:Int
 deriving Inhabited,DecidableEq
def cSy (s:ASym):List V:=[.str s.name,.int .i64 s.arity]
theorem cSy_len (s:ASym):(cSy s).length = 2:=rfl
theorem cSy_0 (s:ASym):(cSy s)[0]? = some (.str s.name):=rfl
theorem cSy_1 (s:ASym):(cSy s)[1]? = some (.int .i64 s.arity):=rfl
attribute [push_cast] cSy_len cSy_0 cSy_1
end Go.Dw
end
section
namespace Go.Dw
open Go.Proofs (sortS)
theorem mem_foldl_addS (v:Str):∀ (l ks:List Str),v∈l.foldl addS ks ↔ v∈ks ∨ v∈l
 | [],ks=>by simp
 | x :: l,ks=>by
  rw [List.foldl_cons,mem_foldl_addS v l]
  unfold addS
  split
  ·rename_i h
   simp only [List.mem_cons]
   constructor
   ·rintro (h1 | h1)
    ·exact .inl h1
    ·exact .inr (.inr h1)
   ·rintro (h1 | rfl | h1)
    ·exact .inl h1
    ·exact .inl h
    ·exact .inr h1
  ·simp [or_assoc]
theorem varsIn_cons (x:List Int × Term) (l:List (List Int × Term)):varsIn (x :: l) = if x.2.var then x.2.name :: varsIn l else varsIn l:=by
 unfold varsIn;rw [List.filter_cons];split <;> rfl
theorem varsIn_append (a b:List (List Int × Term)):varsIn (a++b) = varsIn a++varsIn b:=by
 unfold varsIn;rw [List.filter_append,List.map_append]
mutual
theorem mem_varsIn (v:Str):∀ (t:Term) (p:List Int),v∈varsIn (visit t p) ↔ occ v t = true
 | .mk n b ar,p=>by
  have h:=mem_varsIns v ar p 0
  rw [visit_eq,varsIn_cons]
  cases b
  ·rw [if_neg (by simp [Term.var])]
   simpa [occ,Term.args] using h
  ·rw [if_pos (by simp [Term.var])]
   simp only [occ,Bool.true_and,Bool.or_eq_true,decide_eq_true_eq,List.mem_cons,← h]
   exact ⟨fun h=>h.imp (fun e=>e.symm) id,fun h=>h.imp (fun e=>e.symm) id⟩
theorem mem_varsIns (v:Str):∀ (ar:List Term) (p:List Int) (i:Nat),v∈varsIn (visits ar p i) ↔ occs v ar = true
 | [],p,i=>by simp [visits,varsIn,occs]
 | a :: ar,p,i=>by
  have h1:=mem_varsIn v a (p++[(i:Int)])
  have h2:=mem_varsIns v ar p (i+1)
  simp only [visits,varsIn_append,List.mem_append,h1,h2,occs,Bool.or_eq_true]
end
theorem mem_varsOf (v:Str) (t:Term):v∈varsOf [t] ↔ occ v t = true:=by
 unfold varsOf
 rw [show (v∈sortS (vsetT [] [t])) ↔ v∈vsetT [] [t] from (List.mergeSort_perm _ _).mem_iff]
 simp only [vsetT,List.foldl_cons,List.foldl_nil,vset,mem_foldl_addS,mem_varsIn,List.not_mem_nil,false_or]
def mk (m:Ars):Bool:=m.any fun p=>marked p.1
end Go.Dw
end
section
namespace Go.Dw
mutual
def allM (f:AMulti→Bool):AMulti→Bool
 | .mk k n v l=>f (.mk k n v l) && allMs f l
def allMs (f:AMulti→Bool):List AMulti→Bool
 | []=>true
 | a :: l=>allM f a && allMs f l
end
theorem allMs_all (f:AMulti→Bool) (l:List AMulti):allMs f l = l.all (allM f):=by induction l with | nil=>rfl | cons a l ih=>simp [allMs,ih]
theorem allM_eq (f:AMulti→Bool) (m:AMulti):allM f m = (f m && m.args.all (allM f)):=by cases m;simp only [allM,allMs_all,AMulti.args]
theorem allM_arg {f:AMulti→Bool} {m a:AMulti} (h:allM f m = true) (ha:a∈m.args):allM f a = true:=by
 rw [allM_eq,Bool.and_eq_true] at h
 exact List.all_eq_true.1 h.2 a ha
theorem allM_self {f:AMulti→Bool} {m:AMulti} (h:allM f m = true):f m = true:=by
 rw [allM_eq,Bool.and_eq_true] at h;exact h.1
def rangedM (n:Nat) (m:AMulti):Bool:=decide (0≤m.rule) && decide (m.rule≤n)
def ruleOf (r:List ARule) (m:AMulti):ARule:=r.getD (m.rule - 1).toNat default
def formedM (r:List ARule) (m:AMulti):Bool :=
 if 0 < m.rule then decide (m.name = []) && (!m.var && decide (m.args.length = (varsOf [(ruleOf r m).left]).length))
 else if m.var then decide (m.args.length = 0) && isName m.name false
 else decide (m.args.length≤8) && isName m.name true
def checkM (r:List ARule) (m:AMulti):Int :=
 if checkSystem r ≠ 0 then checkSystem r else if allM (rangedM r.length) m = false then 8 else if allM (formedM r) m = false then 4 else if 4000 < msize m ∨ 200 < mdepth m then 3 else 0
mutual
def countM:AMulti→Nat
 | .mk k _ _ l=>(if k = 0 then 0 else 1)+countMs l
def countMs:List AMulti→Nat
 | []=>0
 | a :: l=>countM a+countMs l
end
mutual
theorem countM_le:∀ m,countM m≤msize m
 | .mk k n v l=>by simp only [countM,msize];have:=countMs_le l;split <;> omega
theorem countMs_le:∀ l,countMs l≤msizes l
 | []=>Nat.le_refl _
 | a :: l=>by simp only [countMs,msizes];have:=countM_le a;have:=countMs_le l;omega
end
mutual
def sizeP:AMulti→Nat
 | .mk _ _ _ l=>sizePs 1 l
def sizePs (n:Nat):List AMulti→Nat
 | []=>n
 | a :: l=>if 4000 < n+sizeP a then n+sizeP a else sizePs (n+sizeP a) l
end
theorem sizeP_args (m:AMulti):sizeP m = sizePs 1 m.args:=by cases m;simp [sizeP,AMulti.args]
mutual
theorem sizeP_le:∀ m,sizeP m≤msize m
 | .mk _ _ _ l=>by simp only [sizeP,msize];have:=sizePs_le l 1;omega
theorem sizePs_le:∀ (l:List AMulti) (n:Nat),sizePs n l≤n+msizes l
 | [],n=>by simp [sizePs,msizes]
 | a :: l,n=>by
  simp only [sizePs,msizes]
  have h1:=sizeP_le a
  have h2:=sizePs_le l (n+sizeP a)
  split <;> omega
end
mutual
theorem sizeP_eq:∀ m,sizeP m≤4000→sizeP m = msize m
 | .mk _ _ _ l=>by simp only [sizeP,msize];exact fun h=>sizePs_eq l 1 h
theorem sizePs_eq:∀ (l:List AMulti) (n:Nat),sizePs n l≤4000→sizePs n l = n+msizes l
 | [],n=>by simp [sizePs,msizes]
 | a :: l,n=>by
  simp only [sizePs,msizes]
  intro h
  split at h
  ·omega
  ·rename_i hc
   rw [if_neg hc]
   have:=sizeP_eq a (by omega)
   rw [sizePs_eq l _ h];omega
end
theorem sizeP_gt (m:AMulti):4000 < sizeP m ↔ 4000 < msize m:=by
 constructor
 ·intro h;have:=sizeP_le m;omega
 ·intro h
  by_cases hc:sizeP m≤4000
  ·rw [sizeP_eq m hc] at hc;omega
  ·omega
mutual
def plainM:Term→AMulti
 | .mk n v l=>.mk 0 n v (plainMs l)
def plainMs:List Term→List AMulti
 | []=>[]
 | a :: l=>plainM a :: plainMs l
end
def ixS (v:Str) (l:List Str):Nat:=(idxI (fun x=>decide (v = x)) l).toNat
theorem idxI_ix {v:Str}:∀ {l:List Str},v∈l→idxI (fun x=>decide (v = x)) l = ixS v l∧ixS v l < l.length∧l.getD (ixS v l) default = v
 | [],h=>by cases h
 | x :: l,h=>by
  unfold ixS
  simp only [idxI]
  by_cases he:v = x
  ·subst he;simp
  ·have hm:v∈l:=(List.mem_cons.1 h).resolve_left he
   obtain ⟨h1,h2,h3⟩:=idxI_ix hm
   have hd:decide (v = x) = false:=by simpa using he
   simp only [hd,Bool.false_eq_true,if_false]
   rw [h1]
   have hn:¬ ((ixS v l:Nat):Int) < 0:=by omega
   have h4:(((ixS v l:Nat):Int)+1).toNat = ixS v l+1:=by omega
   simp only [hn,if_false,h4,List.length_cons]
   refine ⟨by omega,by omega,?_⟩
   simpa [List.getD_eq_getElem?_getD] using h3
mutual
def plugT (vars:List Str) (x:List Term):Term→Term
 | .mk n v l=>if v then x.getD (ixS n vars) default else .mk n false (plugTs vars x l)
def plugTs (vars:List Str) (x:List Term):List Term→List Term
 | []=>[]
 | a :: l=>plugT vars x a :: plugTs vars x l
end
theorem plugTs_map (vars:List Str) (x:List Term) (l:List Term):plugTs vars x l = l.map (plugT vars x):=by induction l with | nil=>rfl | cons a l ih=>simp [plugTs,ih]
theorem plugT_eq (vars:List Str) (x:List Term) (t:Term):plugT vars x t = if t.var then x.getD (ixS t.name vars) default else .mk t.name false (t.args.map (plugT vars x)):=by cases t;simp only [plugT,plugTs_map,Term.name,Term.var,Term.args];rfl
mutual
def sideM (r:List ARule) (f:ARule→Term):AMulti→Term
 | .mk k n v l=>if k = 0 then .mk n v (sideMs r f l) else plugT (varsOf [(r.getD (k - 1).toNat default).left]) (sideMs r f l) (f (r.getD (k - 1).toNat default))
def sideMs (r:List ARule) (f:ARule→Term):List AMulti→List Term
 | []=>[]
 | a :: l=>sideM r f a :: sideMs r f l
end
theorem sideMs_map (r:List ARule) (f:ARule→Term) (l:List AMulti):sideMs r f l = l.map (sideM r f):=by induction l with | nil=>rfl | cons a l ih=>simp [sideMs,ih]
theorem sideM_eq (r:List ARule) (f:ARule→Term) (m:AMulti):sideM r f m = if m.rule = 0 then .mk m.name m.var (m.args.map (sideM r f)) else plugT (varsOf [(ruleOf r m).left]) (m.args.map (sideM r f)) (f (ruleOf r m)):=by cases m;simp only [sideM,sideMs_map,AMulti.rule,AMulti.name,AMulti.var,AMulti.args,ruleOf];rfl
def endM (r:List ARule) (f:ARule→Term) (m:AMulti):Option Term × Int :=
 if checkM r m ≠ 0 then (none,checkM r m) else if fits (sideM r f m) then (some (sideM r f m),0) else (none,3)
structure OkM (r:List ARule) (m:AMulti):Prop where
 rg:allM (rangedM r.length) m = true
 fm:allM (formedM r) m = true
theorem OkM.arg {r:List ARule} {m a:AMulti} (h:OkM r m) (ha:a∈m.args):OkM r a:=⟨allM_arg h.rg ha,allM_arg h.fm ha⟩
theorem checkM_ok {r:List ARule} {m:AMulti} (h:checkM r m = 0):checkSystem r = 0∧OkM r m∧msize m≤4000∧mdepth m≤200:=by
 unfold checkM at h
 split at h
 ·rename_i hc;exact absurd h hc
 ·rename_i h1
  split at h
  ·cases h
  ·rename_i h2
   split at h
   ·cases h
   ·rename_i h3
    split at h
    ·cases h
    ·exact ⟨Classical.not_not.1 h1,⟨by simpa using h2,by simpa using h3⟩,by omega,by omega⟩
theorem checkM_iff {r:List ARule} {m:AMulti}:checkM r m = 0 ↔ checkSystem r = 0∧OkM r m∧msize m≤4000∧mdepth m≤200:=by
 refine ⟨checkM_ok,fun ⟨h1,h2,h3,h4⟩=>?_⟩
 unfold checkM
 rw [if_neg (by simpa using h1),if_neg (by simp [h2.rg]),if_neg (by simp [h2.fm]),if_neg (by omega)]
theorem OkM.rule {r:List ARule} {m:AMulti} (h:OkM r m) (hr:m.rule ≠ 0):0 < m.rule∧m.rule≤r.length∧ruleOf r m∈r∧m.args.length = (varsOf [(ruleOf r m).left]).length∧m.name = []∧m.var = false:=by
 have h1:=allM_self h.rg
 have h2:=allM_self h.fm
 unfold rangedM at h1
 rw [Bool.and_eq_true,decide_eq_true_eq,decide_eq_true_eq] at h1
 unfold formedM at h2
 rw [if_pos (by omega),Bool.and_eq_true,Bool.and_eq_true,decide_eq_true_eq,decide_eq_true_eq] at h2
 exact ⟨by omega,h1.2,getD_mem (by omega),h2.2.2,h2.1,by simpa using h2.2.1⟩
theorem OkM.rule_pos {r:List ARule} {m:AMulti} (h:OkM r m) (hr:m.rule ≠ 0):0 < m.rule:=(h.rule hr).1
end Go.Dw
end
section
namespace Go.Dw
theorem slices_IndexFunc_s_Multi_Multi_s {p:AMulti→Bool} {g:Nat} {caps:List V} (hc:∀ σ,rens σ caps = caps) (l:List AMulti) (hl:l.length < 2^62) (h:∀ a∈l,PF g (encM a :: caps) (.bool (p a))) :
  PF n_slices_IndexFunc_s_Multi_Multi [encL cM 4 l,.fn (.func g) [] caps] (.int .i64 (idxI p l)):=by
 refine pf_of slices_IndexFunc_s_Multi_Multi.ok rfl ?_
 push_cast [hc]
 refine loop_up (n:=l.length) (R:=fun k=>(∀ j,j < k→p (l.getD j default) = false)→slices_IndexFunc_s_Multi_Multi.L3 (encL cM 4 l) (.fn (.func g) [] caps) (.int .i64 l.length) (.int .i64 k) 0 [] _) ?_ ?_ 0 (by omega) (by intro j hj;omega)
 ·intro k hk ih hq
  refine slices_IndexFunc_s_Multi_Multi.G3 ?_
  push_cast [ilt hk,cU8_0,cS_0,hc]
  refine .of (h _ (getD_mem hk)) ?_
  push_cast [w64 (show k < 2^62 by omega),hc]
  refine ⟨fun hp=>pf_ret ?_,fun hp=>?_⟩
  ·push_cast [slices_IndexFunc_s_Multi_Multi.rs]
   rw [idxI_some hk hp hq]
  ·exact ih fun j hj=>by rcases Nat.lt_succ_iff_lt_or_eq.1 hj with h | rfl;exact hq j h;exact hp
 ·intro hq
  refine slices_IndexFunc_s_Multi_Multi.G3 ?_
  push_cast [inlt (Nat.le_refl _)]
  refine pf_ret ?_
  push_cast [slices_IndexFunc_s_Multi_Multi.rs]
  rw [idxI_none hq]
theorem slices_ContainsFunc_s_Multi_Multi_s {p:AMulti→Bool} {g:Nat} {caps:List V} (hc:∀ σ,rens σ caps = caps) (l:List AMulti) (hl:l.length < 2^62) (h:∀ a∈l,PF g (encM a :: caps) (.bool (p a))) :
  PF n_slices_ContainsFunc_s_Multi_Multi [encL cM 4 l,.fn (.func g) [] caps] (.bool (l.any p)):=by
 refine pf_of slices_ContainsFunc_s_Multi_Multi.ok rfl ?_
 push_cast [hc]
 refine .of (slices_IndexFunc_s_Multi_Multi_s hc l hl h) ?_
 push_cast [hc]
 refine pf_ret ?_
 push_cast [slices_ContainsFunc_s_Multi_Multi.rs,idxI_any]
end Go.Dw
end
section
namespace Go.Dw
theorem put3_cM (m:AMulti) (v:V):put 3 [v] (cM m) = [.int .i64 m.rule,.str m.name,.bool m.var,v]:=by rw [cM_eq];rfl
attribute [push_cast] put3_cM
theorem multi_size_s (m:AMulti) (hs:msize m < 2^40):PF n_multi_size [encM m] (.int .i64 (sizeP m)):=by
 induction m using multi_ind with
 | h m ih =>
 refine pf_of multi_size.ok rfl ?_
 have hst:=msize_args m
 have hl:=length_le_msizes m.args
 rw [sizeP_args]
 push_cast
 refine loop_up (n:=m.args.length) (R:=fun k=>∀ v:Nat,sizePs v (m.args.drop k) = sizePs 1 m.args→v≤1+msizes (m.args.take k)→multi_size.L3 (.int .i64 v) (encMs m.args) (.int .i64 m.args.length) (.int .i64 k) 0 [] (Ends 0 multi_size.rs fun x' H'=>x' = .int .i64 (sizePs 1 m.args)∧H' = [])) ?_ ?_ 0 (Nat.zero_le _) 1 (by simp) (by omega)
 ·intro k hk ih2 v hv hb
  have h1:=msizes_take_succ _ _ hk
  have h2:=msizes_take_le m.args (k+1)
  have hm:=getD_mem hk
  have hsp:=sizeP_le (m.args.getD k default)
  have hih:=ih _ hm (by omega)
  rw [drop_getD hk] at hv
  simp only [sizePs] at hv
  generalize hx:m.args.getD k default = a at hm hv h1 hsp hih
  refine multi_size.G3 ?_
  push_cast [ilt hk,hx]
  refine .of hih ?_
  have hw:IntKind.i64.wrap ((v:Int)+(sizeP a:Int)) = ((v+sizeP a:Nat):Int):=by rw [wrap64 (by omega) (by omega)];omega
  by_cases hc:4000 < v+sizeP a
  ·rw [if_pos hc] at hv
   have hci:((4000:Int) < ((v+sizeP a:Nat):Int)) = True:=eq_true (by omega)
   rw [hv] at hw hci
   generalize sizePs 1 m.args = w at hw hci
   push_cast [hw,hci]
   exact pf_ret (by push_cast [multi_size.rs])
  ·rw [if_neg hc] at hv
   have hci:((4000:Int) < ((v+sizeP a:Nat):Int)) = False:=eq_false (by omega)
   have:=ih2 (v+sizeP a) hv (by omega)
   generalize v+sizeP a = w at hw hci this
   push_cast [hw,hci,w64 (show k < 2^62 by omega)]
   exact this
 ·intro v hv hb
  rw [drop_map_none] at hv
  refine multi_size.G3 ?_
  push_cast [inlt (Nat.le_refl _)]
  refine pf_ret ?_
  push_cast [multi_size.rs,← hv]
  rfl
theorem multi_depth_s (m:AMulti) (hs:msize m < 2^40):PF n_multi_depth [encM m] (.int .i64 (mdepth m)):=by
 induction m using multi_ind with
 | h m ih =>
 refine pf_of multi_depth.ok rfl ?_
 have hst:=msize_args m
 have hl:=length_le_msizes m.args
 have hd:=mdepths_le_msizes m.args
 push_cast
 refine loop_up (n:=m.args.length) (R:=fun k=>multi_depth.L3 (.int .i64 (mdepths (m.args.take k):Nat)) (encMs m.args) (.int .i64 m.args.length) (.int .i64 k) 0 [] _) ?_ ?_ 0 (by omega)
 ·intro k hk ih2
  have h1:=mdepths_take_succ _ _ hk
  have hm:=getD_mem hk
  have:=msize_mem hm
  refine multi_depth.G3 ?_
  push_cast [ilt hk]
  refine .of (ih _ hm (by omega)) ?_
  push_cast [w64 (show k < 2^62 by omega)]
  rw [h1] at ih2
  exact ih2
 ·refine multi_depth.G3 ?_
  push_cast [inlt (Nat.le_refl _),List.take_length]
  rw [wrap64 (by omega) (by omega)]
  refine pf_ret ?_
  push_cast [multi_depth.rs,List.take_length,mdepth_args m]
theorem multi_own_s (m:AMulti) (hs:msize m < 2^40):PF n_multi_own [encM m] (encM m):=by
 induction m using multi_ind with
 | h m ih =>
 refine pf_of multi_own.ok rfl ?_
 have hst:=msize_args m
 have hl:=length_le_msizes m.args
 push_cast
 refine loop_up (n:=m.args.length) (R:=fun k=>multi_own.L3 (.ptr 0 0) (.ptr 1 0) (encMs m.args) (.int .i64 m.args.length) (.int .i64 k) 0
  [.cells t_Multi [.int .i64 m.rule,.str m.name,.bool m.var,ownL cM 2 4 (m.args.take k)],.cells t_Multi [.int .i64 0,.str [],.bool false,.sl 4 []],.arr t_Multi 4 k] _) ?_ ?_ 0 (by omega)
 ·intro k hk ih2
  have hm:=getD_mem hk
  have:=msize_mem hm
  have hlt:(m.args.take k).length = k:=by simp;omega
  rw [take_succ_getD hk] at ih2
  refine multi_own.G3 ?_
  push_cast [ilt hk]
  refine .of (ih _ hm (by omega)) ?_
  push_cast [hlt,w64 (show k < 2^62 by omega)]
  refine ⟨by unfold maxEls;omega,?_⟩
  exact ih2
 ·refine multi_own.G3 ?_
  push_cast [inlt (Nat.le_refl _)]
  refine pf_ret ?_
  push_cast [multi_own.rs,List.take_length,cM_mk]
  rw [AMulti.eta]
def zM:AMulti:=.mk 0 [] false []
def encME (r:Option AMulti) (e:Int):V:=match r with
 | some m=>.tup [encM m,.int .i64 e]
 | none=>.tup [encM zM,.int .i64 e]
def fitM (m:AMulti):Bool:=decide (msize m≤4000) && decide (mdepth m≤200)
def fitE (m:AMulti):V:=if fitM m then encME (some m) 0 else encME none 3
theorem encM_z:V.agg [.int .i64 0,.str [],.bool false,.sl 4 []] = encM zM:=rfl
theorem multi_Fit_s (m:AMulti) (hs:msize m < 2^40):PF n_multi_Fit [encM m] (fitE m):=by
 have hsz:=sizeP_gt m
 refine pf_of multi_Fit.ok rfl ?_
 push_cast
 refine .of (multi_size_s m hs) ?_
 unfold fitE fitM
 by_cases h1:4000 < sizeP m
 ·have hi:((4000:Int) < (sizeP m:Int)) = True:=eq_true (by omega)
  have h1':¬ msize m≤4000:=by omega
  push_cast [hi,h1']
  exact pf_ret (by push_cast [multi_Fit.rs,encM_z];rfl)
 ·have hi:((4000:Int) < (sizeP m:Int)) = False:=eq_false (by omega)
  have h1':msize m≤4000:=by omega
  push_cast [hi]
  refine .of (multi_depth_s m hs) ?_
  by_cases h2:200 < mdepth m
  ·have hj:((200:Int) < (mdepth m:Int)) = True:=eq_true (by omega)
   have h2':¬ mdepth m≤200:=by omega
   push_cast [hj,h2']
   exact pf_ret (by push_cast [multi_Fit.rs,encM_z];rfl)
  ·have hj:((200:Int) < (mdepth m:Int)) = False:=eq_false (by omega)
   have h2':mdepth m≤200:=by omega
   push_cast [hj]
   refine .of (multi_own_s m hs) ?_
   push_cast
   exact pf_ret (by push_cast [multi_Fit.rs];simp [h1',h2'];rfl)
theorem multi_all_s {p q:AMulti→Bool} {g:Nat} {caps:List V} {B:Nat} (hc:∀ σ,rens σ caps = caps) (h:∀ a,q a = true→mb a≤B→PF g (encM a :: caps) (.bool (p a))) (hB:B < 2^40) (m:AMulti) (hq:allM q m = true) (hm:mb m≤B) :
  PF n_multi_all [encM m,.fn (.func g) [] caps] (.bool (allM p m)):=by
 induction m using multi_ind with
 | h m ih =>
 have hmb:=mb_args m
 have hsz:=msize_le_mb m
 have hst:=msize_args m
 have hl:=length_le_msizes m.args
 have hC:=slices_ContainsFunc_s_Multi_Multi_s (p:=fun a=>!allM p a) (g:=n_multi_all_1) (caps:=[.ro [.fn (.func g) [] caps] 0]) (fun σ=>by push_cast) m.args (by omega) fun a ha=>by
  refine pf_of multi_all_1.ok rfl ?_
  push_cast [hc]
  refine .of (ih a ha (allM_arg hq ha) (by have:=mb_mem ha;omega)) ?_
  push_cast
  exact pf_ret (by push_cast [multi_all_1.rs])
 refine pf_of multi_all.ok rfl ?_
 rw [allM_eq]
 push_cast [hc]
 refine .of (h m (allM_self hq) hm) ?_
 cases hp:p m with
 | false =>
  push_cast [hc]
  exact pf_ret (by push_cast [multi_all.rs])
 | true =>
  push_cast [hc]
  refine .of hC ?_
  push_cast [hc]
  exact pf_ret (by push_cast [multi_all.rs,any_not])
end Go.Dw
end
