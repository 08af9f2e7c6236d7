/-
  Contracts and lemmas for ResidualProjects: part f of 11.
-/
import Derived.Test.YtkdcfkfdkimaeaaGreatDoorPae
import Derived.Lib.Bytealg
import Derived.Test.YtkdcfkfdkimaeaaGreatDoorPad
import Derived.Laws.Externs
import Derived.Ground.NamesProg
import Derived.Shelf.Slices.In.SortAlone
import Derived.Shelf.Slices.In.SortNone
import Derived.Sort.EveryDepth
import Derived.Sort.Grow
import Derived.Sort.KeysCollected
import Derived.Shelf.Spec.SlicesInsert
import Derived.Lib.AppendZerosOnto
import Derived.ArgAppend
import Derived.Shelf.Spec.SlicesGrow
import Derived.Test.YtkdcfkfdkimaeaaGreatDoorRows
import Derived.WalkKit
import Derived.ProofKit
import Derived.OpenShut
import Derived.JoinedCond
import Derived.ReadAgain
import Derived.Carry
set_option linter.unusedVariables false
set_option linter.unusedSimpArgs false
set_option maxRecDepth 100000
namespace Go.Dw
theorem Uz {n b:Nat}(h:n<2^40)(hb:b<=64):(n+1)*b<=Ah:=by
 have:(n+1)*b<=(2^40)*64:=Nat.mul_le_mul (by omega) hb
 unfold Ah;omega
theorem P4 (t:Term)(hs:size t<2^40):PF HY [An t] (An t):=by
 induction t using Ai with
 | h t ih =>
 refine Ab T5.ok rfl ?_
 have hst:=AJ t
 have hl:=Am t.args
 push_cast
 refine Ac (n:=t.args.length) (R:=fun k=>T5.L3 (.ptr 0 0) (.ptr 1 0) (Bk t.args) (.int .i64 t.args.length) (.int .i64 k) 0
  [.cells A3 [.str [],.bool false,.sl 3 []],.cells A3 [.str t.name,.bool t.var,Bf cT 2 3 (t.args.take k)],.arr A3 3 k] _) ?_ ?_ 0 (by omega)
 ·intro k hk ih2
  have hm:=A4 hk
  have hsm:=By hm
  have hlt:(t.args.take k).length=k:=by simp;omega
  refine A5.2 ?_
  push_cast[BC hk]
  refine .of (ih _ hm (by omega)) ?_
  push_cast[hlt,Uz (show k<2^40 by omega) (show 48<=64 by omega),CD (show k<2^62 by omega)]
  rw[Aa hk]at ih2
  exact ih2
 ·refine A5.2 ?_
  push_cast[AZ (Nat.le_refl _)]
  refine A1 ?_
  push_cast[T5.rs,List.take_length]
  rw[An,P7]
def Dm (t:Term):List Int->Option Term
 | []=>some t
 | i::p=>if 0<=i/\i<t.args.length then Dm (t.args.getD i.toNat default) p else none
def D5:Term:=.mk [] false []
def VD:Option Term->V
 | some t=>.tup [An t,.bool true]
 | none=>.tup [An D5,.bool false]
def J8 (t:Term)(p:List Int)(x:Term):Term:=match p with
 | []=>x
 | i::p=>.mk t.name t.var (if 0<=i/\i<t.args.length then t.args.set i.toNat (J8 (t.args.getD i.toNat default) p x) else t.args)
theorem UE {t x:Term}{i:Int}{p:List Int}:(J8 t (i::p) x).args=if 0<=i/\i<t.args.length then t.args.set i.toNat (J8 (t.args.getD i.toNat default) p x) else t.args:=rfl
theorem Za {t x:Term}{i:Int}{p:List Int}{k:Nat}(hk:k<t.args.length):(J8 t (i::p) x).args.getD k default=if (k:Int)=i then J8 (t.args.getD k default) p x else t.args.getD k default:=by
 rw[UE]
 by_cases h:0<=i/\i<t.args.length
 ·rw[if_pos h]
  by_cases e:(k:Int)=i
  ·rw[if_pos e]
   subst e
   simp[List.getD_eq_getElem?_getD,hk]
  ·rw[if_neg e]
   simp only[List.getD_eq_getElem?_getD]
   rw[List.getElem?_set_ne (by omega)]
 ·rw[if_neg h,if_neg (by omega)]
theorem ZG {t x:Term}{i:Int}{p:List Int}:(J8 t (i::p) x).args.length=t.args.length:=by
 rw[UE];split<;>simp
theorem ln {t x:Term}{i:Int}{p:List Int}:(J8 t (i::p) x).name=t.name/\(J8 t (i::p) x).var=t.var:=⟨rfl,rfl⟩
theorem iL (p:List Int):∀ (t x:Term),size t<2^40->size x<2^40->p.length<2^40->PF OV [An t,I0 p,An x] (An (J8 t p x)):=by
 induction p with
 | nil =>
  intro t x ht hx hp
  refine Ab NS.ok rfl ?_
  push_cast[List.length_nil]
  refine .of (P4 x hx) ?_
  push_cast
  refine A1 ?_
  push_cast[NS.rs]
  rfl
 | cons i p ih =>
  intro t x ht hx hp
  have hst:=AJ t
  have hl:=Am t.args
  have hpl:(i::p).length=p.length+1:=rfl
  refine Ab NS.ok rfl ?_
  have hne:((p.length:Int)+1=0)=False:=eq_false (by omega)
  push_cast[hne]
  have hal:=ZG (t:=t) (x:=x) (i:=i) (p:=p)
  refine Ac (n:=t.args.length) (R:=fun k=>NS.L3 (I0 (i::p)) (.ro (cT x) 0) (.ptr 0 0) (.ptr 1 0) (Bk t.args) (.int .i64 t.args.length) (.int .i64 k) 0
   [.cells A3 [.str [],.bool false,.sl 3 []],.cells A3 [.str t.name,.bool t.var,Bf cT 2 3 ((J8 t (i::p) x).args.take k)],.arr A3 3 k] _) ?_ ?_ 0 (by omega)
  ·intro k hk ih2
   have hm:=A4 hk
   have hsm:=By hm
   have hlt:((J8 t (i::p) x).args.take k).length=k:=by simp;omega
   rw[Aa (by omega),Za hk]at ih2
   refine A5.2 ?_
   have h0:((0:Int)<(p.length:Int)+1)=True:=eq_true (by omega)
   have hb:(1<=p.length+1)=True:=eq_true (by omega)
   by_cases he:(k:Int)=i
   ·rw[if_pos he]at ih2
    subst he
    push_cast[BC hk,h0,List.getD_cons_zero,hb,List.drop_succ_cons,List.drop_zero,List.take_length]
    refine .of (ih _ _ (by omega) hx (by simp at hp;omega)) ?_
    push_cast[hlt,Uz (show k<2^40 by omega) (show 48<=64 by omega),CD (show k<2^62 by omega)]
    exact ih2
   ·rw[if_neg he]at ih2
    push_cast[BC hk,h0,List.getD_cons_zero,he,hb]
    refine .of (P4 _ (by omega)) ?_
    push_cast[hlt,Uz (show k<2^40 by omega) (show 48<=64 by omega),CD (show k<2^62 by omega)]
    exact ih2
  ·refine A5.2 ?_
   push_cast[AZ (Nat.le_refl _)]
   refine A1 ?_
   rw[List.take_of_length_le (by omega)]
   push_cast[NS.rs]
   rw[An,P7,ln.1,ln.2]
def Hj (r:Option Term)(e:Int):V:=match r with
 | some t=>.tup [An t,.int .i64 e]
 | none=>.tup [An D5,.int .i64 e]
theorem YQ (t:Term)(hs:size t<2^62):PF P5 [An t] (if BJ t then Hj (some t) 0 else Hj none 3):=by
 refine Ab YH.ok rfl ?_
 push_cast
 refine .of (VV t hs) ?_
 cases hf:BJ t<;>push_cast<;>exact A1 (by push_cast[YH.rs];rfl)
def Jt:List Term->Int
 | []=>0
 | a::l=>if FQ a≠0 then FQ a else Jt l
theorem kp (l:List Term)(hl:l.length<2^62)(hs:∀ t∈l,tb t<2^62):PF SG [Bk l] (.int .i64 (Jt l)):=by
 refine Ab PO.ok rfl ?_
 push_cast
 refine Ac (n:=l.length) (R:=fun k=>Jt (l.drop k)=Jt l->PO.L3 (Bk l) (.int .i64 l.length) (.int .i64 k) 0 [] _) ?_ ?_ 0 (by omega) rfl
 ·intro k hk ih hq
  refine A5.2 ?_
  push_cast[BC hk]
  refine .of (du _ (hs _ (A4 hk))) ?_
  rw[Ag hk]at hq
  simp only[Jt]at hq
  push_cast[CD (show k<2^62 by omega)]
  refine⟨fun h=>A1 ?_,fun h=>ih ?_⟩
  ·push_cast[PO.rs]
   rw[<-hq,if_pos h]
  ·rw[<-hq,if_neg h]
 ·intro hq
  refine A5.2 ?_
  push_cast[AZ (Nat.le_refl _)]
  refine A1 ?_
  push_cast[PO.rs]
  rw[<-hq,List.drop_eq_nil_of_le (Nat.le_refl _)];rfl
abbrev Ip:A9->A9->Int:=Lib.compareBytes
theorem sO {a b:UInt8}(h1:¬ a<b)(h2:¬ b<a):a=b:=UInt8.le_antisymm (UInt8.not_lt.1 h2) (UInt8.not_lt.1 h1)
theorem WG:∀ a b:A9,Ip a b=if a<b then -1 else if b<a then 1 else 0
 | [],[]=>by simp[Ip,Lib.compareBytes]
 | [],_::_=>by simp[Ip,Lib.compareBytes]
 | _::_,[]=>by simp[Ip,Lib.compareBytes]
 | x::a,y::b=>by
  have ih:=WG a b
  simp only[Ip,Lib.compareBytes,List.cons_lt_cons_iff]at ih ⊢
  by_cases h1:x<y
  ·simp[h1]
  ·by_cases h2:y<x
   ·have hne:x≠y:=fun e=>by subst e;exact h1 h2
    have hne':y≠x:=fun e=>hne e.symm
    simp[h1,h2,hne]
   ·have:=sO h1 h2
    subst this
    simp[h1,ih]
theorem NE {a b c:A9}(h:a<b)(h2:b<c):a<c:=List.lt_trans h h2
theorem om {a b:A9}(h:a<b):¬ b<a:=List.lt_asymm h
theorem DB (a:A9):¬ a<a:=List.lt_irrefl a
theorem Xg {a b:A9}(h:¬ a<b)(h2:¬ b<a):a=b:=List.le_antisymm h2 h
theorem K8 {a b:A9}:Ip a b<0↔a<b:=by
 rw[WG]
 by_cases h:a<b
 ·simp[h]
 ·by_cases h2:b<a<;>simp[h,h2]
theorem Rd {a b:A9}:Ip a b=0↔a=b:=by
 rw[WG]
 by_cases h:a<b
 ·simp only[h,if_true];constructor
  ·intro e;omega
  ·intro e;subst e;exact absurd h (DB a)
 ·by_cases h2:b<a
  ·simp only[h,h2,if_true,if_false];constructor
   ·intro e;omega
   ·intro e;subst e;exact absurd h2 (DB a)
  ·simp only[h,h2,if_false,true_iff];exact Xg h h2
theorem IF:∀ a b:A9,Op.bytesLess a b=decide (a<b)
 | [],[]=>by simp[Op.bytesLess]
 | [],_::_=>by simp[Op.bytesLess]
 | _::_,[]=>by simp[Op.bytesLess]
 | x::a,y::b=>by
  simp only[Op.bytesLess,List.cons_lt_cons_iff,IF a b]
  rw[Bool.eq_iff_iff];simp
def DO (s:List A7):Prop:=s.Pairwise fun a b=>a.name<b.name
def Jd (v:A9):List A7->Nat
 | []=>0
 | b::s=>if b.name<v then Jd v s+1 else 0
theorem RS (v:A9):∀ s,Jd v s<=s.length
 | []=>Nat.le_refl _
 | b::s=>by simp only[Jd,List.length_cons];have:=RS v s;split<;>omega
theorem YO {v:A9}:∀ {s:List A7} {j:Nat},j<Jd v s->(s.getD j default).name<v
 | [],j,h=>by simp[Jd]at h
 | b::s,j,h=>by
  simp only[Jd]at h
  split at h
  ·rename_i hb
   cases j with
   | zero=>simpa using hb
   | succ j=>simpa using YO (s:=s) (j:=j) (by omega)
  ·omega
theorem Z3 {v:A9}:∀ {s:List A7} {j:Nat},DO s->Jd v s<=j->j<s.length->¬ (s.getD j default).name<v
 | [],j,_,_,h=>by simp at h
 | b::s,j,hs,h,hj=>by
  obtain⟨h1,h2⟩:=List.pairwise_cons.1 hs
  simp only[Jd]at h
  split at h
  ·rename_i hb
   cases j with
   | zero=>omega
   | succ j=>simpa using Z3 (s:=s) (j:=j) h2 (by omega) (by simpa using hj)
  ·rename_i hb
   cases j with
   | zero=>simpa using hb
   | succ j =>
    have hm:s.getD j default∈s:=A4 (by simpa using hj)
    have:=h1 _ hm
    intro hlt
    simp only[List.getD_cons_succ]at hlt
    exact hb (NE this hlt)
def Af:List A7->A9->Option Term
 | [],_=>none
 | b::s,v=>if b.name=v then some b.term else Af s v
def bound (s:List A7)(v:A9):Bool:=(Af s v).isSome
theorem NW {v:A9}:∀ {s:List A7},DO s->Af s v=if Jd v s<s.length/\(s.getD (Jd v s) default).name=v then some (s.getD (Jd v s) default).term else none
 | [],_=>by simp[Af]
 | b::s,hs=>by
  obtain⟨h1,h2⟩:=List.pairwise_cons.1 hs
  simp only[Af,Jd]
  by_cases hb:b.name<v
  ·have hne:b.name≠v:=fun e=>by rw[e]at hb;exact DB v hb
   simp only[hne,if_false,hb,if_true,NW h2,List.getD_cons_succ,List.length_cons,Nat.add_lt_add_iff_right]
  ·simp only[hb,if_false,List.getD_cons_zero,List.length_cons]
   by_cases he:b.name=v
   ·simp[he]
   ·simp only[he,if_false,and_false]
    have:∀ c∈s,c.name≠v:=fun c hc e=>by
     have h3:=h1 c hc
     rw[e]at h3
     exact hb h3
    clear h1 h2 hs
    induction s with
    | nil=>rfl
    | cons c s ih=>simp only[Af];rw[if_neg (this c (by simp)),ih fun d hd=>this d (by simp[hd])]
theorem eL (a b:A9):PF Cp [.str a,.str b] (.int .i64 (Ip a b)):=by
 intro c vs hH hc hr
 obtain⟨v1,vs1,rfl,h1,v2,vs2,rfl,h2,h3⟩:=hr
 have h1:v1=.string ⟨⟨a⟩⟩:=h1
 have h2:v2=.string ⟨⟨b⟩⟩:=h2
 have h3:vs2=[]:=h3
 subst h1 h2 h3
 right
 refine⟨_,c.w,?_,_,.int .i64 (Ip a b),c,rfl,rfl,⟨rfl,hH⟩,hc,rfl,.refl c⟩
 rw[run_callFunc_extern HA (by kernel_rfl) (by kernel_rfl) (by kernel_rfl) (e:=Extern.BytealgCompare.compare) (by kernel_rfl)]
 have:=Lib.run_compareString (P:=prog) ⟨⟨a⟩⟩ ⟨⟨b⟩⟩ c.w
 rw[this];rfl
theorem W6 (a b:A9):PF F8 [.str a,.str b] (.int .i64 (Ip a b)):=by
 refine Ab FY.ok rfl ?_
 push_cast
 refine .of (eL a b) ?_
 push_cast
 exact A1 (by push_cast[FY.rs])
theorem MT (a b:A9):PF Gl [.str a,.str b] (.int .i64 (Ip a b)):=by
 refine Ab Kp.ok rfl ?_
 push_cast
 refine .of (W6 a b) ?_
 push_cast
 exact A1 (by push_cast[Kp.rs])
theorem Yn (b:A7)(v:A9):PF Md [Yv b,.str v] (.int .i64 (Ip b.name v)):=by
 refine Ab OX.ok rfl ?_
 push_cast
 refine .of (MT _ _) ?_
 push_cast
 exact A1 (by push_cast[OX.rs])
theorem WV (b:A7)(v:A9):PF M2 [Yv b,.str v] (.int .i64 (Ip b.name v)):=by
 refine Ab Ov.ok rfl ?_
 push_cast
 refine .of (MT _ _) ?_
 push_cast
 exact A1 (by push_cast[Ov.rs])
theorem Aec {i j:Nat}(hi:i<2^61)(hj:j<2^61):IntKind.i64.wrap ((IntKind.u64.wrap (IntKind.i64.wrap ((i:Int)+(j:Int)))).fdiv (2^min 1 IntKind.u64.bits))=(((i+j) / 2:Nat):Int):=by
 rw[Bn (x:=(i:Int)+j) (by omega) (by omega)]
 have h1:IntKind.u64.wrap ((i:Int)+(j:Int))=((i+j:Nat):Int):=by unfold IntKind.wrap IntKind.bits IntKind.signed;simp;omega
 rw[h1]
 have h2:(2^min 1 IntKind.u64.bits:Int)=2:=by decide
 rw[h2]
 have h3:((i+j:Nat):Int).fdiv 2=(((i+j) / 2:Nat):Int):=by
  rw[Int.fdiv_eq_ediv_of_nonneg _ (by omega)];omega
 rw[h3,Bn (by omega) (by omega)]
theorem Yo {g:Nat}(hg:∀ b v,PF g [Yv b,.str v] (.int .i64 (Ip b.name v)))(s:List A7)(v:A9)(hs:DO s)(hl:s.length<2^61) :
  PF AL [Bm s,.str v,.fn (.func g) [] []] (.tup [.int .i64 (Jd v s),.bool (bound s v)]):=by
 refine Ab Aj.ok rfl ?_
 have hle:=RS v s
 push_cast
 have key:∀ (m i j:Nat),j-i<=m->i<=Jd v s->Jd v s<=j->j<=s.length->Aj.L3 (Bm s) (.str v) (.fn (.func g) [] []) (.int .i64 s.length) (.int .i64 i) (.int .i64 j) 0 []
   (Bo 0 Aj.rs fun x' H'=>x'=.tup [.int .i64 (Jd v s),.bool (bound s v)]/\H'=[]):=by
  intro m
  induction m with
  | zero =>
   intro i j hm h1 h2 h3
   have hij:i=Jd v s:=by omega
   refine A5.2 ?_
   push_cast[AZ (show j<=i by omega)]
   unfold bound
   rw[NW hs]
   by_cases hi:i<s.length
   ·push_cast[BC hi]
    refine .of (hg _ _) ?_
    push_cast
    refine A1 ?_
    push_cast[Aj.rs,Rd,hij]
    rw[hij]at hi
    by_cases hn:(s.getD (Jd v s) default).name=v
    ·rw[if_pos ⟨hi,hn⟩];simp only[hn];rfl
    ·rw[if_neg (fun h=>hn h.2)];simp only[hn];rfl
   ·push_cast[AZ (show s.length<=i by omega)]
    refine A1 ?_
    push_cast[Aj.rs,hij]
    rw[if_neg (fun h=>hi (by omega))]
    rfl
  | succ m ih =>
   intro i j hm h1 h2 h3
   by_cases hij:i<j
   ·refine A5.2 ?_
    have hh:=Aec (i:=i) (j:=j) (by omega) (by omega)
    generalize hq:(i+j) / 2=h at hh
    have hk:h<s.length:=by omega
    push_cast[BC hij]
    simp only[hh]
    push_cast[BC hk]
    refine .of (hg _ _) ?_
    push_cast[CD (show h<2^62 by omega),K8]
    refine⟨fun hc=>ih (h+1) j (by omega) ?_ h2 h3,fun hc=>ih i h (by omega) h1 ?_ (by omega)⟩
    ·rcases Nat.lt_or_ge h (Jd v s)with h4 | h4
     ·omega
     ·exact absurd hc (Z3 hs h4 hk)
    ·rcases Nat.lt_or_ge h (Jd v s)with h4 | h4
     ·exact absurd (YO h4) hc
     ·exact h4
   ·exact ih i j (by omega) h1 h2 h3
 exact key s.length 0 s.length (by omega) (by omega) hle (Nat.le_refl _)
theorem SR (s:List A7)(v:A9)(hs:DO s)(hl:s.length<2^61):PF Lj [Bm s,.str v] (VD (Af s v)):=by
 have hB:=Yo Yn s v hs hl
 have hi:=NW (v:=v) hs
 refine Ab Oj.ok rfl ?_
 push_cast
 refine UD hB ?_
 push_cast
 unfold bound
 by_cases hc:Jd v s<s.length/\(s.getD (Jd v s) default).name=v
 ·rw[if_pos hc]at hi
  push_cast[hi,Option.isSome_some,BC hc.1]
  refine A1 ?_
  push_cast[Oj.rs]
  rfl
 ·rw[if_neg hc]at hi
  push_cast[hi,Option.isSome_none]
  refine A1 ?_
  push_cast[Oj.rs]
  rfl
def Z7:List A7->Nat
 | []=>0
 | b::s=>1+b.name.length+tb b.term+Z7 s
theorem wm {s:List A7}{b:A7}(h:b∈s):1+b.name.length+tb b.term<=Z7 s:=by
 induction s with
 | nil=>cases h
 | cons x xs ih=>rcases List.mem_cons.1 h with rfl | h<;>simp[Z7];have:=ih h;omega
theorem RL (s:List A7):s.length<=Z7 s:=by
 induction s with
 | nil=>simp
 | cons x xs ih=>simp only[Z7,List.length_cons];omega
theorem Ak {α:Type}{l:List α}:l.drop l.length=[]:=List.drop_eq_nil_of_le (Nat.le_refl _)
theorem Aau {k:Nat}(hk:k<2^62)(h0:0<k):IntKind.i64.wrap ((k:Int)-1)=((k-1:Nat):Int):=by rw[Bn (by omega) (by omega)];omega
theorem sle {a b:A9}:(decide (a<b)||a==b)=!decide (b<a):=by
 by_cases h:b<a
 ·have h1:¬ a<b:=om h
  have h2:a≠b:=fun e=>by subst e;exact DB _ h
  simp[h,h1,h2]
 ·by_cases h1:a<b
  ·simp[h,h1]
  ·have:=Xg h1 h
   simp[h,this]
theorem iq {a b:List UInt8}:HZ .leq a b=some (.bool (!decide (b<a))):=by unfold HZ;simp only[IF];rw[<-sle]
theorem jb {a b:List UInt8}:HZ .gtr a b=some (.bool (decide (b<a))):=by unfold HZ;simp only[IF];rw[sle,Bool.not_not]
theorem iB {a b:List UInt8}:HZ .geq a b=some (.bool (!decide (a<b))):=by unfold HZ;simp only[IF]
attribute [push_cast] iq jb iB IF
mutual
def AC (s:List A7):Term->Term
 | .mk n v l=>if v then (Af s n).getD (.mk n true []) else .mk n false (lQ s l)
def lQ (s:List A7):List Term->List Term
 | []=>[]
 | a::l=>AC s a::lQ s l
end
theorem ZV (s:List A7)(l:List Term):lQ s l=l.map (AC s):=by induction l with | nil=>rfl | cons a l ih=>simp[lQ,ih]
theorem Is (s:List A7)(t:Term):AC s t=if t.var then (Af s t.name).getD (.mk t.name true []) else .mk t.name false (t.args.map (AC s)):=by
 cases t with | mk n v l=>simp only[AC,ZV,Term.var,Term.name,Term.args];rfl
theorem UF {s:List A7}{v:A9}{x:Term}(h:Af s v=some x):∃ b∈s,b.name=v/\b.term=x:=by
 induction s with
 | nil=>cases h
 | cons b s ih =>
  simp only[Af]at h
  split at h
  ·rename_i h2;exact⟨b,by simp,h2,by simpa using h⟩
  ·obtain⟨c,hc,h3⟩:=ih h;exact⟨c,by simp[hc],h3⟩
theorem Sy {s:List A7}{v:A9}{x:Term}(h:Af s v=some x):tb x<=Z7 s:=by
 obtain⟨b,hb,_,rfl⟩:=UF h
 have:=wm hb;omega
theorem T9 {f:Term->Term}{m:Nat}:∀ {l:List Term},(∀ a∈l,size (f a)<=size a*m)->Ae (l.map f)<=Ae l*m
 | [],_=>by simp[Ae]
 | a::l,h=>by
  have h1:=h a (by simp)
  have h2:=T9 (l:=l) fun b hb=>h b (by simp[hb])
  simp only[List.map_cons,Ae,Nat.add_mul];omega
theorem na (s:List A7)(t:Term):size (AC s t)<=size t*(1+Z7 s):=by
 induction t using Ai with
 | h t ih =>
  rw[Is]
  have h1:1*(1+Z7 s)<=size t*(1+Z7 s):=Nat.mul_le_mul_right _ (by rw[AJ];omega)
  split
  ·cases hx:Af s t.name with
   | some x=>have:=Sy hx;have:=AX x;simp only[Option.getD_some];omega
   | none=>simp only[Option.getD_none,size,Ae];omega
  ·have:=T9 (f:=AC s) (m:=1+Z7 s) ih
   simp only[size,AJ t,Nat.add_mul];omega
theorem XH (s:List A7)(hs:DO s)(hb:Z7 s<2^40)(t:Term)(ht:tb t<2^40):PF IJ [Bm s,An t] (An (AC s t)):=by
 have hl:=RL s
 induction t using Ai with
 | h t ih =>
 have hI:=SR s t.name hs (by omega)
 have htb:=KX t
 have hlt:=Hp t.args
 refine Ab GU.ok rfl ?_
 cases hv:t.var with
 | true =>
  push_cast[hv]
  refine .of hI ?_
  rw[Is,hv]
  cases hx:Af s t.name with
  | some x =>
   have h1:=Sy hx
   have h2:=AX x
   push_cast[VD]
   refine .of (P4 x (by omega)) ?_
   push_cast
   refine A1 ?_
   push_cast[GU.rs]
   rfl
  | none =>
   push_cast[VD]
   refine A1 ?_
   push_cast[GU.rs]
   rfl
 | false =>
  have he:AC s t=.mk t.name false (t.args.map (AC s)):=by rw[Is,hv];rfl
  rw[he]
  push_cast[hv]
  refine Ac (n:=t.args.length) (R:=fun k=>GU.L3 (Bm s) (.ptr 0 0) (.ptr 1 0) (Bk t.args) (.int .i64 t.args.length) (.int .i64 k) 0
   [.cells A3 [.str [],.bool false,.sl 3 []],.cells A3 [.str t.name,.bool false,Bf cT 2 3 ((t.args.take k).map (AC s))],.arr A3 3 k] _) ?_ ?_ 0 (by omega)
  ·intro k hk ih2
   have hm:=A4 hk
   have htm:=OC hm
   have hlt:((t.args.take k).map (AC s)).length=k:=by simp;omega
   rw[Aa hk,List.map_append]at ih2
   refine A5.2 ?_
   push_cast[BC hk]
   refine .of (ih _ hm (by omega)) ?_
   push_cast[hlt,Uz (show k<2^40 by omega) (show 48<=64 by omega),CD (show k<2^62 by omega)]
   exact ih2
  ·refine A5.2 ?_
   push_cast[AZ (Nat.le_refl _)]
   refine A1 ?_
   push_cast[GU.rs,List.take_length,zO]
theorem nP (s:List A7)(t:Term):(if 4000<size (AC s t)\/200<depth (AC s t) then Hj none 3 else Hj (some (AC s t)) 0)=if BJ (AC s t) then Hj (some (AC s t)) 0 else Hj none 3:=by
 unfold BJ
 by_cases h1:4000<size (AC s t)
 ·rw[if_pos (.inl h1),if_neg (by simp;omega)]
 ·by_cases h2:200<depth (AC s t)
  ·rw[if_pos (.inr h2),if_neg (by simp;omega)]
  ·rw[if_neg (by omega),if_pos (by simp;omega)]
end Go.Dw
section
namespace Go.Dw
theorem Tm {rs:List RV}{t:T}{H:List Ob}{Q:V->List Ob->Prop}{e:X}(k:Nat){x:V}{o:Ob}(h:Uh rs t H=some x)(hk:H[k]?=some o)(hq:Q (ren (Az [k]) x) [A6 (Az [k]) o])
  (he:e=.ret\/e=.fall:=by first | exact .inl rfl | exact .inr rfl):Bo 0 rs Q e t H:=by
 refine SX (B:=0) he [k] (by simp) (fun i hi=>?_) h ?_
 ·simp only[List.mem_singleton]at hi;subst hi;exact (List.getElem?_eq_some_iff.1 hk).1
 ·have:give (List.range 0++[k]) H=[A6 (Az [k]) o]:=by
   simp only[List.range_zero,List.nil_append,give,List.map_cons,List.map_nil,List.getD_eq_getElem?_getD,hk,Option.getD_some]
  rw[this];exact hq
theorem RZ (p:List Int)(hp:p.length<2^40):Spec prog BV [I0 p] [] fun x' H'=>x'=Bf cI 0 1 p/\H'=[.arr F1 1 p.length]:=by
 refine AK mixed CO.ok rfl ?_
 push_cast
 intro c hc
 refine⟨fun h=>?_,fun h=>⟨by rw[List.length_map];unfold Ah;omega,?_⟩⟩
 ·have hp0:p=[]:=by simpa using hc (by cases c<;>simp_all)
  subst hp0
  exact Tm 1 rfl rfl ⟨rfl,rfl⟩
 ·exact Tm 1 rfl rfl ⟨rfl,by simp[A6]⟩
section
variable {α:Type} {H l:List α} {n:Nat} (h:H.length = n)
include h
theorem cU (k:Nat):(H++l)[n+k]?=l[k]?:=by rw[List.getElem?_append_right (by omega)];congr 1;omega
theorem fT:(H++l)[n]?=l[0]?:=cU h 0
theorem df (k:Nat)(x:α):(H++l).set (n+k) x=H++l.set k x:=by rw[List.set_append_right _ _ (by omega)];congr 2;omega
theorem fA (x:α):(H++l).set n x=H++l.set 0 x:=df h 0 x
theorem tD:(H++l).take n=H:=List.take_left' h
end
theorem nX {n:Nat}{H:List Ob}(h:Je n H):H.map (A6 (AM n))=H:=h.2
theorem Rh (n:Nat):Az (List.range n)=AM n:=by
 funext i
 unfold Az AM
 by_cases h:i<n
 ·rw[if_pos h,List.findIdx?_eq_some_iff_getElem]
  refine⟨by simpa using h,by simp,fun j hj=>by simp;omega⟩
 ·rw[if_neg h,List.findIdx?_eq_none_iff]
  intro x hx
  have:=List.mem_range.1 hx
  simp;omega
theorem aI {n:Nat}{H J:List Ob}(h:Je n H):give (List.range n) (H++J)=H:=by
 have h2:=h.2
 unfold give
 rw[Rh]
 conv=>rhs;rw[<-h2]
 apply List.ext_getElem
 ·simp[h.1]
 ·intro i hi1 hi2
  have hi:i<H.length:=by simpa[h.1]using hi1
  simp[List.getD_eq_getElem?_getD,List.getElem?_append_left hi,hi]
theorem jg {n:Nat}{H J H':List Ob}(h:Je n H)(h':Je n H'):takeB (List.range n) (H++J) H'=H'++J:=by
 have hb:∀ i,i<n->C5 (List.range n) (H++J).length i=some i:=fun i hi=>by simp[C5,hi]
 unfold takeB
 rw[List.length_range,List.drop_of_length_le (by rw[h'.1];exact Nat.le_refl _),List.map_nil,List.append_nil,fy h'.2 hb]
 unfold PD
 rw[Rh]
 apply List.ext_getElem
 ·simp[h.1,h'.1]
 ·intro i hi1 hi2
  simp only[List.getElem_map,List.getElem_range]
  unfold AM
  by_cases hi:i<n
  ·have:i<H'.length:=by rw[h'.1];exact hi
   rw[if_pos hi,List.getElem_append_left this]
   simp[List.getD_eq_getElem?_getD,this]
  ·rw[if_neg hi,List.getElem_append_right (by rw[h'.1];omega)]
   have:H.length<=i:=by rw[h.1];omega
   simp only[List.getD_eq_getElem?_getD]
   rw[List.getElem?_append_right this]
   have h3:i-H.length<J.length:=by simp only[List.length_append,h'.1]at hi2;rw[h.1];omega
   simp only[h.1,h'.1]at h3 ⊢
   simp[h3]
section
variable {N:Nat->C} {B:Nat} {s:List K} {t:T} {H:List Ob} {Q:X->T->List Ob->Prop}
theorem kf {d:Option Nat}{l:List S}{F:Fn}{vs vs':List V}{n:Nat}{J:List Ob}{R:V->List Ob->Prop}(h:Je n H)(hvs:AS (AM n) vs=vs')(hs:HC prog F vs' H R)(hR:∀ x H',R x H'->Je n H')
  (k:∀ x H',R x H'->Ax prog N B (.r l::s) (FZ d (ren (C5 (List.range n) (H++J).length) x) t) (H'++J) Q):BD prog N B d l s t Q F vs (H++J):=by
 refine BD.some (List.range n) List.nodup_range (fun i hi=>by have:=List.mem_range.1 hi;rw[List.length_append,h.1];omega) (R:=R) ?_ ?_
 ·rw[aI h,Rh,hvs];exact hs
 ·intro x H' hx _
  rw[jg h (hR x H' hx)]
  exact k x H' hx
end
theorem Ap {rs:List RV}{t:T}{n:Nat}{H J:List Ob}{Q:V->List Ob->Prop}{e:X}{x:V}(h:Je n H)(hr:Uh rs t (H++J)=some x)(hq:Q (ren (AM n) x) H)
  (he:e=.ret\/e=.fall:=by first | exact .inl rfl | exact .inr rfl):Bo n rs Q e t (H++J):=by
 refine SX (B:=n) he [] (by simp[List.nodup_range]) (fun i hi=>by cases hi) hr ?_
 rw[List.append_nil,aI h,Rh];exact hq
mutual
def Aq:Term->List Int->List (List Int×Term)
 | .mk n v l,p=>(p,.mk n v l)::B9 l p 0
def B9:List Term->List Int->Nat->List (List Int×Term)
 | [],_,_=>[]
 | a::l,p,i=>Aq a (p++[(i:Int)])++B9 l p (i+1)
end
theorem Ht (t:Term)(p:List Int):Aq t p=(p,t)::B9 t.args p 0:=by cases t;simp[Aq,Term.args]
theorem Rw (a b:List Term)(p:List Int)(i:Nat):B9 (a++b) p i=B9 a p i++B9 b p (i+a.length):=by
 induction a generalizing i with
 | nil=>simp[B9]
 | cons x xs ih=>simp only[List.cons_append,B9,ih,List.append_assoc,List.length_cons];congr 3;omega
theorem UB {l:List Term}{p:List Int}{k:Nat}(h:k<l.length):B9 (l.take (k+1)) p 0=B9 (l.take k) p 0++Aq (l.getD k default) (p++[(k:Int)]):=by
 rw[Aa h,Rw]
 have:(l.take k).length=k:=by simp;omega
 simp[B9,this]
theorem eN {l:List Term}{p:List Int}{k:Nat}(h:k<l.length):B9 l p 0=B9 (l.take k) p 0++(Aq (l.getD k default) (p++[(k:Int)])++B9 (l.drop (k+1)) p (k+1)):=by
 have h1:l=l.take k++(l.getD k default::l.drop (k+1)):=by rw[<-Ag h,List.take_append_drop]
 have:(l.take k).length=k:=by simp;omega
 conv=>lhs;rw[h1,Rw]
 rw[B9,this,Nat.zero_add]
def KI (x:List Int×Term):List V:=[I0 x.1,An x.2]
theorem AbF {α:Type}{l a b c:List α}{k:Nat}(h:l.drop k=a++(b++c)):l.drop (k+a.length)=b++c:=by
 rw[<-List.drop_drop,h,List.drop_left]
theorem AaR {α:Type}{l b:List α}{a:α}{k:Nat}(h:l.drop k=a::b):l[k]?=some a:=by
 have:=List.getElem?_drop (xs:=l) (i:=k) (j:=0)
 rw[h]at this;simpa using this.symm
theorem ga {F:Fn}{G:Nat->List Ob->Prop}{S:List Ob->Prop}{n:Nat}{its:List (List Int×Term)}(hG:∀ k H,G k H->Je n H)(hS:∀ H,S H->Je n H)
  (hF:∀ k it H,its[k]?=some it->G k H->HC prog F (KI it) H fun x H'=>x=.bool true/\G (k+1) H'\/x=.bool false/\S H') (t:Term) :
  ∀ (p:List Int)(k:Nat) (rest:List (List Int×Term)),its.drop k=Aq t p++rest->p.length+size t<2^40->∀ H,G k H->Spec prog Gt [An t,I0 p,.fn F [] []] H fun x H'=>x=.bool true/\G (k+(Aq t p).length) H'\/x=.bool false/\S H':=by
 induction t using Ai with
 | h t ih =>
 intro p k rest hd hsz H hg
 have hH:=hG _ _ hg
 have hl:=Am t.args
 have hst:=AJ t
 rw[Ht,List.cons_append]at hd
 refine AK mixed Vg.ok rfl ?_
 push_cast
 refine .all (hF k _ H (AaR hd) hg) ?_
 rintro x H1 (⟨rfl,hg1⟩|⟨rfl,hs1⟩)
 case inr =>
  push_cast
  refine DJ (.inl rfl) rfl (.inr ⟨rfl,hs1⟩)
 case inl =>
  have hH1:=hG _ _ hg1
  have hkp:∀ H1,Je n H1->(H1.take H.length).map (A6 (AM H.length))=H1:=fun H1 h=>by rw[hH.1,List.take_of_length_le (Nat.le_of_eq h.1),h.2]
  push_cast[hkp H1 hH1]
  have hd1:its.drop (k+1)=B9 t.args p 0++rest:=by rw[<-List.drop_drop,hd];rfl
  refine Ac (n:=t.args.length) (R:=fun j=>∀ H1,G (k+1+(B9 (t.args.take j) p 0).length) H1->Vg.L3 (I0 p) (.fn F [] []) (Bk t.args) (.int .i64 t.args.length) (.int .i64 j) H.length H1 _) ?_ ?_ 0 (by omega) H1 hg1
  ·intro j hj ih2 H1 hg1
   have hm:=A4 hj
   have hsm:=By hm
   have hH1:=hG _ _ hg1
   have hn:H.length=n:=hH.1
   rw[hn]
   refine A5.2 ?_
   push_cast[BC hj,hH1.1,fT hH1.1,cU hH1.1,df hH1.1,fA hH1.1,CD (show j<2^62 by omega)]
   have hp1:(p++[(j:Int)]).length+size (t.args.getD j default)<2^40:=by rw[List.length_append,List.length_singleton];omega
   have hd2:its.drop (k+1+(B9 (t.args.take j) p 0).length)=Aq (t.args.getD j default) (p++[(j:Int)])++(B9 (t.args.drop (j+1)) p (j+1)++rest):=by
    refine AbF ?_
    rw[hd1,eN hj];simp
   have hw:HC prog (.func Gt) _ _ _:=Bj▸ih _ hm _ _ _ hd2 hp1 H1 hg1
   rw[UB hj,List.length_append]at ih2
   refine⟨?_,?_⟩ <;>
   ·refine UD (RZ p (by omega)) ?_
    push_cast[hH1.1,fT hH1.1,cU hH1.1,df hH1.1,fA hH1.1]
    refine⟨by unfold Ah;omega,?_⟩
    refine kf hH1 (vs':=[An (t.args.getD j default),I0 (p++[(j:Int)]),.fn F [] []]) ?_ hw ?_ ?_
    ·push_cast
     rw[if_neg (by omega)]
     simp[DT,cI]
    ·rintro x H2 (⟨_,h⟩|⟨_,h⟩)
     ·exact hG _ _ h
     ·exact hS _ h
    ·rintro x H2 (⟨rfl,h⟩|⟨rfl,h⟩)
     ·have hH2:=hG _ _ h
      push_cast[CD (show j<2^62 by omega),tD hH2.1,nX hH2]
      have:=ih2 H2 (by rw[<-Nat.add_assoc];exact h)
      rw[hn]at this
      exact this
     ·have hH2:=hS _ h
      push_cast
      exact Ap hH2 rfl (.inr ⟨rfl,h⟩)
  ·intro H1 hg1
   refine A5.2 ?_
   push_cast[AZ (Nat.le_refl _)]
   refine DJ (.inl rfl) rfl (.inl ⟨rfl,?_⟩)
   rw[List.take_length]at hg1
   rw[Ht,List.length_cons,Nat.add_comm _ 1,<-Nat.add_assoc]
   exact hg1
theorem IC (t:Term)(hs:size t<2^40):Yf prog Dh [] [.ro (cT t) 0] ((Aq t []).map KI):=by
 intro F G S n hG hS hF H hg
 have hH:=hG _ _ hg
 refine ON mixed VL.ok rfl ?_
 push_cast
 have hw:=ga (F:=F) (n:=n) (its:=Aq t []) hG hS (fun k it H' hit=>hF k (KI it) H' (by rw[List.getElem?_map,hit];rfl)) t [] 0 [] (by simp) (by simpa using hs) H hg
 have hw:HC prog (.func Gt) _ _ _:=Bj▸hw
 refine BD.all hw ?_
 rintro x H1 (⟨rfl,h⟩|⟨rfl,h⟩)
 ·push_cast
  exact DJ (.inr rfl) rfl (.inl (by rw[Nat.zero_add]at h;rw[List.length_map];exact h))
 ·push_cast
  exact DJ (.inr rfl) rfl (.inr h)
theorem MW (t:Term):PF Ie [An t] (.fn (.func Dh) [] [.ro (cT t) 0]):=by
 refine Ab UO.ok rfl ?_
 push_cast
 exact A1 (by push_cast[UO.rs])
end Go.Dw
end
section
namespace Go.Proofs
open Go.RowKit Go.Shelf Go.Sort
def Tryz.laysSort_ren:Go.Shelf.Ren:=⟨fun | 190=>125 | 125=>182 | 258=>181 | 128=>243 | 129=>244 | 302=>234 | 303=>235 | 304=>236 | 305=>237 | 306=>238 | 307=>239 | 308=>240 | 309=>241 | 310=>242 | 333=>273 | 329=>274 | 330=>275 | 334=>276 | 335=>277 | 336=>278 | 344=>298 | n=>n,fun | 31=>108 | 9=>9 | 3=>3 | 46=>208 | 0=>0 | 51=>252 | 53=>254 | 4=>4 | 183=>246 | 182=>245 | 131=>238 | 5=>5 | 218=>274 | 222=>278 | 228=>296 | 229=>117 | n=>n,fun | n=>n⟩
theorem Tryz.laysSort:Go.Proofs.Lays.n190 Tryz.prog Tryz.laysSort_ren:={
 mixed:=by kernel_rfl
 f125:=Tryz.func182.trans (congrArg some (by kernel_rfl))
 f128:=Tryz.func243.trans (congrArg some (by kernel_rfl))
 f129:=Tryz.func244.trans (congrArg some (by kernel_rfl))
 f190:=Tryz.func125.trans (congrArg some (by kernel_rfl))
 f258:=Tryz.func181.trans (congrArg some (by kernel_rfl))
 f302:=Tryz.func234.trans (congrArg some (by kernel_rfl))
 f303:=Tryz.func235.trans (congrArg some (by kernel_rfl))
 f304:=Tryz.func236.trans (congrArg some (by kernel_rfl))
 f305:=Tryz.func237.trans (congrArg some (by kernel_rfl))
 f306:=Tryz.func238.trans (congrArg some (by kernel_rfl))
 f307:=Tryz.func239.trans (congrArg some (by kernel_rfl))
 f308:=Tryz.func240.trans (congrArg some (by kernel_rfl))
 f309:=Tryz.func241.trans (congrArg some (by kernel_rfl))
 f310:=Tryz.func242.trans (congrArg some (by kernel_rfl))
 f329:=Tryz.func274.trans (congrArg some (by kernel_rfl))
 f330:=Tryz.func275.trans (congrArg some (by kernel_rfl))
 f333:=Tryz.func273.trans (congrArg some (by kernel_rfl))
 f334:=Tryz.func276.trans (congrArg some (by kernel_rfl))
 f335:=Tryz.func277.trans (congrArg some (by kernel_rfl))
 f336:=Tryz.func278.trans (congrArg some (by kernel_rfl))
 f344:=Tryz.func298.trans (congrArg some (by kernel_rfl))
 t0:=Tryz.underlying0
 a0:=Tryz.isAgg0
 z0:=Tryz.sizeOf0
 v0:=Tryz.zeroValue0
 t3:=Tryz.underlying3
 a3:=Tryz.isAgg3
 z3:=Tryz.sizeOf3
 v3:=Tryz.zeroValue3
 t4:=Tryz.underlying4
 a4:=Tryz.isAgg4
 z4:=Tryz.sizeOf4
 v4:=Tryz.zeroValue4
 t5:=Tryz.underlying5
 a5:=Tryz.isAgg5
 z5:=Tryz.sizeOf5
 v5:=Tryz.zeroValue5
 t9:=Tryz.underlying9
 a9:=Tryz.isAgg9
 z9:=Tryz.sizeOf9
 v9:=Tryz.zeroValue9
 t31:=Tryz.underlying108
 a31:=Tryz.isAgg108
 z31:=Tryz.sizeOf108
 v31:=Tryz.zeroValue108
 t46:=Tryz.underlying208
 a46:=Tryz.isAgg208
 z46:=Tryz.sizeOf208
 v46:=Tryz.zeroValue208
 t51:=Tryz.underlying252
 a51:=Tryz.isAgg252
 z51:=Tryz.sizeOf252
 v51:=Tryz.zeroValue252
 t53:=Tryz.underlying254
 a53:=Tryz.isAgg254
 z53:=Tryz.sizeOf254
 v53:=Tryz.zeroValue254
 t131:=Tryz.underlying238
 a131:=Tryz.isAgg238
 z131:=Tryz.sizeOf238
 v131:=Tryz.zeroValue238
 t182:=Tryz.underlying245
 a182:=Tryz.isAgg245
 z182:=Tryz.sizeOf245
 v182:=Tryz.zeroValue245
 t183:=Tryz.underlying246
 a183:=Tryz.isAgg246
 z183:=Tryz.sizeOf246
 v183:=Tryz.zeroValue246
 t218:=Tryz.underlying274
 a218:=Tryz.isAgg274
 z218:=Tryz.sizeOf274
 v218:=Tryz.zeroValue274
 t222:=Tryz.underlying278
 a222:=Tryz.isAgg278
 z222:=Tryz.sizeOf278
 v222:=Tryz.zeroValue278
 t228:=Tryz.underlying296
 a228:=Tryz.isAgg296
 z228:=Tryz.sizeOf296
 v228:=Tryz.zeroValue296
 t229:=Tryz.underlying117
 a229:=Tryz.isAgg117
 z229:=Tryz.sizeOf117
 v229:=Tryz.zeroValue117 }
theorem Tryz.sort_num:Tryz.laysSort_ren.f 190=Go.Dw.n_slices_Sort_s_string_string:=by kernel_rfl
theorem Tryz.sort_in (args:Array Value)(w:World):(callFunc Go.Dw.n_slices_Sort_s_string_string args).run Tryz.prog w=.ok (.enter Go.Dw.n_slices_Sort_s_string_string args) w:=by
 have:=enters_of (P:=Tryz.prog) Tryz.laysSort.f190 (by kernel_rfl) rfl args w
 rw[Tryz.sort_num]at this
 exact this
abbrev sortS (l:List (List UInt8)):List (List UInt8):=l.mergeSort fun x y=>decide (x<=y)
theorem Tryz.sort_c (blk off cap:Nat)(zs:List (List UInt8))(w:World)(hH:Holds encStr w blk off zs.toArray)(hblk:blk<w.heap.size)(hsz:zs.length<4611686018427387904) :
  Calls Tryz.prog Go.Dw.n_slices_Sort_s_string_string #[.slice (some ⟨blk,off,none⟩) zs.length cap] w fun e w' =>
   e=.returned (.tuple #[])/\∃ n os,w'=grow (putRow encStr (Sort.ahead w n) blk off (sortS zs).toArray) os:=by
 have:=calls_of_every_depth fun D=>AnyS.slices_Sort_string_alone Tryz.laysSort D blk off cap zs w hH hblk hsz
 rw[Tryz.sort_num]at this
 exact this
theorem Tryz.sort_n (cap:Nat)(w:World):Calls Tryz.prog Go.Dw.n_slices_Sort_s_string_string #[.slice none 0 cap] w fun e w'=>e=.returned (.tuple #[])/\w'=w:=by
 have:=calls_of_every_depth fun D=>AnyS.slices_Sort_string_none_alone Tryz.laysSort D none cap w
 rw[Tryz.sort_num]at this
 exact this
end Go.Proofs
namespace Go.Dw
open Go.Proofs Go.Sort
theorem gb (l:List (List UInt8)):Spec prog n_slices_Sort_s_string_string [.rw 0 1 l.length] [.row Cf 1 (l.map fun s=>[V.str s])] fun x H'=>x=.tup []/\H'=[.row Cf 1 ((sortS l).map fun s=>[V.str s])]:=by
 intro c vs hH hc hr
 obtain⟨v,vs',rfl,h1,h2⟩:=hr
 have h2:vs'=[]:=h2
 subst h2
 left
 have h0:c.H[0]?=some (.row Cf 1 (l.map fun s=>[V.str s])):=by rw[hH];rfl
 obtain⟨q1,q2⟩:=hc.obj 0 _ h0
 obtain⟨p1,⟨a,k,p2,p3,p4⟩,p5⟩:=h1
 have hcur:=(p5 _ _ _ h0).2.2 (by simp)
 have hperm:(sortS l).length=l.length:=(List.mergeSort_perm l _).length_eq
 refine⟨Tryz.sort_in _ _,?_⟩
 cases hρ:c.ρ 0 with
 | none =>
  have hl:l=[]:=by simpa using q1 hρ
  subst hl
  rw[hρ]at hcur
  have hcur:v=.slice none 0 0:=hcur
  subst hcur
  refine (Tryz.sort_n 0 c.w).mono ?_
  rintro e w' ⟨rfl,rfl⟩
  exact⟨_,.tup [],c,rfl,rfl,⟨rfl,by rw[hH];simp⟩,hc,⟨#[],rfl,rfl⟩,.refl c⟩
 | some bk =>
  obtain⟨b,m⟩:=bk
  rw[hρ]at hcur
  have hcur:v=.slice (some ⟨b,0,none⟩) l.length m:=hcur
  subst hcur
  obtain⟨vs,r1,r2,r3,r4,r5,r6⟩:=q2 b m hρ
  have hblt:b<c.w.heap.size:=(Array.getElem?_eq_some_iff.1 r1).1
  have hcell:∀ j (s:List UInt8),l[j]?=some s->vs[j]?=some (encStr s):=fun j s hj=>by
   obtain⟨_,hx⟩:=r6 j [V.str s] (by rw[List.getElem?_map,hj];rfl)
   obtain⟨v,e1,_,e3⟩:=hx 0 _ rfl
   have e3:v=.string ⟨⟨s⟩⟩:=e3
   rw[Nat.mul_one,Nat.add_zero]at e1
   rw[e1,e3]
  have hHolds:Holds encStr c.w b 0 l.toArray:=fun j hj=>by
   have hj:j<l.length:=by simpa using hj
   have hg:l[j]?=some l[j]:=by simp[hj]
   have:=hcell j _ hg
   have hgd:l.toArray[j]! = l[j]:=by simp[hj]
   refine⟨?_,?_⟩
   ·simp only[World.cell?,r1,Nat.zero_add,hgd]
    exact this
   ·simp[World.frozen?,r1]
  refine (Tryz.sort_c b 0 m l c.w hHolds hblt (by unfold Ah at p3;omega)).mono ?_
  rintro e w' ⟨rfl,n,os,rfl⟩
  generalize hso:sortS l=so at hperm
  generalize hw':grow (putRow encStr (Sort.ahead c.w n) b 0 so.toArray) os=w'
  have hsz:w'.heap.size=c.w.heap.size+os.size:=by subst hw';simp[grow,putRow,mapBlock,Sort.ahead]
  have hoth:∀ b',b'<c.w.heap.size->b'≠b->w'.heap[b']?=c.w.heap[b']?:=fun b' h1 h2=>by
   subst hw'
   simp only[grow,putRow,mapBlock,Sort.ahead]
   rw[Array.getElem?_append_left (by simpa using h1),Array.getElem?_modify,if_neg (Ne.symm h2)]
  have hsame:w'.heap[b]?=some (.cells (putCells encStr 0 so.toArray vs) Cf (0,0)):=by
   subst hw'
   simp only[grow,putRow,mapBlock,Sort.ahead]
   rw[Array.getElem?_append_left (by simpa using hblt),Array.getElem?_modify,if_pos rfl,r1]
   rfl
  have howns:∀ b',c.owns b'↔b'=b:=fun b'=>by
   constructor
   ·rintro ⟨i,k',h1,h2⟩
    have:i=0:=by rw[hH]at h1;simpa using h1
    subst this
    rw[hρ]at h2;cases h2;rfl
   ·rintro rfl;exact⟨0,m,p1,hρ⟩
  refine⟨_,.tup [],⟨w',c.ok,c.ρ,[.row Cf 1 (so.map fun s=>[V.str s])]⟩,rfl,rfl,⟨rfl,rfl⟩,?_,⟨#[],rfl,rfl⟩,?_⟩
  ·refine⟨fun i j b1 k1 k2 h1 h2 _ _=>?_,fun b' o h=>?_,fun i o hi=>?_,hc.glob.keep (fun b' hb hno=>hoth b' hb fun e=>hno ((howns b').2 e)) fun b' ⟨i,k',h1,h2⟩=>.inl ⟨i,k',by rw[hH];exact h1,h2⟩⟩
   ·simp only[List.length_singleton]at h1 h2;omega
   ·have:=hc.okLt _ _ h;show b'<w'.heap.size;omega
   ·cases i with
    | succ i=>simp at hi
    | zero =>
     simp only[List.getElem?_cons_zero,Option.some.injEq]at hi
     subst hi
     refine⟨fun h=>?_,fun b' k' h=>?_⟩
     ·have h:c.ρ 0=none:=h
      rw[hρ]at h;cases h
     ·have h:c.ρ 0=some (b',k'):=h
      rw[hρ]at h;cases h
      refine⟨putCells encStr 0 so.toArray vs,hsame,by simpa[putCells]using r2,by simpa[hperm]using r3,r4,r5,fun i el hi=>?_⟩
      rw[List.getElem?_map]at hi
      cases hs:so[i]? with
      | none=>rw[hs]at hi;cases hi
      | some s =>
       rw[hs]at hi;cases hi
       refine⟨rfl,fun j x hx=>?_⟩
       cases j with
       | succ j=>simp at hx
       | zero =>
        simp only[List.getElem?_cons_zero,Option.some.injEq]at hx
        subst hx
        have hil:i<so.length:=(List.getElem?_eq_some_iff.1 hs).1
        have hsi:so[i]=s:=(List.getElem?_eq_some_iff.1 hs).2
        have hiv:i<vs.size:=by rw[List.length_map]at r3;omega
        refine⟨encStr s,?_,rfl,rfl⟩
        rw[Nat.mul_one,Nat.add_zero]
        simp only[putCells,Array.getElem?_mapIdx,Array.getElem?_eq_getElem hiv,Option.map_some]
        rw[if_pos (by simpa using hil)]
        simp[hil,hsi]
  ·refine⟨fun _ _ h=>h,fun b' o h=>?_,by show c.w.heap.size<=w'.heap.size;omega,fun _ _ h=>.inl h,fun b' hb hno=>hoth b' hb (fun e=>hno ((howns b').2 e)),fun b' hb=>.inl ?_,fun j o hj=>?_,?_,?_,?_,?_⟩
   ·have hne:b'≠b:=fun e=>r5 o (e▸h)
    simp only[World.cell?]
    rw[hoth b' (hc.okLt _ _ h) hne]
   ·obtain⟨i,k',h1,h2⟩:=hb
    exact⟨i,k',by rw[hH];exact h1,h2⟩
   ·rw[hH]at hj
    cases j with
    | succ j=>simp at hj
    | zero =>
     simp only[List.getElem?_cons_zero,Option.some.injEq]at hj
     subst hj
     exact⟨_,rfl,rfl,rfl,by simp[hperm],fun _=>rfl⟩
   ·subst hw';rfl
   ·subst hw';rfl
   ·subst hw';rfl
   ·subst hw';exact Nat.le_add_right _ _
end Go.Dw
end
section
namespace Go.Dw
open Go.Proofs (sortS)
theorem QT {σ:Nat->Option Nat}{l:List A9}:(l.map fun s=>[V.str s]).map (AS σ)=l.map fun s=>[V.str s]:=by rw[List.map_map];rfl
attribute [push_cast] QT
theorem qh (a b c d o:Ob):takeB [2] [a,b,c,d] [o]=[a,b,A6 (C5 [2] 4) o,d]:=rfl
theorem tS (a b c d:Ob):give [2] [a,b,c,d]=[A6 (Az [2]) c]:=rfl
def Wo (ks:List A9)(n:A9):List A9:=if n∈ks then ks else ks++[n]
def J3 (ks:List A9):List (V×V):=ks.map fun k=>(.str k,.bool true)
theorem ox {σ:Nat->Option Nat}{ks:List A9}:((J3 ks).map fun p=>(ren σ p.1,ren σ p.2))=J3 ks:=by
 unfold J3;rw[List.map_map];rfl
attribute [push_cast] ox
theorem VR (n:A9):∀ (ks:List A9)(i:Nat),Gv (.str n) (J3 ks) i=some (if n∈ks then some (i+ks.idxOf n,.bool true) else none)
 | [],i=>by simp[Gv,J3]
 | k::ks,i=>by
  have ih:=VR n ks (i+1)
  unfold J3 at ih ⊢
  by_cases h:k=n
  ·subst h;simp[Gv,Id]
  ·have h':n≠k:=fun e=>h e.symm
   have e:Id (.str n) (.str k)=some false:=by simp[Id,h']
   have hb:(k==n)=false:=by simp[h]
   simp only[List.map_cons,Gv,e,ih,List.mem_cons,h',false_or,List.idxOf_cons,hb,cond_false]
   split
   ·congr 3;omega
   ·rfl
theorem iZ (n:A9)(ks:List A9):XR (.str n) (.bool true) (J3 ks)=some (J3 (Wo ks n)):=by
 unfold XR
 rw[VR]
 unfold Wo
 by_cases h:n∈ks
 ·simp only[h,if_true]
  congr 1
  unfold J3
  apply List.ext_getElem (by simp)
  intro i h1 h2
  rw[List.getElem_set]
  split
  ·rename_i e
   subst e
   simp[List.getElem_idxOf]
  ·rfl
 ·simp only[h,if_false]
  simp[J3]
def Gb (l:List (List Int×Term)):List A9:=(l.filter fun x=>x.2.var).map fun x=>x.2.name
def Rl (ks:List A9)(l:List (List Int×Term)):List A9:=(Gb l).foldl Wo ks
def I7 (ks:List A9)(l:List Term):List A9:=l.foldl (fun ks t=>Rl ks (Aq t [])) ks
def AA (l:List Term):List A9:=sortS (I7 [] l)
mutual
theorem Nz:∀ (t:Term)(p:List Int),(Aq t p).length=size t
 | .mk n v l,p=>by simp only[Aq,size,List.length_cons,Xy l p 0];omega
theorem Xy:∀ (l:List Term)(p:List Int)(i:Nat),(B9 l p i).length=Ae l
 | [],p,i=>rfl
 | a::l,p,i=>by simp only[B9,Ae,List.length_append,Nz a,Xy l]
end
theorem uD (ks:List A9)(n:A9):(Wo ks n).length<=ks.length+1:=by unfold Wo;split<;>simp
theorem Qv:∀ (l:List A9)(ks:List A9),(l.foldl Wo ks).length<=ks.length+l.length
 | [],ks=>by simp
 | n::l,ks=>by have:=Qv l (Wo ks n);have:=uD ks n;simp only[List.foldl_cons,List.length_cons];omega
theorem qP (ks:List A9)(l:List (List Int×Term)):(Rl ks l).length<=ks.length+l.length:=by
 have h1:=Qv (Gb l) ks
 have h2:(Gb l).length<=l.length:=by unfold Gb;rw[List.length_map];exact List.length_filter_le _ _
 unfold Rl;omega
theorem Ue:∀ (l:List Term)(ks:List A9),(I7 ks l).length<=ks.length+Ae l
 | [],ks=>by simp[I7,Ae]
 | t::l,ks=>by
  have h1:=Ue l (Rl ks (Aq t []))
  have h2:=qP ks (Aq t [])
  rw[Nz]at h2
  simp only[I7,List.foldl_cons,Ae]at h1 ⊢;omega
theorem EH (l:List Term)(hs:Ae l<2^40):PF Di [Bk l] (Bw (AA l)):=by
 have hl:=Am l
 refine Ab GO.ok rfl ?_
 push_cast
 refine Ac (n:=l.length) (R:=fun k=>GO.L8 (.ptr 1 0) .any (Bk l) (.int .i64 l.length) (.int .i64 k) 0 [.map (J3 (I7 [] (l.take k))),.cells DC [.map 0]] _) ?_ ?_ 0 (by omega)
 ·intro k hk ih
  have hm:=A4 hk
  have hsm:=By hm
  refine A5.2 ?_
  push_cast[BC hk]
  refine .of (MW _) ?_
  push_cast
  have hks:I7 [] (l.take (k+1))=Rl (I7 [] (l.take k)) (Aq (l.getD k default) []):=by rw[Aa hk];simp[I7]
  rw[hks]at ih
  generalize I7 [] (l.take k)=ks at ih ⊢
  generalize l.getD k default=u at ih hsm ⊢
  refine Ax.rf Dh [] [.ro (cT u) 0] ((Aq u []).map KI) (fun j H1=>H1=[.map (J3 (Rl ks ((Aq u []).take j))),.cells DC [.map 0],.dead]) (fun _ _=>False) rfl (IC u (by omega)) ?_ (by simp[Rl,Gb]) ?_ ?_ (fun _ _ h=>h.elim) ?_ ?_ (fun _ _ h=>h.elim)
  ·intro it hit
   obtain⟨x,_,rfl⟩:=List.mem_map.1 hit
   rfl
  ·push_cast
  ·rintro j H1 rfl
   refine⟨rfl,?_⟩
   push_cast
  ·rintro lo r j it H1 hit rfl
   rw[List.getElem?_map]at hit
   cases hx:(Aq u [])[j]? with
   | none=>rw[hx]at hit;cases hit
   | some x =>
   rw[hx]at hit
   have hit:it=KI x:=by simpa using hit.symm
   subst hit
   have hj:j<(Aq u []).length:=(List.getElem?_eq_some_iff.1 hx).1
   have hxj:(Aq u [])[j]=x:=(List.getElem?_eq_some_iff.1 hx).2
   have htk:(Aq u []).take (j+1)=(Aq u []).take j++[x]:=by rw[List.take_succ_eq_append_getElem hj,hxj]
   push_cast[Q5,KI]
   refine A5.2 ?_
   cases hv:x.2.var with
   | false =>
    have hvs:Rl ks ((Aq u []).take (j+1))=Rl ks ((Aq u []).take j):=by rw[htk];simp[Rl,Gb,hv]
    push_cast[hv]
    refine⟨rfl,?_⟩
    push_cast[cut,hvs]
   | true =>
    have hvs:Rl ks ((Aq u []).take (j+1))=Wo (Rl ks ((Aq u []).take j)) x.2.name:=by rw[htk];simp[Rl,Gb,hv]
    push_cast[hv,iZ,kQ]
    refine⟨rfl,?_⟩
    push_cast[cut,hvs]
  ·rintro H1 rfl
   push_cast[CD (show k<2^62 by omega)]
   have:(Aq u []).take ((Aq u []).map KI).length=Aq u []:=by rw[List.length_map,List.take_length]
   rw[this]
   exact ih
 ·refine A5.2 ?_
  push_cast[AZ (Nat.le_refl _)]
  unfold AA
  rw[List.take_length]
  have hkl:=Ue l []
  generalize I7 [] l=ks at hkl ⊢
  simp only[List.length_nil,Nat.zero_add]at hkl
  have hlen:(J3 ks).length=ks.length:=by unfold J3;rw[List.length_map]
  rw[hlen]
  have fin:∀ (seen:List Nat),seen.Nodup->(∀ i∈seen,i<ks.length)->(∀ k,k<ks.length->k∈seen)->sortS (seen.map fun i=>ks.getD i [])=sortS ks:=fun seen h1 h2 h3=>by
   refine Go.mergeSort_of_perm ?_
   have hp:seen.Perm (List.range ks.length):=(List.perm_ext_iff_of_nodup h1 List.nodup_range).2 fun i=>by rw[List.mem_range];exact⟨h2 i,h3 i⟩
   have he:(List.range ks.length).map (fun i=>ks.getD i [])=ks:=by
    apply List.ext_getElem (by simp)
    intro i a b
    have hi:i<ks.length:=by simpa using b
    simp[List.getD_eq_getElem?_getD,hi]
   have:=hp.map fun i=>ks.getD i []
   rw[he]at this
   exact this
  have key:∀ (m:Nat)(seen:List Nat),ks.length-seen.length<=m->seen.Nodup->(∀ i∈seen,i<ks.length)->GO.L3 (.rw 2 1 seen.length) (.it 3) 0
    [.map (J3 ks),.cells DC [.map 0],.row Cf 1 ((seen.map fun i=>ks.getD i []).map fun s=>[V.str s]),.iter (some 0) ks.length seen]
    (Bo 0 GO.rs fun x' H'=>x'=Bw (sortS ks)/\H'=[]):=by
   intro m
   induction m with
   | zero =>
    intro seen hm hnd hlt
    refine A5.2 ?_
    push_cast
    refine ck 0 ks.length seen (J3 ks) rfl rfl hlen.symm (fun hall=>?_) (fun k p hp hk=>?_)
    ·have hsl:(seen.map fun i=>ks.getD i []).length=seen.length:=by simp
     have hc:=gb (seen.map fun i=>ks.getD i [])
     have hso:(sortS (seen.map fun i=>ks.getD i [])).length=seen.length:=by rw[(List.mergeSort_perm _ _).length_eq,hsl]
     rw[hsl,fin seen hnd hlt hall]at hc
     rw[fin seen hnd hlt hall]at hso
     push_cast
     refine BD.some [2] (by simp) (by simp) (R:=fun x H'=>x=.tup []/\H'=[.row Cf 1 ((sortS ks).map fun s=>[V.str s])]) (by rw[tS,Jv,QT];exact hc) ?_
     rintro x H' ⟨rfl,rfl⟩ _
     rw[qh]
     push_cast
     refine⟨by rw[List.length_map];exact hso,A1 ?_⟩
     push_cast[GO.rs]
     rfl
    ·have:(seen++[k]).length<=(List.range ks.length).length:=List.Nodup.length_le_of_subset (by simp[List.nodup_append,hnd];intro a ha e;exact hk (e▸ha)) (by
      intro i hi
      rw[List.mem_range]
      rcases List.mem_append.1 hi with h | h
      ·exact hlt i h
      ·simp only[List.mem_singleton]at h;subst h;rw[<-hlen];exact (List.getElem?_eq_some_iff.1 hp).1)
     simp at this;omega
   | succ m ih =>
    intro seen hm hnd hlt
    refine A5.2 ?_
    push_cast
    refine ck 0 ks.length seen (J3 ks) rfl rfl hlen.symm (fun hall=>?_) (fun k p hp hk=>?_)
    ·have hsl:(seen.map fun i=>ks.getD i []).length=seen.length:=by simp
     have hc:=gb (seen.map fun i=>ks.getD i [])
     have hso:(sortS (seen.map fun i=>ks.getD i [])).length=seen.length:=by rw[(List.mergeSort_perm _ _).length_eq,hsl]
     rw[hsl,fin seen hnd hlt hall]at hc
     rw[fin seen hnd hlt hall]at hso
     push_cast
     refine BD.some [2] (by simp) (by simp) (R:=fun x H'=>x=.tup []/\H'=[.row Cf 1 ((sortS ks).map fun s=>[V.str s])]) (by rw[tS,Jv,QT];exact hc) ?_
     rintro x H' ⟨rfl,rfl⟩ _
     rw[qh]
     push_cast
     refine⟨by rw[List.length_map];exact hso,A1 ?_⟩
     push_cast[GO.rs]
     rfl
    ·have hkl:k<ks.length:=by rw[<-hlen];exact (List.getElem?_eq_some_iff.1 hp).1
     have hpe:p=(.str (ks.getD k []),.bool true):=by
      unfold J3 at hp
      rw[List.getElem?_map]at hp
      simp[hkl]at hp
      rw[<-hp];simp[List.getD_eq_getElem?_getD,hkl]
     have hen:∀ a b,xB [.map (J3 ks),a,b,.iter (some 0) ks.length (seen++[k])] (.it 3)=some (.tup [p.1,p.2]):=fun a b=>by
      simp[xB,hlen,hp]
     subst hpe
     push_cast[hen]
     refine⟨?_,?_⟩
     ·have:(seen.map fun i=>ks.getD i []).length=seen.length:=by simp
      have h2:seen.length<=ks.length:=by simpa using List.Nodup.length_le_of_subset hnd (l₂:=List.range ks.length) fun i hi=>List.mem_range.2 (hlt i hi)
      exact⟨by simp,Uz (n:=seen.length) (b:=16) (by omega) (by omega)⟩
     ·have hnd2:(seen++[k]).Nodup:=by simp[List.nodup_append,hnd];intro a ha e;exact hk (e▸ha)
      have hlt2:∀ i∈seen++[k],i<ks.length:=fun i hi=>by
       rcases List.mem_append.1 hi with h | h
       ·exact hlt i h
       ·simp only[List.mem_singleton]at h;subst h;exact hkl
      have:=ih (seen++[k]) (by simp;omega) hnd2 hlt2
      simp only[List.map_append,List.map_cons,List.map_nil,List.length_append,List.length_singleton]at this
      rw[List.map_append,QT]
      exact this
  exact key ks.length [] (by simp) List.nodup_nil (by simp)
end Go.Dw
end
section
namespace Go.Dw
open Go.Proofs (sortS)
def KJ:List A2->Nat
 | []=>0
 | x::r=>1+tb x.left+tb x.right+KJ r
theorem Gi {r:List A2}{x:A2}(h:x∈r):1+tb x.left+tb x.right<=KJ r:=by
 induction r with
 | nil=>cases h
 | cons y ys ih=>rcases List.mem_cons.1 h with rfl | h<;>simp[KJ];have:=ih h;omega
theorem Bl (r:List A2):r.length<=KJ r:=by
 induction r with
 | nil=>simp
 | cons x xs ih=>simp only[KJ,List.length_cons];omega
section
variable (r:A2)
theorem AeS:(cR r)[0]?=some (.str r.left.name):=rfl
theorem AeL:(cR r)[1]?=some (.bool r.left.var):=rfl
theorem Afa:(cR r)[2]?=some (Bk r.left.args):=by show some (V.sl 3 (iW r.left))=_;rw[dw];rfl
theorem Ae4:(cR r)[3]?=some (.str r.right.name):=rfl
theorem AeC:(cR r)[4]?=some (.bool r.right.var):=rfl
theorem AeP:(cR r)[5]?=some (Bk r.right.args):=by show some (V.sl 3 (iW r.right))=_;rw[dw];rfl
end
attribute [push_cast] AeS AeL Afa Ae4 AeC AeP
def Dx:List A2->Int
 | []=>0
 | x::r=>if Jt [x.left,x.right]≠0 then Jt [x.left,x.right] else Dx r
def Bt (r:List A2):Int:=if 64<r.length then 3 else Dx r
theorem ZS (a b:Term):(.sl 3 [cT a,cT b]:V)=Bk [a,b]:=rfl
theorem Tx (r:List A2)(hs:KJ r<2^61):PF IY [Al r] (.int .i64 (Bt r)):=by
 have hl:=Bl r
 refine Ab El.ok rfl ?_
 by_cases h64:64<r.length
 ·have hi:((64:Int)<(r.length:Int))=True:=eq_true (by omega)
  push_cast[hi]
  refine A1 ?_
  push_cast[El.rs,Bt,h64]
 ·have hi:((64:Int)<(r.length:Int))=False:=eq_false (by omega)
  push_cast[hi,Bt,h64]
  refine Ac (n:=r.length) (R:=fun k=>Dx (r.drop k)=Dx r->El.L3 (Al r) (.int .i64 r.length) (.int .i64 k) 0 [] _) ?_ ?_ 0 (by omega) rfl
  ·intro k hk ih hq
   have hm:=Gi (A4 hk)
   refine A5.2 ?_
   rw[Ag hk]at hq
   simp only[Dx]at hq
   generalize hx:r.getD k default=x at hm hq
   have hA:=kp [x.left,x.right] (by simp) (by simp;omega)
   push_cast[BC hk,hx]
   refine .of hA ?_
   push_cast[CD (show k<2^62 by omega)]
   refine⟨fun h=>A1 ?_,fun h=>ih ?_⟩
   ·push_cast[El.rs]
    rw[<-hq,if_pos h]
   ·rw[<-hq,if_neg h]
  ·intro hq
   refine A5.2 ?_
   push_cast[AZ (Nat.le_refl _)]
   refine A1 ?_
   push_cast[El.rs]
   rw[<-hq,Ak];rfl
theorem FA (l:List A9)(v:A9)(hl:l.length<2^62):PF AY [Bw l,.str v] (.int .i64 (Ld (fun x=>decide (v=x)) l)):=by
 refine Ab BL.ok rfl ?_
 push_cast
 refine Ac (n:=l.length) (R:=fun k=>(∀ j,j<k->decide (v=l.getD j default)=false)->BL.L3 (Bw l) (.str v) (.int .i64 l.length) (.int .i64 k) 0 [] _) ?_ ?_ 0 (by omega) (by intro j hj;omega)
 ·intro k hk ih hq
  refine A5.2 ?_
  push_cast[BC hk,CD (show k<2^62 by omega)]
  refine⟨fun hp=>A1 ?_,fun hp=>?_⟩
  ·push_cast[BL.rs]
   rw[Hc hk (by simpa using hp) hq]
  ·refine ih fun j hj=>?_
   rcases Nat.lt_succ_iff_lt_or_eq.1 hj with h | rfl
   ·exact hq j h
   ·simpa using hp
 ·intro hq
  refine A5.2 ?_
  push_cast[AZ (Nat.le_refl _)]
  refine A1 ?_
  push_cast[BL.rs]
  rw[Ij hq]
theorem Pw (l:List A9)(v:A9)(hl:l.length<2^62):PF CE [Bw l,.str v] (.bool (decide (v∈l))):=by
 refine Ab CY.ok rfl ?_
 push_cast
 refine .of (FA l v hl) ?_
 push_cast
 refine A1 ?_
 push_cast[CY.rs,NF]
 rw[Bool.eq_iff_iff];simp
def Mc (x:A2):Bool:=x.left.var||(AA [x.right]).any fun v=>!decide (v∈AA [x.left])
theorem GJ (l:List Term):(AA l).length<=Ae l:=by
 have:=Ue l []
 unfold AA;rw[(List.mergeSort_perm _ _).length_eq];simpa using this
theorem dl (x:A2)(hs:tb x.left+tb x.right<2^39):PF Le [Kn x] (.bool (Mc x)):=by
 have h1:=AX x.left
 have h2:=AX x.right
 have e1:∀ t,Ae [t]=size t:=fun t=>by simp[Ae]
 have hv:=GJ [x.left]
 have hv2:=GJ [x.right]
 rw[e1]at hv hv2
 have hL:=EH [x.left] (by rw[e1];omega)
 have hR:=EH [x.right] (by rw[e1];omega)
 refine Ab Oy.ok rfl ?_
 push_cast
 refine .of hL ?_
 cases hvar:x.left.var with
 | true =>
  push_cast[hvar]
  refine A1 ?_
  push_cast[Oy.rs,Mc,hvar]
  rfl
 | false =>
  push_cast[hvar]
  refine .of hR ?_
  push_cast
  refine .of (Dr (p:=fun v=>!decide (v∈AA [x.left])) (caps:=[.ro [Bw (AA [x.left])] 0]) (fun _=>rfl) _ (by omega) fun v hv=>?_) ?_
  ·refine Ab OG.ok rfl ?_
   push_cast
   refine .of (Pw _ _ (by omega)) ?_
   push_cast
   exact A1 (by push_cast[OG.rs])
  ·push_cast
   refine A1 ?_
   push_cast[Oy.rs,Mc,hvar]
   rfl
end Go.Dw
end
namespace Go.Dw
abbrev TD:=List (A9×Nat)
def Mi:TD->A9->Option Nat
 | [],_=>none
 | p::m,n=>if p.1=n then some p.2 else Mi m n
def Dc (m:TD)(u:Term):Option TD:=if u.var then some m else match Mi m u.name with
 | some n=>if n=u.args.length then some m else none
 | none=>some (m++[(u.name,u.args.length)])
def Dt (m:TD):List (List Int×Term)->Option TD
 | []=>some m
 | x::l=>(Dc m x.2).bind fun m'=>Dt m' l
def CN (m:TD):List A2->Option TD
 | []=>some m
 | x::r=>(Dt m (Aq x.left [])).bind fun m1=>(Dt m1 (Aq x.right [])).bind fun m2=>CN m2 r
theorem KM:∀ (a b:List (List Int×Term)) (m:TD),Dt m (a++b)=(Dt m a).bind fun m'=>Dt m' b
 | [],b,m=>rfl
 | x::a,b,m=>by simp only[List.cons_append,Dt];cases Dc m x.2<;>simp[KM a b]
def Fi (m:TD):List (V×V):=m.map fun p=>(.str p.1,.int .i64 p.2)
theorem ol {σ:Nat->Option Nat}{m:TD}:((Fi m).map fun p=>(ren σ p.1,ren σ p.2))=Fi m:=by
 unfold Fi;rw[List.map_map];rfl
attribute [push_cast] ol
theorem PG (n:A9):∀ (m:TD)(i:Nat),match Mi m n with
  | none=>Gv (.str n) (Fi m) i=some none
  | some a=>∃ j,Gv (.str n) (Fi m) i=some (some (i+j,.int .i64 a))/\(Fi m)[j]?=some (.str n,.int .i64 a)
 | [],i=>rfl
 | p::m,i=>by
  have ih:=PG n m (i+1)
  unfold Mi
  by_cases h:p.1=n
  ·rw[if_pos h]
   refine⟨0,?_,?_⟩
   ·simp[Fi,Gv,Id,h]
   ·simp[Fi,h]
  ·rw[if_neg h]
   have h':n≠p.1:=fun e=>h e.symm
   have hb:(n==p.1)=false:=by simpa using h'
   have e:∀ (k:Nat) ,Gv (.str n) (Fi (p::m)) k=Gv (.str n) (Fi m) (k+1):=fun k=>by simp[Fi,Gv,Id,hb]
   cases hg:Mi m n with
   | none=>rw[hg]at ih;simp only at ih ⊢;rw[e];exact ih
   | some a =>
    rw[hg]at ih
    obtain⟨j,h1,h2⟩:=ih
    refine⟨j+1,?_,?_⟩
    ·rw[e,h1];congr 3;omega
    ·simp only[Fi,List.map_cons,List.getElem?_cons_succ];exact h2
theorem kC (m:TD)(n:A9){H:List Ob}{k:Nat}(hk:H[k]?=some (.map (Fi m))):M8 H true true (.int .i64 0) (.map k) (.str n)=some (.tup [.int .i64 ((Mi m n).getD 0:Nat),.bool (Mi m n).isSome]):=by
 have h:=PG n m 0
 have he:DI H (.map k)=some (Fi m):=by simp[DI,hk]
 unfold M8
 rw[he]
 cases hg:Mi m n with
 | none=>rw[hg]at h;simp only at h;simp[kQ,h,Ni]
 | some a=>rw[hg]at h;obtain⟨j,h1,h2⟩:=h;simp[kQ,h1,Ni]
theorem aZ {m m':TD}{u:Term}(hv:u.var=false)(h:Dc m u=some m'):XR (.str u.name) (.int .i64 u.args.length) (Fi m)=some (Fi m'):=by
 have hf:=PG u.name m 0
 unfold Dc at h
 rw[hv]at h
 simp only[Bool.false_eq_true,if_false]at h
 unfold XR
 cases hg:Mi m u.name with
 | none =>
  rw[hg]at h hf
  simp only[Option.some.injEq]at h hf
  subst h
  rw[hf];simp[Fi]
 | some a =>
  rw[hg]at h hf
  simp only at h
  split at h
  ·rename_i ha
   cases h
   obtain⟨j,h1,h2⟩:=hf
   rw[h1]
   subst ha
   simp only[Nat.zero_add,Option.some.injEq]
   obtain⟨h3,h4⟩:=List.getElem?_eq_some_iff.1 h2
   rw[<-h4,List.set_getElem_self]
  ·cases h
def gB (o:Option TD)(x:V)(H:List Ob):Prop:=match o with
 | none=>x=.tup [.nilm,.bool false]/\H=[]
 | some m=>x=.tup [.map 0,.bool true]/\H=[.map (Fi m)]
abbrev arH (m:TD)(l:List Ob):List Ob:=.cells Iv [.nilm]::.cells ko [.bool false]::.map (Fi m)::.cells Iv [.map 2]::l
theorem kJ {u:Term}{m:TD}{r:List A2}{v24:V}{j k n:Nat}(hs:size u<2^40)(hj:j<2)(hra:∀ σ,ren σ v24=v24)(hix:oU 3 2 (some 3) v24 (.int .i64 j)=some (An u))(hnone:Dt m (Aq u [])=none->CN [] r=none)
  (hsome:∀ m',Dt m (Aq u [])=some m'->Ex.L6 (.ptr 0 0) (.ptr 1 0) (.ptr 3 0) .any (Al r) (.int .i64 n) (.int .i64 k) v24 (.int .i64 (j+1:Nat)) 0 (arH m' [.dead]) (Bo 0 Ex.rs (gB (CN [] r)))) :
  Ex.L6 (.ptr 0 0) (.ptr 1 0) (.ptr 3 0) .any (Al r) (.int .i64 n) (.int .i64 k) v24 (.int .i64 j) 0 (arH m [.dead]) (Bo 0 Ex.rs (gB (CN [] r))):=by
 have hj2:((j:Int)<2)=True:=eq_true (by omega)
 refine A5.2 ?_
 push_cast[hj2,hix]
 refine .of (MW _) ?_
 push_cast
 refine Ax.rf Dh [] [.ro (cT u) 0] ((Aq u []).map KI) (fun i H1=>∃ m',Dt m ((Aq u []).take i)=some m'/\H1=arH m' [.dead,.dead]) (fun e H1=>e=.ret/\Dt m (Aq u [])=none/\∃ m',H1=arH m' [.dead,.dead]) rfl (IC u hs) ?_ ⟨m,rfl,rfl⟩ ?_ ?_ ?_ ?_ ?_ ?_
 ·intro it hit
  obtain⟨x,_,rfl⟩:=List.mem_map.1 hit
  rfl
 ·push_cast[hra]
 ·rintro i H1 ⟨m',_,rfl⟩
  refine⟨rfl,?_⟩
  push_cast
 ·rintro i H1 ⟨_,_,m',rfl⟩
  refine⟨rfl,?_⟩
  push_cast
 ·rintro lo rr i it H1 hit ⟨m',hm',rfl⟩
  rw[List.getElem?_map]at hit
  cases hx:(Aq u [])[i]? with
  | none=>rw[hx]at hit;cases hit
  | some x =>
  rw[hx]at hit
  have hit:it=KI x:=by simpa using hit.symm
  subst hit
  have hi:i<(Aq u []).length:=(List.getElem?_eq_some_iff.1 hx).1
  have hxi:(Aq u [])[i]=x:=(List.getElem?_eq_some_iff.1 hx).2
  have htk:(Aq u []).take (i+1)=(Aq u []).take i++[x]:=by rw[List.take_succ_eq_append_getElem hi,hxi]
  have hst:Dt m ((Aq u []).take (i+1))=Dc m' x.2:=by rw[htk,KM,hm'];simp[Dt]
  have hlk:∀ (a b:Ob) l,M8 (a::b::.map (Fi m')::l) true true (.int .i64 0) (.map 2) (.str x.2.name)=some (.tup [.int .i64 ((Mi m' x.2.name).getD 0:Nat),.bool (Mi m' x.2.name).isSome]):=fun a b l=>kC m' _ rfl
  push_cast[Q5,KI]
  refine A5.2 ?_
  cases hv:x.2.var with
  | true =>
   have hst2:Dc m' x.2=some m':=by unfold Dc;rw[hv];rfl
   push_cast[hv]
   refine⟨rfl,?_⟩
   refine⟨m',by rw[hst,hst2],?_⟩
   push_cast[cut]
  | false =>
   cases hg:Mi m' x.2.name with
   | none =>
    have hst2:Dc m' x.2=some (m'++[(x.2.name,x.2.args.length)]):=by unfold Dc;rw[hv,hg];rfl
    have hup:=aZ hv hst2
    push_cast[hv,hlk,hg,Option.isSome_none,hup,kQ]
    refine⟨rfl,?_⟩
    refine⟨_,by rw[hst,hst2],?_⟩
    push_cast[cut]
   | some a =>
    by_cases ha:a=x.2.args.length
    ·have hst2:Dc m' x.2=some m':=by unfold Dc;rw[hv,hg];simp[ha]
     have hup:=aZ hv hst2
     have ha':((a:Int)=(x.2.args.length:Int))=True:=eq_true (by omega)
     push_cast[hv,hlk,hg,Option.isSome_some,Option.getD_some,ha',hup,kQ]
     refine⟨rfl,?_⟩
     refine⟨_,by rw[hst,hst2],?_⟩
     push_cast[cut]
    ·have hst2:Dc m' x.2=none:=by unfold Dc;rw[hv,hg];simp[ha]
     have ha':((a:Int)=(x.2.args.length:Int))=False:=eq_false (by omega)
     push_cast[hv,hlk,hg,Option.isSome_some,Option.getD_some,ha',kQ]
     refine⟨rfl,?_⟩
     have hall:Dt m (Aq u [])=none:=by
      have:Aq u []=(Aq u []).take (i+1)++(Aq u []).drop (i+1):=(List.take_append_drop _ _).symm
      rw[this,KM,hst,hst2];rfl
     refine⟨rfl,hall,m',?_⟩
     push_cast[cut]
 ·rintro H1 ⟨m',hm',rfl⟩
  rw[List.length_map,List.take_length]at hm'
  have:=hsome m' hm'
  push_cast[hra,CD (show j<2^62 by omega)]
  push_cast at this
  exact this
 ·rintro e H1 ⟨rfl,hn,m',rfl⟩
  simp only[eM]
  push_cast
  rw[hnone hn]
  exact fS (.inl rfl) rfl ⟨rfl,rfl⟩
theorem XK (r:List A2)(hs:KJ r<2^40):Spec prog J1 [Al r] [] (gB (CN [] r)):=by
 have hl:=Bl r
 refine AK mixed Ex.ok rfl ?_
 push_cast
 refine Ac (n:=r.length) (R:=fun k=>∀ m,CN m (r.drop k)=CN [] r->Ex.L8 (.ptr 0 0) (.ptr 1 0) (.ptr 3 0) .any (Al r) (.int .i64 r.length) (.int .i64 k) 0 (arH m []) (Bo 0 Ex.rs (gB (CN [] r)))) ?_ ?_ 0 (by omega) [] rfl
 ·intro k hk ih m hm
  have hmm:=Gi (A4 hk)
  rw[Ag hk]at hm
  refine A5.2 ?_
  generalize hx:r.getD k default=x at hm hmm
  have h1:=AX x.left
  have h2:=AX x.right
  simp only[CN]at hm
  have hr24:∀ σ,AS σ (cT x.left++cT x.right)=cT x.left++cT x.right:=fun σ=>rfl
  push_cast[BC hk,hx,hr24]
  refine kJ (j:=0) (u:=x.left) (by omega) (by omega) (fun σ=>by rw[Hd,hr24]) rfl (fun h=>by rw[<-hm,h];rfl) fun m1 hm1=>?_
  rw[hm1,Option.bind_some]at hm
  refine kJ (j:=1) (u:=x.right) (by omega) (by omega) (fun σ=>by rw[Hd,hr24]) rfl (fun h=>by rw[<-hm,h];rfl) fun m2 hm2=>?_
  rw[hm2,Option.bind_some]at hm
  refine A5.2 ?_
  push_cast[CD (show k<2^62 by omega)]
  exact ih m2 hm
 ·intro m hm
  refine A5.2 ?_
  push_cast[AZ (Nat.le_refl _)]
  rw[Ak]at hm
  rw[<-hm]
  refine Tm 2 rfl rfl ⟨rfl,?_⟩
  push_cast
end Go.Dw
section
namespace Go.Dw
def marked (n:A9):Bool:=J2 n [35]
def Ao (r:List A2):Int:=if Bt r≠0 then Bt r else match CN [] r with
 | none=>6
 | some m=>if m.any (fun p=>marked p.1) then 6 else if r.any Mc then 7 else 0
theorem tZ {n:Nat}{seen:List Nat}{k:Nat}(hm:n<=seen.length)(hnd:seen.Nodup)(hlt:∀ i∈seen,i<n)(hk:k∉seen)(hkn:k<n):False:=by
 have h1:(seen++[k]).Nodup:=by simp[List.nodup_append,hnd];intro a ha e;exact hk (e▸ha)
 have h2:(seen++[k]).length<=(List.range n).length:=List.Nodup.length_le_of_subset h1 (by
  intro i hi
  rw[List.mem_range]
  rcases List.mem_append.1 hi with h | h
  ·exact hlt i h
  ·simp only[List.mem_singleton]at h;subst h;exact hkn)
 simp at h2;omega
theorem og {n:Nat}{seen:List Nat}{k:Nat}(hnd:seen.Nodup)(hlt:∀ i∈seen,i<n)(hk:k∉seen)(hkn:k<n):(seen++[k]).Nodup/\∀ i∈seen++[k],i<n:=by
 refine⟨by simp[List.nodup_append,hnd];intro a ha e;exact hk (e▸ha),fun i hi=>?_⟩
 rcases List.mem_append.1 hi with h | h
 ·exact hlt i h
 ·simp only[List.mem_singleton]at h;subst h;exact hkn
theorem Sf (r:List A2)(hs:KJ r<2^38)(hn:∀ m,CN [] r=some m->∀ p∈m,p.1.length<2^62):PF E2 [Al r] (.int .i64 (Ao r)):=by
 have hl:=Bl r
 refine Ab Ct.ok rfl ?_
 push_cast
 refine .of (Tx r (by omega)) ?_
 unfold Ao
 by_cases h1:Bt r=0
 ·rw[if_neg (by simpa using h1)]
  push_cast[h1]
  refine BD.all (show HC prog (.func J1) [Al r] [] (gB (CN [] r)) from Bj▸XK r (by omega)) ?_
  intro x H' h
  cases hr:CN [] r with
  | none =>
   rw[hr]at h
   obtain⟨rfl,rfl⟩:=h
   push_cast
   refine A1 ?_
   push_cast[Ct.rs]
  | some m =>
   have hnm:=hn m hr
   rw[hr]at h
   obtain⟨rfl,rfl⟩:=h
   push_cast
   have hlen:(Fi m).length=m.length:=by unfold Fi;rw[List.length_map]
   rw[hlen]
   have key:∀ (f:Nat)(seen:List Nat),m.length-seen.length<f->seen.Nodup->(∀ i∈seen,i<m.length)->(∀ i∈seen,marked (m.getD i default).1=false)->Ct.L4 (Al r) (.it 1) 0
     [.map (Fi m),.iter (some 0) m.length seen] (Bo 0 Ct.rs fun x' H'=>x'=.int .i64 (if m.any (fun p=>marked p.1) then 6 else if r.any Mc then 7 else 0)/\H'=[]):=by
    intro f
    induction f with
    | zero =>
     intro seen hm hnd hlt hun
     omega
    | succ f ih =>
     intro seen hm hnd hlt hun
     refine A5.2 ?_
     push_cast
     refine ck 0 m.length seen (Fi m) rfl rfl hlen.symm (fun hall=>?_) (fun k p hp hk=>?_)
     ·have hany:m.any (fun p=>marked p.1)=false:=by
       rw[List.any_eq_false]
       intro p hp
       obtain⟨i,hi,rfl⟩:=List.getElem_of_mem hp
       have:=hun i (hall i hi)
       simp only[List.getD_eq_getElem?_getD,hi,List.getElem?_eq_getElem,Option.getD_some]at this
       simp[this]
      push_cast[hany]
      refine .of (Ee (p:=Mc) (g:=Le) (caps:=[]) (fun _=>rfl) r (by omega) fun x hx=>dl x (by have:=Gi hx;omega)) ?_
      push_cast
      refine⟨fun h=>A1 ?_,fun h=>A1 ?_⟩<;>push_cast[Ct.rs,h]
     ·have hkl:k<m.length:=by rw[<-hlen];exact (List.getElem?_eq_some_iff.1 hp).1
      have hpe:p=(.str (m.getD k default).1,.int .i64 (m.getD k default).2):=by
       unfold Fi at hp
       rw[List.getElem?_map]at hp
       simp[hkl]at hp
       rw[<-hp];simp[List.getD_eq_getElem?_getD,hkl]
      have hen:xB [.map (Fi m),.iter (some 0) m.length (seen++[k])] (.it 1)=some (.tup [p.1,p.2]):=by
       simp[xB,hlen,hp]
      subst hpe
      have hmem:m.getD k default∈m:=A4 hkl
      push_cast[hen]
      refine .of (Zk _ (hnm _ hmem)) ?_
      cases hmk:marked (m.getD k default).1 with
      | true =>
       have hany:m.any (fun p=>marked p.1)=true:=List.any_eq_true.2 ⟨_,hmem,hmk⟩
       unfold marked at hmk
       push_cast[hmk]
       refine A1 ?_
       push_cast[Ct.rs,hany]
      | false =>
       have h2:=og hnd hlt hk hkl
       have hlt':seen.length<m.length:=by
        rcases Nat.lt_or_ge seen.length m.length with h | h
        ·exact h
        ·exact (tZ h hnd hlt hk hkl).elim
       have:=ih (seen++[k]) (by simp;omega) h2.1 h2.2 (fun i hi=>by
        rcases List.mem_append.1 hi with h | h
        ·exact hun i h
        ·simp only[List.mem_singleton]at h;subst h;exact hmk)
       unfold marked at hmk
       push_cast[hmk]
       exact this
   exact key (m.length+1) [] (by simp) List.nodup_nil (by simp) (by simp)
 ·rw[if_pos h1]
  push_cast[h1]
  refine A1 ?_
  push_cast[Ct.rs]
end Go.Dw
end
section
namespace Go.Proofs
open Go.Shelf Go.RowKit Go.Lib
theorem HJ {P:Program}(w:World)(dT sT ty elem:TypeId)(b o dLen dCap:Nat)(a:Addr)(sLen sCap z:Nat)(cs:List Value)
  (hu:P.underlying dT=some (.slice elem)) (hs:(P.info? elem).map (·.size)=some z) (hn:cs.length=Nat.min sLen dLen*z)
  (hsrc:∀ j v,cs[j]?=some v->w.cell? (a.add j)=some v) (hc:∀ j,j<cs.length->(w.cell? ⟨b,o+j,none⟩).isSome=true) (hf:∀ j,j<cs.length->w.frozen? ⟨b,o+j,none⟩=false) (h1:∀ v∈cs,v.oneCell'=true) :
  (Builtin.copy_ #[dT,sT] ty #[.slice (some ⟨b,o,none⟩) dLen dCap,.slice (some a) sLen sCap]).run P w=.ok (goInt (Nat.min sLen dLen)) (w.setCells b o cs):=by
 have hl:=run_loadCells_list (P:=P) w a cs hsrc
 have hst:=run_storeCells_cells (P:=P) b o cs 0 w (by simpa using hc) (by simpa using hf) h1
 cases hq:P.info? elem with
 | none=>simp[hq]at hs
 | some i =>
  have hi:i.size=z:=by simpa[hq]using hs
  simp[Builtin.copy_,run_underlying hu,Builtin.lenOf,Builtin.firstCells,sizeOf,typeInfo,hq,hi,<-hn,hl,hst]
theorem Tryz.bind_size:(Tryz.prog.info? 148).map (·.size)=some 4:=by kernel_rfl
set_option maxHeartbeats 4000000 in
set_option maxRecDepth 100000 in
theorem Tryz.ins_shift (b n c i vb vc:Nat)(cs vs:List Value)(w:World)(hi:i<n)(hroom:n+1<=c)(hc63:c<=9223372036854775807)(hvb:vb≠b)
  (hcl:cs.length=n*4) (hvl:vs.length=4)
  (hcs:∀ j v,cs[j]?=some v->w.cell? ⟨b,j,none⟩=some v) (hsp:∀ j,j<(n+1)*4->(w.cell? ⟨b,j,none⟩).isSome=true) (hfz:∀ j,j<(n+1)*4->w.frozen? ⟨b,j,none⟩=false)
  (hvs:∀ j v,vs[j]?=some v->w.cell? ⟨vb,j,none⟩=some v) (h1c:∀ v∈cs,v.oneCell'=true) (h1v:∀ v∈vs,v.oneCell'=true)
  (tA tB:TypeId) (kA kB:Nat) (hsa:w.shape? vb=some (tA,kA)) (hsb:w.shape? b=some (tB,kB)) (hkB:kB≠0) (hfa:w.frozen? ⟨vb,0,none⟩=false) (hfe:w.frozen? ⟨vb,kA,none⟩=false) :
  Calls Tryz.prog 297 #[.slice (some ⟨b,0,none⟩) n c,.int .i64 i,.slice (some ⟨vb,0,none⟩) 1 vc] w fun e w' =>
   e=.returned (.slice (some ⟨b,0,none⟩) (n+1) c)/\w'=(w.drew.setCells b ((i+1)*4) (cs.drop (i*4))).setCells b (i*4) vs:=by
 have hz2:¬ ((i:Int)=(n:Int)):=by omega
 have hsz:=Tryz.bind_size
 have hov:∀ lb cb,(callFunc 308 #[.slice (some ⟨vb,0,none⟩) 1 vc,.slice (some ⟨b,(i+1)*4,none⟩) lb cb]).run Tryz.prog w=.ok (.value (.bool false)) w:=fun lb cb=>by
  rw[run_callFunc_extern Tryz.func308 (by kernel_rfl) (by kernel_rfl) (by kernel_rfl) (e:=Extern.SlicesOverlaps.overlaps #[144,144] #[4]) (by kernel_rfl),
   Lib.run_overlaps_apart w 144 4 148 Tryz.underlying144 4 Tryz.sizeOf148 ⟨vb,0,none⟩ ⟨b,(i+1)*4,none⟩ 1 vc lb cb hvb tA tB kA kB hsa hsb hkB hfa hfe]
  rfl
 have hdl:(cs.drop (i*4)).length=(n-i)*4:=by rw[List.length_drop,hcl];omega
 have hw1:IntKind.i64.wrap ((i:Int)+1)=(i:Int)+1:=by rw[IntKind.wrap_i64];omega
 have mixed:=Go.Dw.mixed
 have hb1:(0:Int)<=(i:Int)+1:=by omega
 have hin:i<=n:=by omega
 have htn:((i:Int)+1).toNat=i+1:=by omega
 have hb2:¬ (c=i+1):=by omega
 have hb3:(i:Int)<=(n:Int)+1:=by omega
 have hb4:¬ (c=i):=by omega
 have hcp1:∀ ty dc sc,(Builtin.copy_ #[144,144] ty #[.slice (some ⟨b,(i+1)*4,none⟩) (n-i) dc,.slice (some ⟨b,i*4,none⟩) (n+1-i) sc]).run Tryz.prog w.drew=.ok (goInt (Nat.min (n+1-i) (n-i))) (w.drew.setCells b ((i+1)*4) (cs.drop (i*4))):=fun ty dc sc =>
  HJ w.drew _ _ ty 148 b ((i+1)*4) (n-i) dc ⟨b,i*4,none⟩ (n+1-i) sc 4 (cs.drop (i*4)) Tryz.underlying144 hsz (by rw[hdl];simp only[Nat.min_def];split<;>omega)
   (fun j v hj=>by rw[Addr.add_lit];exact hcs (i*4+j) v (by rwa [List.getElem?_drop]at hj))
   (fun j hj=>hsp _ (by omega)) (fun j hj=>hfz _ (by omega)) (fun v hv=>h1c v (List.mem_of_mem_drop hv))
 obtain⟨W1,hW1⟩:∃ W1,W1=w.drew.setCells b ((i+1)*4) (cs.drop (i*4)):=⟨_,rfl⟩
 have hsp1:∀ k,k<(n+1)*4->(W1.cell? ⟨b,k,none⟩).isSome=true:=fun k hk=>by
  rw[hW1]
  exact isSome_setCells b _ _ w.drew (fun j hj=>hsp ((i+1)*4+j) (by rw[hdl]at hj;omega)) _ (hsp k hk)
 have hcp2:∀ (W:World),(∀ x,W.cell? x=W1.cell? x)->(∀ x,W.frozen? x=W1.frozen? x)->∀ ty dc,(Builtin.copy_ #[144,144] ty #[.slice (some ⟨b,i*4,none⟩) (n+1-i) dc,.slice (some ⟨vb,0,none⟩) 1 vc]).run Tryz.prog W=.ok (goInt (Nat.min 1 (n+1-i))) (W.setCells b (i*4) vs):=fun W hWc hWf ty dc =>
  HJ W _ _ ty 148 b (i*4) (n+1-i) dc ⟨vb,0,none⟩ 1 vc 4 vs Tryz.underlying144 hsz (by rw[hvl];simp only[Nat.min_def];split<;>omega)
   (fun j v hj=>by
    rw[Addr.add_lit,hWc,hW1,World.cell?_setCells_out b _ _ _ _ (fun h _=>absurd h hvb),Nat.zero_add]
    exact hvs j v hj)
   (fun j hj=>by rw[hWc];exact hsp1 _ (by omega)) (fun j hj=>by rw[hWf,hW1,World.frozen?_setCells];exact hfz _ (by omega)) h1v
 rw[<-hW1]at hcp1
 go_enter Tryz.func297,Tryz.ntmps297
 go_wp2_with (simp only[hov])
 go_region_law_o (refine step_copy_runI rfl _ _ 144 144 rfl _ _ (by simp[Act.eval,Act.put]) (by simp[Act.eval,Act.put]) (hcp1 _ _ _) ?_)
 go_wp2_with (at_builtin;refine wpList_copy_runI _ rfl _ _ 144 144 rfl _ _ rfl rfl (hcp2 _ (fun _=>rfl) (fun _=>rfl) _ _) ?_)
 go_ret
 first | exact⟨rfl,rfl⟩ | exact⟨rfl,by rw[hW1]⟩
end Go.Proofs
end
section
namespace Go.Proofs
open Go.Shelf Go.RowKit Go.Lib
def IV:Value:=.agg #[.string ⟨#[]⟩,.string ⟨#[]⟩,.bool false,.slice none 0 0]
theorem Tryz.bind_info:(Tryz.prog.info? 148).map (fun i=>(i.zero,i.size,i.bytes))=some (some IV,4,64):=by kernel_rfl
theorem Gx (cs:Array Value)(k:Nat):(Builtin.zeroCells cs k).size=k*cs.size:=by
 simp[Builtin.zeroCells]
set_option maxHeartbeats 4000000 in
set_option maxRecDepth 100000 in
theorem Tryz.ins_grow (b n c i vb vc:Nat)(cs vs:List Value)(w:World)(hi:i<n)(hnc:n<=c)(hroom:c<n+1)(hbig:(n+1)*64<=140737488355328)
  (hcl:cs.length=n*4) (hvl:vs.length=4)
  (hcs:∀ j v,cs[j]?=some v->w.cell? ⟨b,j,none⟩=some v)
  (hvs:∀ j v,vs[j]?=some v->w.cell? ⟨vb,j,none⟩=some v) (h1c:∀ v∈cs,v.oneCell'=true) (h1v:∀ v∈vs,v.oneCell'=true) :
  Calls Tryz.prog 297 #[.slice (some ⟨b,0,none⟩) n c,.int .i64 i,.slice (some ⟨vb,0,none⟩) 1 vc] w fun e w' =>
   e=.returned (.slice (some ⟨w.heap.size,0,none⟩) (n+1) (grownCap w (n+1) c 148)) /\
   w'=(((w.alloc (.cells ((cs.take (i*4)).toArray++Builtin.zeroCells IV.cells (n+1-i)++Builtin.zeroCells IV.cells (grownCap w (n+1) c 148-(n+1))) 148)).drew.setCells w.heap.size (i*4) vs).drew).setCells w.heap.size ((i+1)*4) (cs.drop (i*4)):=by
 have mixed:=Go.Dw.mixed
 obtain⟨i0,hi0,hz0,hzs,hzb⟩:=info_parts Tryz.bind_info
 have hz2:¬ ((i:Int)=(n:Int)):=by omega
 have hz3:(c:Int)<(n:Int)+1:=by omega
 have hsz:=Tryz.bind_size
 have hbw:b<w.heap.size:=block_lt_of_cell (hcs 0 _ (List.getElem?_eq_getElem (by omega)))
 have hvw:vb<w.heap.size:=block_lt_of_cell (hvs 0 _ (List.getElem?_eq_getElem (by omega)))
 have hkk:(n:Int)+1-(i:Int)=((n+1-i:Nat):Int):=by omega
 have hik:i+(n+1-i)=n+1:=by omega
 have hold:(Builtin.firstCells i0.size i (.slice (some ⟨b,0,none⟩) i c)).run Tryz.prog w.drew=.ok (cs.take (i*4)).toArray w.drew:=by
  rw[hzs]
  exact run_firstCells_some w.drew 4 i ⟨b,0,none⟩ i c (cs.take (i*4)) (by rw[List.length_take];omega) (fun j v hj=>by
   rw[Addr.add_lit,Nat.zero_add]
   rw[List.getElem?_take]at hj
   split at hj
   ·exact hcs j v hj
   ·cases hj)
 have hrz:∀ ty,(Builtin.append_ #[144,3] ty #[.slice (some ⟨b,0,none⟩) i c,.int .i64 ((n:Int)+1-(i:Int))]).run Tryz.prog w =
   .ok (.slice (some ⟨w.heap.size,0,none⟩) (n+1) (grownCap w (n+1) c 148)) (w.drew.alloc (.cells ((cs.take (i*4)).toArray++Builtin.zeroCells IV.cells (n+1-i)++Builtin.zeroCells IV.cells (grownCap w (n+1) c 148-(n+1))) 148)):=fun ty=>by
  have h:=Lib.run_append_grow_zeros w 144 3 ty 148 i0 _ .i64 .i64 Tryz.underlying144 Tryz.underlying3 hi0 hz0 (some ⟨b,0,none⟩) i c (cs.take (i*4)) hold (n+1-i) (by omega) (by omega) (by omega) (by omega) (by rw[hzb];omega) (by rw[hzb,hik];exact growslice_fits hroom hbig)
  rw[hik]at h
  rw[hkk]
  exact h
 obtain⟨G,hG⟩:∃ G,G=grownCap w (n+1) c 148:=⟨_,rfl⟩
 obtain⟨ROW,hROW⟩:∃ ROW:Array Value,ROW=(cs.take (i*4)).toArray++Builtin.zeroCells IV.cells (n+1-i)++Builtin.zeroCells IV.cells (G-(n+1)):=⟨_,rfl⟩
 rw[<-hG]at hrz ⊢
 rw[<-hROW]at hrz ⊢
 have hRl:(n+1)*4<=ROW.size:=by
  rw[hROW]
  have hzc:IV.cells.size=4:=rfl
  simp only[Array.size_append,Gx,hzc,List.size_toArray,List.length_take,hcl]
  omega
 obtain⟨W1,hW1⟩:∃ W1,W1=w.drew.alloc (.cells ROW 148):=⟨_,rfl⟩
 rw[<-hW1]at hrz
 have hN:∀ j,j<(n+1)*4->(W1.cell? ⟨w.heap.size,j,none⟩).isSome=true:=fun j hj=>by
  rw[hW1,World.cell?_alloc_at (w:=w.drew) ROW _ w.heap.size j rfl,Array.getElem?_eq_getElem (by omega)];rfl
 have hNf:∀ j,W1.frozen? ⟨w.heap.size,j,none⟩=false:=fun j=>by rw[hW1];exact World.frozen?_alloc_at (w:=w.drew) ROW _ w.heap.size j rfl
 have hOb:∀ j v,w.cell? ⟨b,j,none⟩=some v->W1.cell? ⟨b,j,none⟩=some v:=fun j v h=>by rw[hW1,World.cell?_alloc_past (w:=w.drew) _ b j hbw];exact h
 have hOv:∀ j v,w.cell? ⟨vb,j,none⟩=some v->W1.cell? ⟨vb,j,none⟩=some v:=fun j v h=>by rw[hW1,World.cell?_alloc_past (w:=w.drew) _ vb j hvw];exact h
 have hcpA:∀ (W:World),(∀ x,W.cell? x=W1.cell? x)->(∀ x,W.frozen? x=W1.frozen? x)->∀ ty dc,(Builtin.copy_ #[144,144] ty #[.slice (some ⟨w.heap.size,i*4,none⟩) (n+1-i) dc,.slice (some ⟨vb,0,none⟩) 1 vc]).run Tryz.prog W=.ok (goInt (Nat.min 1 (n+1-i))) (W.setCells w.heap.size (i*4) vs):=fun W hWc hWf ty dc =>
  HJ W _ _ ty 148 w.heap.size (i*4) (n+1-i) dc ⟨vb,0,none⟩ 1 vc 4 vs Tryz.underlying144 hsz (by rw[hvl];simp only[Nat.min_def];split<;>omega)
   (fun j v hj=>by rw[Addr.add_lit,hWc,Nat.zero_add];exact hOv _ v (hvs j v hj))
   (fun j hj=>by rw[hWc];exact hN _ (by omega)) (fun j hj=>by rw[hWf];exact hNf _) h1v
 have hGn:n+1<=G:=by rw[hG];exact grownCap_ge w _ _ _
 have hG63:G<=9223372036854775807:=by
  have:=grownCap_le_maxLen w (n+1) c 148 (by unfold maxLen;omega)
  rw[<-hG]at this
  unfold maxLen at this
  omega
 have hGi:¬ (G=i):=by omega
 have hGim:¬ (G=i+1):=by omega
 have hci:¬ (c=i):=by omega
 have hbN:b≠w.heap.size:=by omega
 have hdl:(cs.drop (i*4)).length=(n-i)*4:=by rw[List.length_drop,hcl];omega
 have hcpB:∀ (W:World),(∀ x,W.cell? x=(W1.setCells w.heap.size (i*4) vs).cell? x)->(∀ x,W.frozen? x=(W1.setCells w.heap.size (i*4) vs).frozen? x)->∀ ty dc sc,(Builtin.copy_ #[144,144] ty #[.slice (some ⟨w.heap.size,(i+1)*4,none⟩) (n-i) dc,.slice (some ⟨b,i*4,none⟩) (n-i) sc]).run Tryz.prog W=.ok (goInt (Nat.min (n-i) (n-i))) (W.setCells w.heap.size ((i+1)*4) (cs.drop (i*4))):=fun W hWc hWf ty dc sc =>
  HJ W _ _ ty 148 w.heap.size ((i+1)*4) (n-i) dc ⟨b,i*4,none⟩ (n-i) sc 4 (cs.drop (i*4)) Tryz.underlying144 hsz (by rw[hdl];simp only[Nat.min_def];split<;>omega)
   (fun j v hj=>by
    rw[Addr.add_lit,hWc,World.cell?_setCells_out _ _ _ _ _ (fun h _=>absurd h hbN)]
    exact hOb _ v (hcs (i*4+j) v (by rwa [List.getElem?_drop]at hj)))
   (fun j hj=>by rw[hWc];exact isSome_setCells _ _ _ W1 (fun t ht=>hN (i*4+t) (by omega)) _ (hN ((i+1)*4+j) (by omega)))
   (fun j hj=>by rw[hWf,World.frozen?_setCells];exact hNf _) (fun v hv=>h1c v (List.mem_of_mem_drop hv))
 subst hW1
 have hE1:∀ x,((w.alloc (.cells ROW 148)).drew).cell? x=(w.drew.alloc (.cells ROW 148)).cell? x:=fun x=>rfl
 have hE2:∀ x,((w.alloc (.cells ROW 148)).drew).frozen? x=(w.drew.alloc (.cells ROW 148)).frozen? x:=fun x=>rfl
 have hF1:∀ x,(((w.alloc (.cells ROW 148)).drew.setCells w.heap.size (i*4) vs).drew).cell? x=((w.drew.alloc (.cells ROW 148)).setCells w.heap.size (i*4) vs).cell? x:=fun x=>rfl
 have hF2:∀ x,(((w.alloc (.cells ROW 148)).drew.setCells w.heap.size (i*4) vs).drew).frozen? x=((w.drew.alloc (.cells ROW 148)).setCells w.heap.size (i*4) vs).frozen? x:=fun x=>rfl
 have hw1:IntKind.i64.wrap ((i:Int)+1)=(i:Int)+1:=by rw[IntKind.wrap_i64];omega
 have hb1:(0:Int)<=(i:Int)+1:=by omega
 have hin:i<=n:=by omega
 have htn:((i:Int)+1).toNat=i+1:=by omega
 have hb3:(i:Int)<=(n:Int):=by omega
 clear hkk hik hold hROW hG hRl
 go_enter Tryz.func297,Tryz.ntmps297
 go_wp2_with (first
  | (at_builtin;refine Lib.wpList_append_run _ rfl _ _ _ _ rfl _ _ rfl rfl _ _ (hrz _) ?_)
  | (at_builtin;refine wpList_copy_runI _ rfl _ _ 144 144 rfl _ _ rfl rfl (hcpA _ hE1 hE2 _ _) ?_)
  | (at_builtin;refine wpList_copy_runI _ rfl _ _ 144 144 rfl _ _ rfl rfl (hcpB _ (fun _=>rfl) (fun _=>rfl) _ _ _) ?_))
 go_region_law_o (refine step_copy_runI rfl _ _ 144 144 rfl (.slice (some ⟨w.heap.size,(i+1)*4,none⟩) (n-i) (G-(i+1))) (.slice (some ⟨b,i*4,none⟩) (n-i) (c-i)) (by simp[Act.eval,Act.put]) (by simp[Act.eval,Act.put]) (hcpB _ hF1 hF2 3 (G-(i+1)) (c-i)) ?_)
 go_wp2
 go_ret
 exact⟨rfl,rfl⟩
end Go.Proofs
end
section
namespace Go.Proofs
open Go.Shelf Go.RowKit Go.Lib
set_option maxHeartbeats 4000000 in
set_option maxRecDepth 100000 in
theorem Tryz.ins_end_grow (base:Option Addr)(n c vb vc:Nat)(cs vs:List Value)(w:World)(hnc:n<=c)(hroom:c<n+1)(hbig:(n+1)*64<=140737488355328)
  (hcl:cs.length=n*4) (hvl:vs.length=4) (hnil:base=none->n=0)
  (hcs:∀ a,base=some a->∀ j v,cs[j]?=some v->w.cell? (a.add j)=some v)
  (hvs:∀ j v,vs[j]?=some v->w.cell? ⟨vb,j,none⟩=some v) (h1v:∀ v∈vs,v.oneCell'=true) :
  Calls Tryz.prog 297 #[.slice base n c,.int .i64 n,.slice (some ⟨vb,0,none⟩) 1 vc] w fun e w' =>
   e=.returned (.slice (some ⟨w.heap.size,0,none⟩) (n+1) (grownCap w (n+1) c 148)) /\
   w'=w.drew.alloc (.cells ((cs++vs).toArray++Builtin.zeroCells IV.cells (grownCap w (n+1) c 148-(n+1))) 148):=by
 have mixed:=Go.Dw.mixed
 obtain⟨i0,hi0,hz0,hzs,hzb⟩:=info_parts Tryz.bind_info
 have hsrc:Src Tryz.prog i0.size 144 (.slice (some ⟨vb,0,none⟩) 1 vc) 1 vs w:=by
  rw[hzs]
  exact Src.ofSlice w Tryz.underlying144 ⟨vb,0,none⟩ 1 vc vs (by omega) (fun j u hj=>by rw[Addr.add_lit,Nat.zero_add];exact hvs j u hj) h1v
 have hold:(Builtin.firstCells i0.size n (.slice base n c)).run Tryz.prog w.drew=.ok cs.toArray w.drew:=by
  rw[hzs]
  cases base with
  | none =>
   have h0:=hnil rfl
   subst h0
   have hc0:cs=[]:=List.length_eq_zero_iff.1 (by omega)
   rw[hc0]
   exact run_firstCells_none w.drew 4 0 0 c
  | some a=>exact run_firstCells_some w.drew 4 n a n c cs (by omega) (fun j v hj=>hcs a rfl j v hj)
 have hrun:∀ ty,(Builtin.append_ #[144,144] ty #[.slice base n c,.slice (some ⟨vb,0,none⟩) 1 vc]).run Tryz.prog w=.ok (.slice (some ⟨w.heap.size,0,none⟩) (n+1) (grownCap w (n+1) c 148)) (w.drew.alloc (.cells ((cs++vs).toArray++Builtin.zeroCells IV.cells (grownCap w (n+1) c 148-(n+1))) 148)):=fun ty =>
  run_append_grow_src w 144 144 ty 148 i0 IV Tryz.underlying144 hi0 hz0 base n c cs hold _ 1 vs hsrc hroom (by omega) (by rw[hzb];exact growslice_fits hroom hbig)
 obtain⟨ROW,hROW⟩:∃ ROW:Array Value,ROW=(cs++vs).toArray++Builtin.zeroCells IV.cells (grownCap w (n+1) c 148-(n+1)):=⟨_,rfl⟩
 rw[<-hROW]at hrun ⊢
 clear hROW
 go_enter Tryz.func297,Tryz.ntmps297
 cases base with
 | none =>
  have h0:=hnil rfl
  subst h0
  go_wp2_with (at_builtin;refine Lib.wpList_append_run _ rfl _ _ _ _ rfl _ _ rfl rfl _ _ (hrun _) ?_)
  go_ret
  exact⟨rfl,rfl⟩
 | some a =>
  obtain⟨ab,ao,asp⟩:=a
  go_wp2_with (at_builtin;refine Lib.wpList_append_run _ rfl _ _ _ _ rfl _ _ rfl rfl _ _ (hrun _) ?_)
  all_goals (go_ret;exact⟨rfl,rfl⟩)
set_option maxHeartbeats 4000000 in
set_option maxRecDepth 100000 in
theorem Tryz.ins_end_room (b n c vb vc:Nat)(vs:List Value)(w:World)(hroom:n+1<=c)(hc63:c<=9223372036854775807)
  (hvl:vs.length=4) (hsp:∀ j,j<4->(w.cell? ⟨b,n*4+j,none⟩).isSome=true) (hfz:∀ j,j<4->w.frozen? ⟨b,n*4+j,none⟩=false)
  (hvs:∀ j v,vs[j]?=some v->w.cell? ⟨vb,j,none⟩=some v) (h1v:∀ v∈vs,v.oneCell'=true) :
  Calls Tryz.prog 297 #[.slice (some ⟨b,0,none⟩) n c,.int .i64 n,.slice (some ⟨vb,0,none⟩) 1 vc] w fun e w' =>
   e=.returned (.slice (some ⟨b,0,none⟩) (n+1) c)/\w'=w.setCells b (n*4) vs:=by
 have mixed:=Go.Dw.mixed
 obtain⟨i0,hi0,hz0,hzs,hzb⟩:=info_parts Tryz.bind_info
 have hrun:∀ ty,(Builtin.append_ #[144,144] ty #[.slice (some ⟨b,0,none⟩) n c,.slice (some ⟨vb,0,none⟩) 1 vc]).run Tryz.prog w=.ok (.slice (some ⟨b,0,none⟩) (n+1) c) (w.setCells b (n*4) vs):=fun ty=>by
  have h:=run_append_room_cells (P:=Tryz.prog) w 144 ty 148 i0 Tryz.underlying144 hi0 b 0 n c ⟨vb,0,none⟩ 1 vc vs (by rw[hzs];omega) (fun j u hj=>by rw[Addr.add_lit,Nat.zero_add];exact hvs j u hj) h1v hroom
   (fun j hj=>by rw[hzs,Nat.zero_add];exact hsp j (by omega)) (fun j hj=>by rw[hzs,Nat.zero_add];exact hfz j (by omega))
  rw[hzs,Nat.zero_add]at h
  exact h
 obtain⟨W,hW⟩:∃ W,W=w.setCells b (n*4) vs:=⟨_,rfl⟩
 rw[<-hW]at hrun ⊢
 clear hW
 go_enter Tryz.func297,Tryz.ntmps297
 go_wp2_with (at_builtin;refine Lib.wpList_append_run _ rfl _ _ _ _ rfl _ _ rfl rfl _ _ (hrun _) ?_)
 go_ret
 exact⟨rfl,rfl⟩
end Go.Proofs
end
section
namespace Go.Dw
open Go.Proofs Go.Sort Go.Lib
theorem FU (b:Nat):∀ (us:List Value)(o:Nat)(w:World),(w.setCells b o us).heap.size=w.heap.size/\(∀ b',b'≠b->(w.setCells b o us).heap[b']?=w.heap[b']?) /\
  (∀ vs t fr,w.heap[b]?=some (.cells vs t fr)->∃ vs1,(w.setCells b o us).heap[b]?=some (.cells vs1 t fr)/\vs1.size=vs.size)/\(w.setCells b o us).os=w.os/\(w.setCells b o us).tape=w.tape/\(w.setCells b o us).output=w.output
 | [],o,w=>⟨rfl,fun _ _=>rfl,fun vs t fr h=>⟨vs,h,rfl⟩,rfl,rfl,rfl⟩
 | u::us,o,w=>by
  obtain⟨h1,h2,h3,h4,h5,h6⟩:=FU b us (o+1) (w.setCell ⟨b,o,none⟩ u)
  have e1:(w.setCell ⟨b,o,none⟩ u).heap.size=w.heap.size:=by rw[setCell_eq];simp[mapBlock]
  have e2:∀ b',b'≠b->(w.setCell ⟨b,o,none⟩ u).heap[b']?=w.heap[b']?:=fun b' hb=>by
   rw[setCell_eq];simp only[mapBlock];rw[Array.getElem?_modify,if_neg (Ne.symm hb)]
  refine⟨by rw[World.setCells,h1,e1],fun b' hb=>by rw[World.setCells,h2 b' hb,e2 b' hb],fun vs t fr h=>?_,?_,?_,?_⟩
  ·have:(w.setCell ⟨b,o,none⟩ u).heap[b]?=some (.cells (vs.setIfInBounds o u) t fr):=by
    rw[setCell_eq];simp only[mapBlock];rw[Array.getElem?_modify,if_pos rfl,h];rfl
   obtain⟨vs1,q1,q2⟩:=h3 _ _ _ this
   exact⟨vs1,by rw[World.setCells];exact q1,by rw[q2];simp⟩
  ·rw[World.setCells,h4,setCell_eq];rfl
  ·rw[World.setCells,h5,setCell_eq];rfl
  ·rw[World.setCells,h6,setCell_eq];rfl
theorem Mn (b:Nat):∀ (us:List Value)(o:Nat)(w:World),(w.setCells b o us).drawn=w.drawn
 | [],o,w=>rfl
 | u::us,o,w=>by rw[World.setCells,Mn b us,setCell_eq];rfl
theorem zw {c:Cx}(hc:Bb c){els:List (List V)}{new:List V}{e i n z:Nat}(hH:c.H=[.row e z els,.arr e z 1])(hn:els.length=n)(hi:i<=n){w':World}{bN kN:Nat}{vs1:Array Value}{us:List Value}
  (hb:(∃ k,c.ρ 0=some (bN,k))\/c.w.heap.size<=bN) (hmax:n+1<=Ah)
  (h1:w'.heap[bN]?=some (.cells vs1 e (0,0))) (h2:vs1.size=kN*z) (h3:n+1<=kN) (h4:kN<=C7)
  (hold:∀ (l:Nat)(el:List V),els[l]?=some el->el.length=z/\∀ (j:Nat)(x:V),el[j]?=some x->∃ v,vs1[(if l<i then l else l+1)*z+j]?=some v/\Cz v=true/\BI c x v)
  (hnew:new.length=z/\∀ (j:Nat)(x:V),new[j]?=some x->∃ v,vs1[i*z+j]?=some v/\Cz v=true/\BI c x v)
  (hoth:∀ b',b'<c.w.heap.size->b'≠bN->w'.heap[b']?=c.w.heap[b']?) (hsz:c.w.heap.size<=w'.heap.size) (hos:w'.os=c.w.os) (htp:w'.tape=c.w.tape) (hou:w'.output=c.w.output) (hdr:c.w.drawn<=w'.drawn) :
  ∃ v x c',Ending.returned (.slice (some ⟨bN,0,none⟩) (n+1) kN)=.returned v/\c'.w=w'/\(x=.rw 0 z (n+1)/\c'.H=[.row e z (els.take i++new::els.drop i),.arr e z 1])/\Bb c'/\BI c' x v/\Fr c c':=by
 have hH0:c.H[0]?=some (.row e z els):=by rw[hH];rfl
 have hH1:c.H[1]?=some (.arr e z 1):=by rw[hH];rfl
 have hHl:c.H.length=2:=by rw[hH];rfl
 obtain⟨o1,o2⟩:=hc.obj 0 _ hH0
 have hnok:∀ o,¬ c.ok bN o:=fun o ho=>by
  rcases hb with ⟨k,hk⟩ | hb
  ·obtain⟨_,_,_,_,_,h5,_⟩:=o2 bN k hk;exact h5 o ho
  ·have:=hc.okLt _ _ ho;omega
 have h1ne:∀ b' k',c.ρ 1=some (b',k')->b'≠bN/\b'<c.w.heap.size:=fun b' k' h=>by
  have hlt:=JJ hc (show 1<c.H.length by omega) h
  refine⟨fun e1=>?_,hlt⟩
  subst e1
  rcases hb with ⟨k,hk⟩ | hb
  ·exact absurd (hc.inj 0 1 b' k k' (by omega) (by omega) hk h) (by decide)
  ·omega
 generalize hc':(⟨w',c.ok,Pb c.ρ 0 (some (bN,kN)),[.row e z (els.take i++new::els.drop i),.arr e z 1]⟩:Cx)=c'
 have hw:c'.w=w':=by rw[<-hc']
 have hk':c'.ok=c.ok:=by rw[<-hc']
 have hρ0:c'.ρ 0=some (bN,kN):=by rw[<-hc'];simp[Pb]
 have hρ1:∀ j,j≠0->c'.ρ j=c.ρ j:=fun j hj=>by rw[<-hc'];exact AN hj
 have hH':c'.H=[.row e z (els.take i++new::els.drop i),.arr e z 1]:=by rw[<-hc']
 have hlen':(els.take i++new::els.drop i).length=n+1:=by simp;omega
 have hf:Fr c c':=by
  refine⟨fun _ _ h=>by rw[hk'];exact h,fun b' o h=>?_,by rw[hw];exact hsz,fun _ _ h=>.inl (by rw[hk']at h;exact h),fun b' hlt hno=>?_,fun b' hb'=>?_,fun j o hj=>?_,by rw[hw];exact hos,by rw[hw];exact htp,by rw[hw];exact hou,by rw[hw];exact hdr⟩
  ·have hne:b'≠bN:=fun e=>hnok o (e▸h)
   simp only[World.cell?,hw]
   rw[hoth b' (hc.okLt _ _ h) hne]
  ·rw[hw]
   refine hoth b' hlt fun e1=>?_
   subst e1
   rcases hb with ⟨k,hk⟩ | hb
   ·exact hno ⟨0,k,by omega,hk⟩
   ·omega
  ·obtain⟨j,k',hj,hr⟩:=hb'
   have hj:j<2:=by rw[hH']at hj;simpa using hj
   by_cases e0:j=0
   ·subst e0
    rw[hρ0]at hr;cases hr
    rcases hb with ⟨k,hk⟩ | hb
    ·exact .inl ⟨0,k,by omega,hk⟩
    ·exact .inr hb
   ·rw[hρ1 j e0]at hr
    exact .inl ⟨j,k',by omega,hr⟩
  ·rw[hH]at hj
   match j,hj with
   | 0,hj =>
    simp only[List.getElem?_cons_zero,Option.some.injEq]at hj
    subst hj
    exact⟨.row e z (els.take i++new::els.drop i),by rw[hH'];rfl,rfl,rfl,by omega,fun h=>by omega⟩
   | 1,hj =>
    simp only[List.getElem?_cons_succ,List.getElem?_cons_zero,Option.some.injEq]at hj
    subst hj
    exact⟨.arr e z 1,by rw[hH'];rfl,rfl,rfl,Nat.le_refl _,fun _=>hρ1 1 (by omega)⟩
   | j+2,hj=>simp at hj
 refine⟨_,_,c',rfl,hw,⟨rfl,hH'⟩,?_,?_,hf⟩
 ·refine⟨fun j1 j2 b' k1 k2 q1 q2 q3 q4=>?_,fun b' o h=>?_,fun j o hj=>?_,hc.globFr hf⟩
  ·rw[hH']at q1 q2
   simp only[List.length_cons,List.length_nil]at q1 q2
   by_cases e1:j1=0<;>by_cases e2:j2=0
   ·omega
   ·have:j2=1:=by omega
    subst e1 this
    rw[hρ0]at q3;cases q3
    rw[hρ1 1 (by omega)]at q4
    exact absurd rfl (h1ne _ _ q4).1
   ·have:j1=1:=by omega
    subst e2 this
    rw[hρ0]at q4;cases q4
    rw[hρ1 1 (by omega)]at q3
    exact absurd rfl (h1ne _ _ q3).1
   ·omega
  ·rw[hk']at h;rw[hw];have:=hc.okLt _ _ h;omega
  ·rw[hH']at hj
   match j,hj with
   | 0,hj =>
    simp only[List.getElem?_cons_zero,Option.some.injEq]at hj
    subst hj
    refine⟨fun h=>(by rw[hρ0]at h;cases h),fun b' k' h=>?_⟩
    rw[hρ0]at h;cases h
    refine⟨vs1,by rw[hw];exact h1,h2,by omega,h4,fun o ho=>hnok o (by rw[hk']at ho;exact ho),fun l el hl=>?_⟩
    rw[List.getElem?_append]at hl
    have hti:(els.take i).length=i:=by rw[List.length_take];omega
    rw[hti]at hl
    by_cases e1:l<i
    ·rw[if_pos e1,List.getElem?_take,if_pos e1]at hl
     obtain⟨q1,q2⟩:=hold l el hl
     refine⟨q1,fun j x hx=>?_⟩
     obtain⟨v,r1,r2,r3⟩:=q2 j x hx
     rw[if_pos e1]at r1
     exact⟨v,r1,r2,B3 hf r3⟩
    ·rw[if_neg e1]at hl
     by_cases e2:l=i
     ·subst e2
      rw[Nat.sub_self,List.getElem?_cons_zero]at hl
      cases hl
      refine⟨hnew.1,fun j x hx=>?_⟩
      obtain⟨v,r1,r2,r3⟩:=hnew.2 j x hx
      exact⟨v,r1,r2,B3 hf r3⟩
     ·obtain⟨m,rfl⟩:∃ m,l=m+1:=⟨l-1,by omega⟩
      have e3:m+1-i=(m-i)+1:=by omega
      rw[e3,List.getElem?_cons_succ,List.getElem?_drop,show i+(m-i)=m by omega]at hl
      obtain⟨q1,q2⟩:=hold m el hl
      refine⟨q1,fun j x hx=>?_⟩
      obtain⟨v,r1,r2,r3⟩:=q2 j x hx
      rw[if_neg (by omega)]at r1
      exact⟨v,r1,r2,B3 hf r3⟩
   | 1,hj =>
    simp only[List.getElem?_cons_succ,List.getElem?_cons_zero,Option.some.injEq]at hj
    subst hj
    obtain⟨a1,a2⟩:=hc.obj 1 _ hH1
    refine⟨fun h=>a1 (by rw[<-hρ1 1 (by omega)];exact h),fun b' k' h=>?_⟩
    rw[hρ1 1 (by omega)]at h
    obtain⟨ne,hlt⟩:=h1ne _ _ h
    obtain⟨vs,r1,r2,r3,r4,r5⟩:=a2 b' k' h
    exact⟨vs,by rw[hw,hoth b' hlt ne];exact r1,r2,r3,r4,fun o ho=>by rw[hk'];exact r5 o ho⟩
   | j+2,hj=>simp at hj
 ·refine⟨by rw[hH'];simp,⟨_,_,rfl,hmax,.inr ⟨_,_,rfl⟩⟩,fun e' sz' els' hh=>?_⟩
  rw[hH']at hh
  simp only[List.getElem?_cons_zero,Option.some.injEq,Ob.row.injEq]at hh
  obtain⟨rfl,rfl,rfl⟩:=hh
  exact⟨rfl,by omega,fun _=>by rw[hρ0];rfl⟩
end Go.Dw
end
section
namespace Go.Dw
open Go.Proofs Go.Sort Go.Lib
theorem Ab1 (args:Array Value)(w:World):(callFunc 297 args).run Tryz.prog w=.ok (.enter 297 args) w:=enters_of (P:=Tryz.prog) Tryz.func297 (by kernel_rfl) rfl args w
theorem Y7 {c:Cx}(hc:Bb c){els:List (List V)}{new:List V}{e i n:Nat}(hH:c.H=[.row e 4 els,.arr e 4 1])(hn:els.length=n)(hi:i<=n){w':World}{bN kN:Nat}{vs0 vs1:Array Value}{us cs:List Value}
  (hb:(∃ k,c.ρ 0=some (bN,k))\/c.w.heap.size<=bN) (hmax:n+1<=Ah) (h1:w'.heap[bN]?=some (.cells vs1 e (0,0))) (h2:vs1.size=kN*4) (h3:n+1<=kN) (h4:kN<=C7)
  (hrow:Ms c 4 els vs0) (hcs:∀ j,j<n*4->cs[j]?=vs0[j]?) (hus:new.length=4/\∀ (j:Nat)(x:V),new[j]?=some x->∃ v,us[j]?=some v/\Cz v=true/\BI c x v)
  (hcell:∀ j,j<(n+1)*4->vs1[j]?=if j<i*4 then cs[j]? else if j<i*4+4 then us[j-i*4]? else cs[j-4]?)
  (hoth:∀ b',b'<c.w.heap.size->b'≠bN->w'.heap[b']?=c.w.heap[b']?) (hsz:c.w.heap.size<=w'.heap.size) (hos:w'.os=c.w.os) (htp:w'.tape=c.w.tape) (hou:w'.output=c.w.output) (hdr:c.w.drawn<=w'.drawn:=by first | exact Nat.le_refl _ | exact Nat.le_succ _ | (simp only[Mn];first | exact Nat.le_refl _ | exact Nat.le_succ _) | (subst_vars;simp only[World.drew,World.alloc,Mn];omega)) :
  ∃ v x c',Ending.returned (.slice (some ⟨bN,0,none⟩) (n+1) kN)=.returned v/\c'.w=w'/\(x=.rw 0 4 (n+1)/\c'.H=[.row e 4 (els.take i++new::els.drop i),.arr e 4 1])/\Bb c'/\BI c' x v/\Fr c c':=by
 refine zw hc hH hn hi hb hmax h1 h2 h3 h4 (fun l el hl=>?_) ⟨hus.1,fun j x hx=>?_⟩ hoth hsz hos htp hou hdr (us:=us)
 ·obtain⟨q1,q2⟩:=hrow l el hl
  refine⟨q1,fun j x hx=>?_⟩
  obtain⟨v,r1,r2,r3⟩:=q2 j x hx
  have hj:j<4:=by rw[<-q1];exact (List.getElem?_eq_some_iff.1 hx).1
  have hln:l<n:=by rw[<-hn];exact (List.getElem?_eq_some_iff.1 hl).1
  refine⟨v,?_,r2,r3⟩
  by_cases e1:l<i
  ·rw[if_pos e1,hcell _ (by omega),if_pos (by omega),hcs _ (by omega)];exact r1
  ·rw[if_neg e1,hcell _ (by omega),if_neg (by omega),if_neg (by omega),hcs _ (by omega),show (l+1)*4+j-4=l*4+j by omega];exact r1
 ·obtain⟨v,r1,r2,r3⟩:=hus.2 j x hx
  have hj:j<4:=by rw[<-hus.1];exact (List.getElem?_eq_some_iff.1 hx).1
  refine⟨v,?_,r2,r3⟩
  rw[hcell _ (by omega),if_neg (by omega),if_pos (by omega),show i*4+j-i*4=j by omega];exact r1
theorem jx (els:List (List V))(new:List V)(i n:Nat)(hn:els.length=n)(hi:i<=n)(hbig:(n+1)*64<=Ah) :
  Spec prog Gk [.rw 0 4 n,.int .i64 i,.own 1 4 [new]] [.row Cc 4 els,.arr Cc 4 1] fun x H'=>x=.rw 0 4 (n+1)/\H'=[.row Cc 4 (els.take i++new::els.drop i),.arr Cc 4 1]:=by
 intro c vs hH hc hr
 obtain⟨v0,vs',rfl,hv0,v1,vs'',rfl,hv1,v2,vs3,rfl,hv2,hvn⟩:=hr
 have hvn:vs3=[]:=hvn
 subst hvn
 have hv1:v1=.int .i64 i:=hv1
 subst hv1
 left
 have hH0:c.H[0]?=some (.row Cc 4 els):=by rw[hH];rfl
 have hH1:c.H[1]?=some (.arr Cc 4 1):=by rw[hH];rfl
 refine⟨Ab1 _ _,?_⟩
 obtain⟨hp,_,q2⟩:=hv2
 have hcur:=(q2 _ _ _ hH1).2.2 rfl
 obtain⟨a',c',b',o',e3,_,_,_,e4,e5⟩:=hp
 obtain⟨us,s1,s2,s3⟩:=Mj e5
 have he4:=e4.resolve_left (by simp)
 subst e3 he4
 cases hρ1:c.ρ 1 with
 | none=>rw[hρ1]at hcur;cases hcur
 | some bk =>
 obtain⟨vb,kv⟩:=bk
 rw[hρ1]at hcur
 have hcur:Value.slice (some ⟨b',o',none⟩) 1 c'=.slice (some ⟨vb,0,none⟩) 1 kv:=hcur
 simp only[Value.slice.injEq,Option.some.injEq,Addr.mk.injEq,and_true,true_and]at hcur
 obtain⟨⟨rfl,rfl⟩,rfl⟩:=hcur
 obtain⟨va,va1,va2,va3,va4,_⟩:=(hc.obj 1 _ hH1).2 _ _ hρ1
 have hus4:us.length=4:=by simpa using s1
 have husc:∀ j v,us[j]?=some v->c.w.cell? ⟨b',j,none⟩=some v:=fun j v hj=>by have:=(s2 j v hj).1;simpa using this
 have hus1:∀ v∈us,v.oneCell'=true:=fun v hv=>by
  obtain⟨j,hj,e⟩:=List.getElem_of_mem hv
  rw[Tb];exact (s2 j v (by rw[List.getElem?_eq_getElem hj,e])).2
 have hnewf:new.length=4/\∀ (j:Nat)(x:V),new[j]?=some x->∃ v,us[j]?=some v/\Cz v=true/\BI c x v:=by
  obtain⟨t1,t2⟩:=s3 0 new rfl
  refine⟨t1,fun j x hx=>?_⟩
  obtain⟨v,u1,u2⟩:=t2 j x hx
  have u1:us[j]?=some v:=by simpa using u1
  exact⟨v,u1,(s2 j v u1).2,Fg u2⟩
 have hvlt:b'<c.w.heap.size:=(Array.getElem?_eq_some_iff.1 va1).1
 have hmx:Ah=140737488355328:=rfl
 have hcm:C7=9223372036854775807:=rfl
 obtain⟨_,⟨a0,k0,hv0,hle0,_⟩,q3⟩:=hv0
 have hcur0:=(q3 _ _ _ hH0).2.2 hn
 obtain⟨o1,o2⟩:=hc.obj 0 _ hH0
 cases hρ0:c.ρ 0 with
 | none =>
  have hels:=o1 hρ0
  subst hels
  have hn0:n=0:=hn.symm
  subst hn0
  have hi0:i=0:=by omega
  subst hi0
  rw[hρ0]at hcur0
  have hcur0:v0=.slice none 0 0:=hcur0
  subst hcur0
  refine (Tryz.ins_end_grow none 0 0 b' c' [] us c.w (by omega) (by omega) (by omega) rfl hus4 (fun _=>rfl) (fun a h=>by cases h) husc hus1).mono ?_
  rintro e w' ⟨rfl,rfl⟩
  have hG:=grownCap_ge c.w 1 0 148
  have hG2:=grownCap_le_maxLen c.w 1 0 148 (by unfold maxLen;omega)
  generalize grownCap c.w (0+1) 0 148=G at hG hG2 ⊢
  refine Y7 hc hH rfl (Nat.le_refl 0) (bN:=c.w.heap.size) (kN:=G) (vs0:=#[]) (vs1:=([]++us).toArray++Builtin.zeroCells IV.cells (G-1)) (us:=us) (cs:=[]) (.inr (Nat.le_refl _)) (by omega) ?_ ?_ hG (by unfold maxLen at hG2;omega) (fun l el hl=>by simp at hl) (fun j hj=>by omega) hnewf (fun j hj=>?_) (fun b1 h1 h2=>?_) ?_ rfl rfl rfl
  ·show (c.w.heap.push _)[c.w.heap.size]?=_
   rw[Array.getElem?_push_size];rfl
  ·have hzc:IV.cells.size=4:=rfl
   simp only[Array.size_append,Gx,hzc,List.size_toArray,List.nil_append,hus4];omega
  ·rw[if_neg (by omega),if_pos (by omega),Array.getElem?_append_left (by simp;omega)]
   simp
  ·exact BZ h1
  ·show c.w.heap.size<=(c.w.heap.push _).size
   rw[Array.size_push];omega
 | some bk =>
 obtain⟨b,k⟩:=bk
 rw[hρ0]at hcur0
 have hcur0:v0=.slice (some ⟨b,0,none⟩) n k:=hcur0
 subst hcur0
 obtain⟨vs0,r1,r2,r3,r4,r5,r6⟩:=o2 b k hρ0
 rw[hn]at r3
 have hblt:b<c.w.heap.size:=(Array.getElem?_eq_some_iff.1 r1).1
 have hvb:b'≠b:=fun e=>by
  have:=hc.inj 0 1 b k c' (by rw[hH];simp) (by rw[hH];simp) hρ0 (e▸hρ1)
  omega
 generalize hcs:vs0.toList.take (n*4)=cs
 have hcsl:cs.length=n*4:=by rw[<-hcs,List.length_take,Array.length_toList,r2];omega
 have hcsg:∀ j,j<n*4->cs[j]?=vs0[j]?:=fun j hj=>by rw[<-hcs,List.getElem?_take,if_pos hj];simp
 have hcell:∀ j,c.w.cell? ⟨b,j,none⟩=vs0[j]?:=fun j=>by simp only[World.cell?,r1];rfl
 have hfz:∀ j,c.w.frozen? ⟨b,j,none⟩=false:=fun j=>by simp[World.frozen?,r1]
 have hcsc:∀ j v,cs[j]?=some v->c.w.cell? ⟨b,j,none⟩=some v:=fun j v hj=>by
  have hjl:j<n*4:=by rw[<-hcsl];exact (List.getElem?_eq_some_iff.1 hj).1
  rw[hcell,<-hcsg j hjl];exact hj
 have hcs1:∀ v∈cs,v.oneCell'=true:=fun v hv=>by
  obtain⟨j,hj,e⟩:=List.getElem_of_mem hv
  have hjl:j<n*4:=by rw[<-hcsl];exact hj
  have hl:j / 4<els.length:=by omega
  obtain⟨t1,t2⟩:=r6 (j / 4) els[j / 4] (List.getElem?_eq_getElem hl)
  obtain⟨u,u1,u2,_⟩:=t2 (j % 4) (els[j / 4][j % 4]'(by omega)) (List.getElem?_eq_getElem (by omega))
  rw[show j / 4*4+j % 4=j by omega,<-hcsg j hjl,List.getElem?_eq_getElem hj,e]at u1
  cases u1
  rw[Tb];exact u2
 have hsp:k ≥ n+1->∀ j,j<(n+1)*4->(c.w.cell? ⟨b,j,none⟩).isSome=true:=fun hk j hj=>by
  rw[hcell,Array.getElem?_eq_getElem (by omega)];rfl
 by_cases hin:i=n
 ·subst hin
  by_cases hk:i+1<=k
  ·refine (Tryz.ins_end_room b i k b' c' us c.w hk (by omega) hus4 (fun j hj=>hsp hk _ (by omega)) (fun j _=>hfz _) husc hus1).mono ?_
   rintro e w' ⟨rfl,rfl⟩
   obtain⟨g1,g2,g3,g4,g5,g6⟩:=FU b us (i*4) c.w
   obtain⟨vs1,g7,g8⟩:=g3 _ _ _ r1
   have hw:∀ j,vs1[j]?=(c.w.setCells b (i*4) us).cell? ⟨b,j,none⟩:=fun j=>by simp only[World.cell?,g7];rfl
   refine Y7 hc hH hn hi (bN:=b) (kN:=k) (vs0:=vs0) (vs1:=vs1) (us:=us) (cs:=cs) (.inl ⟨k,hρ0⟩) (by omega) g7 (by rw[g8,r2]) hk r4 r6 hcsg hnewf (fun j hj=>?_) (fun b1 _ h2=>g2 b1 h2) (by rw[g1];exact Nat.le_refl _) g4 g5 g6
   rw[hw]
   by_cases e1:j<i*4
   ·rw[if_pos e1,World.cell?_setCells_out b _ _ _ _ (fun _ _=>.inl e1),hcell,hcsg j e1]
   ·rw[if_neg e1,if_pos (by omega)]
    have:=World.cell?_setCells_in b us (i*4) c.w (fun t ht=>hsp hk _ (by omega)) (j-i*4) (by omega)
    rw[show i*4+(j-i*4)=j by omega]at this
    rw[this,List.getElem?_eq_getElem]
  ·refine (Tryz.ins_end_grow (some ⟨b,0,none⟩) i k b' c' cs us c.w r3 (by omega) (by omega) hcsl hus4 (fun h=>by cases h) (fun a h j v hj=>by cases h;rw[Addr.add_lit,Nat.zero_add];exact hcsc j v hj) husc hus1).mono ?_
   rintro e w' ⟨rfl,rfl⟩
   have hG:=grownCap_ge c.w (i+1) k 148
   have hG2:=grownCap_le_maxLen c.w (i+1) k 148 (by unfold maxLen;omega)
   generalize grownCap c.w (i+1) k 148=G at hG hG2 ⊢
   refine Y7 hc hH hn hi (bN:=c.w.heap.size) (kN:=G) (vs0:=vs0) (vs1:=(cs++us).toArray++Builtin.zeroCells IV.cells (G-(i+1))) (us:=us) (cs:=cs) (.inr (Nat.le_refl _)) (by omega) ?_ ?_ hG (by unfold maxLen at hG2;omega) r6 hcsg hnewf (fun j hj=>?_) (fun b1 h1 h2=>?_) ?_ rfl rfl rfl
   ·show (c.w.heap.push _)[c.w.heap.size]?=_
    rw[Array.getElem?_push_size];rfl
   ·have hzc:IV.cells.size=4:=rfl
    simp only[Array.size_append,Gx,hzc,List.size_toArray,List.length_append,hus4,hcsl];omega
   ·rw[Array.getElem?_append_left (by simp[hcsl,hus4];omega),List.getElem?_toArray,List.getElem?_append,hcsl]
    by_cases e1:j<i*4
    ·rw[if_pos e1,if_pos e1]
    ·rw[if_neg e1,if_neg e1,if_pos (by omega)]
   ·exact BZ h1
   ·show c.w.heap.size<=(c.w.heap.push _).size
    rw[Array.size_push];omega
 ·have hin':i<n:=by omega
  by_cases hk:n+1<=k
  ·refine (Tryz.ins_shift b n k i b' c' cs us c.w hin' hk (by omega) hvb hcsl hus4 hcsc (hsp hk) (fun j _=>hfz _) husc hcs1 hus1 Cc Cc va.size vs0.size (by simp[World.shape?,va1]) (by simp[World.shape?,r1]) (by omega) (by simp[World.frozen?,va1]) (by simp[World.frozen?,va1])).mono ?_
   rintro e w' ⟨rfl,rfl⟩
   have hdl:(cs.drop (i*4)).length=(n-i)*4:=by rw[List.length_drop,hcsl];omega
   have hsp':∀ j,j<(n+1)*4->(c.w.drew.cell? ⟨b,j,none⟩).isSome=true:=hsp hk
   obtain⟨g1,g2,g3,g4,g5,g6⟩:=FU b (cs.drop (i*4)) ((i+1)*4) c.w.drew
   obtain⟨vsA,g7,g8⟩:=g3 _ _ _ r1
   generalize hW1:c.w.drew.setCells b ((i+1)*4) (cs.drop (i*4))=W1 at g1 g2 g3 g4 g5 g6 g7 ⊢
   obtain⟨f1,f2,f3,f4,f5,f6⟩:=FU b us (i*4) W1
   obtain⟨vs1,f7,f8⟩:=f3 _ _ _ g7
   have hw:∀ j,vs1[j]?=(W1.setCells b (i*4) us).cell? ⟨b,j,none⟩:=fun j=>by simp only[World.cell?,f7];rfl
   refine Y7 hc hH hn hi (bN:=b) (kN:=k) (vs0:=vs0) (vs1:=vs1) (us:=us) (cs:=cs) (.inl ⟨k,hρ0⟩) (by omega) f7 (by rw[f8,g8,r2]) hk r4 r6 hcsg hnewf (fun j hj=>?_) (fun b1 _ h2=>by rw[f2 b1 h2,g2 b1 h2];rfl) (by rw[f1,g1];exact Nat.le_refl _) (by rw[f4,g4];rfl) (by rw[f5,g5];rfl) (by rw[f6,g6];rfl)
   rw[hw]
   have hsp1:∀ j,j<(n+1)*4->(W1.cell? ⟨b,j,none⟩).isSome=true:=fun j hj=>by
    rw[<-hW1]
    exact isSome_setCells b _ _ c.w.drew (fun t ht=>hsp' ((i+1)*4+t) (by rw[hdl]at ht;omega)) _ (hsp' j hj)
   by_cases e1:j<i*4
   ·rw[if_pos e1,World.cell?_setCells_out b _ _ _ _ (fun _ _=>.inl e1),<-hW1,World.cell?_setCells_out b _ _ _ _ (fun _ _=>.inl (by show j<(i+1)*4;omega))]
    show c.w.cell? ⟨b,j,none⟩=_
    rw[hcell,hcsg j (by omega)]
   ·rw[if_neg e1]
    by_cases e2:j<i*4+4
    ·rw[if_pos e2]
     have:=World.cell?_setCells_in b us (i*4) W1 (fun t ht=>hsp1 _ (by omega)) (j-i*4) (by omega)
     rw[show i*4+(j-i*4)=j by omega]at this
     rw[this,List.getElem?_eq_getElem]
    ·rw[if_neg e2,World.cell?_setCells_out b _ _ _ _ (fun _ _=>.inr (by show i*4+us.length<=j;omega)),<-hW1]
     have:=World.cell?_setCells_in b (cs.drop (i*4)) ((i+1)*4) c.w.drew (fun t ht=>hsp' _ (by omega)) (j-(i+1)*4) (by omega)
     rw[show (i+1)*4+(j-(i+1)*4)=j by omega]at this
     rw[this,<-List.getElem?_eq_getElem,List.getElem?_drop,show i*4+(j-(i+1)*4)=j-4 by omega]
  ·refine (Tryz.ins_grow b n k i b' c' cs us c.w hin' r3 (by omega) (by omega) hcsl hus4 hcsc husc hcs1 hus1).mono ?_
   rintro e w' ⟨rfl,rfl⟩
   have hG:=grownCap_ge c.w (n+1) k 148
   have hG2:=grownCap_le_maxLen c.w (n+1) k 148 (by unfold maxLen;omega)
   generalize grownCap c.w (n+1) k 148=G at hG hG2 ⊢
   have hdl:(cs.drop (i*4)).length=(n-i)*4:=by rw[List.length_drop,hcsl];omega
   have hzc:IV.cells.size=4:=rfl
   generalize hR:(cs.take (i*4)).toArray++Builtin.zeroCells IV.cells (n+1-i)++Builtin.zeroCells IV.cells (G-(n+1))=ROW
   have hRs:ROW.size=G*4:=by
    rw[<-hR]
    simp only[Array.size_append,Gx,hzc,List.size_toArray,List.length_take,hcsl];omega
   have hRg:∀ j,j<i*4->ROW[j]?=cs[j]?:=fun j hj=>by
    rw[<-hR,Array.getElem?_append_left (by simp[Gx,hzc,hcsl];omega),Array.getElem?_append_left (by simp[hcsl];omega),List.getElem?_toArray,List.getElem?_take,if_pos hj]
   generalize hN:c.w.heap.size=N
   have hNb:∀ j,(c.w.alloc (.cells ROW 148)).cell? ⟨N,j,none⟩=ROW[j]?:=fun j=>World.cell?_alloc_at (w:=c.w) ROW _ N j hN.symm
   generalize hW0:(c.w.alloc (.cells ROW 148)).drew=W0
   have hW0c:∀ j,W0.cell? ⟨N,j,none⟩=ROW[j]?:=fun j=>by rw[<-hW0];exact hNb j
   have hW0h:W0.heap=c.w.heap.push (.cells ROW 148):=by rw[<-hW0];rfl
   obtain⟨g1,g2,g3,g4,g5,g6⟩:=FU N us (i*4) W0
   obtain⟨vsA,g7,g8⟩:=g3 ROW Cc (0,0) (by rw[hW0h,<-hN,Array.getElem?_push_size];rfl)
   have hsA:∀ j,j<(n+1)*4->((W0.setCells N (i*4) us).cell? ⟨N,j,none⟩).isSome=true:=fun j hj =>
    isSome_setCells N us _ W0 (fun t ht=>by rw[hW0c,Array.getElem?_eq_getElem (by omega)];rfl) _ (by rw[hW0c,Array.getElem?_eq_getElem (by omega)];rfl)
   generalize hW1:W0.setCells N (i*4) us=W1 at g1 g2 g3 g4 g5 g6 g7 hsA ⊢
   obtain⟨f1,f2,f3,f4,f5,f6⟩:=FU N (cs.drop (i*4)) ((i+1)*4) W1.drew
   obtain⟨vs1,f7,f8⟩:=f3 _ _ _ g7
   have hw:∀ j,vs1[j]?=(W1.drew.setCells N ((i+1)*4) (cs.drop (i*4))).cell? ⟨N,j,none⟩:=fun j=>by simp only[World.cell?,f7];rfl
   have hold:∀ b1,b1<c.w.heap.size->b1≠N->W0.heap[b1]?=c.w.heap[b1]?:=fun b1 h _=>by rw[hW0h];exact BZ h
   refine Y7 hc hH hn hi (bN:=N) (kN:=G) (vs0:=vs0) (vs1:=vs1) (us:=us) (cs:=cs) (.inr (by omega)) (by omega) f7 (by rw[f8,g8,hRs]) hG (by unfold maxLen at hG2;omega) r6 hcsg hnewf (fun j hj=>?_) (fun b1 h1 h2=>?_) ?_ ?_ ?_ ?_
   ·rw[hw]
    by_cases e1:j<i*4
    ·rw[if_pos e1,World.cell?_setCells_out N _ _ _ _ (fun _ _=>.inl (by show j<(i+1)*4;omega))]
     show W1.cell? ⟨N,j,none⟩=_
     rw[<-hW1,World.cell?_setCells_out N _ _ _ _ (fun _ _=>.inl e1),hW0c,hRg j e1]
    ·rw[if_neg e1]
     by_cases e2:j<i*4+4
     ·rw[if_pos e2,World.cell?_setCells_out N _ _ _ _ (fun _ _=>.inl (by show j<(i+1)*4;omega))]
      show W1.cell? ⟨N,j,none⟩=_
      rw[<-hW1]
      have:=World.cell?_setCells_in N us (i*4) W0 (fun t ht=>by rw[hW0c,Array.getElem?_eq_getElem (by omega)];rfl) (j-i*4) (by omega)
      rw[show i*4+(j-i*4)=j by omega]at this
      rw[this,List.getElem?_eq_getElem]
     ·rw[if_neg e2]
      have:=World.cell?_setCells_in N (cs.drop (i*4)) ((i+1)*4) W1.drew (fun t ht=>hsA _ (by omega)) (j-(i+1)*4) (by omega)
      rw[show (i+1)*4+(j-(i+1)*4)=j by omega]at this
      rw[this,<-List.getElem?_eq_getElem,List.getElem?_drop,show i*4+(j-(i+1)*4)=j-4 by omega]
   ·rw[f2 b1 h2]
    show W1.heap[b1]?=_
    rw[g2 b1 h2,hold b1 h1 h2]
   ·rw[f1]
    show c.w.heap.size<=W1.heap.size
    rw[g1,hW0h,Array.size_push];omega
   ·rw[f4]
    show W1.os=_
    rw[g4,<-hW0];rfl
   ·rw[f5]
    show W1.tape=_
    rw[g5,<-hW0];rfl
   ·rw[f6]
    show W1.output=_
    rw[g6,<-hW0];rfl
end Go.Dw
end
namespace Go.Dw
theorem Tj {σ:Nat->Option Nat}{s:List A7}:(s.map cB).map (AS σ)=s.map cB:=by rw[List.map_map];rfl
attribute [push_cast] Tj
theorem me {s:List A7}{k:Nat}(h:k<s.length):(s.map cB)[k]?=some (cB (s.getD k default)):=by
 rw[List.getElem?_map];simp[List.getD_eq_getElem?_getD,h]
abbrev PA (s:List A7):Ob:=.row Cc 4 (s.map cB)
theorem UI {g:Nat}(hg:∀ b v,PF g [Yv b,.str v] (.int .i64 (Ip b.name v)))(s:List A7)(v:A9)(hs:DO s)(hl:s.length<2^61) :
  Spec prog AL [.rw 0 4 s.length,.str v,.fn (.func g) [] []] [PA s] fun x H'=>x=.tup [.int .i64 (Jd v s),.bool (bound s v)]/\H'=[PA s]:=by
 refine AK mixed Aj.ok rfl ?_
 have hle:=RS v s
 push_cast
 have key:∀ (m i j:Nat),j-i<=m->i<=Jd v s->Jd v s<=j->j<=s.length->Aj.L3 (.rw 0 4 s.length) (.str v) (.fn (.func g) [] []) (.int .i64 s.length) (.int .i64 i) (.int .i64 j) 1 [PA s]
   (Bo 1 Aj.rs fun x' H'=>x'=.tup [.int .i64 (Jd v s),.bool (bound s v)]/\H'=[PA s]):=by
  intro m
  induction m with
  | zero =>
   intro i j hm h1 h2 h3
   have hij:i=Jd v s:=by omega
   refine A5.2 ?_
   push_cast[AZ (show j<=i by omega)]
   unfold bound
   rw[NW hs]
   by_cases hi:i<s.length
   ·push_cast[BC hi,me hi,List.length_map]
    refine .of (hg _ _) ?_
    push_cast
    refine DJ (.inl rfl) rfl ⟨?_,rfl⟩
    push_cast[Rd,hij]
    rw[hij]at hi
    by_cases hn:(s.getD (Jd v s) default).name=v
    ·rw[if_pos ⟨hi,hn⟩];simp only[hn];rfl
    ·rw[if_neg (fun h=>hn h.2)];simp only[hn];rfl
   ·push_cast[AZ (show s.length<=i by omega)]
    refine DJ (.inl rfl) rfl ⟨?_,rfl⟩
    push_cast[hij]
    rw[if_neg (fun h=>hi (by omega))]
    rfl
  | succ m ih =>
   intro i j hm h1 h2 h3
   by_cases hij:i<j
   ·refine A5.2 ?_
    have hh:=Aec (i:=i) (j:=j) (by omega) (by omega)
    generalize hq:(i+j) / 2=h at hh
    have hk:h<s.length:=by omega
    push_cast[BC hij]
    simp only[hh]
    push_cast[BC hk,me hk,List.length_map]
    refine .of (hg _ _) ?_
    push_cast[CD (show h<2^62 by omega),K8]
    refine⟨fun hc=>ih (h+1) j (by omega) ?_ h2 h3,fun hc=>ih i h (by omega) h1 ?_ (by omega)⟩
    ·rcases Nat.lt_or_ge h (Jd v s)with h4 | h4
     ·omega
     ·exact absurd hc (Z3 hs h4 hk)
    ·rcases Nat.lt_or_ge h (Jd v s)with h4 | h4
     ·exact absurd (YO h4) hc
     ·exact h4
   ·exact ih i j (by omega) h1 h2 h3
 exact key s.length 0 s.length (by omega) (by omega) hle (Nat.le_refl _)
def Gh (s:List A7)(v:A9)(t:Term):List A7:=s.take (Jd v s)++⟨v,t⟩::s.drop (Jd v s)
theorem aV (s:List A7)(v:A9)(t:Term):(Gh s v t).length=s.length+1:=by
 have:=RS v s
 unfold Gh;simp;omega
theorem qt (s:List A7):Je 1 [PA s]:=⟨rfl,by show [A6 (AM 1) (PA s)]=_;rw[Jv,Tj]⟩
theorem YZ (s:List A7)(v:A9)(t:Term)(hs:DO s)(hl:s.length<2^40):Spec prog OH [.rw 0 4 s.length,.str v,An t] [PA s] fun x H'=>x=.rw 0 4 (s.length+1)/\H'=[PA (Gh s v t)]:=by
 have hB:=UI WV s v hs (by omega)
 have hle:=RS v s
 have hI:=jx (s.map cB) (cB ⟨v,t⟩) (Jd v s) s.length (by simp) hle (by unfold Ah;omega)
 have hbt:(s.map cB).take (Jd v s)++cB ⟨v,t⟩::(s.map cB).drop (Jd v s)=(Gh s v t).map cB:=by unfold Gh;simp
 rw[hbt]at hI
 refine AK mixed XS.ok rfl ?_
 push_cast
 refine BD.all (Bj▸hB) ?_
 rintro x H' ⟨rfl,rfl⟩
 push_cast
 refine BD.all (Bj▸hI) ?_
 rintro x H' ⟨rfl,rfl⟩
 push_cast
 exact Ap (H:=[PA (Gh s v t)]) (J:=[_]) (qt _) rfl ⟨rfl,rfl⟩
theorem TN {s:List A7}{v:A9}{t:Term}(hs:DO s)(hn:Af s v=none):DO (Gh s v t):=by
 have hle:=RS v s
 have h1:∀ b∈s.take (Jd v s),b.name<v:=fun b hb=>by
  obtain⟨j,hj,rfl⟩:=List.getElem_of_mem hb
  have hjl:j<Jd v s:=by rw[List.length_take]at hj;omega
  have:=YO hjl
  simpa[List.getD_eq_getElem?_getD,show j<s.length by omega]using this
 have h2:∀ b∈s.drop (Jd v s),v<b.name:=fun b hb=>by
  obtain⟨j,hj,rfl⟩:=List.getElem_of_mem hb
  have hjl:Jd v s+j<s.length:=by rw[List.length_drop]at hj;omega
  have h3:=Z3 hs (Nat.le_add_right (Jd v s) j) hjl
  have he:(s.drop (Jd v s))[j]=s.getD (Jd v s+j) default:=by simp[List.getD_eq_getElem?_getD,hjl]
  rw[he]
  have hne:(s.getD (Jd v s+j) default).name≠v:=fun e=>by
   have hi:=NW (v:=v) hs
   rw[hn]at hi
   split at hi
   ·cases hi
   ·rename_i hc
    refine hc ⟨by omega,?_⟩
    rcases Nat.eq_zero_or_pos j with h0 | h0
    ·subst h0;exact e
    ·have h5:(s.getD (Jd v s) default).name<(s.getD (Jd v s+j) default).name:=by
      have:=List.pairwise_iff_getElem.1 hs (Jd v s) (Jd v s+j) (by omega) hjl (by omega)
      simpa[List.getD_eq_getElem?_getD,hjl,show Jd v s<s.length by omega]using this
     rw[e]at h5
     exact absurd h5 (Z3 hs (Nat.le_refl _) (by omega))
  rcases Classical.em (v<(s.getD (Jd v s+j) default).name)with h | h
  ·exact h
  ·exact absurd (Xg h3 h) hne
 unfold Gh
 refine List.pairwise_append.2 ⟨List.Pairwise.sublist (List.take_sublist _ _) hs,List.pairwise_cons.2 ⟨h2,List.Pairwise.sublist (List.drop_sublist _ _) hs⟩,fun a ha b hb=>?_⟩
 rcases List.mem_cons.1 hb with rfl | hb
 ·exact h1 a ha
 ·exact NE (h1 a ha) (h2 b hb)
theorem nJ {s:List A7}{v:A9}{t:Term}{b:A7}(h:b∈Gh s v t):b∈s\/b=⟨v,t⟩:=by
 unfold Gh at h
 rcases List.mem_append.1 h with h | h
 ·exact .inl (List.mem_of_mem_take h)
 ·rcases List.mem_cons.1 h with h | h
  ·exact .inr h
  ·exact .inl (List.mem_of_mem_drop h)
mutual
def short:Term->Bool
 | .mk n v l=>decide (n.length<=24)&&((!v||l.isEmpty)&&Su l)
def Su:List Term->Bool
 | []=>true
 | a::l=>short a&&Su l
end
theorem jt {l:List Term}:Su l=true↔∀ a∈l,short a=true:=by
 induction l with
 | nil=>simp[Su]
 | cons a l ih=>simp[Su,ih]
theorem C4 {t:Term}:short t=true↔t.name.length<=24/\(t.var=true->t.args=[])/\∀ a∈t.args,short a=true:=by
 cases t with | mk n v l=>cases v<;>simp[short,jt,Term.name,Term.var,Term.args]
theorem SQ (t:Term):Db t=true->short t=true:=by
 induction t using Ai with
 | h t ih =>
 intro h
 rw[EX]at h
 rw[C4]
 split at h
 ·simp only[Bool.and_eq_true,decide_eq_true_eq,BW]at h
  refine⟨h.2.1,fun _=>List.length_eq_zero_iff.1 h.1,fun a ha=>?_⟩
  rw[List.length_eq_zero_iff.1 h.1]at ha;cases ha
 ·rename_i hv
  simp only[Bool.and_eq_true,decide_eq_true_eq,BW,List.all_eq_true]at h
  exact⟨h.2.1.1,fun hv2=>absurd hv2 hv,fun a ha=>ih a ha (h.2.2 a ha)⟩
mutual
theorem TU:∀ t,short t=true->tb t<=25*size t
 | .mk n v l,h=>by
  simp only[short,Bool.and_eq_true,decide_eq_true_eq]at h
  have:=bC l h.2.2
  simp only[tb,size]
  simp only[tbs]at this
  omega
theorem bC:∀ l,Su l=true->tbs l<=25*Ae l
 | [],_=>by simp[tbs,tb.tbs,Ae]
 | a::l,h=>by
  simp only[Su,Bool.and_eq_true]at h
  have h1:=TU a h.1
  have h2:=bC l h.2
  simp only[tbs,tb.tbs,Ae]at h2 ⊢
  omega
end
theorem ir {s:List A7}(hs:∀ b∈s,short b.term=true)(t:Term):short t=true->short (AC s t)=true:=by
 induction t using Ai with
 | h t ih =>
 intro ht
 rw[Is]
 have h:=C4.1 ht
 split
 ·cases hx:Af s t.name with
  | none=>exact C4.2 ⟨h.1,fun _=>rfl,fun a ha=>by simp[Term.args]at ha⟩
  | some x =>
   obtain⟨b,hb,_,rfl⟩:=UF hx
   exact hs b hb
 ·refine C4.2 ⟨h.1,fun hv=>by simp[Term.var]at hv,fun a ha=>?_⟩
  simp only[Term.args,List.mem_map]at ha
  obtain⟨y,hy,rfl⟩:=ha
  exact ih y hy (h.2.2 y hy)
theorem oC {l:List Term}{k:Nat}{x:Term}(hk:k<l.length):Ae (l.set k x)+size (l.getD k default)=Ae l+size x:=by
 induction l generalizing k with
 | nil=>simp at hk
 | cons a l ih =>
  cases k with
  | zero=>simp[Ae];omega
  | succ k =>
   have:=ih (k:=k) (by simpa using hk)
   simp only[List.set_cons_succ,Ae,List.getD_cons_succ]
   omega
theorem UY:∀ (p:List Int)(t x:Term),size (J8 t p x)<=size t+size x
 | [],t,x=>by simp only[J8];omega
 | i::p,t,x=>by
  have h1:=AJ t
  have h2:=AJ (J8 t (i::p) x)
  rw[h2,UE]
  split
  ·rename_i hi
   have hk:i.toNat<t.args.length:=by omega
   have h3:=oC (x:=J8 (t.args.getD i.toNat default) p x) hk
   have h4:=UY p (t.args.getD i.toNat default) x
   omega
  ·omega
theorem QO {t:Term}(h:BJ t=true):size t<=4000:=by
 simp only[BJ,Bool.and_eq_true,decide_eq_true_eq]at h;exact h.1
def Ab2 (t:Term):Prop:=short t=true/\size t<=4000
theorem XI {t:Term}(h:FQ t=0):Ab2 t:=by
 unfold FQ at h
 split at h
 ·rename_i h1
  split at h
  ·rename_i h2;exact⟨SQ t h1,QO h2⟩
  ·omega
 ·omega
def vm (p:List Int):List V:=[I0 p]
abbrev Tw (l:List (List Int)):V:=DT vm 1 l
theorem Adc (p:List Int):(vm p)[0]?=some (I0 p):=rfl
theorem yN (p:List Int):(vm p).length=1:=rfl
attribute [push_cast] Adc yN
mutual
theorem S5:∀ (t:Term)(p:List Int),∀ x∈Aq t p,x.2.name.length<tb t
 | .mk n v l,p,x,hx=>by
  rw[Ht]at hx
  simp only[tb]
  rcases List.mem_cons.1 hx with rfl | hx
  ·simp only[Term.name];omega
  ·have:=VO l p 0 x hx;simp only[tbs]at this;omega
theorem VO:∀ (l:List Term)(p:List Int)(i:Nat),∀ x∈B9 l p i,x.2.name.length<tbs l
 | [],p,i,x,hx=>by simp[B9]at hx
 | a::l,p,i,x,hx=>by
  simp only[B9,List.mem_append]at hx
  simp only[tbs,tb.tbs]
  rcases hx with hx | hx
  ·have:=S5 a _ x hx;omega
  ·have:=VO l _ _ x hx;simp only[tbs]at this;omega
end
theorem SA {M:Nat}:∀ (l:List (List Int×Term)) {m m':TD},Dt m l=some m'->(∀ x∈l,x.2.name.length<M)->(∀ p∈m,p.1.length<M)->∀ p∈m',p.1.length<M
 | [],m,m',h,_,hm=>by cases h;exact hm
 | x::l,m,m',h,hl,hm=>by
  simp only[Dt]at h
  cases hs:Dc m x.2 with
  | none=>rw[hs]at h;cases h
  | some m1 =>
   rw[hs,Option.bind_some]at h
   refine SA l h (fun y hy=>hl y (by simp[hy])) ?_
   unfold Dc at hs
   split at hs
   ·cases hs;exact hm
   ·split at hs
    ·split at hs
     ·cases hs;exact hm
     ·cases hs
    ·cases hs
     intro p hp
     rcases List.mem_append.1 hp with hp | hp
     ·exact hm p hp
     ·simp only[List.mem_singleton]at hp;subst hp;exact hl x (by simp)
theorem TF {M:Nat}:∀ (r:List A2) {m m':TD},CN m r=some m'->KJ r<=M->(∀ p∈m,p.1.length<M)->∀ p∈m',p.1.length<M
 | [],m,m',h,_,hm=>by cases h;exact hm
 | x::r,m,m',h,hM,hm=>by
  simp only[CN]at h
  simp only[KJ]at hM
  cases ha:Dt m (Aq x.left [])with
  | none=>rw[ha]at h;cases h
  | some m1 =>
   rw[ha,Option.bind_some]at h
   cases hb:Dt m1 (Aq x.right [])with
   | none=>rw[hb]at h;cases h
   | some m2 =>
    rw[hb,Option.bind_some]at h
    exact TF r h (by omega) (SA _ hb (fun y hy=>by have:=S5 _ _ y hy;omega) (SA _ ha (fun y hy=>by have:=S5 _ _ y hy;omega) hm))
theorem M4 (r:List A2)(hs:KJ r<2^38):PF E2 [Al r] (.int .i64 (Ao r)) :=
 Sf r hs fun m hm p hp=>by have:=TF r hm (Nat.le_refl _) (by simp) p hp;omega
theorem N7:∀ {r:List A2},Dx r=0->∀ x∈r,FQ x.left=0/\FQ x.right=0
 | [],_,x,hx=>by cases hx
 | y::r,h,x,hx=>by
  simp only[Dx]at h
  split at h
  ·omega
  ·rename_i h1
   rcases List.mem_cons.1 hx with rfl | hx
   ·simp only[Jt,ne_eq,Classical.not_not]at h1
    split at h1
    ·omega
    ·rename_i h2
     split at h1
     ·omega
     ·rename_i h3
      exact⟨by simpa using h2,by simpa using h3⟩
   ·exact N7 h x hx
theorem GX {r:List A2}(h:Ao r=0):∀ x∈r,Ab2 x.left/\Ab2 x.right:=by
 have h1:Bt r=0:=by
  unfold Ao at h
  split at h
  ·rename_i h1;exact absurd h h1
  ·rename_i h1;simpa using h1
 unfold Bt at h1
 split at h1
 ·omega
 ·intro x hx
  have:=N7 h1 x hx
  exact⟨XI this.1,XI this.2⟩
end Go.Dw
section
namespace Go.Dw
open Go.Proofs.YtkdcfkfdkimaeaaGreatDoor
abbrev okW (W:World):Nat->Nat->Prop:=fun b _=>b<W.heap.size
def Ml (W:World)(xs:List V)(cs:List Value):Prop:=N3 W (okW W) xs cs/\∀ u∈cs,Cz u=true
theorem bu {w:World}{ok:Nat->Nat->Prop}:∀ {xs ys:List V} {cs ds:List Value},N3 w ok xs cs->N3 w ok ys ds->N3 w ok (xs++ys) (cs++ds)
 | [],ys,cs,ds,h1,h2=>by
  have h1:cs=[]:=h1
  subst h1;exact h2
 | x::xs,ys,cs,ds,⟨v,vs,e,h1,h2⟩,h3=>by
  subst e
  exact⟨v,vs++ds,rfl,h1,bu h2 h3⟩
theorem ZN {w:World}{ok:Nat->Nat->Prop}:∀ {xs:List V} {cs:List Value} {i:Nat} {x:V},N3 w ok xs cs->xs[i]?=some x->∃ v,cs[i]?=some v/\GA w ok x v
 | [],_,i,x,_,h=>by simp at h
 | y::xs,cs,i,x,⟨v,vs,e,h1,h2⟩,h=>by
  subst e
  cases i with
  | zero=>simp only[List.getElem?_cons_zero,Option.some.injEq]at h;subst h;exact⟨v,rfl,h1⟩
  | succ i=>simp only[List.getElem?_cons_succ]at h ⊢;exact ZN h2 h
theorem Ml.app {W:World}{xs ys:List V}{cs ds:List Value}(h1:Ml W xs cs)(h2:Ml W ys ds):Ml W (xs++ys) (cs++ds) :=
 ⟨bu h1.1 h2.1,fun u hu=>(List.mem_append.1 hu).elim (h1.2 u) (h2.2 u)⟩
theorem Ml.one {W:World}{x:V}{c:Value}(h:GA W (okW W) x c)(ho:Cz c=true):Ml W [x] [c]:=⟨⟨c,[],rfl,h,rfl⟩,fun u hu=>by simp only[List.mem_singleton]at hu;subst hu;exact ho⟩
section
variable {H:Type} {enc:TypeId × Value->H} {W:World}
noncomputable abbrev vt (enc:TypeId×Value->H)(W:World):=DataW.trod enc prog W 0 (fun _=>true) true
def Br {α:Type}(enc:TypeId×Value->H)(W:World)(n:Nat)(t:TypeId)(c:α->List V)(b:α->Nat):Prop:=∀ cs x,vt enc W n t cs=some x->Rows.uptoBulk x.1<=1048576->∃ a,b a<=Rows.uptoBulk x.1/\Ml W (c a) cs
theorem rb {n:Nat}:Br enc W n Cf (fun s:A9=>[.str s]) (fun s=>s.length+1):=by
 intro cs x h _
 obtain⟨s,rfl,rfl,_⟩:=DataW.trod_string (P:=prog) Go.Proofs.Tryz.underlying9 h
 refine⟨s.data.toList,by simp[Rows.uptoBulk],Ml.one ?_ rfl⟩
 show Value.string s=.string ⟨⟨s.data.toList⟩⟩
 cases s with | mk d=>cases d;rfl
theorem lh {n:Nat}:Br enc W n ko (fun s:Bool=>[.bool s]) (fun _=>1):=by
 intro cs x h _
 obtain⟨s,rfl,rfl⟩:=DataW.trod_bool (P:=prog) Go.Proofs.Tryz.underlying4 h
 exact⟨s,by simp[Rows.uptoBulk],Ml.one rfl rfl⟩
theorem AcO {n:Nat}:Br enc W n F1 (fun s:Int=>cI s) (fun _=>1):=by
 intro cs x h _
 obtain⟨s,rfl,rfl,_⟩:=DataW.trod_int (P:=prog) Go.Proofs.Tryz.underlying3 h
 exact⟨s,by simp[Rows.uptoBulk],Ml.one rfl rfl⟩
theorem nA {w:World}{a:Addr}{v:Value}(h:w.cell? a=some v):a.spot=none/\a.block<w.heap.size:=by
 unfold World.cell? at h
 split at h
 ·rename_i hb
  split at h
  ·cases h
  ·rename_i hs
   exact⟨by cases hq:a.spot<;>simp_all,(Array.getElem?_eq_some_iff.1 hb).1⟩
 ·cases h
theorem gc {a:Addr}(h:a.spot=none)(n:Nat):a.add n=⟨a.block,a.off+n,none⟩:=by
 unfold Addr.add
 split
 ·rename_i h0;subst h0;cases a;simp_all
 ·rfl
def US {α:Type}(b:α->Nat):List α->Nat
 | []=>0
 | x::l=>b x+US b l
theorem AaZ (d:DataW H):1<=Rows.uptoBulk d:=by
 cases d with
 | lit l=>cases l<;>simp[Rows.uptoBulk]
 | _=>simp[Rows.uptoBulk]
theorem rK (l:List (DataW H)):l.length<=Rows.uptoBulkAll l:=by
 induction l with
 | nil=>simp[Rows.uptoBulkAll]
 | cons x r ih=>have:=AaZ x;simp only[Rows.uptoBulkAll,List.length_cons];omega
theorem pf {d:DataW H}{l:List (DataW H)}(h:d∈l):Rows.uptoBulk d<=Rows.uptoBulkAll l:=by
 induction l with
 | nil=>cases h
 | cons x r ih =>
  simp only[Rows.uptoBulkAll]
  rcases List.mem_cons.1 h with e | e
  ·subst e;omega
  ·have:=ih e;omega
theorem kD {α:Type}{b:α->Nat}:∀ {l:List α} {es:List (DataW H×List MemPlace)},l.length=es.length->(∀ (i:Nat)(a:α)(e:DataW H×List MemPlace),l[i]?=some a->es[i]?=some e->b a<=Rows.uptoBulk e.1)->US b l<=Rows.uptoBulkAll (es.map (·.1))
 | [],[],_,_=>by simp[US]
 | [],_::_,h,_=>by simp at h
 | _::_,[],h,_=>by simp at h
 | a::l,e::es,h,hb=>by
  have h1:=hb 0 a e rfl rfl
  have h2:=kD (l:=l) (es:=es) (by simpa using h) fun i a' e' h1 h2=>hb (i+1) a' e' (by simpa using h1) (by simpa using h2)
  simp only[US,List.map_cons,Rows.uptoBulkAll];omega
theorem Tn {α:Type}{n:Nat}{ts t:TypeId}{sz:Nat}{c:α->List V}{b:α->Nat}(hts:prog.underlying ts=some (.slice t))(hsz:prog.cellsOf t=sz)(hpos:0<sz)(hc:∀ a,(c a).length=sz)
  (h:∀ m,m+1=n->Br enc W m t c b):Br enc W n ts (fun l:List α=>[DT c sz l]) (fun l=>US b l+1):=by
 intro cs x hx hbk
 rcases DataW.trod_slice (P:=prog) hts hx with ⟨rfl,rfl⟩|⟨a,len,cap,Eg,rest,m,rfl,rfl,rfl,_,hle,hcap,hlen,hel,_,_⟩
 ·exact⟨[],by simp[US,Rows.uptoBulk],Ml.one ⟨none,0,0,0,rfl,Nat.le_refl _,by unfold C7;omega,by unfold Ah;simp,.inl rfl,trivial⟩ rfl⟩
 ·have hbr:=h m rfl
  have hba:Rows.uptoBulkAll (Eg.map (·.1))<=1048576:=by simp only[Rows.uptoBulk]at hbk;omega
  have hln:=rK (Eg.map (·.1))
  rw[List.length_map]at hln
  rw[hsz]at hel
  have step:∀ i,i<len->∃ y:α,(∀ e,Eg[i]?=some e->b y<=Rows.uptoBulk e.1)/\∃ ecs,W.cells? 0 (a.add (i*sz)) sz=some ecs/\Ml W (c y) ecs:=by
   intro i hi
   have h1:=hel i hi
   have hil:i<Eg.length:=by omega
   rw[List.getElem?_eq_getElem hil]at h1
   simp only[Option.bind_eq_some_iff]at h1
   obtain⟨ecs,h2,h3⟩:=h1
   obtain⟨y,hy1,hy2⟩:=hbr ecs _ h3 (Nat.le_trans (pf (List.mem_map.2 ⟨_,List.getElem_mem hil,rfl⟩)) hba)
   refine⟨y,fun e he=>?_,ecs,h2,hy2⟩
   rw[List.getElem?_eq_getElem hil]at he
   cases he;exact hy1
  obtain⟨f,hf⟩:∃ f:Nat->Option α,∀ i,i<len->∃ y,f i=some y/\(∀ e,Eg[i]?=some e->b y<=Rows.uptoBulk e.1)/\∃ ecs,W.cells? 0 (a.add (i*sz)) sz=some ecs/\Ml W (c y) ecs:=by
   refine⟨fun i=>if h:i<len then some (Classical.choose (step i h)) else none,fun i hi=>?_⟩
   exact⟨Classical.choose (step i hi),by simp[hi],Classical.choose_spec (step i hi)⟩
  have hl:∀ k,k<=len->∃ l:List α,l.length=k/\∀ i,i<k->f i=l[i]?:=by
   intro k
   induction k with
   | zero=>intro _;exact⟨[],rfl,fun i hi=>by omega⟩
   | succ k ih =>
    intro hk
    obtain⟨l,h1,h2⟩:=ih (by omega)
    obtain⟨y,hy,_⟩:=hf k (by omega)
    refine⟨l++[y],by simp[h1],fun i hi=>?_⟩
    rcases Nat.lt_succ_iff_lt_or_eq.1 hi with h3 | rfl
    ·rw[List.getElem?_append_left (by omega)];exact h2 i h3
    ·rw[List.getElem?_append_right (by omega),h1];simpa using hy
  obtain⟨l,hl1,hl2⟩:=hl len (Nat.le_refl _)
  have hat:∀ i y,l[i]?=some y->(∀ e,Eg[i]?=some e->b y<=Rows.uptoBulk e.1)/\∃ ecs,W.cells? 0 (a.add (i*sz)) sz=some ecs/\Ml W (c y) ecs:=by
   intro i y hy
   have hi:i<len:=by rw[<-hl1];exact (List.getElem?_eq_some_iff.1 hy).1
   obtain⟨z,h1,h2⟩:=hf i hi
   rw[hl2 i hi,hy]at h1
   cases h1;exact h2
  refine⟨l,?_,Ml.one ?_ rfl⟩
  ·have:=kD (b:=b) (l:=l) (es:=Eg) (by omega) fun i y e h1 h2=>(hat i y h1).1 e h2
   simp only[Rows.uptoBulk];omega
  ·have hspot:l≠[]->a.spot=none/\a.block<W.heap.size:=by
    intro hne
    obtain⟨y,hy⟩:∃ y,l[0]?=some y:=by cases l with | nil=>exact absurd rfl hne | cons y l=>exact⟨y,rfl⟩
    obtain⟨_,ecs,h1,h2⟩:=hat 0 y hy
    obtain⟨_,g1,g2⟩:=World.cells?_some h1
    have h3:=g2 0 hpos
    have hel:ecs.length=sz:=g1
    obtain⟨e0,he0⟩:∃ e0,ecs[0]?=some e0:=⟨ecs[0]'(by omega),List.getElem?_eq_getElem (by omega)⟩
    rw[he0]at h3
    simpa[Addr.add]using nA h3
   refine⟨some a,cap,a.block,a.off,by simp[hl1],by simpa[hl1]using hle,by unfold C7;unfold maxLen at hcap;omega,?_,?_,IN fun i e he=>?_⟩
   ·rw[List.length_map];unfold Ah;omega
   ·by_cases hne:l=[]
    ·left;simp[hne]
    ·right
     have:=(hspot hne).1
     cases a;simp_all
   ·rw[List.getElem?_map]at he
    cases hy:l[i]? with
    | none=>rw[hy]at he;cases he
    | some y =>
     rw[hy]at he
     simp only[Option.map_some,Option.some.injEq]at he
     subst he
     obtain⟨_,ecs,h1,h2⟩:=hat i y hy
     obtain⟨_,g1,g2⟩:=World.cells?_some h1
     obtain⟨hsp,hbl⟩:=hspot (by intro e;rw[e]at hy;simp at hy)
     refine⟨hc y,IE fun j x hx=>?_⟩
     obtain⟨v,k1,k2⟩:=ZN h2.1 hx
     have hj:j<sz:=by rw[<-hc y];exact (List.getElem?_eq_some_iff.1 hx).1
     have h3:=g2 j hj
     rw[k1,gc hsp,gc rfl]at h3
     refine⟨v,?_,hbl,h2.2 v (List.mem_of_getElem? k1),k2⟩
     rw[Nat.zero_add,<-Nat.add_assoc]
     exact h3
theorem AcI {α:Type}{cs:List α}{a b:Nat}(h:cs.length=a+b):cs=(cs.drop 0).take a++(cs.drop a).take b:=by
 rw[List.drop_zero,List.take_of_length_le (l:=cs.drop a) (by simp;omega),List.take_append_drop]
theorem AaN {α:Type}{cs:List α}{a b c:Nat}(h:cs.length=a+b+c):cs=(cs.drop 0).take a++((cs.drop a).take b++(cs.drop (a+b)).take c):=by
 have h1:cs.drop a=(cs.drop a).take b++(cs.drop (a+b)).take c:=by
  rw[List.take_of_length_le (l:=cs.drop (a+b)) (by simp;omega),<-List.drop_drop,List.take_append_drop]
 rw[<-h1,List.drop_zero,List.take_append_drop]
theorem rN (l:List Term):US tb l=tbs l:=by
 induction l with
 | nil=>rfl
 | cons a l ih=>simp only[US,tbs,tb.tbs,ih]
theorem kV:∀ l:List A2,US (fun x:A2=>1+tb x.left+tb x.right) l=KJ l
 | []=>rfl
 | a::l=>by simp only[US,KJ,kV l]
theorem c9:prog.cellsOf 9=1:=by kernel_rfl
theorem c4:prog.cellsOf 4=1:=by kernel_rfl
theorem c3:prog.cellsOf 3=1:=by kernel_rfl
theorem c33:prog.cellsOf 33=1:=by kernel_rfl
theorem c35:prog.cellsOf 35=1+1+1:=by kernel_rfl
theorem Ad9:prog.cellsOf 107=3+3:=by kernel_rfl
theorem bW:∀ n,Br enc W n 35 cT tb
 | 0=>by intro cs x h;simp[DataW.trod]at h
 | n+1=>by
  intro cs x h hbk
  obtain⟨xs,m,hm,rfl,hl,hlen,hf⟩:=DataW.trod_struct (P:=prog) Go.Proofs.Tryz.underlying35 h
  obtain rfl:n=m:=by omega
  rw[c35]at hl
  match xs,hlen with
  | [x0,x1,x2],_ =>
  have f0:vt enc W n 9 ((cs.drop 0).take (prog.cellsOf 9))=some x0:=hf 0 _ rfl
  have f1:vt enc W n 4 ((cs.drop 1).take (prog.cellsOf 4))=some x1:=hf 1 _ rfl
  have f2:vt enc W n 33 ((cs.drop 2).take (prog.cellsOf 33))=some x2:=hf 2 _ rfl
  rw[c9]at f0;rw[c4]at f1;rw[c33]at f2
  simp only[List.map_cons,List.map_nil,Rows.uptoBulk,Rows.uptoBulkAll]at hbk ⊢
  obtain⟨s,b0,d0⟩:=rb _ _ f0 (by omega)
  obtain⟨v,b1,d1⟩:=lh _ _ f1 (by omega)
  obtain⟨l,b2,d2⟩:=Tn (n:=n) (sz:=3) (c:=cT) (b:=tb) Go.Proofs.Tryz.underlying33 c35 (by omega) (fun _=>rfl) (fun m hm=>bW m) _ _ f2 (by omega)
  try dsimp only at b0
  try dsimp only at b1
  try dsimp only at b2
  refine⟨.mk s v l,?_,?_⟩
  ·rw[rN]at b2
   simp only[tb]
   simp only[tbs]at b2
   omega
  ·rw[AaN hl,P7]
   exact d0.app (d1.app d2)
theorem zn:∀ n,Br enc W n 107 cR (fun x=>1+tb x.left+tb x.right)
 | 0=>by intro cs x h;simp[DataW.trod]at h
 | n+1=>by
  intro cs x h hbk
  obtain⟨xs,m,hm,rfl,hl,hlen,hf⟩:=DataW.trod_struct (P:=prog) Go.Proofs.Tryz.underlying107 h
  obtain rfl:n=m:=by omega
  rw[Ad9]at hl
  match xs,hlen with
  | [x0,x1],_ =>
  have f0:vt enc W n 35 ((cs.drop 0).take (prog.cellsOf 35))=some x0:=hf 0 _ rfl
  have f1:vt enc W n 35 ((cs.drop 3).take (prog.cellsOf 35))=some x1:=hf 1 _ rfl
  rw[c35]at f0 f1
  simp only[List.map_cons,List.map_nil,Rows.uptoBulk,Rows.uptoBulkAll]at hbk ⊢
  obtain⟨s,b0,d0⟩:=bW n _ _ f0 (by omega)
  obtain⟨v,b1,d1⟩:=bW n _ _ f1 (by omega)
  try dsimp only at b0
  try dsimp only at b1
  refine⟨⟨s,v⟩,by dsimp only;omega,?_⟩
  rw[AcI hl]
  exact d0.app d1
theorem uS {n:Nat}:Br enc W n 22 (fun r:List A2=>[Al r]) (fun r=>KJ r):=by
 intro cs x h hbk
 obtain⟨l,b0,d0⟩:=Tn (n:=n) (sz:=6) (c:=cR) (b:=fun x=>1+tb x.left+tb x.right) Go.Proofs.Tryz.underlying22 Ad9 (by omega) (fun _=>rfl) (fun m hm=>zn m) _ _ h hbk
 refine⟨l,?_,d0⟩
 have:US (fun x:A2=>1+tb x.left+tb x.right) l=KJ l:=kV l
 dsimp only at b0 ⊢
 omega
end
end Go.Dw
end
section
namespace Go.Dw
open Go.ChangeShapes Go.WideShapes Go.ChangeAt Go.RowKit Go.Proofs
theorem nO {H:Type}{enc:TypeId×Value->H}{P:Program}{f:Func}{s:ChangeSpec}{apart fresh handsOn again:Bool}{W W':World}{args:Array Value}{v:Value}{ds gs:List (DataW H)}{before pa pv:List MemPlace}
  (hW:DataW.Whole enc P f.params.toList s.vars apart W args.toList ds gs before)
  (hres:∀ (b:Nat)(sp:Nat->Bool)(hd:Bool),DataW.TrodAll enc P W' b sp hd f.resultTypes.toList (v.resultList f.resultTypes.size) (s.fn H (ds++gs)).results [])
  (hargs:∀ sp:Nat->Bool,(∀ p∈before,sp p.block=true)->DataW.TrodAll enc P W' 0 sp true f.params.toList args.toList (s.fn H (ds++gs)).args pa)
  (hvars:∀ sp:Nat->Bool,(∀ p∈before,sp p.block=true)->DataW.TrodVars enc P W' sp s.vars (s.fn H (ds++gs)).vars pv)
  (hps:before=pa++pv) (hk:W.keptBut W' (·∈before)) (hfz:∀ a:Addr,a.block<W.heap.size->W'.frozen? a=W.frozen? a)
  (hok:∀ (j:Nat)(t:TypeId)(r:Value),f.resultTypes[j]?=some t->(v.resultList f.resultTypes.size)[j]?=some r->Value.okWide P W' .any 0 t r) :
  s.post enc P f apart fresh handsOn again W args v W':=by
 have hold:∀ p∈before,(fun b=>decide (b<W.heap.size)) p.block=true:=fun p hp=>by simpa using hW.lt p hp
 have hlt:=hW.lt
 refine⟨ds,gs,before,[],pa,pv,hW,hres _ _ _,hargs _ hold,hvars _ hold,World.keptBut_mono (fun p hp=>⟨hp,?_⟩) hk,fun _=>?_⟩
 ·rw[hps,List.mem_append]at hp
  exact Or.inr hp
 ·obtain⟨_,_,_,_,_,hz,hn⟩:=hW
  refine⟨hok,_,_,([]++pa)++pv,⟨[]++pa,pv,trodAll_append (hargs _ (fun _ _=>rfl)) (hres _ _ _),hvars _ (fun _ _=>rfl),rfl,?_,?_⟩,?_⟩
  ·intro b off hp
   have hp':MemPlace.cell b off∈before:=by rw[hps];simpa using hp
   rw[hfz _ (hlt _ hp')]
   exact hz b off hp'
  ·intro ha
   have:=hn ha
   rw[hps]at this
   simpa using this
  ·intro p hp _
   rw[hps]
   simpa using hp
theorem VN {H:Type}{enc:TypeId×Value->H}{P:Program}{W W':World}(hh:∀ b,b<W.heap.size->W'.heap[b]?=W.heap[b]?){base:Nat}{sp:Nat->Bool}{held:Bool} :
  ∀ {ts:List TypeId} {vs:List Value} {ds:List (DataW H)} {ps:List MemPlace},DataW.TrodAll enc P W base sp held ts vs ds ps->DataW.TrodAll enc P W' base sp held ts vs ds ps
 | [],[],[],_,h=>h
 | [],[],_::_,_,h=>h.elim
 | [],_::_,_,_,h=>h.elim
 | _::_,[],_,_,h=>h.elim
 | _::_,_::_,[],_,h=>h.elim
 | t::ts,v::vs,d::ds,ps,⟨p,q,⟨n,h1⟩,h2,e⟩=>by
  refine⟨p,q,⟨n,DataW.trod_carry n _ _ _ h1 fun x hx=>?_⟩,VN hh h2,e⟩
  have hl:=DataW.trod_lt n _ _ _ h1 x hx
  cases x with
  | cell b o=>exact World.cell?_of_block (w:=W) (hh b hl)
  | map b=>exact hh b hl
end Go.Dw
end
namespace Go.Dw
inductive A0 where
 | mk (rule:Int) (name:A9) (var:Bool) (args:List A0)
deriving Inhabited
namespace A0
def rule:A0->Int | mk r _ _ _=>r
def name:A0->A9 | mk _ n _ _=>n
def var:A0->Bool | mk _ _ v _=>v
def args:A0->List A0 | mk _ _ _ a=>a
theorem eta (t:A0):mk t.rule t.name t.var t.args=t:=by cases t;rfl
end A0
mutual
def mh:A0->List (List V)
 | .mk _ _ _ ts=>YW ts
def YW:List A0->List (List V)
 | []=>[]
 | a::ts=>[.int .i64 a.rule,.str a.name,.bool a.var,.sl 4 (mh a)]::YW ts
end
def cM (t:A0):List V:=[.int .i64 t.rule,.str t.name,.bool t.var,.sl 4 (mh t)]
theorem mH (ts:List A0):YW ts=ts.map cM:=by
 induction ts with
 | nil=>simp[YW]
 | cons a ts ih=>simp[YW,ih,cM]
theorem sK (t:A0):mh t=t.args.map cM:=by cases t;simp[mh,mH,A0.args]
abbrev Av (l:List A0):V:=DT cM 4 l
theorem Xp (t:A0):cM t=[.int .i64 t.rule,.str t.name,.bool t.var,Av t.args]:=by rw[cM,sK];rfl
def AP (t:A0):V:=.agg (cM t)
theorem tI (t:A0):KL (AP t)=some (cM t):=rfl
theorem Aa5 (t:A0):(cM t).length=4:=rfl
theorem Afd (t:A0):(cM t)[0]?=some (.int .i64 t.rule):=rfl
theorem AeO (t:A0):(cM t)[1]?=some (.str t.name):=rfl
theorem Afc (t:A0):(cM t)[2]?=some (.bool t.var):=rfl
theorem Ae3 (t:A0):(cM t)[3]?=some (Av t.args):=by rw[Xp];rfl
theorem Acm (t:A0):sub 0 4 (cM t)=cM t:=rfl
theorem nY (t:A0):V.agg (cM t)=AP t:=rfl
theorem lO {σ:Nat->Option Nat}(t:A0):AS σ (cM t)=cM t:=rfl
theorem sk {σ:Nat->Option Nat}(t:A0):ren σ (AP t)=AP t:=by unfold AP;rw[Hd,lO]
theorem zC (r:Int)(n:A9)(v:Bool)(l:List A0):[V.int .i64 r,V.str n,.bool v,Av l]=cM (.mk r n v l):=by rw[Xp];rfl
theorem ZA (t:A0)(k:Nat):nN k none (AP t)=(cM t)[k]?:=rfl
theorem kU (x:List V)(a b c d:V)(h:x.length=4):put 0 x [a,b,c,d]=x:=by
 simp only[put,h];simp
theorem Aar (t:A0)(a b c d:V):put 0 (cM t) [a,b,c,d]=cM t:=kU _ _ _ _ _ rfl
theorem xd (t u:A0):put 0 (cM t) (cM u)=cM t:=kU _ _ _ _ _ rfl
attribute [push_cast] tI Aa5 Afd AeO Afc Ae3 Acm nY sk lO ZA Aar xd
mutual
def As:A0->Nat
 | .mk _ _ _ l=>1+BB l
def BB:List A0->Nat
 | []=>0
 | a::l=>As a+BB l
end
mutual
def AR:A0->Nat
 | .mk _ _ _ l=>AT l+1
def AT:List A0->Nat
 | []=>0
 | a::l=>max (AR a) (AT l)
end
mutual
def mb:A0->Nat
 | .mk _ n _ l=>1+n.length+uM l
def uM:List A0->Nat
 | []=>0
 | a::l=>mb a+uM l
end
theorem RD (a b:List A0):BB (a++b)=BB a+BB b:=by
 induction a with
 | nil=>simp[BB]
 | cons x xs ih=>simp[BB,ih];omega
theorem AU (t:A0):As t=1+BB t.args:=by cases t;simp[As,A0.args]
theorem CB (t:A0):AR t=AT t.args+1:=by cases t;simp[AR,A0.args]
theorem WL (t:A0):mb t=1+t.name.length+uM t.args:=by cases t;simp[mb,A0.args,A0.name]
theorem JH (l:List A0)(k:Nat)(h:k<l.length):BB (l.take (k+1))=BB (l.take k)+As (l.getD k default):=by
 rw[Aa h,RD];simp[BB]
theorem QB (l:List A0)(k:Nat):BB (l.take k)<=BB l:=by
 conv=>rhs;rw[<-List.take_append_drop k l]
 rw[RD];omega
theorem CP {l:List A0}{a:A0}(h:a∈l):As a<=BB l:=by
 induction l with
 | nil=>cases h
 | cons x xs ih=>rcases List.mem_cons.1 h with rfl | h<;>simp[BB];have:=ih h;omega
theorem cX {l:List A0}{a:A0}(h:a∈l):mb a<=uM l:=by
 induction l with
 | nil=>cases h
 | cons x xs ih=>rcases List.mem_cons.1 h with rfl | h<;>simp[uM];have:=ih h;omega
theorem B7 (l:List A0):l.length<=BB l:=by
 induction l with
 | nil=>simp
 | cons x xs ih=>simp only[BB,List.length_cons];have:=AU x;omega
theorem Xf (a b:List A0):AT (a++b)=max (AT a) (AT b):=by
 induction a with
 | nil=>simp[AT]
 | cons x xs ih=>simp[AT,ih,Nat.max_assoc]
theorem BU {p:A0->Prop}(h:∀ t,(∀ a∈t.args,p a)->p t)(t:A0):p t:=by
 have:∀ n t,As t<=n->p t:=by
  intro n
  induction n with
  | zero=>intro t ht;have:=AU t;omega
  | succ n ih =>
   intro t ht
   refine h t fun a ha=>ih a ?_
   have:=AU t
   have:=CP ha
   omega
 exact this (As t) t (Nat.le_refl _)
theorem W4 (t:A0):AR t<=As t:=by
 induction t using BU with
 | h t ih =>
  rw[CB,AU]
  have:∀ l:List A0,(∀ a∈l,AR a<=As a)->AT l<=BB l:=by
   intro l
   induction l with
   | nil=>intro _;simp[AT]
   | cons x l ihl =>
    intro hl
    have h1:=hl x (by simp)
    have h2:=ihl fun a ha=>hl a (by simp[ha])
    simp only[AT,BB];omega
  have:=this t.args ih
  omega
theorem GC (t:A0):As t<=mb t:=by
 induction t using BU with
 | h t ih =>
  rw[WL,AU]
  have:∀ l:List A0,(∀ a∈l,As a<=mb a)->BB l<=uM l:=by
   intro l
   induction l with
   | nil=>intro _;simp[uM,BB]
   | cons x l ihl =>
    intro hl
    have h1:=hl x (by simp)
    have h2:=ihl fun a ha=>hl a (by simp[ha])
    simp only[uM,BB];omega
  have:=this t.args ih
  omega
theorem Ge (l:List A0)(k:Nat)(h:k<l.length):AT (l.take (k+1))=max (AT (l.take k)) (AR (l.getD k default)):=by
 rw[Aa h,Xf];simp[AT]
theorem N6 (l:List A0):AT l<=BB l:=by
 induction l with
 | nil=>simp[AT]
 | cons x l ih=>have:=W4 x;simp only[AT,BB];omega
mutual
def meq:A0->A0->Bool
 | .mk r n v l,.mk r' n' v' l'=>r==r'&&n==n'&&v==v'&&je l l'
def je:List A0->List A0->Bool
 | [],[]=>true
 | a::l,b::m=>meq a b&&je l m
 | _,_=>false
end
mutual
theorem dz:∀ a b:A0,meq a b=true↔a=b
 | .mk r n v l,.mk r' n' v' l'=>by simp[meq,gk l l',and_assoc]
theorem gk:∀ a b:List A0,je a b=true↔a=b
 | [],[]=>by simp[je]
 | a::l,b::m=>by simp[je,dz a b,gk l m]
 | [],_::_=>by simp[je]
 | _::_,[]=>by simp[je]
end
instance:DecidableEq A0:=fun a b=>if h:meq a b=true then .isTrue ((dz a b).1 h) else .isFalse fun e=>h ((dz a b).2 e)
theorem ZB (s:A9)(h1:s.length<2^62):PF JR [.str s] (.bool (s.all EN)):=by
 refine Ab Ki.ok rfl ?_
 push_cast
 refine Ac (n:=s.length) (R:=fun k=>(s.drop k).all EN=s.all EN->Ki.L3 (.str s) (.int .i64 s.length) (.int .i64 k) 0 [] _) ?_ ?_ 0 (by omega) rfl
 ·intro k hk ih hq
  rw[Ag hk]at hq
  simp only[List.all_cons]at hq
  refine A5.2 ?_
  have hb:vC s k=((s.getD k default).toNat:Int):=rfl
  push_cast[BC hk,hb]
  refine .of (dJ _) ?_
  push_cast[CD (show k<2^62 by omega)]
  refine⟨fun h=>A1 ?_,fun h=>ih ?_⟩
  ·push_cast[Ki.rs]
   rw[<-hq];simp_all
  ·rw[<-hq];simp_all
 ·intro hq
  refine A5.2 ?_
  push_cast[AZ (Nat.le_refl _)]
  refine A1 ?_
  push_cast[Ki.rs]
  rw[<-hq,Ak];rfl
theorem eH {s:A9}(h:s≠[]):J2 s [35]=decide (vC s (s.length-1)=35):=by
 have hl:0<s.length:=List.length_pos_iff.2 h
 have e:s.drop (s.length-1)=[s.getD (s.length-1) default]:=by
  rw[Ag (show s.length-1<s.length by omega),show s.length-1+1=s.length by omega,Ak]
 have e2:vC s (s.length-1)=((s.getD (s.length-1) default).toNat:Int):=rfl
 unfold J2
 rw[e2]
 simp only[List.length_singleton]
 rw[decide_eq_true (show 1<=s.length by omega),Bool.true_and,decide_eq_decide,e]
 generalize s.getD (s.length-1) default=c
 constructor
 ·intro h;simp only[List.cons.injEq,and_true]at h;rw[h];rfl
 ·intro h;simp only[List.cons.injEq,and_true];exact UInt8.toNat_inj.1 (show c.toNat=35 by omega)
theorem SY (s:A9)(h1:s.length<2^62):PF Lf [.str s] (.bool (J2 s [35])):=by
 refine Ab O8.ok rfl ?_
 by_cases h:s=[]
 ·subst h
  push_cast
  refine A1 ?_
  push_cast[O8.rs]
  rfl
 ·have hl:0<s.length:=List.length_pos_iff.2 h
  have hlt:(((s.length-1:Nat):Int)<(s.length:Int))=True:=eq_true (by omega)
  push_cast[h,Aau h1 hl,hlt]
  refine A1 ?_
  push_cast[O8.rs,eH h]
theorem Ts (s:A9)(m:Bool)(h1:s.length<2^62):PF Ez [.str s,.bool m] (.bool (BW s m)):=by
 refine Ab Fq.ok rfl ?_
 push_cast
 refine⟨fun h=>A1 ?_,fun h=>?_⟩
 ·push_cast[Fq.rs,BW]
  rw[show decide (s.length<=24)=false from decide_eq_false (by omega)];rfl
 ·have hlen:s.length<=24:=by omega
  have hu:BW s m=(!decide (EG s m=[])&&(EG s m).all EN):=by simp[BW,hlen]
  rw[hu]
  have hnl:=Yj s m
  have hL:=ZB (EG s m) (by omega)
  have fin2:∀ u:A9,u=EG s m->PF JR [.str u] (.bool ((EG s m).all EN)):=fun u hu=>hu▸hL
  cases m with
  | false =>
   have hn:s=EG s false:=rfl
   push_cast
   rw[<-hn]
   by_cases h0:s=[]
   ·push_cast[h0]
    exact A1 (by push_cast[Fq.rs])
   ·push_cast[h0]
    refine .of (fin2 s hn) ?_
    push_cast
    exact A1 (by push_cast[Fq.rs];rw[<-hn])
  | true =>
   push_cast
   refine .of (SY s h1) ?_
   cases hm:J2 s [35]with
   | false =>
    have hn:s=EG s true:=by simp[EG,JP,hm]
    push_cast
    rw[<-hn]
    by_cases h0:s=[]
    ·push_cast[h0]
     exact A1 (by push_cast[Fq.rs])
    ·push_cast[h0]
     refine .of (fin2 s hn) ?_
     push_cast
     exact A1 (by push_cast[Fq.rs];rw[<-hn])
   | true =>
    have hn:(s.drop 0).take (s.length-1-0)=EG s true:=by simp[EG,JP,hm]
    have hl:0<s.length:=by
     unfold J2 at hm;simp only[Bool.and_eq_true,decide_eq_true_eq,List.length_singleton]at hm;omega
    have hle:s.length-1<=s.length:=by omega
    by_cases h0:EG s true=[]
    ·push_cast[Aau h1 hl,hn,hle,h0]
     refine⟨by omega,?_⟩
     exact A1 (by push_cast[Fq.rs,h0])
    ·push_cast[Aau h1 hl,hn,hle,h0]
     refine⟨by omega,.of hL ?_⟩
     push_cast
     exact A1 (by push_cast[Fq.rs,h0])
theorem Sn (t:Term)(hs:size t<2^62):PF Jz [An t] (.int .i64 (size t)):=by
 induction t using Ai with
 | h t ih =>
 refine Ab TS.ok rfl ?_
 have hst:=AJ t
 have hl:=Am t.args
 push_cast
 refine Ac (n:=t.args.length) (R:=fun k=>TS.L3 (.int .i64 ((1+Ae (t.args.take k):Nat):Int)) (Bk t.args) (.int .i64 t.args.length) (.int .i64 k) 0 [] _) ?_ ?_ 0 (by omega)
 ·intro k hk ih2
  have h1:=FN _ _ hk
  have h2:=EF t.args (k+1)
  have hm:=A4 hk
  refine A5.2 ?_
  push_cast[BC hk]
  refine .of (ih _ hm (by omega)) ?_
  push_cast[CD (show k<2^62 by omega)]
  rw[Bn (by omega) (by omega)]
  rw[h1]at ih2
  simpa[Int.add_assoc]using ih2
 ·refine A5.2 ?_
  push_cast[AZ (Nat.le_refl _)]
  refine A1 ?_
  push_cast[TS.rs,List.take_length,hst]
theorem Qw (t:Term)(hs:size t<2^62):PF I5 [An t] (.int .i64 (depth t)):=by
 induction t using Ai with
 | h t ih =>
 refine Ab QP.ok rfl ?_
 have hst:=AJ t
 have hl:=Am t.args
 have hd:=En t.args
 push_cast
 refine Ac (n:=t.args.length) (R:=fun k=>QP.L3 (.int .i64 (AD (t.args.take k):Nat)) (Bk t.args) (.int .i64 t.args.length) (.int .i64 k) 0 [] _) ?_ ?_ 0 (by omega)
 ·intro k hk ih2
  have h1:=O3 _ _ hk
  have hm:=A4 hk
  have:=By hm
  refine A5.2 ?_
  push_cast[BC hk]
  refine .of (ih _ hm (by omega)) ?_
  push_cast[CD (show k<2^62 by omega)]
  rw[h1]at ih2
  exact ih2
 ·refine A5.2 ?_
  push_cast[AZ (Nat.le_refl _)]
  rw[Bn (by have:=IX t.args t.args.length;omega) (by have:=IX t.args t.args.length;omega)]
  refine A1 ?_
  push_cast[QP.rs,List.take_length,Fz t]
theorem cr (t:Term)(hs:tb t<2^62):PF KT [An t] (.bool (Db t)):=by
 induction t using Ai with
 | h t ih =>
 have htb:=KX t
 have hl:=Hp t.args
 have hI:∀ m,PF Ez [.str t.name,.bool m] (.bool (BW t.name m)):=fun m=>Ts _ m (by omega)
 refine Ab Fl.ok rfl ?_
 cases hv:t.var with
 | true =>
  push_cast[hv]
  refine .of (hI false) ?_
  cases hn:BW t.name false
  ·push_cast
   exact A1 (by push_cast[Fl.rs,EX t,hv,hn])
  ·push_cast
   exact A1 (by push_cast[Fl.rs,EX t,hv,hn];simp)
 | false =>
  push_cast[hv]
  refine .of (hI true) ?_
  have hf:Db t=(decide (t.args.length<=8)&&(BW t.name true&&t.args.all Db)):=by rw[EX,hv];rfl
  rw[hf]
  cases hn:BW t.name true
  ·push_cast
   exact A1 (by push_cast[Fl.rs])
  ·by_cases h0:t.args.length<=8
   ·have hi:((8:Int)<(t.args.length:Int))=False:=eq_false (by omega)
    push_cast[hi,h0]
    refine Ac (n:=t.args.length) (R:=fun k=>(t.args.drop k).all Db=t.args.all Db->Fl.L3 (Bk t.args) (.int .i64 t.args.length) (.int .i64 k) 0 [] _) ?_ ?_ 0 (by omega) rfl
    ·intro k hk ih2 hq
     rw[Ag hk]at hq
     simp only[List.all_cons]at hq
     have hm:=A4 hk
     refine A5.2 ?_
     push_cast[BC hk]
     refine .of (ih _ hm (by have:=OC hm;omega)) ?_
     push_cast[CD (show k<2^62 by omega)]
     refine⟨fun h=>A1 ?_,fun h=>ih2 ?_⟩
     ·push_cast[Fl.rs]
      rw[<-hq];simp_all
     ·rw[<-hq];simp_all
    ·intro hq
     refine A5.2 ?_
     push_cast[AZ (Nat.le_refl _)]
     refine A1 ?_
     push_cast[Fl.rs]
     rw[<-hq,Ak];rfl
   ·have hi:((8:Int)<(t.args.length:Int))=True:=eq_true (by omega)
    push_cast[hi,h0]
    exact A1 (by push_cast[Fl.rs])
theorem gR (t:Term)(hs:tb t<2^62):PF Q8 [An t] (.int .i64 (FQ t)):=by
 have hst:=AX t
 refine Ab Ls.ok rfl ?_
 push_cast
 refine .of (cr t hs) ?_
 cases hf:Db t
 ·push_cast
  exact A1 (by push_cast[Ls.rs,FQ,hf])
 ·push_cast
  refine .of (Sn t (by omega)) ?_
  by_cases h:size t<=4000
  ·have hi:((4000:Int)<(size t:Int))=False:=eq_false (by omega)
   push_cast[hi]
   refine .of (Qw t (by omega)) ?_
   by_cases hd:depth t<=200
   ·have hi2:((200:Int)<(depth t:Int))=False:=eq_false (by omega)
    push_cast[hi2]
    exact A1 (by push_cast[Ls.rs,FQ,hf,BJ,h,hd])
   ·have hi2:((200:Int)<(depth t:Int))=True:=eq_true (by omega)
    push_cast[hi2]
    exact A1 (by push_cast[Ls.rs,FQ,hf,BJ,h,hd])
  ·have hi:((4000:Int)<(size t:Int))=True:=eq_true (by omega)
   push_cast[hi]
   exact A1 (by push_cast[Ls.rs,FQ,hf,BJ,h])
theorem XL (l:List Term)(hl:l.length<2^62)(hs:∀ t∈l,tb t<2^62):PF LG [Bk l] (.int .i64 (Jt l)):=by
 refine Ab J0.ok rfl ?_
 push_cast
 refine Ac (n:=l.length) (R:=fun k=>Jt (l.drop k)=Jt l->J0.L3 (Bk l) (.int .i64 l.length) (.int .i64 k) 0 [] _) ?_ ?_ 0 (by omega) rfl
 ·intro k hk ih hq
  rw[Ag hk]at hq
  simp only[Jt]at hq
  refine A5.2 ?_
  push_cast[BC hk]
  refine .of (gR _ (hs _ (A4 hk))) ?_
  push_cast[CD (show k<2^62 by omega)]
  refine⟨fun h=>A1 ?_,fun h=>ih ?_⟩
  ·push_cast[J0.rs]
   rw[<-hq,if_pos (by simpa using h)]
  ·rw[<-hq,if_neg (by simpa using h)]
 ·intro hq
  refine A5.2 ?_
  push_cast[AZ (Nat.le_refl _)]
  refine A1 ?_
  push_cast[J0.rs]
  rw[<-hq,Ak];rfl
def RX (a b:Int):Int:=if a<b then -1 else if b<a then 1 else 0
theorem IB (a b:Int):PF EA [.int .i64 a,.int .i64 b] (.int .i64 (RX a b)):=by
 refine Ab Kr.ok rfl ?_
 push_cast
 refine⟨fun h=>A1 ?_,fun h=>⟨fun h2=>A1 ?_,fun h2=>A1 ?_⟩⟩<;>push_cast[Kr.rs,RX,h]
 ·simp_all
 ·simp_all
def YC:A9->A9->Int
 | [],[]=>0
 | [],_::_=>-1
 | _::_,[]=>1
 | a::s,b::u=>if a=b then YC s u else RX a.toNat b.toNat
theorem wz:∀ a b:A9,YC a b=Ip a b:=by
 intro a b
 rw[WG]
 induction a generalizing b with
 | nil=>cases b<;>simp[YC]
 | cons x a ih =>
  cases b with
  | nil=>simp[YC]
  | cons y b =>
   simp only[YC,List.cons_lt_cons_iff]
   by_cases h:x=y
   ·subst h
    rw[if_pos rfl,ih]
    have:¬ x<x:=UInt8.lt_irrefl x
    simp[this]
   ·rw[if_neg h]
    have h':¬ y=x:=fun e=>h e.symm
    simp only[h,h',false_and,or_false,RX,UInt8.lt_iff_toNat_lt]
    norm_cast
theorem Cq (a b:A9)(ha:a.length<2^62)(hb:b.length<2^62):PF D8 [.str a,.str b] (.int .i64 (Ip a b)):=by
 rw[<-wz]
 refine Ab EV.ok rfl ?_
 have hmn:(if (b.length:Int)<(a.length:Int) then (b.length:Int) else (a.length:Int))=((min a.length b.length:Nat):Int):=by split<;>omega
 push_cast[hmn]
 refine Ac (n:=min a.length b.length) (R:=fun k=>YC (a.drop k) (b.drop k)=YC a b->EV.L3 (.str a) (.str b) (.int .i64 (min a.length b.length:Nat)) (.int .i64 k) 0 [] _) ?_ ?_ 0 (by omega) rfl
 ·intro k hk ih hq
  have hka:k<a.length:=by omega
  have hkb:k<b.length:=by omega
  rw[Ag hka,Ag hkb]at hq
  simp only[YC]at hq
  have h1:vC a k=((a.getD k default).toNat:Int):=rfl
  have h2:vC b k=((b.getD k default).toNat:Int):=rfl
  have hr:∀ c:UInt8,IntKind.i64.wrap (c.toNat:Int)=c.toNat:=fun c=>Bn (by omega) (by have:=UInt8.toNat_lt c;omega)
  refine A5.2 ?_
  push_cast[BC hk,BC hka,BC hkb,h1,h2,hr,CD (show k<2^62 by omega)]
  refine⟨fun h=>.of (IB _ _) ?_,fun h=>ih ?_⟩
  ·push_cast
   refine A1 ?_
   push_cast[EV.rs]
   rw[<-hq,if_neg]
   intro e;rw[e]at h;exact h rfl
  ·rw[<-hq,if_pos]
   exact UInt8.toNat_inj.1 (Int.ofNat.inj (by simpa using h))
 ·intro hq
  refine A5.2 ?_
  push_cast[AZ (Nat.le_refl _)]
  refine .of (IB _ _) ?_
  push_cast
  refine A1 ?_
  push_cast[EV.rs]
  rw[<-hq]
  rcases Nat.lt_or_ge a.length b.length with h | h
  ·rw[Nat.min_eq_left (by omega),Ak,Ag h]
   simp[YC,RX];omega
  ·rw[Nat.min_eq_right (by omega),Ak]
   rcases Nat.lt_or_ge b.length a.length with h2 | h2
   ·rw[Ag h2]
    simp[YC,RX];omega
   ·rw[show b.length=a.length by omega,Ak]
    simp[YC,RX]
mutual
def Dg (v:A9):Term->Nat
 | .mk n b l=>(if b&&decide (n=v) then 1 else 0)+C1 v l
def C1 (v:A9):List Term->Nat
 | []=>0
 | a::l=>Dg v a+C1 v l
end
theorem LT (v:A9)(t:Term):Dg v t=(if t.var&&decide (t.name=v) then 1 else 0)+C1 v t.args:=by cases t;rfl
theorem JY (v:A9)(a b:List Term):C1 v (a++b)=C1 v a+C1 v b:=by
 induction a with
 | nil=>simp[C1]
 | cons x xs ih=>simp[C1,ih];omega
theorem V7 (v:A9)(l:List Term)(k:Nat)(h:k<l.length):C1 v (l.take (k+1))=C1 v (l.take k)+Dg v (l.getD k default):=by
 rw[Aa h,JY];simp[C1]
theorem Q3 (v:A9)(l:List Term)(k:Nat):C1 v (l.take k)<=C1 v l:=by
 conv=>rhs;rw[<-List.take_append_drop k l]
 rw[JY];omega
mutual
theorem pL (v:A9):∀ t,Dg v t<=size t
 | .mk n b l=>by simp only[Dg,size];have:=Rb v l;split<;>omega
theorem Rb (v:A9):∀ l,C1 v l<=Ae l
 | []=>by simp[C1,Ae]
 | a::l=>by simp only[C1,Ae];have:=pL v a;have:=Rb v l;omega
end
theorem VC (t:Term)(v:A9)(hs:size t<2^62):PF Kj [An t,.str v] (.int .i64 (Dg v t)):=by
 induction t using Ai with
 | h t ih =>
 have hst:=AJ t
 have hl:=Am t.args
 have hce:=LT v t
 have hcl:=Rb v t.args
 have fin:∀ c:Nat,c<=1->Dg v t=c+C1 v t.args->Lr.L3 (.str v) (.int .i64 c) (Bk t.args) (.int .i64 t.args.length) (.int .i64 0) 0 [] (Bo 0 Lr.rs fun x' H'=>x'=.int .i64 (Dg v t)/\H'=[]):=by
  intro c hc hcv
  refine Ac (n:=t.args.length) (R:=fun k=>Lr.L3 (.str v) (.int .i64 ((c+C1 v (t.args.take k):Nat):Int)) (Bk t.args) (.int .i64 t.args.length) (.int .i64 k) 0 [] _) ?_ ?_ 0 (by omega)
  ·intro k hk ih2
   have h1:=V7 v _ _ hk
   have h2:=Q3 v t.args (k+1)
   have hm:=A4 hk
   have hm2:=By hm
   refine A5.2 ?_
   push_cast[BC hk]
   refine .of (ih _ hm (by omega)) ?_
   push_cast[CD (show k<2^62 by omega)]
   rw[Bn (by omega) (by omega)]
   rw[h1]at ih2
   simpa[Int.add_assoc]using ih2
  ·refine A5.2 ?_
   push_cast[AZ (Nat.le_refl _)]
   refine A1 ?_
   push_cast[Lr.rs,List.take_length,hcv]
 refine Ab Lr.ok rfl ?_
 cases hv:t.var with
 | true =>
  by_cases hn:t.name=v
  ·push_cast[hv,hn]
   exact fin 1 (by omega) (by rw[hce];simp[hv,hn])
  ·push_cast[hv,hn]
   exact fin 0 (by omega) (by rw[hce];simp[hv,hn])
 | false =>
  push_cast[hv]
  exact fin 0 (by omega) (by rw[hce];simp[hv])
def Zx {α:Type}(p:α->Bool):List α->Nat
 | []=>0
 | x::l=>if p x then Zx p l+1 else 0
theorem Ur {α:Type}(p:α->Bool):∀ l:List α,Zx p l<=l.length
 | []=>Nat.le_refl _
 | x::l=>by simp only[Zx];have:=Ur p l;split<;>simp<;>omega
theorem jM {α:Type}[Inhabited α]{p:α->Bool}:∀ {l:List α} {j:Nat},j<Zx p l->p (l.getD j default)=true
 | [],j,h=>by simp[Zx]at h
 | x::l,j,h=>by
  simp only[Zx]at h
  split at h
  ·rename_i hx
   cases j with
   | zero=>simpa using hx
   | succ j=>simpa using jM (l:=l) (j:=j) (by omega)
  ·omega
theorem jO {α:Type}[Inhabited α]{p:α->Bool}:∀ {l:List α},Zx p l<l.length->p (l.getD (Zx p l) default)=false
 | [],h=>by simp at h
 | x::l,h=>by
  simp only[Zx]at h ⊢
  split
  ·rename_i hx
   rw[if_pos hx]at h
   simpa using jO (l:=l) (by simpa using h)
  ·rename_i hx
   simpa using hx
def Pz (l:List A9)(s:A9):List A9:=if Zx (fun x=>decide (x<s)) l<l.length/\l.getD (Zx (fun x=>decide (x<s)) l) default=s then l else l.take (Zx (fun x=>decide (x<s)) l)++s::l.drop (Zx (fun x=>decide (x<s)) l)
theorem XP {l:List A9}{s v:A9}:v∈Pz l s↔v∈l\/v=s:=by
 unfold Pz
 split
 ·rename_i h
  constructor
  ·exact .inl
  ·rintro (h2 | rfl)
   ·exact h2
   ·rw[<-h.2];exact A4 h.1
 ·generalize Zx (fun x=>decide (x<s)) l=k
  have:=List.take_append_drop k l
  constructor
  ·intro h
   simp only[List.mem_append,List.mem_cons]at h
   rcases h with h | h | h
   ·exact .inl (List.mem_of_mem_take h)
   ·exact .inr h
   ·exact .inl (List.mem_of_mem_drop h)
  ·rintro (h | rfl)
   ·rw[<-this]at h
    simp only[List.mem_append,List.mem_cons]at h ⊢
    rcases h with h | h
    ·exact .inl h
    ·exact .inr (.inr h)
   ·simp
theorem Yr (l:List A9)(s:A9):(Pz l s).length<=l.length+1:=by
 unfold Pz
 have:=Ur (fun x=>decide (x<s)) l
 split<;>simp<;>omega
theorem Tq (l:List A9)(s:A9)(hl:l.length<2^40)(hn:∀ x∈l,x.length<2^62)(hs:s.length<2^62):PF KQ [Bw l,.str s] (Bw (Pz l s)):=by
 have hle:=Ur (fun x=>decide (x<s)) l
 have hge:=@jO _ _ (fun x=>decide (x<s)) l
 have hlt:=fun j=>@jM _ _ (fun x=>decide (x<s)) l j
 unfold Pz
 generalize Zx (fun x=>decide (x<s)) l=a at hle hge hlt
 refine Ab JK.ok rfl ?_
 push_cast
 refine Ac (n:=a) (R:=fun k=>JK.L4 (Bw l) (.str s) (.int .i64 k) 0 [] _) ?_ ?_ 0 (by omega)
 ·intro k hk ih
  have hkl:k<l.length:=by omega
  have h1:Ip (l.getD k default) s<0:=K8.2 (by simpa using hlt k hk)
  refine A5.2 ?_
  push_cast[BC hkl]
  refine .of (Cq _ _ (hn _ (A4 hkl)) hs) ?_
  push_cast[h1,CD (show k<2^62 by omega)]
  exact ih
 ·refine A5.2 ?_
  have tail:∀ m:Nat,m<=2^40->∀ b,b<=64->m*b<=Ah:=fun m hm b hb=>Nat.le_trans (Nat.mul_le_mul hm hb) (by unfold Ah;decide)
  rcases Nat.lt_or_ge a l.length with h | h
  ·have h2:¬ Ip (l.getD a default) s<0:=fun hc=>by have:=K8.1 hc;have:=hge h;simp_all
   push_cast[BC h]
   refine .of (Cq _ _ (hn _ (A4 h)) hs) ?_
   by_cases he:l.getD a default=s
   ·rw[he]at h2
    push_cast[h2,BC h,he,h]
    exact A1 (by push_cast[JK.rs])
   ·push_cast[h2,BC h,he,h]
    refine⟨⟨by omega,hle⟩,tail _ (by simp;omega) _ (by omega),tail _ (by simp;omega) _ (by omega),hle,tail _ (by simp;omega) _ (by omega),A1 ?_⟩
    push_cast[JK.rs]
    simp[DT,cS,List.take_of_length_le]
  ·push_cast[AZ h]
   rw[if_neg (by omega)]
   refine⟨⟨by omega,hle⟩,tail _ (by simp;omega) _ (by omega),tail _ (by simp;omega) _ (by omega),hle,tail _ (by simp;omega) _ (by omega),A1 ?_⟩
   push_cast[JK.rs]
   simp[DT,cS,List.take_of_length_le]
mutual
def DG (l:List A9):Term->List A9
 | .mk n b ar=>BF (if b then Pz l n else l) ar
def BF (l:List A9):List Term->List A9
 | []=>l
 | a::ar=>BF (DG l a) ar
end
theorem dV (l:List A9)(t:Term):DG l t=BF (if t.var then Pz l t.name else l) t.args:=by cases t;rfl
theorem Un (a b:List Term):∀ l:List A9,BF l (a++b)=BF (BF l a) b:=by
 induction a with
 | nil=>intro l;simp[BF]
 | cons x xs ih=>intro l;simp[BF,ih]
theorem Ro (s:List A9)(l:List Term)(k:Nat)(h:k<l.length):BF s (l.take (k+1))=DG (BF s (l.take k)) (l.getD k default):=by
 rw[Aa h,Un];simp[BF]
mutual
theorem It:∀ (t:Term)(l:List A9),(DG l t).length<=l.length+size t
 | .mk n b ar,l=>by
  simp only[DG,size]
  have:=Nl ar (if b then Pz l n else l)
  have:=Yr l n
  cases b<;>simp at *<;>omega
theorem Nl:∀ (ar:List Term)(l:List A9),(BF l ar).length<=l.length+Ae ar
 | [],l=>by simp[BF,Ae]
 | a::ar,l=>by simp only[BF,Ae];have:=It a l;have:=Nl ar (DG l a);omega
end
mutual
def CI (v:A9):Term->Bool
 | .mk n b ar=>(b&&decide (n=v))||EW v ar
def EW (v:A9):List Term->Bool
 | []=>false
 | a::ar=>CI v a||EW v ar
end
mutual
theorem Fw (v:A9):∀ (t:Term)(l:List A9),v∈DG l t↔v∈l\/CI v t=true
 | .mk n b ar,l=>by
  simp only[DG,CI,Nm v ar]
  cases b
  ·simp
  ·simp only[if_true,XP,Bool.true_and,Bool.or_eq_true,decide_eq_true_eq,or_assoc]
   constructor
   ·rintro (h | h | h)
    ·exact .inl h
    ·exact .inr (.inl h.symm)
    ·exact .inr (.inr h)
   ·rintro (h | h | h)
    ·exact .inl h
    ·exact .inr (.inl h.symm)
    ·exact .inr (.inr h)
theorem Nm (v:A9):∀ (ar:List Term)(l:List A9),v∈BF l ar↔v∈l\/EW v ar=true
 | [],l=>by simp[BF,EW]
 | a::ar,l=>by simp only[BF,EW,Nm v ar,Fw v a,Bool.or_eq_true,or_assoc]
end
mutual
theorem xt (v:A9):∀ t,CI v t=true->v.length<tb t
 | .mk n b ar,h=>by
  simp only[CI,Bool.or_eq_true,Bool.and_eq_true,decide_eq_true_eq]at h
  simp only[tb]
  rcases h with ⟨_,rfl⟩ | h
  ·omega
  ·have:=XE v ar h;simp only[tbs]at this;omega
theorem XE (v:A9):∀ l,EW v l=true->v.length<tbs l
 | [],h=>by simp[EW]at h
 | a::ar,h=>by
  simp only[EW,Bool.or_eq_true]at h
  simp only[tbs,tb.tbs]
  rcases h with h | h
  ·have:=xt v a h;omega
  ·have:=XE v ar h;simp only[tbs]at this;omega
end
mutual
theorem V1 (v:A9):∀ t,decide (Dg v t=0)=!CI v t
 | .mk n b ar=>by
  simp only[Dg,CI]
  have:=Y3 v ar
  cases b<;>by_cases h:n=v<;>simp_all
theorem Y3 (v:A9):∀ l,decide (C1 v l=0)=!EW v l
 | []=>by simp[C1,EW]
 | a::ar=>by
  have h1:=V1 v a
  have h2:=Y3 v ar
  have e:C1 v (a::ar)=Dg v a+C1 v ar:=rfl
  have e2:EW v (a::ar)=(CI v a||EW v ar):=rfl
  rw[e2,Bool.not_or,<-h1,<-h2]
  by_cases c1:Dg v a=0<;>by_cases c2:C1 v ar=0<;>simp[e,c1,c2]
end
theorem Vn (l:List Term)(k:Nat):tbs (l.take k)<=tbs l:=by
 induction l generalizing k with
 | nil=>simp
 | cons a l ih=>cases k with
  | zero=>simp[tbs,tb.tbs]
  | succ k=>simp only[List.take_succ_cons,tbs,tb.tbs];have:=ih k;simp only[tbs]at this;omega
theorem Zo (t:Term):∀ (l:List A9),tb t<2^39->l.length+size t<2^39->(∀ x∈l,x.length<2^62)->PF JQ [An t,Bw l] (Bw (DG l t)):=by
 induction t using Ai with
 | h t ih =>
 intro l htb hls hn
 have hst:=AJ t
 have htb2:=KX t
 have hll:=Am t.args
 have hce:=dV l t
 have fin:∀ s:List A9,s=(if t.var then Pz l t.name else l)->Ia.L3 (Bw s) (Bk t.args) (.int .i64 t.args.length) (.int .i64 0) 0 [] (Bo 0 Ia.rs fun x' H'=>x'=Bw (DG l t)/\H'=[]):=by
  intro s hs
  have hsl:s.length<=l.length+1:=by rw[hs];have:=Yr l t.name;split<;>omega
  have hsn:∀ x∈s,x.length<2^62:=by
   intro x hx
   rw[hs]at hx
   split at hx
   ·rcases XP.1 hx with h | rfl
    ·exact hn x h
    ·omega
   ·exact hn x hx
  rw[<-hs]at hce
  refine Ac (n:=t.args.length) (R:=fun k=>Ia.L3 (Bw (BF s (t.args.take k))) (Bk t.args) (.int .i64 t.args.length) (.int .i64 k) 0 [] _) ?_ ?_ 0 (by omega)
  ·intro k hk ih2
   have h1:=Ro s _ _ hk
   have h2:=Nl (t.args.take k) s
   have h3:=EF t.args (k+1)
   rw[FN _ _ hk]at h3
   have hm:=A4 hk
   have hm3:=OC hm
   refine A5.2 ?_
   push_cast[BC hk]
   refine .of (ih _ hm _ (by omega) (by omega) fun x hx=>?_) ?_
   ·rcases (Nm x _ _).1 hx with h | h
    ·exact hsn x h
    ·have:=XE x _ h
     have h4:=Vn t.args k
     omega
   push_cast[CD (show k<2^62 by omega)]
   rw[h1]at ih2
   exact ih2
  ·refine A5.2 ?_
   push_cast[AZ (Nat.le_refl _)]
   refine A1 ?_
   push_cast[Ia.rs,List.take_length,hce]
 refine Ab Ia.ok rfl ?_
 cases hv:t.var with
 | true =>
  push_cast[hv]
  refine .of (Tq l t.name (by omega) hn (by omega)) ?_
  push_cast
  exact fin _ (by rw[hv];rfl)
 | false =>
  push_cast[hv]
  exact fin _ (by rw[hv];rfl)
def Ed (t:Term):List A9:=DG [] t
theorem Sj (t:Term)(ht:tb t<2^39):PF M5 [Bk [t]] (Bw (Ed t)):=by
 have:=AX t
 refine Ab TR.ok rfl ?_
 push_cast
 rw[show (V.sl 1 []:V)=Bw (BF [] ([t].take 0)) from rfl]
 refine Ac (n:=1) (R:=fun k=>TR.L3 (Bw (BF [] ([t].take k))) (Bk [t]) (.int .i64 1) (.int .i64 k) 0 [] _) ?_ ?_ 0 (by omega)
 ·intro k hk ih2
  obtain rfl:k=0:=by omega
  refine A5.2 ?_
  push_cast
  refine .of (Zo t [] ht (by simpa using by omega) (by simp)) ?_
  push_cast
  exact ih2
 ·refine A5.2 ?_
  push_cast
  refine A1 ?_
  push_cast[TR.rs]
  rfl
def XG (a b:Term):Bool:=(Ed a).all fun v=>CI v b
theorem dF (a b:Term)(ha:tb a<2^39)(hb:tb b<2^39):PF P3 [An a,An b] (.bool (XG a b)):=by
 have hsa:=AX a
 have hsb:=AX b
 have hvl:=It a []
 have hV:=Sj a ha
 unfold XG
 have e1:(.sl 3 [cT a]:V)=Bk [a]:=rfl
 have hcl:(Ed a).length<2^62:=by unfold Ed;simp at hvl;omega
 generalize Ed a=l at hV hcl
 refine Ab LF.ok rfl ?_
 push_cast[e1]
 refine .of hV ?_
 push_cast
 refine Ac (n:=l.length) (R:=fun k=>((l.drop k).all fun v=>CI v b)=(l.all fun v=>CI v b)->LF.L3 (.ro (cT b) 0) (Bw l) (.int .i64 l.length) (.int .i64 k) 0 [] _) ?_ ?_ 0 (by omega) rfl
 ·intro k hk ih hq
  rw[Ag hk]at hq
  simp only[List.all_cons]at hq
  refine A5.2 ?_
  push_cast[BC hk]
  refine .of (VC _ _ (by omega)) ?_
  have hc:=V1 (l.getD k default) b
  push_cast[CD (show k<2^62 by omega)]
  refine⟨fun h=>A1 ?_,fun h=>ih ?_⟩
  ·push_cast[LF.rs]
   rw[<-hq]
   have h0:Dg (l.getD k default) b=0:=by omega
   rw[decide_eq_true h0]at hc
   simp_all
  ·rw[<-hq]
   have h0:¬ Dg (l.getD k default) b=0:=by omega
   rw[decide_eq_false h0]at hc
   simp_all
 ·intro hq
  refine A5.2 ?_
  push_cast[AZ (Nat.le_refl _)]
  refine A1 ?_
  push_cast[LF.rs]
  rw[<-hq,Ak];rfl
theorem ez (r:List A2)(hs:KJ r<2^61):PF PE [Al r] (.int .i64 (Bt r)):=by
 have hl:=Bl r
 refine Ab LD.ok rfl ?_
 by_cases h64:64<r.length
 ·have hi:((64:Int)<(r.length:Int))=True:=eq_true (by omega)
  push_cast[hi]
  refine A1 ?_
  push_cast[LD.rs,Bt,h64]
 ·have hi:((64:Int)<(r.length:Int))=False:=eq_false (by omega)
  push_cast[hi,Bt,h64]
  refine Ac (n:=r.length) (R:=fun k=>Dx (r.drop k)=Dx r->LD.L3 (Al r) (.int .i64 r.length) (.int .i64 k) 0 [] _) ?_ ?_ 0 (by omega) rfl
  ·intro k hk ih hq
   have hm:=Gi (A4 hk)
   refine A5.2 ?_
   rw[Ag hk]at hq
   simp only[Dx]at hq
   generalize hx:r.getD k default=x at hm hq
   have hA:=XL [x.left,x.right] (by simp) (by simp;omega)
   push_cast[BC hk,hx,ZS]
   refine .of hA ?_
   push_cast[CD (show k<2^62 by omega)]
   refine⟨fun h=>A1 ?_,fun h=>ih ?_⟩
   ·push_cast[LD.rs]
    rw[<-hq,if_pos h]
   ·rw[<-hq,if_neg h]
  ·intro hq
   refine A5.2 ?_
   push_cast[AZ (Nat.le_refl _)]
   refine A1 ?_
   push_cast[LD.rs]
   rw[<-hq,Ak];rfl
structure DH where
 name:A9
 arity:Int
 deriving Inhabited,DecidableEq
def cSy (s:DH):List V:=[.str s.name,.int .i64 s.arity]
abbrev Nc (l:List DH):V:=DT cSy 2 l
theorem xH (s:DH):(cSy s).length=2:=rfl
theorem AdB (s:DH):(cSy s)[0]?=some (.str s.name):=rfl
theorem Adg (s:DH):(cSy s)[1]?=some (.int .i64 s.arity):=rfl
theorem mi {i:Nat}{l:List DH}{n:A9}{k:Int}:(.own i 2 (l.map cSy++[[V.str n,.int .i64 k]]):V)=Bf cSy i 2 (l++[⟨n,k⟩]):=by simp[Bf,cSy]
attribute [push_cast] xH AdB Adg
abbrev FO (l:List DH)(n:A9):Nat:=Zx (fun x=>decide (x.name<n)) l
def Ih (l:List DH)(n:A9)(k:Int):List DH:=if FO l n<l.length/\(l.getD (FO l n) default).name=n then l else l.take (FO l n)++⟨n,k⟩::l.drop (FO l n)
mutual
def Jg (l:List DH):Term->List DH×Bool
 | .mk n b ar=>if b then (l,true) else if marked n then (l,false) else if ((Ih l n ar.length).getD (FO l n) default).arity≠ar.length then (Ih l n ar.length,false) else Fk (Ih l n ar.length) ar
def Fk (l:List DH):List Term->List DH×Bool
 | []=>(l,true)
 | a::ar=>if (Jg l a).2 then Fk (Jg l a).1 ar else (l,false)
end
theorem xC (l:List DH)(t:Term):Jg l t=if t.var then (l,true) else if marked t.name then (l,false) else if ((Ih l t.name t.args.length).getD (FO l t.name) default).arity≠t.args.length then (Ih l t.name t.args.length,false) else Fk (Ih l t.name t.args.length) t.args:=by cases t;rfl
theorem aS (l:List DH)(n:A9)(k:Int):(Ih l n k).length<=l.length+1:=by
 unfold Ih
 have:=Ur (fun x:DH=>decide (x.name<n)) l
 split<;>simp<;>omega
theorem pb {l:List DH}{n:A9}{k:Int}{x:DH}(h:x∈Ih l n k):x∈l\/x=⟨n,k⟩:=by
 unfold Ih at h
 split at h
 ·exact .inl h
 ·simp only[List.mem_append,List.mem_cons]at h
  rcases h with h | h | h
  ·exact .inl (List.mem_of_mem_take h)
  ·exact .inr h
  ·exact .inl (List.mem_of_mem_drop h)
def uW (M:Nat)(m:Nat)(l:List DH):Prop:=l.length<=m/\∀ x∈l,x.name.length<M
theorem uW.ins {M m:Nat}{l:List DH}(h:uW M m l){n:A9}{k:Int}(hn:n.length<M):uW M (m+1) (Ih l n k):=by
 refine⟨by have:=aS l n k;have:=h.1;omega,fun x hx=>?_⟩
 rcases pb hx with h1 | rfl
 ·exact h.2 x h1
 ·exact hn
mutual
theorem WT {M:Nat}:∀ (t:Term)(m:Nat)(l:List DH),uW M m l->tb t<=M->uW M (m+size t) (Jg l t).1
 | .mk n b ar,m,l,h,ht=>by
  simp only[tb]at ht
  have h0:uW M (m+size (.mk n b ar)) l:=⟨by have:=h.1;omega,h.2⟩
  have h1:=h.ins (n:=n) (k:=ar.length) (by omega)
  have h2:uW M (m+size (.mk n b ar)) (Ih l n ar.length):=⟨by have:=h1.1;simp only[size];omega,h1.2⟩
  have h3:=V6 ar (m+1) _ h1 (by simp only[tbs];omega)
  simp only[Jg]
  split
  ·exact h0
  split
  ·exact h0
  split
  ·exact h2
  ·exact⟨by have:=h3.1;simp only[size];omega,h3.2⟩
theorem V6 {M:Nat}:∀ (ar:List Term)(m:Nat)(l:List DH),uW M m l->tbs ar<=M->uW M (m+Ae ar) (Fk l ar).1
 | [],m,l,h,_=>by simpa[Fk,Ae]using h
 | a::ar,m,l,h,ht=>by
  simp only[tbs,tb.tbs]at ht
  have h1:=WT a m l h (by omega)
  have h2:=V6 ar _ _ h1 (by simp only[tbs];omega)
  simp only[Fk]
  split
  ·exact⟨by have:=h2.1;simp only[Ae];omega,h2.2⟩
  ·exact⟨by have:=h.1;show l.length<=_;omega,h.2⟩
end
theorem T8 (a b:List Term):∀ l:List DH,(Fk l a).2=true->Fk l (a++b)=Fk (Fk l a).1 b:=by
 induction a with
 | nil=>intro l _;rfl
 | cons x xs ih =>
  intro l h
  simp only[Fk,List.cons_append]at h ⊢
  by_cases hx:(Jg l x).2=true
  ·rw[if_pos hx]at h ⊢
   rw[if_pos hx]
   exact ih _ h
  ·rw[if_neg hx]at h
   cases h
set_option maxHeartbeats 1000000 in
theorem Ry (t:Term):∀ (m:Nat)(l:List DH),tb t<2^39->m+size t<2^39->uW (2^39) m l->PF JT [An t,Nc l] (.tup [Nc (Jg l t).1,.bool (Jg l t).2]):=by
 induction t using Ai with
 | h t ih =>
 intro m l htb hms hf
 have hst:=AJ t
 have htb2:=KX t
 have hll:=Am t.args
 have hse:=xC l t
 have hl:l.length<2^39:=by have:=hf.1;omega
 refine Ab Cy.ok rfl ?_
 cases hv:t.var with
 | true =>
  rw[hv,if_pos rfl]at hse
  push_cast[hv]
  exact A1 (by push_cast[Cy.rs,hse])
 | false =>
 rw[hv,if_neg (by simp)]at hse
 push_cast[hv]
 refine .of (SY t.name (by omega)) ?_
 cases hmk:J2 t.name [35]with
 | true =>
  have hmk':marked t.name=true:=hmk
  rw[hmk',if_pos rfl]at hse
  push_cast
  exact A1 (by push_cast[Cy.rs,hse])
 | false =>
 have hmk':marked t.name=false:=hmk
 rw[hmk',if_neg (by simp)]at hse
 have hI:=aS l t.name t.args.length
 have hF:=hf.ins (n:=t.name) (k:=t.args.length) (by omega)
 have hle:FO l t.name<=l.length:=Ur (fun x:DH=>decide (x.name<t.name)) l
 have hge:FO l t.name<l.length->¬ (l.getD (FO l t.name) default).name<t.name:=fun h=>of_decide_eq_false (@jO _ _ (fun x:DH=>decide (x.name<t.name)) l h)
 have hlt:∀ j,j<FO l t.name->(l.getD j default).name<t.name:=fun j h=>of_decide_eq_true (@jM _ _ (fun x:DH=>decide (x.name<t.name)) l j h)
 have hat:FO l t.name<(Ih l t.name t.args.length).length:=by
  unfold Ih
  split
  ·rename_i h;exact h.1
  ·rw[List.length_append,List.length_take,List.length_cons,Nat.min_eq_left hle];omega
 have hins:Ih l t.name t.args.length=if FO l t.name<l.length/\(l.getD (FO l t.name) default).name=t.name then l else l.take (FO l t.name)++⟨t.name,t.args.length⟩::l.drop (FO l t.name):=rfl
 generalize Ih l t.name t.args.length=l1 at *
 have kids:(l1.getD (FO l t.name) default).arity=t.args.length->Cy.L3 (Nc l1) (Bk t.args) (.int .i64 t.args.length) (.int .i64 0) 0 [] (Bo 0 Cy.rs fun x' H'=>x'=.tup [Nc (Jg l t).1,.bool (Jg l t).2]/\H'=[]):=by
  intro har
  rw[if_neg (by simpa using har)]at hse
  rw[hse]
  refine Ac (n:=t.args.length) (R:=fun k=>(Fk l1 (t.args.take k)).2=true->Cy.L3 (Nc (Fk l1 (t.args.take k)).1) (Bk t.args) (.int .i64 t.args.length) (.int .i64 k) 0 [] _) ?_ ?_ 0 (by omega) rfl
  ·intro k hk ih2 hok
   have hm:=A4 hk
   have hm3:=OC hm
   have h3:=EF t.args (k+1)
   rw[FN _ _ hk]at h3
   have hFk:=V6 (t.args.take k) _ _ hF (by have:=Vn t.args k;omega)
   have hcat:Fk l1 (t.args.take (k+1))=if (Jg (Fk l1 (t.args.take k)).1 (t.args.getD k default)).2 then (Jg (Fk l1 (t.args.take k)).1 (t.args.getD k default)) else ((Fk l1 (t.args.take k)).1,false):=by
    rw[Aa hk,T8 _ _ _ hok]
    simp only[Fk]
    split
    ·rename_i h;exact Prod.ext rfl h.symm
    ·rfl
   have hend:(Jg (Fk l1 (t.args.take k)).1 (t.args.getD k default)).2=false->Fk l1 t.args=((Fk l1 (t.args.take k)).1,false):=by
    intro h
    conv=>lhs;rw[<-List.take_append_drop k t.args]
    rw[T8 _ _ _ hok,Ag hk]
    simp only[Fk,h]
    rfl
   refine A5.2 ?_
   push_cast[BC hk]
   refine .of (ih _ hm _ _ (by omega) (by omega) hFk) ?_
   cases hb:(Jg (Fk l1 (t.args.take k)).1 (t.args.getD k default)).2 with
   | false =>
    push_cast
    refine A1 ?_
    push_cast[Cy.rs,hend hb]
   | true =>
    rw[hb,if_pos rfl]at hcat
    push_cast[CD (show k<2^62 by omega)]
    rw[hcat]at ih2
    exact ih2 hb
  ·intro hok
   rw[List.take_length]at hok
   refine A5.2 ?_
   push_cast[AZ (Nat.le_refl _)]
   refine A1 ?_
   push_cast[Cy.rs,List.take_length,hok]
 generalize FO l t.name=a at *
 push_cast
 refine Ac (n:=a) (R:=fun k=>Cy.L9 (Nc l) (.ro (cT t) 0) (.int .i64 k) 0 [] _) ?_ ?_ 0 (by omega)
 ·intro k hk ih2
  have hkl:k<l.length:=by omega
  have h1:Ip (l.getD k default).name t.name<0:=K8.2 (hlt k hk)
  refine A5.2 ?_
  push_cast[BC hkl]
  refine .of (Cq _ _ (by have:=hf.2 _ (A4 hkl);omega) (by omega)) ?_
  push_cast[h1,CD (show k<2^62 by omega)]
  exact ih2
 ·refine A5.2 ?_
  have tail:∀ m:Nat,m<=2^40->∀ b,b<=64->m*b<=Ah:=fun m hm b hb=>Nat.le_trans (Nat.mul_le_mul hm hb) (by unfold Ah;decide)
  have e1:(l.drop 0).take (a-0)=l.take a:=by simp
  have e2:(l.drop a).take (l.length-a)=l.drop a:=by rw[List.take_of_length_le];simp
  rcases Nat.lt_or_ge a l.length with h | h
  ·have h2:¬ Ip (l.getD a default).name t.name<0:=fun hc=>hge h (K8.1 hc)
   have h3:((a:Int)=(l.length:Int))=False:=eq_false (by omega)
   push_cast[BC h]
   refine .of (Cq _ _ (by have:=hf.2 _ (A4 h);omega) (by omega)) ?_
   by_cases he:(l.getD a default).name=t.name
   ·rw[if_pos ⟨h,he⟩]at hins
    subst hins
    rw[he]at h2
    push_cast[h2,h3,he,BC h]
    refine⟨fun har=>A1 ?_,fun har=>kids (by simpa using har)⟩
    rw[if_pos har]at hse
    push_cast[Cy.rs,hse]
   ·rw[if_neg (fun hh=>he hh.2)]at hins
    push_cast[h2,h3,he,BC h,mi,e1,e2,List.cons_append,List.nil_append,<-hins,hat]
    refine⟨⟨by omega,hle⟩,tail _ (by simp;omega) _ (by omega),tail _ (by simp;omega) _ (by omega),hle,⟨by simp,tail _ (by simp;omega) _ (by omega)⟩,by omega,fun har=>A1 ?_,fun har=>kids (by simpa using har)⟩
    rw[if_pos har]at hse
    push_cast[Cy.rs,hse]
  ·rw[if_neg (fun hh=>by omega)]at hins
   have h3:((a:Int)=(l.length:Int))=True:=eq_true (by omega)
   push_cast (maxSteps:=1000000) [AZ h,h3,mi,e1,e2,List.cons_append,List.nil_append,<-hins,hat]
   refine⟨⟨by omega,hle⟩,tail _ (by simp;omega) _ (by omega),tail _ (by simp;omega) _ (by omega),hle,⟨by simp,tail _ (by simp;omega) _ (by omega)⟩,by omega,fun har=>A1 ?_,fun har=>kids (by simpa using har)⟩
   rw[if_pos har]at hse
   push_cast[Cy.rs,hse]
end Go.Dw
