/-
  Contracts and lemmas for ResidualDivides: part g of 10.
-/
import Derived.Test.YtkdcfkfdkimaeaaGreatDoorVaf
import Derived.Test.YtkdcfkfdkimaeaaGreatDoorVae
import Derived.Test.YtkdcfkfdkimaeaaGreatDoorVad
import Derived.WalkKit
import Derived.Laws.MathBits
import Derived.Lib.LaidTab
import Derived.Stop.LaidErr
import Derived.Shelf.Strconv.Itoa4
import Derived.Test.YtkdcfkfdkimaeaaGreatDoorRows
import Derived.Ground.NamesProg
set_option linter.unusedVariables false
set_option linter.unusedSimpArgs false
set_option maxRecDepth 100000
section
namespace Go.Dw
mutual
def dm:Term->Term->Int
 | .mk n v l,t=>if v≠t.var then (if v then -1 else 1) else if I7 n t.name≠0 then I7 n t.name else if Rn l.length t.args.length≠0 then Rn l.length t.args.length else RZ l t.args
def RZ:List Term->List Term->Int
 | [],_=>0
 | _::_,[]=>0
 | a::l,b::m=>if dm a b≠0 then dm a b else RZ l m
end
theorem jw (a t:Term):dm a t=if a.var≠t.var then (if a.var then -1 else 1) else if I7 a.name t.name≠0 then I7 a.name t.name else if Rn a.args.length t.args.length≠0 then Rn a.args.length t.args.length else RZ a.args t.args:=by
 cases a;simp only[dm];rfl
theorem TN {a b:Int}:Rn a b=0↔a=b:=by unfold Rn;split <;> (try split) <;> omega
theorem VF:∀ (l m:List Term),l.length=m.length->(∀ a∈l,∀ b,dm a b=0↔a=b)->(RZ l m=0↔l=m)
 | [],[],_,_=>by simp[RZ]
 | [],_::_,h,_=>by simp at h
 | _::_,[],h,_=>by simp at h
 | a::l,b::m,h,hc=>by
  have ih:=VF l m (by simpa using h) fun x hx=>hc x (by simp[hx])
  have h1:=hc a (by simp) b
  simp only[RZ]
  by_cases he:a=b
  ·rw[if_neg (by simpa using h1.2 he),ih]
   simp[he]
  ·have:¬ dm a b=0:=fun e=>he (h1.1 e)
   rw[if_pos this]
   simp[this,he]
theorem kR (a:Term):∀ b,dm a b=0↔a=b:=by
 induction a using Af with
 | h a ih =>
 intro b
 rw[jw,UT]
 by_cases h1:a.var=b.var
 ·rw[if_neg (by simpa using h1)]
  by_cases h2:a.name=b.name
  ·rw[if_neg (by simpa using Q8.2 h2)]
   by_cases h3:a.args.length=b.args.length
   ·rw[if_neg (by simpa using TN.2 (by omega)),VF _ _ h3 ih]
    simp[h1,h2]
   ·have:¬ Rn a.args.length b.args.length=0:=fun e=>h3 (by have:=TN.1 e;omega)
    rw[if_pos this]
    simp only[this,false_iff,not_and]
    intro _ _ e;exact h3 (by rw[e])
  ·have:¬ I7 a.name b.name=0:=fun e=>h2 (Q8.1 e)
   rw[if_pos this]
   simp[this,h2]
 ·rw[if_pos h1]
  simp only[h1,false_and,and_false,iff_false]
  split <;> decide
theorem Y2 (a:Term):∀ b,tb a<2^62->tb b<2^62->PF Jr [Ao a,Ao b] (.int .i64 (dm a b)):=by
 induction a using Af with
 | h a ih =>
 intro b ha hb
 have ha2:=Kn a
 have hb2:=Kn b
 have hla:=GO a.args
 rw[jw]
 refine Aa E7.ok rfl ?_
 by_cases h1:a.var=b.var
 ·rw[if_neg (by simpa using h1)]
  push_cast[h1,show ∀ x y:Bool,(x != y)=!decide (x=y) from fun x y=>by cases x <;> cases y <;> rfl]
  refine .of (Cd _ _ (by omega) (by omega)) ?_
  by_cases h2:I7 a.name b.name=0
  ·rw[if_neg (by simpa using h2)]
   push_cast[h2]
   refine .of (I5 _ _) ?_
   by_cases h3:Rn a.args.length b.args.length=0
   ·have hll:a.args.length=b.args.length:=by have:=TN.1 h3;omega
    rw[if_neg (by simpa using h3)]
    push_cast[h3]
    refine Ac (n:=a.args.length) (R:=fun k=>RZ (a.args.drop k) (b.args.drop k)=RZ a.args b.args->E7.L3 (.ro (cT a) 0) (.ro (cT b) 0) (.int .i64 a.args.length) (.int .i64 k) 0 [] _) ?_ ?_ 0 (by omega) rfl
    ·intro k hk ih2 hq
     have hkb:k<b.args.length:=by omega
     rw[Ak hk,Ak hkb]at hq
     simp only[RZ]at hq
     have hm:=A4 hk
     have hmb:=A4 hkb
     refine A8.2 ?_
     push_cast[ilt hk,ilt hkb]
     refine .of (ih _ hm _ (by have:=O4 hm;omega) (by have:=O4 hmb;omega)) ?_
     push_cast[w64 (show k<2^62 by omega)]
     refine⟨fun h=>A1 ?_,fun h=>ih2 ?_⟩
     ·push_cast[E7.rs]
      rw[<-hq,if_pos (by simpa using h)]
     ·rw[<-hq,if_neg (by simpa using h)]
    ·intro hq
     refine A8.2 ?_
     push_cast[B6 (Nat.le_refl _)]
     refine A1 ?_
     push_cast[E7.rs]
     rw[<-hq,An];rfl
   ·rw[if_pos h3]
    push_cast[h3]
    exact A1 (by push_cast[E7.rs])
  ·rw[if_pos h2]
   push_cast[h2]
   exact A1 (by push_cast[E7.rs])
 ·rw[if_pos h1]
  have e:∀ x y:Bool,(x != y)=!decide (x=y):=fun x y=>by cases x <;> cases y <;> rfl
  cases hv:a.var <;> cases hv2:b.var
  ·exact absurd (hv.trans hv2.symm) h1
  ·push_cast[hv,hv2,e]
   exact A1 (by push_cast[E7.rs])
  ·push_cast[hv,hv2,e]
   exact A1 (by push_cast[E7.rs])
  ·exact absurd (hv.trans hv2.symm) h1
theorem db (a b:Term)(ha:tb a<2^62)(hb:tb b<2^62):PF OZ [Ao a,Ao b] (.bool (decide (a=b))):=by
 refine Aa TR.ok rfl ?_
 push_cast
 refine .of (Y2 a b ha hb) ?_
 push_cast
 refine A1 ?_
 push_cast[TR.rs,kR]
end Go.Dw
end
section
namespace Go.Dw
theorem wK {l:List Term}{k:Nat}(h:k<l.length):(l.map cT)[k]?=some (cT (l.getD k default)):=by
 rw[List.getElem?_map];simp[List.getD_eq_getElem?_getD,h]
theorem kZ {σ:Nat->Option Nat}{l:List Term}:(l.map cT).map (AP σ)=l.map cT:=by rw[List.map_map];rfl
theorem kG (p:List Int):∀ (t x y:Term),short t=true->D7 t p=some y->size t<2^40->p.length<2^40->PF Q4 [Ao t,Hk p,Ao x] (Ao (HM t p x)):=by
 induction p with
 | nil =>
  intro t x y _ _ _ _
  refine Aa SU.ok rfl ?_
  push_cast
  exact A1 (by push_cast[SU.rs];rfl)
 | cons i p ih =>
  intro t x y ht hy hs hp
  simp only[D7]at hy
  split at hy
  case isFalse=>cases hy
  rename_i hi
  have hst:=AH t
  have hll:=Ai t.args
  have hk:i.toNat<t.args.length:=by omega
  have hm:=A4 hk
  have hm2:=Bp hm
  have hne:¬ (((i::p).length:Nat):Int)=0:=by rw[List.length_cons];omega
  have hsub:=ih _ x y ((CD.1 ht).2.2 _ hm) hy (by omega) (by simp at hp;omega)
  refine Aa SU.ok rfl ?_
  have hv:t.var=false:=by
   cases h:t.var with
   | false=>rfl
   | true=>have:=(CD.1 ht).2.1 h;rw[this]at hk;simp at hk
  have hres:HM t (i::p) x=.mk t.name false (t.args.set i.toNat (HM (t.args.getD i.toNat default) p x)):=by
   simp only[HM];rw[if_pos hi,hv]
  rw[hres]
  have e1:((i::p).drop 1).take ((i::p).length-1)=p:=by simp
  have e2:(i::p).getD 0 default=i:=rfl
  have e3:((0:Int)<(((i::p).length:Nat):Int))=True:=eq_true (by rw[List.length_cons];omega)
  have e4:(1:Nat)<=(i::p).length:=by simp
  generalize (i::p)=q at hne e1 e2 e3 e4
  have hi0:(0<=i)=True:=eq_true hi.1
  have hi1:(i<(t.args.length:Int))=True:=eq_true hi.2
  have hroom:t.args.length*48<=Ag:=Nat.le_trans (Nat.mul_le_mul_right 48 (show _<=2^41 by omega)) (by unfold Ag;decide)
  have hsetC:(t.args.map cT).set i.toNat (put 0 (cT (HM (t.args.getD i.toNat default) p x)) ((t.args.map cT).getD i.toNat []))=(t.args.set i.toNat (HM (t.args.getD i.toNat default) p x)).map cT:=by
   have e5:(t.args.map cT).getD i.toNat []=cT (t.args.getD i.toNat default):=by
    rw[List.getD_eq_getElem?_getD (l:=t.args.map cT),wK hk];rfl
   rw[List.map_set,e5,iJ]
  push_cast[hne,wK hk,e1,e2,e3,e4,hi0,hi1,List.length_map,hroom]
  refine .of hsub ?_
  push_cast[hi0,hi1,List.length_map,hk,hsetC,List.length_set,kZ]
  refine A1 ?_
  push_cast[SU.rs]
  unfold Ao
  rw[Oq];rfl
end Go.Dw
end
section
namespace Go.Dw
theorem KL {l:List Term}{a:Term}(h:a∈l):depth a<=AA l:=by
 induction l with
 | nil=>cases h
 | cons x xs ih=>rcases List.mem_cons.1 h with rfl | h <;> simp only[AA];omega;have:=ih h;omega
end Go.Dw
end
section
namespace Go.Dw
mutual
theorem PZ:∀ (t:Term)(p:List Int),∀ x∈Ap t p,size x.2<=size t/\x.1.length<=p.length+size t
 | .mk n v l,p,x,hx=>by
  rw[GH]at hx
  rcases List.mem_cons.1 hx with rfl | hx
  ·exact⟨Nat.le_refl _,Nat.le_add_right _ _⟩
  ·have:=Xz l p 0 x hx
   simp only[size]
   omega
theorem Xz:∀ (l:List Term)(p:List Int)(i:Nat),∀ x∈B4 l p i,size x.2<=Ab l/\x.1.length<=p.length+1+Ab l
 | [],p,i,x,hx=>by simp[B4]at hx
 | a::l,p,i,x,hx=>by
  simp only[B4,List.mem_append]at hx
  simp only[Ab]
  rcases hx with hx | hx
  ·have:=PZ a _ x hx
   simp only[List.length_append,List.length_singleton]at this
   omega
  ·have:=Xz l _ _ x hx;omega
end
end Go.Dw
end
section
namespace Go.Dw
def Ud (n:Str)(v:Bool)(k:Nat):Bool:=if v then decide (k=0) && C6 n false else decide (k<=8) && C6 n true
theorem NC {t:Term}:C5 t=true↔Ud t.name t.var t.args.length=true/\∀ a∈t.args,C5 a=true:=by
 rw[EH]
 unfold Ud
 cases t.var with
 | true =>
  simp only[if_true,Bool.and_eq_true,decide_eq_true_eq]
  refine⟨fun h=>⟨h,fun a ha=>?_⟩,fun h=>h.1⟩
  rw[List.length_eq_zero_iff.1 h.1]at ha;cases ha
 | false=>simp[and_assoc]
theorem Ng {t:Term}:EU t=0↔C5 t=true/\BK t=true:=by
 unfold EU
 cases C5 t <;> cases BK t <;> simp
theorem HS {r:List A2}(h:Al r=0):∀ x∈r,EU x.left=0/\EU x.right=0:=by
 have h1:Bi r=0:=by
  unfold Al at h
  split at h
  ·rename_i h1;exact absurd h h1
  ·rename_i h1;simpa using h1
 unfold Bi at h1
 split at h1
 ·omega
 ·exact MH h1
end Go.Dw
end
section
namespace Go.Dw
theorem AbJ {σ:Nat->Option Nat}{l:List Term}:(l.map cT).map (AP σ)=l.map cT:=by rw[List.map_map];rfl
end Go.Dw
end
section
namespace Go.Dw
namespace sY
end sY
theorem ll {σ:Nat->Option Nat}{l:List Xt}:(l.map cSt).map (AP σ)=l.map cSt:=by rw[List.map_map];rfl
attribute [push_cast] ll
end Go.Dw
end
section
namespace Go.Dw
mutual
def F5:Term->List (List Int)
 | .mk n v l=>[]::I6 l 0
def I6:List Term->Nat->List (List Int)
 | [],_=>[]
 | a::l,i=>(F5 a).map ((i:Int)::·)++I6 l (i+1)
end
theorem tz (t:Term):F5 t=[]::I6 t.args 0:=by cases t;simp[F5,Term.args]
mutual
theorem KD:∀ (t:Term)(p:List Int),(Ap t p).map Prod.fst=(F5 t).map (p++·)
 | .mk n v l,p=>by
  simp only[Ap,F5,List.map_cons,List.append_nil,Xa l p 0]
theorem Xa:∀ (l:List Term)(p:List Int)(i:Nat),(B4 l p i).map Prod.fst=(I6 l i).map (p++·)
 | [],p,i=>rfl
 | a::l,p,i=>by
  simp only[B4,I6,List.map_append,KD a,Xa l p (i+1),List.map_map]
  congr 1
  apply List.map_congr_left
  intro q _;simp
end
theorem aG (a b:List Term)(i:Nat):I6 (a++b) i=I6 a i++I6 b (i+a.length):=by
 induction a generalizing i with
 | nil=>simp[I6]
 | cons x xs ih=>simp only[List.cons_append,I6,ih,List.append_assoc,List.length_cons];congr 3;omega
theorem gm (l:List Term){k:Nat}(hk:k<l.length):I6 (l.take (k+1)) 0=I6 (l.take k) 0++(F5 (l.getD k default)).map ((k:Int)::·):=by
 rw[List.take_succ_eq_append_getElem hk,aG,List.length_take,Nat.min_eq_left (by omega)]
 simp[I6,List.getD_eq_getElem?_getD,List.getElem?_eq_getElem hk]
theorem Xb (t:Term):(F5 t).length=size t:=by
 have h:=congrArg List.length (KD t [])
 simp only[List.length_map]at h
 rw[<-h];exact MZ t []
theorem YC:∀ (l:List Term)(i:Nat),(I6 l i).length=Ab l
 | [],i=>rfl
 | a::l,i=>by simp only[I6,List.length_append,List.length_map,Xb,YC l (i+1),Ab]
theorem ii (t:Term):∀ p∈F5 t,p.length<=size t:=by
 intro p hp
 have h:=KD t []
 have:p∈(F5 t).map ([]++·):=by simpa using hp
 rw[<-h]at this
 obtain⟨x,hx,rfl⟩:=List.mem_map.1 this
 have:=(PZ t [] x hx).2
 simpa using this
theorem V5 (t:Term)(hs:size t<2^38):PF GS [Ao t] (SO (F5 t)):=by
 induction t using Af with
 | h t ih =>
 refine Aa Eh.ok rfl ?_
 have hst:=AH t
 have hl:=Ai t.args
 push_cast
 rw[show (V.own 0 1 [[V.sl 1 []]]:V)=Bc cPp 0 1 ([]::I6 (t.args.take 0) 0) from rfl]
 refine Ac (n:=t.args.length) (R:=fun k=>Eh.L6 (Bc cPp 0 1 ([]::I6 (t.args.take k) 0)) (Bd t.args) (.int .i64 t.args.length) (.int .i64 k) 0 [.arr Vq 1 (1+Ab (t.args.take k))] (Bv 0 Eh.rs fun x' H'=>x'=SO (F5 t)/\H'=[])) ?_ ?_ 0 (Nat.zero_le _)
 ·intro k hk ih2
  have hm:=A4 hk
  have hsn:=gm t.args hk
  have hss:=Fg t.args k hk
  have hsl:=Ek t.args (k+1)
  have hsz:=Bp hm
  refine A8.2 ?_
  generalize hx:t.args.getD k default=a at hm hsn hss hsz
  push_cast[ilt hk,hx]
  refine .of (ih a hm (by omega)) ?_
  push_cast
  have hpl:=Xb a
  have h0:=Ac (n:=(F5 a).length) (R:=fun j=>Eh.L4 (Bc cPp 0 1 ([]::(I6 (t.args.take k) 0++((F5 a).take j).map ((k:Int)::·)))) (.int .i64 k) (Bd t.args) (.int .i64 t.args.length) (.int .i64 k) (SO (F5 a)) (.int .i64 (F5 a).length) (.int .i64 j) 0 [.arr Vq 1 (1+Ab (t.args.take k)+j),.dead] (Bv 0 Eh.rs fun x' H'=>x'=SO (F5 t)/\H'=[])) ?_ ?_ 0 (Nat.zero_le _)
  ·simp only[List.take_zero,List.map_nil,List.append_nil,Nat.add_zero]at h0
   exact h0
  ·intro j hj ih3
   have hmj:=A4 hj
   have hsj:=ii a _ hmj
   refine A8.2 ?_
   have htk:(F5 a).take (j+1)=(F5 a).take j++[(F5 a).getD j default]:=by rw[List.take_succ_eq_append_getElem hj];simp[List.getD_eq_getElem?_getD,hj]
   generalize hq:(F5 a).getD j default=q at hmj hsj htk
   push_cast[ilt hj,hq]
   have e1:(I6 (t.args.take k) 0).length=Ab (t.args.take k):=YC _ _
   have e2:(List.map (fun x=>(k:Int)::x) ((F5 a).take j)).length=j:=by simp;omega
   have e3:(List.map cI q).length=q.length:=by simp
   have e4:∀ X:List (List Int),V.own 0 1 (cPp []::(List.map cPp X++[[V.sl 1 ([V.int IntKind.i64 ↑k]::List.map cI q)]]))=Bc cPp 0 1 ([]::(X++[(k:Int)::q])):=fun X=>by simp[Bc,cPp,Dz,cI]
   rw[e1,e2,e3,e4,w64 (show j<2^62 by omega)]
   rw[htk,List.map_append,<-List.append_assoc]at ih3
   have hme:Ag=140737488355328:=rfl
   refine⟨by omega,⟨by omega,by omega⟩,?_⟩
   rw[show Ab (t.args.take k)+j+1+1=1+Ab (t.args.take k)+(j+1) by omega]
   exact ih3
  ·refine A8.2 ?_
   push_cast[B6 (Nat.le_refl _)]
   rw[List.take_length,w64 (show k<2^62 by omega),<-hsn,hpl,Nat.add_assoc,<-hss]
   exact ih2
 ·refine A8.2 ?_
  push_cast[B6 (Nat.le_refl _)]
  refine A1 ?_
  push_cast[Eh.rs,List.take_length,tz t]
  try rfl
end Go.Dw
end
section
namespace Go.Dw
def isV (v:Str)(x:List Int×Term):Bool:=x.2.var && decide (x.2.name=v)
def V4 (v:Str)(l:List (List Int×Term)):List (List Int):=(l.filter (isV v)).map Prod.fst
def Xq (t:Term)(v:Str):List (List Int):=V4 v (Ap t [])
end Go.Dw
end
section
namespace Go.Dw
namespace jV
def nd:Nat->C
 | 0=>.R [.mv 4 (.i (-1))] (.ret)
 | 1=>.gh [.ks 0 [0,1,7,8]] (.m 3)
 | 2=>.seq (.blk 1 (.R [.A 10 8,.A 5 10] (.R [.A 11 1,.A 12 0,.A 13 5,.G 14 3 12 13,.E 15 3 14,.callv (some 16) (.s 11) [.s 15]] (.W 16 (.R [.A 17 5,.A 4 17] (.ret)) (.skip))))) (.reg [.X 18 .add 8 1,.A 8 18])
 | 3=>.R [.V 9 .lss 8 7] (.seq (.W 9 (.skip) (.exit 0)) (.n 2))
 | _=>.skip
def body:C:=.R [.mv 4 (.i 0)] (.seq (.R [.A 6 0,.Y 7 6,.mv 8 (.i 0)] (.blk 0 (.loop (.n 1)))) (.n 0))
def rs:List RV:=[.t 4]
attribute [push_cast] nd body
theorem ok:okF prog B8 nd body 2 rs=true:=by kernel_rfl
abbrev L3 (a b c d:V)(B:Nat)(H:LOb)(Q:QX):Prop:=Run prog nd B [.c (.m 3),.c (.loop (.n 1)),.mk 0,.c (.n 0)] [(0,a),(1,b),(7,c),(8,d)] H Q
end jV
namespace xd
def nd (_:Nat):C:=.skip
def body:C:=.R [.mv 4 (.c (.bool false))] (.R [.A 5 0,.A 6 1,.call (some 7) B8 [.s 5,.s 6],.X 8 .geq 7 0,.A 4 8] (.ret))
def rs:List RV:=[.t 4]
attribute [push_cast] nd body
theorem ok:okF prog AL nd body 2 rs=true:=by kernel_rfl
end xd
def stF {S:Type}(F:S->Term->S×Bool)(s:S):List Term->S×Bool
 | []=>(s,false)
 | a::l=>if (F s a).2 then ((F s a).1,true) else stF F (F s a).1 l
def ixF {S:Type}(F:S->Term->S×Bool)(s:S)(k:Nat):List Term->Int
 | []=>-1
 | a::l=>if (F s a).2 then k else ixF F (F s a).1 (k+1) l
theorem nN {S:Type}(F:S->Term->S×Bool):∀ (l:List Term)(s:S)(k:Nat),0<=ixF F s k l↔(stF F s l).2=true
 | [],s,k=>by simp[ixF,stF]
 | a::l,s,k=>by
  unfold ixF stF
  by_cases h:(F s a).2=true
  ·rw[if_pos h,if_pos h];simp
  ·rw[if_neg h,if_neg h];exact nN F l _ _
section
variable {S:Type} {F:S->Term->S × Bool} {Hs:S->List Ob} {Inv:S->Prop} {g n:Nat} {caps:List V} (hn:∀ s,(Hs s).length = n) (hc:AP (AK n) caps = caps) (hH:∀ s,(Hs s).map (A5 (AK n)) = Hs s)
 (l:List Term) (hl:l.length<2^62) (h:∀ a∈l,∀ s,Inv s->Spec prog g (Ao a::caps) (Hs s) fun x H'=>x=.bool (F s a).2/\H'=Hs (F s a).1) (hi:∀ a∈l,∀ s,Inv s->(F s a).2=false->Inv (F s a).1)
include hn hc hH hl h hi
theorem bw (s0:S)(h0:Inv s0):Spec prog B8 [Bd l,.fn (.func g) [] caps] (Hs s0) fun x H'=>x=.int .i64 (ixF F s0 0 l)/\H'=Hs (stF F s0 l).1:=by
 have htk:∀ s,(Hs s).take n=Hs s:=fun s=>List.take_of_length_le (by rw[hn];exact Nat.le_refl _)
 refine AJ mixed jV.ok rfl ?_
 push_cast[hc,hH,hn,htk]
 refine Ac (n:=l.length) (R:=fun k=>∀ s,Inv s->ixF F s k (l.drop k)=ixF F s0 0 l->stF F s (l.drop k)=stF F s0 l->jV.L3 (Bd l) (.fn (.func g) [] caps) (.int .i64 l.length) (.int .i64 k) n (Hs s) (Bv n jV.rs fun x H'=>x=.int .i64 (ixF F s0 0 l)/\H'=Hs (stF F s0 l).1)) ?_ ?_ 0 (Nat.zero_le _) s0 h0 rfl rfl
 ·intro k hk ih s hs hq1 hq2
  refine A8.2 ?_
  have hm:=A4 hk
  rw[Ak hk]at hq1 hq2
  generalize hx:l.getD k default=a at hm hq1 hq2
  simp only[ixF,stF]at hq1 hq2
  push_cast[ilt hk,hx]
  refine Bt.all (R:=fun x H'=>x=.bool (F s a).2/\H'=Hs (F s a).1) (h a hm s hs) ?_
  rintro x H' ⟨rfl,rfl⟩
  cases hp:(F s a).2 with
  | true =>
   rw[hp,if_pos rfl]at hq1 hq2
   push_cast
   exact Dl (.inl rfl) rfl ⟨by rw[<-hq1];rfl,by rw[<-hq2]⟩
  | false =>
   rw[hp,if_neg (by simp)]at hq1 hq2
   push_cast[hc,hH,hn,htk,w64 (show k<2^62 by omega)]
   have:=ih _ (hi a hm s hs hp) hq1 hq2
   push_cast at this
   exact this
 ·intro s hs hq1 hq2
  refine A8.2 ?_
  push_cast[B6 (Nat.le_refl _)]
  rw[An]at hq1 hq2
  exact Dl (.inl rfl) rfl ⟨by rw[<-hq1];rfl,by rw[<-hq2];rfl⟩
theorem On (s0:S)(h0:Inv s0):Spec prog AL [Bd l,.fn (.func g) [] caps] (Hs s0) fun x H'=>x=.bool (stF F s0 l).2/\H'=Hs (stF F s0 l).1:=by
 refine AJ mixed xd.ok rfl ?_
 push_cast
 refine Bt.all (R:=fun x H'=>x=.int .i64 (ixF F s0 0 l)/\H'=Hs (stF F s0 l).1) (bw hn hc hH l hl h hi s0 h0) ?_
 rintro x H' ⟨rfl,rfl⟩
 push_cast
 have hd:decide (0<=ixF F s0 0 l)=(stF F s0 l).2:=by
  have:=nN F l s0 0
  cases hq:(stF F s0 l).2 with
  | true=>rw[hq]at this;simpa using this
  | false=>rw[hq]at this;simpa using this
 rw[hn]
 exact Dl (.inl rfl) rfl ⟨by rw[<-hd];rfl,rfl⟩
end
mutual
def OL (n:Int):Term->Int×Bool
 | .mk _ _ l=>if n-1<0 then (n-1,true) else St (n-1) l
def St (n:Int):List Term->Int×Bool
 | []=>(n,false)
 | a::l=>if (OL n a).2 then ((OL n a).1,true) else St (OL n a).1 l
end
theorem sQ (n:Int)(t:Term):OL n t=if n-1<0 then (n-1,true) else St (n-1) t.args:=by cases t;rfl
theorem pp (n:Int)(l:List Term):St n l=stF OL n l:=by
 induction l generalizing n with
 | nil=>rfl
 | cons a l ih=>simp only[St,stF,ih]
mutual
theorem W3:∀ (t:Term)(n:Int),0<=n->((size t:Int)<=n->OL n t=(n-size t,false))/\(n<(size t:Int)->(OL n t).2=true)
 | .mk x v l,n,hn=>by
  have hs:size (.mk x v l)=1+Ab l:=rfl
  rw[hs]
  simp only[OL]
  by_cases h:n-1<0
  ·rw[if_pos h]
   exact⟨fun h2=>by omega,fun _=>rfl⟩
  ·rw[if_neg h]
   have:=Yu l (n-1) (by omega)
   refine⟨fun h2=>?_,fun h2=>this.2 (by omega)⟩
   rw[this.1 (by omega)]
   congr 1;omega
theorem Yu:∀ (l:List Term)(n:Int),0<=n->((Ab l:Int)<=n->St n l=(n-Ab l,false))/\(n<(Ab l:Int)->(St n l).2=true)
 | [],n,hn=>⟨fun _=>by simp[St,Ab],fun h=>by simp[Ab]at h;omega⟩
 | a::l,n,hn=>by
  have hs:Ab (a::l)=size a+Ab l:=rfl
  rw[hs]
  simp only[St]
  have h1:=W3 a n hn
  by_cases h2:(size a:Int)<=n
  ·have h3:=Yu l (n-size a) (by omega)
   rw[h1.1 h2]
   simp only[Bool.false_eq_true,if_false]
   refine⟨fun h4=>?_,fun h4=>h3.2 (by omega)⟩
   rw[h3.1 (by omega)]
   congr 1;omega
  ·rw[h1.2 (by omega),if_pos rfl]
   exact⟨fun h4=>by omega,fun _=>rfl⟩
end
theorem oX {n:Int}{t:Term}(hn:0<=n/\n<=4000)(h:(OL n t).2=false):0<=(OL n t).1/\(OL n t).1<=4000:=by
 have:=W3 t n hn.1
 by_cases h2:(size t:Int)<=n
 ·rw[this.1 h2];simp;omega
 ·rw[this.2 (by omega)]at h;cases h
mutual
def D6:Term->Nat
 | .mk _ _ l=>max l.length (JC l)
def JC:List Term->Nat
 | []=>0
 | a::l=>max (D6 a) (JC l)
end
theorem DV (t:Term):t.args.length<=D6 t/\JC t.args<=D6 t:=by cases t;simp only[D6,Term.args];omega
theorem Sn {l:List Term}{a:Term}(h:a∈l):D6 a<=JC l:=by
 induction l with
 | nil=>cases h
 | cons x xs ih=>rcases List.mem_cons.1 h with rfl | h <;> simp only[JC];omega;have:=ih h;omega
def Pt (n:Int):List Ob:=[.cells EA [.int .i64 n],.cells Gh [.fn (.func Dg) [] [.ptr 0 0,.ptr 1 0]]]
theorem ci (n:Int):(Pt n).map (A5 (AK 2))=Pt n:=rfl
theorem V9 (W:Nat)(hW:W<2^60)(t:Term)(hw:D6 t<=W):∀ n:Int,0<=n/\n<=4000->Spec prog Dg [Ao t,.ptr 0 0,.ptr 1 0] (Pt n) fun x H'=>x=.bool (OL n t).2/\H'=Pt (OL n t).1:=by
 induction t using Af with
 | h t ih =>
 intro n hn
 have hwa:=DV t
 have hw1:IntKind.i64.wrap (n-1)=n-1:=Bq (by omega) (by omega)
 refine AJ mixed R1.ok rfl ?_
 rw[sQ]
 by_cases h:n-1<0
 ·rw[if_pos h]
  unfold Pt
  push_cast[hw1,eq_true h]
  exact Dl (.inl rfl) rfl ⟨rfl,rfl⟩
 ·rw[if_neg h,pp]
  have hC:=On (S:=Int) (F:=OL) (Hs:=Pt) (Inv:=fun n=>0<=n/\n<=4000) (g:=Dg) (n:=2) (caps:=[.ptr 0 0,.ptr 1 0]) (fun _=>rfl) rfl ci t.args (by omega)
   (fun a ha s hs=>ih a ha (by have:=Sn ha;omega) s hs) (fun a ha s hs hf=>oX hs hf) (n-1) (by omega)
  unfold Pt at hC ⊢
  push_cast[hw1,eq_false h]
  refine Bt.all (R:=fun x H'=>x=.bool (stF OL (n-1) t.args).2/\H'=[.cells EA [.int .i64 (stF OL (n-1) t.args).1],.cells Gh [.fn (.func Dg) [] [.ptr 0 0,.ptr 1 0]]]) hC ?_
  rintro x H' ⟨rfl,rfl⟩
  push_cast
  exact Dl (.inl rfl) rfl ⟨rfl,rfl⟩
theorem Yb (t:Term)(hw:D6 t<2^60):PF Mx [Ao t] (.bool (decide (4000<size t))):=by
 refine Aa Pl.ok rfl ?_
 push_cast
 have hL:=V9 _ hw t (Nat.le_refl _) 4000 (by omega)
 unfold Pt at hL
 refine Bt.all (R:=fun x H'=>x=.bool (OL 4000 t).2/\H'=[.cells EA [.int .i64 (OL 4000 t).1],.cells Gh [.fn (.func Dg) [] [.ptr 0 0,.ptr 1 0]]]) hL ?_
 rintro x H' ⟨rfl,rfl⟩
 push_cast
 refine A1 ?_
 push_cast[Pl.rs]
 have:=W3 t 4000 (by omega)
 by_cases h:4000<size t
 ·rw[this.2 (by omega)];simpa using h
 ·rw[this.1 (by omega)];simpa using h
end Go.Dw
end
section
namespace Go.Dw
mutual
theorem PL:∀ (t:Term)(p:List Int),∀ x∈Ap t p,∃ q,x.1=p++q/\D7 t q=some x.2
 | .mk n v l,p,x,hx=>by
  simp only[Ap]at hx
  rcases List.mem_cons.1 hx with rfl | hx
  ·exact⟨[],by simp,rfl⟩
  ·obtain⟨k,q,h1,h2,h3⟩:=Zd l p 0 x hx
   refine⟨(k:Int)::q,by simpa using h1,?_⟩
   rw[show D7 (.mk n v l) ((k:Int)::q)=if 0<=(k:Int)/\(k:Int)<l.length then D7 (l.getD (k:Int).toNat default) q else none from rfl,if_pos ⟨by omega,by omega⟩]
   simpa using h3
theorem Zd:∀ (l:List Term)(p:List Int)(i:Nat),∀ x∈B4 l p i,∃ (k:Nat) (q:List Int),x.1=p++((i+k:Nat):Int)::q/\k<l.length/\D7 (l.getD k default) q=some x.2
 | [],p,i,x,hx=>by simp[B4]at hx
 | a::l,p,i,x,hx=>by
  simp only[B4,List.mem_append]at hx
  rcases hx with hx | hx
  ·obtain⟨q,h1,h2⟩:=PL a _ x hx
   exact⟨0,q,by simpa using h1,by simp,by simpa using h2⟩
  ·obtain⟨k,q,h1,h2,h3⟩:=Zd l p (i+1) x hx
   refine⟨k+1,q,?_,by simp;omega,by simpa using h3⟩
   rw[h1];congr 3;omega
end
theorem lw (t:Term){k:Nat}(hk:k<(F5 t).length):D7 t ((F5 t).getD k default)=some ((Ap t []).getD k default).2/\((Ap t []).getD k default).1=(F5 t).getD k default:=by
 have hl:k<(Ap t []).length:=by rw[MZ];rw[Xb]at hk;exact hk
 have hm:(Ap t []).getD k default∈Ap t []:=A4 hl
 obtain⟨q,h1,h2⟩:=PL t [] _ hm
 have h3:=KD t []
 have h4:((Ap t []).map Prod.fst).getD k default=((F5 t).map ([]++·)).getD k default:=by rw[h3]
 have h5:((Ap t []).getD k default).1=(F5 t).getD k default:=by
  simp only[List.getD_eq_getElem?_getD,List.getElem?_map,List.getElem?_eq_getElem hl,List.getElem?_eq_getElem hk,Option.map_some,Option.getD_some,List.nil_append]at h4 ⊢
  exact h4
 refine⟨?_,h5⟩
 rw[<-h5,h1,List.nil_append];exact h2
section
variable {P:Program} {N:Nat->C} {B:Nat} {ds:List Nat} {g l:List S} {s:List K} {t:T} {H:List Ob} {Q:X->T->List Ob->Prop}
theorem Acy:gP P N B true ds g l s t H Q (.bool true)=Run P N B (.r (g++l)::s) t H Q:=by simp[gP]
theorem Acw:gP P N B false ds g l s t H Q (.bool false)=Run P N B (.r (g++l)::s) t H Q:=by simp[gP]
theorem Acx:gP P N B true ds g l s t H Q (.bool false)=Run P N B (.r l::s) (ds.map (fun d=>(d,V.tup []))++t) H Q:=by simp[gP]
theorem Acz:gP P N B false ds g l s t H Q (.bool true)=Run P N B (.r l::s) (ds.map (fun d=>(d,V.tup []))++t) H Q:=by simp[gP]
theorem AcC {a b:C}:cP P N B a b s t H Q (.bool true)=Run P N B (.c a::s) t H Q:=by simp[cP]
theorem AcA {a b:C}:cP P N B a b s t H Q (.bool false)=Run P N B (.c b::s) t H Q:=by simp[cP]
end
end Go.Dw
end
section
namespace Go.Dw
theorem Xo {r:List A2}(h:Al r=0):∀ x∈r,x.left.var=false:=by
 unfold Al at h
 split at h
 ·rename_i h1;exact absurd h h1
 ·split at h
  ·cases h
  ·split at h
   ·cases h
   ·split at h
    ·cases h
    ·rename_i h3
     intro x hx
     have h4:KW x=false:=by
      cases he:KW x with
      | false=>rfl
      | true=>exact absurd (List.any_eq_true.2 ⟨x,hx,he⟩) h3
     unfold KW at h4
     simp only[Bool.or_eq_false_iff]at h4
     exact h4.1
end Go.Dw
end
section
namespace Go.Dw
theorem To (v:Str)(t:Term):occ v t=((t.var && decide (t.name=v)) || Ex v t.args):=by cases t;rfl
theorem dN {v:Str}{l:List Term}{a:Term}(h:a∈l)(ho:occ v a=true):Ex v l=true:=by
 induction l with
 | nil=>cases h
 | cons x xs ih =>
  simp only[Ex,Bool.or_eq_true]
  rcases List.mem_cons.1 h with rfl | h
  ·exact .inl ho
  ·exact .inr (ih h)
theorem T6 {v:Str}{t a:Term}(h:a∈t.args)(ho:occ v a=true):occ v t=true:=by rw[To,dN h ho,Bool.or_true]
theorem PU {t:Term}(h:t.var=true):occ t.name t=true:=by rw[To,h];simp
theorem aZ (vars:List Str)(x:List Term)(hva:vars.length<=x.length)(hl:vars.length<2^40)(t:Term)(ht:size t<2^40)(ho:∀ v,occ v t=true->v∈vars):PF Kp [Ao t,Bl vars,Bd x] (Ao (Cy vars x t)):=by
 induction t using Af with
 | h t ih =>
 have hst:=AH t
 have hll:=Ai t.args
 refine Aa Ll.ok rfl ?_
 rw[Lp]
 cases hv:t.var with
 | true =>
  obtain⟨h1,h2,h3⟩:=F6 (ho _ (PU hv))
  have hI:=Fb vars t.name (by omega)
  rw[h1]at hI
  have hlt:((ixS t.name vars:Int)<(x.length:Int))=True:=eq_true (by omega)
  push_cast[hv]
  refine .of hI ?_
  push_cast[hlt]
  exact A1 (by push_cast[Ll.rs])
 | false =>
  push_cast[hv]
  refine Ac (n:=t.args.length) (R:=fun k=>Ll.L3 (Bl vars) (Bd x) (.ptr 0 0) (.ptr 1 0) (Bd t.args) (.int .i64 t.args.length) (.int .i64 k) 0 [.cells A3 [.str [],.bool false,.sl 3 []],.cells A3 [.str t.name,.bool false,Bc cT 2 3 ((t.args.take k).map (Cy vars x))],.arr A3 3 k] _) ?_ ?_ 0 (by omega)
  ·intro k hk ih2
   have hm:=A4 hk
   have hm2:=Bp hm
   have hlen:((t.args.take k).map (Cy vars x)).length=k:=by simp;omega
   rw[A9 hk,List.map_append,List.map_singleton]at ih2
   refine A8.2 ?_
   push_cast[ilt hk]
   refine .of (ih _ hm (by omega) fun v hv2=>ho v (T6 hm hv2)) ?_
   push_cast[hlen,w64 (show k<2^62 by omega)]
   exact⟨Nat.le_trans (Nat.mul_le_mul_right 48 (show _<=2^41 by omega)) (by unfold Ag;decide),ih2⟩
  ·refine A8.2 ?_
   push_cast[B6 (Nat.le_refl _)]
   refine A1 ?_
   push_cast[Ll.rs,List.take_length,xr]
   try rfl
theorem au (r:List A2)(f:A2->Term)(g:Nat)(hr:rbs r<2^38)(hof:∀ x∈r,PF g [JL x] (Ao (f x)))(hsz:∀ x∈r,size (f x)<2^40)(hvs:∀ x∈r,∀ v,occ v (f x)=true->v∈Az [x.left])(m:A0)(hok:OkM r m)(hm:Ar m<2^39) :
  PF Ki [Aj r,Aq m,.fn (.func g) [] []] (Ao (Ae r f m)):=by
 induction m using Co with
 | h m ih =>
 have hst:=AO m
 have hll:=AS m.args
 refine Aa Le.ok rfl ?_
 rw[D4]
 push_cast
 refine Ac (n:=m.args.length) (R:=fun k=>Le.L4 (Aj r) (.fn (.func g) [] []) (.ro (cM m) 0) (.ptr 0 0) (Bc cT 1 3 ((m.args.take k).map (Ae r f))) (Cu m.args) (.int .i64 m.args.length) (.int .i64 k) 0 [.cells A3 [.str [],.bool false,.sl 3 []],.arr A3 3 k] _) ?_ ?_ 0 (by omega)
 ·intro k hk ih2
  have hmm:=A4 hk
  have hm2:=CE hmm
  have hlen:((m.args.take k).map (Ae r f)).length=k:=by simp;omega
  rw[A9 hk,List.map_append,List.map_singleton]at ih2
  refine A8.2 ?_
  push_cast[ilt hk]
  refine .of (ih _ hmm (hok.arg hmm) (by omega)) ?_
  push_cast[hlen,w64 (show k<2^62 by omega)]
  exact⟨Nat.le_trans (Nat.mul_le_mul_right 48 (show _<=2^41 by omega)) (by unfold Ag;decide),ih2⟩
 ·refine A8.2 ?_
  push_cast[B6 (Nat.le_refl _),List.take_length]
  by_cases h0:m.rule=0
  ·push_cast[eq_true h0]
   refine A1 ?_
   push_cast[Le.rs]
   show V.agg [.str m.name,.bool m.var,Bd (m.args.map (Ae r f))]=Ao (.mk m.name m.var (m.args.map (Ae r f)))
   unfold Ao;rw[Oq];rfl
  ·obtain⟨k1,k2,k3,k4,k5,k6⟩:=hok.rule h0
   have hw:IntKind.i64.wrap (m.rule-1)=m.rule-1:=Bq (by have:=Be r;omega) (by have:=Be r;omega)
   have hc1:((0:Int)<=m.rule-1)=True:=eq_true (by omega)
   have hc2:(m.rule-1<(r.length:Int))=True:=eq_true (by omega)
   have hru:r.getD (m.rule-1).toNat default=At r m:=rfl
   have hrm:=Fy k3
   have hsl:=AQ (At r m).left
   have hV:=Ej [(At r m).left] (by simp[Ab];omega)
   push_cast[eq_false h0,hw,hc1,hc2,hru]
   refine .of (hof _ k3) ?_
   push_cast
   refine .of hV ?_
   push_cast
   refine .of (aZ (Az [(At r m).left]) (m.args.map (Ae r f)) (by rw[List.length_map,k4];exact Nat.le_refl _) (by rw[<-k4];omega) _ (hsz _ k3) (hvs _ k3)) ?_
   push_cast
   exact A1 (by push_cast[Le.rs])
theorem Ti {α:Type}{f:α->Term}{W:Nat}:∀ {l:List α},(∀ a∈l,D6 (f a)<=W)->JC (l.map f)<=W
 | [],_=>by simp[JC]
 | a::l,h=>by
  simp only[List.map_cons,JC]
  have h1:=h a (by simp)
  have h2:=Ti (f:=f) (l:=l) fun b hb=>h b (by simp[hb])
  omega
theorem gF {l:List Term}{k:Nat}:D6 (l.getD k default)<=JC l:=by
 by_cases h:k<l.length
 ·exact Sn (A4 h)
 ·rw[List.getD_eq_getElem?_getD,List.getElem?_eq_none (by omega)]
  exact Nat.zero_le _
theorem mU (vars:List Str)(x:List Term)(t:Term):D6 (Cy vars x t)<=max (JC x) (size t):=by
 induction t using Af with
 | h t ih =>
  rw[Lp]
  have hst:=AH t
  have hll:=Ai t.args
  split
  ·have:=gF (l:=x) (k:=ixS t.name vars);omega
  ·simp only[D6,List.length_map]
   have:=Ti (f:=Cy vars x) (W:=max (JC x) (size t)) (l:=t.args) fun a ha=>by
    have:=ih a ha
    have:=Bp ha
    omega
   omega
theorem lB (r:List A2)(f:A2->Term){W:Nat}(hsz:∀ x∈r,size (f x)<=W)(m:A0)(hok:OkM r m)(hm:Ar m<=W):D6 (Ae r f m)<=W:=by
 induction m using Co with
 | h m ih =>
  rw[D4]
  have hst:=AO m
  have hll:=AS m.args
  have hw:=Ti (f:=Ae r f) (W:=W) (l:=m.args) fun a ha=>ih a ha (hok.arg ha) (by have:=CE ha;omega)
  split
  ·simp only[D6,List.length_map];omega
  ·rename_i h0
   have:=mU (Az [(At r m).left]) (m.args.map (Ae r f)) (f (At r m))
   have:=hsz _ (hok.rule h0).2.2.1
   omega
theorem Uy (r:List A2)(f:A2->Term)(g:Nat)(m:A0)(hr:rbs r<2^38)(hm:mb m<2^38)(hof:∀ x∈r,PF g [JL x] (Ao (f x)))(hsz:∀ x∈r,size (f x)<2^40)(hvs:Al r=0->∀ x∈r,∀ v,occ v (f x)=true->v∈Az [x.left]) :
  PF M7 [Aj r,Aq m,.fn (.func g) [] []] (Gv (FZ r f m).1 (FZ r f m).2):=by
 have hmz:=FO m
 refine Aa KH.ok rfl ?_
 push_cast
 refine .of (Y8 r m hr (by omega)) ?_
 unfold FZ
 by_cases h1:¬ Fu r m=0
 ·rw[if_pos h1]
  push_cast[eq_false h1]
  exact A1 (by push_cast[KH.rs];rfl)
 have h1:Fu r m=0:=Classical.not_not.1 h1
 rw[if_neg (by simpa using h1)]
 obtain⟨c1,c2,c3,c4⟩:=Fs h1
 have hS:=au r f g hr hof hsz (hvs c1) m c2 (by omega)
 have hwd:=lB r f (W:=2^40) (fun x hx=>by have:=hsz x hx;omega) m c2 (by omega)
 generalize Ae r f m=t at hS hwd
 push_cast[h1]
 refine .of hS ?_
 push_cast
 refine .of (Yb t (by omega)) ?_
 by_cases h2:4000<size t
 ·have hf:BK t=false:=by unfold BK;simp;omega
  rw[hf]
  push_cast[eq_true h2]
  exact A1 (by push_cast[KH.rs];rfl)
 ·push_cast[eq_false h2]
  refine .of (Of t (by omega)) ?_
  push_cast
  refine .of (VP t (by omega)) ?_
  cases hf:BK t with
  | true =>
   rw[if_pos rfl,if_pos rfl]
   unfold Gv
   push_cast
   exact A1 (by push_cast[KH.rs];try rfl)
  | false =>
   rw[if_neg (by simp),if_neg (by simp)]
   unfold Gv
   push_cast
   exact A1 (by push_cast[KH.rs];try rfl)
theorem HG (x:A2):∀ v,occ v x.left=true->v∈Az [x.left]:=fun v h=>(DK v x.left).2 h
theorem K9 {r:List A2}(h:Al r=0):∀ x∈r,∀ v,occ v x.right=true->v∈Az [x.left]:=by
 unfold Al at h
 split at h
 ·rename_i h1;exact absurd h h1
 ·split at h
  ·cases h
  ·split at h
   ·cases h
   ·split at h
    ·cases h
    ·rename_i h3
     intro x hx v hv
     have h4:KW x=false:=by
      cases he:KW x with
      | false=>rfl
      | true=>exact absurd (List.any_eq_true.2 ⟨x,hx,he⟩) h3
     unfold KW at h4
     simp only[Bool.or_eq_false_iff]at h4
     have:=List.any_eq_false.1 h4.2 v ((DK v x.right).2 hv)
     simpa using this
theorem TK (x:A2):PF Gt [JL x] (Ao x.left):=by
 refine Aa Lc.ok rfl ?_
 push_cast
 exact A1 (by push_cast[Lc.rs];try rfl)
theorem TD (x:A2):PF Gk [JL x] (Ao x.right):=by
 refine Aa Lw.ok rfl ?_
 push_cast
 exact A1 (by push_cast[Lw.rs];try rfl)
theorem Xe (r:List A2)(m:A0)(hr:rbs r<2^38)(hm:mb m<2^38):PF Ls [Aj r,Aq m] (Gv (FZ r A2.left m).1 (FZ r A2.left m).2):=by
 refine Aa NK.ok rfl ?_
 have hE:=Uy r A2.left Gt m hr hm (fun x _=>TK x) (fun x hx=>by have:=Fy hx;have:=AQ x.left;omega) (fun _ x _=>HG x)
 push_cast
 refine .of hE ?_
 generalize (FZ r A2.left m)=p
 obtain⟨o,e⟩:=p
 cases o <;> (unfold Gv;push_cast;exact A1 (by push_cast[NK.rs];try rfl))
theorem Wf (r:List A2)(m:A0)(hr:rbs r<2^38)(hm:mb m<2^38):PF LD [Aj r,Aq m] (Gv (FZ r A2.right m).1 (FZ r A2.right m).2):=by
 refine Aa Nm.ok rfl ?_
 have hE:=Uy r A2.right Gk m hr hm (fun x _=>TD x) (fun x hx=>by have:=Fy hx;have:=AQ x.right;omega) (fun h=>K9 h)
 push_cast
 refine .of hE ?_
 generalize (FZ r A2.right m)=p
 obtain⟨o,e⟩:=p
 cases o <;> (unfold Gv;push_cast;exact A1 (by push_cast[Nm.rs];try rfl))
end Go.Dw
end
section
namespace Go.Dw
section
variable {P:Program} {N:Nat->C} {B:Nat} {ds:List Nat} {g l:List S} {s:List K} {t:T} {H:List Ob} {Q:X->T->List Ob->Prop}
theorem AbM:gP P N B true ds g l s t H Q (.bool true)=Run P N B (.r (g++l)::s) t H Q:=by simp[gP]
theorem AbL:gP P N B false ds g l s t H Q (.bool false)=Run P N B (.r (g++l)::s) t H Q:=by simp[gP]
theorem Abt:gP P N B true ds g l s t H Q (.bool false)=Run P N B (.r l::s) (ds.map (fun d=>(d,V.tup []))++t) H Q:=by simp[gP]
theorem AbK:gP P N B false ds g l s t H Q (.bool true)=Run P N B (.r l::s) (ds.map (fun d=>(d,V.tup []))++t) H Q:=by simp[gP]
theorem Acf {a b:C}:cP P N B a b s t H Q (.bool true)=Run P N B (.c a::s) t H Q:=by simp[cP]
theorem AbZ {a b:C}:cP P N B a b s t H Q (.bool false)=Run P N B (.c b::s) t H Q:=by simp[cP]
end
attribute [push_cast] AbM AbL Abt AbK Acf AbZ
end Go.Dw
end
section
namespace Go.Dw
def Sb (s:Str):List Str->List Str
 | []=>[s]
 | x::l=>if x<s then x::Sb s l else if x=s then x::l else s::x::l
theorem pZ (s:Str):∀ l:List Str,OI l s=Sb s l
 | []=>rfl
 | x::l=>by
  have ih:=pZ s l
  unfold OI at ih ⊢
  simp only[lbg,Sb]
  by_cases h:x<s
  ·simp only[h,decide_true,if_true]
   rw[<-ih]
   simp only[List.length_cons,Nat.add_lt_add_iff_right,List.getD_cons_succ,List.take_succ_cons,List.drop_succ_cons]
   split <;> simp
  ·simp only[h,decide_false,Bool.false_eq_true,if_false,List.length_cons,Nat.zero_lt_succ,true_and,List.getD_cons_zero,List.take_zero,List.drop_zero,List.nil_append]
def SS (l:List Str):Prop:=l.Pairwise (· < ·)
theorem ZF {s v:Str}:∀ {l:List Str},v∈Sb s l->v∈l\/v=s
 | [],h=>.inr (by simpa[Sb]using h)
 | x::l,h=>by
  unfold Sb at h
  split at h
  ·rcases List.mem_cons.1 h with rfl | h
   ·exact .inl (by simp)
   ·rcases ZF h with h | h
    ·exact .inl (by simp[h])
    ·exact .inr h
  ·split at h
   ·exact .inl h
   ·rcases List.mem_cons.1 h with rfl | h
    ·exact .inr rfl
    ·exact .inl h
theorem RY {s:Str}:∀ {l:List Str},SS l->SS (Sb s l)
 | [],_=>by simp[Sb,SS]
 | x::l,h=>by
  unfold SS at h ⊢
  rw[List.pairwise_cons]at h
  unfold Sb
  split
  ·rename_i hx
   rw[List.pairwise_cons]
   refine⟨fun v hv=>?_,RY h.2⟩
   rcases ZF hv with hv | rfl
   ·exact h.1 v hv
   ·exact hx
  ·rename_i hx
   split
   ·rw[List.pairwise_cons];exact h
   ·rename_i hne
    have hsx:s<x:=by
     rcases Classical.em (s<x)with hc | hc
     ·exact hc
     ·exact absurd (WP hc hx).symm hne
    rw[List.pairwise_cons,List.pairwise_cons]
    refine⟨fun v hv=>?_,h⟩
    rcases List.mem_cons.1 hv with rfl | hv
    ·exact hsx
    ·exact Nf hsx (h.1 v hv)
mutual
theorem Oy:∀ (t:Term)(l:List Str),SS l->SS (Dn l t)
 | .mk n b ar,l,h=>by
  simp only[Dn]
  refine MW ar _ ?_
  split
  ·rw[pZ];exact RY h
  ·exact h
theorem MW:∀ (ar:List Term)(l:List Str),SS l->SS (Bw l ar)
 | [],l,h=>h
 | a::ar,l,h=>by simp only[Bw];exact MW ar _ (Oy a l h)
end
theorem Xr (l:List Str):∀ ks:List Str,ks.Nodup->(l.foldl Vi ks).Nodup:=by
 induction l with
 | nil=>intro ks h;exact h
 | cons x l ih =>
  intro ks h
  refine ih _ ?_
  unfold Vi
  split
  ·exact h
  ·rename_i hx
   rw[List.nodup_append]
   exact⟨h,by simp,fun a ha b hb e=>by rw[List.mem_singleton]at hb;subst hb;subst e;exact hx ha⟩
theorem ce (t:Term):DS t=Az [t]:=by
 have h1:SS (DS t):=Oy t [] List.Pairwise.nil
 have h2:(HA [] [t]).Nodup:=by
  show (Qw [] (Ap t [])).Nodup
  exact Xr _ _ List.nodup_nil
 have hm:∀ v,v∈DS t↔v∈HA [] [t]:=fun v=>by
  have e1:v∈DS t↔occ v t=true:=by
   unfold DS;rw[F4];simp
  have e2:=DK v t
  unfold Az at e2
  rw[(List.mergeSort_perm _ _).mem_iff]at e2
  rw[e1,e2]
 have hnd:(DS t).Nodup:=h1.imp fun hab e=>by rw[e]at hab;exact Df _ hab
 have hp:(DS t).Perm (HA [] [t]):=(List.perm_ext_iff_of_nodup hnd h2).2 hm
 unfold Az
 have e3:Proofs.sortS (HA [] [t])=Proofs.sortS (DS t):=Go.mergeSort_of_perm hp.symm
 rw[e3]
 unfold Proofs.sortS
 refine (List.mergeSort_of_pairwise ?_).symm
 refine h1.imp fun {a b} hab=>?_
 simpa using List.le_of_lt hab
theorem KO (x:A2)(ht:tb x.left<2^39):PF FU [JL x] (Bl (Az [x.left])):=by
 refine Aa VQ.ok rfl ?_
 push_cast
 have hV:=Rs x.left ht
 rw[ce]at hV
 refine .of hV ?_
 push_cast
 exact A1 (by push_cast[VQ.rs])
theorem QJ {α:Type}[Inhabited α]{p:α->Bool}{l:List α}{k:Nat}(hk:k<l.length):(l.drop k).all p=(p (l.getD k default) && (l.drop (k+1)).all p):=by
 rw[Ak hk,List.all_cons]
theorem ZN (r:List A2)(m:A0)(hs:Ar m<2^40):PF Kh [Aj r,Aq m] (.bool (GK (BY r.length) m)):=by
 induction m using Co with
 | h m ih =>
 have hst:=AO m
 have hl:=AS m.args
 refine Aa Gg.ok rfl ?_
 rw[GU]
 have hrd:BY r.length m=(decide (0<=m.rule) && decide (m.rule<=r.length)):=rfl
 by_cases h1:m.rule<0
 ·have hf:BY r.length m=false:=by rw[hrd];simp;omega
  push_cast[eq_true h1,hf]
  exact A1 (by push_cast[Gg.rs])
 by_cases h2:(r.length:Int)<m.rule
 ·have hf:BY r.length m=false:=by rw[hrd];simp;omega
  push_cast[eq_false h1,eq_true h2,hf]
  exact A1 (by push_cast[Gg.rs])
 have ht:BY r.length m=true:=by rw[hrd];simp;omega
 push_cast[eq_false h1,eq_false h2,ht]
 refine Ac (n:=m.args.length) (R:=fun k=>(m.args.drop k).all (GK (BY r.length))=m.args.all (GK (BY r.length))->Gg.L3 (Aj r) (Cu m.args) (.int .i64 m.args.length) (.int .i64 k) 0 [] (Bv 0 Gg.rs fun x' H'=>x'=.bool (m.args.all (GK (BY r.length)))/\H'=[])) ?_ ?_ 0 (by omega) rfl
 ·intro k hk ih2 hq
  have hm:=A4 hk
  have hsm:=CE hm
  rw[QJ hk]at hq
  refine A8.2 ?_
  push_cast[ilt hk]
  refine .of (ih _ hm (by omega)) ?_
  cases hp:GK (BY r.length) (m.args.getD k default)with
  | false =>
   rw[hp,Bool.false_and]at hq
   push_cast[<-hq]
   exact A1 (by push_cast[Gg.rs])
  | true =>
   rw[hp,Bool.true_and]at hq
   push_cast[w64 (show k<2^62 by omega)]
   exact ih2 hq
 ·intro hq
  refine A8.2 ?_
  push_cast[B6 (Nat.le_refl _)]
  rw[An]at hq
  exact A1 (by push_cast[Gg.rs,<-hq];rfl)
theorem fP (m:A0)(hs:Ar m<2^40):PF Oa [Aq m] (.tup [.int .i64 (Ar m),.int .i64 (Ba m)]):=by
 induction m using Co with
 | h m ih =>
 refine Aa ST.ok rfl ?_
 have hst:=AO m
 have hdt:=E4 m
 have hl:=AS m.args
 have hd:=M3 m.args
 push_cast
 refine Ac (n:=m.args.length) (R:=fun k=>ST.L3 (.int .i64 ((1+Bs (m.args.take k):Nat):Int)) (.int .i64 (AW (m.args.take k):Nat)) (Cu m.args) (.int .i64 m.args.length) (.int .i64 k) 0 [] _) ?_ ?_ 0 (by omega)
 ·intro k hk ih2
  have h1:=HY _ _ hk
  have h2:=IV _ _ hk
  have h3:=OR m.args (k+1)
  have hm:=A4 hk
  have:=CE hm
  refine A8.2 ?_
  push_cast[ilt hk]
  refine .of (ih _ hm (by omega)) ?_
  push_cast[w64 (show k<2^62 by omega)]
  rw[Bq (by omega) (by omega)]
  rw[h1,h2]at ih2
  push_cast at ih2
  simpa[Int.add_assoc]using ih2
 ·refine A8.2 ?_
  push_cast[B6 (Nat.le_refl _),List.take_length]
  rw[Bq (by omega) (by omega)]
  refine A1 ?_
  push_cast[ST.rs,hst,hdt]
theorem Ut (m:A0)(hs:Ar m<2^40):PF Mg [Aq m] (.bool (LK m)):=by
 refine Aa Qd.ok rfl ?_
 push_cast
 refine .of (fP m hs) ?_
 unfold LK
 by_cases h:Ar m<=4000
 ·have hi:((Ar m:Int)<=4000)=True:=eq_true (by omega)
  push_cast[hi]
  refine A1 ?_
  push_cast[Qd.rs,h]
  exact decide_eq_decide.2 (by omega)
 ·have hi:((Ar m:Int)<=4000)=False:=eq_false (by omega)
  push_cast[hi]
  exact A1 (by push_cast[Qd.rs,h];try rfl)
set_option maxHeartbeats 2000000 in
theorem bf (r:List A2)(hr:rbs r<2^38)(m:A0)(hq:GK (BY r.length) m=true)(hm:mb m<2^40):PF Kw [Aj r,Aq m] (.bool (GK (Bj r) m)):=by
 induction m using Co with
 | h m ih =>
 have hmb:=Vp m
 have hsz:=FO m
 have hst:=AO m
 have hl:=AS m.args
 have hI:∀ b,PF E5 [.str m.name,.bool b] (.bool (C6 m.name b)):=fun b=>SB _ b (by omega)
 have hqs:=Gs hq
 unfold BY at hqs
 rw[Bool.and_eq_true,decide_eq_true_eq,decide_eq_true_eq]at hqs
 refine Aa Cf.ok rfl ?_
 rw[GU]
 have hloop:Bj r m=true->Cf.L3 (Aj r) (Cu m.args) (.int .i64 m.args.length) (.int .i64 0) 0 [] (Bv 0 Cf.rs fun x' H'=>x'=.bool (Bj r m && m.args.all (GK (Bj r)))/\H'=[]):=fun hf=>by
  rw[hf,Bool.true_and]
  refine Ac (n:=m.args.length) (R:=fun k=>(m.args.drop k).all (GK (Bj r))=m.args.all (GK (Bj r))->Cf.L3 (Aj r) (Cu m.args) (.int .i64 m.args.length) (.int .i64 k) 0 [] (Bv 0 Cf.rs fun x' H'=>x'=.bool (m.args.all (GK (Bj r)))/\H'=[])) ?_ ?_ 0 (by omega) rfl
  ·intro k hk ih2 hq2
   have hm2:=A4 hk
   have hsm:=oE hm2
   rw[QJ hk]at hq2
   refine A8.2 ?_
   push_cast[ilt hk]
   refine .of (ih _ hm2 (T2 hq hm2) (by omega)) ?_
   cases hp:GK (Bj r) (m.args.getD k default)with
   | false =>
    rw[hp,Bool.false_and]at hq2
    push_cast[<-hq2]
    exact A1 (by push_cast[Cf.rs])
   | true =>
    rw[hp,Bool.true_and]at hq2
    push_cast[w64 (show k<2^62 by omega)]
    exact ih2 hq2
  ·intro hq2
   refine A8.2 ?_
   push_cast[B6 (Nat.le_refl _)]
   rw[An]at hq2
   exact A1 (by push_cast[Cf.rs,<-hq2];rfl)
 have hfe:Bj r m=if 0<m.rule then decide (m.name=[]) && (!m.var && decide (m.args.length=(Az [(At r m).left]).length)) else if m.var then decide (m.args.length=0) && C6 m.name false else decide (m.args.length<=8) && C6 m.name true:=rfl
 by_cases h1:0<m.rule
 ·have hm1:r.getD (m.rule-1).toNat default∈r:=A4 (by omega)
  have hrm:=Fy hm1
  have hru:r.getD (m.rule-1).toNat default=At r m:=rfl
  have hw:IntKind.i64.wrap (m.rule-1)=m.rule-1:=Bq (by have:=Be r;omega) (by have:=Be r;omega)
  have hc1:((0:Int)<=m.rule-1)=True:=eq_true (by omega)
  have hc2:(m.rule-1<(r.length:Int))=True:=eq_true (by omega)
  rw[hru]at hrm
  have hV:=KO (At r m) (by omega)
  rw[if_pos h1]at hfe
  cases h3:m.var with
  | true =>
   have hf:Bj r m=false:=by rw[hfe,h3];simp
   push_cast[eq_true h1,h3,hf]
   exact A1 (by push_cast[Cf.rs])
  | false =>
  by_cases h2:m.name=[]
  ·by_cases h4:m.args.length=(Az [(At r m).left]).length
   ·have hf:Bj r m=true:=by rw[hfe,h3,h2];simp[h4]
    have hL:=hloop hf
    have h4i:((m.args.length:Int)=((Az [(At r m).left]).length:Int))=True:=eq_true (by omega)
    push_cast[eq_true h1,h2,h3,hw,hc1,hc2,hru]
    refine .of hV ?_
    push_cast[h4i]
    exact hL
   ·have hf:Bj r m=false:=by rw[hfe,h3,h2];simp[h4]
    have h4i:((m.args.length:Int)=((Az [(At r m).left]).length:Int))=False:=eq_false (by omega)
    push_cast[eq_true h1,h2,h3,hw,hc1,hc2,hru,hf]
    refine .of hV ?_
    push_cast[h4i]
    exact A1 (by push_cast[Cf.rs])
  ·have hf:Bj r m=false:=by rw[hfe];simp[h2]
   push_cast[eq_true h1,eq_false h2,h3,hf]
   exact A1 (by push_cast[Cf.rs])
 ·rw[if_neg h1]at hfe
  cases hv:m.var with
  | true =>
   rw[hv,if_pos rfl]at hfe
   cases hn:C6 m.name false with
   | false =>
    have hf:Bj r m=false:=by rw[hfe,hn];simp
    push_cast[eq_false h1,hv]
    refine .of (hI false) ?_
    push_cast[hn,hf]
    exact A1 (by push_cast[Cf.rs])
   | true =>
   by_cases h0:m.args.length=0
   ·have hf:Bj r m=true:=by rw[hfe,hn];simp[h0]
    have hL:=hloop hf
    have h0i:(0<(m.args.length:Int))=False:=eq_false (by omega)
    push_cast[eq_false h1,hv]
    refine .of (hI false) ?_
    push_cast[hn,h0i]
    exact hL
   ·have hf:Bj r m=false:=by rw[hfe,hn];simp[h0]
    have h0i:(0<(m.args.length:Int))=True:=eq_true (by omega)
    push_cast[eq_false h1,hv]
    refine .of (hI false) ?_
    push_cast[hn,h0i,hf]
    exact A1 (by push_cast[Cf.rs])
  | false =>
   rw[hv,if_neg (by simp)]at hfe
   cases hn:C6 m.name true with
   | false =>
    have hf:Bj r m=false:=by rw[hfe,hn];simp
    push_cast[eq_false h1,hv]
    refine .of (hI true) ?_
    push_cast[hn,hf]
    exact A1 (by push_cast[Cf.rs])
   | true =>
   by_cases h0:m.args.length<=8
   ·have hf:Bj r m=true:=by rw[hfe,hn];simp[h0]
    have hL:=hloop hf
    have h0i:(8<(m.args.length:Int))=False:=eq_false (by omega)
    push_cast[eq_false h1,hv]
    refine .of (hI true) ?_
    push_cast[hn,h0i]
    exact hL
   ·have hf:Bj r m=false:=by rw[hfe,hn];simp[h0]
    have h0i:(8<(m.args.length:Int))=True:=eq_true (by omega)
    push_cast[eq_false h1,hv]
    refine .of (hI true) ?_
    push_cast[hn,h0i,hf]
    exact A1 (by push_cast[Cf.rs])
theorem qz (m:A0):LK m=true↔¬ (4000<Ar m\/200<Ba m):=by unfold LK;simp
theorem bM (r:List A2)(m:A0)(hr:rbs r<2^38)(hm:mb m<2^39):PF PE [Aj r,Aq m] (.int .i64 (Fu r m)):=by
 have hsz:=FO m
 refine Aa J0.ok rfl ?_
 push_cast
 refine .of (M8 r (by omega)) ?_
 generalize hT:Fu r m=T
 unfold Fu at hT
 by_cases h1:¬ Al r=0
 ·rw[if_pos h1]at hT
  subst hT
  push_cast[eq_false h1]
  exact A1 (by push_cast[J0.rs])
 have h1:Al r=0:=Classical.not_not.1 h1
 rw[if_neg (by simpa using h1)]at hT
 push_cast[h1]
 refine .of (ZN r m (by omega)) ?_
 cases h2:GK (BY r.length) m with
 | false =>
  rw[h2,if_pos rfl]at hT
  subst hT
  push_cast
  exact A1 (by push_cast[J0.rs])
 | true =>
 rw[h2,if_neg (by simp)]at hT
 push_cast
 refine .of (bf r hr m h2 (by omega)) ?_
 cases h3:GK (Bj r) m with
 | false =>
  rw[h3,if_pos rfl]at hT
  subst hT
  push_cast
  exact A1 (by push_cast[J0.rs])
 | true =>
 rw[h3,if_neg (by simp)]at hT
 push_cast
 refine .of (Ut m (by omega)) ?_
 have hf:=qz m
 cases h4:LK m with
 | false =>
  rw[h4]at hf
  rw[if_pos (Classical.not_not.1 fun h=>by simpa using hf.2 h)]at hT
  subst hT
  push_cast
  exact A1 (by push_cast[J0.rs])
 | true =>
  rw[if_neg (hf.1 h4)]at hT
  subst hT
  push_cast
  exact A1 (by push_cast[J0.rs])
end Go.Dw
end
section
namespace Go.Dw
open Go.Proofs.YtkdcfkfdkimaeaaGreatDoor
section
variable {H:Type} {enc:TypeId × Value->H} {W:World}
theorem Abp:prog.cellsOf 25=1+1+1+1:=by kernel_rfl
theorem Acm:prog.cellsOf 23=1:=by kernel_rfl
theorem wz {α:Type}{cs:List α}{a b c d:Nat}(h:cs.length=a+b+c+d):cs=(cs.drop 0).take a++((cs.drop a).take b++((cs.drop (a+b)).take c++(cs.drop (a+b+c)).take d)):=by
 have h1:cs.drop (a+b)=(cs.drop (a+b)).take c++(cs.drop (a+b+c)).take d:=by
  rw[List.take_of_length_le (l:=cs.drop (a+b+c)) (by simp;omega),<-List.drop_drop (i:=c),List.take_append_drop]
 have h2:cs.drop a=(cs.drop a).take b++cs.drop (a+b):=by rw[<-List.drop_drop (i:=b),List.take_append_drop]
 rw[<-h1,<-h2,List.drop_zero,List.take_append_drop]
theorem nD (l:List A0):Th mb l=mbs l:=by
 induction l with
 | nil=>rfl
 | cons a l ih=>simp only[Th,mbs,ih]
theorem VJ:∀ n,Br enc W n 25 cM mb
 | 0=>by intro cs x h;simp[DataW.trod]at h
 | n+1=>by
  intro cs x h hbk
  obtain⟨xs,m,hm,rfl,hl,hlen,hf⟩:=DataW.trod_struct (P:=prog) Go.Proofs.Tryz.underlying25 h
  obtain rfl:n=m:=by omega
  rw[Abp]at hl
  match xs,hlen with
  | [x0,x1,x2,x3],_ =>
  have f0:trd enc W n 3 ((cs.drop 0).take (prog.cellsOf 3))=some x0:=hf 0 _ rfl
  have f1:trd enc W n 9 ((cs.drop 1).take (prog.cellsOf 9))=some x1:=hf 1 _ rfl
  have f2:trd enc W n 4 ((cs.drop 2).take (prog.cellsOf 4))=some x2:=hf 2 _ rfl
  have f3:trd enc W n 23 ((cs.drop 3).take (prog.cellsOf 23))=some x3:=hf 3 _ rfl
  rw[c3]at f0;rw[c9]at f1;rw[c4]at f2;rw[Acm]at f3
  simp only[List.map_cons,List.map_nil,Rows.uptoBulk,Rows.uptoBulkAll]at hbk ⊢
  obtain⟨k,b0,d0⟩:=xI _ _ f0 (by omega)
  obtain⟨s,b1,d1⟩:=oq _ _ f1 (by omega)
  obtain⟨v,b2,d2⟩:=jb _ _ f2 (by omega)
  obtain⟨l,b3,d3⟩:=Wl (n:=n) (sz:=4) (c:=cM) (b:=mb) Go.Proofs.Tryz.underlying23 Abp (by omega) (fun _=>rfl) (fun m hm=>VJ m) _ _ f3 (by omega)
  try dsimp only at b0
  try dsimp only at b1
  try dsimp only at b2
  try dsimp only at b3
  refine⟨.mk k s v l,?_,?_⟩
  ·rw[nD]at b3
   simp only[mb]
   omega
  ·rw[wz hl,SE]
   exact d0.app (d1.app (d2.app d3))
end
end Go.Dw
end
section
namespace Go.Dw
open Go.Proofs Go.Proofs.YtkdcfkfdkimaeaaGreatDoor
theorem pq {P:Program}{W:World}{name:String}{cs:Array Value}{g:Nat}(hg:P.globalNamed name=some g)(h:W.var? P name=some cs):∃ e fz,W.heap[g]?=some (.cells cs e fz):=by
 unfold World.var? at h
 rw[hg]at h
 simp only[Option.bind_some]at h
 split at h
 ·rename_i c e fz hh
  injection h with h
  subst h
  exact⟨_,_,hh⟩
 ·cases h
theorem wS : prog.globalNamed "internal/strconv.uint64pow10" = some 1 := by kernel_rfl
theorem Abu:(prog.globals[1]?).map (·.type)=some 323:=by kernel_rfl
theorem Aa9:prog.underlying 323=some (.array 20 254):=by kernel_rfl
theorem zm:prog.underlying 254=some (.int .u64):=by kernel_rfl
theorem xF:prog.cellsOf 254=1:=by kernel_rfl
theorem AbA:prog.cellsOf 323=20:=by kernel_rfl
theorem ma {L:List (String×DataW Unit)}{W:World}(hL:laidMetH prog L W)
  (he : L=[("math/bits.deBruijn32tab",Rows.laid_math_bits_deBruijn32tab),("math/bits.deBruijn64tab",Rows.laid_math_bits_deBruijn64tab),("internal/strconv.uint64pow10",Rows.laid_internal_strconv_uint64pow10)]) : gp ⟨W,okW W,fun _ => none,[]⟩ := by
 subst he
 have h3 : laidMet prog [("internal/strconv.uint64pow10",Lib.tabData .u64 Lib.pow10Tab)] W := laidMet.tail (laidMet.tail hL)
 have ht:=Lib.tabIs_of_head wS Abu Aa9 zm xF AbA h3
 obtain⟨e,fz,hh⟩:=pq wS ht
 intro p hp
 simp only[xO,List.mem_singleton]at hp
 subst hp
 refine⟨⟨e,fz,?_⟩,fun ⟨i,k,hi,_⟩=>by cases hi⟩
 show W.heap[1]?=_
 rw[hh,Lib.pow10Tab,List.map_map]
 rfl
def Ri:DataW Unit->Array Value
 | .agg l=>(l.map fun x=>match x with | .lit (.int k z)=>Value.int k z | _=>Value.bool false).toArray
 | _=>#[]
noncomputable def iy (w:World)(i:Nat)(cs:Array Value):World:={ w with heap:=w.heap.modify i fun o=>match o with
 | .cells _ t frozen=>.cells cs t frozen
 | o=>o }
noncomputable def gO (w:World):World :=
 iy (iy (iy w 1 (Ri Rows.laid_internal_strconv_uint64pow10)) 2 (Ri Rows.laid_math_bits_deBruijn32tab)) 3 (Ri Rows.laid_math_bits_deBruijn64tab)
end Go.Dw
end
section
namespace Go.Proofs
open Go.RowKit Go.Shelf Go.Sort
def Tryz.laysFmt_ren:Go.Shelf.Ren:=⟨fun | 246=>310 | 283=>316 | 284=>317 | 285=>318 | 286=>319 | 129=>244 | 317=>322 | 318=>323 | 319=>324 | 320=>325 | 337=>327 | 338=>328 | n=>n,fun | 2=>2 | 3=>3 | 9=>9 | 4=>4 | 171=>315 | 0=>0 | 53=>254 | 37=>221 | 5=>5 | 173=>317 | 212=>323 | 51=>252 | 20=>20 | 213=>324 | 46=>208 | 232=>326 | 233=>327 | n=>n,fun | 17=>1 | 18=>2 | 19=>3 | n=>n⟩
theorem Tryz.laysFmt:Go.Proofs.LaysM.n246 Tryz.prog Tryz.laysFmt_ren:={
 mixed:=by kernel_rfl
 f129:=Tryz.func244.trans (congrArg some (by kernel_rfl))
 f246:=Tryz.func310.trans (congrArg some (by kernel_rfl))
 f283:=Tryz.func316.trans (congrArg some (by kernel_rfl))
 f284:=Tryz.func317.trans (congrArg some (by kernel_rfl))
 f285:=Tryz.func318.trans (congrArg some (by kernel_rfl))
 f286:=Tryz.func319.trans (congrArg some (by kernel_rfl))
 f317:=Tryz.func322.trans (congrArg some (by kernel_rfl))
 f318:=Tryz.func323.trans (congrArg some (by kernel_rfl))
 f319:=Tryz.func324.trans (congrArg some (by kernel_rfl))
 f320:=Tryz.func325.trans (congrArg some (by kernel_rfl))
 f337:=Tryz.func327.trans (congrArg some (by kernel_rfl))
 f338:=Tryz.func328.trans (congrArg some (by kernel_rfl))
 t0:=Tryz.underlying0
 a0:=Tryz.isAgg0
 z0:=Tryz.sizeOf0
 v0:=Tryz.zeroValue0
 t2:=Tryz.underlying2
 a2:=Tryz.isAgg2
 z2:=Tryz.sizeOf2
 v2:=Tryz.zeroValue2
 t3:=Tryz.underlying3
 a3:=Tryz.isAgg3
 z3:=Tryz.sizeOf3
 v3:=Tryz.zeroValue3
 t4:=Tryz.underlying4
 a4:=Tryz.isAgg4
 z4:=Tryz.sizeOf4
 v4:=Tryz.zeroValue4
 t5:=Tryz.underlying5
 a5:=Tryz.isAgg5
 z5:=Tryz.sizeOf5
 v5:=Tryz.zeroValue5
 t9:=Tryz.underlying9
 a9:=Tryz.isAgg9
 z9:=Tryz.sizeOf9
 v9:=Tryz.zeroValue9
 t20:=Tryz.underlying20
 a20:=Tryz.isAgg20
 z20:=Tryz.sizeOf20
 v20:=Tryz.zeroValue20
 t37:=Tryz.underlying221
 a37:=Tryz.isAgg221
 z37:=Tryz.sizeOf221
 v37:=Tryz.zeroValue221
 t46:=Tryz.underlying208
 a46:=Tryz.isAgg208
 z46:=Tryz.sizeOf208
 v46:=Tryz.zeroValue208
 t51:=Tryz.underlying252
 a51:=Tryz.isAgg252
 z51:=Tryz.sizeOf252
 v51:=Tryz.zeroValue252
 t53:=Tryz.underlying254
 a53:=Tryz.isAgg254
 z53:=Tryz.sizeOf254
 v53:=Tryz.zeroValue254
 t171:=Tryz.underlying315
 a171:=Tryz.isAgg315
 z171:=Tryz.sizeOf315
 v171:=Tryz.zeroValue315
 t173:=Tryz.underlying317
 a173:=Tryz.isAgg317
 z173:=Tryz.sizeOf317
 v173:=Tryz.zeroValue317
 t212:=Tryz.underlying323
 a212:=Tryz.isAgg323
 z212:=Tryz.sizeOf323
 v212:=Tryz.zeroValue323
 t213:=Tryz.underlying324
 a213:=Tryz.isAgg324
 z213:=Tryz.sizeOf324
 t232:=Tryz.underlying326
 a232:=Tryz.isAgg326
 z232:=Tryz.sizeOf326
 v232:=Tryz.zeroValue326
 t233:=Tryz.underlying327
 a233:=Tryz.isAgg327
 z233:=Tryz.sizeOf327
 v233:=Tryz.zeroValue327
 g17:=by kernel_rfl
 g18:=by kernel_rfl
 g19:=by kernel_rfl
 i0:=by kernel_rfl
 i2:=by kernel_rfl
 i3:=by kernel_rfl
 i4:=by kernel_rfl
 i5:=by kernel_rfl
 i9:=by kernel_rfl
 i20:=by kernel_rfl
 i37:=by kernel_rfl
 i46:=by kernel_rfl
 i51:=by kernel_rfl
 i53:=by kernel_rfl
 i171:=by kernel_rfl
 i173:=by kernel_rfl
 i212:=by kernel_rfl
 i232:=by kernel_rfl
 i233:=by kernel_rfl
 m17:=by kernel_rfl
 m18:=by kernel_rfl
 m19:=by kernel_rfl }
theorem Tryz.fmt_num:Tryz.laysFmt_ren.f 246=Go.Dw.n_strconv_FormatInt:=by kernel_rfl
theorem Tryz.fmt_in (args:Array Value)(w:World):(callFunc Go.Dw.n_strconv_FormatInt args).run Tryz.prog w=.ok (.enter Go.Dw.n_strconv_FormatInt args) w:=by
 have:=enters_of (P:=Tryz.prog) Tryz.laysFmt.f246 (by kernel_rfl) rfl args w
 rw[Tryz.fmt_num]at this
 exact this
theorem Tryz.fmt_c (n : Int)(h0 : -9223372036854775808 <= n)(h1 : n <= 9223372036854775807)(w : World) (htab : Lib.TabIs Tryz.prog w "internal/strconv.uint64pow10" .u64 Lib.pow10Tab) :
  Calls Tryz.prog Go.Dw.n_strconv_FormatInt #[.int .i64 n,.int .i64 10] w fun e w'=>e=.returned (.string ⟨(Lib.itoa n).toArray⟩)/\∃ k os,w'=grow (w.drewN k) os:=by
 have:=Any.internal_strconv_FormatInt_10 Tryz.laysFmt n h0 h1 w htab
 rw[Tryz.fmt_num]at this
 exact this
theorem Tryz.pow10_at : Tryz.prog.globalNamed "internal/strconv.uint64pow10" = some 1 := by kernel_rfl
end Go.Proofs
namespace Go.Dw
open Go.Proofs Go.Sort
theorem iq {c : Cx}(h : gp c) : Lib.TabIs Tryz.prog c.w "internal/strconv.uint64pow10" .u64 Lib.pow10Tab := by
 obtain⟨⟨e,fz,h1⟩,_⟩:=h (1,(List.range 20).map fun i=>Value.int .u64 ((10^i:Nat):Int)) (by simp[xO])
 unfold Lib.TabIs World.var?
 rw[Tryz.pow10_at]
 simp only[Option.bind_some,h1]
 rw[Lib.pow10Tab,List.map_map]
 rfl
theorem Qx (n:Int)(h0:-9223372036854775808<=n)(h1:n<=9223372036854775807):PF n_strconv_FormatInt [.int .i64 n,.int .i64 10] (.str (Lib.itoa n)):=by
 intro c vs hH hc hr
 obtain⟨v,vs',rfl,r1,v2,vs2,rfl,r2,r3⟩:=hr
 have r1:v=.int .i64 n:=r1
 have r2:v2=.int .i64 10:=r2
 have r3:vs2=[]:=r3
 subst r1;subst r2;subst r3
 left
 refine⟨Tryz.fmt_in _ _,(Tryz.fmt_c n h0 h1 c.w (iq hc.glob)).mono ?_⟩
 rintro e w' ⟨rfl,k,os,rfl⟩
 have hno:∀ b,¬ c.owns b:=fun b ⟨i,k,h,_⟩=>by rw[hH]at h;simp at h
 have hlt:∀ b,b<c.w.heap.size->(grow (c.w.drewN k) os).heap[b]?=c.w.heap[b]?:=fun b hb=>Array.getElem?_append_left hb
 have hown:∀ b,¬ (⟨grow (c.w.drewN k) os,c.ok,c.ρ,[]⟩:Cx).owns b:=fun b ⟨i,k,h,_⟩=>by simp at h
 refine⟨_,.str (Lib.itoa n),⟨grow (c.w.drewN k) os,c.ok,c.ρ,[]⟩,rfl,rfl,⟨rfl,rfl⟩,?_,rfl,?_⟩
 ·refine⟨fun i j b1 k1 k2 h1=>by simp at h1,fun b o h=>?_,fun i o hi=>by simp at hi,hc.glob.keep (fun b hb _=>hlt b hb) fun b h=>absurd h (hown b)⟩
  have:=hc.okLt b o h
  show b<(c.w.heap++os).size
  rw[Array.size_append];omega
 ·refine⟨fun _ _ h=>h,fun b o h=>?_,?_,fun _ _ h=>.inl h,fun b hb _=>hlt b hb,fun b h=>absurd h (hown b),fun i o hi=>?_,rfl,rfl,rfl,Nat.le_add_right _ _⟩
  ·simp only[World.cell?]
   rw[hlt b (hc.okLt _ _ h)]
  ·show c.w.heap.size<=(c.w.heap++os).size
   rw[Array.size_append];omega
  ·rw[hH]at hi;simp at hi
theorem TH (n:Int)(h0:-9223372036854775808<=n)(h1:n<=9223372036854775807):PF JW [.int .i64 n] (.str (Lib.itoa n)):=by
 refine Aa MG.ok rfl ?_
 push_cast
 refine .of (Qx n h0 h1) ?_
 push_cast
 exact A1 (by push_cast[MG.rs])
theorem Xm (n:Int)(h0:-9223372036854775808<=n)(h1:n<=9223372036854775807):PF FS [.int .i64 n] (.str (Lib.itoa n)):=by
 refine Aa Oi.ok rfl ?_
 push_cast
 refine .of (TH n h0 h1) ?_
 push_cast
 exact A1 (by push_cast[Oi.rs])
abbrev dig (n:Nat):Str:=Lib.decDigits n
theorem Px (n:Nat)(h:n<2^62):PF FS [.int .i64 n] (.str (dig n)):=by
 have:=Xm n (by omega) (by omega)
 rw[show Lib.itoa (n:Int)=dig n from if_neg (by omega)]at this
 exact this
end Go.Dw
end
section
namespace Go.Dw
theorem Tb (a b:List A6)(n:Str):Ad (a++b) n=match Ad a n with | some x=>some x | none=>Ad b n:=by
 induction a with
 | nil=>rfl
 | cons x a ih =>
  simp only[List.cons_append,Ad]
  split
  ·rfl
  ·exact ih
theorem E0 {s:List A6}{v:Str}{t:Term}(h:Ad s v=none)(n:Str):Ad (FC s v t) n=if v=n then some t else Ad s n:=by
 unfold FC
 have h0:=Tb (s.take (lbd v s)) (s.drop (lbd v s)) n
 rw[List.take_append_drop]at h0
 rw[Tb]
 by_cases hv:v=n
 ·subst hv
  rw[h]at h0
  rw[if_pos rfl]
  cases ha:Ad (s.take (lbd v s)) v with
  | some x=>rw[ha]at h0;cases h0
  | none=>simp only[Ad,if_true]
 ·rw[if_neg hv,h0]
  cases Ad (s.take (lbd v s)) n with
  | some x=>rfl
  | none=>simp only[Ad,if_neg hv]
def Tq (a b:List A6):Prop:=∀ n x,Ad a n=some x->Ad b n=some x
theorem Tq.refl (a:List A6):Tq a a:=fun _ _ h=>h
theorem Tq.trans {a b c:List A6}(h:Tq a b)(h2:Tq b c):Tq a c:=fun n x hx=>h2 n x (h n x hx)
theorem lg {s:List A6}{v:Str}{t:Term}(h:Ad s v=none):Tq s (FC s v t):=fun n x hx=>by
 rw[E0 h]
 split
 ·rename_i e;subst e;rw[h]at hx;cases hx
 ·exact hx
end Go.Dw
end
section
namespace Go.Dw
abbrev Sub:=Str->Term
mutual
def app (f:Sub):Term->Term
 | .mk n v l=>if v then f n else .mk n false (th f l)
def th (f:Sub):List Term->List Term
 | []=>[]
 | a::l=>app f a::th f l
end
theorem qy (f:Sub)(l:List Term):th f l=l.map (app f):=by induction l with | nil=>rfl | cons a l ih=>simp[th,ih]
theorem Py (f:Sub)(t:Term):app f t=if t.var then f t.name else .mk t.name false (t.args.map (app f)):=by
 cases t with | mk n v l=>simp only[app,qy,Term.var,Term.name,Term.args];rfl
theorem Av {f:Sub}{t:Term}(h:t.var=true):app f t=f t.name:=by rw[Py,if_pos h]
theorem B7 {f:Sub}{t:Term}(h:t.var=false):app f t=.mk t.name false (t.args.map (app f)):=by rw[Py,if_neg (by simp[h])]
theorem mj {v:Str}{l:List Term}:Ex v l=true↔∃ a∈l,occ v a=true:=by
 induction l with
 | nil=>simp[Ex]
 | cons a l ih=>simp[Ex,ih]
theorem AC {v:Str}{t:Term}:occ v t=true↔(t.var=true/\t.name=v)\/∃ a∈t.args,occ v a=true:=by
 cases t with | mk n b l =>
 show ((b && decide (n=v)) || Ex v l)=true↔_
 rw[Bool.or_eq_true,Bool.and_eq_true,decide_eq_true_eq,mj]
 exact Iff.rfl
def BS (v:Str):Term:=.mk v true []
theorem P0 {v w:Str}:occ w (BS v)=true↔v=w:=by
 rw[AC];simp[BS,Term.var,Term.name,Term.args]
mutual
def vfl:Term->Bool
 | .mk _ v l=>(!v || l.isEmpty) && rq l
def rq:List Term->Bool
 | []=>true
 | a::l=>vfl a && rq l
end
theorem rm {l:List Term}:rq l=true↔∀ a∈l,vfl a=true:=by
 induction l with
 | nil=>simp[rq]
 | cons a l ih=>simp[rq,ih]
theorem Kc {t:Term}:vfl t=true↔(t.var=true->t.args=[])/\∀ a∈t.args,vfl a=true:=by
 cases t with | mk n v l=>cases v <;> simp[vfl,rm,Term.var,Term.args]
theorem BF {t a:Term}(h:vfl t=true)(ha:a∈t.args):vfl a=true:=(Kc.1 h).2 a ha
theorem Ui (t:Term):short t=true->vfl t=true:=by
 induction t using Af with
 | h t ih =>
 intro h
 have h:=CD.1 h
 exact Kc.2 ⟨h.2.1,fun a ha=>ih a ha (h.2.2 a ha)⟩
theorem Q0 {t:Term}(h:vfl t=true)(hv:t.var=true):t=BS t.name:=by
 have:=(Kc.1 h).1 hv
 cases t with | mk n v l =>
 simp only[Term.args]at this
 simp only[Term.var]at hv
 subst this;subst hv;rfl
theorem M2 {t:Term}{v:Str}(h:vfl t=true)(hv:t.var=true):occ v t=true↔t.name=v:=by
 rw[Q0 h hv,P0];rfl
theorem LL {t:Term}{v:Str}(hv:t.var=false):occ v t=true↔∃ a∈t.args,occ v a=true:=by
 rw[AC,hv];simp
theorem DB {f g:Sub}(t:Term):(∀ v,occ v t=true->f v=g v)->app f t=app g t:=by
 induction t using Af with
 | h t ih =>
 intro h
 rw[Py,Py]
 split
 ·rename_i hv;exact h _ (AC.2 (.inl ⟨hv,rfl⟩))
 ·congr 1
  exact List.map_congr_left fun a ha=>ih a ha fun v hv=>h v (AC.2 (.inr ⟨a,ha,hv⟩))
theorem O8 (f g:Sub)(t:Term):app g (app f t)=app (fun v=>app g (f v)) t:=by
 induction t using Af with
 | h t ih =>
 cases hv:t.var with
 | true=>rw[Av hv,Av hv]
 | false =>
  rw[B7 hv,B7 hv,B7 rfl]
  simp only[Term.name,Term.args,List.map_map]
  congr 1
  exact List.map_congr_left fun a ha=>ih a ha
theorem ph {f:Sub}(t:Term):vfl t=true->(∀ v,occ v t=true->f v=BS v)->app f t=t:=by
 induction t using Af with
 | h t ih =>
 intro ht h
 cases hv:t.var with
 | true =>
  rw[Av hv,h _ (AC.2 (.inl ⟨hv,rfl⟩))]
  exact (Q0 ht hv).symm
 | false =>
  rw[B7 hv]
  have e:t.args.map (app f)=t.args:=by
   conv=>rhs;rw[<-List.map_id t.args]
   exact List.map_congr_left fun a ha=>ih a ha (BF ht ha) fun v hv=>h v (AC.2 (.inr ⟨a,ha,hv⟩))
  rw[e]
  cases t;simp only[Term.var]at hv;subst hv;rfl
theorem RS {f:Sub}{w:Str}(t:Term):vfl t=true->(occ w (app f t)=true↔∃ v,occ v t=true/\occ w (f v)=true):=by
 induction t using Af with
 | h t ih =>
 intro ht
 cases hv:t.var with
 | true =>
  rw[Av hv]
  constructor
  ·intro h;exact⟨_,(M2 ht hv).2 rfl,h⟩
  ·rintro ⟨v,h1,h2⟩
   rw[(M2 ht hv).1 h1];exact h2
 | false =>
  rw[B7 hv,LL rfl]
  simp only[Term.args,List.mem_map]
  constructor
  ·rintro ⟨_,⟨a,ha,rfl⟩,h⟩
   obtain⟨v,h1,h2⟩:=(ih a ha (BF ht ha)).1 h
   exact⟨v,(LL hv).2 ⟨a,ha,h1⟩,h2⟩
  ·rintro ⟨v,h1,h2⟩
   obtain⟨a,ha,h3⟩:=(LL hv).1 h1
   exact⟨_,⟨a,ha,rfl⟩,(ih a ha (BF ht ha)).2 ⟨v,h3,h2⟩⟩
theorem jC {f:Sub}(t:Term):(∀ v,occ v t=true->vfl (f v)=true)->vfl (app f t)=true:=by
 induction t using Af with
 | h t ih =>
 intro h
 cases hv:t.var with
 | true=>rw[Av hv];exact h _ (AC.2 (.inl ⟨hv,rfl⟩))
 | false =>
  rw[B7 hv]
  refine Kc.2 ⟨fun e=>by simp[Term.var]at e,fun a ha=>?_⟩
  simp only[Term.args,List.mem_map]at ha
  obtain⟨b,hb,rfl⟩:=ha
  exact ih b hb fun v hv=>h v (AC.2 (.inr ⟨b,hb,hv⟩))
def Sat (θ:Sub)(s:List A6):Prop:=∀ v t,Ad s v=some t->θ v=app θ t
structure UOk (s:List A6) (σ:Sub) (rk:Str->Nat):Prop where
 srt:Dp s
 vf:∀ v t,Ad s v=some t->vfl t=true
 free:∀ v,Ad s v=none->σ v=BS v
 fix:∀ v t,Ad s v=some t->σ v=app σ t
 low:∀ v t,Ad s v=some t->∀ w,occ w t=true->rk w<rk v
theorem UOk.nil:UOk [] BS (fun _=>0):=⟨List.Pairwise.nil,fun v t h=>(by cases h),fun v _=>rfl,fun v t h=>(by cases h),fun v t h=>(by cases h)⟩
section
variable {s:List A6} {σ:Sub} {rk:Str->Nat}
theorem UOk.sat (h:UOk s σ rk):Sat σ s:=h.fix
theorem UOk.ind {P:Str->Prop}(h:UOk s σ rk)(step:∀ v,(∀ t w,Ad s v=some t->occ w t=true->P w)->P v):∀ v,P v:=by
 have:∀ n v,rk v<n->P v:=by
  intro n
  induction n with
  | zero=>intro v hv;omega
  | succ n ih =>
   intro v hv
   exact step v fun t w h1 h2=>ih w (by have:=h.low v t h1 w h2;omega)
 exact fun v=>this (rk v+1) v (by omega)
theorem UOk.vfl (h:UOk s σ rk):∀ v,Dw.vfl (σ v)=true:=by
 refine h.ind fun v ih=>?_
 cases hi:Ad s v with
 | none=>rw[h.free v hi];rfl
 | some t=>rw[h.fix v t hi];exact jC t fun w hw=>ih t w hi hw
theorem UOk.occ_free (h:UOk s σ rk){w:Str}:∀ v,occ w (σ v)=true->Ad s w=none:=by
 refine h.ind fun v ih=>?_
 cases hi:Ad s v with
 | none =>
  rw[h.free v hi,P0]
  rintro rfl;exact hi
 | some t =>
  rw[h.fix v t hi,RS t (h.vf v t hi)]
  rintro ⟨u,h1,h2⟩
  exact ih t u hi h1 h2
theorem UOk.idem (h:UOk s σ rk)(v:Str):app σ (σ v)=σ v:=ph _ (h.vfl v) fun w hw=>h.free w (h.occ_free v hw)
theorem UOk.uniq {σ':Sub}{rk':Str->Nat}(h:UOk s σ rk)(h':UOk s σ' rk'):σ=σ':=by
 funext v
 revert v
 refine h.ind fun v ih=>?_
 cases hi:Ad s v with
 | none=>rw[h.free v hi,h'.free v hi]
 | some t=>rw[h.fix v t hi,h'.fix v t hi];exact DB t fun w hw=>ih t w hi hw
inductive Occ (s:List A6) (v:Str):Term->Prop
 | here {t:Term}:t.var=true->t.name=v->Occ s v t
 | bound {t x:Term}:t.var=true->Ad s t.name=some x->Occ s v x->Occ s v t
 | arg {t a:Term}:t.var=false->a∈t.args->Occ s v a->Occ s v t
theorem UOk.occ_sem (h:UOk s σ rk){v:Str}(hv:Ad s v=none){t:Term}(ht:Dw.vfl t=true):Occ s v t↔occ v (app σ t)=true:=by
 constructor
 ·intro ho
  induction ho with
  | here h1 h2=>rw[Av h1,h2,h.free v hv,P0]
  | bound h1 h2 _ ih=>rw[Av h1,h.fix _ _ h2];exact ih (h.vf _ _ h2)
  | arg h1 h2 _ ih =>
   rw[B7 h1,LL rfl]
   exact⟨_,List.mem_map_of_mem h2,ih (BF ht h2)⟩
 ·have B:∀ t:Term,Dw.vfl t=true->(∀ u,occ u t=true->occ v (σ u)=true->∀ t':Term,t'.var=true->t'.name=u->Occ s v t')->occ v (app σ t)=true->Occ s v t:=by
   intro t
   induction t using Af with
   | h t ih =>
   intro ht hu ho
   cases hv:t.var with
   | true =>
    rw[Av hv]at ho
    exact hu _ (AC.2 (.inl ⟨hv,rfl⟩)) ho t hv rfl
   | false =>
    rw[B7 hv,LL rfl]at ho
    obtain⟨b,hb,ho⟩:=ho
    simp only[Term.args,List.mem_map]at hb
    obtain⟨a,ha,rfl⟩:=hb
    exact .arg hv ha (ih a ha (BF ht ha) (fun u h1=>hu u (AC.2 (.inr ⟨a,ha,h1⟩))) ho)
  have A:∀ u,occ v (σ u)=true->∀ t':Term,t'.var=true->t'.name=u->Occ s v t':=by
   refine h.ind fun u ih=>?_
   intro ho t' h1 h2
   cases hi:Ad s u with
   | none =>
    rw[h.free u hi,P0]at ho
    exact .here h1 (h2.trans ho)
   | some x =>
    rw[h.fix u x hi]at ho
    exact .bound h1 (h2▸hi) (B x (h.vf u x hi) (fun w hw=>ih x w hi hw) ho)
  exact fun ho=>B t ht (fun u _=>A u) ho
theorem Xj (rk:Str->Nat)(t:Term):∃ M,∀ w,occ w t=true->rk w<=M:=by
 have key:∀ l:List Str,∃ M,∀ w∈l,rk w<=M:=by
  intro l
  induction l with
  | nil=>exact⟨0,by simp⟩
  | cons x l ih =>
   obtain⟨M,hM⟩:=ih
   refine⟨M+rk x,fun w hw=>?_⟩
   rcases List.mem_cons.1 hw with rfl | hw
   ·omega
   ·have:=hM w hw;omega
 obtain⟨M,hM⟩:=key (DS t)
 exact⟨M,fun w hw=>hM w ((F4 w t []).2 (.inr hw))⟩
theorem UOk.bind (h:UOk s σ rk){v:Str}(hv:Ad s v=none){t:Term}(ht:Dw.vfl t=true)(hn:¬ Occ s v t):∃ σ' rk',UOk (FC s v t) σ' rk'/\∀ w,σ' w=app σ' (σ w):=by
 have hno:¬ occ v (app σ t)=true:=fun e=>hn ((h.occ_sem hv ht).2 e)
 obtain⟨M,hM⟩:=Xj rk t
 let τ:Sub:=fun u=>if u=v then app σ t else BS u
 have hτ:∀ u,u≠v->τ u=BS u:=fun u hu=>if_neg hu
 have hτt:app τ (app σ t)=app σ t:=ph _ (jC t fun w _=>h.vfl w) fun u hu=>hτ u fun e=>hno (e▸hu)
 refine⟨fun w=>app τ (σ w),fun w=>if occ v (σ w)=true then rk w+(M+1) else rk w,⟨S1 h.srt hv,?_,?_,?_,?_⟩,?_⟩
 ·intro w x hx
  rw[E0 hv]at hx
  split at hx
  ·cases hx;exact ht
  ·exact h.vf w x hx
 ·intro w hw
  rw[E0 hv]at hw
  split at hw
  ·cases hw
  ·rename_i hne
   show app τ (σ w)=_
   rw[h.free w hw,BS,Av rfl]
   exact hτ w fun e=>hne e.symm
 ·intro w x hx
  show app τ (σ w)=app (fun w=>app τ (σ w)) x
  rw[<-O8]
  rw[E0 hv]at hx
  split at hx
  ·rename_i e
   cases hx
   subst e
   rw[h.free v hv,BS,Av rfl,hτt]
   exact if_pos rfl
  ·rw[h.fix w x hx]
 ·intro u x hx w hw
  show (if occ v (σ w)=true then _ else _)<(if occ v (σ u)=true then _ else _)
  rw[E0 hv]at hx
  split at hx
  ·rename_i e
   cases hx
   subst e
   have h1:=hM w hw
   have h2:¬ occ v (σ w)=true:=fun e=>hno ((RS t ht).2 ⟨w,hw,e⟩)
   rw[if_neg h2,h.free v hv,if_pos (P0.2 rfl)]
   omega
  ·have h1:=h.low u x hx w hw
   have h2:occ v (σ w)=true->occ v (σ u)=true:=fun e=>by
    rw[h.fix u x hx]
    exact (RS x (h.vf u x hx)).2 ⟨w,hw,e⟩
   by_cases c:occ v (σ w)=true
   ·rw[if_pos c,if_pos (h2 c)];omega
   ·rw[if_neg c];split <;> omega
 ·intro w
  show app τ (σ w)=app (fun w=>app τ (σ w)) (σ w)
  rw[<-O8,h.idem]
end
def DE:Nat->List A6->Term->Option Term
 | 0,_,_=>none
 | n+1,s,t=>if t.var then (match Ad s t.name with | some x=>DE n s x | none=>some t) else some t
open Classical in
noncomputable def LA (s:List A6)(v:Str)(t:Term):List A6×Bool:=if Occ s v t then (s,false) else (FC s v t,true)
def AE (f:List A6->Term->Term->Option (List A6×Bool)):List A6->List Term->List Term->Option (List A6×Bool)
 | s,a::l,b::m=>match f s a b with
  | none=>none
  | some (s',false)=>some (s',false)
  | some (s',true)=>AE f s' l m
 | s,_,_=>some (s,true)
noncomputable def AX:Nat->List A6->Term->Term->Option (List A6×Bool)
 | 0,_,_,_=>none
 | n+1,s,a,b=>match DE (n+1) s a,DE (n+1) s b with
  | some x,some y =>
   if x.var then (if y.var/\x.name=y.name then some (s,true) else some (LA s x.name y))
   else if y.var then some (LA s y.name x)
   else if x.name≠y.name\/x.args.length≠y.args.length then some (s,false)
   else AE (AX n) s x.args y.args
  | _,_=>none
theorem LJ {s:List A6}:∀ {n m:Nat} {t x:Term},DE n s t=some x->n<=m->DE m s t=some x
 | 0,_,_,_,h,_=>by cases h
 | n+1,0,_,_,_,h=>by omega
 | n+1,m+1,t,x,h,hm=>by
  simp only[DE]at h ⊢
  split at h
  ·rename_i hv
   rw[if_pos hv]
   cases hi:Ad s t.name with
   | none=>rw[hi]at h;exact h
   | some y=>rw[hi]at h;exact LJ h (by omega)
  ·rename_i hv
   rw[if_neg hv];exact h
theorem EZ {f g:List A6->Term->Term->Option (List A6×Bool)}(hfg:∀ s a b r,f s a b=some r->g s a b=some r):∀ (l m:List Term)(s:List A6)(r:List A6×Bool),AE f s l m=some r->AE g s l m=some r
 | [],_,s,r,h=>h
 | _::_,[],s,r,h=>h
 | a::l,b::m,s,r,h=>by
  simp only[AE]at h ⊢
  cases hf:f s a b with
  | none=>rw[hf]at h;cases h
  | some p =>
   obtain⟨s',ok⟩:=p
   rw[hf]at h
   rw[hfg _ _ _ _ hf]
   cases ok with
   | false=>exact h
   | true=>exact EZ hfg l m s' r h
theorem EN:∀ (n m:Nat)(s:List A6)(a b:Term)(r:List A6×Bool),AX n s a b=some r->n<=m->AX m s a b=some r
 | 0,_,_,_,_,_,h,_=>by cases h
 | n+1,0,_,_,_,_,_,h=>by omega
 | n+1,m+1,s,a,b,r,h,hm=>by
  simp only[AX]at h ⊢
  cases hx:DE (n+1) s a with
  | none=>rw[hx]at h;cases h
  | some x =>
   cases hy:DE (n+1) s b with
   | none=>rw[hx,hy]at h;cases h
   | some y =>
    rw[hx,hy]at h
    rw[LJ hx (by omega),LJ hy (by omega)]
    simp only at h ⊢
    by_cases c1:x.var=true
    ·rw[if_pos c1]at h ⊢;exact h
    ·rw[if_neg c1]at h ⊢
     by_cases c2:y.var=true
     ·rw[if_pos c2]at h ⊢;exact h
     ·rw[if_neg c2]at h ⊢
      by_cases c3:x.name≠y.name\/x.args.length≠y.args.length
      ·rw[if_pos c3]at h ⊢;exact h
      ·rw[if_neg c3]at h ⊢
       exact EZ (fun s a b r hr=>EN n m s a b r hr (by omega)) _ _ _ _ h
theorem JI {n:Nat}{s:List A6}{a b:Term}{r:List A6×Bool}(h:AX (n+1) s a b=some r):∃ x y,DE (n+1) s a=some x/\DE (n+1) s b=some y /\
  ((x.var=true/\y.var=true/\x.name=y.name/\r=(s,true))\/(x.var=true/\¬ (y.var=true/\x.name=y.name)/\r=LA s x.name y)\/(x.var=false/\y.var=true/\r=LA s y.name x) \/
   (x.var=false/\y.var=false/\(x.name≠y.name\/x.args.length≠y.args.length)/\r=(s,false)) \/
   (x.var=false/\y.var=false/\x.name=y.name/\x.args.length=y.args.length/\AE (AX n) s x.args y.args=some r)):=by
 simp only[AX]at h
 cases hx:DE (n+1) s a with
 | none=>rw[hx]at h;cases h
 | some x =>
  cases hy:DE (n+1) s b with
  | none=>rw[hx,hy]at h;cases h
  | some y =>
   rw[hx,hy]at h
   simp only at h
   refine⟨x,y,rfl,rfl,?_⟩
   by_cases c1:x.var=true
   ·rw[if_pos c1]at h
    by_cases c2:y.var=true/\x.name=y.name
    ·rw[if_pos c2]at h;cases h;exact .inl ⟨c1,c2.1,c2.2,rfl⟩
    ·rw[if_neg c2]at h;cases h;exact .inr (.inl ⟨c1,c2,rfl⟩)
   ·rw[if_neg c1]at h
    have c1:x.var=false:=by simpa using c1
    by_cases c2:y.var=true
    ·rw[if_pos c2]at h;cases h;exact .inr (.inr (.inl ⟨c1,c2,rfl⟩))
    ·rw[if_neg c2]at h
     have c2:y.var=false:=by simpa using c2
     by_cases c3:x.name≠y.name\/x.args.length≠y.args.length
     ·rw[if_pos c3]at h;cases h;exact .inr (.inr (.inr (.inl ⟨c1,c2,c3,rfl⟩)))
     ·rw[if_neg c3]at h
      simp only[not_or,Classical.not_not]at c3
      exact .inr (.inr (.inr (.inr ⟨c1,c2,c3.1,c3.2,h⟩)))
theorem DY {s:List A6}:∀ {n:Nat} {t x:Term},DE n s t=some x->x.var=true->Ad s x.name=none
 | 0,_,_,h,_=>by cases h
 | n+1,t,x,h,hx=>by
  simp only[DE]at h
  split at h
  ·cases hi:Ad s t.name with
   | none=>rw[hi]at h;cases h;exact hi
   | some y=>rw[hi]at h;exact DY h hx
  ·rename_i hv;cases h;exact absurd hx hv
theorem HQ {θ:Sub}{s:List A6}(hθ:Sat θ s):∀ {n:Nat} {t x:Term},DE n s t=some x->app θ x=app θ t
 | 0,_,_,h=>by cases h
 | n+1,t,x,h=>by
  simp only[DE]at h
  split at h
  ·rename_i hv
   cases hi:Ad s t.name with
   | none=>rw[hi]at h;cases h;rfl
   | some y=>rw[hi]at h;rw[HQ hθ h,Av hv];exact (hθ _ _ hi).symm
  ·cases h;rfl
theorem C0 {P:Term->Prop}{s:List A6}(hs:∀ v t,Ad s v=some t->P t):∀ {n:Nat} {t x:Term},P t->DE n s t=some x->P x
 | 0,_,_,_,h=>by cases h
 | n+1,t,x,ht,h=>by
  simp only[DE]at h
  split at h
  ·cases hi:Ad s t.name with
   | none=>rw[hi]at h;cases h;exact ht
   | some y=>rw[hi]at h;exact C0 hs (hs _ _ hi) h
  ·cases h;exact ht
theorem Tw {s:List A6}{σ:Sub}{rk:Str->Nat}(h:UOk s σ rk):∀ (n:Nat)(t:Term),(t.var=true->rk t.name<n)->∃ x,DE (n+1) s t=some x
 | n,t,ht=>by
  simp only[DE]
  split
  ·rename_i hv
   cases hi:Ad s t.name with
   | none=>exact⟨t,rfl⟩
   | some y =>
    cases n with
    | zero=>exact absurd (ht hv) (by omega)
    | succ n =>
     refine Tw h n y fun hy=>?_
     have:=h.low _ _ hi y.name (AC.2 (.inl ⟨hy,rfl⟩))
     have:=ht hv
     omega
  ·exact⟨t,rfl⟩
end Go.Dw
end
section
namespace Go.Dw
theorem EY {s:List A6}(hs:Dp s){b:A6}(hb:b∈s):Ad s b.name=some b.term:=by
 induction s with
 | nil=>cases hb
 | cons c s ih =>
  obtain⟨h1,h2⟩:=List.pairwise_cons.1 hs
  simp only[Ad]
  rcases List.mem_cons.1 hb with rfl | hb
  ·rw[if_pos rfl]
  ·rw[if_neg fun e=>by have:=h1 b hb;rw[e]at this;exact Df _ this]
   exact ih h2 hb
theorem Lj (s:List A6)(v:Str)(t:Term):(Occ s v t/\LA s v t=(s,false))\/(¬ Occ s v t/\LA s v t=(FC s v t,true)):=by
 unfold LA
 by_cases h:Occ s v t
 ·exact .inl ⟨h,if_pos h⟩
 ·exact .inr ⟨h,if_neg h⟩
theorem qb {s:List A6}{θ:Sub}{v:Str}(hθ:Sat θ s){t:Term}(h:Occ s v t):size (θ v)<=size (app θ t)/\(t.var=false->size (θ v)<size (app θ t)):=by
 induction h with
 | here h1 h2=>rw[Av h1,h2];exact⟨Nat.le_refl _,fun h=>by rw[h1]at h;cases h⟩
 | bound h1 h2 _ ih=>rw[Av h1,hθ _ _ h2];exact⟨ih.1,fun h=>by rw[h1]at h;cases h⟩
 | @arg t a h1 h2 _ ih =>
  have h3:size (app θ t)=1+Ab (t.args.map (app θ)):=by rw[B7 h1];rfl
  have h4:=Bp (List.mem_map_of_mem (f:=app θ) h2)
  have:=ih.1
  omega
theorem Sat.mono {θ:Sub}{s s':List A6}(h:Sat θ s')(he:Tq s s'):Sat θ s:=fun v t hi=>h v t (he v t hi)
structure iT (s:List A6) (σ:Sub) (A:Sub->Prop) (r:List A6×Bool) (σ':Sub) (rk':Str->Nat):Prop where
 ok:UOk r.1 σ' rk'
 ext:Tq s r.1
 len:r.1=s\/s.length<r.1.length
 comp:∀ w,σ' w=app σ' (σ w)
 eq:r.2=true->A σ'
 mgu:∀ θ,Sat θ s->A θ->r.2=true/\Sat θ r.1
theorem WR {σ σ':Sub}(h:∀ w,σ' w=app σ' (σ w))(t:Term):app σ' t=app σ' (app σ t):=by
 rw[O8];exact DB t fun v _=>h v
theorem jd {s:List A6}{σ:Sub}{rk:Str->Nat}(h:UOk s σ rk){v:Str}{t:Term}(hv:Ad s v=none)(ht:vfl t=true)(hne:t.var=true->Ad s t.name=none/\t.name≠v) :
  ∃ σ' rk',iT s σ (fun θ=>θ v=app θ t) (LA s v t) σ' rk':=by
 rcases Lj s v t with ⟨ho,e⟩ | ⟨ho,e⟩
 ·rw[e]
  refine⟨σ,rk,h,Tq.refl s,.inl rfl,fun w=>(h.idem w).symm,(fun e=>by cases e),fun θ hθ he=>?_⟩
  exfalso
  cases hv2:t.var with
  | true =>
   obtain⟨h1,h2⟩:=hne hv2
   cases ho with
   | here _ h4=>exact h2 h4
   | bound _ h4 _=>rw[h1]at h4;cases h4
   | arg h3 _ _=>rw[hv2]at h3;cases h3
  | false =>
   have:=(qb hθ ho).2 hv2
   rw[<-he]at this
   omega
 ·rw[e]
  obtain⟨σ',rk',h1,h2⟩:=h.bind hv ht ho
  refine⟨σ',rk',h1,lg hv,.inr (by rw[Ze];omega),h2,fun _=>h1.fix v t (by rw[E0 hv,if_pos rfl]),fun θ hθ he=>⟨rfl,fun w x hx=>?_⟩⟩
  rw[E0 hv]at hx
  split at hx
  ·rename_i e;cases hx;subst e;exact he
  ·exact hθ w x hx
theorem RI {n:Nat}(ih:∀ (s:List A6)(σ:Sub)(rk:Str->Nat)(a b:Term)(r:List A6×Bool),UOk s σ rk->vfl a=true->vfl b=true->AX n s a b=some r->∃ σ' rk',iT s σ (fun θ=>app θ a=app θ b) r σ' rk') :
  ∀ (l m:List Term)(s:List A6)(σ:Sub)(rk:Str->Nat)(r:List A6×Bool),UOk s σ rk->(∀ a∈l,vfl a=true)->(∀ b∈m,vfl b=true)->l.length=m.length->AE (AX n) s l m=some r->∃ σ' rk',iT s σ (fun θ=>l.map (app θ)=m.map (app θ)) r σ' rk'
 | [],[],s,σ,rk,r,h,_,_,_,hr=>by
  simp only[AE,Option.some.injEq]at hr
  subst hr
  exact⟨σ,rk,h,Tq.refl s,.inl rfl,fun w=>(h.idem w).symm,fun _=>rfl,fun θ hθ _=>⟨rfl,hθ⟩⟩
 | a::l,b::m,s,σ,rk,r,h,hl,hm,hlen,hr=>by
  simp only[AE]at hr
  cases hf:AX n s a b with
  | none=>rw[hf]at hr;cases hr
  | some p =>
   obtain⟨s1,ok⟩:=p
   rw[hf]at hr
   obtain⟨σ1,rk1,h1⟩:=ih s σ rk a b _ h (hl a (by simp)) (hm b (by simp)) hf
   cases ok with
   | false =>
    simp only[Option.some.injEq]at hr
    subst hr
    refine⟨σ1,rk1,h1.ok,h1.ext,h1.len,h1.comp,(fun e=>by cases e),fun θ hθ he=>?_⟩
    simp only[List.map_cons,List.cons.injEq]at he
    have:=(h1.mgu θ hθ he.1).1
    cases this
   | true =>
    simp only at hr
    obtain⟨σ2,rk2,h2⟩:=RI ih l m s1 σ1 rk1 r h1.ok (fun x hx=>hl x (by simp[hx])) (fun x hx=>hm x (by simp[hx])) (by simpa using hlen) hr
    refine⟨σ2,rk2,h2.ok,h1.ext.trans h2.ext,?_,fun w=>?_,fun e=>?_,fun θ hθ he=>?_⟩
    ·rcases h1.len with e1 | e1 <;> rcases h2.len with e2 | e2
     ·exact .inl (e2.trans e1)
     ·right;rw[<-e1];exact e2
     ·right;rw[e2];exact e1
     ·right;simp only at e1;omega
    ·rw[h2.comp w,h1.comp w,<-WR h2.comp]
    ·have h3:app σ1 a=app σ1 b:=h1.eq rfl
     simp only[List.map_cons]
     rw[WR h2.comp a,WR h2.comp b,h3,h2.eq e]
    ·simp only[List.map_cons,List.cons.injEq]at he
     have h3:=h1.mgu θ hθ he.1
     exact h2.mgu θ h3.2 he.2
 | [],_::_,_,_,_,_,_,_,_,hlen,_=>by simp at hlen
 | _::_,[],_,_,_,_,_,_,_,hlen,_=>by simp at hlen
theorem Fm:∀ (n:Nat)(s:List A6)(σ:Sub)(rk:Str->Nat)(a b:Term)(r:List A6×Bool),UOk s σ rk->vfl a=true->vfl b=true->AX n s a b=some r->∃ σ' rk',iT s σ (fun θ=>app θ a=app θ b) r σ' rk'
 | 0,_,_,_,_,_,_,_,_,_,h=>by cases h
 | n+1,s,σ,rk,a,b,r,h,ha,hb,hr=>by
  obtain⟨x,y,hx,hy,hc⟩:=JI hr
  have hxa:=fun θ (hθ:Sat θ s)=>HQ hθ hx
  have hyb:=fun θ (hθ:Sat θ s)=>HQ hθ hy
  have hvx:vfl x=true:=C0 (P:=fun t=>vfl t=true) h.vf ha hx
  have hvy:vfl y=true:=C0 (P:=fun t=>vfl t=true) h.vf hb hy
  rcases hc with ⟨c1,c2,c3,rfl⟩ | ⟨c1,c2,rfl⟩ | ⟨c1,c2,rfl⟩ | ⟨c1,c2,c3,rfl⟩ | ⟨c1,c2,c3,c4,c5⟩
  ·refine⟨σ,rk,h,Tq.refl s,.inl rfl,fun w=>(h.idem w).symm,fun _=>?_,fun θ hθ _=>⟨rfl,hθ⟩⟩
   rw[<-hxa σ h.sat,<-hyb σ h.sat,Av c1,Av c2,c3]
  ·obtain⟨σ',rk',k⟩:=jd h (DY hx c1) hvy (fun e=>⟨DY hy e,fun e2=>c2 ⟨e,e2.symm⟩⟩)
   refine⟨σ',rk',k.ok,k.ext,k.len,k.comp,fun e=>?_,fun θ hθ he=>k.mgu θ hθ ?_⟩
   ·have hs:=k.ok.sat.mono k.ext
    rw[<-hxa σ' hs,<-hyb σ' hs,Av c1];exact k.eq e
   ·rw[<-Av (f:=θ) c1,hxa θ hθ,hyb θ hθ];exact he
  ·obtain⟨σ',rk',k⟩:=jd h (v:=y.name) (t:=x) (DY hy c2) hvx (fun e=>by rw[c1]at e;cases e)
   refine⟨σ',rk',k.ok,k.ext,k.len,k.comp,fun e=>?_,fun θ hθ he=>k.mgu θ hθ ?_⟩
   ·have hs:=k.ok.sat.mono k.ext
    rw[<-hxa σ' hs,<-hyb σ' hs,Av c2];exact (k.eq e).symm
   ·rw[<-Av (f:=θ) c2,hxa θ hθ,hyb θ hθ];exact he.symm
  ·refine⟨σ,rk,h,Tq.refl s,.inl rfl,fun w=>(h.idem w).symm,(fun e=>by cases e),fun θ hθ he=>?_⟩
   exfalso
   rw[<-hxa θ hθ,<-hyb θ hθ,B7 c1,B7 c2]at he
   injection he with e1 _ e3
   rcases c3 with c3 | c3
   ·exact c3 e1
   ·have:=congrArg List.length e3
    simp only[List.length_map]at this
    exact c3 this
  ·obtain⟨σ',rk',k⟩:=RI (Fm n) x.args y.args s σ rk r h (fun z hz=>BF hvx hz) (fun z hz=>BF hvy hz) c4 c5
   refine⟨σ',rk',k.ok,k.ext,k.len,k.comp,fun e=>?_,fun θ hθ he=>k.mgu θ hθ ?_⟩
   ·have hs:=k.ok.sat.mono k.ext
    rw[<-hxa σ' hs,<-hyb σ' hs,B7 c1,B7 c2,c3,k.eq e]
   ·rw[<-hxa θ hθ,<-hyb θ hθ,B7 c1,B7 c2]at he
    injection he
theorem Zp {P:Term->Prop}{Q:Str->Prop}{s:List A6}{v:Str}{t:Term}(hs:∀ v t,Ad s v=some t->P t/\Q v)(hv:Ad s v=none)(ht:P t)(hq:Q v):∀ w x,Ad (LA s v t).1 w=some x->P x/\Q w:=by
 rcases Lj s v t with ⟨_,e⟩ | ⟨_,e⟩
 ·rw[e];exact hs
 ·rw[e]
  intro w x hx
  rw[E0 hv]at hx
  split at hx
  ·rename_i e;cases hx;subst e;exact⟨ht,hq⟩
  ·exact hs w x hx
theorem JB {P:Term->Prop}{Q:Str->Prop}(hP:∀ t a,P t->a∈t.args->P a)(hQ:∀ t,P t->t.var=true->Q t.name):∀ (n:Nat)(s:List A6)(a b:Term)(r:List A6×Bool),(∀ v t,Ad s v=some t->P t/\Q v)->P a->P b->AX n s a b=some r->∀ v t,Ad r.1 v=some t->P t/\Q v
 | 0,_,_,_,_,_,_,_,h=>by cases h
 | n+1,s,a,b,r,hs,ha,hb,hr=>by
  obtain⟨x,y,hx,hy,hc⟩:=JI hr
  have hvx:P x:=C0 (fun v t h=>(hs v t h).1) ha hx
  have hvy:P y:=C0 (fun v t h=>(hs v t h).1) hb hy
  rcases hc with ⟨c1,c2,c3,rfl⟩ | ⟨c1,c2,rfl⟩ | ⟨c1,c2,rfl⟩ | ⟨c1,c2,c3,rfl⟩ | ⟨c1,c2,c3,c4,c5⟩
  ·exact hs
  ·exact Zp hs (DY hx c1) hvy (hQ x hvx c1)
  ·exact Zp hs (DY hy c2) hvx (hQ y hvy c2)
  ·exact hs
  ·have key:∀ (l m:List Term)(s:List A6),(∀ a∈l,P a)->(∀ b∈m,P b)->(∀ v t,Ad s v=some t->P t/\Q v)->AE (AX n) s l m=some r->∀ v t,Ad r.1 v=some t->P t/\Q v:=by
    intro l
    induction l with
    | nil=>intro m s _ _ hs h;simp only[AE,Option.some.injEq]at h;subst h;exact hs
    | cons a l ihl =>
     intro m s hl hm hs h
     cases m with
     | nil=>simp only[AE,Option.some.injEq]at h;subst h;exact hs
     | cons b m =>
      simp only[AE]at h
      cases hf:AX n s a b with
      | none=>rw[hf]at h;cases h
      | some p =>
       obtain⟨s1,ok⟩:=p
       rw[hf]at h
       have h1:=JB hP hQ n s a b _ hs (hl a (by simp)) (hm b (by simp)) hf
       cases ok with
       | false=>simp only[Option.some.injEq]at h;subst h;exact h1
       | true=>exact ihl m s1 (fun x hx=>hl x (by simp[hx])) (fun x hx=>hm x (by simp[hx])) h1 h
   exact key x.args y.args s (fun z hz=>hP x z hvx hz) (fun z hz=>hP y z hvy hz) hs c5
theorem YA:∀ (s:List A6)(Vs:List Str),Dp s->(∀ b∈s,b.name∈Vs)->s.length<=Vs.length
 | [],_,_,_=>by simp
 | b::s,Vs,hs,h=>by
  obtain⟨h1,h2⟩:=List.pairwise_cons.1 hs
  have hb:=h b (by simp)
  have:=YA s (Vs.erase b.name) h2 fun c hc=>(List.mem_erase_of_ne (fun e=>by have:=h1 c hc;rw[e]at this;exact Df _ this)).2 (h c (by simp[hc]))
  rw[List.length_erase_of_mem hb]at this
  have:=List.length_pos_of_mem hb
  simp only[List.length_cons];omega
def BR (Vs:List Str)(t:Term):Prop:=vfl t=true/\∀ w,occ w t=true->w∈Vs
theorem BR.arg {Vs:List Str}{t a:Term}(h:BR Vs t)(ha:a∈t.args):BR Vs a:=⟨BF h.1 ha,fun w hw=>h.2 w (AC.2 (.inr ⟨a,ha,hw⟩))⟩
theorem Hq {Vs:List Str}{s:List A6}(hs:Dp s)(h:∀ v t,Ad s v=some t->BR Vs t/\v∈Vs):s.length<=Vs.length:=YA s Vs hs fun b hb=>(h _ _ (EY hs hb)).2
theorem LC {Vs:List Str}{n:Nat}{s:List A6}{a b:Term}{r:List A6×Bool}(hs:∀ v t,Ad s v=some t->BR Vs t/\v∈Vs)(ha:BR Vs a)(hb:BR Vs b)(hr:AX n s a b=some r):∀ v t,Ad r.1 v=some t->BR Vs t/\v∈Vs :=
 JB (P:=BR Vs) (Q:=fun v=>v∈Vs) (fun t a h ha=>h.arg ha) (fun t h hv=>h.2 _ (AC.2 (.inl ⟨hv,rfl⟩))) n s a b r hs ha hb hr
theorem dL (Vs:List Str):∀ (k m:Nat)(s:List A6)(σ:Sub)(rk:Str->Nat)(a b:Term),UOk s σ rk->(∀ v t,Ad s v=some t->BR Vs t/\v∈Vs)->BR Vs a->BR Vs b->Vs.length-s.length=k->size (app σ a)=m->∃ n r,AX n s a b=some r:=by
 intro k
 induction k using Nat.strongRecOn with
 | ind k ihk =>
 intro m
 induction m using Nat.strongRecOn with
 | ind m ihm =>
 intro s σ rk a b h hs ha hb hk hm
 obtain⟨x,hx⟩:=Tw h (rk a.name+rk b.name+1) a (fun _=>by omega)
 obtain⟨y,hy⟩:=Tw h (rk a.name+rk b.name+1) b (fun _=>by omega)
 generalize hN:rk a.name+rk b.name+1=N at hx hy
 by_cases c1:x.var=true
 ·by_cases c2:y.var=true/\x.name=y.name
  ·exact⟨N+1,_,by simp only[AX,hx,hy];rw[if_pos c1,if_pos c2]⟩
  ·exact⟨N+1,_,by simp only[AX,hx,hy];rw[if_pos c1,if_neg c2]⟩
 ·by_cases c2:y.var=true
  ·exact⟨N+1,_,by simp only[AX,hx,hy];rw[if_neg c1,if_pos c2]⟩
  ·by_cases c3:x.name≠y.name\/x.args.length≠y.args.length
   ·exact⟨N+1,_,by simp only[AX,hx,hy];rw[if_neg c1,if_neg c2,if_pos c3]⟩
   ·have hxv:x.var=false:=by simpa using c1
    have hax:BR Vs x:=C0 (P:=BR Vs) (fun v t h=>(hs v t h).1) ha hx
    have hay:BR Vs y:=C0 (P:=BR Vs) (fun v t h=>(hs v t h).1) hb hy
    have hsz:1+Ab (x.args.map (app σ))=m:=by
     rw[<-hm,<-HQ h.sat hx,B7 hxv];rfl
    have key:∀ (l m':List Term)(s1:List A6)(σ1:Sub)(rk1:Str->Nat),UOk s1 σ1 rk1->(∀ v t,Ad s1 v=some t->BR Vs t/\v∈Vs)->(∀ z∈l,z∈x.args)->(∀ z∈m',BR Vs z)->(s1=s\/s.length<s1.length)->∃ n r,AE (AX n) s1 l m'=some r:=by
     intro l
     induction l with
     | nil=>intro m' s1 _ _ _ _ _ _ _;exact⟨0,(s1,true),by simp only[AE]⟩
     | cons a' l ihl =>
      intro m' s1 σ1 rk1 h1 hs1 hl hm' hlen
      cases m' with
      | nil=>exact⟨0,(s1,true),by simp only[AE]⟩
      | cons b' m' =>
       have haa:BR Vs a':=hax.arg (hl a' (by simp))
       have hbb:BR Vs b':=hm' b' (by simp)
       have hone:∃ n r,AX n s1 a' b'=some r:=by
        rcases hlen with e | e
        ·subst e
         have e:=h.uniq h1
         subst e
         have h3:=Bp (List.mem_map_of_mem (f:=app σ) (hl a' (by simp)))
         exact ihm (size (app σ a')) (by omega) s1 σ rk a' b' h hs1 haa hbb hk rfl
        ·have h3:=Hq h1.srt hs1
         exact ihk (Vs.length-s1.length) (by omega) _ s1 σ1 rk1 a' b' h1 hs1 haa hbb rfl rfl
       obtain⟨n1,⟨s2,ok⟩,hr1⟩:=hone
       cases ok with
       | false=>exact⟨n1,(s2,false),by simp only[AE,hr1]⟩
       | true =>
        obtain⟨σ2,rk2,h2⟩:=Fm n1 s1 σ1 rk1 a' b' _ h1 haa.1 hbb.1 hr1
        obtain⟨n2,r2,hr2⟩:=ihl m' s2 σ2 rk2 h2.ok (LC hs1 haa hbb hr1) (fun z hz=>hl z (by simp[hz])) (fun z hz=>hm' z (by simp[hz])) (by
         have h5:=h2.len
         simp only at h5
         rcases h5 with e | e
         ·rw[e];exact hlen
         ·rcases hlen with e2 | e2
          ·rw[e2]at e;exact .inr e
          ·exact .inr (by omega))
        refine⟨n1+n2,r2,?_⟩
        simp only[AE]
        rw[EN n1 (n1+n2) _ _ _ _ hr1 (by omega)]
        exact EZ (fun s a b r hr=>EN n2 (n1+n2) s a b r hr (by omega)) _ _ _ _ hr2
    obtain⟨n,r,hr⟩:=key x.args y.args s σ rk h hs (fun z hz=>hz) (fun z hz=>hay.arg hz) (.inl rfl)
    refine⟨N+n+1,r,?_⟩
    simp only[AX]
    rw[LJ hx (by omega),LJ hy (by omega)]
    simp only
    rw[if_neg c1,if_neg c2,if_neg c3]
    exact EZ (fun s a b r hr=>EN n (N+n) s a b r hr (by omega)) _ _ _ _ hr
theorem HZ (Vs:List Str):∀ (l m:List Term)(s:List A6)(σ:Sub)(rk:Str->Nat),UOk s σ rk->(∀ v t,Ad s v=some t->BR Vs t/\v∈Vs)->(∀ z∈l,BR Vs z)->(∀ z∈m,BR Vs z)->∃ n r,AE (AX n) s l m=some r
 | [],_,s,_,_,_,_,_,_=>⟨0,(s,true),by simp only[AE]⟩
 | _::_,[],s,_,_,_,_,_,_=>⟨0,(s,true),by simp only[AE]⟩
 | a::l,b::m,s,σ,rk,h,hs,hl,hm=>by
  have haa:=hl a (by simp)
  have hbb:=hm b (by simp)
  obtain⟨n1,⟨s2,ok⟩,hr1⟩:=dL Vs _ _ s σ rk a b h hs haa hbb rfl rfl
  cases ok with
  | false=>exact⟨n1,(s2,false),by simp only[AE,hr1]⟩
  | true =>
   obtain⟨σ2,rk2,h2⟩:=Fm n1 s σ rk a b _ h haa.1 hbb.1 hr1
   obtain⟨n2,r2,hr2⟩:=HZ Vs l m s2 σ2 rk2 h2.ok (LC hs haa hbb hr1) (fun z hz=>hl z (by simp[hz])) (fun z hz=>hm z (by simp[hz]))
   refine⟨n1+n2,r2,?_⟩
   simp only[AE]
   rw[EN n1 (n1+n2) _ _ _ _ hr1 (by omega)]
   exact EZ (fun s a b r hr=>EN n2 (n1+n2) s a b r hr (by omega)) _ _ _ _ hr2
theorem cD {n m:Nat}{s:List A6}{l k:List Term}{r q:List A6×Bool}(h:AE (AX n) s l k=some r)(h2:AE (AX m) s l k=some q):r=q:=by
 have e1:=EZ (g:=AX (n+m)) (fun s a b r hr=>EN n (n+m) s a b r hr (by omega)) _ _ _ _ h
 have e2:=EZ (g:=AX (n+m)) (fun s a b r hr=>EN m (n+m) s a b r hr (by omega)) _ _ _ _ h2
 rw[e1]at e2;exact Option.some.inj e2
open Classical in
noncomputable def GY (l m:List Term):List A6×Bool:=if h:∃ r,∃ n,AE (AX n) [] l m=some r then h.choose else ([],false)
theorem MO {n:Nat}{l m:List Term}{r:List A6×Bool}(h:AE (AX n) [] l m=some r):GY l m=r:=by
 unfold GY
 have he:∃ r,∃ n,AE (AX n) [] l m=some r:=⟨r,n,h⟩
 rw[dif_pos he]
 obtain⟨k,hk⟩:=he.choose_spec
 exact cD hk h
open Classical in
noncomputable def SI (s:List A6):Sub:=if h:∃ σ,∃ rk,UOk s σ rk then h.choose else BS
theorem S0 {s:List A6}{σ:Sub}{rk:Str->Nat}(h:UOk s σ rk):SI s=σ:=by
 unfold SI
 have he:∃ σ,∃ rk,UOk s σ rk:=⟨σ,rk,h⟩
 rw[dif_pos he]
 obtain⟨rk',h'⟩:=he.choose_spec
 exact h'.uniq h
noncomputable def Di (s:List A6):List A6:=s.map fun b=>⟨b.name,SI s b.name⟩
noncomputable def Fi (s:List A6):Bool:=s.any fun b=>!BK (SI s b.name)
noncomputable def JG (l m:List Term):List A6×Bool×Int :=
 if (GY l m).2=false then ([],false,0) else if Fi (GY l m).1 then ([],false,3) else (Di (GY l m).1,true,0)
theorem Zq {Vs:List Str}{l m:List Term}(hl:∀ z∈l,BR Vs z)(hm:∀ z∈m,BR Vs z)(hlen:l.length=m.length):∃ rk,UOk (GY l m).1 (SI (GY l m).1) rk/\(∀ v t,Ad (GY l m).1 v=some t->BR Vs t/\v∈Vs) /\
  ((GY l m).2=true->l.map (app (SI (GY l m).1))=m.map (app (SI (GY l m).1)))/\∀ θ:Sub,l.map (app θ)=m.map (app θ)->(GY l m).2=true/\Sat θ (GY l m).1:=by
 have hnil:∀ v t,Ad [] v=some t->BR Vs t/\v∈Vs:=fun v t h=>by cases h
 obtain⟨n,r,hr⟩:=HZ Vs l m [] BS (fun _=>0) UOk.nil hnil hl hm
 rw[MO hr]
 obtain⟨σ,rk,h⟩:=RI (Fm n) l m [] BS (fun _=>0) r UOk.nil (fun z hz=>(hl z hz).1) (fun z hz=>(hm z hz).1) hlen hr
 rw[S0 h.ok]
 refine⟨rk,h.ok,?_,h.eq,fun θ hθ=>h.mgu θ (fun v t h=>by cases h) hθ⟩
 clear h
 revert hr
 have key:∀ (l m:List Term)(s:List A6),(∀ z∈l,BR Vs z)->(∀ z∈m,BR Vs z)->(∀ v t,Ad s v=some t->BR Vs t/\v∈Vs)->AE (AX n) s l m=some r->∀ v t,Ad r.1 v=some t->BR Vs t/\v∈Vs:=by
  intro l
  induction l with
  | nil=>intro m s _ _ hs h;simp only[AE,Option.some.injEq]at h;subst h;exact hs
  | cons a l ihl =>
   intro m s hl hm hs h
   cases m with
   | nil=>simp only[AE,Option.some.injEq]at h;subst h;exact hs
   | cons b m =>
    simp only[AE]at h
    cases hf:AX n s a b with
    | none=>rw[hf]at h;cases h
    | some p =>
     obtain⟨s1,ok⟩:=p
     rw[hf]at h
     have h1:=LC hs (hl a (by simp)) (hm b (by simp)) hf
     cases ok with
     | false=>simp only[Option.some.injEq]at h;subst h;exact h1
     | true=>exact ihl m s1 (fun x hx=>hl x (by simp[hx])) (fun x hx=>hm x (by simp[hx])) h1 h
 exact key l m [] hl hm hnil
end Go.Dw
end
section
namespace Go.Dw
theorem lv {n:Nat}{seen:List Nat}{k:Nat}(hm:n<=seen.length)(hnd:seen.Nodup)(hlt:∀ i∈seen,i<n)(hk:k∉seen)(hkn:k<n):False:=by
 have h1:(seen++[k]).Nodup:=by simp[List.nodup_append,hnd];intro a ha e;exact hk (e▸ha)
 have h2:(seen++[k]).length<=(List.range n).length:=List.Nodup.length_le_of_subset h1 (by
  intro i hi
  rw[List.mem_range]
  rcases List.mem_append.1 hi with h | h
  ·exact hlt i h
  ·simp only[List.mem_singleton]at h;subst h;exact hkn)
 simp at h2;omega
theorem pd (n:Nat)(R:List Nat->Prop)(h:∀ seen,seen.Nodup->(∀ i∈seen,i<n)->seen.length<=n->(∀ k,k<n->k∉seen->R (seen++[k]))->R seen):R []:=by
 have key:∀ (f:Nat)(seen:List Nat),n-seen.length<f->seen.Nodup->(∀ i∈seen,i<n)->R seen:=by
  intro f
  induction f with
  | zero=>intro seen hf;omega
  | succ f ih =>
   intro seen hf hnd hlt
   have hl:seen.length<=n:=by simpa using List.Nodup.length_le_of_subset hnd (l₂:=List.range n) fun i hi=>List.mem_range.2 (hlt i hi)
   refine h seen hnd hlt hl fun k hkn hk=>?_
   have hlen:seen.length<n:=by
    rcases Nat.lt_or_ge seen.length n with h | h
    ·exact h
    ·exact (lv h hnd hlt hk hkn).elim
   refine ih (seen++[k]) (by simp;omega) (by simp[List.nodup_append,hnd];intro a ha e;exact hk (e▸ha)) fun i hi=>?_
   rcases List.mem_append.1 hi with h | h
   ·exact hlt i h
   ·simp only[List.mem_singleton]at h;subst h;exact hkn
 exact key (n+1) [] (by simp) List.nodup_nil (by simp)
end Go.Dw
end
section
namespace Go.Dw
theorem ai {i:Nat}{l:List Str}{s:Str}:(.own i 1 (l.map cS++[[V.str s]]):V)=Bc cS i 1 (l++[s]):=by simp[Bc,cS]
end Go.Dw
end
section
namespace Go.Dw
section
variable {κ α:Type} [DecidableEq κ]
def C2:List (κ×α)->κ->Option α
 | [],_=>none
 | p::m,k=>if p.1=k then some p.2 else C2 m k
def F8:List (κ×α)->κ->α->List (κ×α)
 | [],k,x=>[(k,x)]
 | p::m,k,x=>if p.1=k then (k,x)::m else p::F8 m k x
theorem Hy (m:List (κ×α))(k j:κ)(x:α):C2 (F8 m k x) j=if k=j then some x else C2 m j:=by
 induction m with
 | nil=>simp only[F8,C2]
 | cons p m ih =>
  simp only[F8]
  split
  ·rename_i h
   simp only[C2,h]
   split <;> rfl
  ·rename_i h
   simp only[C2,ih]
   by_cases h2:p.1=j
   ·rw[if_pos h2,if_neg (fun e=>h (h2.trans e.symm)),if_pos h2]
   ·rw[if_neg h2,if_neg h2]
theorem nG {m:List (κ×α)}{k:κ}{x:α}(h:C2 m k=some x):(k,x)∈m:=by
 induction m with
 | nil=>cases h
 | cons p m ih =>
  simp only[C2]at h
  split at h
  ·rename_i e;cases h;subst e;exact List.mem_cons_self
  ·exact List.mem_cons_of_mem _ (ih h)
def lc (m:List (κ×α)):Prop:=(m.map (·.1)).Nodup
theorem lS {m:List (κ×α)}(h:lc m)(k:κ)(x:α):lc (F8 m k x):=by
 have hm:∀ (m:List (κ×α)) (j:κ),j∈(F8 m k x).map (·.1)->j=k\/j∈m.map (·.1):=by
  intro m
  induction m with
  | nil=>intro j hj;simp[F8]at hj;exact .inl hj
  | cons p m ih =>
   intro j hj
   simp only[F8]at hj
   split at hj
   ·simp only[List.map_cons,List.mem_cons]at hj ⊢
    rcases hj with h | h
    ·exact .inl h
    ·exact .inr (.inr h)
   ·simp only[List.map_cons,List.mem_cons]at hj ⊢
    rcases hj with h | h
    ·exact .inr (.inl h)
    ·rcases ih j h with h | h
     ·exact .inl h
     ·exact .inr (.inr h)
 unfold lc at h ⊢
 induction m with
 | nil=>simp[F8]
 | cons p m ih =>
  simp only[List.map_cons,List.nodup_cons]at h
  simp only[F8]
  split
  ·rename_i e
   simp only[List.map_cons,List.nodup_cons]
   subst e;exact h
  ·rename_i e
   simp only[List.map_cons,List.nodup_cons]
   refine⟨fun hc=>?_,ih h.2⟩
   rcases hm m _ hc with h2 | h2
   ·exact e h2
   ·exact h.1 h2
theorem UB {m:List (κ×α)}(h:lc m){k:κ}{x:α}(hm:(k,x)∈m):C2 m k=some x:=by
 unfold lc at h
 induction m with
 | nil=>cases hm
 | cons p m ih =>
  simp only[List.map_cons,List.nodup_cons]at h
  simp only[C2]
  rcases List.mem_cons.1 hm with e | hm
  ·subst e;rw[if_pos rfl]
  ·rw[if_neg (fun e=>h.1 (by rw[e];exact List.mem_map_of_mem (f:=(·.1)) hm))]
   exact ih h.2 hm
end
section
variable {α:Type}
def Bh (f:α->V)(m:List (Str×α)):List (V×V):=m.map fun p=>(.str p.1,f p.2)
theorem Sk (f:α->V)(m:List (Str×α)):(Bh f m).length=m.length:=by simp[Bh]
theorem Rr (f:α->V)(k:Str):∀ (m:List (Str×α)) (i:Nat),(C2 m k=none/\Ga (.str k) (Bh f m) i=some none)\/∃ x j,C2 m k=some x/\Ga (.str k) (Bh f m) i=some (some (i+j,f x))/\∀ y,(Bh f m).set j (.str k,f y)=Bh f (F8 m k y)
 | [],i=>.inl ⟨rfl,rfl⟩
 | p::m,i=>by
  by_cases h:p.1=k
  ·refine .inr ⟨p.2,0,?_,?_,fun y=>?_⟩
   ·simp[C2,h]
   ·simp[Bh,Ga,Hv,h]
   ·simp[Bh,F8,h]
  ·have h':k≠p.1:=fun e=>h e.symm
   have hb:(k == p.1)=false:=by simpa using h'
   have e:∀ (i:Nat) ,Ga (.str k) (Bh f (p::m)) i=Ga (.str k) (Bh f m) (i+1):=fun i=>by simp[Bh,Ga,Hv,hb]
   have eg:C2 (p::m) k=C2 m k:=by simp only[C2];rw[if_neg h]
   rw[eg,e]
   rcases Rr f k m (i+1)with h1 | ⟨x,j,h1,h2,h3⟩
   ·exact .inl h1
   ·refine .inr ⟨x,j+1,h1,by rw[h2];congr 3;omega,fun y=>?_⟩
    have:=h3 y
    simp only[Bh,F8,if_neg h,List.map_cons,List.set_cons_succ]at this ⊢
    rw[this]
theorem Ky (f:α->V)(m:List (Str×α))(k:Str)(ok:Bool)(z:V){H:List Ob}{i:Nat}(hi:H[i]?=some (.map (Bh f m))):Ly H true ok z (.map i) (.str k)=some (if ok then .tup [((C2 m k).map f).getD z,.bool (C2 m k).isSome] else ((C2 m k).map f).getD z):=by
 have he:Dk H (.map i)=some (Bh f m):=by simp[Dk,hi]
 unfold Ly
 rw[he]
 rcases Rr f k m 0 with ⟨h1,h2⟩ | ⟨x,j,h1,h2,_⟩
 ·simp[ksB,h1,h2,Mp]
 ·simp[ksB,h1,h2,Mp]
theorem WS {κ:Type}[DecidableEq κ]{m:List (κ×α)}{k:κ}(h:C2 m k=none)(x:α):F8 m k x=m++[(k,x)]:=by
 induction m with
 | nil=>rfl
 | cons p m ih =>
  simp only[C2]at h
  split at h
  ·cases h
  ·rename_i e
   simp only[F8,if_neg e,List.cons_append,ih h]
theorem PO (f:α->V)(m:List (Str×α))(k:Str)(x:α):VW (.str k) (f x) (Bh f m)=some (Bh f (F8 m k x)):=by
 unfold VW
 rcases Rr f k m 0 with ⟨h1,h2⟩ | ⟨y,j,h1,h2,h3⟩
 ·rw[h2,WS h1];simp[Bh]
 ·rw[h2]
  simp only[Nat.zero_add]
  rw[h3]
theorem SQ {σ:Nat->Option Nat}{f:α->V}(hf:∀ x,ren σ (f x)=f x)(m:List (Str×α)):((Bh f m).map fun p=>(ren σ p.1,ren σ p.2))=Bh f m:=by
 unfold Bh
 rw[List.map_map]
 refine List.map_congr_left fun p _=>?_
 show (ren σ (V.str p.1),ren σ (f p.2))=_
 rw[hf];rfl
abbrev Key:=Str×Str
def ON (k:Key):V:=.agg [.str k.1,.str k.2]
def Gl (f:α->V)(m:List (Key×α)):List (V×V):=m.map fun p=>(ON p.1,f p.2)
theorem R4 (a b:Key):OG (ON a) (ON b)=some (decide (a=b)):=by
 obtain⟨a1,a2⟩:=a
 obtain⟨b1,b2⟩:=b
 by_cases h1:a1=b1
 ·by_cases h2:a2=b2
  ·subst h1;subst h2
   simp[OG,ON,Sd,Hv]
  ·have:(a2 == b2)=false:=by simpa using h2
   subst h1
   simp[OG,ON,Sd,Hv,this,h2]
 ·have:(a1 == b1)=false:=by simpa using h1
  simp[OG,ON,Sd,Hv,this,h1]
theorem RM (f:α->V)(k:Key):∀ (m:List (Key×α)) (i:Nat),(C2 m k=none/\MK (ON k) (Gl f m) i=some none)\/∃ x j,C2 m k=some x/\MK (ON k) (Gl f m) i=some (some (i+j,f x))/\∀ y,(Gl f m).set j (ON k,f y)=Gl f (F8 m k y)
 | [],i=>.inl ⟨rfl,rfl⟩
 | p::m,i=>by
  by_cases h:p.1=k
  ·refine .inr ⟨p.2,0,?_,?_,fun y=>?_⟩
   ·simp[C2,h]
   ·simp only[Gl,List.map_cons,MK,R4,h,decide_true];rfl
   ·simp[Gl,F8,h]
  ·have h':k≠p.1:=fun e=>h e.symm
   have e:∀ (i:Nat) ,MK (ON k) (Gl f (p::m)) i=MK (ON k) (Gl f m) (i+1):=fun i=>by simp only[Gl,List.map_cons,MK,R4,h',decide_false]
   have eg:C2 (p::m) k=C2 m k:=by simp only[C2];rw[if_neg h]
   rw[eg,e]
   rcases RM f k m (i+1)with h1 | ⟨x,j,h1,h2,h3⟩
   ·exact .inl h1
   ·refine .inr ⟨x,j+1,h1,by rw[h2];congr 3;omega,fun y=>?_⟩
    have:=h3 y
    simp only[Gl,F8,if_neg h,List.map_cons,List.set_cons_succ]at this ⊢
    rw[this]
theorem mH (f:α->V)(m:List (Key×α))(k:Key)(ok:Bool)(z:V){H:List Ob}{i:Nat}(hi:H[i]?=some (.map (Gl f m))):QZ H [true,true] ok z (.map i) (ON k)=some (if ok then .tup [((C2 m k).map f).getD z,.bool (C2 m k).isSome] else ((C2 m k).map f).getD z):=by
 have he:Dk H (.map i)=some (Gl f m):=by simp[Dk,hi]
 have hs:shB [true,true] (ON k)=true:=rfl
 unfold QZ
 rw[he,if_pos hs]
 rcases RM f k m 0 with ⟨h1,h2⟩ | ⟨x,j,h1,h2,_⟩
 ·simp[h1,h2,Mp]
 ·simp[h1,h2,Mp]
theorem rC (f:α->V)(m:List (Key×α))(k:Key)(x:α):lU (ON k) (f x) (Gl f m)=some (Gl f (F8 m k x)):=by
 unfold lU
 rcases RM f k m 0 with ⟨h1,h2⟩ | ⟨y,j,h1,h2,h3⟩
 ·rw[h2,WS h1];simp[Gl]
 ·rw[h2]
  simp only[Nat.zero_add]
  rw[h3]
theorem rL {σ:Nat->Option Nat}{f:α->V}(hf:∀ x,ren σ (f x)=f x)(m:List (Key×α)):((Gl f m).map fun p=>(ren σ p.1,ren σ p.2))=Gl f m:=by
 unfold Gl
 rw[List.map_map]
 refine List.map_congr_left fun p _=>?_
 show (ren σ (ON p.1),ren σ (f p.2))=_
 rw[hf];rfl
end
def FG (s:List A6):Nat->Term->Prop
 | 0,_=>False
 | n+1,t=>if t.var then ∀ x,Ad s t.name=some x->FG s n x else ∀ a∈t.args,FG s n a
theorem FG.mono {s:List A6}:∀ {n m:Nat} {t:Term},FG s n t->n<=m->FG s m t
 | 0,_,_,h,_=>h.elim
 | n+1,0,_,_,h=>by omega
 | n+1,m+1,t,h,hm=>by
  simp only[FG]at h ⊢
  split
  ·rename_i hv
   rw[if_pos hv]at h
   exact fun x hx=>(h x hx).mono (by omega)
  ·rename_i hv
   rw[if_neg hv]at h
   exact fun a ha=>(h a ha).mono (by omega)
theorem ZD {s:List A6}:∀ l:List Term,(∀ a∈l,∃ n,FG s n a)->∃ n,∀ a∈l,FG s n a
 | [],_=>⟨0,by simp⟩
 | a::l,h=>by
  obtain⟨n,hn⟩:=h a (by simp)
  obtain⟨m,hm⟩:=ZD l fun b hb=>h b (by simp[hb])
  refine⟨n+m,fun b hb=>?_⟩
  rcases List.mem_cons.1 hb with rfl | hb
  ·exact hn.mono (by omega)
  ·exact (hm b hb).mono (by omega)
theorem UOk.need {s:List A6}{σ:Sub}{rk:Str->Nat}(h:UOk s σ rk)(t:Term):∃ n,FG s n t:=by
 have B:∀ t:Term,(∀ u,occ u t=true->∀ x,Ad s u=some x->∃ n,FG s n x)->∃ n,FG s n t:=by
  intro t
  induction t using Af with
  | h t ih =>
  intro hu
  cases hv:t.var with
  | true =>
   cases hi:Ad s t.name with
   | none=>exact⟨1,by simp only[FG,hv,if_pos];intro x hx;rw[hi]at hx;cases hx⟩
   | some x =>
    obtain⟨n,hn⟩:=hu t.name (AC.2 (.inl ⟨hv,rfl⟩)) x hi
    exact⟨n+1,by simp only[FG,hv,if_pos];intro y hy;rw[hi]at hy;cases hy;exact hn⟩
  | false =>
   obtain⟨n,hn⟩:=ZD (s:=s) t.args fun a ha=>ih a ha fun u hu'=>hu u (AC.2 (.inr ⟨a,ha,hu'⟩))
   exact⟨n+1,by simp only[FG,hv,Bool.false_eq_true,if_false];exact hn⟩
 have A:∀ u,∀ x,Ad s u=some x->∃ n,FG s n x:=h.ind fun u ih x hx=>B x fun w hw y hy=>ih x w hx hw y hy
 exact B t fun u _=>A u
end Go.Dw
end
section
namespace Go.Dw
abbrev NM:=List (Str×Str)
abbrev nHl (nm:NM)(J:List Ob):List Ob:=.map (Bh V.str nm)::.cells B9 [.map 0]::J
abbrev nH (nm:NM):List Ob:=nHl nm []
theorem mO {σ:Nat->Option Nat}(m:NM):((Bh V.str m).map fun p=>(ren σ p.1,ren σ p.2))=Bh V.str m:=SQ (fun x=>rfl) m
attribute [push_cast] mO
theorem gy (nm:NM):ID 2 (nH nm):=⟨rfl,by
 show [A5 (AK 2) (.map (Bh V.str nm)),A5 (AK 2) (.cells B9 [.map 0])]=_
 have h0:AK 2 0=some 0:=rfl
 push_cast[h0]⟩
theorem rV (nm:NM)(J:List Ob):give [0,1] (nHl nm J)=nH nm:=by
 show [A5 (Aw [0,1]) (.map (Bh V.str nm)),A5 (Aw [0,1]) (.cells B9 [.map 0])]=_
 have h0:Aw [0,1] 0=some 0:=rfl
 push_cast[h0]
theorem xT (nm nm':NM)(J:List Ob):takeB [0,1] (nHl nm J) (nH nm')=nHl nm' J:=by
 apply List.ext_getElem?
 intro i
 rw[DC (by simp)]
 have h0:∀ n,BT [0,1] n 0=some 0:=fun _=>rfl
 match i with
 | 0=>rw[if_pos (by simp)];show some (A5 _ (.map (Bh V.str nm')))=some _;push_cast
 | 1=>rw[if_pos (by simp)];show some (A5 _ (.cells B9 [.map 0]))=some _;push_cast[h0]
 | i+2 =>
  have hp:Aw [0,1] (i+2)=none:=by simp[Aw,List.findIdx?_cons]
  by_cases h:i<J.length
  ·rw[if_pos (by simp;omega),hp]
   simp[List.getD_eq_getElem?_getD,h]
  ·rw[if_neg (by simp;omega)]
   have e1:(nHl nm' J)[i+2]?=none:=List.getElem?_eq_none (by simp;omega)
   have e2:(nH nm')[[0,1].length+(i+2-(nHl nm J).length)]?=none:=List.getElem?_eq_none (by simp)
   rw[e1,e2];rfl
section
variable {N:Nat->C} {B:Nat} {k:List K} {t:T} {Q:X->T->List Ob->Prop} {dd:Option Nat} {l:List S} {F:Fn} {vs vs':List V} {nm nm':NM} {J:List Ob} {x:V}
theorem aE (hv:AP (Aw [0,1]) vs=vs')(h:GN prog F vs' (nH nm) fun x' H'=>x'=x/\H'=nH nm')(k':Run prog N B (.r l::k) (Ez dd (ren (BT [0,1] (J.length+2)) x) t) (nHl nm' J) Q):Bt prog N B dd l k t Q F vs (nHl nm J):=by
 refine Bt.some [0,1] (by simp) (by simp) (R:=fun x' H'=>x'=x/\H'=nH nm') (by rw[rV,hv];exact h) ?_
 rintro x' H' ⟨rfl,rfl⟩ _
 rw[xT];exact k'
end
abbrev nHp (P:List Ob)(nm:NM)(J:List Ob):List Ob:=P++(.map (Bh V.str nm)::.cells B9 [.map P.length]::J)
theorem wM (p:Nat):Aw [p,p+1] p=some 0:=by simp[Aw,List.findIdx?_cons]
theorem yY (p:Nat):Aw [p,p+1] (p+1)=some 1:=by simp[Aw,List.findIdx?_cons]
theorem vH (P:List Ob)(nm:NM)(J:List Ob):give [P.length,P.length+1] (nHp P nm J)=nH nm:=by
 unfold give
 have e1:(nHp P nm J).getD P.length .dead=.map (Bh V.str nm):=by simp[List.getD_eq_getElem?_getD]
 have e2:(nHp P nm J).getD (P.length+1) .dead=.cells B9 [.map P.length]:=by
  rw[List.getD_eq_getElem?_getD,List.getElem?_append_right (by omega)]
  simp
 simp only[List.map_cons,List.map_nil,e1,e2]
 push_cast[wM]
theorem vQ (P:List Ob)(nm nm':NM)(J:List Ob):takeB [P.length,P.length+1] (nHp P nm J) (nH nm')=nHp P nm' J:=by
 apply List.ext_getElem?
 intro i
 rw[DC (by simp)]
 have hb0:∀ n,BT [P.length,P.length+1] n 0=some P.length:=fun _=>rfl
 have hlen:(nHp P nm J).length=P.length+(J.length+2):=by simp
 by_cases h1:i<P.length
 ·have hp:Aw [P.length,P.length+1] i=none:=by
   have a1:¬ P.length=i:=by omega
   have a2:¬ P.length+1=i:=by omega
   simp[Aw,List.findIdx?_cons,a1,a2]
  rw[if_pos (by omega),hp,List.getElem?_append_left h1,List.getD_eq_getElem?_getD,List.getElem?_append_left h1]
  simp[h1]
 ·rw[List.getElem?_append_right (by omega)]
  by_cases h2:i=P.length
  ·subst h2
   rw[if_pos (by omega),wM]
   simp only[Nat.sub_self,List.getElem?_cons_zero]
   show some (A5 _ (.map (Bh V.str nm')))=_
   push_cast
  ·by_cases h3:i=P.length+1
   ·subst h3
    rw[if_pos (by omega),yY]
    have e:P.length+1-P.length=1:=by omega
    rw[e]
    simp only[List.getElem?_cons_succ,List.getElem?_cons_zero]
    show some (A5 _ (.cells B9 [.map 0]))=_
    push_cast[hb0]
   ·have hp:Aw [P.length,P.length+1] i=none:=by
     have a1:¬ P.length=i:=by omega
     have a2:¬ P.length+1=i:=by omega
     simp[Aw,List.findIdx?_cons,a1,a2]
    obtain⟨j,rfl⟩:∃ j,i=P.length+2+j:=⟨i-P.length-2,by omega⟩
    have e:P.length+2+j-P.length=j+2:=by omega
    rw[e]
    simp only[List.getElem?_cons_succ]
    by_cases h4:j<J.length
    ·rw[if_pos (by omega),hp]
     simp only[List.getD_eq_getElem?_getD]
     rw[List.getElem?_append_right (by omega),e]
     simp[h4]
    ·rw[if_neg (by omega)]
     have e1:J[j]?=none:=List.getElem?_eq_none (by omega)
     have e2:(nH nm')[[P.length,P.length+1].length+(P.length+2+j-(nHp P nm J).length)]?=none:=List.getElem?_eq_none (by simp)
     rw[e1,e2];rfl
theorem Ff {N:Nat->C}{B:Nat}{k:List K}{t:T}{Q:X->T->List Ob->Prop}{dd:Option Nat}{l:List S}{F:Fn}{vs vs':List V}{nm nm':NM}{x:V}(P J:List Ob)(hv:AP (Aw [P.length,P.length+1]) vs=vs')(h:GN prog F vs' (nH nm) fun x' H'=>x'=x/\H'=nH nm')
  (k':Run prog N B (.r l::k) (Ez dd (ren (BT [P.length,P.length+1] (nHp P nm J).length) x) t) (nHp P nm' J) Q):Bt prog N B dd l k t Q F vs (nHp P nm J):=by
 refine Bt.some [P.length,P.length+1] (by simp) (by simp) (R:=fun x' H'=>x'=x/\H'=nH nm') (by rw[vH,hv];exact h) ?_
 rintro x' H' ⟨rfl,rfl⟩ _
 rw[vQ];exact k'
def Jx (pre:Str)(nm:NM)(v:Str):NM×Str:=if (C2 nm v).getD []=[] then (F8 nm v (pre++dig nm.length),pre++dig nm.length) else (nm,(C2 nm v).getD [])
theorem rZ {κ α:Type}[DecidableEq κ](m:List (κ×α))(k:κ)(x:α):(F8 m k x).length<=m.length+1:=by
 induction m with
 | nil=>simp[F8]
 | cons p m ih=>simp only[F8];split <;> simp;exact ih
theorem mG (pre:Str)(nm:NM)(v:Str):(Jx pre nm v).1.length<=nm.length+1:=by
 unfold Jx
 split
 ·exact rZ _ _ _
 ·exact Nat.le_succ _
theorem Vy (n:Nat):(dig n).length<=n+1:=by
 induction n using Nat.strongRecOn with
 | ind n ih =>
  unfold dig Lib.decDigits
  split
  ·simp
  ·have:=ih (n / 10) (by omega)
   unfold dig at this
   simp only[List.length_append,List.length_singleton]
   omega
theorem R7 (nm:NM)(v:Str)(hl:nm.length<2^62):Spec prog Es [.str v,.ptr 1 0] (nH nm) fun x H'=>x=.str (Jx [120] nm v).2/\H'=nH (Jx [120] nm v).1:=by
 have hlk:∀ nm l,_:=fun (nm:NM) (l:List Ob)=>Ky V.str nm v false (.str []) (H:=nHl nm l) (i:=0) rfl
 have hup:=PO V.str nm v (120::dig nm.length)
 have hcap:1+(dig nm.length).length<=BV:=by have:=Vy nm.length;unfold BV;omega
 have hlm:∀ l,Vh (nHl nm l) (.map 0)=some (.int .i64 nm.length):=fun l=>by unfold Vh;simp[Dk,Sk]
 have hI:=Px nm.length hl
 refine AJ mixed Mb.ok rfl ?_
 unfold Jx
 have e2:∀ nm:NM,((C2 nm v).map V.str).getD (.str [])=.str ((C2 nm v).getD []):=fun nm=>by cases C2 nm v <;> rfl
 simp only[e2,Bool.false_eq_true,if_false]at hlk
 by_cases h:(C2 nm v).getD []=[]
 ·rw[if_pos h]
  have h3:(C2 (F8 nm v (120::dig nm.length)) v).getD []=120::dig nm.length:=by rw[Hy,if_pos rfl];rfl
  push_cast[hlk,h,hlm]
  refine .of hI ?_
  push_cast[hup,hlk,h3,hcap]
  exact⟨rfl,Dl (.inl rfl) rfl ⟨rfl,rfl⟩⟩
 ·rw[if_neg h]
  push_cast[hlk,h]
  exact Dl (.inl rfl) rfl ⟨rfl,rfl⟩
theorem M4 (nm:NM)(v:Str)(hl:nm.length<2^40):Spec prog Cv [.str v,.ptr 1 0] (nH nm) fun x H'=>x=.str (Jx [121] nm v).2/\H'=nH (Jx [121] nm v).1:=by
 have hlk:∀ nm l,_:=fun (nm:NM) (l:List Ob)=>Ky V.str nm v false (.str []) (H:=nHl nm l) (i:=0) rfl
 have hup:=PO V.str nm v (121::dig nm.length)
 have hcap:1+(dig nm.length).length<=BV:=by have:=Vy nm.length;unfold BV;omega
 have hlm:∀ l,Vh (nHl nm l) (.map 0)=some (.int .i64 nm.length):=fun l=>by unfold Vh;simp[Dk,Sk]
 have hI:=Px nm.length (by omega)
 refine AJ mixed Ow.ok rfl ?_
 unfold Jx
 have e2:∀ nm:NM,((C2 nm v).map V.str).getD (.str [])=.str ((C2 nm v).getD []):=fun nm=>by cases C2 nm v <;> rfl
 simp only[e2,Bool.false_eq_true,if_false]at hlk
 by_cases h:(C2 nm v).getD []=[]
 ·rw[if_pos h]
  have h3:(C2 (F8 nm v (121::dig nm.length)) v).getD []=121::dig nm.length:=by rw[Hy,if_pos rfl];rfl
  push_cast[hlk,h,hlm]
  refine .of hI ?_
  push_cast[hup,hlk,h3,hcap]
  exact⟨rfl,Dl (.inl rfl) rfl ⟨rfl,rfl⟩⟩
 ·rw[if_neg h]
  push_cast[hlk,h]
  exact Dl (.inl rfl) rfl ⟨rfl,rfl⟩
mutual
def GC (pre:Str)(nm:NM):Term->NM×Term
 | .mk n v l=>if v then ((Jx pre nm n).1,.mk (Jx pre nm n).2 true []) else ((DR pre nm l).1,.mk n false (DR pre nm l).2)
def DR (pre:Str)(nm:NM):List Term->NM×List Term
 | []=>(nm,[])
 | a::l=>((DR pre (GC pre nm a).1 l).1,(GC pre nm a).2::(DR pre (GC pre nm a).1 l).2)
end
theorem ZU (pre:Str)(nm:NM)(t:Term):GC pre nm t=if t.var then ((Jx pre nm t.name).1,.mk (Jx pre nm t.name).2 true []) else ((DR pre nm t.args).1,.mk t.name false (DR pre nm t.args).2):=by cases t;simp only[GC];rfl
theorem RW (pre:Str):∀ (a b:List Term)(nm:NM),DR pre nm (a++b)=((DR pre (DR pre nm a).1 b).1,(DR pre nm a).2++(DR pre (DR pre nm a).1 b).2)
 | [],b,nm=>rfl
 | x::a,b,nm=>by simp only[List.cons_append,DR,RW pre a b]
theorem Zv (pre:Str):∀ (a:List Term)(nm:NM),(DR pre nm a).2.length=a.length
 | [],nm=>rfl
 | x::a,nm=>by simp only[DR,List.length_cons,Zv pre a]
theorem MY (pre:Str)(t:Term):∀ nm:NM,(GC pre nm t).1.length<=nm.length+size t:=by
 induction t using Af with
 | h t ih =>
 intro nm
 have hst:=AH t
 rw[ZU]
 split
 ·have:=mG pre nm t.name;simp only;omega
 ·have key:∀ (l:List Term)(nm:NM),(∀ a∈l,a∈t.args)->(DR pre nm l).1.length<=nm.length+Ab l:=by
   intro l
   induction l with
   | nil=>intro nm _;simp[DR,Ab]
   | cons a l ihl =>
    intro nm hl
    have h1:=ih a (hl a (by simp)) nm
    have h2:=ihl (GC pre nm a).1 fun b hb=>hl b (by simp[hb])
    simp only[DR,Ab]
    omega
  have:=key t.args nm fun _ h=>h
  simp only;omega
theorem KR {g:Nat}{pre:Str}(hg:∀ (nm:NM)(v:Str),nm.length<2^40->Spec prog g [.str v,.ptr 1 0] (nH nm) fun x H'=>x=.str (Jx pre nm v).2/\H'=nH (Jx pre nm v).1)(t:Term) :
  ∀ nm:NM,nm.length+size t<2^40->Spec prog D5 [Ao t,.fn (.func g) [] [.ptr 1 0]] (nH nm) fun x H'=>x=Ao (GC pre nm t).2/\H'=nH (GC pre nm t).1:=by
 induction t using Af with
 | h t ih =>
 intro nm hl
 have hst:=AH t
 have hla:=Ai t.args
 have p1:Aw [0,1] 1=some 1:=rfl
 have c1:AK 2 1=some 1:=rfl
 refine AJ mixed Kr.ok rfl ?_
 rw[ZU]
 cases hv:t.var with
 | true =>
  rw[if_pos rfl]
  push_cast[hv]
  refine aE (by push_cast[p1]) (Bb▸hg nm t.name (by omega)) ?_
  push_cast
  exact Am (H:=nH (Jx pre nm t.name).1) (J:=[_]) (gy _) rfl ⟨by push_cast;rfl,rfl⟩
 | false =>
  rw[if_neg (by simp)]
  push_cast[hv]
  refine Ac (n:=t.args.length) (R:=fun k=>Kr.L3 (.fn (.func g) [] [.ptr 1 0]) (.ptr 2 0) (.ptr 3 0) (Bd t.args) (.int .i64 t.args.length) (.int .i64 k) 2
   (nHl (DR pre nm (t.args.take k)).1 [.cells A3 [.str [],.bool false,.sl 3 []],.cells A3 [.str t.name,.bool false,Bc cT 4 3 (DR pre nm (t.args.take k)).2],.arr A3 3 k]) _) ?_ ?_ 0 (by omega)
  ·intro k hk ih2
   have hme:=A4 hk
   have hlt:(DR pre nm (t.args.take k)).2.length=k:=by rw[Zv];simp;omega
   have hsz:=Bp hme
   have hpre:(DR pre nm (t.args.take k)).1.length+size (t.args.getD k default)<2^40:=by
    have key:∀ (l:List Term)(nm:NM),(DR pre nm l).1.length<=nm.length+Ab l:=by
     intro l
     induction l with
     | nil=>intro nm;simp[DR,Ab]
     | cons a l ihl =>
      intro nm
      have h1:=MY pre a nm
      have h2:=ihl (GC pre nm a).1
      simp only[DR,Ab];omega
    have h1:=key (t.args.take k) nm
    have h2:Ab (t.args.take k)+size (t.args.getD k default)<=Ab t.args:=by
     have h3:Ab (t.args.take (k+1))=Ab (t.args.take k)+size (t.args.getD k default):=by rw[A9 hk,Cb];simp[Ab]
     have h4:Ab t.args=Ab (t.args.take (k+1))+Ab (t.args.drop (k+1)):=by rw[<-Cb,List.take_append_drop]
     omega
    omega
   have hc:=ih _ hme (DR pre nm (t.args.take k)).1 hpre
   rw[A9 hk,RW]at ih2
   simp only[DR]at ih2
   generalize DR pre nm (t.args.take k)=q at hlt hc ih2
   generalize GC pre q.1 (t.args.getD k default)=u at hc ih2
   refine A8.2 ?_
   push_cast[ilt hk]
   refine⟨⟨?_,?_⟩,?_⟩
   all_goals
    refine aE (J:=[_,_,_,_]) (by push_cast[p1]) hc ?_
    push_cast[hlt,TY (show k<2^40 by omega) (show 48<=64 by omega),w64 (show k<2^62 by omega),c1]
    push_cast at ih2
    exact ih2
  ·refine A8.2 ?_
   push_cast[B6 (Nat.le_refl _)]
   rw[List.take_length]
   refine Am (H:=nH _) (J:=[_,_,_]) (gy _) rfl ⟨?_,rfl⟩
   push_cast[Kr.rs]
   rw[Ao,Oq];rfl
theorem UY:Spec prog Fh [] [] fun x H'=>x=.fn (.func Dd) [] [.ptr 1 0]/\H'=nH []:=by
 refine AJ mixed QN.ok rfl ?_
 push_cast
 refine aX (.inl rfl) [0,1] (by simp) (by simp) rfl ⟨?_,?_⟩
 ·have p1:Aw (List.range 0++[0,1]) 1=some 1:=rfl
  push_cast[p1]
 ·exact rV [] []
theorem Eb (nm:NM)(t:Term)(hl:nm.length+size t<2^40):Spec prog Dd [Ao t,.ptr 1 0] (nH nm) fun x H'=>x=Ao (GC [120] nm t).2/\H'=nH (GC [120] nm t).1:=by
 have hR:=KR (g:=Es) (pre:=[120]) (fun nm v h=>R7 nm v (by omega)) t nm hl
 have p1:Aw [0,1] 1=some 1:=rfl
 refine AJ mixed OD.ok rfl ?_
 push_cast
 refine aE (J:=[_]) (by push_cast[p1]) hR ?_
 push_cast
 exact Am (H:=nH (GC [120] nm t).1) (J:=[_]) (gy _) rfl ⟨by push_cast,rfl⟩
def sr (pre:Str)(x:A2):A2:=⟨(GC pre [] x.left).2,(GC pre (GC pre [] x.left).1 x.right).2⟩
theorem Va (x:A2)(hl:size x.left+size x.right<2^39):PF JS [JL x] (JL (sr [121] x)):=by
 have hL:=KR (g:=Cv) (pre:=[121]) M4 x.left [] (by simp;omega)
 have hR:=KR (g:=Cv) (pre:=[121]) M4 x.right (GC [121] [] x.left).1 (by have:=MY [121] x.left [];simp only[List.length_nil]at this;omega)
 have p1:Aw [0,1] 1=some 1:=rfl
 refine Aa MB.ok rfl ?_
 push_cast
 have q1:Aw [1,2] 2=some 1:=rfl
 refine Ff (vs:=[Ao x.left,V.fn (Fn.func Cv) [] [V.ptr 2 0]]) (nm:=[]) [.cells BN [V.str [],V.bool false,V.sl 3 [],V.str [],V.bool false,V.sl 3 []]] [] (by push_cast[q1]) (Bb▸hL) ?_
 push_cast
 refine Ff (vs:=[Ao x.right,V.fn (Fn.func Cv) [] [V.ptr 2 0]]) [.cells BN [V.str [],V.bool false,V.sl 3 [],V.str [],V.bool false,V.sl 3 []]] [_] (by push_cast[q1]) (Bb▸hR) ?_
 push_cast
 refine A1 ?_
 push_cast[MB.rs,sr]
 rfl
end Go.Dw
end
section
namespace Go.Dw
def Vf (l:List Str)(x:Str):Bool:=l.any fun y=>decide (y=x)
theorem cV {l:List Str}{x:Str}:Vf l x=true↔x∈l:=by
 unfold Vf;simp[List.any_eq_true]
theorem Uf (l:List Str)(x:Str)(hl:l.length<2^62):PF MU [Bl l,.str x] (.bool (Vf l x)):=by
 refine Aa PY.ok rfl ?_
 push_cast
 refine Ac (n:=l.length) (R:=fun k=>Vf (l.drop k) x=Vf l x->PY.L3 (.str x) (Bl l) (.int .i64 l.length) (.int .i64 k) 0 [] (Bv 0 PY.rs fun y H=>y=.bool (Vf l x)/\H=[])) ?_ ?_ 0 (Nat.zero_le _) rfl
 ·intro k hk ih hq
  rw[Ak hk]at hq
  refine A8.2 ?_
  generalize hy:l.getD k default=y at hq
  simp only[Vf,List.any_cons]at hq
  by_cases h:y=x
  ·push_cast[ilt hk,hy,eq_true h]
   simp only[h,decide_true,Bool.true_or]at hq
   exact A1 (by push_cast[PY.rs,Vf,h,<-hq])
  ·push_cast[ilt hk,hy,eq_false h,w64 (show k<2^62 by omega)]
   simp only[h,decide_false,Bool.false_or]at hq
   push_cast at ih
   exact ih hq
 ·intro hq
  refine A8.2 ?_
  rw[List.drop_length]at hq
  push_cast[B6 (Nat.le_refl _)]
  exact A1 (by push_cast[PY.rs,<-hq];simp[Vf])
theorem Ub {l:List Str}{x:Str}(h:x∈l):Vf l x=true:=cV.2 h
theorem Rh {l:List Str}{x:Str}(h:x∉l):Vf l x=false:=by
 cases e:Vf l x with
 | false=>rfl
 | true=>exact absurd (cV.1 e) h
end Go.Dw
end
section
namespace Go.Dw
theorem ak (n:Nat):n<2^62->PF Iv [.int .i64 n] (.str (dig n)):=by
 induction n using Nat.strongRecOn with
 | ind n ih =>
 intro hn
 refine Aa Nu.ok rfl ?_
 unfold dig Lib.decDigits
 by_cases h:n<10
 ·have hi:((n:Int)<10)=True:=eq_true (by omega)
  rw[dif_pos h]
  have hb:gG [[V.int .u8 (IntKind.u8.wrap (IntKind.i64.wrap (48+(n:Int))))]]=some [UInt8.ofNat (48+n)]:=by
   have:n=0\/n=1\/n=2\/n=3\/n=4\/n=5\/n=6\/n=7\/n=8\/n=9:=by omega
   rcases this with rfl | rfl | rfl | rfl | rfl | rfl | rfl | rfl | rfl | rfl <;> rfl
  push_cast[hi,hb]
  exact A1 (by push_cast[Nu.rs])
 ·have hi:((n:Int)<10)=False:=eq_false (by omega)
  rw[dif_neg h]
  have h1:=ih (n / 10) (by omega) (by omega)
  have h2:=ih (n % 10) (by omega) (by omega)
  have e1:IntKind.i64.wrap ((n:Int).tdiv 10)=((n / 10:Nat):Int):=by
   rw[Int.tdiv_eq_ediv_of_nonneg (by omega),Bq (by omega) (by omega)];omega
  have e2:(n:Int).tmod 10=((n % 10:Nat):Int):=by
   rw[Int.tmod_eq_emod_of_nonneg (by omega)];omega
  have h3:dig (n % 10)=[UInt8.ofNat (48+n % 10)]:=by
   unfold dig Lib.decDigits;rw[dif_pos (by omega)]
  have hcap:(dig (n / 10)).length+1<=BV:=by have:=Vy (n / 10);unfold BV;omega
  rw[h3]at h2
  push_cast[hi]
  rw[e1]
  refine .of h1 ?_
  push_cast
  rw[e2]
  refine .of h2 ?_
  push_cast[hcap]
  exact A1 (by push_cast[Nu.rs])
mutual
def AF (l:List Str):Term->List Str
 | .mk n v ar=>if v then (if n∈l then l else l++[n]) else BG l ar
def BG (l:List Str):List Term->List Str
 | []=>l
 | a::ar=>BG (AF l a) ar
end
theorem KN (l:List Str)(t:Term):AF l t=if t.var then (if t.name∈l then l else l++[t.name]) else BG l t.args:=by cases t;simp only[AF];rfl
theorem Pk:∀ (a b:List Term)(l:List Str),BG l (a++b)=BG (BG l a) b
 | [],b,l=>rfl
 | x::a,b,l=>by simp only[List.cons_append,BG,Pk a b]
theorem Pr (t:Term):∀ l:List Str,(AF l t).length<=l.length+size t:=by
 induction t using Af with
 | h t ih =>
 intro l
 have hst:=AH t
 rw[KN]
 split
 ·split
  ·omega
  ·simp;omega
 ·have key:∀ (ar:List Term)(l:List Str),(∀ a∈ar,a∈t.args)->(BG l ar).length<=l.length+Ab ar:=by
   intro ar
   induction ar with
   | nil=>intro l _;simp[BG,Ab]
   | cons a ar ihl =>
    intro l hl
    have h1:=ih a (hl a (by simp)) l
    have h2:=ihl (AF l a) fun b hb=>hl b (by simp[hb])
    simp only[BG,Ab]
    omega
  have:=key t.args l fun _ h=>h
  omega
theorem ah (ar:List Term)(l:List Str):(BG l ar).length<=l.length+Ab ar:=by
 induction ar generalizing l with
 | nil=>simp[BG,Ab]
 | cons a ar ih =>
  have h1:=Pr a l
  have h2:=ih (AF l a)
  simp only[BG,Ab];omega
theorem UE (t:Term):∀ l:List Str,l.length+size t<2^40->PF Jy [Ao t,Bl l] (Bl (AF l t)):=by
 induction t using Af with
 | h t ih =>
 intro l hl
 have hst:=AH t
 have hla:=Ai t.args
 refine Aa KB.ok rfl ?_
 rw[KN]
 cases hv:t.var with
 | true =>
  rw[if_pos rfl]
  have hH:=Uf l t.name (by omega)
  push_cast[hv]
  refine .of hH ?_
  by_cases hm:t.name∈l
  ·rw[Ub hm,if_pos hm]
   push_cast
   exact A1 (by push_cast[KB.rs])
  ·rw[Rh hm,if_neg hm]
   have hr1:l.length*16<=Ag:=by unfold Ag;omega
   have hr2:(l.length+1)*16<=Ag:=by unfold Ag;omega
   have ho:∀ i,(.own i 1 (l.map cS):V)=Bc cS i 1 l:=fun i=>rfl
   push_cast[hr1,hr2,ho,ai,List.length_map]
   exact A1 (by push_cast[KB.rs])
 | false =>
  rw[if_neg (by simp)]
  push_cast[hv]
  refine Ac (n:=t.args.length) (R:=fun k=>KB.L3 (Bl (BG l (t.args.take k))) (Bd t.args) (.int .i64 t.args.length) (.int .i64 k) 0 [] _) ?_ ?_ 0 (by omega)
  ·intro k hk ih2
   have hme:=A4 hk
   have h1:=ah (t.args.take k) l
   have h3:Ab (t.args.take (k+1))=Ab (t.args.take k)+size (t.args.getD k default):=by rw[A9 hk,Cb];simp[Ab]
   have h4:Ab t.args=Ab (t.args.take (k+1))+Ab (t.args.drop (k+1)):=by rw[<-Cb,List.take_append_drop]
   have hc:=ih _ hme (BG l (t.args.take k)) (by omega)
   rw[A9 hk,Pk]at ih2
   simp only[BG]at ih2
   refine A8.2 ?_
   push_cast[ilt hk]
   refine .of hc ?_
   push_cast[w64 (show k<2^62 by omega)]
   push_cast at ih2
   exact ih2
  ·refine A8.2 ?_
   push_cast[B6 (Nat.le_refl _)]
   exact A1 (by push_cast[KB.rs];rw[List.take_length])
def Cq (l:List Str):List Str:=l.foldl OI []
theorem LH {v:Str}:∀ (l m:List Str),v∈l.foldl OI m↔v∈m\/v∈l
 | [],m=>by simp
 | x::l,m=>by
  simp only[List.foldl_cons,LH l,Xh,List.mem_cons]
  constructor
  ·rintro ((h | h) | h)
   ·exact .inl h
   ·exact .inr (.inl h)
   ·exact .inr (.inr h)
  ·rintro (h | h | h)
   ·exact .inl (.inl h)
   ·exact .inl (.inr h)
   ·exact .inr h
theorem I1:∀ (l m:List Str),(l.foldl OI m).length<=m.length+l.length
 | [],m=>by simp
 | x::l,m=>by
  have:=I1 l (OI m x)
  have:=XE m x
  simp only[List.foldl_cons,List.length_cons];omega
theorem bc (l:List Str)(hl:l.length<2^38)(hn:∀ x∈l,x.length<2^62):PF Np [Bl l] (Bl (Cq l)):=by
 refine Aa NU.ok rfl ?_
 push_cast
 refine Ac (n:=l.length) (R:=fun k=>NU.L3 (Bl ((l.take k).foldl OI [])) (Bl l) (.int .i64 l.length) (.int .i64 k) 0 [] _) ?_ ?_ 0 (by omega)
 ·intro k hk ih
  have hm:=A4 hk
  have h1:=I1 (l.take k) []
  have h2:(l.take k).length<=k:=by simp;omega
  have hI:=RP ((l.take k).foldl OI []) (l.getD k default) (by simp only[List.length_nil]at h1;omega) (fun x hx=>by
   rcases (LH _ _).1 hx with h | h
   ·cases h
   ·exact hn x (List.mem_of_mem_take h)) (hn _ hm)
  rw[A9 hk,List.foldl_append]at ih
  simp only[List.foldl_cons,List.foldl_nil]at ih
  refine A8.2 ?_
  push_cast[ilt hk]
  refine .of hI ?_
  push_cast[w64 (show k<2^62 by omega)]
  push_cast at ih
  exact ih
 ·refine A8.2 ?_
  push_cast[B6 (Nat.le_refl _)]
  exact A1 (by push_cast[NU.rs];rw[List.take_length];rfl)
def IC (pre v:Str):Nat->List Str->List A6
 | _,[]=>[]
 | i,x::l=>(if x=v then [⟨v,BS (pre++dig i)⟩] else [])++IC pre v (i+1) l
def Ry (l:List Str)(pre:Str):List A6:=(Cq l).flatMap fun v=>IC pre v 0 l
theorem Se (pre v:Str):∀ (l:List Str)(i:Nat),(IC pre v i l).length<=l.length
 | [],i=>by simp[IC]
 | x::l,i=>by
  have:=Se pre v l (i+1)
  simp only[IC,List.length_append,List.length_cons]
  split <;> simp <;> omega
theorem eW {l:List Str}{F:Str->List A6}{m:Nat}(h:∀ v,(F v).length<=m):(l.flatMap F).length<=l.length*m:=by
 induction l with
 | nil=>simp
 | cons x l ih =>
  have:=h x
  simp only[List.flatMap_cons,List.length_append,List.length_cons,Nat.succ_mul];omega
theorem Zr (pre v:Str):∀ (l:List Str)(i k:Nat),k<l.length->IC pre v i (l.take (k+1))=IC pre v i (l.take k)++(if l.getD k default=v then [⟨v,BS (pre++dig (i+k))⟩] else [])
 | [],i,k,h=>by simp at h
 | x::l,i,0,h=>by simp[IC]
 | x::l,i,k+1,h=>by
  have:=Zr pre v l (i+1) k (by simpa using h)
  simp only[List.take_succ_cons,IC,this,List.getD_cons_succ]
  rw[show i+1+k=i+(k+1) by omega,List.append_assoc]
theorem P4 (l:List Str)(pre:Str)(hl:l.length<2^19)(hn:∀ x∈l,x.length<2^62)(hp:pre.length<2^20):PF I0 [Bl l,.str pre] (Bf (Ry l pre)):=by
 have hS:=bc l (by omega) hn
 have hsl:(Cq l).length<=l.length:=by have:=I1 l [];simpa[Cq]using this
 refine Aa Dq.ok rfl ?_
 push_cast
 refine .of hS ?_
 push_cast
 have hsq:l.length*l.length<=2^19*2^19:=Nat.mul_le_mul (by omega) (by omega)
 refine Ac (n:=(Cq l).length) (R:=fun k=>Dq.L6 (Bl l) (.str pre) (Bc cB 0 4 (((Cq l).take k).flatMap fun v=>IC pre v 0 l)) (Bl (Cq l)) (.int .i64 (Cq l).length) (.int .i64 k) 0 [.arr BX 4 (((Cq l).take k).flatMap fun v=>IC pre v 0 l).length] (Bv 0 Dq.rs fun x H=>x=Bf (Ry l pre)/\H=[])) ?_ ?_ 0 (by omega)
 ·intro k hk ih
  have hm:=A4 hk
  rw[A9 hk,List.flatMap_append]at ih
  simp only[List.flatMap_cons,List.flatMap_nil,List.append_nil]at ih
  have hbl:(((Cq l).take k).flatMap fun v=>IC pre v 0 l).length<=k*l.length:=by
   have h1:=eW (l:=(Cq l).take k) (F:=fun v=>IC pre v 0 l) (m:=l.length) fun v=>Se pre v l 0
   have h2:((Cq l).take k).length=k:=by simp;omega
   rw[h2]at h1;exact h1
  have hkl:k*l.length<=l.length*l.length:=Nat.mul_le_mul_right _ (by omega)
  generalize ((Cq l).take k).flatMap (fun v=>IC pre v 0 l)=B0 at ih hbl
  refine A8.2 ?_
  push_cast[ilt hk]
  generalize hv:(Cq l).getD k default=v at hm ih
  have inner:Dq.L4 (Bl l) (.str pre) (Bc cB 0 4 (B0++IC pre v 0 (l.take 0))) (.str v) (Bl (Cq l)) (.int .i64 (Cq l).length) (.int .i64 k) (Bl l) (.int .i64 l.length) (.int .i64 (0:Nat)) 0 [.arr BX 4 (B0++IC pre v 0 (l.take 0)).length] (Bv 0 Dq.rs fun x H=>x=Bf (Ry l pre)/\H=[]):=by
   refine Ac (n:=l.length) (R:=fun j=>Dq.L4 (Bl l) (.str pre) (Bc cB 0 4 (B0++IC pre v 0 (l.take j))) (.str v) (Bl (Cq l)) (.int .i64 (Cq l).length) (.int .i64 k) (Bl l) (.int .i64 l.length) (.int .i64 j) 0 [.arr BX 4 (B0++IC pre v 0 (l.take j)).length] (Bv 0 Dq.rs fun x H=>x=Bf (Ry l pre)/\H=[])) ?_ ?_ 0 (by omega)
   ·intro j hj ih2
    have hjl:=Se pre v (l.take j) 0
    have hjt:(l.take j).length<=l.length:=by simp;omega
    have htot:(B0++IC pre v 0 (l.take j)).length<2^40:=by simp only[List.length_append];omega
    rw[Zr pre v l 0 j hj]at ih2
    have hD:=ak j (by omega)
    refine A8.2 ?_
    generalize hx:l.getD j default=x at ih2
    by_cases e:x=v
    ·rw[if_pos e,<-List.append_assoc]at ih2
     generalize B0++IC pre v 0 (l.take j)=B1 at ih2 htot
     push_cast[ilt hj,hx,e]
     refine .of hD ?_
     have hcap:pre.length+(dig j).length<=BV:=by have:=Vy j;unfold BV;omega
     have hob:∀ i,(.own i 4 (B1.map cB++[[V.str v,V.str (pre++dig j),V.bool true,V.sl 3 []]]):V)=Bc cB i 4 (B1++[⟨v,BS (pre++dig (0+j))⟩]):=fun i=>by simp[Bc,cB,BS,cT,fy,YZ,Term.name,Term.var]
     push_cast[hcap,hob,TY htot (show 64<=64 by omega),w64 (show j<2^62 by omega)]
     push_cast at ih2
     first | exact ih2 | (trace_state;sorry)
    ·rw[if_neg e,List.append_nil]at ih2
     push_cast[ilt hj,hx,e,w64 (show j<2^62 by omega)]
     push_cast at ih2
     exact ih2
   ·refine A8.2 ?_
    push_cast[B6 (Nat.le_refl _),w64 (show k<2^62 by omega)]
    rw[List.take_length]
    push_cast at ih
    exact ih
  simp only[List.take_zero,IC,List.append_nil]at inner
  exact inner
 ·refine A8.2 ?_
  push_cast[B6 (Nat.le_refl _)]
  exact A1 (by push_cast[Dq.rs];rw[List.take_length];rfl)
end Go.Dw
end
section
namespace Go.Dw
def EG:List Str->Str->Option Nat
 | [],_=>none
 | x::l,v=>if x=v then some 0 else (EG l v).map (·+1)
theorem KC {l:List Str}{v:Str}:EG l v=none↔v∉l:=by
 induction l with
 | nil=>simp[EG]
 | cons x l ih =>
  simp only[EG]
  by_cases h:x=v
  ·simp[h]
  ·have h':v≠x:=fun e=>h e.symm
   rw[if_neg h];simp[ih,h']
theorem nJ {l m:List Str}{v:Str}(h:v∈l):EG (l++m) v=EG l v:=by
 induction l with
 | nil=>cases h
 | cons x l ih =>
  simp only[List.cons_append,EG]
  by_cases e:x=v
  ·rw[if_pos e,if_pos e]
  ·rw[if_neg e,if_neg e]
   rcases List.mem_cons.1 h with h | h
   ·exact absurd h.symm e
   ·rw[ih h]
theorem lh {l:List Str}{v:Str}(h:v∉l):EG (l++[v]) v=some l.length:=by
 induction l with
 | nil=>simp[EG]
 | cons x l ih =>
  simp only[List.mem_cons,not_or]at h
  simp only[List.cons_append,EG]
  rw[if_neg (fun e=>h.1 e.symm),ih h.2];rfl
def bv (pre:Str):Nat->List Str->NM
 | _,[]=>[]
 | i,v::l=>(v,pre++dig i)::bv pre (i+1) l
abbrev XW (pre:Str)(l:List Str):NM:=bv pre 0 l
theorem dE (pre:Str):∀ (l:List Str)(i:Nat),(bv pre i l).length=l.length
 | [],_=>rfl
 | v::l,i=>by simp[bv,dE pre l]
theorem TT (pre:Str)(v:Str):∀ (l:List Str)(i:Nat),C2 (bv pre i l) v=(EG l v).map fun j=>pre++dig (i+j)
 | [],i=>rfl
 | x::l,i=>by
  simp only[bv,C2,EG]
  by_cases h:x=v
  ·rw[if_pos h,if_pos h];rfl
  ·rw[if_neg h,if_neg h,TT pre v l (i+1)]
   cases EG l v with
   | none=>rfl
   | some j=>simp only[Option.map_some];rw[show i+1+j=i+(j+1) by omega]
theorem ZG (pre:Str)(v:Str):∀ (l:List Str)(i:Nat),bv pre i (l++[v])=bv pre i l++[(v,pre++dig (i+l.length))]
 | [],i=>rfl
 | x::l,i=>by
  simp only[List.cons_append,bv,ZG pre v l (i+1),List.length_cons]
  rw[show i+1+l.length=i+(l.length+1) by omega]
def rho (pre:Str)(l:List Str):Sub:=fun v=>BS (match EG l v with | some j=>pre++dig j | none=>v)
theorem sg {pre:Str}(hp:pre≠[])(l:List Str)(v:Str):Jx pre (XW pre l) v=(XW pre (if v∈l then l else l++[v]),(match EG (if v∈l then l else l++[v]) v with | some j=>pre++dig j | none=>v)):=by
 unfold Jx
 rw[TT]
 by_cases h:v∈l
 ·rw[if_pos h]
  cases hq:EG l v with
  | none=>exact absurd h (KC.1 hq)
  | some j =>
   have hne:pre++dig (0+j)≠[]:=fun e=>hp (List.append_eq_nil_iff.1 e).1
   simp only[Option.map_some,Option.getD_some]
   rw[if_neg hne,Nat.zero_add]
 ·rw[if_neg h]
  have hq:=KC.2 h
  rw[hq]
  simp only[Option.map_none,Option.getD_none,if_true]
  rw[lh h]
  have hk:C2 (XW pre l) v=none:=by rw[TT,hq];rfl
  rw[WS hk,dE]
  have e:XW pre (l++[v])=XW pre l++[(v,pre++dig l.length)]:=by
   have e:=ZG pre v l 0
   rw[Nat.zero_add]at e
   exact e
  rw[e]
def Rb (l:List Str)(t:Term):Prop:=∀ v,occ v t=true->v∈l
theorem Hl (t:Term):∀ l:List Str,(∃ m,AF l t=l++m)/\(vfl t=true->Rb (AF l t) t):=by
 induction t using Af with
 | h t ih =>
 intro l
 rw[KN]
 cases hv:t.var with
 | true =>
  rw[if_pos rfl]
  refine⟨?_,fun ht v ho=>?_⟩
  ·split
   ·exact⟨[],by simp⟩
   ·exact⟨_,rfl⟩
  ·have e:=(M2 ht hv).1 ho
   subst e
   split
   ·assumption
   ·simp
 | false =>
  rw[if_neg (by simp)]
  have key:∀ (ar:List Term)(l:List Str),(∀ a∈ar,a∈t.args)->(∃ m,BG l ar=l++m)/\((∀ a∈ar,vfl a=true)->∀ a∈ar,Rb (BG l ar) a):=by
   intro ar
   induction ar with
   | nil=>intro l _;exact⟨⟨[],by simp[BG]⟩,by simp⟩
   | cons a ar ihl =>
    intro l hl
    obtain⟨⟨m1,h1⟩,h2⟩:=ih a (hl a (by simp)) l
    obtain⟨⟨m2,h3⟩,h4⟩:=ihl (AF l a) fun b hb=>hl b (by simp[hb])
    simp only[BG]
    refine⟨⟨m1++m2,by rw[h3,h1,List.append_assoc]⟩,fun hvf b hb=>?_⟩
    rcases List.mem_cons.1 hb with rfl | hb
    ·intro v ho
     have:=h2 (hvf _ (by simp)) v ho
     rw[h3];exact List.mem_append_left _ this
    ·exact h4 (fun c hc=>hvf c (by simp[hc])) b hb
  obtain⟨h1,h2⟩:=key t.args l fun _ h=>h
  refine⟨h1,fun ht v ho=>?_⟩
  obtain⟨a,ha,ho⟩:=(LL hv).1 ho
  exact h2 (fun a ha=>BF ht ha) a ha v ho
theorem vI {pre:Str}{l m:List Str}{t:Term}(h:Rb l t):app (rho pre (l++m)) t=app (rho pre l) t :=
 DB t fun v hv=>by unfold rho;rw[nJ (h v hv)]
theorem Wt {pre:Str}(hp:pre≠[])(t:Term):∀ l:List Str,vfl t=true->GC pre (XW pre l) t=(XW pre (AF l t),app (rho pre (AF l t)) t):=by
 induction t using Af with
 | h t ih =>
 intro l ht
 rw[ZU,KN]
 cases hv:t.var with
 | true =>
  rw[if_pos rfl,if_pos rfl,sg hp,Av hv];rfl
 | false =>
  rw[if_neg (by simp),if_neg (by simp),B7 hv]
  have key:∀ (ar:List Term)(l:List Str),(∀ a∈ar,a∈t.args)->DR pre (XW pre l) ar=(XW pre (BG l ar),ar.map (app (rho pre (BG l ar)))):=by
   intro ar
   induction ar with
   | nil=>intro l _;rfl
   | cons a ar ihl =>
    intro l hl
    have hvf:∀ b∈a::ar,vfl b=true:=fun b hb=>BF ht (hl b hb)
    simp only[DR,BG]
    rw[ih a (hl a (by simp)) l (hvf a (by simp))]
    simp only
    rw[ihl (AF l a) fun b hb=>hl b (by simp[hb])]
    simp only[List.map_cons]
    have h1:=(Hl a l).2 (hvf a (by simp))
    have h2:∃ m,BG (AF l a) ar=AF l a++m:=by
     clear ihl hvf h1
     have:∀ (ar:List Term)(l:List Str),∃ m,BG l ar=l++m:=by
      intro ar
      induction ar with
      | nil=>intro l;exact⟨[],by simp[BG]⟩
      | cons b ar ihm =>
       intro l
       obtain⟨m1,e1⟩:=(Hl b l).1
       obtain⟨m2,e2⟩:=ihm (AF l b)
       exact⟨m1++m2,by simp only[BG];rw[e2,e1,List.append_assoc]⟩
     exact this ar _
    obtain⟨m,hm⟩:=h2
    rw[hm,vI h1]
  rw[key t.args l fun _ h=>h]
theorem R6 {a b:List A6}{v:Str}:Ad (a++b) v=(Ad a v).or (Ad b v):=by
 induction a with
 | nil=>simp[Ad]
 | cons x a ih =>
  simp only[List.cons_append,Ad]
  split
  ·rfl
  ·exact ih
theorem R0 {pre u v:Str}(h:u≠v):∀ (l:List Str)(i:Nat),Ad (IC pre u i l) v=none
 | [],i=>rfl
 | x::l,i=>by
  simp only[IC,R6]
  rw[R0 h l (i+1)]
  have h2:Ad (if x=u then [(⟨u,BS (pre++dig i)⟩:A6)] else []) v=none:=by
   split
   ·simp only[Ad];rw[if_neg h]
   ·rfl
  rw[h2];rfl
theorem Wx {pre v:Str}:∀ (l:List Str)(i:Nat),Ad (IC pre v i l) v=(EG l v).map fun j=>BS (pre++dig (i+j))
 | [],i=>rfl
 | x::l,i=>by
  simp only[IC,R6,EG]
  by_cases h:x=v
  ·rw[if_pos h,if_pos h];simp[Ad]
  ·rw[if_neg h,if_neg h,Wx l (i+1)]
   cases EG l v with
   | none=>rfl
   | some j=>simp only[Ad,Option.map_some,Option.none_or];rw[show i+1+j=i+(j+1) by omega]
theorem gX (l:List Str)(pre v:Str):Ad (Ry l pre) v=(EG l v).map fun j=>BS (pre++dig j):=by
 unfold Ry
 have key:∀ S:List Str,Ad (S.flatMap fun u=>IC pre u 0 l) v=if v∈S then (EG l v).map fun j=>BS (pre++dig j) else none:=by
  intro S
  induction S with
  | nil=>rfl
  | cons u S ih =>
   simp only[List.flatMap_cons,R6,ih]
   by_cases h:u=v
   ·subst h
    rw[Wx]
    simp only[List.mem_cons,true_or,if_true,Nat.zero_add]
    cases EG l u with
    | none=>simp
    | some j=>rfl
   ·have h':v≠u:=fun e=>h e.symm
    rw[R0 h]
    simp[h']
 rw[key]
 by_cases h:v∈l
 ·have h2:v∈Cq l:=(LH l []).2 (.inr h)
  rw[if_pos h2]
 ·rw[KC.2 h];split <;> rfl
theorem sm (s:List A6)(t:Term):AB s t=app (fun v=>(Ad s v).getD (BS v)) t:=by
 induction t using Af with
 | h t ih =>
 rw[Py]
 cases t with | mk n v l =>
 cases v with
 | true=>simp only[AB,Term.var,Term.name,if_true,BS]
 | false =>
  simp only[AB,Term.var,Term.name,Term.args,Zs,Bool.false_eq_true,if_false]
  congr 1
  exact List.map_congr_left fun a ha=>ih a ha
theorem U5 (l:List Str)(pre:Str)(t:Term):AB (Ry l pre) t=app (rho pre l) t:=by
 rw[sm]
 refine DB t fun v _=>?_
 rw[gX]
 unfold rho
 cases EG l v <;> rfl
def Cc (pre:Str)(x:A2):A2:=⟨app (rho pre (AF [] x.left)) x.left,app (rho pre (AF [] x.left)) x.right⟩
theorem bu {l:List Str}(t:Term):Rb l t->vfl t=true->AF l t=l:=by
 induction t using Af generalizing l with
 | h t ih =>
 intro h ht
 rw[KN]
 cases hv:t.var with
 | true=>rw[if_pos rfl,if_pos (h _ ((M2 ht hv).2 rfl))]
 | false =>
  rw[if_neg (by simp)]
  have key:∀ (ar:List Term),(∀ a∈ar,a∈t.args)->BG l ar=l:=by
   intro ar
   induction ar with
   | nil=>intro _;rfl
   | cons a ar ihl =>
    intro hl
    simp only[BG]
    rw[ih a (hl a (by simp)) (fun v hv'=>h v ((LL hv).2 ⟨a,hl a (by simp),hv'⟩)) (BF ht (hl a (by simp)))]
    exact ihl fun b hb=>hl b (by simp[hb])
  exact key t.args fun _ h=>h
theorem Z7 {pre:Str}(hp:pre≠[]){x:A2}(hl:vfl x.left=true)(hr:vfl x.right=true)(hx:∀ v,occ v x.right=true->occ v x.left=true):sr pre x=Cc pre x:=by
 unfold sr Cc
 have e1:=Wt hp x.left [] hl
 have e0:XW pre []=[]:=rfl
 rw[e0]at e1
 rw[e1]
 simp only
 rw[Wt hp x.right _ hr]
 have hs:Rb (AF [] x.left) x.right:=fun v hv=>(Hl x.left []).2 hl v (hx v hv)
 rw[bu x.right hs hr]
end Go.Dw
end
section
namespace Go.Dw
theorem UI {s:List A6}{t:Term}(ht:tb t<2^24)(hs:bbs s<2^34):size (AB s t)<=2^60:=by
 have h1:=lF s t
 have h2:=AQ t
 have:size t*(1+bbs s)<=2^24*2^35:=Nat.mul_le_mul (by omega) (by omega)
 omega
theorem Vb (s:List A6)(hs:Dp s)(hb:bbs s<2^34)(t:Term)(ht:tb t<2^24):PF Iz [Bf s,Ao t] (.agg [.int .i64 (size (AB s t)),.int .i64 (depth (AB s t))]):=by
 have hl:=R3 s
 induction t using Af with
 | h t ih =>
 have hI:=SL s t.name hs (by omega)
 have htb:=Kn t
 have hlt:=GO t.args
 have hsm:=UI ht hb
 refine Aa Gr.ok rfl ?_
 cases hv:t.var with
 | true =>
  push_cast[hv]
  refine .of hI ?_
  rw[HV,hv]
  cases hx:Ad s t.name with
  | some x =>
   have h1:=RD hx
   have h2:=AQ x
   push_cast[UQ]
   refine .of (UF x (by omega)) ?_
   push_cast
   refine .of (SR x (by omega)) ?_
   push_cast
   refine A1 ?_
   push_cast[Gr.rs]
   exact⟨rfl,rfl⟩
  | none =>
   push_cast[UQ]
   refine A1 ?_
   push_cast[Gr.rs]
   exact⟨rfl,rfl⟩
 | false =>
  have he:AB s t=.mk t.name false (t.args.map (AB s)):=by rw[HV,hv];rfl
  rw[he]at hsm
  rw[he]
  simp only[size]at hsm
  have hd:=DW (t.args.map (AB s))
  push_cast[hv]
  refine Ac (n:=t.args.length) (R:=fun k=>Gr.L3 (Bf s) (.ptr 0 0) (.ptr 1 0) (Bd t.args) (.int .i64 t.args.length) (.int .i64 k) 0
   [.cells Gn [.int .i64 0,.int .i64 0],.cells Gn [.int .i64 (1+Ab ((t.args.take k).map (AB s)):Nat),.int .i64 (AA ((t.args.take k).map (AB s)):Nat)]] _) ?_ ?_ 0 (by omega)
  ·intro k hk ih2
   have hm:=A4 hk
   have hs1:Ab ((t.args.take (k+1)).map (AB s))=Ab ((t.args.take k).map (AB s))+size (AB s (t.args.getD k default)):=by
    rw[A9 hk,List.map_append,Cb];simp[Ab]
   have hd1:AA ((t.args.take (k+1)).map (AB s))=max (AA ((t.args.take k).map (AB s))) (depth (AB s (t.args.getD k default))):=by
    rw[A9 hk,List.map_append,Ei];simp[AA]
   have hle:Ab ((t.args.take (k+1)).map (AB s))<=Ab (t.args.map (AB s)):=by
    rw[List.map_take];exact Ek _ _
   have htm:=O4 hm
   rw[hs1,hd1]at ih2
   refine A8.2 ?_
   push_cast[ilt hk]
   refine .of (ih _ hm (by omega)) ?_
   push_cast[w64 (show k<2^62 by omega)]
   rw[Bq (by omega) (by omega),Int.add_assoc]
   push_cast at ih2
   exact ih2
  ·refine A8.2 ?_
   push_cast[B6 (Nat.le_refl _)]
   refine A1 ?_
   rw[Bq (by rw[List.take_length];omega) (by rw[List.take_length];omega)]
   push_cast[Gr.rs,size,depth,List.take_length]
theorem IS (s:List A6)(hs:Dp s)(hb:bbs s<2^34)(t:Term)(ht:tb t<2^24):PF Fj [Bf s,Ao t] (if BK (AB s t) then Gv (some (AB s t)) 0 else Gv none 3):=by
 rw[<-mz]
 refine Aa GA.ok rfl ?_
 push_cast
 refine .of (Vb s hs hb t ht) ?_
 by_cases h1:4000<size (AB s t)
 ·have h1':((4000:Int)<(size (AB s t):Int))=True:=eq_true (by omega)
  push_cast[h1']
  refine A1 ?_
  push_cast[GA.rs]
  rw[if_pos (.inl h1)];rfl
 ·have h1':((4000:Int)<(size (AB s t):Int))=False:=eq_false (by omega)
  by_cases h2:200<depth (AB s t)
  ·have h2':((200:Int)<(depth (AB s t):Int))=True:=eq_true (by omega)
   push_cast[h1',h2']
   refine A1 ?_
   push_cast[GA.rs]
   rw[if_pos (.inr h2)];rfl
  ·have h2':((200:Int)<(depth (AB s t):Int))=False:=eq_false (by omega)
   push_cast[h1',h2']
   refine .of (Xp s hs (by omega) t (by omega)) ?_
   push_cast
   refine A1 ?_
   push_cast[GA.rs]
   rw[if_neg (by omega)];rfl
theorem aT (s:List A6)(hl:s.length<2^62)(hs:bbs s<2^34)(t:Term)(ht:tb t<2^24):PF LY [Bf s,Ao t] (.tup [.int .i64 (size (AB s t)),.int .i64 (depth (AB s t))]):=by
 induction t using Af with
 | h t ih =>
 have hst:=AH t
 have htb:=Kn t
 have hll:=Ai t.args
 have hz:=AQ t
 have hsm:=UI ht hs
 refine Aa MN.ok rfl ?_
 cases hv:t.var with
 | true =>
  have he:AB s t=(Ad s t.name).getD (.mk t.name true []):=by rw[HV,if_pos hv]
  rw[he]at hsm ⊢
  push_cast[hv]
  refine .of (Mf s t.name hl) ?_
  push_cast
  refine .of (Rt _ (by omega)) ?_
  push_cast
  refine .of (Ph _ (by omega)) ?_
  push_cast
  exact A1 (by push_cast[MN.rs])
 | false =>
  have he:AB s t=.mk t.name false (t.args.map (AB s)):=by rw[HV,hv];rfl
  rw[he]at hsm ⊢
  have hs1:size (Term.mk t.name false (t.args.map (AB s)))=1+Ab (t.args.map (AB s)):=by simp[size]
  have hd1:depth (Term.mk t.name false (t.args.map (AB s)))=AA (t.args.map (AB s))+1:=by simp[depth]
  have hds:=DW (t.args.map (AB s))
  rw[hs1]at hsm
  rw[hs1,hd1]
  push_cast[hv]
  refine Ac (n:=t.args.length) (R:=fun k=>MN.L3 (Bf s) (.int .i64 (1+Ab ((t.args.take k).map (AB s)):Nat)) (.int .i64 (AA ((t.args.take k).map (AB s)):Nat)) (Bd t.args) (.int .i64 t.args.length) (.int .i64 k) 0 [] _) ?_ ?_ 0 (by omega)
  ·intro k hk ih2
   have hm:=A4 hk
   have hm2:=O4 hm
   have hsum:Ab ((t.args.take k).map (AB s))+size (AB s (t.args.getD k default))<=Ab (t.args.map (AB s)):=by
    have:Ab ((t.args.take (k+1)).map (AB s))<=Ab (t.args.map (AB s)):=by rw[List.map_take];exact Ek _ _
    rw[A9 hk,List.map_append,Cb]at this
    simpa[Ab]using this
   rw[A9 hk,List.map_append,List.map_singleton,Cb,Ei]at ih2
   simp only[Ab,AA,Nat.add_zero,Nat.max_zero]at ih2
   refine A8.2 ?_
   push_cast[ilt hk]
   refine .of (ih _ hm (by omega)) ?_
   push_cast[w64 (show k<2^62 by omega)]
   rw[Bq (by omega) (by omega)]
   push_cast at ih2
   simpa[Int.add_assoc]using ih2
  ·refine A8.2 ?_
   push_cast[B6 (Nat.le_refl _),List.take_length]
   rw[Bq (by omega) (by omega)]
   refine A1 ?_
   push_cast[MN.rs]
theorem PJ (s:List A6)(hl:s.length<2^62)(hs:bbs s<2^34)(t:Term)(ht:tb t<2^24):PF LG [Bf s,Ao t] (.bool (BK (AB s t))):=by
 refine Aa Sv.ok rfl ?_
 push_cast
 refine .of (aT s hl hs t ht) ?_
 by_cases h:size (AB s t)<=4000
 ·have hi:((size (AB s t):Int)<=4000)=True:=eq_true (by omega)
  push_cast[hi]
  exact A1 (by push_cast[Sv.rs,BK,h];simp;omega)
 ·have hi:((size (AB s t):Int)<=4000)=False:=eq_false (by omega)
  push_cast[hi]
  exact A1 (by push_cast[Sv.rs,BK,h])
end Go.Dw
end
section
namespace Go.Dw
abbrev EW:Unit->V:=fun _=>.bool true
abbrev TM:=List (Str×Term)
abbrev DM:=List (Key×Unit)
abbrev SM:=List (Str×Unit)
abbrev uHl (m:TM)(d:DM)(l:List Ob):List Ob:=.map (Bh Ao m)::.map (Gl EW d)::.cells B3 [.map 0,.map 1]::l
abbrev uH (m:TM)(d:DM):List Ob:=uHl m d []
theorem kj {σ:Nat->Option Nat}(m:TM):((Bh Ao m).map fun p=>(ren σ p.1,ren σ p.2))=Bh Ao m:=SQ (fun x=>eJ x) m
theorem lW {σ:Nat->Option Nat}(m:SM):((Bh EW m).map fun p=>(ren σ p.1,ren σ p.2))=Bh EW m:=SQ (fun x=>rfl) m
theorem kU {σ:Nat->Option Nat}(m:DM):((Gl EW m).map fun p=>(ren σ p.1,ren σ p.2))=Gl EW m:=rL (fun x=>rfl) m
attribute [push_cast] kj lW kU
theorem Gw (m:TM)(d:DM):ID 3 (uH m d):=⟨rfl,by
 show [A5 (AK 3) (.map (Bh Ao m)),A5 (AK 3) (.map (Gl EW d)),A5 (AK 3) (.cells B3 [.map 0,.map 1])]=_
 have h0:AK 3 0=some 0:=rfl
 have h1:AK 3 1=some 1:=rfl
 push_cast[h0,h1]⟩
section
variable {s:List A6} {m:TM} (d:DM) (hm:∀ v,C2 m v = Ad s v)
include hm
theorem Q1 {v:Str}{x:Term}(h:Ad s v=some x):∀ l,Ly (.map (Bh Ao m)::l) true true (.agg [.str [],.bool false,.sl 3 []]) (.map 0) (.str v)=some (.tup [Ao x,.bool true]):=fun l=>by
 have:=Ky Ao m v true (.agg [.str [],.bool false,.sl 3 []]) (H:=.map (Bh Ao m)::l) (i:=0) rfl
 rw[hm,h]at this;exact this
theorem VC {v:Str}(h:Ad s v=none):∀ l,Ly (.map (Bh Ao m)::l) true true (.agg [.str [],.bool false,.sl 3 []]) (.map 0) (.str v)=some (.tup [.agg [.str [],.bool false,.sl 3 []],.bool false]):=fun l=>by
 have:=Ky Ao m v true (.agg [.str [],.bool false,.sl 3 []]) (H:=.map (Bh Ao m)::l) (i:=0) rfl
 rw[hm,h]at this;exact this
theorem Sw (n:Nat)(t h:Term)(hh:DE n s t=some h):Spec prog Cn [.ptr 2 0,Ao t] (uH m d) fun x H'=>x=Ao h/\H'=uH m d:=by
 refine AJ mixed F3.ok rfl ?_
 have key:∀ (n:Nat)(t:Term),DE n s t=some h->F3.L3 (.ptr 2 0) (.ptr 3 0) (.ptr 4 0) 3 (uHl m d [.cells A3 (cT t),.cells A3 [.str [],.bool false,.sl 3 []]]) (Bv 3 F3.rs fun x' H'=>x'=Ao h/\H'=uH m d):=by
  intro n
  induction n with
  | zero=>intro t h;cases h
  | succ n ih =>
   intro t ht
   simp only[DE]at ht
   refine A8.2 ?_
   cases hv:t.var with
   | false =>
    rw[if_neg (by simp[hv])]at ht
    cases ht
    push_cast[hv]
    exact Am (H:=uH m d) (J:=[_,_]) (Gw m d) rfl ⟨by push_cast,rfl⟩
   | true =>
    rw[if_pos hv]at ht
    cases hi:Ad s t.name with
    | none =>
     rw[hi]at ht
     cases ht
     push_cast[hv,VC hm hi]
     exact Am (H:=uH m d) (J:=[_,_,_]) (Gw m d) rfl ⟨by push_cast,rfl⟩
    | some x =>
     rw[hi]at ht
     push_cast[hv,Q1 hm hi]
     exact ih x ht
 push_cast
 exact key n t hh
def Ni (s:List A6)(v:Str):Nat->SM->Term->SM×Bool
 | 0,σ,_=>(σ,false)
 | n+1,σ,t=>if t.var then (if t.name=v then (σ,true) else match Ad s t.name with
   | none=>(σ,false)
   | some x=>if (C2 σ t.name).isSome then (σ,false) else Ni s v n (F8 σ t.name ()) x)
  else stF (Ni s v n) σ t.args
abbrev oH (m:TM)(d:DM)(σ:SM):List Ob:=uHl m d [.map (Bh EW σ)]
abbrev oJ (m:TM)(d:DM)(σ:SM):List Ob:=uHl m d [.map (Bh EW σ),.cells Ih [.ptr 2 0],.cells Dh [.map 3]]
omit hm in
theorem VG (m:TM)(d:DM)(σ:SM):ID 4 (oH m d σ):=⟨rfl,by
 show [A5 (AK 4) (.map (Bh Ao m)),A5 (AK 4) (.map (Gl EW d)),A5 (AK 4) (.cells B3 [.map 0,.map 1]),A5 (AK 4) (.map (Bh EW σ))]=_
 have h0:AK 4 0=some 0:=rfl
 have h1:AK 4 1=some 1:=rfl
 push_cast[h0,h1]⟩
omit hm in
theorem pf (m:TM)(d:DM)(σ:SM)(J:List Ob):give [0,1,2,3] (uHl m d (.map (Bh EW σ)::J))=oH m d σ:=by
 show [A5 (Aw [0,1,2,3]) (.map (Bh Ao m)),A5 (Aw [0,1,2,3]) (.map (Gl EW d)),A5 (Aw [0,1,2,3]) (.cells B3 [.map 0,.map 1]),A5 (Aw [0,1,2,3]) (.map (Bh EW σ))]=_
 have h0:Aw [0,1,2,3] 0=some 0:=rfl
 have h1:Aw [0,1,2,3] 1=some 1:=rfl
 push_cast[h0,h1]
omit hm in
theorem Aal (m:TM)(d:DM)(σ σ':SM)(a b:Ob):takeB [0,1,2,3] (uHl m d [.map (Bh EW σ),a,b]) (oH m d σ')=uHl m d [.map (Bh EW σ'),a,b]:=by
 show [A5 (BT [0,1,2,3] 6) (.map (Bh Ao m)),A5 (BT [0,1,2,3] 6) (.map (Gl EW d)),A5 (BT [0,1,2,3] 6) (.cells B3 [.map 0,.map 1]),A5 (BT [0,1,2,3] 6) (.map (Bh EW σ')),a,b]=_
 have h0:BT [0,1,2,3] 6 0=some 0:=rfl
 have h1:BT [0,1,2,3] 6 1=some 1:=rfl
 push_cast[h0,h1]
omit hm in
section
variable {N:Nat->C} {B:Nat} {k:List K} {t:T} {Q:X->T->List Ob->Prop} {dd:Option Nat} {l:List S} {f:Nat} {v:Str} {z:Term} {b:Bool} {σ σ':SM} {m:TM} {d:DM} {a c:Ob}
theorem uL (h:Spec prog f [.ptr 2 0,.str v,Ao z,.map 3] (oH m d σ) fun x' H'=>x'=.bool b/\H'=oH m d σ')(k':Run prog N B (.r l::k) (Ez dd (.bool b) t) (uHl m d [.map (Bh EW σ'),a,c]) Q):Bt prog N B dd l k t Q (.func f) [.ptr 2 0,.str v,Ao z,.map 3] (uHl m d [.map (Bh EW σ),a,c]):=by
 have h2:Aw [0,1,2,3] 2=some 2:=rfl
 have h3:Aw [0,1,2,3] 3=some 3:=rfl
 refine Bt.some [0,1,2,3] (by simp) (by simp) (R:=fun x' H'=>x'=.bool b/\H'=oH m d σ') (by rw[pf];push_cast[h2,h3];exact h) ?_
 rintro x' H' ⟨rfl,rfl⟩ _
 rw[Aal];exact k'
end
omit hm in
theorem vy (m:TM)(d:DM)(σ σ':SM)(a b c:Ob):takeB [0,1,2,3] (uHl m d [.map (Bh EW σ),a,b,c]) (oH m d σ')=uHl m d [.map (Bh EW σ'),a,b,c]:=by
 show [A5 (BT [0,1,2,3] 7) (.map (Bh Ao m)),A5 (BT [0,1,2,3] 7) (.map (Gl EW d)),A5 (BT [0,1,2,3] 7) (.cells B3 [.map 0,.map 1]),A5 (BT [0,1,2,3] 7) (.map (Bh EW σ')),a,b,c]=_
 have h0:BT [0,1,2,3] 7 0=some 0:=rfl
 have h1:BT [0,1,2,3] 7 1=some 1:=rfl
 push_cast[h0,h1]
omit hm in
section
variable {N:Nat->C} {B:Nat} {k:List K} {t:T} {Q:X->T->List Ob->Prop} {dd:Option Nat} {l:List S} {f:Nat} {v:Str} {z:Term} {b:Bool} {σ σ':SM} {m:TM} {d:DM} {a c e:Ob}
theorem qL (h:Spec prog f [.ptr 2 0,.str v,Ao z,.map 3] (oH m d σ) fun x' H'=>x'=.bool b/\H'=oH m d σ')(k':Run prog N B (.r l::k) (Ez dd (.bool b) t) (uHl m d [.map (Bh EW σ'),a,c,e]) Q):Bt prog N B dd l k t Q (.func f) [.ptr 2 0,.str v,Ao z,.map 3] (uHl m d [.map (Bh EW σ),a,c,e]):=by
 have h2:Aw [0,1,2,3] 2=some 2:=rfl
 have h3:Aw [0,1,2,3] 3=some 3:=rfl
 refine Bt.some [0,1,2,3] (by simp) (by simp) (R:=fun x' H'=>x'=.bool b/\H'=oH m d σ') (by rw[pf];push_cast[h2,h3];exact h) ?_
 rintro x' H' ⟨rfl,rfl⟩ _
 rw[vy];exact k'
end
omit hm in
theorem Tj {m:TM}{d:DM}{σ σ':SM}{v:Str}{a:Term}{b:Bool}(h:Spec prog BZ [.ptr 2 0,.str v,Ao a,.map 3] (oH m d σ) fun x H'=>x=.bool b/\H'=oH m d σ') :
  Spec prog D0 [Ao a,.ptr 4 0,.ro [.str v] 0,.ptr 5 0] (oJ m d σ) fun x H'=>x=.bool b/\H'=oJ m d σ':=by
 refine AJ mixed Ii.ok rfl ?_
 push_cast
 refine uL h ?_
 push_cast
 exact Dl (.inl rfl) rfl ⟨rfl,rfl⟩
theorem XF (hw:∀ v x,Ad s v=some x->D6 x<2^40)(v:Str):∀ (n:Nat)(t:Term)(σ:SM),FG s n t->D6 t<2^40->Spec prog BZ [.ptr 2 0,.str v,Ao t,.map 3] (oH m d σ) fun x H'=>x=.bool (Ni s v n σ t).2/\H'=oH m d (Ni s v n σ t).1:=by
 intro n
 induction n with
 | zero=>intro t σ h;exact h.elim
 | succ n ih =>
  intro t σ hn ht
  simp only[FG]at hn
  refine AJ mixed JR.ok rfl ?_
  unfold Ni
  cases hv:t.var with
  | true =>
   rw[if_pos rfl]
   rw[if_pos hv]at hn
   by_cases hz:t.name=v
   ·rw[if_pos hz]
    push_cast[hv,hz]
    exact Am (H:=oH m d σ) (J:=[_,_]) (VG m d σ) rfl ⟨rfl,rfl⟩
   ·rw[if_neg hz]
    have hz2:(t.name == v)=false:=by simpa using hz
    cases hi:Ad s t.name with
    | none =>
     push_cast[hv,hz,hz2,VC hm hi]
     exact Am (H:=oH m d σ) (J:=[_,_,_]) (VG m d σ) rfl ⟨rfl,rfl⟩
    | some x =>
     have hlk:∀ l,_:=fun l=>Ky EW σ t.name false (.bool false) (H:=uHl m d (.map (Bh EW σ)::l)) (i:=3) rfl
     have hup:=PO EW σ t.name ()
     have hok:=ih x (F8 σ t.name ()) (hn x hi) (hw _ _ hi)
     cases hg:C2 σ t.name with
     | some u =>
      rw[hg]at hlk
      simp only[Option.map_some,Option.getD_some]at hlk
      push_cast[hv,hz,hz2,Q1 hm hi,hlk]
      exact Am (H:=oH m d σ) (J:=[_,_,_]) (VG m d σ) rfl ⟨rfl,rfl⟩
     | none =>
      rw[hg]at hlk
      simp only[Option.map_none,Option.getD_none]at hlk
      push_cast[hv,hz,hz2,Q1 hm hi,hlk,hup]
      refine⟨rfl,qL hok ?_⟩
      push_cast
      exact Am (H:=oH m d (Ni s v n (F8 σ t.name ()) x).1) (J:=[_,_,_]) (VG m d _) rfl ⟨rfl,rfl⟩
  | false =>
   rw[if_neg (by simp)]
   rw[if_neg (by simp[hv])]at hn
   push_cast[hv]
   have hwa:=DV t
   have hC:=On (F:=Ni s v n) (Hs:=oJ m d) (Inv:=fun _=>True) (g:=D0) (n:=6) (caps:=[.ptr 4 0,.ro [.str v] 0,.ptr 5 0]) (fun _=>rfl) rfl
    (fun σ=>by
     show [A5 (AK 6) (.map (Bh Ao m)),A5 (AK 6) (.map (Gl EW d)),A5 (AK 6) (.cells B3 [.map 0,.map 1]),A5 (AK 6) (.map (Bh EW σ)),A5 (AK 6) (.cells Ih [.ptr 2 0]),A5 (AK 6) (.cells Dh [.map 3])]=_
     have h0:AK 6 0=some 0:=rfl
     have h1:AK 6 1=some 1:=rfl
     have h2:AK 6 2=some 2:=rfl
     have h3:AK 6 3=some 3:=rfl
     push_cast[h0,h1,h2,h3])
    t.args (by omega) (fun a ha σ _=>Tj (ih a σ (hn a ha) (by have:=Sn ha;omega))) (fun _ _ _ _ _=>trivial) σ trivial
   refine Bt.all (R:=fun x H'=>x=.bool (stF (Ni s v n) σ t.args).2/\H'=oJ m d (stF (Ni s v n) σ t.args).1) hC ?_
   rintro x H' ⟨rfl,rfl⟩
   push_cast
   exact Am (H:=oH m d _) (J:=[_,_]) (VG m d _) rfl ⟨rfl,rfl⟩
omit hm in
theorem eE {F:SM->Term->SM×Bool}:∀ (l:List Term)(σ:SM),(stF F σ l).2=true->∃ a∈l,∃ σ',(F σ' a).2=true
 | [],σ,h=>by cases h
 | a::l,σ,h=>by
  unfold stF at h
  by_cases h1:(F σ a).2=true
  ·exact⟨a,by simp,σ,h1⟩
  ·rw[if_neg h1]at h
   obtain⟨b,hb,h2⟩:=eE l _ h
   exact⟨b,by simp[hb],h2⟩
omit hm in
theorem U9 {v:Str}:∀ (n:Nat)(σ:SM)(t:Term),(Ni s v n σ t).2=true->Occ s v t
 | 0,σ,t,h=>by cases h
 | n+1,σ,t,h=>by
  unfold Ni at h
  cases hv:t.var with
  | true =>
   rw[if_pos hv]at h
   by_cases hz:t.name=v
   ·exact .here hv hz
   ·rw[if_neg hz]at h
    cases hi:Ad s t.name with
    | none=>rw[hi]at h;cases h
    | some x =>
     rw[hi]at h
     simp only at h
     split at h
     ·cases h
     ·exact .bound hv hi (U9 n _ x h)
  | false =>
   rw[if_neg (by simp[hv])]at h
   obtain⟨a,ha,σ',h1⟩:=eE _ _ h
   exact .arg hv ha (U9 n σ' a h1)
omit hm in
theorem Z8 {F:SM->Term->SM×Bool}{P:Term->Prop}{Q:SM->Prop}:∀ (l:List Term)(σ:SM),Q σ->(∀ a∈l,∀ σ,Q σ->(F σ a).2=false->P a/\Q (F σ a).1)->(stF F σ l).2=false->(∀ a∈l,P a)/\Q (stF F σ l).1
 | [],σ,hq,_,h=>⟨by simp,hq⟩
 | a::l,σ,hq,hs,h=>by
  unfold stF at h ⊢
  by_cases h1:(F σ a).2=true
  ·rw[if_pos h1]at h;cases h
  ·rw[if_neg h1]at h ⊢
   obtain⟨h2,h3⟩:=hs a (by simp) σ hq (by simpa using h1)
   obtain⟨h4,h5⟩:=Z8 l _ h3 (fun b hb=>hs b (by simp[hb])) h
   exact⟨fun b hb=>by rcases List.mem_cons.1 hb with rfl | hb;exact h2;exact h4 b hb,h5⟩
omit hm in
theorem UR {v w:Str}{x:Term}(hw:w≠v)(hi:Ad s w=some x)(h:¬ Occ s v x):¬ Occ s v (BS w):=by
 intro ho
 cases ho with
 | here _ h2=>exact hw h2
 | bound _ h2 h3=>rw[show (BS w).name=w from rfl,hi]at h2;cases h2;exact h h3
 | arg h1 _ _=>cases h1
omit hm in
theorem Ra {σ':Sub}{rk:Str->Nat}(hu:UOk s σ' rk){v:Str}:∀ (n:Nat)(σ:SM)(t:Term)(R:Nat),FG s n t->vfl t=true->(∀ u,occ u t=true->rk u<R)->(∀ w,(C2 σ w).isSome=true->¬ Occ s v (BS w)\/R<=rk w)->(Ni s v n σ t).2=false ->
  ¬ Occ s v t/\∀ w,(C2 (Ni s v n σ t).1 w).isSome=true->(C2 σ w).isSome=true\/¬ Occ s v (BS w)
 | 0,σ,t,R,h,_,_,_,_=>h.elim
 | n+1,σ,t,R,hn,ht,hR,hσ,h=>by
  simp only[FG]at hn
  unfold Ni at h ⊢
  cases hv:t.var with
  | true =>
   rw[if_pos hv]at h hn
   rw[if_pos rfl]
   have hocc:occ t.name t=true:=AC.2 (.inl ⟨hv,rfl⟩)
   have htv:=Q0 ht hv
   by_cases hz:t.name=v
   ·rw[if_pos hz]at h;cases h
   ·rw[if_neg hz]at h ⊢
    cases hi:Ad s t.name with
    | none =>
     refine⟨fun ho=>?_,fun w hw=>.inl hw⟩
     cases ho with
     | here _ h2=>exact hz h2
     | bound _ h2 _=>rw[hi]at h2;cases h2
     | arg h1 _ _=>rw[hv]at h1;cases h1
    | some x =>
     rw[hi]at h
     simp only at h ⊢
     by_cases hg:(C2 σ t.name).isSome=true
     ·rw[if_pos hg]
      rcases hσ _ hg with h1 | h1
      ·exact⟨by rw[htv];exact h1,fun w hw=>.inl hw⟩
      ·have:=hR _ hocc;omega
     ·rw[if_neg hg]at h ⊢
      obtain⟨h1,h2⟩:=Ra hu n (F8 σ t.name ()) x (rk t.name) (hn x hi) (hu.vf _ _ hi) (hu.low _ _ hi) (fun w hw=>by
       rw[Hy]at hw
       by_cases e:t.name=w
       ·exact .inr (by rw[e];exact Nat.le_refl _)
       ·rw[if_neg e]at hw
        rcases hσ w hw with h3 | h3
        ·exact .inl h3
        ·exact .inr (by have:=hR _ hocc;omega)) h
      have h3:=UR hz hi h1
      refine⟨by rw[htv];exact h3,fun w hw=>?_⟩
      rcases h2 w hw with h4 | h4
      ·rw[Hy]at h4
       by_cases e:t.name=w
       ·exact .inr (e▸h3)
       ·rw[if_neg e]at h4;exact .inl h4
      ·exact .inr h4
  | false =>
   rw[if_neg (by simp[hv])]at h hn
   rw[if_neg (by simp)]
   obtain⟨h1,h2⟩:=Z8 (P:=fun a=>¬ Occ s v a) (Q:=fun τ=>∀ w,(C2 τ w).isSome=true->(C2 σ w).isSome=true\/¬ Occ s v (BS w)) t.args σ (fun w hw=>.inl hw)
    (fun a ha τ hτ hf=>by
     obtain⟨h3,h4⟩:=Ra hu n τ a R (hn a ha) (BF ht ha) (fun u hu'=>hR u (AC.2 (.inr ⟨a,ha,hu'⟩))) (fun w hw=>by
      rcases hτ w hw with h5 | h5
      ·exact hσ w h5
      ·exact .inl h5) hf
     refine⟨h3,fun w hw=>?_⟩
     rcases h4 w hw with h5 | h5
     ·exact hτ w h5
     ·exact .inr h5) h
   refine⟨fun ho=>?_,h2⟩
   cases ho with
   | here h3 _=>rw[hv]at h3;cases h3
   | bound h3 _ _=>rw[hv]at h3;cases h3
   | arg _ h3 h4=>exact h1 _ h3 h4
omit hm in
theorem tN {σ':Sub}{rk:Str->Nat}(hu:UOk s σ' rk){v:Str}{n:Nat}{t:Term}(hn:FG s n t)(ht:vfl t=true):(Ni s v n [] t).2=true↔Occ s v t:=by
 constructor
 ·exact U9 n [] t
 ·intro ho
  obtain⟨M,hM⟩:=Xj rk t
  cases h:(Ni s v n [] t).2 with
  | true=>rfl
  | false=>exact absurd ho (Ra hu n [] t (M+1) hn ht (fun u h=>by have:=hM u h;omega) (fun w hw=>by cases hw) h).1
theorem Ul {σ':Sub}{rk:Str->Nat}(hu:UOk s σ' rk)(hw:∀ v x,Ad s v=some x->D6 x<2^40)(v:Str)(t:Term)(ht:vfl t=true)(hwt:D6 t<2^40) :
  Spec prog Eu [.ptr 2 0,.str v,Ao t] (uH m d) fun x H'=>x=.bool (LA s v t).2/\H'=uH (if (LA s v t).2 then F8 m v t else m) d:=by
 obtain⟨n,hn⟩:=hu.need t
 have hO:=XF d hm hw v n t [] hn hwt
 have hup:=PO Ao m v t
 refine AJ mixed Mc.ok rfl ?_
 push_cast
 refine Bt.all (R:=fun x H'=>x=.bool (Ni s v n [] t).2/\H'=oH m d (Ni s v n [] t).1) hO ?_
 rintro x H' ⟨rfl,rfl⟩
 have hq:=tN hu (v:=v) hn ht
 rcases Lj s v t with ⟨ho,e⟩ | ⟨ho,e⟩
 ·rw[e]
  have hq:=hq.2 ho
  push_cast[hq]
  exact Am (H:=uH m d) (J:=[_]) (Gw m d) rfl ⟨rfl,rfl⟩
 ·rw[e]
  have hq:(Ni s v n [] t).2=false:=by
   cases h:(Ni s v n [] t).2 with
   | true=>exact absurd (hq.1 h) ho
   | false=>rfl
  push_cast[hq,hup]
  exact⟨rfl,Am (H:=uH (F8 m v t) d) (J:=[_]) (Gw _ d) rfl ⟨rfl,rfl⟩⟩
end
end Go.Dw
end
section
namespace Go.Dw
theorem UOk.sat_comp {s:List A6}{σ θ:Sub}{rk:Str->Nat}(h:UOk s σ rk)(hθ:Sat θ s):∀ v,θ v=app θ (σ v):=by
 refine h.ind fun v ih=>?_
 cases hi:Ad s v with
 | none=>rw[h.free v hi];exact (Av (f:=θ) (t:=BS v) rfl).symm
 | some t =>
  rw[h.fix v t hi,hθ v t hi,O8]
  exact DB t fun w hw=>ih t w hi hw
theorem UOk.sat_app {s:List A6}{σ θ:Sub}{rk:Str->Nat}(h:UOk s σ rk)(hθ:Sat θ s)(t:Term):app θ t=app θ (app σ t):=by
 rw[O8];exact DB t fun v _=>h.sat_comp hθ v
theorem gK {f:Term->Term}{l m:List Term}(h:l.map f=m.map f):l.length=m.length:=by simpa using congrArg List.length h
theorem VL {s:List A6}{σ:Sub}{rk:Str->Nat}(h:UOk s σ rk):∀ (n:Nat)(a b:Term)(r:List A6×Bool),vfl a=true->vfl b=true->AX n s a b=some r->app σ a=app σ b->r=(s,true)
 | 0,_,_,_,_,_,hr,_=>by cases hr
 | n+1,a,b,r,ha,hb,hr,he=>by
  obtain⟨x,y,hx,hy,hc⟩:=JI hr
  have hxv:vfl x=true:=C0 (P:=fun t=>vfl t=true) h.vf ha hx
  have hyv:vfl y=true:=C0 (P:=fun t=>vfl t=true) h.vf hb hy
  rw[<-HQ h.sat hx,<-HQ h.sat hy]at he
  have hfx:x.var=true->app σ x=BS x.name:=fun c=>by rw[Av c];exact h.free _ (DY hx c)
  have hfy:y.var=true->app σ y=BS y.name:=fun c=>by rw[Av c];exact h.free _ (DY hy c)
  rcases hc with ⟨c1,c2,c3,rfl⟩ | ⟨c1,c2,rfl⟩ | ⟨c1,c2,rfl⟩ | ⟨c1,c2,c3,rfl⟩ | ⟨c1,c2,c3,c4,c5⟩
  ·rfl
  ·exfalso
   rw[hfx c1]at he
   cases hv:y.var with
   | true =>
    rw[hfy hv]at he
    injection he with e1 e2 e3
    exact c2 ⟨hv,e1⟩
   | false=>rw[B7 hv]at he;injection he with e1 e2 e3;cases e2
  ·exfalso
   rw[hfy c2,B7 c1]at he
   injection he with e1 e2 e3;cases e2
  ·exfalso
   rw[B7 c1,B7 c2]at he
   injection he with e1 e2 e3
   rcases c3 with c3 | c3
   ·exact c3 e1
   ·exact c3 (gK e3)
  ·rw[B7 c1,B7 c2]at he
   injection he with e1 e2 e3
   have key:∀ (l m:List Term),(∀ z∈l,vfl z=true)->(∀ z∈m,vfl z=true)->l.map (app σ)=m.map (app σ)->AE (AX n) s l m=some r->r=(s,true):=by
    intro l
    induction l with
    | nil=>intro m _ _ _ h;simp only[AE,Option.some.injEq]at h;exact h.symm
    | cons a l ihl =>
     intro m hl hm he h
     cases m with
     | nil=>simp at he
     | cons b m =>
      simp only[List.map_cons,List.cons.injEq]at he
      simp only[AE]at h
      cases hf:AX n s a b with
      | none=>rw[hf]at h;cases h
      | some p =>
       rw[hf]at h
       have e:=VL ‹UOk s σ rk› n a b p (hl a (by simp)) (hm b (by simp)) hf he.1
       subst e
       exact ihl m (fun x hx=>hl x (by simp[hx])) (fun x hx=>hm x (by simp[hx])) he.2 h
   exact key x.args y.args (fun z hz=>BF hxv hz) (fun z hz=>BF hyv hz) e3 c5
theorem E9 {t a:Term}(h:D6 t<2^40)(ha:a∈t.args):D6 a<2^40:=by
 have:=DV t
 have:=Sn ha
 omega
def WB (s:List A6):Prop:=∀ v x,Ad s v=some x->D6 x<2^40
theorem WB.solve {s:List A6}(h:WB s){n:Nat}{a b:Term}{r:List A6×Bool}(ha:D6 a<2^40)(hb:D6 b<2^40)(hr:AX n s a b=some r):WB r.1 :=
 fun v x hx=>(JB (P:=fun t=>D6 t<2^40) (Q:=fun _=>True) (fun t a h ha=>E9 h ha) (fun _ _ _=>trivial) n s a b r (fun v t hv=>⟨h v t hv,trivial⟩) ha hb hr v x hx).1
def MR (s:List A6)(m:TM):Prop:=(∀ v,C2 m v=Ad s v)/\lc m
theorem MR.bind {s:List A6}{m:TM}(h:MR s m){v:Str}(hv:Ad s v=none)(t:Term):MR (FC s v t) (F8 m v t) :=
 ⟨fun w=>by rw[Hy,E0 hv,h.1 w],lS h.2 v t⟩
def PB (s:List A6)(k:Key):Prop:=∀ θ,Sat θ s->θ k.1=θ k.2
def te (d:DM)(r:List A6×Bool)(x:V)(m':TM)(d':DM):Prop:=x=.bool r.2/\(r.2=true->MR r.1 m'/\∀ k,(C2 d' k).isSome=true->(C2 d k).isSome=true\/PB r.1 k)
theorem zj (m m':TM)(d d':DM)(J:List Ob):takeB [0,1,2] (uHl m d J) (uH m' d')=uHl m' d' J:=by
 apply List.ext_getElem?
 intro i
 rw[DC (by simp)]
 have h0:∀ n,BT [0,1,2] n 0=some 0:=fun _=>rfl
 have h1:∀ n,BT [0,1,2] n 1=some 1:=fun _=>rfl
 match i with
 | 0=>rw[if_pos (by simp)];show some (A5 _ (.map (Bh Ao m')))=some _;push_cast
 | 1=>rw[if_pos (by simp)];show some (A5 _ (.map (Gl EW d')))=some _;push_cast
 | 2=>rw[if_pos (by simp)];show some (A5 _ (.cells B3 [.map 0,.map 1]))=some _;push_cast[h0,h1]
 | i+3 =>
  have hp:Aw [0,1,2] (i+3)=none:=by simp[Aw,List.findIdx?_cons]
  by_cases h:i<J.length
  ·rw[if_pos (by simp;omega),hp]
   simp[List.getD_eq_getElem?_getD,h]
  ·rw[if_neg (by simp;omega)]
   have e1:(uHl m' d' J)[i+3]?=none:=List.getElem?_eq_none (by simp;omega)
   have e2:(uH m' d')[[0,1,2].length+(i+3-(uHl m d J).length)]?=none:=List.getElem?_eq_none (by simp)
   rw[e1,e2];rfl
theorem zx (m:TM)(d:DM)(J:List Ob):give [0,1,2] (uHl m d J)=uH m d:=by
 show [A5 (Aw [0,1,2]) (.map (Bh Ao m)),A5 (Aw [0,1,2]) (.map (Gl EW d)),A5 (Aw [0,1,2]) (.cells B3 [.map 0,.map 1])]=_
 have h0:Aw [0,1,2] 0=some 0:=rfl
 have h1:Aw [0,1,2] 1=some 1:=rfl
 push_cast[h0,h1]
section
variable {N:Nat->C} {B:Nat} {k:List K} {t:T} {Q:X->T->List Ob->Prop} {dd:Option Nat} {l:List S} {f:Nat} {vs vs':List V} {m:TM} {d:DM} {J:List Ob}
theorem Qs {R:V->TM->DM->Prop}(hv:AP (Aw [0,1,2]) vs=vs')(h:Spec prog f vs' (uH m d) fun x' H'=>∃ m' d',R x' m' d'/\H'=uH m' d')(k':∀ x' m' d',R x' m' d'->Run prog N B (.r l::k) (Ez dd (ren (BT [0,1,2] (J.length+3)) x') t) (uHl m' d' J) Q):Bt prog N B dd l k t Q (.func f) vs (uHl m d J):=by
 refine Bt.some [0,1,2] (by simp) (by simp) (R:=fun x' H'=>∃ m' d',R x' m' d'/\H'=uH m' d') (by rw[zx,hv];exact h) ?_
 rintro x' H' ⟨m',d',hr,rfl⟩ _
 rw[zj];exact k' x' m' d' hr
theorem Nb {x:V}(hv:AP (Aw [0,1,2]) vs=vs')(h:Spec prog f vs' (uH m d) fun x' H'=>x'=x/\H'=uH m d)(k':Run prog N B (.r l::k) (Ez dd (ren (BT [0,1,2] (J.length+3)) x) t) (uHl m d J) Q):Bt prog N B dd l k t Q (.func f) vs (uHl m d J):=by
 refine Qs (R:=fun x' m' d'=>x'=x/\m'=m/\d'=d) hv (Spec.mono h fun x' H' h=>⟨m,d,⟨h.1,rfl,rfl⟩,h.2⟩) ?_
 rintro x' m' d' ⟨rfl,rfl,rfl⟩;exact k'
end
end Go.Dw
end
section
namespace Go.Dw
theorem XX:∀ (n:Nat)(s:List A6)(σ:Sub)(rk:Str->Nat)(m:TM)(d:DM)(a b:Term) (r:List A6×Bool),UOk s σ rk->MR s m->WB s->vfl a=true->vfl b=true->D6 a<2^40->D6 b<2^40->AX n s a b=some r ->
  (∀ k,(C2 d k).isSome=true->PB s k\/∀ θ,Sat θ s->size (app θ a)<size (θ k.1))->Spec prog DN [.ptr 2 0,Ao a,Ao b] (uH m d) fun x H'=>∃ m' d',te d r x m' d'/\H'=uH m' d':=by
 intro n
 induction n with
 | zero=>intro s σ rk m d a b r _ _ _ _ _ _ _ h;cases h
 | succ n ih =>
  intro s σ rk m d a b r hu hm hwb ha hb hwa hwb2 hr hd
  have rest:∀ (d:DM)(Q:V->List Ob->Prop)(T:T)(J:List Ob),(∀ x m' d',te d r x m' d'->Q x (uH m' d'))->lk T 0=.ptr 2 0->lk T 4=.ptr 3 0->lk T 5=.ptr 4 0->(∀ k,(C2 d k).isSome=true->PB s k\/∀ θ,Sat θ s->size (app θ a)<=size (θ k.1)) ->
    Run prog C3.nd 3 [.c (.n 5)] T (uHl m d (.cells A3 (cT a)::.cells A3 (cT b)::J)) (Bv 3 C3.rs Q):=by
   intro d Q T J hQ h0 h4 h5 hd
   obtain⟨x,y,hx,hy,hc⟩:=JI hr
   have hxv:vfl x=true:=C0 (P:=fun t=>vfl t=true) hu.vf ha hx
   have hyv:vfl y=true:=C0 (P:=fun t=>vfl t=true) hu.vf hb hy
   have hxw:D6 x<2^40:=C0 (P:=fun t=>D6 t<2^40) hwb hwa hx
   have hyw:D6 y<2^40:=C0 (P:=fun t=>D6 t<2^40) hwb hwb2 hy
   have hxs:∀ θ,Sat θ s->app θ x=app θ a:=fun θ hθ=>HQ hθ hx
   have hA:=Sw d hm.1 (n+1) a x hx
   have hB:=Sw d hm.1 (n+1) b y hy
   have hlx:=DV x
   have hly:=DV y
   have p2:Aw [0,1,2] 2=some 2:=rfl
   have same:∀ r:List A6×Bool,r.1=s->∀ x:V,x=.bool r.2->te d r x m d:=fun r h x e=>⟨e,fun _=>⟨h▸hm,fun k hk=>.inl hk⟩⟩
   have setF:∀ (v:Str)(t:Term),Ad s v=none->r=LA s v t->∀ (x':V)(m':TM)(d':DM),(x'=.bool (LA s v t).2/\m'=(if (LA s v t).2 then F8 m v t else m)/\d'=d)->te d r x' m' d':=by
    rintro v t hv rfl x' m' d' ⟨rfl,rfl,rfl⟩
    refine⟨rfl,fun h=>⟨?_,fun k hk=>.inl hk⟩⟩
    rcases Lj s v t with ⟨_,e⟩ | ⟨_,e⟩
    ·rw[e]at h;cases h
    ·rw[e,if_pos rfl];exact hm.bind hv t
   push_cast[h0,h4,h5]
   refine⟨Nb (by push_cast[p2]) hA ?_,Nb (by push_cast[p2]) hA ?_⟩
   all_goals
    push_cast[h0,h4,h5]
    refine Nb (by push_cast[p2]) hB ?_
    rcases hc with ⟨c1,c2,c3,c6⟩ | ⟨c1,c2,c6⟩ | ⟨c1,c2,c6⟩ | ⟨c1,c2,c3,c6⟩ | ⟨c1,c2,c3,c4,c5⟩
    ·push_cast[h0,h4,h5,c1,c2,c3]
     exact Am (H:=uH m d) (J:=_::_::J) (Gw m d) rfl (hQ _ m d (same r (by rw[c6]) _ (by rw[c6];rfl)))
    ·have hS:=Ul d hm.1 hu hwb x.name y hyv hyw
     have hS2:=Spec.mono hS (Q':=fun x' H'=>∃ m' d',(x'=.bool (LA s x.name y).2/\m'=(if (LA s x.name y).2 then F8 m x.name y else m)/\d'=d)/\H'=uH m' d') fun x' H' h=>⟨_,_,⟨h.1,rfl,rfl⟩,h.2⟩
     by_cases c3:y.var=true
     ·have c4:x.name≠y.name:=fun e=>c2 ⟨c3,e⟩
      push_cast[h0,h4,h5,c1,c3,c4]
      refine Qs (by push_cast[p2]) hS2 ?_
      intro x' m' d' hR
      have hf:=setF x.name y (DY hx c1) c6 x' m' d' hR
      obtain⟨rfl,_,_⟩:=hR
      push_cast
      exact Am (H:=uH m' d') (J:=_::_::J) (Gw m' d') rfl (hQ _ m' d' hf)
     ·have c3:y.var=false:=by simpa using c3
      push_cast[h0,h4,h5,c1,c3]
      refine Qs (by push_cast[p2]) hS2 ?_
      intro x' m' d' hR
      have hf:=setF x.name y (DY hx c1) c6 x' m' d' hR
      obtain⟨rfl,_,_⟩:=hR
      push_cast
      exact Am (H:=uH m' d') (J:=_::_::J) (Gw m' d') rfl (hQ _ m' d' hf)
    ·have hS:=Ul d hm.1 hu hwb y.name x hxv hxw
     have hS2:=Spec.mono hS (Q':=fun x' H'=>∃ m' d',(x'=.bool (LA s y.name x).2/\m'=(if (LA s y.name x).2 then F8 m y.name x else m)/\d'=d)/\H'=uH m' d') fun x' H' h=>⟨_,_,⟨h.1,rfl,rfl⟩,h.2⟩
     push_cast[h0,h4,h5,c1,c2]
     refine Qs (by push_cast[p2]) hS2 ?_
     intro x' m' d' hR
     have hf:=setF y.name x (DY hy c2) c6 x' m' d' hR
     obtain⟨rfl,_,_⟩:=hR
     push_cast
     exact Am (H:=uH m' d') (J:=_::_::J) (Gw m' d') rfl (hQ _ m' d' hf)
    ·by_cases hn:x.name=y.name
     ·have hlen:((x.args.length:Int)=(y.args.length:Int))=False:=eq_false (by rcases c3 with h | h;exact absurd hn h;omega)
      push_cast[h0,h4,h5,c1,c2,hn,hlen]
      exact Am (H:=uH m d) (J:=_::_::J) (Gw m d) rfl (hQ _ m d (same r (by rw[c6]) _ (by rw[c6];rfl)))
     ·push_cast[h0,h4,h5,c1,c2,hn]
      exact Am (H:=uH m d) (J:=_::_::J) (Gw m d) rfl (hQ _ m d (same r (by rw[c6]) _ (by rw[c6];rfl)))
    ·have hlen:((x.args.length:Int)=(y.args.length:Int))=True:=eq_true (by omega)
     push_cast[h0,h4,h5,c1,c2,c3,hlen]
     refine Ac (n:=x.args.length) (R:=fun k=>∀ (s':List A6)(σ':Sub)(rk':Str->Nat)(m':TM)(d':DM),UOk s' σ' rk'->MR s' m'->WB s'->(∀ θ,Sat θ s'->Sat θ s)->(∀ k,(C2 d' k).isSome=true->(C2 d k).isSome=true\/PB s' k)->AE (AX n) s' (x.args.drop k) (y.args.drop k)=some r ->
      C3.L3 (.ptr 2 0) (.ptr 3 0) (.ptr 4 0) (.int .i64 x.args.length) (.int .i64 k) 3 (uHl m' d' [.cells A3 (cT x),.cells A3 (cT y)]) (Bv 3 C3.rs Q)) ?_ ?_ 0 (by omega) s σ rk m d hu hm hwb (fun _ h=>h) (fun k hk=>.inl hk) c5
     ·intro k hk ih2 s' σ' rk' m' d' hu' hm' hwb' hsat hkeys hsol
      have hk2:k<y.args.length:=by omega
      have hmx:=A4 hk
      have hmy:=A4 hk2
      rw[Ak hk,Ak hk2]at hsol
      generalize hc:x.args.getD k default=c at hmx hsol
      generalize he:y.args.getD k default=e at hmy hsol
      simp only[AE]at hsol
      cases hf:AX n s' c e with
      | none=>rw[hf]at hsol;cases hsol
      | some p =>
       obtain⟨s1,ok⟩:=p
       rw[hf]at hsol
       have hcall:=ih s' σ' rk' m' d' c e (s1,ok) hu' hm' hwb' (BF hxv hmx) (BF hyv hmy) (E9 hxw hmx) (E9 hyw hmy) hf (fun k hk=>by
        rcases hkeys k hk with h | h
        ·rcases hd k h with h | h
         ·exact .inl fun θ hθ=>h θ (hsat θ hθ)
         ·refine .inr fun θ hθ=>?_
          have h1:=h θ (hsat θ hθ)
          rw[<-hxs θ (hsat θ hθ),B7 c1]at h1
          have h2:size (Term.mk x.name false (x.args.map (app θ)))=1+Ab (x.args.map (app θ)):=rfl
          have h3:=Bp (List.mem_map_of_mem (f:=app θ) hmx)
          omega
        ·exact .inl h)
       obtain⟨σ1,rk1,hok⟩:=Fm n s' σ' rk' c e (s1,ok) hu' (BF hxv hmx) (BF hyv hmy) hf
       refine A8.2 ?_
       push_cast[ilt hk,ilt hk2,hc,he]
       refine Qs (by push_cast[p2]) hcall ?_
       intro x' m1 d1 hR
       obtain⟨rfl,hR⟩:=hR
       cases ok with
       | false =>
        simp only[Option.some.injEq]at hsol
        push_cast
        exact Am (H:=uH m1 d1) (J:=[_,_]) (Gw m1 d1) rfl (hQ _ m1 d1 ⟨by rw[<-hsol];rfl,fun h=>by rw[<-hsol]at h;cases h⟩)
       | true =>
        obtain⟨hm1,hk1⟩:=hR rfl
        push_cast[w64 (show k<2^62 by omega)]
        have:=ih2 s1 σ1 rk1 m1 d1 hok.ok hm1 (hwb'.solve (E9 hxw hmx) (E9 hyw hmy) hf) (fun θ hθ=>hsat θ (hθ.mono hok.ext)) (fun k hk=>by
         rcases hk1 k hk with h | h
         ·rcases hkeys k h with h | h
          ·exact .inl h
          ·exact .inr fun θ hθ=>h θ (hθ.mono hok.ext)
         ·exact .inr h) hsol
        push_cast at this
        exact this
     ·intro s' σ' rk' m' d' hu' hm' hwb' hsat hkeys hsol
      rw[An]at hsol
      simp only[AE,Option.some.injEq]at hsol
      refine A8.2 ?_
      push_cast[B6 (Nat.le_refl _)]
      exact Am (H:=uH m' d') (J:=[_,_]) (Gw m' d') rfl (hQ _ m' d' ⟨by rw[<-hsol];rfl,fun _=>⟨by rw[<-hsol];exact hm',fun k hk=>by rw[<-hsol];exact hkeys k hk⟩⟩)
  refine AJ mixed C3.ok rfl ?_
  unfold C3.body
  generalize hC:C.n 5=c5
  obtain⟨σ1,rk1,hok⟩:=Fm (n+1) s σ rk a b r hu ha hb hr
  have hd1:∀ k,(C2 d k).isSome=true->PB s k\/∀ θ,Sat θ s->size (app θ a)<=size (θ k.1):=fun k hk=>by
   rcases hd k hk with h | h
   ·exact .inl h
   ·exact .inr fun θ hθ=>Nat.le_of_lt (h θ hθ)
  cases hva:a.var with
  | false =>
   push_cast[hva]
   subst hC
   exact rest d _ _ [] (fun x m' d' h=>⟨m',d',h,rfl⟩) rfl rfl rfl hd1
  | true =>
   cases hvb:b.var with
   | false =>
    push_cast[hva,hvb]
    subst hC
    exact rest d _ _ [] (fun x m' d' h=>⟨m',d',h,rfl⟩) rfl rfl rfl hd1
   | true =>
    have hlk:∀ l,_:=fun l=>mH EW d (a.name,b.name) false (.bool false) (H:=uHl m d l) (i:=1) rfl
    have hup:=rC EW d (a.name,b.name) ()
    cases hg:C2 d (a.name,b.name)with
    | some u =>
     rw[hg]at hlk
     simp only[Option.map_some,Option.getD_some,ON]at hlk hup
     push_cast[hva,hvb,hlk]
     have hrr:r=(s,true):=by
      rcases hd (a.name,b.name) (by rw[hg];rfl)with h | h
      ·exact VL hu (n+1) a b r ha hb hr (by rw[Av hva,Av hvb];exact h σ hu.sat)
      ·have:=h σ hu.sat
       rw[Av hva]at this
       exact absurd this (Nat.lt_irrefl _)
     exact Am (H:=uH m d) (J:=[_,_,_]) (Gw m d) rfl ⟨m,d,⟨by rw[hrr];rfl,fun _=>⟨by rw[hrr];exact hm,fun k hk=>.inl hk⟩⟩,rfl⟩
    | none =>
     rw[hg]at hlk
     simp only[Option.map_none,Option.getD_none,ON]at hlk hup
     push_cast[hva,hvb,hlk,hup]
     subst hC
     refine⟨rfl,rest (F8 d (a.name,b.name) ()) _ _ [.dead] (fun x m' d' h=>?_) rfl rfl rfl fun k hk=>?_⟩
     ·obtain⟨e,h1⟩:=h
      refine⟨m',d',⟨e,fun hr2=>⟨(h1 hr2).1,fun k hk=>?_⟩⟩,rfl⟩
      rcases (h1 hr2).2 k hk with h3 | h3
      ·rw[Hy]at h3
       by_cases e:(a.name,b.name)=k
       ·subst e
        refine .inr fun θ hθ=>?_
        have h4:=hok.eq hr2
        have h5:=hok.ok.sat_app hθ a
        have h6:=hok.ok.sat_app hθ b
        rw[h4,<-h6,Av hva,Av hvb]at h5
        exact h5
       ·rw[if_neg e]at h3;exact .inl h3
      ·exact .inr h3
     ·rw[Hy]at hk
      by_cases e:(a.name,b.name)=k
      ·subst e
       exact .inr fun θ hθ=>by rw[Av hva];exact Nat.le_refl _
      ·rw[if_neg e]at hk;exact hd1 k hk
end Go.Dw
end
