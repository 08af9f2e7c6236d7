/-
  Contracts and lemmas for ResidualDivides: part f of 10.
-/
import Derived.Sort.KeysCollected
import Derived.Test.YtkdcfkfdkimaeaaGreatDoorVae
import Derived.Shelf.Spec.SlicesInsert
import Derived.Lib.AppendZerosOnto
import Derived.Test.YtkdcfkfdkimaeaaGreatDoorVad
import Derived.ArgAppend
import Derived.Shelf.Spec.SlicesGrow
import Derived.Test.YtkdcfkfdkimaeaaGreatDoorRows
import Derived.WalkKit
import Derived.ProofKit
import Derived.OpenShut
import Derived.JoinedCond
import Derived.ReadAgain
import Derived.Carry
set_option linter.unusedVariables false
set_option linter.unusedSimpArgs false
set_option maxRecDepth 100000
section
namespace Go.Dw
open Go.Proofs (sortS)
theorem Qk {σ:Nat->Option Nat}{l:List Str}:(l.map fun s=>[V.str s]).map (AP σ)=l.map fun s=>[V.str s]:=by rw[List.map_map];rfl
attribute [push_cast] Qk
theorem oR (a b c d o:Ob):takeB [2] [a,b,c,d] [o]=[a,b,A5 (BT [2] 4) o,d]:=rfl
theorem nB (a b c d:Ob):give [2] [a,b,c,d]=[A5 (Aw [2]) c]:=rfl
def Vi (ks:List Str)(n:Str):List Str:=if n∈ks then ks else ks++[n]
def Iw (ks:List Str):List (V×V):=ks.map fun k=>(.str k,.bool true)
theorem mF {σ:Nat->Option Nat}{ks:List Str}:((Iw ks).map fun p=>(ren σ p.1,ren σ p.2))=Iw ks:=by
 unfold Iw;rw[List.map_map];rfl
attribute [push_cast] mF
theorem Uz (n:Str):∀ (ks:List Str)(i:Nat),Ga (.str n) (Iw ks) i=some (if n∈ks then some (i+ks.idxOf n,.bool true) else none)
 | [],i=>by simp[Ga,Iw]
 | k::ks,i=>by
  have ih:=Uz n ks (i+1)
  unfold Iw at ih ⊢
  by_cases h:k=n
  ·subst h;simp[Ga,Hv]
  ·have h':n≠k:=fun e=>h e.symm
   have e:Hv (.str n) (.str k)=some false:=by simp[Hv,h']
   have hb:(k == n)=false:=by simp[h]
   simp only[List.map_cons,Ga,e,ih,List.mem_cons,h',false_or,List.idxOf_cons,hb,cond_false]
   split
   ·congr 3;omega
   ·rfl
theorem gV (n:Str)(ks:List Str):VW (.str n) (.bool true) (Iw ks)=some (Iw (Vi ks n)):=by
 unfold VW
 rw[Uz]
 unfold Vi
 by_cases h:n∈ks
 ·simp only[h,if_true]
  congr 1
  unfold Iw
  apply List.ext_getElem (by simp)
  intro i h1 h2
  rw[List.getElem_set]
  split
  ·rename_i e
   subst e
   simp[List.getElem_idxOf]
  ·rfl
 ·simp only[h,if_false]
  simp[Iw]
def Fw (l:List (List Int×Term)):List Str:=(l.filter fun x=>x.2.var).map fun x=>x.2.name
def Qw (ks:List Str)(l:List (List Int×Term)):List Str:=(Fw l).foldl Vi ks
def HA (ks:List Str)(l:List Term):List Str:=l.foldl (fun ks t=>Qw ks (Ap t [])) ks
def Az (l:List Term):List Str:=sortS (HA [] l)
mutual
theorem MZ:∀ (t:Term)(p:List Int),(Ap t p).length=size t
 | .mk n v l,p=>by simp only[Ap,size,List.length_cons,Wm l p 0];omega
theorem Wm:∀ (l:List Term)(p:List Int)(i:Nat),(B4 l p i).length=Ab l
 | [],p,i=>rfl
 | a::l,p,i=>by simp only[B4,Ab,List.length_append,MZ a,Wm l]
end
theorem ot (ks:List Str)(n:Str):(Vi ks n).length<=ks.length+1:=by unfold Vi;split <;> simp
theorem Pw:∀ (l:List Str)(ks:List Str),(l.foldl Vi ks).length<=ks.length+l.length
 | [],ks=>by simp
 | n::l,ks=>by have:=Pw l (Vi ks n);have:=ot ks n;simp only[List.foldl_cons,List.length_cons];omega
theorem oV (ks:List Str)(l:List (List Int×Term)):(Qw ks l).length<=ks.length+l.length:=by
 have h1:=Pw (Fw l) ks
 have h2:(Fw l).length<=l.length:=by unfold Fw;rw[List.length_map];exact List.length_filter_le _ _
 unfold Qw;omega
theorem TS:∀ (l:List Term)(ks:List Str),(HA ks l).length<=ks.length+Ab l
 | [],ks=>by simp[HA,Ab]
 | t::l,ks=>by
  have h1:=TS l (Qw ks (Ap t []))
  have h2:=oV ks (Ap t [])
  rw[MZ]at h2
  simp only[HA,List.foldl_cons,Ab]at h1 ⊢;omega
theorem Ej (l:List Term)(hs:Ab l<2^40):PF D2 [Bd l] (Bl (Az l)):=by
 have hl:=Ai l
 refine Aa Gf.ok rfl ?_
 push_cast
 refine Ac (n:=l.length) (R:=fun k=>Gf.L8 (.ptr 1 0) .any (Bd l) (.int .i64 l.length) (.int .i64 k) 0 [.map (Iw (HA [] (l.take k))),.cells Dh [.map 0]] _) ?_ ?_ 0 (by omega)
 ·intro k hk ih
  have hm:=A4 hk
  have hsm:=Bp hm
  refine A8.2 ?_
  push_cast[ilt hk]
  refine .of (LR _) ?_
  push_cast
  have hks:HA [] (l.take (k+1))=Qw (HA [] (l.take k)) (Ap (l.getD k default) []):=by rw[A9 hk];simp[HA]
  rw[hks]at ih
  generalize HA [] (l.take k)=ks at ih ⊢
  generalize l.getD k default=u at ih hsm ⊢
  refine Run.rf D3 [] [.ro (cT u) 0] ((Ap u []).map K7) (fun j H1=>H1=[.map (Iw (Qw ks ((Ap u []).take j))),.cells Dh [.map 0],.dead]) (fun _ _=>False) rfl (HR u (by omega)) ?_ (by simp[Qw,Fw]) ?_ ?_ (fun _ _ h=>h.elim) ?_ ?_ (fun _ _ h=>h.elim)
  ·intro it hit
   obtain⟨x,_,rfl⟩:=List.mem_map.1 hit
   rfl
  ·push_cast
  ·rintro j H1 rfl
   refine⟨rfl,?_⟩
   push_cast
  ·rintro lo r j it H1 hit rfl
   rw[List.getElem?_map]at hit
   cases hx:(Ap u [])[j]? with
   | none=>rw[hx]at hit;cases hit
   | some x =>
   rw[hx]at hit
   have hit:it=K7 x:=by simpa using hit.symm
   subst hit
   have hj:j<(Ap u []).length:=(List.getElem?_eq_some_iff.1 hx).1
   have hxj:(Ap u [])[j]=x:=(List.getElem?_eq_some_iff.1 hx).2
   have htk:(Ap u []).take (j+1)=(Ap u []).take j++[x]:=by rw[List.take_succ_eq_append_getElem hj,hxj]
   push_cast[OQ,K7]
   refine A8.2 ?_
   cases hv:x.2.var with
   | false =>
    have hvs:Qw ks ((Ap u []).take (j+1))=Qw ks ((Ap u []).take j):=by rw[htk];simp[Qw,Fw,hv]
    push_cast[hv]
    refine⟨rfl,?_⟩
    push_cast[cut,hvs]
   | true =>
    have hvs:Qw ks ((Ap u []).take (j+1))=Vi (Qw ks ((Ap u []).take j)) x.2.name:=by rw[htk];simp[Qw,Fw,hv]
    push_cast[hv,gV,ksB]
    refine⟨rfl,?_⟩
    push_cast[cut,hvs]
  ·rintro H1 rfl
   push_cast[w64 (show k<2^62 by omega)]
   have:(Ap u []).take ((Ap u []).map K7).length=Ap u []:=by rw[List.length_map,List.take_length]
   rw[this]
   exact ih
 ·refine A8.2 ?_
  push_cast[B6 (Nat.le_refl _)]
  unfold Az
  rw[List.take_length]
  have hkl:=TS l []
  generalize HA [] l=ks at hkl ⊢
  simp only[List.length_nil,Nat.zero_add]at hkl
  have hlen:(Iw ks).length=ks.length:=by unfold Iw;rw[List.length_map]
  rw[hlen]
  have fin:∀ (seen:List Nat),seen.Nodup->(∀ i∈seen,i<ks.length)->(∀ k,k<ks.length->k∈seen)->sortS (seen.map fun i=>ks.getD i [])=sortS ks:=fun seen h1 h2 h3=>by
   refine Go.mergeSort_of_perm ?_
   have hp:seen.Perm (List.range ks.length):=(List.perm_ext_iff_of_nodup h1 List.nodup_range).2 fun i=>by rw[List.mem_range];exact⟨h2 i,h3 i⟩
   have he:(List.range ks.length).map (fun i=>ks.getD i [])=ks:=by
    apply List.ext_getElem (by simp)
    intro i a b
    have hi:i<ks.length:=by simpa using b
    simp[List.getD_eq_getElem?_getD,hi]
   have:=hp.map fun i=>ks.getD i []
   rw[he]at this
   exact this
  have key:∀ (m:Nat)(seen:List Nat),ks.length-seen.length<=m->seen.Nodup->(∀ i∈seen,i<ks.length)->Gf.L3 (.rw 2 1 seen.length) (.it 3) 0
    [.map (Iw ks),.cells Dh [.map 0],.row C1 1 ((seen.map fun i=>ks.getD i []).map fun s=>[V.str s]),.iter (some 0) ks.length seen]
    (Bv 0 Gf.rs fun x' H'=>x'=Bl (sortS ks)/\H'=[]):=by
   intro m
   induction m with
   | zero =>
    intro seen hm hnd hlt
    refine A8.2 ?_
    push_cast
    refine ZX 0 ks.length seen (Iw ks) rfl rfl hlen.symm (fun hall=>?_) (fun k p hp hk=>?_)
    ·have hsl:(seen.map fun i=>ks.getD i []).length=seen.length:=by simp
     have hc:=dw (seen.map fun i=>ks.getD i [])
     have hso:(sortS (seen.map fun i=>ks.getD i [])).length=seen.length:=by rw[(List.mergeSort_perm _ _).length_eq,hsl]
     rw[hsl,fin seen hnd hlt hall]at hc
     rw[fin seen hnd hlt hall]at hso
     push_cast
     refine Bt.some [2] (by simp) (by simp) (R:=fun x H'=>x=.tup []/\H'=[.row C1 1 ((sortS ks).map fun s=>[V.str s])]) (by rw[nB,KE,Qk];exact hc) ?_
     rintro x H' ⟨rfl,rfl⟩ _
     rw[oR]
     push_cast
     refine⟨by rw[List.length_map];exact hso,A1 ?_⟩
     push_cast[Gf.rs]
     rfl
    ·have:(seen++[k]).length<=(List.range ks.length).length:=List.Nodup.length_le_of_subset (by simp[List.nodup_append,hnd];intro a ha e;exact hk (e▸ha)) (by
      intro i hi
      rw[List.mem_range]
      rcases List.mem_append.1 hi with h | h
      ·exact hlt i h
      ·simp only[List.mem_singleton]at h;subst h;rw[<-hlen];exact (List.getElem?_eq_some_iff.1 hp).1)
     simp at this;omega
   | succ m ih =>
    intro seen hm hnd hlt
    refine A8.2 ?_
    push_cast
    refine ZX 0 ks.length seen (Iw ks) rfl rfl hlen.symm (fun hall=>?_) (fun k p hp hk=>?_)
    ·have hsl:(seen.map fun i=>ks.getD i []).length=seen.length:=by simp
     have hc:=dw (seen.map fun i=>ks.getD i [])
     have hso:(sortS (seen.map fun i=>ks.getD i [])).length=seen.length:=by rw[(List.mergeSort_perm _ _).length_eq,hsl]
     rw[hsl,fin seen hnd hlt hall]at hc
     rw[fin seen hnd hlt hall]at hso
     push_cast
     refine Bt.some [2] (by simp) (by simp) (R:=fun x H'=>x=.tup []/\H'=[.row C1 1 ((sortS ks).map fun s=>[V.str s])]) (by rw[nB,KE,Qk];exact hc) ?_
     rintro x H' ⟨rfl,rfl⟩ _
     rw[oR]
     push_cast
     refine⟨by rw[List.length_map];exact hso,A1 ?_⟩
     push_cast[Gf.rs]
     rfl
    ·have hkl:k<ks.length:=by rw[<-hlen];exact (List.getElem?_eq_some_iff.1 hp).1
     have hpe:p=(.str (ks.getD k []),.bool true):=by
      unfold Iw at hp
      rw[List.getElem?_map]at hp
      simp[hkl]at hp
      rw[<-hp];simp[List.getD_eq_getElem?_getD,hkl]
     have hen:∀ a b,enV [.map (Iw ks),a,b,.iter (some 0) ks.length (seen++[k])] (.it 3)=some (.tup [p.1,p.2]):=fun a b=>by
      simp[enV,hlen,hp]
     subst hpe
     push_cast[hen]
     refine⟨?_,?_⟩
     ·have:(seen.map fun i=>ks.getD i []).length=seen.length:=by simp
      have h2:seen.length<=ks.length:=by simpa using List.Nodup.length_le_of_subset hnd (l₂:=List.range ks.length) fun i hi=>List.mem_range.2 (hlt i hi)
      exact⟨by simp,TY (n:=seen.length) (b:=16) (by omega) (by omega)⟩
     ·have hnd2:(seen++[k]).Nodup:=by simp[List.nodup_append,hnd];intro a ha e;exact hk (e▸ha)
      have hlt2:∀ i∈seen++[k],i<ks.length:=fun i hi=>by
       rcases List.mem_append.1 hi with h | h
       ·exact hlt i h
       ·simp only[List.mem_singleton]at h;subst h;exact hkl
      have:=ih (seen++[k]) (by simp;omega) hnd2 hlt2
      simp only[List.map_append,List.map_cons,List.map_nil,List.length_append,List.length_singleton]at this
      rw[List.map_append,Qk]
      exact this
  exact key ks.length [] (by simp) List.nodup_nil (by simp)
end Go.Dw
end
section
namespace Go.Dw
open Go.Proofs (sortS)
def rbs:List A2->Nat
 | []=>0
 | x::r=>1+tb x.left+tb x.right+rbs r
theorem Fy {r:List A2}{x:A2}(h:x∈r):1+tb x.left+tb x.right<=rbs r:=by
 induction r with
 | nil=>cases h
 | cons y ys ih=>rcases List.mem_cons.1 h with rfl | h <;> simp[rbs];have:=ih h;omega
theorem Be (r:List A2):r.length<=rbs r:=by
 induction r with
 | nil=>simp
 | cons x xs ih=>simp only[rbs,List.length_cons];omega
section
variable (r:A2)
theorem Ab0:(cR r)[0]?=some (.str r.left.name):=rfl
theorem Acl:(cR r)[1]?=some (.bool r.left.var):=rfl
theorem Acu:(cR r)[2]?=some (Bd r.left.args):=by show some (V.sl 3 (fy r.left))=_;rw[aL];rfl
theorem Acg:(cR r)[3]?=some (.str r.right.name):=rfl
theorem Ab3:(cR r)[4]?=some (.bool r.right.var):=rfl
theorem Acn:(cR r)[5]?=some (Bd r.right.args):=by show some (V.sl 3 (fy r.right))=_;rw[aL];rfl
end
attribute [push_cast] Ab0 Acl Acu Acg Ab3 Acn
def De:List A2->Int
 | []=>0
 | x::r=>if IP [x.left,x.right]≠0 then IP [x.left,x.right] else De r
def Bi (r:List A2):Int:=if 64<r.length then 3 else De r
theorem ZC (a b:Term):(.sl 3 [cT a,cT b]:V)=Bd [a,b]:=rfl
theorem SY (r:List A2)(hs:rbs r<2^61):PF Il [Aj r] (.int .i64 (Bi r)):=by
 have hl:=Be r
 refine Aa DU.ok rfl ?_
 by_cases h64:64<r.length
 ·have hi:((64:Int)<(r.length:Int))=True:=eq_true (by omega)
  push_cast[hi]
  refine A1 ?_
  push_cast[DU.rs,Bi,h64]
 ·have hi:((64:Int)<(r.length:Int))=False:=eq_false (by omega)
  push_cast[hi,Bi,h64]
  refine Ac (n:=r.length) (R:=fun k=>De (r.drop k)=De r->DU.L3 (Aj r) (.int .i64 r.length) (.int .i64 k) 0 [] _) ?_ ?_ 0 (by omega) rfl
  ·intro k hk ih hq
   have hm:=Fy (A4 hk)
   refine A8.2 ?_
   rw[Ak hk]at hq
   simp only[De]at hq
   generalize hx:r.getD k default=x at hm hq
   have hA:=fW [x.left,x.right] (by simp) (by simp;omega)
   push_cast[ilt hk,hx]
   refine .of hA ?_
   push_cast[w64 (show k<2^62 by omega)]
   refine⟨fun h=>A1 ?_,fun h=>ih ?_⟩
   ·push_cast[DU.rs]
    rw[<-hq,if_pos h]
   ·rw[<-hq,if_neg h]
  ·intro hq
   refine A8.2 ?_
   push_cast[B6 (Nat.le_refl _)]
   refine A1 ?_
   push_cast[DU.rs]
   rw[<-hq,An];rfl
theorem Fb (l:List Str)(v:Str)(hl:l.length<2^62):PF AT [Bl l,.str v] (.int .i64 (Kd (fun x=>decide (v=x)) l)):=by
 refine Aa BC.ok rfl ?_
 push_cast
 refine Ac (n:=l.length) (R:=fun k=>(∀ j,j<k->decide (v=l.getD j default)=false)->BC.L3 (Bl l) (.str v) (.int .i64 l.length) (.int .i64 k) 0 [] _) ?_ ?_ 0 (by omega) (by intro j hj;omega)
 ·intro k hk ih hq
  refine A8.2 ?_
  push_cast[ilt hk,w64 (show k<2^62 by omega)]
  refine⟨fun hp=>A1 ?_,fun hp=>?_⟩
  ·push_cast[BC.rs]
   rw[Gj hk (by simpa using hp) hq]
  ·refine ih fun j hj=>?_
   rcases Nat.lt_succ_iff_lt_or_eq.1 hj with h | rfl
   ·exact hq j h
   ·simpa using hp
 ·intro hq
  refine A8.2 ?_
  push_cast[B6 (Nat.le_refl _)]
  refine A1 ?_
  push_cast[BC.rs]
  rw[HC hq]
theorem OO (l:List Str)(v:Str)(hl:l.length<2^62):PF Cr [Bl l,.str v] (.bool (decide (v∈l))):=by
 refine Aa CJ.ok rfl ?_
 push_cast
 refine .of (Fb l v hl) ?_
 push_cast
 refine A1 ?_
 push_cast[CJ.rs,Nh]
 rw[Bool.eq_iff_iff];simp
def KW (x:A2):Bool:=x.left.var || (Az [x.right]).any fun v=>!decide (v∈Az [x.left])
theorem F1 (l:List Term):(Az l).length<=Ab l:=by
 have:=TS l []
 unfold Az;rw[(List.mergeSort_perm _ _).length_eq];simpa using this
theorem aB (x:A2)(hs:tb x.left+tb x.right<2^39):PF Km [JL x] (.bool (KW x)):=by
 have h1:=AQ x.left
 have h2:=AQ x.right
 have e1:∀ t,Ab [t]=size t:=fun t=>by simp[Ab]
 have hv:=F1 [x.left]
 have hv2:=F1 [x.right]
 rw[e1]at hv hv2
 have hL:=Ej [x.left] (by rw[e1];omega)
 have hR:=Ej [x.right] (by rw[e1];omega)
 refine Aa NG.ok rfl ?_
 push_cast
 refine .of hL ?_
 cases hvar:x.left.var with
 | true =>
  push_cast[hvar]
  refine A1 ?_
  push_cast[NG.rs,KW,hvar]
  rfl
 | false =>
  push_cast[hvar]
  refine .of hR ?_
  push_cast
  refine .of (D8 (p:=fun v=>!decide (v∈Az [x.left])) (caps:=[.ro [Bl (Az [x.left])] 0]) (fun _=>rfl) _ (by omega) fun v hv=>?_) ?_
  ·refine Aa NO.ok rfl ?_
   push_cast
   refine .of (OO _ _ (by omega)) ?_
   push_cast
   exact A1 (by push_cast[NO.rs])
  ·push_cast
   refine A1 ?_
   push_cast[NG.rs,KW,hvar]
   rfl
end Go.Dw
end
section
namespace Go.Dw
abbrev Ars:=List (Str×Nat)
def Lo:Ars->Str->Option Nat
 | [],_=>none
 | p::m,n=>if p.1=n then some p.2 else Lo m n
def CU (m:Ars)(u:Term):Option Ars:=if u.var then some m else match Lo m u.name with
 | some n=>if n=u.args.length then some m else none
 | none=>some (m++[(u.name,u.args.length)])
def D9 (m:Ars):List (List Int×Term)->Option Ars
 | []=>some m
 | x::l=>(CU m x.2).bind fun m'=>D9 m' l
def Cz (m:Ars):List A2->Option Ars
 | []=>some m
 | x::r=>(D9 m (Ap x.left [])).bind fun m1=>(D9 m1 (Ap x.right [])).bind fun m2=>Cz m2 r
theorem Kv:∀ (a b:List (List Int×Term)) (m:Ars),D9 m (a++b)=(D9 m a).bind fun m'=>D9 m' b
 | [],b,m=>rfl
 | x::a,b,m=>by simp only[List.cons_append,D9];cases CU m x.2 <;> simp[Kv a b]
def EM (m:Ars):List (V×V):=m.map fun p=>(.str p.1,.int .i64 p.2)
theorem ln {σ:Nat->Option Nat}{m:Ars}:((EM m).map fun p=>(ren σ p.1,ren σ p.2))=EM m:=by
 unfold EM;rw[List.map_map];rfl
attribute [push_cast] ln
theorem Pq (n:Str):∀ (m:Ars)(i:Nat),match Lo m n with
  | none=>Ga (.str n) (EM m) i=some none
  | some a=>∃ j,Ga (.str n) (EM m) i=some (some (i+j,.int .i64 a))/\(EM m)[j]?=some (.str n,.int .i64 a)
 | [],i=>rfl
 | p::m,i=>by
  have ih:=Pq n m (i+1)
  unfold Lo
  by_cases h:p.1=n
  ·rw[if_pos h]
   refine⟨0,?_,?_⟩
   ·simp[EM,Ga,Hv,h]
   ·simp[EM,h]
  ·rw[if_neg h]
   have h':n≠p.1:=fun e=>h e.symm
   have hb:(n == p.1)=false:=by simpa using h'
   have e:∀ (k:Nat) ,Ga (.str n) (EM (p::m)) k=Ga (.str n) (EM m) (k+1):=fun k=>by simp[EM,Ga,Hv,hb]
   cases hg:Lo m n with
   | none=>rw[hg]at ih;simp only at ih ⊢;rw[e];exact ih
   | some a =>
    rw[hg]at ih
    obtain⟨j,h1,h2⟩:=ih
    refine⟨j+1,?_,?_⟩
    ·rw[e,h1];congr 3;omega
    ·simp only[EM,List.map_cons,List.getElem?_cons_succ];exact h2
theorem gv (m:Ars)(n:Str){H:List Ob}{k:Nat}(hk:H[k]?=some (.map (EM m))):Ly H true true (.int .i64 0) (.map k) (.str n)=some (.tup [.int .i64 ((Lo m n).getD 0:Nat),.bool (Lo m n).isSome]):=by
 have h:=Pq n m 0
 have he:Dk H (.map k)=some (EM m):=by simp[Dk,hk]
 unfold Ly
 rw[he]
 cases hg:Lo m n with
 | none=>rw[hg]at h;simp only at h;simp[ksB,h,Mp]
 | some a=>rw[hg]at h;obtain⟨j,h1,h2⟩:=h;simp[ksB,h1,Mp]
theorem YK {m m':Ars}{u:Term}(hv:u.var=false)(h:CU m u=some m'):VW (.str u.name) (.int .i64 u.args.length) (EM m)=some (EM m'):=by
 have hf:=Pq u.name m 0
 unfold CU at h
 rw[hv]at h
 simp only[Bool.false_eq_true,if_false]at h
 unfold VW
 cases hg:Lo m u.name with
 | none =>
  rw[hg]at h hf
  simp only[Option.some.injEq]at h hf
  subst h
  rw[hf];simp[EM]
 | some a =>
  rw[hg]at h hf
  simp only at h
  split at h
  ·rename_i ha
   cases h
   obtain⟨j,h1,h2⟩:=hf
   rw[h1]
   subst ha
   simp only[Nat.zero_add,Option.some.injEq]
   obtain⟨h3,h4⟩:=List.getElem?_eq_some_iff.1 h2
   rw[<-h4,List.set_getElem_self]
  ·cases h
def dQ (o:Option Ars)(x:V)(H:List Ob):Prop:=match o with
 | none=>x=.tup [.nilm,.bool false]/\H=[]
 | some m=>x=.tup [.map 0,.bool true]/\H=[.map (EM m)]
abbrev arH (m:Ars)(l:List Ob):List Ob:=.cells HN [.nilm]::.cells fX [.bool false]::.map (EM m)::.cells HN [.map 2]::l
theorem jp {u:Term}{m:Ars}{r:List A2}{v24:V}{j k n:Nat}(hs:size u<2^40)(hj:j<2)(hra:∀ σ,ren σ v24=v24)(hix:mp 3 2 (some 3) v24 (.int .i64 j)=some (Ao u))(hnone:D9 m (Ap u [])=none->Cz [] r=none)
  (hsome:∀ m',D9 m (Ap u [])=some m'->Ea.L6 (.ptr 0 0) (.ptr 1 0) (.ptr 3 0) .any (Aj r) (.int .i64 n) (.int .i64 k) v24 (.int .i64 (j+1:Nat)) 0 (arH m' [.dead]) (Bv 0 Ea.rs (dQ (Cz [] r)))) :
  Ea.L6 (.ptr 0 0) (.ptr 1 0) (.ptr 3 0) .any (Aj r) (.int .i64 n) (.int .i64 k) v24 (.int .i64 j) 0 (arH m [.dead]) (Bv 0 Ea.rs (dQ (Cz [] r))):=by
 have hj2:((j:Int)<2)=True:=eq_true (by omega)
 refine A8.2 ?_
 push_cast[hj2,hix]
 refine .of (LR _) ?_
 push_cast
 refine Run.rf D3 [] [.ro (cT u) 0] ((Ap u []).map K7) (fun i H1=>∃ m',D9 m ((Ap u []).take i)=some m'/\H1=arH m' [.dead,.dead]) (fun e H1=>e=.ret/\D9 m (Ap u [])=none/\∃ m',H1=arH m' [.dead,.dead]) rfl (HR u hs) ?_ ⟨m,rfl,rfl⟩ ?_ ?_ ?_ ?_ ?_ ?_
 ·intro it hit
  obtain⟨x,_,rfl⟩:=List.mem_map.1 hit
  rfl
 ·push_cast[hra]
 ·rintro i H1 ⟨m',_,rfl⟩
  refine⟨rfl,?_⟩
  push_cast
 ·rintro i H1 ⟨_,_,m',rfl⟩
  refine⟨rfl,?_⟩
  push_cast
 ·rintro lo rr i it H1 hit ⟨m',hm',rfl⟩
  rw[List.getElem?_map]at hit
  cases hx:(Ap u [])[i]? with
  | none=>rw[hx]at hit;cases hit
  | some x =>
  rw[hx]at hit
  have hit:it=K7 x:=by simpa using hit.symm
  subst hit
  have hi:i<(Ap u []).length:=(List.getElem?_eq_some_iff.1 hx).1
  have hxi:(Ap u [])[i]=x:=(List.getElem?_eq_some_iff.1 hx).2
  have htk:(Ap u []).take (i+1)=(Ap u []).take i++[x]:=by rw[List.take_succ_eq_append_getElem hi,hxi]
  have hst:D9 m ((Ap u []).take (i+1))=CU m' x.2:=by rw[htk,Kv,hm'];simp[D9]
  have hlk:∀ (a b:Ob) l,Ly (a::b::.map (EM m')::l) true true (.int .i64 0) (.map 2) (.str x.2.name)=some (.tup [.int .i64 ((Lo m' x.2.name).getD 0:Nat),.bool (Lo m' x.2.name).isSome]):=fun a b l=>gv m' _ rfl
  push_cast[OQ,K7]
  refine A8.2 ?_
  cases hv:x.2.var with
  | true =>
   have hst2:CU m' x.2=some m':=by unfold CU;rw[hv];rfl
   push_cast[hv]
   refine⟨rfl,?_⟩
   refine⟨m',by rw[hst,hst2],?_⟩
   push_cast[cut]
  | false =>
   cases hg:Lo m' x.2.name with
   | none =>
    have hst2:CU m' x.2=some (m'++[(x.2.name,x.2.args.length)]):=by unfold CU;rw[hv,hg];rfl
    have hup:=YK hv hst2
    push_cast[hv,hlk,hg,Option.isSome_none,hup,ksB]
    refine⟨rfl,?_⟩
    refine⟨_,by rw[hst,hst2],?_⟩
    push_cast[cut]
   | some a =>
    by_cases ha:a=x.2.args.length
    ·have hst2:CU m' x.2=some m':=by unfold CU;rw[hv,hg];simp[ha]
     have hup:=YK hv hst2
     have ha':((a:Int)=(x.2.args.length:Int))=True:=eq_true (by omega)
     push_cast[hv,hlk,hg,Option.isSome_some,Option.getD_some,ha',hup,ksB]
     refine⟨rfl,?_⟩
     refine⟨_,by rw[hst,hst2],?_⟩
     push_cast[cut]
    ·have hst2:CU m' x.2=none:=by unfold CU;rw[hv,hg];simp[ha]
     have ha':((a:Int)=(x.2.args.length:Int))=False:=eq_false (by omega)
     push_cast[hv,hlk,hg,Option.isSome_some,Option.getD_some,ha',ksB]
     refine⟨rfl,?_⟩
     have hall:D9 m (Ap u [])=none:=by
      have:Ap u []=(Ap u []).take (i+1)++(Ap u []).drop (i+1):=(List.take_append_drop _ _).symm
      rw[this,Kv,hst,hst2];rfl
     refine⟨rfl,hall,m',?_⟩
     push_cast[cut]
 ·rintro H1 ⟨m',hm',rfl⟩
  rw[List.length_map,List.take_length]at hm'
  have:=hsome m' hm'
  push_cast[hra,w64 (show j<2^62 by omega)]
  push_cast at this
  exact this
 ·rintro e H1 ⟨rfl,hn,m',rfl⟩
  simp only[bW]
  push_cast
  rw[hnone hn]
  exact cm (.inl rfl) rfl ⟨rfl,rfl⟩
theorem W6 (r:List A2)(hs:rbs r<2^40):Spec prog I3 [Aj r] [] (dQ (Cz [] r)):=by
 have hl:=Be r
 refine AJ mixed Ea.ok rfl ?_
 push_cast
 refine Ac (n:=r.length) (R:=fun k=>∀ m,Cz m (r.drop k)=Cz [] r->Ea.L8 (.ptr 0 0) (.ptr 1 0) (.ptr 3 0) .any (Aj r) (.int .i64 r.length) (.int .i64 k) 0 (arH m []) (Bv 0 Ea.rs (dQ (Cz [] r)))) ?_ ?_ 0 (by omega) [] rfl
 ·intro k hk ih m hm
  have hmm:=Fy (A4 hk)
  rw[Ak hk]at hm
  refine A8.2 ?_
  generalize hx:r.getD k default=x at hm hmm
  have h1:=AQ x.left
  have h2:=AQ x.right
  simp only[Cz]at hm
  have hr24:∀ σ,AP σ (cT x.left++cT x.right)=cT x.left++cT x.right:=fun σ=>rfl
  push_cast[ilt hk,hx,hr24]
  refine jp (j:=0) (u:=x.left) (by omega) (by omega) (fun σ=>by rw[Gi,hr24]) rfl (fun h=>by rw[<-hm,h];rfl) fun m1 hm1=>?_
  rw[hm1,Option.bind_some]at hm
  refine jp (j:=1) (u:=x.right) (by omega) (by omega) (fun σ=>by rw[Gi,hr24]) rfl (fun h=>by rw[<-hm,h];rfl) fun m2 hm2=>?_
  rw[hm2,Option.bind_some]at hm
  refine A8.2 ?_
  push_cast[w64 (show k<2^62 by omega)]
  exact ih m2 hm
 ·intro m hm
  refine A8.2 ?_
  push_cast[B6 (Nat.le_refl _)]
  rw[An]at hm
  rw[<-hm]
  refine SD 2 rfl rfl ⟨rfl,?_⟩
  push_cast
end Go.Dw
end
section
namespace Go.Dw
def marked (n:Str):Bool:=Ip n [35]
def Al (r:List A2):Int:=if Bi r≠0 then Bi r else match Cz [] r with
 | none=>6
 | some m=>if m.any (fun p=>marked p.1) then 6 else if r.any KW then 7 else 0
theorem nS {n:Nat}{seen:List Nat}{k:Nat}(hm:n<=seen.length)(hnd:seen.Nodup)(hlt:∀ i∈seen,i<n)(hk:k∉seen)(hkn:k<n):False:=by
 have h1:(seen++[k]).Nodup:=by simp[List.nodup_append,hnd];intro a ha e;exact hk (e▸ha)
 have h2:(seen++[k]).length<=(List.range n).length:=List.Nodup.length_le_of_subset h1 (by
  intro i hi
  rw[List.mem_range]
  rcases List.mem_append.1 hi with h | h
  ·exact hlt i h
  ·simp only[List.mem_singleton]at h;subst h;exact hkn)
 simp at h2;omega
theorem kY {n:Nat}{seen:List Nat}{k:Nat}(hnd:seen.Nodup)(hlt:∀ i∈seen,i<n)(hk:k∉seen)(hkn:k<n):(seen++[k]).Nodup/\∀ i∈seen++[k],i<n:=by
 refine⟨by simp[List.nodup_append,hnd];intro a ha e;exact hk (e▸ha),fun i hi=>?_⟩
 rcases List.mem_append.1 hi with h | h
 ·exact hlt i h
 ·simp only[List.mem_singleton]at h;subst h;exact hkn
theorem R5 (r:List A2)(hs:rbs r<2^38)(hn:∀ m,Cz [] r=some m->∀ p∈m,p.1.length<2^62):PF DH [Aj r] (.int .i64 (Al r)):=by
 have hl:=Be r
 refine Aa Cm.ok rfl ?_
 push_cast
 refine .of (SY r (by omega)) ?_
 unfold Al
 by_cases h1:Bi r=0
 ·rw[if_neg (by simpa using h1)]
  push_cast[h1]
  refine Bt.all (show GN prog (.func I3) [Aj r] [] (dQ (Cz [] r)) from Bb▸W6 r (by omega)) ?_
  intro x H' h
  cases hr:Cz [] r with
  | none =>
   rw[hr]at h
   obtain⟨rfl,rfl⟩:=h
   push_cast
   refine A1 ?_
   push_cast[Cm.rs]
  | some m =>
   have hnm:=hn m hr
   rw[hr]at h
   obtain⟨rfl,rfl⟩:=h
   push_cast
   have hlen:(EM m).length=m.length:=by unfold EM;rw[List.length_map]
   rw[hlen]
   have key:∀ (f:Nat)(seen:List Nat),m.length-seen.length<f->seen.Nodup->(∀ i∈seen,i<m.length)->(∀ i∈seen,marked (m.getD i default).1=false)->Cm.L4 (Aj r) (.it 1) 0
     [.map (EM m),.iter (some 0) m.length seen] (Bv 0 Cm.rs fun x' H'=>x'=.int .i64 (if m.any (fun p=>marked p.1) then 6 else if r.any KW then 7 else 0)/\H'=[]):=by
    intro f
    induction f with
    | zero =>
     intro seen hm hnd hlt hun
     omega
    | succ f ih =>
     intro seen hm hnd hlt hun
     refine A8.2 ?_
     push_cast
     refine ZX 0 m.length seen (EM m) rfl rfl hlen.symm (fun hall=>?_) (fun k p hp hk=>?_)
     ·have hany:m.any (fun p=>marked p.1)=false:=by
       rw[List.any_eq_false]
       intro p hp
       obtain⟨i,hi,rfl⟩:=List.getElem_of_mem hp
       have:=hun i (hall i hi)
       simp only[List.getD_eq_getElem?_getD,hi,List.getElem?_eq_getElem,Option.getD_some]at this
       simp[this]
      push_cast[hany]
      refine .of (DT (p:=KW) (g:=Km) (caps:=[]) (fun _=>rfl) r (by omega) fun x hx=>aB x (by have:=Fy hx;omega)) ?_
      push_cast
      refine⟨fun h=>A1 ?_,fun h=>A1 ?_⟩ <;> push_cast[Cm.rs,h]
     ·have hkl:k<m.length:=by rw[<-hlen];exact (List.getElem?_eq_some_iff.1 hp).1
      have hpe:p=(.str (m.getD k default).1,.int .i64 (m.getD k default).2):=by
       unfold EM at hp
       rw[List.getElem?_map]at hp
       simp[hkl]at hp
       rw[<-hp];simp[List.getD_eq_getElem?_getD,hkl]
      have hen:enV [.map (EM m),.iter (some 0) m.length (seen++[k])] (.it 1)=some (.tup [p.1,p.2]):=by
       simp[enV,hlen,hp]
      subst hpe
      have hmem:m.getD k default∈m:=A4 hkl
      push_cast[hen]
      refine .of (Ym _ (hnm _ hmem)) ?_
      cases hmk:marked (m.getD k default).1 with
      | true =>
       have hany:m.any (fun p=>marked p.1)=true:=List.any_eq_true.2 ⟨_,hmem,hmk⟩
       unfold marked at hmk
       push_cast[hmk]
       refine A1 ?_
       push_cast[Cm.rs,hany]
      | false =>
       have h2:=kY hnd hlt hk hkl
       have hlt':seen.length<m.length:=by
        rcases Nat.lt_or_ge seen.length m.length with h | h
        ·exact h
        ·exact (nS h hnd hlt hk hkl).elim
       have:=ih (seen++[k]) (by simp;omega) h2.1 h2.2 (fun i hi=>by
        rcases List.mem_append.1 hi with h | h
        ·exact hun i h
        ·simp only[List.mem_singleton]at h;subst h;exact hmk)
       unfold marked at hmk
       push_cast[hmk]
       exact this
   exact key (m.length+1) [] (by simp) List.nodup_nil (by simp) (by simp)
 ·rw[if_pos h1]
  push_cast[h1]
  refine A1 ?_
  push_cast[Cm.rs]
end Go.Dw
end
section
namespace Go.Proofs
open Go.Shelf Go.RowKit Go.Lib
theorem GX {P:Program}(w:World)(dT sT ty elem:TypeId)(b o dLen dCap:Nat)(a:Addr)(sLen sCap z:Nat)(cs:List Value)
  (hu:P.underlying dT=some (.slice elem)) (hs:(P.info? elem).map (·.size)=some z) (hn:cs.length=Nat.min sLen dLen*z)
  (hsrc:∀ j v,cs[j]?=some v->w.cell? (a.add j)=some v) (hc:∀ j,j<cs.length->(w.cell? ⟨b,o+j,none⟩).isSome=true) (hf:∀ j,j<cs.length->w.frozen? ⟨b,o+j,none⟩=false) (h1:∀ v∈cs,v.oneCell'=true) :
  (Builtin.copy_ #[dT,sT] ty #[.slice (some ⟨b,o,none⟩) dLen dCap,.slice (some a) sLen sCap]).run P w=.ok (goInt (Nat.min sLen dLen)) (w.setCells b o cs):=by
 have hl:=run_loadCells_list (P:=P) w a cs hsrc
 have hst:=run_storeCells_cells (P:=P) b o cs 0 w (by simpa using hc) (by simpa using hf) h1
 cases hq:P.info? elem with
 | none=>simp[hq]at hs
 | some i =>
  have hi:i.size=z:=by simpa[hq]using hs
  simp[Builtin.copy_,run_underlying hu,Builtin.lenOf,Builtin.firstCells,sizeOf,typeInfo,hq,hi,<-hn,hl,hst]
theorem Tryz.bind_size:(Tryz.prog.info? 148).map (·.size)=some 4:=by kernel_rfl
set_option maxHeartbeats 4000000 in
set_option maxRecDepth 100000 in
theorem Tryz.ins_shift (b n c i vb vc:Nat)(cs vs:List Value)(w:World)(hi:i<n)(hroom:n+1<=c)(hc63:c<=9223372036854775807)(hvb:vb≠b)
  (hcl:cs.length=n*4) (hvl:vs.length=4)
  (hcs:∀ j v,cs[j]?=some v->w.cell? ⟨b,j,none⟩=some v) (hsp:∀ j,j<(n+1)*4->(w.cell? ⟨b,j,none⟩).isSome=true) (hfz:∀ j,j<(n+1)*4->w.frozen? ⟨b,j,none⟩=false)
  (hvs:∀ j v,vs[j]?=some v->w.cell? ⟨vb,j,none⟩=some v) (h1c:∀ v∈cs,v.oneCell'=true) (h1v:∀ v∈vs,v.oneCell'=true)
  (tA tB:TypeId) (kA kB:Nat) (hsa:w.shape? vb=some (tA,kA)) (hsb:w.shape? b=some (tB,kB)) (hkB:kB≠0) (hfa:w.frozen? ⟨vb,0,none⟩=false) (hfe:w.frozen? ⟨vb,kA,none⟩=false) :
  Calls Tryz.prog 297 #[.slice (some ⟨b,0,none⟩) n c,.int .i64 i,.slice (some ⟨vb,0,none⟩) 1 vc] w fun e w' =>
   e=.returned (.slice (some ⟨b,0,none⟩) (n+1) c)/\w'=(w.drew.setCells b ((i+1)*4) (cs.drop (i*4))).setCells b (i*4) vs:=by
 have hz2:¬ ((i:Int)=(n:Int)):=by omega
 have hsz:=Tryz.bind_size
 have hov:∀ lb cb,(callFunc 308 #[.slice (some ⟨vb,0,none⟩) 1 vc,.slice (some ⟨b,(i+1)*4,none⟩) lb cb]).run Tryz.prog w=.ok (.value (.bool false)) w:=fun lb cb=>by
  rw[run_callFunc_extern Tryz.func308 (by kernel_rfl) (by kernel_rfl) (by kernel_rfl) (e:=Extern.SlicesOverlaps.overlaps #[144,144] #[4]) (by kernel_rfl),
   Lib.run_overlaps_apart w 144 4 148 Tryz.underlying144 4 Tryz.sizeOf148 ⟨vb,0,none⟩ ⟨b,(i+1)*4,none⟩ 1 vc lb cb hvb tA tB kA kB hsa hsb hkB hfa hfe]
  rfl
 have hdl:(cs.drop (i*4)).length=(n-i)*4:=by rw[List.length_drop,hcl];omega
 have hw1:IntKind.i64.wrap ((i:Int)+1)=(i:Int)+1:=by rw[IntKind.wrap_i64];omega
 have mixed:=Go.Dw.mixed
 have hb1:(0:Int)<=(i:Int)+1:=by omega
 have hin:i<=n:=by omega
 have htn:((i:Int)+1).toNat=i+1:=by omega
 have hb2:¬ (c=i+1):=by omega
 have hb3:(i:Int)<=(n:Int)+1:=by omega
 have hb4:¬ (c=i):=by omega
 have hcp1:∀ ty dc sc,(Builtin.copy_ #[144,144] ty #[.slice (some ⟨b,(i+1)*4,none⟩) (n-i) dc,.slice (some ⟨b,i*4,none⟩) (n+1-i) sc]).run Tryz.prog w.drew=.ok (goInt (Nat.min (n+1-i) (n-i))) (w.drew.setCells b ((i+1)*4) (cs.drop (i*4))):=fun ty dc sc =>
  GX w.drew _ _ ty 148 b ((i+1)*4) (n-i) dc ⟨b,i*4,none⟩ (n+1-i) sc 4 (cs.drop (i*4)) Tryz.underlying144 hsz (by rw[hdl];simp only[Nat.min_def];split <;> omega)
   (fun j v hj=>by rw[Addr.add_lit];exact hcs (i*4+j) v (by rwa [List.getElem?_drop]at hj))
   (fun j hj=>hsp _ (by omega)) (fun j hj=>hfz _ (by omega)) (fun v hv=>h1c v (List.mem_of_mem_drop hv))
 obtain⟨W1,hW1⟩:∃ W1,W1=w.drew.setCells b ((i+1)*4) (cs.drop (i*4)):=⟨_,rfl⟩
 have hsp1:∀ k,k<(n+1)*4->(W1.cell? ⟨b,k,none⟩).isSome=true:=fun k hk=>by
  rw[hW1]
  exact isSome_setCells b _ _ w.drew (fun j hj=>hsp ((i+1)*4+j) (by rw[hdl]at hj;omega)) _ (hsp k hk)
 have hcp2:∀ (W:World),(∀ x,W.cell? x=W1.cell? x)->(∀ x,W.frozen? x=W1.frozen? x)->∀ ty dc,(Builtin.copy_ #[144,144] ty #[.slice (some ⟨b,i*4,none⟩) (n+1-i) dc,.slice (some ⟨vb,0,none⟩) 1 vc]).run Tryz.prog W=.ok (goInt (Nat.min 1 (n+1-i))) (W.setCells b (i*4) vs):=fun W hWc hWf ty dc =>
  GX W _ _ ty 148 b (i*4) (n+1-i) dc ⟨vb,0,none⟩ 1 vc 4 vs Tryz.underlying144 hsz (by rw[hvl];simp only[Nat.min_def];split <;> omega)
   (fun j v hj=>by
    rw[Addr.add_lit,hWc,hW1,World.cell?_setCells_out b _ _ _ _ (fun h _=>absurd h hvb),Nat.zero_add]
    exact hvs j v hj)
   (fun j hj=>by rw[hWc];exact hsp1 _ (by omega)) (fun j hj=>by rw[hWf,hW1,World.frozen?_setCells];exact hfz _ (by omega)) h1v
 rw[<-hW1]at hcp1
 go_enter Tryz.func297,Tryz.ntmps297
 go_wp2_with (simp only[hov])
 go_region_law_o (refine step_copy_runI rfl _ _ 144 144 rfl _ _ (by simp[Act.eval,Act.put]) (by simp[Act.eval,Act.put]) (hcp1 _ _ _) ?_)
 go_wp2_with (at_builtin;refine wpList_copy_runI _ rfl _ _ 144 144 rfl _ _ rfl rfl (hcp2 _ (fun _=>rfl) (fun _=>rfl) _ _) ?_)
 go_ret
 first | exact⟨rfl,rfl⟩ | exact⟨rfl,by rw[hW1]⟩
end Go.Proofs
end
section
namespace Go.Proofs
open Go.Shelf Go.RowKit Go.Lib
def HX:Value:=.agg #[.string ⟨#[]⟩,.string ⟨#[]⟩,.bool false,.slice none 0 0]
theorem Tryz.bind_info:(Tryz.prog.info? 148).map (fun i=>(i.zero,i.size,i.bytes))=some (some HX,4,64):=by kernel_rfl
theorem FM (cs:Array Value)(k:Nat):(Builtin.zeroCells cs k).size=k*cs.size:=by
 simp[Builtin.zeroCells]
set_option maxHeartbeats 4000000 in
set_option maxRecDepth 100000 in
theorem Tryz.ins_grow (b n c i vb vc:Nat)(cs vs:List Value)(w:World)(hi:i<n)(hnc:n<=c)(hroom:c<n+1)(hbig:(n+1)*64<=140737488355328)
  (hcl:cs.length=n*4) (hvl:vs.length=4)
  (hcs:∀ j v,cs[j]?=some v->w.cell? ⟨b,j,none⟩=some v)
  (hvs:∀ j v,vs[j]?=some v->w.cell? ⟨vb,j,none⟩=some v) (h1c:∀ v∈cs,v.oneCell'=true) (h1v:∀ v∈vs,v.oneCell'=true) :
  Calls Tryz.prog 297 #[.slice (some ⟨b,0,none⟩) n c,.int .i64 i,.slice (some ⟨vb,0,none⟩) 1 vc] w fun e w' =>
   e=.returned (.slice (some ⟨w.heap.size,0,none⟩) (n+1) (grownCap w (n+1) c 148)) /\
   w'=(((w.alloc (.cells ((cs.take (i*4)).toArray++Builtin.zeroCells HX.cells (n+1-i)++Builtin.zeroCells HX.cells (grownCap w (n+1) c 148-(n+1))) 148)).drew.setCells w.heap.size (i*4) vs).drew).setCells w.heap.size ((i+1)*4) (cs.drop (i*4)):=by
 have mixed:=Go.Dw.mixed
 obtain⟨i0,hi0,hz0,hzs,hzb⟩:=info_parts Tryz.bind_info
 have hz2:¬ ((i:Int)=(n:Int)):=by omega
 have hz3:(c:Int)<(n:Int)+1:=by omega
 have hsz:=Tryz.bind_size
 have hbw:b<w.heap.size:=block_lt_of_cell (hcs 0 _ (List.getElem?_eq_getElem (by omega)))
 have hvw:vb<w.heap.size:=block_lt_of_cell (hvs 0 _ (List.getElem?_eq_getElem (by omega)))
 have hkk:(n:Int)+1-(i:Int)=((n+1-i:Nat):Int):=by omega
 have hik:i+(n+1-i)=n+1:=by omega
 have hold:(Builtin.firstCells i0.size i (.slice (some ⟨b,0,none⟩) i c)).run Tryz.prog w.drew=.ok (cs.take (i*4)).toArray w.drew:=by
  rw[hzs]
  exact run_firstCells_some w.drew 4 i ⟨b,0,none⟩ i c (cs.take (i*4)) (by rw[List.length_take];omega) (fun j v hj=>by
   rw[Addr.add_lit,Nat.zero_add]
   rw[List.getElem?_take]at hj
   split at hj
   ·exact hcs j v hj
   ·cases hj)
 have hrz:∀ ty,(Builtin.append_ #[144,3] ty #[.slice (some ⟨b,0,none⟩) i c,.int .i64 ((n:Int)+1-(i:Int))]).run Tryz.prog w =
   .ok (.slice (some ⟨w.heap.size,0,none⟩) (n+1) (grownCap w (n+1) c 148)) (w.drew.alloc (.cells ((cs.take (i*4)).toArray++Builtin.zeroCells HX.cells (n+1-i)++Builtin.zeroCells HX.cells (grownCap w (n+1) c 148-(n+1))) 148)):=fun ty=>by
  have h:=Lib.run_append_grow_zeros w 144 3 ty 148 i0 _ .i64 .i64 Tryz.underlying144 Tryz.underlying3 hi0 hz0 (some ⟨b,0,none⟩) i c (cs.take (i*4)) hold (n+1-i) (by omega) (by omega) (by omega) (by omega) (by rw[hzb];omega) (by rw[hzb,hik];exact growslice_fits hroom hbig)
  rw[hik]at h
  rw[hkk]
  exact h
 obtain⟨G,hG⟩:∃ G,G=grownCap w (n+1) c 148:=⟨_,rfl⟩
 obtain⟨ROW,hROW⟩:∃ ROW:Array Value,ROW=(cs.take (i*4)).toArray++Builtin.zeroCells HX.cells (n+1-i)++Builtin.zeroCells HX.cells (G-(n+1)):=⟨_,rfl⟩
 rw[<-hG]at hrz ⊢
 rw[<-hROW]at hrz ⊢
 have hRl:(n+1)*4<=ROW.size:=by
  rw[hROW]
  have hzc:HX.cells.size=4:=rfl
  simp only[Array.size_append,FM,hzc,List.size_toArray,List.length_take,hcl]
  omega
 obtain⟨W1,hW1⟩:∃ W1,W1=w.drew.alloc (.cells ROW 148):=⟨_,rfl⟩
 rw[<-hW1]at hrz
 have hN:∀ j,j<(n+1)*4->(W1.cell? ⟨w.heap.size,j,none⟩).isSome=true:=fun j hj=>by
  rw[hW1,World.cell?_alloc_at (w:=w.drew) ROW _ w.heap.size j rfl,Array.getElem?_eq_getElem (by omega)];rfl
 have hNf:∀ j,W1.frozen? ⟨w.heap.size,j,none⟩=false:=fun j=>by rw[hW1];exact World.frozen?_alloc_at (w:=w.drew) ROW _ w.heap.size j rfl
 have hOb:∀ j v,w.cell? ⟨b,j,none⟩=some v->W1.cell? ⟨b,j,none⟩=some v:=fun j v h=>by rw[hW1,World.cell?_alloc_past (w:=w.drew) _ b j hbw];exact h
 have hOv:∀ j v,w.cell? ⟨vb,j,none⟩=some v->W1.cell? ⟨vb,j,none⟩=some v:=fun j v h=>by rw[hW1,World.cell?_alloc_past (w:=w.drew) _ vb j hvw];exact h
 have hcpA:∀ (W:World),(∀ x,W.cell? x=W1.cell? x)->(∀ x,W.frozen? x=W1.frozen? x)->∀ ty dc,(Builtin.copy_ #[144,144] ty #[.slice (some ⟨w.heap.size,i*4,none⟩) (n+1-i) dc,.slice (some ⟨vb,0,none⟩) 1 vc]).run Tryz.prog W=.ok (goInt (Nat.min 1 (n+1-i))) (W.setCells w.heap.size (i*4) vs):=fun W hWc hWf ty dc =>
  GX W _ _ ty 148 w.heap.size (i*4) (n+1-i) dc ⟨vb,0,none⟩ 1 vc 4 vs Tryz.underlying144 hsz (by rw[hvl];simp only[Nat.min_def];split <;> omega)
   (fun j v hj=>by rw[Addr.add_lit,hWc,Nat.zero_add];exact hOv _ v (hvs j v hj))
   (fun j hj=>by rw[hWc];exact hN _ (by omega)) (fun j hj=>by rw[hWf];exact hNf _) h1v
 have hGn:n+1<=G:=by rw[hG];exact grownCap_ge w _ _ _
 have hG63:G<=9223372036854775807:=by
  have:=grownCap_le_maxLen w (n+1) c 148 (by unfold maxLen;omega)
  rw[<-hG]at this
  unfold maxLen at this
  omega
 have hGi:¬ (G=i):=by omega
 have hGim:¬ (G=i+1):=by omega
 have hci:¬ (c=i):=by omega
 have hbN:b≠w.heap.size:=by omega
 have hdl:(cs.drop (i*4)).length=(n-i)*4:=by rw[List.length_drop,hcl];omega
 have hcpB:∀ (W:World),(∀ x,W.cell? x=(W1.setCells w.heap.size (i*4) vs).cell? x)->(∀ x,W.frozen? x=(W1.setCells w.heap.size (i*4) vs).frozen? x)->∀ ty dc sc,(Builtin.copy_ #[144,144] ty #[.slice (some ⟨w.heap.size,(i+1)*4,none⟩) (n-i) dc,.slice (some ⟨b,i*4,none⟩) (n-i) sc]).run Tryz.prog W=.ok (goInt (Nat.min (n-i) (n-i))) (W.setCells w.heap.size ((i+1)*4) (cs.drop (i*4))):=fun W hWc hWf ty dc sc =>
  GX W _ _ ty 148 w.heap.size ((i+1)*4) (n-i) dc ⟨b,i*4,none⟩ (n-i) sc 4 (cs.drop (i*4)) Tryz.underlying144 hsz (by rw[hdl];simp only[Nat.min_def];split <;> omega)
   (fun j v hj=>by
    rw[Addr.add_lit,hWc,World.cell?_setCells_out _ _ _ _ _ (fun h _=>absurd h hbN)]
    exact hOb _ v (hcs (i*4+j) v (by rwa [List.getElem?_drop]at hj)))
   (fun j hj=>by rw[hWc];exact isSome_setCells _ _ _ W1 (fun t ht=>hN (i*4+t) (by omega)) _ (hN ((i+1)*4+j) (by omega)))
   (fun j hj=>by rw[hWf,World.frozen?_setCells];exact hNf _) (fun v hv=>h1c v (List.mem_of_mem_drop hv))
 subst hW1
 have hE1:∀ x,((w.alloc (.cells ROW 148)).drew).cell? x=(w.drew.alloc (.cells ROW 148)).cell? x:=fun x=>rfl
 have hE2:∀ x,((w.alloc (.cells ROW 148)).drew).frozen? x=(w.drew.alloc (.cells ROW 148)).frozen? x:=fun x=>rfl
 have hF1:∀ x,(((w.alloc (.cells ROW 148)).drew.setCells w.heap.size (i*4) vs).drew).cell? x=((w.drew.alloc (.cells ROW 148)).setCells w.heap.size (i*4) vs).cell? x:=fun x=>rfl
 have hF2:∀ x,(((w.alloc (.cells ROW 148)).drew.setCells w.heap.size (i*4) vs).drew).frozen? x=((w.drew.alloc (.cells ROW 148)).setCells w.heap.size (i*4) vs).frozen? x:=fun x=>rfl
 have hw1:IntKind.i64.wrap ((i:Int)+1)=(i:Int)+1:=by rw[IntKind.wrap_i64];omega
 have hb1:(0:Int)<=(i:Int)+1:=by omega
 have hin:i<=n:=by omega
 have htn:((i:Int)+1).toNat=i+1:=by omega
 have hb3:(i:Int)<=(n:Int):=by omega
 clear hkk hik hold hROW hG hRl
 go_enter Tryz.func297,Tryz.ntmps297
 go_wp2_with (first
  | (at_builtin;refine Lib.wpList_append_run _ rfl _ _ _ _ rfl _ _ rfl rfl _ _ (hrz _) ?_)
  | (at_builtin;refine wpList_copy_runI _ rfl _ _ 144 144 rfl _ _ rfl rfl (hcpA _ hE1 hE2 _ _) ?_)
  | (at_builtin;refine wpList_copy_runI _ rfl _ _ 144 144 rfl _ _ rfl rfl (hcpB _ (fun _=>rfl) (fun _=>rfl) _ _ _) ?_))
 go_region_law_o (refine step_copy_runI rfl _ _ 144 144 rfl (.slice (some ⟨w.heap.size,(i+1)*4,none⟩) (n-i) (G-(i+1))) (.slice (some ⟨b,i*4,none⟩) (n-i) (c-i)) (by simp[Act.eval,Act.put]) (by simp[Act.eval,Act.put]) (hcpB _ hF1 hF2 3 (G-(i+1)) (c-i)) ?_)
 go_wp2
 go_ret
 exact⟨rfl,rfl⟩
end Go.Proofs
end
section
namespace Go.Proofs
open Go.Shelf Go.RowKit Go.Lib
set_option maxHeartbeats 4000000 in
set_option maxRecDepth 100000 in
theorem Tryz.ins_end_grow (base:Option Addr)(n c vb vc:Nat)(cs vs:List Value)(w:World)(hnc:n<=c)(hroom:c<n+1)(hbig:(n+1)*64<=140737488355328)
  (hcl:cs.length=n*4) (hvl:vs.length=4) (hnil:base=none->n=0)
  (hcs:∀ a,base=some a->∀ j v,cs[j]?=some v->w.cell? (a.add j)=some v)
  (hvs:∀ j v,vs[j]?=some v->w.cell? ⟨vb,j,none⟩=some v) (h1v:∀ v∈vs,v.oneCell'=true) :
  Calls Tryz.prog 297 #[.slice base n c,.int .i64 n,.slice (some ⟨vb,0,none⟩) 1 vc] w fun e w' =>
   e=.returned (.slice (some ⟨w.heap.size,0,none⟩) (n+1) (grownCap w (n+1) c 148)) /\
   w'=w.drew.alloc (.cells ((cs++vs).toArray++Builtin.zeroCells HX.cells (grownCap w (n+1) c 148-(n+1))) 148):=by
 have mixed:=Go.Dw.mixed
 obtain⟨i0,hi0,hz0,hzs,hzb⟩:=info_parts Tryz.bind_info
 have hsrc:Src Tryz.prog i0.size 144 (.slice (some ⟨vb,0,none⟩) 1 vc) 1 vs w:=by
  rw[hzs]
  exact Src.ofSlice w Tryz.underlying144 ⟨vb,0,none⟩ 1 vc vs (by omega) (fun j u hj=>by rw[Addr.add_lit,Nat.zero_add];exact hvs j u hj) h1v
 have hold:(Builtin.firstCells i0.size n (.slice base n c)).run Tryz.prog w.drew=.ok cs.toArray w.drew:=by
  rw[hzs]
  cases base with
  | none =>
   have h0:=hnil rfl
   subst h0
   have hc0:cs=[]:=List.length_eq_zero_iff.1 (by omega)
   rw[hc0]
   exact run_firstCells_none w.drew 4 0 0 c
  | some a=>exact run_firstCells_some w.drew 4 n a n c cs (by omega) (fun j v hj=>hcs a rfl j v hj)
 have hrun:∀ ty,(Builtin.append_ #[144,144] ty #[.slice base n c,.slice (some ⟨vb,0,none⟩) 1 vc]).run Tryz.prog w=.ok (.slice (some ⟨w.heap.size,0,none⟩) (n+1) (grownCap w (n+1) c 148)) (w.drew.alloc (.cells ((cs++vs).toArray++Builtin.zeroCells HX.cells (grownCap w (n+1) c 148-(n+1))) 148)):=fun ty =>
  run_append_grow_src w 144 144 ty 148 i0 HX Tryz.underlying144 hi0 hz0 base n c cs hold _ 1 vs hsrc hroom (by omega) (by rw[hzb];exact growslice_fits hroom hbig)
 obtain⟨ROW,hROW⟩:∃ ROW:Array Value,ROW=(cs++vs).toArray++Builtin.zeroCells HX.cells (grownCap w (n+1) c 148-(n+1)):=⟨_,rfl⟩
 rw[<-hROW]at hrun ⊢
 clear hROW
 go_enter Tryz.func297,Tryz.ntmps297
 cases base with
 | none =>
  have h0:=hnil rfl
  subst h0
  go_wp2_with (at_builtin;refine Lib.wpList_append_run _ rfl _ _ _ _ rfl _ _ rfl rfl _ _ (hrun _) ?_)
  go_ret
  exact⟨rfl,rfl⟩
 | some a =>
  obtain⟨ab,ao,asp⟩:=a
  go_wp2_with (at_builtin;refine Lib.wpList_append_run _ rfl _ _ _ _ rfl _ _ rfl rfl _ _ (hrun _) ?_)
  all_goals (go_ret;exact⟨rfl,rfl⟩)
set_option maxHeartbeats 4000000 in
set_option maxRecDepth 100000 in
theorem Tryz.ins_end_room (b n c vb vc:Nat)(vs:List Value)(w:World)(hroom:n+1<=c)(hc63:c<=9223372036854775807)
  (hvl:vs.length=4) (hsp:∀ j,j<4->(w.cell? ⟨b,n*4+j,none⟩).isSome=true) (hfz:∀ j,j<4->w.frozen? ⟨b,n*4+j,none⟩=false)
  (hvs:∀ j v,vs[j]?=some v->w.cell? ⟨vb,j,none⟩=some v) (h1v:∀ v∈vs,v.oneCell'=true) :
  Calls Tryz.prog 297 #[.slice (some ⟨b,0,none⟩) n c,.int .i64 n,.slice (some ⟨vb,0,none⟩) 1 vc] w fun e w' =>
   e=.returned (.slice (some ⟨b,0,none⟩) (n+1) c)/\w'=w.setCells b (n*4) vs:=by
 have mixed:=Go.Dw.mixed
 obtain⟨i0,hi0,hz0,hzs,hzb⟩:=info_parts Tryz.bind_info
 have hrun:∀ ty,(Builtin.append_ #[144,144] ty #[.slice (some ⟨b,0,none⟩) n c,.slice (some ⟨vb,0,none⟩) 1 vc]).run Tryz.prog w=.ok (.slice (some ⟨b,0,none⟩) (n+1) c) (w.setCells b (n*4) vs):=fun ty=>by
  have h:=run_append_room_cells (P:=Tryz.prog) w 144 ty 148 i0 Tryz.underlying144 hi0 b 0 n c ⟨vb,0,none⟩ 1 vc vs (by rw[hzs];omega) (fun j u hj=>by rw[Addr.add_lit,Nat.zero_add];exact hvs j u hj) h1v hroom
   (fun j hj=>by rw[hzs,Nat.zero_add];exact hsp j (by omega)) (fun j hj=>by rw[hzs,Nat.zero_add];exact hfz j (by omega))
  rw[hzs,Nat.zero_add]at h
  exact h
 obtain⟨W,hW⟩:∃ W,W=w.setCells b (n*4) vs:=⟨_,rfl⟩
 rw[<-hW]at hrun ⊢
 clear hW
 go_enter Tryz.func297,Tryz.ntmps297
 go_wp2_with (at_builtin;refine Lib.wpList_append_run _ rfl _ _ _ _ rfl _ _ rfl rfl _ _ (hrun _) ?_)
 go_ret
 exact⟨rfl,rfl⟩
end Go.Proofs
end
section
namespace Go.Dw
open Go.Proofs Go.Sort Go.Lib
theorem Fq (b:Nat):∀ (us:List Value)(o:Nat)(w:World),(w.setCells b o us).heap.size=w.heap.size/\(∀ b',b'≠b->(w.setCells b o us).heap[b']?=w.heap[b']?) /\
  (∀ vs t fr,w.heap[b]?=some (.cells vs t fr)->∃ vs1,(w.setCells b o us).heap[b]?=some (.cells vs1 t fr)/\vs1.size=vs.size)/\(w.setCells b o us).os=w.os/\(w.setCells b o us).tape=w.tape/\(w.setCells b o us).output=w.output
 | [],o,w=>⟨rfl,fun _ _=>rfl,fun vs t fr h=>⟨vs,h,rfl⟩,rfl,rfl,rfl⟩
 | u::us,o,w=>by
  obtain⟨h1,h2,h3,h4,h5,h6⟩:=Fq b us (o+1) (w.setCell ⟨b,o,none⟩ u)
  have e1:(w.setCell ⟨b,o,none⟩ u).heap.size=w.heap.size:=by rw[setCell_eq];simp[mapBlock]
  have e2:∀ b',b'≠b->(w.setCell ⟨b,o,none⟩ u).heap[b']?=w.heap[b']?:=fun b' hb=>by
   rw[setCell_eq];simp only[mapBlock];rw[Array.getElem?_modify,if_neg (Ne.symm hb)]
  refine⟨by rw[World.setCells,h1,e1],fun b' hb=>by rw[World.setCells,h2 b' hb,e2 b' hb],fun vs t fr h=>?_,?_,?_,?_⟩
  ·have:(w.setCell ⟨b,o,none⟩ u).heap[b]?=some (.cells (vs.setIfInBounds o u) t fr):=by
    rw[setCell_eq];simp only[mapBlock];rw[Array.getElem?_modify,if_pos rfl,h];rfl
   obtain⟨vs1,q1,q2⟩:=h3 _ _ _ this
   exact⟨vs1,by rw[World.setCells];exact q1,by rw[q2];simp⟩
  ·rw[World.setCells,h4,setCell_eq];rfl
  ·rw[World.setCells,h5,setCell_eq];rfl
  ·rw[World.setCells,h6,setCell_eq];rfl
theorem KQ (b:Nat):∀ (us:List Value)(o:Nat)(w:World),(w.setCells b o us).drawn=w.drawn
 | [],o,w=>rfl
 | u::us,o,w=>by rw[World.setCells,KQ b us,setCell_eq];rfl
theorem um {c:Cx}(hc:AZ c){els:List (List V)}{new:List V}{e i n z:Nat}(hH:c.H=[.row e z els,.arr e z 1])(hn:els.length=n)(hi:i<=n){w':World}{bN kN:Nat}{vs1:Array Value}{us:List Value}
  (hb:(∃ k,c.ρ 0=some (bN,k))\/c.w.heap.size<=bN) (hmax:n+1<=Ag)
  (h1:w'.heap[bN]?=some (.cells vs1 e (0,0))) (h2:vs1.size=kN*z) (h3:n+1<=kN) (h4:kN<=BV)
  (hold:∀ (l:Nat)(el:List V),els[l]?=some el->el.length=z/\∀ (j:Nat)(x:V),el[j]?=some x->∃ v,vs1[(if l<i then l else l+1)*z+j]?=some v/\Ci v=true/\rep c x v)
  (hnew:new.length=z/\∀ (j:Nat)(x:V),new[j]?=some x->∃ v,vs1[i*z+j]?=some v/\Ci v=true/\rep c x v)
  (hoth:∀ b',b'<c.w.heap.size->b'≠bN->w'.heap[b']?=c.w.heap[b']?) (hsz:c.w.heap.size<=w'.heap.size) (hos:w'.os=c.w.os) (htp:w'.tape=c.w.tape) (hou:w'.output=c.w.output) (hdr:c.w.drawn<=w'.drawn) :
  ∃ v x c',Ending.returned (.slice (some ⟨bN,0,none⟩) (n+1) kN)=.returned v/\c'.w=w'/\(x=.rw 0 z (n+1)/\c'.H=[.row e z (els.take i++new::els.drop i),.arr e z 1])/\AZ c'/\rep c' x v/\Fr c c':=by
 have hH0:c.H[0]?=some (.row e z els):=by rw[hH];rfl
 have hH1:c.H[1]?=some (.arr e z 1):=by rw[hH];rfl
 have hHl:c.H.length=2:=by rw[hH];rfl
 obtain⟨o1,o2⟩:=hc.obj 0 _ hH0
 have hnok:∀ o,¬ c.ok bN o:=fun o ho=>by
  rcases hb with ⟨k,hk⟩ | hb
  ·obtain⟨_,_,_,_,_,h5,_⟩:=o2 bN k hk;exact h5 o ho
  ·have:=hc.okLt _ _ ho;omega
 have h1ne:∀ b' k',c.ρ 1=some (b',k')->b'≠bN/\b'<c.w.heap.size:=fun b' k' h=>by
  have hlt:=IU hc (show 1<c.H.length by omega) h
  refine⟨fun e1=>?_,hlt⟩
  subst e1
  rcases hb with ⟨k,hk⟩ | hb
  ·exact absurd (hc.inj 0 1 b' k k' (by omega) (by omega) hk h) (by decide)
  ·omega
 generalize hc':(⟨w',c.ok,upd c.ρ 0 (some (bN,kN)),[.row e z (els.take i++new::els.drop i),.arr e z 1]⟩:Cx)=c'
 have hw:c'.w=w':=by rw[<-hc']
 have hk':c'.ok=c.ok:=by rw[<-hc']
 have hρ0:c'.ρ 0=some (bN,kN):=by rw[<-hc'];simp[upd]
 have hρ1:∀ j,j≠0->c'.ρ j=c.ρ j:=fun j hj=>by rw[<-hc'];exact AM hj
 have hH':c'.H=[.row e z (els.take i++new::els.drop i),.arr e z 1]:=by rw[<-hc']
 have hlen':(els.take i++new::els.drop i).length=n+1:=by simp;omega
 have hf:Fr c c':=by
  refine⟨fun _ _ h=>by rw[hk'];exact h,fun b' o h=>?_,by rw[hw];exact hsz,fun _ _ h=>.inl (by rw[hk']at h;exact h),fun b' hlt hno=>?_,fun b' hb'=>?_,fun j o hj=>?_,by rw[hw];exact hos,by rw[hw];exact htp,by rw[hw];exact hou,by rw[hw];exact hdr⟩
  ·have hne:b'≠bN:=fun e=>hnok o (e▸h)
   simp only[World.cell?,hw]
   rw[hoth b' (hc.okLt _ _ h) hne]
  ·rw[hw]
   refine hoth b' hlt fun e1=>?_
   subst e1
   rcases hb with ⟨k,hk⟩ | hb
   ·exact hno ⟨0,k,by omega,hk⟩
   ·omega
  ·obtain⟨j,k',hj,hr⟩:=hb'
   have hj:j<2:=by rw[hH']at hj;simpa using hj
   by_cases e0:j=0
   ·subst e0
    rw[hρ0]at hr;cases hr
    rcases hb with ⟨k,hk⟩ | hb
    ·exact .inl ⟨0,k,by omega,hk⟩
    ·exact .inr hb
   ·rw[hρ1 j e0]at hr
    exact .inl ⟨j,k',by omega,hr⟩
  ·rw[hH]at hj
   match j,hj with
   | 0,hj =>
    simp only[List.getElem?_cons_zero,Option.some.injEq]at hj
    subst hj
    exact⟨.row e z (els.take i++new::els.drop i),by rw[hH'];rfl,rfl,rfl,by omega,fun h=>by omega⟩
   | 1,hj =>
    simp only[List.getElem?_cons_succ,List.getElem?_cons_zero,Option.some.injEq]at hj
    subst hj
    exact⟨.arr e z 1,by rw[hH'];rfl,rfl,rfl,Nat.le_refl _,fun _=>hρ1 1 (by omega)⟩
   | j+2,hj=>simp at hj
 refine⟨_,_,c',rfl,hw,⟨rfl,hH'⟩,?_,?_,hf⟩
 ·refine⟨fun j1 j2 b' k1 k2 q1 q2 q3 q4=>?_,fun b' o h=>?_,fun j o hj=>?_,hc.globFr hf⟩
  ·rw[hH']at q1 q2
   simp only[List.length_cons,List.length_nil]at q1 q2
   by_cases e1:j1=0 <;> by_cases e2:j2=0
   ·omega
   ·have:j2=1:=by omega
    subst e1 this
    rw[hρ0]at q3;cases q3
    rw[hρ1 1 (by omega)]at q4
    exact absurd rfl (h1ne _ _ q4).1
   ·have:j1=1:=by omega
    subst e2 this
    rw[hρ0]at q4;cases q4
    rw[hρ1 1 (by omega)]at q3
    exact absurd rfl (h1ne _ _ q3).1
   ·omega
  ·rw[hk']at h;rw[hw];have:=hc.okLt _ _ h;omega
  ·rw[hH']at hj
   match j,hj with
   | 0,hj =>
    simp only[List.getElem?_cons_zero,Option.some.injEq]at hj
    subst hj
    refine⟨fun h=>(by rw[hρ0]at h;cases h),fun b' k' h=>?_⟩
    rw[hρ0]at h;cases h
    refine⟨vs1,by rw[hw];exact h1,h2,by omega,h4,fun o ho=>hnok o (by rw[hk']at ho;exact ho),fun l el hl=>?_⟩
    rw[List.getElem?_append]at hl
    have hti:(els.take i).length=i:=by rw[List.length_take];omega
    rw[hti]at hl
    by_cases e1:l<i
    ·rw[if_pos e1,List.getElem?_take,if_pos e1]at hl
     obtain⟨q1,q2⟩:=hold l el hl
     refine⟨q1,fun j x hx=>?_⟩
     obtain⟨v,r1,r2,r3⟩:=q2 j x hx
     rw[if_pos e1]at r1
     exact⟨v,r1,r2,AU hf r3⟩
    ·rw[if_neg e1]at hl
     by_cases e2:l=i
     ·subst e2
      rw[Nat.sub_self,List.getElem?_cons_zero]at hl
      cases hl
      refine⟨hnew.1,fun j x hx=>?_⟩
      obtain⟨v,r1,r2,r3⟩:=hnew.2 j x hx
      exact⟨v,r1,r2,AU hf r3⟩
     ·obtain⟨m,rfl⟩:∃ m,l=m+1:=⟨l-1,by omega⟩
      have e3:m+1-i=(m-i)+1:=by omega
      rw[e3,List.getElem?_cons_succ,List.getElem?_drop,show i+(m-i)=m by omega]at hl
      obtain⟨q1,q2⟩:=hold m el hl
      refine⟨q1,fun j x hx=>?_⟩
      obtain⟨v,r1,r2,r3⟩:=q2 j x hx
      rw[if_neg (by omega)]at r1
      exact⟨v,r1,r2,AU hf r3⟩
   | 1,hj =>
    simp only[List.getElem?_cons_succ,List.getElem?_cons_zero,Option.some.injEq]at hj
    subst hj
    obtain⟨a1,a2⟩:=hc.obj 1 _ hH1
    refine⟨fun h=>a1 (by rw[<-hρ1 1 (by omega)];exact h),fun b' k' h=>?_⟩
    rw[hρ1 1 (by omega)]at h
    obtain⟨ne,hlt⟩:=h1ne _ _ h
    obtain⟨vs,r1,r2,r3,r4,r5⟩:=a2 b' k' h
    exact⟨vs,by rw[hw,hoth b' hlt ne];exact r1,r2,r3,r4,fun o ho=>by rw[hk'];exact r5 o ho⟩
   | j+2,hj=>simp at hj
 ·refine⟨by rw[hH'];simp,⟨_,_,rfl,hmax,.inr ⟨_,_,rfl⟩⟩,fun e' sz' els' hh=>?_⟩
  rw[hH']at hh
  simp only[List.getElem?_cons_zero,Option.some.injEq,Ob.row.injEq]at hh
  obtain⟨rfl,rfl,rfl⟩:=hh
  exact⟨rfl,by omega,fun _=>by rw[hρ0];rfl⟩
end Go.Dw
end
section
namespace Go.Dw
open Go.Proofs Go.Sort Go.Lib
theorem zt (args:Array Value)(w:World):(callFunc 297 args).run Tryz.prog w=.ok (.enter 297 args) w:=enters_of (P:=Tryz.prog) Tryz.func297 (by kernel_rfl) rfl args w
theorem XI {c:Cx}(hc:AZ c){els:List (List V)}{new:List V}{e i n:Nat}(hH:c.H=[.row e 4 els,.arr e 4 1])(hn:els.length=n)(hi:i<=n){w':World}{bN kN:Nat}{vs0 vs1:Array Value}{us cs:List Value}
  (hb:(∃ k,c.ρ 0=some (bN,k))\/c.w.heap.size<=bN) (hmax:n+1<=Ag) (h1:w'.heap[bN]?=some (.cells vs1 e (0,0))) (h2:vs1.size=kN*4) (h3:n+1<=kN) (h4:kN<=BV)
  (hrow:La c 4 els vs0) (hcs:∀ j,j<n*4->cs[j]?=vs0[j]?) (hus:new.length=4/\∀ (j:Nat)(x:V),new[j]?=some x->∃ v,us[j]?=some v/\Ci v=true/\rep c x v)
  (hcell:∀ j,j<(n+1)*4->vs1[j]?=if j<i*4 then cs[j]? else if j<i*4+4 then us[j-i*4]? else cs[j-4]?)
  (hoth:∀ b',b'<c.w.heap.size->b'≠bN->w'.heap[b']?=c.w.heap[b']?) (hsz:c.w.heap.size<=w'.heap.size) (hos:w'.os=c.w.os) (htp:w'.tape=c.w.tape) (hou:w'.output=c.w.output) (hdr:c.w.drawn<=w'.drawn:=by first | exact Nat.le_refl _ | exact Nat.le_succ _ | (simp only[KQ];first | exact Nat.le_refl _ | exact Nat.le_succ _) | (subst_vars;simp only[World.drew,World.alloc,KQ];omega)) :
  ∃ v x c',Ending.returned (.slice (some ⟨bN,0,none⟩) (n+1) kN)=.returned v/\c'.w=w'/\(x=.rw 0 4 (n+1)/\c'.H=[.row e 4 (els.take i++new::els.drop i),.arr e 4 1])/\AZ c'/\rep c' x v/\Fr c c':=by
 refine um hc hH hn hi hb hmax h1 h2 h3 h4 (fun l el hl=>?_) ⟨hus.1,fun j x hx=>?_⟩ hoth hsz hos htp hou hdr (us:=us)
 ·obtain⟨q1,q2⟩:=hrow l el hl
  refine⟨q1,fun j x hx=>?_⟩
  obtain⟨v,r1,r2,r3⟩:=q2 j x hx
  have hj:j<4:=by rw[<-q1];exact (List.getElem?_eq_some_iff.1 hx).1
  have hln:l<n:=by rw[<-hn];exact (List.getElem?_eq_some_iff.1 hl).1
  refine⟨v,?_,r2,r3⟩
  by_cases e1:l<i
  ·rw[if_pos e1,hcell _ (by omega),if_pos (by omega),hcs _ (by omega)];exact r1
  ·rw[if_neg e1,hcell _ (by omega),if_neg (by omega),if_neg (by omega),hcs _ (by omega),show (l+1)*4+j-4=l*4+j by omega];exact r1
 ·obtain⟨v,r1,r2,r3⟩:=hus.2 j x hx
  have hj:j<4:=by rw[<-hus.1];exact (List.getElem?_eq_some_iff.1 hx).1
  refine⟨v,?_,r2,r3⟩
  rw[hcell _ (by omega),if_neg (by omega),if_pos (by omega),show i*4+j-i*4=j by omega];exact r1
theorem iv (els:List (List V))(new:List V)(i n:Nat)(hn:els.length=n)(hi:i<=n)(hbig:(n+1)*64<=Ag) :
  Spec prog Fz [.rw 0 4 n,.int .i64 i,.own 1 4 [new]] [.row BX 4 els,.arr BX 4 1] fun x H'=>x=.rw 0 4 (n+1)/\H'=[.row BX 4 (els.take i++new::els.drop i),.arr BX 4 1]:=by
 intro c vs hH hc hr
 obtain⟨v0,vs',rfl,hv0,v1,vs'',rfl,hv1,v2,vs3,rfl,hv2,hvn⟩:=hr
 have hvn:vs3=[]:=hvn
 subst hvn
 have hv1:v1=.int .i64 i:=hv1
 subst hv1
 left
 have hH0:c.H[0]?=some (.row BX 4 els):=by rw[hH];rfl
 have hH1:c.H[1]?=some (.arr BX 4 1):=by rw[hH];rfl
 refine⟨zt _ _,?_⟩
 obtain⟨hp,_,q2⟩:=hv2
 have hcur:=(q2 _ _ _ hH1).2.2 rfl
 obtain⟨a',c',b',o',e3,_,_,_,e4,e5⟩:=hp
 obtain⟨us,s1,s2,s3⟩:=Lk e5
 have he4:=e4.resolve_left (by simp)
 subst e3 he4
 cases hρ1:c.ρ 1 with
 | none=>rw[hρ1]at hcur;cases hcur
 | some bk =>
 obtain⟨vb,kv⟩:=bk
 rw[hρ1]at hcur
 have hcur:Value.slice (some ⟨b',o',none⟩) 1 c'=.slice (some ⟨vb,0,none⟩) 1 kv:=hcur
 simp only[Value.slice.injEq,Option.some.injEq,Addr.mk.injEq,and_true,true_and]at hcur
 obtain⟨⟨rfl,rfl⟩,rfl⟩:=hcur
 obtain⟨va,va1,va2,va3,va4,_⟩:=(hc.obj 1 _ hH1).2 _ _ hρ1
 have hus4:us.length=4:=by simpa using s1
 have husc:∀ j v,us[j]?=some v->c.w.cell? ⟨b',j,none⟩=some v:=fun j v hj=>by have:=(s2 j v hj).1;simpa using this
 have hus1:∀ v∈us,v.oneCell'=true:=fun v hv=>by
  obtain⟨j,hj,e⟩:=List.getElem_of_mem hv
  rw[T3];exact (s2 j v (by rw[List.getElem?_eq_getElem hj,e])).2
 have hnewf:new.length=4/\∀ (j:Nat)(x:V),new[j]?=some x->∃ v,us[j]?=some v/\Ci v=true/\rep c x v:=by
  obtain⟨t1,t2⟩:=s3 0 new rfl
  refine⟨t1,fun j x hx=>?_⟩
  obtain⟨v,u1,u2⟩:=t2 j x hx
  have u1:us[j]?=some v:=by simpa using u1
  exact⟨v,u1,(s2 j v u1).2,EV u2⟩
 have hvlt:b'<c.w.heap.size:=(Array.getElem?_eq_some_iff.1 va1).1
 have hmx:Ag=140737488355328:=rfl
 have hcm:BV=9223372036854775807:=rfl
 obtain⟨_,⟨a0,k0,hv0,hle0,_⟩,q3⟩:=hv0
 have hcur0:=(q3 _ _ _ hH0).2.2 hn
 obtain⟨o1,o2⟩:=hc.obj 0 _ hH0
 cases hρ0:c.ρ 0 with
 | none =>
  have hels:=o1 hρ0
  subst hels
  have hn0:n=0:=hn.symm
  subst hn0
  have hi0:i=0:=by omega
  subst hi0
  rw[hρ0]at hcur0
  have hcur0:v0=.slice none 0 0:=hcur0
  subst hcur0
  refine (Tryz.ins_end_grow none 0 0 b' c' [] us c.w (by omega) (by omega) (by omega) rfl hus4 (fun _=>rfl) (fun a h=>by cases h) husc hus1).mono ?_
  rintro e w' ⟨rfl,rfl⟩
  have hG:=grownCap_ge c.w 1 0 148
  have hG2:=grownCap_le_maxLen c.w 1 0 148 (by unfold maxLen;omega)
  generalize grownCap c.w (0+1) 0 148=G at hG hG2 ⊢
  refine XI hc hH rfl (Nat.le_refl 0) (bN:=c.w.heap.size) (kN:=G) (vs0:=#[]) (vs1:=([]++us).toArray++Builtin.zeroCells HX.cells (G-1)) (us:=us) (cs:=[]) (.inr (Nat.le_refl _)) (by omega) ?_ ?_ hG (by unfold maxLen at hG2;omega) (fun l el hl=>by simp at hl) (fun j hj=>by omega) hnewf (fun j hj=>?_) (fun b1 h1 h2=>?_) ?_ rfl rfl rfl
  ·show (c.w.heap.push _)[c.w.heap.size]?=_
   rw[Array.getElem?_push_size];rfl
  ·have hzc:HX.cells.size=4:=rfl
   simp only[Array.size_append,FM,hzc,List.size_toArray,List.nil_append,hus4];omega
  ·rw[if_neg (by omega),if_pos (by omega),Array.getElem?_append_left (by simp;omega)]
   simp
  ·exact BO h1
  ·show c.w.heap.size<=(c.w.heap.push _).size
   rw[Array.size_push];omega
 | some bk =>
 obtain⟨b,k⟩:=bk
 rw[hρ0]at hcur0
 have hcur0:v0=.slice (some ⟨b,0,none⟩) n k:=hcur0
 subst hcur0
 obtain⟨vs0,r1,r2,r3,r4,r5,r6⟩:=o2 b k hρ0
 rw[hn]at r3
 have hblt:b<c.w.heap.size:=(Array.getElem?_eq_some_iff.1 r1).1
 have hvb:b'≠b:=fun e=>by
  have:=hc.inj 0 1 b k c' (by rw[hH];simp) (by rw[hH];simp) hρ0 (e▸hρ1)
  omega
 generalize hcs:vs0.toList.take (n*4)=cs
 have hcsl:cs.length=n*4:=by rw[<-hcs,List.length_take,Array.length_toList,r2];omega
 have hcsg:∀ j,j<n*4->cs[j]?=vs0[j]?:=fun j hj=>by rw[<-hcs,List.getElem?_take,if_pos hj];simp
 have hcell:∀ j,c.w.cell? ⟨b,j,none⟩=vs0[j]?:=fun j=>by simp only[World.cell?,r1];rfl
 have hfz:∀ j,c.w.frozen? ⟨b,j,none⟩=false:=fun j=>by simp[World.frozen?,r1]
 have hcsc:∀ j v,cs[j]?=some v->c.w.cell? ⟨b,j,none⟩=some v:=fun j v hj=>by
  have hjl:j<n*4:=by rw[<-hcsl];exact (List.getElem?_eq_some_iff.1 hj).1
  rw[hcell,<-hcsg j hjl];exact hj
 have hcs1:∀ v∈cs,v.oneCell'=true:=fun v hv=>by
  obtain⟨j,hj,e⟩:=List.getElem_of_mem hv
  have hjl:j<n*4:=by rw[<-hcsl];exact hj
  have hl:j / 4<els.length:=by omega
  obtain⟨t1,t2⟩:=r6 (j / 4) els[j / 4] (List.getElem?_eq_getElem hl)
  obtain⟨u,u1,u2,_⟩:=t2 (j % 4) (els[j / 4][j % 4]'(by omega)) (List.getElem?_eq_getElem (by omega))
  rw[show j / 4*4+j % 4=j by omega,<-hcsg j hjl,List.getElem?_eq_getElem hj,e]at u1
  cases u1
  rw[T3];exact u2
 have hsp:k ≥ n+1->∀ j,j<(n+1)*4->(c.w.cell? ⟨b,j,none⟩).isSome=true:=fun hk j hj=>by
  rw[hcell,Array.getElem?_eq_getElem (by omega)];rfl
 by_cases hin:i=n
 ·subst hin
  by_cases hk:i+1<=k
  ·refine (Tryz.ins_end_room b i k b' c' us c.w hk (by omega) hus4 (fun j hj=>hsp hk _ (by omega)) (fun j _=>hfz _) husc hus1).mono ?_
   rintro e w' ⟨rfl,rfl⟩
   obtain⟨g1,g2,g3,g4,g5,g6⟩:=Fq b us (i*4) c.w
   obtain⟨vs1,g7,g8⟩:=g3 _ _ _ r1
   have hw:∀ j,vs1[j]?=(c.w.setCells b (i*4) us).cell? ⟨b,j,none⟩:=fun j=>by simp only[World.cell?,g7];rfl
   refine XI hc hH hn hi (bN:=b) (kN:=k) (vs0:=vs0) (vs1:=vs1) (us:=us) (cs:=cs) (.inl ⟨k,hρ0⟩) (by omega) g7 (by rw[g8,r2]) hk r4 r6 hcsg hnewf (fun j hj=>?_) (fun b1 _ h2=>g2 b1 h2) (by rw[g1];exact Nat.le_refl _) g4 g5 g6
   rw[hw]
   by_cases e1:j<i*4
   ·rw[if_pos e1,World.cell?_setCells_out b _ _ _ _ (fun _ _=>.inl e1),hcell,hcsg j e1]
   ·rw[if_neg e1,if_pos (by omega)]
    have:=World.cell?_setCells_in b us (i*4) c.w (fun t ht=>hsp hk _ (by omega)) (j-i*4) (by omega)
    rw[show i*4+(j-i*4)=j by omega]at this
    rw[this,List.getElem?_eq_getElem]
  ·refine (Tryz.ins_end_grow (some ⟨b,0,none⟩) i k b' c' cs us c.w r3 (by omega) (by omega) hcsl hus4 (fun h=>by cases h) (fun a h j v hj=>by cases h;rw[Addr.add_lit,Nat.zero_add];exact hcsc j v hj) husc hus1).mono ?_
   rintro e w' ⟨rfl,rfl⟩
   have hG:=grownCap_ge c.w (i+1) k 148
   have hG2:=grownCap_le_maxLen c.w (i+1) k 148 (by unfold maxLen;omega)
   generalize grownCap c.w (i+1) k 148=G at hG hG2 ⊢
   refine XI hc hH hn hi (bN:=c.w.heap.size) (kN:=G) (vs0:=vs0) (vs1:=(cs++us).toArray++Builtin.zeroCells HX.cells (G-(i+1))) (us:=us) (cs:=cs) (.inr (Nat.le_refl _)) (by omega) ?_ ?_ hG (by unfold maxLen at hG2;omega) r6 hcsg hnewf (fun j hj=>?_) (fun b1 h1 h2=>?_) ?_ rfl rfl rfl
   ·show (c.w.heap.push _)[c.w.heap.size]?=_
    rw[Array.getElem?_push_size];rfl
   ·have hzc:HX.cells.size=4:=rfl
    simp only[Array.size_append,FM,hzc,List.size_toArray,List.length_append,hus4,hcsl];omega
   ·rw[Array.getElem?_append_left (by simp[hcsl,hus4];omega),List.getElem?_toArray,List.getElem?_append,hcsl]
    by_cases e1:j<i*4
    ·rw[if_pos e1,if_pos e1]
    ·rw[if_neg e1,if_neg e1,if_pos (by omega)]
   ·exact BO h1
   ·show c.w.heap.size<=(c.w.heap.push _).size
    rw[Array.size_push];omega
 ·have hin':i<n:=by omega
  by_cases hk:n+1<=k
  ·refine (Tryz.ins_shift b n k i b' c' cs us c.w hin' hk (by omega) hvb hcsl hus4 hcsc (hsp hk) (fun j _=>hfz _) husc hcs1 hus1 BX BX va.size vs0.size (by simp[World.shape?,va1]) (by simp[World.shape?,r1]) (by omega) (by simp[World.frozen?,va1]) (by simp[World.frozen?,va1])).mono ?_
   rintro e w' ⟨rfl,rfl⟩
   have hdl:(cs.drop (i*4)).length=(n-i)*4:=by rw[List.length_drop,hcsl];omega
   have hsp':∀ j,j<(n+1)*4->(c.w.drew.cell? ⟨b,j,none⟩).isSome=true:=hsp hk
   obtain⟨g1,g2,g3,g4,g5,g6⟩:=Fq b (cs.drop (i*4)) ((i+1)*4) c.w.drew
   obtain⟨vsA,g7,g8⟩:=g3 _ _ _ r1
   generalize hW1:c.w.drew.setCells b ((i+1)*4) (cs.drop (i*4))=W1 at g1 g2 g3 g4 g5 g6 g7 ⊢
   obtain⟨f1,f2,f3,f4,f5,f6⟩:=Fq b us (i*4) W1
   obtain⟨vs1,f7,f8⟩:=f3 _ _ _ g7
   have hw:∀ j,vs1[j]?=(W1.setCells b (i*4) us).cell? ⟨b,j,none⟩:=fun j=>by simp only[World.cell?,f7];rfl
   refine XI hc hH hn hi (bN:=b) (kN:=k) (vs0:=vs0) (vs1:=vs1) (us:=us) (cs:=cs) (.inl ⟨k,hρ0⟩) (by omega) f7 (by rw[f8,g8,r2]) hk r4 r6 hcsg hnewf (fun j hj=>?_) (fun b1 _ h2=>by rw[f2 b1 h2,g2 b1 h2];rfl) (by rw[f1,g1];exact Nat.le_refl _) (by rw[f4,g4];rfl) (by rw[f5,g5];rfl) (by rw[f6,g6];rfl)
   rw[hw]
   have hsp1:∀ j,j<(n+1)*4->(W1.cell? ⟨b,j,none⟩).isSome=true:=fun j hj=>by
    rw[<-hW1]
    exact isSome_setCells b _ _ c.w.drew (fun t ht=>hsp' ((i+1)*4+t) (by rw[hdl]at ht;omega)) _ (hsp' j hj)
   by_cases e1:j<i*4
   ·rw[if_pos e1,World.cell?_setCells_out b _ _ _ _ (fun _ _=>.inl e1),<-hW1,World.cell?_setCells_out b _ _ _ _ (fun _ _=>.inl (by show j<(i+1)*4;omega))]
    show c.w.cell? ⟨b,j,none⟩=_
    rw[hcell,hcsg j (by omega)]
   ·rw[if_neg e1]
    by_cases e2:j<i*4+4
    ·rw[if_pos e2]
     have:=World.cell?_setCells_in b us (i*4) W1 (fun t ht=>hsp1 _ (by omega)) (j-i*4) (by omega)
     rw[show i*4+(j-i*4)=j by omega]at this
     rw[this,List.getElem?_eq_getElem]
    ·rw[if_neg e2,World.cell?_setCells_out b _ _ _ _ (fun _ _=>.inr (by show i*4+us.length<=j;omega)),<-hW1]
     have:=World.cell?_setCells_in b (cs.drop (i*4)) ((i+1)*4) c.w.drew (fun t ht=>hsp' _ (by omega)) (j-(i+1)*4) (by omega)
     rw[show (i+1)*4+(j-(i+1)*4)=j by omega]at this
     rw[this,<-List.getElem?_eq_getElem,List.getElem?_drop,show i*4+(j-(i+1)*4)=j-4 by omega]
  ·refine (Tryz.ins_grow b n k i b' c' cs us c.w hin' r3 (by omega) (by omega) hcsl hus4 hcsc husc hcs1 hus1).mono ?_
   rintro e w' ⟨rfl,rfl⟩
   have hG:=grownCap_ge c.w (n+1) k 148
   have hG2:=grownCap_le_maxLen c.w (n+1) k 148 (by unfold maxLen;omega)
   generalize grownCap c.w (n+1) k 148=G at hG hG2 ⊢
   have hdl:(cs.drop (i*4)).length=(n-i)*4:=by rw[List.length_drop,hcsl];omega
   have hzc:HX.cells.size=4:=rfl
   generalize hR:(cs.take (i*4)).toArray++Builtin.zeroCells HX.cells (n+1-i)++Builtin.zeroCells HX.cells (G-(n+1))=ROW
   have hRs:ROW.size=G*4:=by
    rw[<-hR]
    simp only[Array.size_append,FM,hzc,List.size_toArray,List.length_take,hcsl];omega
   have hRg:∀ j,j<i*4->ROW[j]?=cs[j]?:=fun j hj=>by
    rw[<-hR,Array.getElem?_append_left (by simp[FM,hzc,hcsl];omega),Array.getElem?_append_left (by simp[hcsl];omega),List.getElem?_toArray,List.getElem?_take,if_pos hj]
   generalize hN:c.w.heap.size=N
   have hNb:∀ j,(c.w.alloc (.cells ROW 148)).cell? ⟨N,j,none⟩=ROW[j]?:=fun j=>World.cell?_alloc_at (w:=c.w) ROW _ N j hN.symm
   generalize hW0:(c.w.alloc (.cells ROW 148)).drew=W0
   have hW0c:∀ j,W0.cell? ⟨N,j,none⟩=ROW[j]?:=fun j=>by rw[<-hW0];exact hNb j
   have hW0h:W0.heap=c.w.heap.push (.cells ROW 148):=by rw[<-hW0];rfl
   obtain⟨g1,g2,g3,g4,g5,g6⟩:=Fq N us (i*4) W0
   obtain⟨vsA,g7,g8⟩:=g3 ROW BX (0,0) (by rw[hW0h,<-hN,Array.getElem?_push_size];rfl)
   have hsA:∀ j,j<(n+1)*4->((W0.setCells N (i*4) us).cell? ⟨N,j,none⟩).isSome=true:=fun j hj =>
    isSome_setCells N us _ W0 (fun t ht=>by rw[hW0c,Array.getElem?_eq_getElem (by omega)];rfl) _ (by rw[hW0c,Array.getElem?_eq_getElem (by omega)];rfl)
   generalize hW1:W0.setCells N (i*4) us=W1 at g1 g2 g3 g4 g5 g6 g7 hsA ⊢
   obtain⟨f1,f2,f3,f4,f5,f6⟩:=Fq N (cs.drop (i*4)) ((i+1)*4) W1.drew
   obtain⟨vs1,f7,f8⟩:=f3 _ _ _ g7
   have hw:∀ j,vs1[j]?=(W1.drew.setCells N ((i+1)*4) (cs.drop (i*4))).cell? ⟨N,j,none⟩:=fun j=>by simp only[World.cell?,f7];rfl
   have hold:∀ b1,b1<c.w.heap.size->b1≠N->W0.heap[b1]?=c.w.heap[b1]?:=fun b1 h _=>by rw[hW0h];exact BO h
   refine XI hc hH hn hi (bN:=N) (kN:=G) (vs0:=vs0) (vs1:=vs1) (us:=us) (cs:=cs) (.inr (by omega)) (by omega) f7 (by rw[f8,g8,hRs]) hG (by unfold maxLen at hG2;omega) r6 hcsg hnewf (fun j hj=>?_) (fun b1 h1 h2=>?_) ?_ ?_ ?_ ?_
   ·rw[hw]
    by_cases e1:j<i*4
    ·rw[if_pos e1,World.cell?_setCells_out N _ _ _ _ (fun _ _=>.inl (by show j<(i+1)*4;omega))]
     show W1.cell? ⟨N,j,none⟩=_
     rw[<-hW1,World.cell?_setCells_out N _ _ _ _ (fun _ _=>.inl e1),hW0c,hRg j e1]
    ·rw[if_neg e1]
     by_cases e2:j<i*4+4
     ·rw[if_pos e2,World.cell?_setCells_out N _ _ _ _ (fun _ _=>.inl (by show j<(i+1)*4;omega))]
      show W1.cell? ⟨N,j,none⟩=_
      rw[<-hW1]
      have:=World.cell?_setCells_in N us (i*4) W0 (fun t ht=>by rw[hW0c,Array.getElem?_eq_getElem (by omega)];rfl) (j-i*4) (by omega)
      rw[show i*4+(j-i*4)=j by omega]at this
      rw[this,List.getElem?_eq_getElem]
     ·rw[if_neg e2]
      have:=World.cell?_setCells_in N (cs.drop (i*4)) ((i+1)*4) W1.drew (fun t ht=>hsA _ (by omega)) (j-(i+1)*4) (by omega)
      rw[show (i+1)*4+(j-(i+1)*4)=j by omega]at this
      rw[this,<-List.getElem?_eq_getElem,List.getElem?_drop,show i*4+(j-(i+1)*4)=j-4 by omega]
   ·rw[f2 b1 h2]
    show W1.heap[b1]?=_
    rw[g2 b1 h2,hold b1 h1 h2]
   ·rw[f1]
    show c.w.heap.size<=W1.heap.size
    rw[g1,hW0h,Array.size_push];omega
   ·rw[f4]
    show W1.os=_
    rw[g4,<-hW0];rfl
   ·rw[f5]
    show W1.tape=_
    rw[g5,<-hW0];rfl
   ·rw[f6]
    show W1.output=_
    rw[g6,<-hW0];rfl
end Go.Dw
end
section
namespace Go.Dw
theorem T9 {σ:Nat->Option Nat}{s:List A6}:(s.map cB).map (AP σ)=s.map cB:=by rw[List.map_map];rfl
attribute [push_cast] T9
theorem jW {s:List A6}{k:Nat}(h:k<s.length):(s.map cB)[k]?=some (cB (s.getD k default)):=by
 rw[List.getElem?_map];simp[List.getD_eq_getElem?_getD,h]
abbrev OK (s:List A6):Ob:=.row BX 4 (s.map cB)
theorem Tg {g:Nat}(hg:∀ b v,PF g [Wh b,.str v] (.int .i64 (I7 b.name v)))(s:List A6)(v:Str)(hs:Dp s)(hl:s.length<2^61) :
  Spec prog AI [.rw 0 4 s.length,.str v,.fn (.func g) [] []] [OK s] fun x H'=>x=.tup [.int .i64 (lbd v s),.bool (bound s v)]/\H'=[OK s]:=by
 refine AJ mixed Ah.ok rfl ?_
 have hle:=R8 v s
 push_cast
 have key:∀ (m i j:Nat),j-i<=m->i<=lbd v s->lbd v s<=j->j<=s.length->Ah.L3 (.rw 0 4 s.length) (.str v) (.fn (.func g) [] []) (.int .i64 s.length) (.int .i64 i) (.int .i64 j) 1 [OK s]
   (Bv 1 Ah.rs fun x' H'=>x'=.tup [.int .i64 (lbd v s),.bool (bound s v)]/\H'=[OK s]):=by
  intro m
  induction m with
  | zero =>
   intro i j hm h1 h2 h3
   have hij:i=lbd v s:=by omega
   refine A8.2 ?_
   push_cast[B6 (show j<=i by omega)]
   unfold bound
   rw[Nd hs]
   by_cases hi:i<s.length
   ·push_cast[ilt hi,jW hi,List.length_map]
    refine .of (hg _ _) ?_
    push_cast
    refine Dl (.inl rfl) rfl ⟨?_,rfl⟩
    push_cast[Q8,hij]
    rw[hij]at hi
    by_cases hn:(s.getD (lbd v s) default).name=v
    ·rw[if_pos ⟨hi,hn⟩];simp only[hn];rfl
    ·rw[if_neg (fun h=>hn h.2)];simp only[hn];rfl
   ·push_cast[B6 (show s.length<=i by omega)]
    refine Dl (.inl rfl) rfl ⟨?_,rfl⟩
    push_cast[hij]
    rw[if_neg (fun h=>hi (by omega))]
    rfl
  | succ m ih =>
   intro i j hm h1 h2 h3
   by_cases hij:i<j
   ·refine A8.2 ?_
    have hh:=AaX (i:=i) (j:=j) (by omega) (by omega)
    generalize hq:(i+j) / 2=h at hh
    have hk:h<s.length:=by omega
    push_cast[ilt hij]
    simp only[hh]
    push_cast[ilt hk,jW hk,List.length_map]
    refine .of (hg _ _) ?_
    push_cast[w64 (show h<2^62 by omega),JE]
    refine⟨fun hc=>ih (h+1) j (by omega) ?_ h2 h3,fun hc=>ih i h (by omega) h1 ?_ (by omega)⟩
    ·rcases Nat.lt_or_ge h (lbd v s)with h4 | h4
     ·omega
     ·exact absurd hc (XP hs h4 hk)
    ·rcases Nat.lt_or_ge h (lbd v s)with h4 | h4
     ·exact absurd (XS h4) hc
     ·exact h4
   ·exact ih i j (by omega) h1 h2 h3
 exact key s.length 0 s.length (by omega) (by omega) hle (Nat.le_refl _)
end Go.Dw
end
section
namespace Go.Dw
def FC (s:List A6)(v:Str)(t:Term):List A6:=s.take (lbd v s)++⟨v,t⟩::s.drop (lbd v s)
theorem Ze (s:List A6)(v:Str)(t:Term):(FC s v t).length=s.length+1:=by
 have:=R8 v s
 unfold FC;simp;omega
theorem rB (s:List A6):ID 1 [OK s]:=⟨rfl,by show [A5 (AK 1) (OK s)]=_;rw[KE,T9]⟩
theorem Xx (s:List A6)(v:Str)(t:Term)(hs:Dp s)(hl:s.length<2^40):Spec prog NX [.rw 0 4 s.length,.str v,Ao t] [OK s] fun x H'=>x=.rw 0 4 (s.length+1)/\H'=[OK (FC s v t)]:=by
 have hB:=Tg VS s v hs (by omega)
 have hle:=R8 v s
 have hI:=iv (s.map cB) (cB ⟨v,t⟩) (lbd v s) s.length (by simp) hle (by unfold Ag;omega)
 have hbt:(s.map cB).take (lbd v s)++cB ⟨v,t⟩::(s.map cB).drop (lbd v s)=(FC s v t).map cB:=by unfold FC;simp
 rw[hbt]at hI
 refine AJ mixed XM.ok rfl ?_
 push_cast
 refine Bt.all (Bb▸hB) ?_
 rintro x H' ⟨rfl,rfl⟩
 push_cast
 refine Bt.all (Bb▸hI) ?_
 rintro x H' ⟨rfl,rfl⟩
 push_cast
 exact Am (H:=[OK (FC s v t)]) (J:=[_]) (rB _) rfl ⟨rfl,rfl⟩
end Go.Dw
end
section
namespace Go.Dw
theorem S1 {s:List A6}{v:Str}{t:Term}(hs:Dp s)(hn:Ad s v=none):Dp (FC s v t):=by
 have hle:=R8 v s
 have h1:∀ b∈s.take (lbd v s),b.name<v:=fun b hb=>by
  obtain⟨j,hj,rfl⟩:=List.getElem_of_mem hb
  have hjl:j<lbd v s:=by rw[List.length_take]at hj;omega
  have:=XS hjl
  simpa[List.getD_eq_getElem?_getD,show j<s.length by omega]using this
 have h2:∀ b∈s.drop (lbd v s),v<b.name:=fun b hb=>by
  obtain⟨j,hj,rfl⟩:=List.getElem_of_mem hb
  have hjl:lbd v s+j<s.length:=by rw[List.length_drop]at hj;omega
  have h3:=XP hs (Nat.le_add_right (lbd v s) j) hjl
  have he:(s.drop (lbd v s))[j]=s.getD (lbd v s+j) default:=by simp[List.getD_eq_getElem?_getD,hjl]
  rw[he]
  have hne:(s.getD (lbd v s+j) default).name≠v:=fun e=>by
   have hi:=Nd (v:=v) hs
   rw[hn]at hi
   split at hi
   ·cases hi
   ·rename_i hc
    refine hc ⟨by omega,?_⟩
    rcases Nat.eq_zero_or_pos j with h0 | h0
    ·subst h0;exact e
    ·have h5:(s.getD (lbd v s) default).name<(s.getD (lbd v s+j) default).name:=by
      have:=List.pairwise_iff_getElem.1 hs (lbd v s) (lbd v s+j) (by omega) hjl (by omega)
      simpa[List.getD_eq_getElem?_getD,hjl,show lbd v s<s.length by omega]using this
     rw[e]at h5
     exact absurd h5 (XP hs (Nat.le_refl _) (by omega))
  rcases Classical.em (v<(s.getD (lbd v s+j) default).name)with h | h
  ·exact h
  ·exact absurd (WP h3 h) hne
 unfold FC
 refine List.pairwise_append.2 ⟨List.Pairwise.sublist (List.take_sublist _ _) hs,List.pairwise_cons.2 ⟨h2,List.Pairwise.sublist (List.drop_sublist _ _) hs⟩,fun a ha b hb=>?_⟩
 rcases List.mem_cons.1 hb with rfl | hb
 ·exact h1 a ha
 ·exact Nf (h1 a ha) (h2 b hb)
theorem lC {s:List A6}{v:Str}{t:Term}{b:A6}(h:b∈FC s v t):b∈s\/b=⟨v,t⟩:=by
 unfold FC at h
 rcases List.mem_append.1 h with h | h
 ·exact .inl (List.mem_of_mem_take h)
 ·rcases List.mem_cons.1 h with h | h
  ·exact .inr h
  ·exact .inl (List.mem_of_mem_drop h)
end Go.Dw
end
section
namespace Go.Dw
mutual
def short:Term->Bool
 | .mk n v l=>decide (n.length<=24) && ((!v || l.isEmpty) && Ro l)
def Ro:List Term->Bool
 | []=>true
 | a::l=>short a && Ro l
end
theorem fU {l:List Term}:Ro l=true↔∀ a∈l,short a=true:=by
 induction l with
 | nil=>simp[Ro]
 | cons a l ih=>simp[Ro,ih]
theorem CD {t:Term}:short t=true↔t.name.length<=24/\(t.var=true->t.args=[])/\∀ a∈t.args,short a=true:=by
 cases t with | mk n v l=>cases v <;> simp[short,fU,Term.name,Term.var,Term.args]
theorem T0 (t:Term):C5 t=true->short t=true:=by
 induction t using Af with
 | h t ih =>
 intro h
 rw[EH]at h
 rw[CD]
 split at h
 ·simp only[Bool.and_eq_true,decide_eq_true_eq,C6]at h
  refine⟨h.2.1,fun _=>List.length_eq_zero_iff.1 h.1,fun a ha=>?_⟩
  rw[List.length_eq_zero_iff.1 h.1]at ha;cases ha
 ·rename_i hv
  simp only[Bool.and_eq_true,decide_eq_true_eq,C6,List.all_eq_true]at h
  exact⟨h.2.1.1,fun hv2=>absurd hv2 hv,fun a ha=>ih a ha (h.2.2 a ha)⟩
mutual
theorem WZ:∀ t,short t=true->tb t<=25*size t
 | .mk n v l,h=>by
  simp only[short,Bool.and_eq_true,decide_eq_true_eq]at h
  have:=Yy l h.2.2
  simp only[tb,size]
  simp only[tbs]at this
  omega
theorem Yy:∀ l,Ro l=true->tbs l<=25*Ab l
 | [],_=>by simp[tbs,tb.tbs,Ab]
 | a::l,h=>by
  simp only[Ro,Bool.and_eq_true]at h
  have h1:=WZ a h.1
  have h2:=Yy l h.2
  simp only[tbs,tb.tbs,Ab]at h2 ⊢
  omega
end
theorem ik {s:List A6}(hs:∀ b∈s,short b.term=true)(t:Term):short t=true->short (AB s t)=true:=by
 induction t using Af with
 | h t ih =>
 intro ht
 rw[HV]
 have h:=CD.1 ht
 split
 ·cases hx:Ad s t.name with
  | none=>exact CD.2 ⟨h.1,fun _=>rfl,fun a ha=>by simp[Term.args]at ha⟩
  | some x =>
   obtain⟨b,hb,_,rfl⟩:=Ua hx
   exact hs b hb
 ·refine CD.2 ⟨h.1,fun hv=>by simp[Term.var]at hv,fun a ha=>?_⟩
  simp only[Term.args,List.mem_map]at ha
  obtain⟨y,hy,rfl⟩:=ha
  exact ih y hy (h.2.2 y hy)
theorem kQ {l:List Term}{k:Nat}{x:Term}(hk:k<l.length):Ab (l.set k x)+size (l.getD k default)=Ab l+size x:=by
 induction l generalizing k with
 | nil=>simp at hk
 | cons a l ih =>
  cases k with
  | zero=>simp[Ab];omega
  | succ k =>
   have:=ih (k:=k) (by simpa using hk)
   simp only[List.set_cons_succ,Ab,List.getD_cons_succ]
   omega
theorem Tx:∀ (p:List Int)(t x:Term),size (HM t p x)<=size t+size x
 | [],t,x=>by simp only[HM];omega
 | i::p,t,x=>by
  have h1:=AH t
  have h2:=AH (HM t (i::p) x)
  rw[h2,Tv]
  split
  ·rename_i hi
   have hk:i.toNat<t.args.length:=by omega
   have h3:=kQ (x:=HM (t.args.getD i.toNat default) p x) hk
   have h4:=Tx p (t.args.getD i.toNat default) x
   omega
  ·omega
theorem Z1 {t:Term}(h:BK t=true):size t<=4000:=by
 simp only[BK,Bool.and_eq_true,decide_eq_true_eq]at h;exact h.1
def zp (t:Term):Prop:=short t=true/\size t<=4000
theorem VY {t:Term}(h:EU t=0):zp t:=by
 unfold EU at h
 split at h
 ·rename_i h1
  split at h
  ·rename_i h2;exact⟨T0 t h1,Z1 h2⟩
  ·omega
 ·omega
end Go.Dw
end
section
namespace Go.Dw
def cPp (p:List Int):List V:=[Hk p]
abbrev SO (l:List (List Int)):V:=Dz cPp 1 l
theorem AaV (p:List Int):(cPp p)[0]?=some (Hk p):=rfl
theorem uW (p:List Int):(cPp p).length=1:=rfl
attribute [push_cast] AaV uW
end Go.Dw
end
section
namespace Go.Dw
mutual
theorem RK:∀ (t:Term)(p:List Int),∀ x∈Ap t p,x.2.name.length<tb t
 | .mk n v l,p,x,hx=>by
  rw[GH]at hx
  simp only[tb]
  rcases List.mem_cons.1 hx with rfl | hx
  ·simp only[Term.name];omega
  ·have:=UG l p 0 x hx;simp only[tbs]at this;omega
theorem UG:∀ (l:List Term)(p:List Int)(i:Nat),∀ x∈B4 l p i,x.2.name.length<tbs l
 | [],p,i,x,hx=>by simp[B4]at hx
 | a::l,p,i,x,hx=>by
  simp only[B4,List.mem_append]at hx
  simp only[tbs,tb.tbs]
  rcases hx with hx | hx
  ·have:=RK a _ x hx;omega
  ·have:=UG l _ _ x hx;simp only[tbs]at this;omega
end
theorem R9 {M:Nat}:∀ (l:List (List Int×Term)) {m m':Ars},D9 m l=some m'->(∀ x∈l,x.2.name.length<M)->(∀ p∈m,p.1.length<M)->∀ p∈m',p.1.length<M
 | [],m,m',h,_,hm=>by cases h;exact hm
 | x::l,m,m',h,hl,hm=>by
  simp only[D9]at h
  cases hs:CU m x.2 with
  | none=>rw[hs]at h;cases h
  | some m1 =>
   rw[hs,Option.bind_some]at h
   refine R9 l h (fun y hy=>hl y (by simp[hy])) ?_
   unfold CU at hs
   split at hs
   ·cases hs;exact hm
   ·split at hs
    ·split at hs
     ·cases hs;exact hm
     ·cases hs
    ·cases hs
     intro p hp
     rcases List.mem_append.1 hp with hp | hp
     ·exact hm p hp
     ·simp only[List.mem_singleton]at hp;subst hp;exact hl x (by simp)
theorem SZ {M:Nat}:∀ (r:List A2) {m m':Ars},Cz m r=some m'->rbs r<=M->(∀ p∈m,p.1.length<M)->∀ p∈m',p.1.length<M
 | [],m,m',h,_,hm=>by cases h;exact hm
 | x::r,m,m',h,hM,hm=>by
  simp only[Cz]at h
  simp only[rbs]at hM
  cases ha:D9 m (Ap x.left [])with
  | none=>rw[ha]at h;cases h
  | some m1 =>
   rw[ha,Option.bind_some]at h
   cases hb:D9 m1 (Ap x.right [])with
   | none=>rw[hb]at h;cases h
   | some m2 =>
    rw[hb,Option.bind_some]at h
    exact SZ r h (by omega) (R9 _ hb (fun y hy=>by have:=RK _ _ y hy;omega) (R9 _ ha (fun y hy=>by have:=RK _ _ y hy;omega) hm))
theorem LE (r:List A2)(hs:rbs r<2^38):PF DH [Aj r] (.int .i64 (Al r)) :=
 R5 r hs fun m hm p hp=>by have:=SZ r hm (Nat.le_refl _) (by simp) p hp;omega
theorem MH:∀ {r:List A2},De r=0->∀ x∈r,EU x.left=0/\EU x.right=0
 | [],_,x,hx=>by cases hx
 | y::r,h,x,hx=>by
  simp only[De]at h
  split at h
  ·omega
  ·rename_i h1
   rcases List.mem_cons.1 hx with rfl | hx
   ·simp only[IP,ne_eq,Classical.not_not]at h1
    split at h1
    ·omega
    ·rename_i h2
     split at h1
     ·omega
     ·rename_i h3
      exact⟨by simpa using h2,by simpa using h3⟩
   ·exact MH h x hx
theorem N3 {r:List A2}(h:Al r=0):∀ x∈r,zp x.left/\zp x.right:=by
 have h1:Bi r=0:=by
  unfold Al at h
  split at h
  ·rename_i h1;exact absurd h h1
  ·rename_i h1;simpa using h1
 unfold Bi at h1
 split at h1
 ·omega
 ·intro x hx
  have:=MH h1 x hx
  exact⟨VY this.1,VY this.2⟩
end Go.Dw
end
section
namespace Go.Dw
open Go.Proofs.YtkdcfkfdkimaeaaGreatDoor
abbrev okW (W:World):Nat->Nat->Prop:=fun b _=>b<W.heap.size
def Lf (W:World)(xs:List V)(cs:List Value):Prop:=LV W (okW W) xs cs/\∀ u∈cs,Ci u=true
theorem YT {w:World}{ok:Nat->Nat->Prop}:∀ {xs ys:List V} {cs ds:List Value},LV w ok xs cs->LV w ok ys ds->LV w ok (xs++ys) (cs++ds)
 | [],ys,cs,ds,h1,h2=>by
  have h1:cs=[]:=h1
  subst h1;exact h2
 | x::xs,ys,cs,ds,⟨v,vs,e,h1,h2⟩,h3=>by
  subst e
  exact⟨v,vs++ds,rfl,h1,YT h2 h3⟩
theorem YY {w:World}{ok:Nat->Nat->Prop}:∀ {xs:List V} {cs:List Value} {i:Nat} {x:V},LV w ok xs cs->xs[i]?=some x->∃ v,cs[i]?=some v/\FL w ok x v
 | [],_,i,x,_,h=>by simp at h
 | y::xs,cs,i,x,⟨v,vs,e,h1,h2⟩,h=>by
  subst e
  cases i with
  | zero=>simp only[List.getElem?_cons_zero,Option.some.injEq]at h;subst h;exact⟨v,rfl,h1⟩
  | succ i=>simp only[List.getElem?_cons_succ]at h ⊢;exact YY h2 h
theorem Lf.app {W:World}{xs ys:List V}{cs ds:List Value}(h1:Lf W xs cs)(h2:Lf W ys ds):Lf W (xs++ys) (cs++ds) :=
 ⟨YT h1.1 h2.1,fun u hu=>(List.mem_append.1 hu).elim (h1.2 u) (h2.2 u)⟩
theorem Lf.one {W:World}{x:V}{c:Value}(h:FL W (okW W) x c)(ho:Ci c=true):Lf W [x] [c]:=⟨⟨c,[],rfl,h,rfl⟩,fun u hu=>by simp only[List.mem_singleton]at hu;subst hu;exact ho⟩
section
variable {H:Type} {enc:TypeId × Value->H} {W:World}
noncomputable abbrev trd (enc:TypeId×Value->H)(W:World):=DataW.trod enc prog W 0 (fun _=>true) true
def Br {α:Type}(enc:TypeId×Value->H)(W:World)(n:Nat)(t:TypeId)(c:α->List V)(b:α->Nat):Prop:=∀ cs x,trd enc W n t cs=some x->Rows.uptoBulk x.1<=1048576->∃ a,b a<=Rows.uptoBulk x.1/\Lf W (c a) cs
theorem oq {n:Nat}:Br enc W n C1 (fun s:Str=>[.str s]) (fun s=>s.length+1):=by
 intro cs x h _
 obtain⟨s,rfl,rfl,_⟩:=DataW.trod_string (P:=prog) Go.Proofs.Tryz.underlying9 h
 refine⟨s.data.toList,by simp[Rows.uptoBulk],Lf.one ?_ rfl⟩
 show Value.string s=.string ⟨⟨s.data.toList⟩⟩
 cases s with | mk d=>cases d;rfl
theorem jb {n:Nat}:Br enc W n fX (fun s:Bool=>[.bool s]) (fun _=>1):=by
 intro cs x h _
 obtain⟨s,rfl,rfl⟩:=DataW.trod_bool (P:=prog) Go.Proofs.Tryz.underlying4 h
 exact⟨s,by simp[Rows.uptoBulk],Lf.one rfl rfl⟩
theorem xI {n:Nat}:Br enc W n EA (fun s:Int=>cI s) (fun _=>1):=by
 intro cs x h _
 obtain⟨s,rfl,rfl,_⟩:=DataW.trod_int (P:=prog) Go.Proofs.Tryz.underlying3 h
 exact⟨s,by simp[Rows.uptoBulk],Lf.one rfl rfl⟩
theorem lO {w:World}{a:Addr}{v:Value}(h:w.cell? a=some v):a.spot=none/\a.block<w.heap.size:=by
 unfold World.cell? at h
 split at h
 ·rename_i hb
  split at h
  ·cases h
  ·rename_i hs
   exact⟨by cases hq:a.spot <;> simp_all,(Array.getElem?_eq_some_iff.1 hb).1⟩
 ·cases h
theorem bF {a:Addr}(h:a.spot=none)(n:Nat):a.add n=⟨a.block,a.off+n,none⟩:=by
 unfold Addr.add
 split
 ·rename_i h0;subst h0;cases a;simp_all
 ·rfl
def Th {α:Type}(b:α->Nat):List α->Nat
 | []=>0
 | x::l=>b x+Th b l
theorem zH (d:DataW H):1<=Rows.uptoBulk d:=by
 cases d with
 | lit l=>cases l <;> simp[Rows.uptoBulk]
 | _=>simp[Rows.uptoBulk]
theorem oA (l:List (DataW H)):l.length<=Rows.uptoBulkAll l:=by
 induction l with
 | nil=>simp[Rows.uptoBulkAll]
 | cons x r ih=>have:=zH x;simp only[Rows.uptoBulkAll,List.length_cons];omega
theorem lj {d:DataW H}{l:List (DataW H)}(h:d∈l):Rows.uptoBulk d<=Rows.uptoBulkAll l:=by
 induction l with
 | nil=>cases h
 | cons x r ih =>
  simp only[Rows.uptoBulkAll]
  rcases List.mem_cons.1 h with e | e
  ·subst e;omega
  ·have:=ih e;omega
theorem iO {α:Type}{b:α->Nat}:∀ {l:List α} {es:List (DataW H×List MemPlace)},l.length=es.length->(∀ (i:Nat)(a:α)(e:DataW H×List MemPlace),l[i]?=some a->es[i]?=some e->b a<=Rows.uptoBulk e.1)->Th b l<=Rows.uptoBulkAll (es.map (·.1))
 | [],[],_,_=>by simp[Th]
 | [],_::_,h,_=>by simp at h
 | _::_,[],h,_=>by simp at h
 | a::l,e::es,h,hb=>by
  have h1:=hb 0 a e rfl rfl
  have h2:=iO (l:=l) (es:=es) (by simpa using h) fun i a' e' h1 h2=>hb (i+1) a' e' (by simpa using h1) (by simpa using h2)
  simp only[Th,List.map_cons,Rows.uptoBulkAll];omega
theorem Wl {α:Type}{n:Nat}{ts t:TypeId}{sz:Nat}{c:α->List V}{b:α->Nat}(hts:prog.underlying ts=some (.slice t))(hsz:prog.cellsOf t=sz)(hpos:0<sz)(hc:∀ a,(c a).length=sz)
  (h:∀ m,m+1=n->Br enc W m t c b):Br enc W n ts (fun l:List α=>[Dz c sz l]) (fun l=>Th b l+1):=by
 intro cs x hx hbk
 rcases DataW.trod_slice (P:=prog) hts hx with ⟨rfl,rfl⟩ | ⟨a,len,cap,DQ,rest,m,rfl,rfl,rfl,_,hle,hcap,hlen,hel,_,_⟩
 ·exact⟨[],by simp[Th,Rows.uptoBulk],Lf.one ⟨none,0,0,0,rfl,Nat.le_refl _,by unfold BV;omega,by unfold Ag;simp,.inl rfl,trivial⟩ rfl⟩
 ·have hbr:=h m rfl
  have hba:Rows.uptoBulkAll (DQ.map (·.1))<=1048576:=by simp only[Rows.uptoBulk]at hbk;omega
  have hln:=oA (DQ.map (·.1))
  rw[List.length_map]at hln
  rw[hsz]at hel
  have step:∀ i,i<len->∃ y:α,(∀ e,DQ[i]?=some e->b y<=Rows.uptoBulk e.1)/\∃ ecs,W.cells? 0 (a.add (i*sz)) sz=some ecs/\Lf W (c y) ecs:=by
   intro i hi
   have h1:=hel i hi
   have hil:i<DQ.length:=by omega
   rw[List.getElem?_eq_getElem hil]at h1
   simp only[Option.bind_eq_some_iff]at h1
   obtain⟨ecs,h2,h3⟩:=h1
   obtain⟨y,hy1,hy2⟩:=hbr ecs _ h3 (Nat.le_trans (lj (List.mem_map.2 ⟨_,List.getElem_mem hil,rfl⟩)) hba)
   refine⟨y,fun e he=>?_,ecs,h2,hy2⟩
   rw[List.getElem?_eq_getElem hil]at he
   cases he;exact hy1
  obtain⟨f,hf⟩:∃ f:Nat->Option α,∀ i,i<len->∃ y,f i=some y/\(∀ e,DQ[i]?=some e->b y<=Rows.uptoBulk e.1)/\∃ ecs,W.cells? 0 (a.add (i*sz)) sz=some ecs/\Lf W (c y) ecs:=by
   refine⟨fun i=>if h:i<len then some (Classical.choose (step i h)) else none,fun i hi=>?_⟩
   exact⟨Classical.choose (step i hi),by simp[hi],Classical.choose_spec (step i hi)⟩
  have hl:∀ k,k<=len->∃ l:List α,l.length=k/\∀ i,i<k->f i=l[i]?:=by
   intro k
   induction k with
   | zero=>intro _;exact⟨[],rfl,fun i hi=>by omega⟩
   | succ k ih =>
    intro hk
    obtain⟨l,h1,h2⟩:=ih (by omega)
    obtain⟨y,hy,_⟩:=hf k (by omega)
    refine⟨l++[y],by simp[h1],fun i hi=>?_⟩
    rcases Nat.lt_succ_iff_lt_or_eq.1 hi with h3 | rfl
    ·rw[List.getElem?_append_left (by omega)];exact h2 i h3
    ·rw[List.getElem?_append_right (by omega),h1];simpa using hy
  obtain⟨l,hl1,hl2⟩:=hl len (Nat.le_refl _)
  have hat:∀ i y,l[i]?=some y->(∀ e,DQ[i]?=some e->b y<=Rows.uptoBulk e.1)/\∃ ecs,W.cells? 0 (a.add (i*sz)) sz=some ecs/\Lf W (c y) ecs:=by
   intro i y hy
   have hi:i<len:=by rw[<-hl1];exact (List.getElem?_eq_some_iff.1 hy).1
   obtain⟨z,h1,h2⟩:=hf i hi
   rw[hl2 i hi,hy]at h1
   cases h1;exact h2
  refine⟨l,?_,Lf.one ?_ rfl⟩
  ·have:=iO (b:=b) (l:=l) (es:=DQ) (by omega) fun i y e h1 h2=>(hat i y h1).1 e h2
   simp only[Rows.uptoBulk];omega
  ·have hspot:l≠[]->a.spot=none/\a.block<W.heap.size:=by
    intro hne
    obtain⟨y,hy⟩:∃ y,l[0]?=some y:=by cases l with | nil=>exact absurd rfl hne | cons y l=>exact⟨y,rfl⟩
    obtain⟨_,ecs,h1,h2⟩:=hat 0 y hy
    obtain⟨_,g1,g2⟩:=World.cells?_some h1
    have h3:=g2 0 hpos
    have hel:ecs.length=sz:=g1
    obtain⟨e0,he0⟩:∃ e0,ecs[0]?=some e0:=⟨ecs[0]'(by omega),List.getElem?_eq_getElem (by omega)⟩
    rw[he0]at h3
    simpa[Addr.add]using lO h3
   refine⟨some a,cap,a.block,a.off,by simp[hl1],by simpa[hl1]using hle,by unfold BV;unfold maxLen at hcap;omega,?_,?_,Ie fun i e he=>?_⟩
   ·rw[List.length_map];unfold Ag;omega
   ·by_cases hne:l=[]
    ·left;simp[hne]
    ·right
     have:=(hspot hne).1
     cases a;simp_all
   ·rw[List.getElem?_map]at he
    cases hy:l[i]? with
    | none=>rw[hy]at he;cases he
    | some y =>
     rw[hy]at he
     simp only[Option.map_some,Option.some.injEq]at he
     subst he
     obtain⟨_,ecs,h1,h2⟩:=hat i y hy
     obtain⟨_,g1,g2⟩:=World.cells?_some h1
     obtain⟨hsp,hbl⟩:=hspot (by intro e;rw[e]at hy;simp at hy)
     refine⟨hc y,Id fun j x hx=>?_⟩
     obtain⟨v,k1,k2⟩:=YY h2.1 hx
     have hj:j<sz:=by rw[<-hc y];exact (List.getElem?_eq_some_iff.1 hx).1
     have h3:=g2 j hj
     rw[k1,bF hsp,bF rfl]at h3
     refine⟨v,?_,hbl,h2.2 v (List.mem_of_getElem? k1),k2⟩
     rw[Nat.zero_add,<-Nat.add_assoc]
     exact h3
theorem zO {α:Type}{cs:List α}{a b:Nat}(h:cs.length=a+b):cs=(cs.drop 0).take a++(cs.drop a).take b:=by
 rw[List.drop_zero,List.take_of_length_le (l:=cs.drop a) (by simp;omega),List.take_append_drop]
theorem xz {α:Type}{cs:List α}{a b c:Nat}(h:cs.length=a+b+c):cs=(cs.drop 0).take a++((cs.drop a).take b++(cs.drop (a+b)).take c):=by
 have h1:cs.drop a=(cs.drop a).take b++(cs.drop (a+b)).take c:=by
  rw[List.take_of_length_le (l:=cs.drop (a+b)) (by simp;omega),<-List.drop_drop,List.take_append_drop]
 rw[<-h1,List.drop_zero,List.take_append_drop]
theorem oS (l:List Term):Th tb l=tbs l:=by
 induction l with
 | nil=>rfl
 | cons a l ih=>simp only[Th,tbs,tb.tbs,ih]
theorem iQ:∀ l:List A2,Th (fun x:A2=>1+tb x.left+tb x.right) l=rbs l
 | []=>rfl
 | a::l=>by simp only[Th,rbs,iQ l]
theorem c9:prog.cellsOf 9=1:=by kernel_rfl
theorem c4:prog.cellsOf 4=1:=by kernel_rfl
theorem c3:prog.cellsOf 3=1:=by kernel_rfl
theorem c33:prog.cellsOf 33=1:=by kernel_rfl
theorem c35:prog.cellsOf 35=1+1+1:=by kernel_rfl
theorem Abq:prog.cellsOf 107=3+3:=by kernel_rfl
theorem ba:∀ n,Br enc W n 35 cT tb
 | 0=>by intro cs x h;simp[DataW.trod]at h
 | n+1=>by
  intro cs x h hbk
  obtain⟨xs,m,hm,rfl,hl,hlen,hf⟩:=DataW.trod_struct (P:=prog) Go.Proofs.Tryz.underlying35 h
  obtain rfl:n=m:=by omega
  rw[c35]at hl
  match xs,hlen with
  | [x0,x1,x2],_ =>
  have f0:trd enc W n 9 ((cs.drop 0).take (prog.cellsOf 9))=some x0:=hf 0 _ rfl
  have f1:trd enc W n 4 ((cs.drop 1).take (prog.cellsOf 4))=some x1:=hf 1 _ rfl
  have f2:trd enc W n 33 ((cs.drop 2).take (prog.cellsOf 33))=some x2:=hf 2 _ rfl
  rw[c9]at f0;rw[c4]at f1;rw[c33]at f2
  simp only[List.map_cons,List.map_nil,Rows.uptoBulk,Rows.uptoBulkAll]at hbk ⊢
  obtain⟨s,b0,d0⟩:=oq _ _ f0 (by omega)
  obtain⟨v,b1,d1⟩:=jb _ _ f1 (by omega)
  obtain⟨l,b2,d2⟩:=Wl (n:=n) (sz:=3) (c:=cT) (b:=tb) Go.Proofs.Tryz.underlying33 c35 (by omega) (fun _=>rfl) (fun m hm=>ba m) _ _ f2 (by omega)
  try dsimp only at b0
  try dsimp only at b1
  try dsimp only at b2
  refine⟨.mk s v l,?_,?_⟩
  ·rw[oS]at b2
   simp only[tb]
   simp only[tbs]at b2
   omega
  ·rw[xz hl,Oq]
   exact d0.app (d1.app d2)
theorem vS:∀ n,Br enc W n 107 cR (fun x=>1+tb x.left+tb x.right)
 | 0=>by intro cs x h;simp[DataW.trod]at h
 | n+1=>by
  intro cs x h hbk
  obtain⟨xs,m,hm,rfl,hl,hlen,hf⟩:=DataW.trod_struct (P:=prog) Go.Proofs.Tryz.underlying107 h
  obtain rfl:n=m:=by omega
  rw[Abq]at hl
  match xs,hlen with
  | [x0,x1],_ =>
  have f0:trd enc W n 35 ((cs.drop 0).take (prog.cellsOf 35))=some x0:=hf 0 _ rfl
  have f1:trd enc W n 35 ((cs.drop 3).take (prog.cellsOf 35))=some x1:=hf 1 _ rfl
  rw[c35]at f0 f1
  simp only[List.map_cons,List.map_nil,Rows.uptoBulk,Rows.uptoBulkAll]at hbk ⊢
  obtain⟨s,b0,d0⟩:=ba n _ _ f0 (by omega)
  obtain⟨v,b1,d1⟩:=ba n _ _ f1 (by omega)
  try dsimp only at b0
  try dsimp only at b1
  refine⟨⟨s,v⟩,by dsimp only;omega,?_⟩
  rw[zO hl]
  exact d0.app d1
theorem ns {n:Nat}:Br enc W n 22 (fun r:List A2=>[Aj r]) (fun r=>rbs r):=by
 intro cs x h hbk
 obtain⟨l,b0,d0⟩:=Wl (n:=n) (sz:=6) (c:=cR) (b:=fun x=>1+tb x.left+tb x.right) Go.Proofs.Tryz.underlying22 Abq (by omega) (fun _=>rfl) (fun m hm=>vS m) _ _ h hbk
 refine⟨l,?_,d0⟩
 have:Th (fun x:A2=>1+tb x.left+tb x.right) l=rbs l:=iQ l
 dsimp only at b0 ⊢
 omega
end
end Go.Dw
end
section
namespace Go.Dw
open Go.ChangeShapes Go.WideShapes Go.ChangeAt Go.RowKit Go.Proofs
theorem lR {H:Type}{enc:TypeId×Value->H}{P:Program}{f:Func}{s:ChangeSpec}{apart fresh handsOn again:Bool}{W W':World}{args:Array Value}{v:Value}{ds gs:List (DataW H)}{before pa pv:List MemPlace}
  (hW:DataW.Whole enc P f.params.toList s.vars apart W args.toList ds gs before)
  (hres:∀ (b:Nat)(sp:Nat->Bool)(hd:Bool),DataW.TrodAll enc P W' b sp hd f.resultTypes.toList (v.resultList f.resultTypes.size) (s.fn H (ds++gs)).results [])
  (hargs:∀ sp:Nat->Bool,(∀ p∈before,sp p.block=true)->DataW.TrodAll enc P W' 0 sp true f.params.toList args.toList (s.fn H (ds++gs)).args pa)
  (hvars:∀ sp:Nat->Bool,(∀ p∈before,sp p.block=true)->DataW.TrodVars enc P W' sp s.vars (s.fn H (ds++gs)).vars pv)
  (hps:before=pa++pv) (hk:W.keptBut W' (·∈before)) (hfz:∀ a:Addr,a.block<W.heap.size->W'.frozen? a=W.frozen? a)
  (hok:∀ (j:Nat)(t:TypeId)(r:Value),f.resultTypes[j]?=some t->(v.resultList f.resultTypes.size)[j]?=some r->Value.okWide P W' .any 0 t r) :
  s.post enc P f apart fresh handsOn again W args v W':=by
 have hold:∀ p∈before,(fun b=>decide (b<W.heap.size)) p.block=true:=fun p hp=>by simpa using hW.lt p hp
 have hlt:=hW.lt
 refine⟨ds,gs,before,[],pa,pv,hW,hres _ _ _,hargs _ hold,hvars _ hold,World.keptBut_mono (fun p hp=>⟨hp,?_⟩) hk,fun _=>?_⟩
 ·rw[hps,List.mem_append]at hp
  exact Or.inr hp
 ·obtain⟨_,_,_,_,_,hz,hn⟩:=hW
  refine⟨hok,_,_,([]++pa)++pv,⟨[]++pa,pv,trodAll_append (hargs _ (fun _ _=>rfl)) (hres _ _ _),hvars _ (fun _ _=>rfl),rfl,?_,?_⟩,?_⟩
  ·intro b off hp
   have hp':MemPlace.cell b off∈before:=by rw[hps];simpa using hp
   rw[hfz _ (hlt _ hp')]
   exact hz b off hp'
  ·intro ha
   have:=hn ha
   rw[hps]at this
   simpa using this
  ·intro p hp _
   rw[hps]
   simpa using hp
theorem Um {H:Type}{enc:TypeId×Value->H}{P:Program}{W W':World}(hh:∀ b,b<W.heap.size->W'.heap[b]?=W.heap[b]?){base:Nat}{sp:Nat->Bool}{held:Bool} :
  ∀ {ts:List TypeId} {vs:List Value} {ds:List (DataW H)} {ps:List MemPlace},DataW.TrodAll enc P W base sp held ts vs ds ps->DataW.TrodAll enc P W' base sp held ts vs ds ps
 | [],[],[],_,h=>h
 | [],[],_::_,_,h=>h.elim
 | [],_::_,_,_,h=>h.elim
 | _::_,[],_,_,h=>h.elim
 | _::_,_::_,[],_,h=>h.elim
 | t::ts,v::vs,d::ds,ps,⟨p,q,⟨n,h1⟩,h2,e⟩=>by
  refine⟨p,q,⟨n,DataW.trod_carry n _ _ _ h1 fun x hx=>?_⟩,Um hh h2,e⟩
  have hl:=DataW.trod_lt n _ _ _ h1 x hx
  cases x with
  | cell b o=>exact World.cell?_of_block (w:=W) (hh b hl)
  | map b=>exact hh b hl
end Go.Dw
end
section
namespace Go.Dw
mutual
def eqV:V->V->Bool
 | .any,.any=>true
 | .int k n,.int k' n'=>decide (k=k') && decide (n=n')
 | .bool a,.bool b=>a == b
 | .str a,.str b=>decide (a=b)
 | .agg a,.agg b=>eqL a b
 | .tup a,.tup b=>eqL a b
 | .nil,.nil=>true
 | .sl z a,.sl z' b=>decide (z=z') && eqE a b
 | .ro a o,.ro b o'=>decide (o=o') && eqL a b
 | .nilp,.nilp=>true
 | .nilm,.nilm=>true
 | .nilf,.nilf=>true
 | .own i z a,.own i' z' b=>decide (i=i') && decide (z=z') && eqE a b
 | .ptr i o,.ptr i' o'=>decide (i=i') && decide (o=o')
 | .map i,.map i'=>decide (i=i')
 | .it i,.it i'=>decide (i=i')
 | .rw i z n,.rw i' z' n'=>decide (i=i') && decide (z=z') && decide (n=n')
 | .rp i n k o,.rp i' n' k' o'=>decide (i=i') && decide (n=n') && decide (k=k') && decide (o=o')
 | _,_=>false
def eqL:List V->List V->Bool
 | [],[]=>true
 | a::l,b::m=>eqV a b && eqL l m
 | _,_=>false
def eqE:List (List V)->List (List V)->Bool
 | [],[]=>true
 | a::l,b::m=>eqL a b && eqE l m
 | _,_=>false
end
def eqM:List (V×V)->List (V×V)->Bool
 | [],[]=>true
 | a::l,b::m=>eqV a.1 b.1 && eqV a.2 b.2 && eqM l m
 | _,_=>false
def Acd:Ob->Ob->Bool
 | .cells e a,.cells e' b=>decide (e=e') && eqL a b
 | .arr e z n,.arr e' z' n'=>decide (e=e') && decide (z=z') && decide (n=n')
 | .map a,.map b=>eqM a b
 | .dead,.dead=>true
 | .row e z a,.row e' z' b=>decide (e=e') && decide (z=z') && eqE a b
 | _,_=>false
def eqH:List Ob->List Ob->Bool
 | [],[]=>true
 | a::l,b::m=>Acd a b && eqH l m
 | _,_=>false
abbrev Res:=Option (V×List Ob)
abbrev Go:=Bool->List RV->(Nat->C)->Nat->List K->T->List Ob->Res
def AaS (a b:Res):Res:=match a with
 | some a=>match b with
  | some b=>if eqV a.1 b.1 && eqH a.2 b.2 then some a else none
  | none=>none
 | none=>none
def jt:List Res->Res
 | []=>none
 | [r]=>r
 | r::r2::rs=>AaS r (jt (r2::rs))
mutual
def Aaw:V->List Nat
 | .agg cs | .tup cs=>Z6 cs
 | .fn _ a l=>Z6 a++Z6 l
 | .own i _ _=>[i]
 | .ptr i _=>[i]
 | .map i=>[i]
 | .it i=>[i]
 | .rw i _ _=>[i]
 | .rp i _ _ _=>[i]
 | _=>[]
def Z6:List V->List Nat
 | []=>[]
 | x::xs=>Aaw x++Z6 xs
end
def xm:List (V×V)->List Nat
 | []=>[]
 | p::es=>Aaw p.2++xm es
def xq:List (List V)->List Nat
 | []=>[]
 | x::xs=>Z6 x++xq xs
def xt:Ob->List Nat
 | .cells _ cs=>Z6 cs
 | .map es=>xm es
 | .row _ _ els=>xq els
 | .iter (some i) _ _=>[i]
 | _=>[]
def xi:List Ob->List Nat
 | []=>[]
 | o::H=>xt o++xi H
def rN (i:Nat):List Nat->Bool
 | []=>false
 | j::l=>Nat.beq i j || rN i l
def pR (B:Nat)(H:List Ob):Nat->List Nat->List Nat->List Nat
 | 0,_,acc=>acc
 | _+1,[],acc=>acc
 | n+1,i::l,acc=>bif Nat.blt i B || rN i acc then pR B H n l acc else pR B H n (xt (H.getD i .dead)++l) (acc++[i])
def AbD (B n:Nat):List Nat->Bool
 | []=>true
 | i::l=>Nat.ble B i && Nat.blt i n && !rN i l && AbD B n l
def fin (pure:Bool)(rs:List RV)(B:Nat)(t:T)(H:List Ob):Res :=
 match Sh rs t H with
 | none=>none
 | some x=>bif pure then (match B with | 0=>some (ren (fun _=>none) x,[]) | _=>none) else
  match pR B H 1000 (Aaw x++xi (H.take B)) []with
  | ex=>bif AbD B H.length ex then some (ren (Aw (List.range B++ex)) x,give (List.range B++ex) H) else none
structure FD where
 nd:Nat->C
 c:C
 n:Nat
 rs:List RV
abbrev Code:=Nat->Option FD
abbrev wX:=Nat->List V->List Ob->Res
def jl (code:Code)(prims:wX)(ih:Go)(pure:Bool)(f:Nat)(args:List V)(H:List Ob):Res :=
 match prims f args H with
 | some r=>some r
 | none=>match code f with
  | some fd=>bif Nat.beq args.length fd.n then ih pure fd.rs fd.nd H.length [.c fd.c] (ini 0 args) H else none
  | none=>none
def nxK (seen:List Nat)(k:Nat):List (V×V)->List (Nat×V×V)
 | []=>[]
 | p::es=>bif rN k seen then nxK seen (k+1) es else (k,p)::nxK seen (k+1) es
def kb (seen:List Nat):Nat->Bool
 | 0=>true
 | n+1=>rN n seen && kb seen n
def step (code:Code)(prims:wX)(ih:Go)(pure:Bool)(rs:List RV)(N:Nat->C)(B:Nat)(s:List K)(t:T)(H:List Ob):Res :=
 match s with
 | []=>fin pure rs B t H
 | .c c::s=>match c with
  | .skip=>ih pure rs N B s t H
  | .seq a b=>ih pure rs N B (.c a::.c b::s) t H
  | .reg l=>ih pure rs N B (.r l::s) t H
  | .dr _ l=>ih pure rs N B (.r l::s) t H
  | .gh l c=>ih pure rs N B (.r (l.map .op)::.c c::s) t H
  | .cond x a b=>match ev t x with
   | .bool c=>ih pure rs N B (.c (if c then a else b)::s) t H
   | _=>none
  | .blk id a=>ih pure rs N B (.c a::.mk id::s) t H
  | .loop a=>ih pure rs N B (.c a::.c (.loop a)::s) t H
  | .exit id=>match JJ id s with
   | some s'=>ih pure rs N B s' t H
   | none=>none
  | .ret=>fin pure rs B t H
  | .n k=>ih pure rs N B (.c (N k)::s) t H
  | .m k=>ih pure rs N B (.c (N k)::s) t H
  | _=>none
 | .mk _::s=>ih pure rs N B s t H
 | .br ..::_=>none
 | .r l::s=>match l with
  | []=>ih pure rs N B s t H
  | .op i::l=>match Ay B i t H with
   | some (t',H')=>ih pure rs N B (.r l::s) t' H'
   | none=>none
  | .call d f args::l=>match jl code prims ih false f (args.map (ev t)) H with
   | some (x,H')=>ih pure rs N B (.r l::s) (Ez d x t) H'
   | none=>none
  | .callv d g args::l=>match ev t g with
   | .fn (.func f) fst caps=>match jl code prims ih false f (fst++args.map (ev t)++caps) H with
    | some (x,H')=>ih pure rs N B (.r l::s) (Ez d x t) H'
    | none=>none
   | _=>none
  | .callp d f args::l=>match jl code prims ih true f (AP (fun _=>none) (args.map (ev t))) []with
   | some (x,[])=>ih pure rs N B (.r l::s) (Ez d (ren (fun _=>none) x) t) H
   | _=>none
  | .callvp d g args::l=>match ev t g with
   | .fn (.func f) fst caps=>match jl code prims ih true f (AP (fun _=>none) (fst++args.map (ev t)++caps)) []with
    | some (x,[])=>ih pure rs N B (.r l::s) (Ez d (ren (fun _=>none) x) t) H
    | _=>none
   | _=>none
  | .gd x b ds g::l=>match ev t x with
   | .bool c=>ih pure rs N B (.r ((if c=b then g else [])++l)::s) (if c=b then t else ds.map (fun d=>(d,V.tup []))++t) H
   | .tup []=>ih pure rs N B (.r l::s) (ds.map (fun d=>(d,V.tup []))++t) H
   | _=>none
  | .alt ls::l=>match l with
   | []=>jt (ls.map fun p=>ih pure rs N B (.r p.2::s) t H)
   | _=>none
  | .nl d ne x::l=>match elV (ev t x)with
   | some []=>jt [ih pure rs N B (.r l::s) ((d,.bool (true != ne))::t) H,ih pure rs N B (.r l::s) ((d,.bool (false != ne))::t) H]
   | some _=>ih pure rs N B (.r l::s) ((d,.bool (false != ne))::t) H
   | none=>none
  | .nx d x::l=>match ev t x with
   | .it j=>match H[j]? with
    | some (.iter (some i) n seen)=>match H[i]? with
     | some (.map es)=>if n=es.length then
       bif kb seen n then ih pure rs N B (.r l::s) ((d,.tup [.bool false])::t) H
       else jt ((nxK seen 0 es).map fun p=>ih pure rs N B (.r l::s) ((d,.tup [.bool true,p.2.1,p.2.2])::t) (H.set j (.iter (some i) n (seen++[p.1]))))
      else none
     | _=>none
    | _=>none
   | _=>none
end Go.Dw
end
section
namespace Go.Dw
inductive A0 where
 | mk (rule:Int) (name:Str) (var:Bool) (args:List A0)
deriving Inhabited
namespace A0
def rule:A0->Int | mk r _ _ _=>r
def name:A0->Str | mk _ n _ _=>n
def var:A0->Bool | mk _ _ v _=>v
def args:A0->List A0 | mk _ _ _ a=>a
theorem eta (t:A0):mk t.rule t.name t.var t.args=t:=by cases t;rfl
end A0
mutual
def jM:A0->List (List V)
 | .mk _ _ _ ts=>WW ts
def WW:List A0->List (List V)
 | []=>[]
 | a::ts=>[.int .i64 a.rule,.str a.name,.bool a.var,.sl 4 (jM a)]::WW ts
end
def cM (t:A0):List V:=[.int .i64 t.rule,.str t.name,.bool t.var,.sl 4 (jM t)]
theorem kE (ts:List A0):WW ts=ts.map cM:=by
 induction ts with
 | nil=>simp[WW]
 | cons a ts ih=>simp[WW,ih,cM]
theorem qq (t:A0):jM t=t.args.map cM:=by cases t;simp[jM,kE,A0.args]
abbrev Cu (l:List A0):V:=Dz cM 4 l
theorem SE (t:A0):cM t=[.int .i64 t.rule,.str t.name,.bool t.var,Cu t.args]:=by rw[cM,qq];rfl
def Aq (t:A0):V:=.agg (cM t)
theorem ol (t:A0):sto (Aq t)=some (cM t):=rfl
theorem yQ (t:A0):(cM t).length=4:=rfl
theorem Ab1 (t:A0):(cM t)[0]?=some (.int .i64 t.rule):=rfl
theorem Aci (t:A0):(cM t)[1]?=some (.str t.name):=rfl
theorem Ab7 (t:A0):(cM t)[2]?=some (.bool t.var):=rfl
theorem Ab5 (t:A0):(cM t)[3]?=some (Cu t.args):=by rw[SE];rfl
theorem xy (t:A0):sub 0 4 (cM t)=cM t:=rfl
theorem lm (t:A0):V.agg (cM t)=Aq t:=rfl
theorem jI {σ:Nat->Option Nat}(t:A0):AP σ (cM t)=cM t:=rfl
theorem nj {σ:Nat->Option Nat}(t:A0):ren σ (Aq t)=Aq t:=by unfold Aq;rw[Gi,jI]
theorem rY (r:Int)(n:Str)(v:Bool)(l:List A0):[V.int .i64 r,V.str n,.bool v,Cu l]=cM (.mk r n v l):=by rw[SE];rfl
theorem XZ (t:A0)(k:Nat):fdV k none (Aq t)=(cM t)[k]?:=rfl
theorem ji (x:List V)(a b c d:V)(h:x.length=4):put 0 x [a,b,c,d]=x:=by
 simp only[put,h];simp
theorem yy (t:A0)(a b c d:V):put 0 (cM t) [a,b,c,d]=cM t:=ji _ _ _ _ _ rfl
theorem uP (t u:A0):put 0 (cM t) (cM u)=cM t:=ji _ _ _ _ _ rfl
attribute [push_cast] ol yQ Ab1 Aci Ab7 Ab5 xy lm nj jI XZ yy uP
mutual
def Ar:A0->Nat
 | .mk _ _ _ l=>1+Bs l
def Bs:List A0->Nat
 | []=>0
 | a::l=>Ar a+Bs l
end
mutual
def Ba:A0->Nat
 | .mk _ _ _ l=>AW l+1
def AW:List A0->Nat
 | []=>0
 | a::l=>max (Ba a) (AW l)
end
mutual
def mb:A0->Nat
 | .mk _ n _ l=>1+n.length+mbs l
def mbs:List A0->Nat
 | []=>0
 | a::l=>mb a+mbs l
end
theorem QY (a b:List A0):Bs (a++b)=Bs a+Bs b:=by
 induction a with
 | nil=>simp[Bs]
 | cons x xs ih=>simp[Bs,ih];omega
theorem AO (t:A0):Ar t=1+Bs t.args:=by cases t;simp[Ar,A0.args]
theorem E4 (t:A0):Ba t=AW t.args+1:=by cases t;simp[Ba,A0.args]
theorem Vp (t:A0):mb t=1+t.name.length+mbs t.args:=by cases t;simp[mb,A0.args,A0.name]
theorem IV (l:List A0)(k:Nat)(h:k<l.length):Bs (l.take (k+1))=Bs (l.take k)+Ar (l.getD k default):=by
 rw[A9 h,QY];simp[Bs]
theorem OR (l:List A0)(k:Nat):Bs (l.take k)<=Bs l:=by
 conv=>rhs;rw[<-List.take_append_drop k l]
 rw[QY];omega
theorem CE {l:List A0}{a:A0}(h:a∈l):Ar a<=Bs l:=by
 induction l with
 | nil=>cases h
 | cons x xs ih=>rcases List.mem_cons.1 h with rfl | h <;> simp[Bs];have:=ih h;omega
theorem oE {l:List A0}{a:A0}(h:a∈l):mb a<=mbs l:=by
 induction l with
 | nil=>cases h
 | cons x xs ih=>rcases List.mem_cons.1 h with rfl | h <;> simp[mbs];have:=ih h;omega
theorem AS (l:List A0):l.length<=Bs l:=by
 induction l with
 | nil=>simp
 | cons x xs ih=>simp only[Bs,List.length_cons];have:=AO x;omega
theorem Wj (a b:List A0):AW (a++b)=max (AW a) (AW b):=by
 induction a with
 | nil=>simp[AW]
 | cons x xs ih=>simp[AW,ih,Nat.max_assoc]
theorem Co {p:A0->Prop}(h:∀ t,(∀ a∈t.args,p a)->p t)(t:A0):p t:=by
 have:∀ n t,Ar t<=n->p t:=by
  intro n
  induction n with
  | zero=>intro t ht;have:=AO t;omega
  | succ n ih =>
   intro t ht
   refine h t fun a ha=>ih a ?_
   have:=AO t
   have:=CE ha
   omega
 exact this (Ar t) t (Nat.le_refl _)
theorem Vj (t:A0):Ba t<=Ar t:=by
 induction t using Co with
 | h t ih =>
  rw[E4,AO]
  have:∀ l:List A0,(∀ a∈l,Ba a<=Ar a)->AW l<=Bs l:=by
   intro l
   induction l with
   | nil=>intro _;simp[AW]
   | cons x l ihl =>
    intro hl
    have h1:=hl x (by simp)
    have h2:=ihl fun a ha=>hl a (by simp[ha])
    simp only[AW,Bs];omega
  have:=this t.args ih
  omega
theorem FO (t:A0):Ar t<=mb t:=by
 induction t using Co with
 | h t ih =>
  rw[Vp,AO]
  have:∀ l:List A0,(∀ a∈l,Ar a<=mb a)->Bs l<=mbs l:=by
   intro l
   induction l with
   | nil=>intro _;simp[mbs,Bs]
   | cons x l ihl =>
    intro hl
    have h1:=hl x (by simp)
    have h2:=ihl fun a ha=>hl a (by simp[ha])
    simp only[mbs,Bs];omega
  have:=this t.args ih
  omega
theorem HY (l:List A0)(k:Nat)(h:k<l.length):AW (l.take (k+1))=max (AW (l.take k)) (Ba (l.getD k default)):=by
 rw[A9 h,Wj];simp[AW]
theorem M3 (l:List A0):AW l<=Bs l:=by
 induction l with
 | nil=>simp[AW]
 | cons x l ih=>have:=Vj x;simp only[AW,Bs];omega
mutual
def meq:A0->A0->Bool
 | .mk r n v l,.mk r' n' v' l'=>r == r' && n == n' && v == v' && il l l'
def il:List A0->List A0->Bool
 | [],[]=>true
 | a::l,b::m=>meq a b && il l m
 | _,_=>false
end
mutual
theorem aP:∀ a b:A0,meq a b=true↔a=b
 | .mk r n v l,.mk r' n' v' l'=>by simp[meq,cc l l',and_assoc]
theorem cc:∀ a b:List A0,il a b=true↔a=b
 | [],[]=>by simp[il]
 | a::l,b::m=>by simp[il,aP a b,cc l m]
 | [],_::_=>by simp[il]
 | _::_,[]=>by simp[il]
end
instance:DecidableEq A0:=fun a b=>if h:meq a b=true then .isTrue ((aP a b).1 h) else .isFalse fun e=>h ((aP a b).2 e)
end Go.Dw
end
section
namespace Go.Dw
theorem XY (s:Str)(h1:s.length<2^62):PF Js [.str s] (.bool (s.all Eo)):=by
 refine Aa JO.ok rfl ?_
 push_cast
 refine Ac (n:=s.length) (R:=fun k=>(s.drop k).all Eo=s.all Eo->JO.L3 (.str s) (.int .i64 s.length) (.int .i64 k) 0 [] _) ?_ ?_ 0 (by omega) rfl
 ·intro k hk ih hq
  rw[Ak hk]at hq
  simp only[List.all_cons]at hq
  refine A8.2 ?_
  have hb:btV s k=((s.getD k default).toNat:Int):=rfl
  push_cast[ilt hk,hb]
  refine .of (aS _) ?_
  push_cast[w64 (show k<2^62 by omega)]
  refine⟨fun h=>A1 ?_,fun h=>ih ?_⟩
  ·push_cast[JO.rs]
   rw[<-hq];simp_all
  ·rw[<-hq];simp_all
 ·intro hq
  refine A8.2 ?_
  push_cast[B6 (Nat.le_refl _)]
  refine A1 ?_
  push_cast[JO.rs]
  rw[<-hq,An];rfl
theorem ct {s:Str}(h:s≠[]):Ip s [35]=decide (btV s (s.length-1)=35):=by
 have hl:0<s.length:=List.length_pos_iff.2 h
 have e:s.drop (s.length-1)=[s.getD (s.length-1) default]:=by
  rw[Ak (show s.length-1<s.length by omega),show s.length-1+1=s.length by omega,An]
 have e2:btV s (s.length-1)=((s.getD (s.length-1) default).toNat:Int):=rfl
 unfold Ip
 rw[e2]
 simp only[List.length_singleton]
 rw[decide_eq_true (show 1<=s.length by omega),Bool.true_and,decide_eq_decide,e]
 generalize s.getD (s.length-1) default=c
 constructor
 ·intro h;simp only[List.cons.injEq,and_true]at h;rw[h];rfl
 ·intro h;simp only[List.cons.injEq,and_true];exact UInt8.toNat_inj.1 (show c.toNat=35 by omega)
theorem Si (s:Str)(h1:s.length<2^62):PF Kf [.str s] (.bool (Ip s [35])):=by
 refine Aa NT.ok rfl ?_
 by_cases h:s=[]
 ·subst h
  push_cast
  refine A1 ?_
  push_cast[NT.rs]
  rfl
 ·have hl:0<s.length:=List.length_pos_iff.2 h
  have hlt:(((s.length-1:Nat):Int)<(s.length:Int))=True:=eq_true (by omega)
  push_cast[h,Aar h1 hl,hlt]
  refine A1 ?_
  push_cast[NT.rs,ct h]
theorem SB (s:Str)(m:Bool)(h1:s.length<2^62):PF E5 [.str s,.bool m] (.bool (C6 s m)):=by
 refine Aa F7.ok rfl ?_
 push_cast
 refine⟨fun h=>A1 ?_,fun h=>?_⟩
 ·push_cast[F7.rs,C6]
  rw[show decide (s.length<=24)=false from decide_eq_false (by omega)];rfl
 ·have hlen:s.length<=24:=by omega
  have hu:C6 s m=(!decide (Ep s m=[]) && (Ep s m).all Eo):=by simp[C6,hlen]
  rw[hu]
  have hnl:=WU s m
  have hL:=XY (Ep s m) (by omega)
  have fin2:∀ u:Str,u=Ep s m->PF Js [.str u] (.bool ((Ep s m).all Eo)):=fun u hu=>hu▸hL
  cases m with
  | false =>
   have hn:s=Ep s false:=rfl
   push_cast
   rw[<-hn]
   by_cases h0:s=[]
   ·push_cast[h0]
    exact A1 (by push_cast[F7.rs])
   ·push_cast[h0]
    refine .of (fin2 s hn) ?_
    push_cast
    exact A1 (by push_cast[F7.rs];rw[<-hn])
  | true =>
   push_cast
   refine .of (Si s h1) ?_
   cases hm:Ip s [35]with
   | false =>
    have hn:s=Ep s true:=by simp[Ep,Jn,hm]
    push_cast
    rw[<-hn]
    by_cases h0:s=[]
    ·push_cast[h0]
     exact A1 (by push_cast[F7.rs])
    ·push_cast[h0]
     refine .of (fin2 s hn) ?_
     push_cast
     exact A1 (by push_cast[F7.rs];rw[<-hn])
   | true =>
    have hn:(s.drop 0).take (s.length-1-0)=Ep s true:=by simp[Ep,Jn,hm]
    have hl:0<s.length:=by
     unfold Ip at hm;simp only[Bool.and_eq_true,decide_eq_true_eq,List.length_singleton]at hm;omega
    have hle:s.length-1<=s.length:=by omega
    by_cases h0:Ep s true=[]
    ·push_cast[Aar h1 hl,hn,hle,h0]
     refine⟨by omega,?_⟩
     exact A1 (by push_cast[F7.rs,h0])
    ·push_cast[Aar h1 hl,hn,hle,h0]
     refine⟨by omega,.of hL ?_⟩
     push_cast
     exact A1 (by push_cast[F7.rs,h0])
end Go.Dw
end
section
namespace Go.Dw
theorem Rt (t:Term)(hs:size t<2^62):PF Jf [Ao t] (.int .i64 (size t)):=by
 induction t using Af with
 | h t ih =>
 refine Aa S7.ok rfl ?_
 have hst:=AH t
 have hl:=Ai t.args
 push_cast
 refine Ac (n:=t.args.length) (R:=fun k=>S7.L3 (.int .i64 ((1+Ab (t.args.take k):Nat):Int)) (Bd t.args) (.int .i64 t.args.length) (.int .i64 k) 0 [] _) ?_ ?_ 0 (by omega)
 ·intro k hk ih2
  have h1:=Fg _ _ hk
  have h2:=Ek t.args (k+1)
  have hm:=A4 hk
  refine A8.2 ?_
  push_cast[ilt hk]
  refine .of (ih _ hm (by omega)) ?_
  push_cast[w64 (show k<2^62 by omega)]
  rw[Bq (by omega) (by omega)]
  rw[h1]at ih2
  simpa[Int.add_assoc]using ih2
 ·refine A8.2 ?_
  push_cast[B6 (Nat.le_refl _)]
  refine A1 ?_
  push_cast[S7.rs,List.take_length,hst]
theorem Ph (t:Term)(hs:size t<2^62):PF Hu [Ao t] (.int .i64 (depth t)):=by
 induction t using Af with
 | h t ih =>
 refine Aa Qr.ok rfl ?_
 have hst:=AH t
 have hl:=Ai t.args
 have hd:=DW t.args
 push_cast
 refine Ac (n:=t.args.length) (R:=fun k=>Qr.L3 (.int .i64 (AA (t.args.take k):Nat)) (Bd t.args) (.int .i64 t.args.length) (.int .i64 k) 0 [] _) ?_ ?_ 0 (by omega)
 ·intro k hk ih2
  have h1:=Nj _ _ hk
  have hm:=A4 hk
  have:=Bp hm
  refine A8.2 ?_
  push_cast[ilt hk]
  refine .of (ih _ hm (by omega)) ?_
  push_cast[w64 (show k<2^62 by omega)]
  rw[h1]at ih2
  exact ih2
 ·refine A8.2 ?_
  push_cast[B6 (Nat.le_refl _)]
  rw[Bq (by have:=Im t.args t.args.length;omega) (by have:=Im t.args t.args.length;omega)]
  refine A1 ?_
  push_cast[Qr.rs,List.take_length,F2 t]
theorem aj (t:Term)(hs:tb t<2^62):PF Kj [Ao t] (.bool (C5 t)):=by
 induction t using Af with
 | h t ih =>
 have htb:=Kn t
 have hl:=GO t.args
 have hI:∀ m,PF E5 [.str t.name,.bool m] (.bool (C6 t.name m)):=fun m=>SB _ m (by omega)
 refine Aa EX.ok rfl ?_
 cases hv:t.var with
 | true =>
  push_cast[hv]
  refine .of (hI false) ?_
  cases hn:C6 t.name false
  ·push_cast
   exact A1 (by push_cast[EX.rs,EH t,hv,hn])
  ·push_cast
   exact A1 (by push_cast[EX.rs,EH t,hv,hn];simp)
 | false =>
  push_cast[hv]
  refine .of (hI true) ?_
  have hf:C5 t=(decide (t.args.length<=8) && (C6 t.name true && t.args.all C5)):=by rw[EH,hv];rfl
  rw[hf]
  cases hn:C6 t.name true
  ·push_cast
   exact A1 (by push_cast[EX.rs])
  ·by_cases h0:t.args.length<=8
   ·have hi:((8:Int)<(t.args.length:Int))=False:=eq_false (by omega)
    push_cast[hi,h0]
    refine Ac (n:=t.args.length) (R:=fun k=>(t.args.drop k).all C5=t.args.all C5->EX.L3 (Bd t.args) (.int .i64 t.args.length) (.int .i64 k) 0 [] _) ?_ ?_ 0 (by omega) rfl
    ·intro k hk ih2 hq
     rw[Ak hk]at hq
     simp only[List.all_cons]at hq
     have hm:=A4 hk
     refine A8.2 ?_
     push_cast[ilt hk]
     refine .of (ih _ hm (by have:=O4 hm;omega)) ?_
     push_cast[w64 (show k<2^62 by omega)]
     refine⟨fun h=>A1 ?_,fun h=>ih2 ?_⟩
     ·push_cast[EX.rs]
      rw[<-hq];simp_all
     ·rw[<-hq];simp_all
    ·intro hq
     refine A8.2 ?_
     push_cast[B6 (Nat.le_refl _)]
     refine A1 ?_
     push_cast[EX.rs]
     rw[<-hq,An];rfl
   ·have hi:((8:Int)<(t.args.length:Int))=True:=eq_true (by omega)
    push_cast[hi,h0]
    exact A1 (by push_cast[EX.rs])
theorem dt (t:Term)(hs:tb t<2^62):PF PA [Ao t] (.int .i64 (EU t)):=by
 have hst:=AQ t
 refine Aa Kx.ok rfl ?_
 push_cast
 refine .of (aj t hs) ?_
 cases hf:C5 t
 ·push_cast
  exact A1 (by push_cast[Kx.rs,EU,hf])
 ·push_cast
  refine .of (Rt t (by omega)) ?_
  by_cases h:size t<=4000
  ·have hi:((4000:Int)<(size t:Int))=False:=eq_false (by omega)
   push_cast[hi]
   refine .of (Ph t (by omega)) ?_
   by_cases hd:depth t<=200
   ·have hi2:((200:Int)<(depth t:Int))=False:=eq_false (by omega)
    push_cast[hi2]
    exact A1 (by push_cast[Kx.rs,EU,hf,BK,h,hd])
   ·have hi2:((200:Int)<(depth t:Int))=True:=eq_true (by omega)
    push_cast[hi2]
    exact A1 (by push_cast[Kx.rs,EU,hf,BK,h,hd])
  ·have hi:((4000:Int)<(size t:Int))=True:=eq_true (by omega)
   push_cast[hi]
   exact A1 (by push_cast[Kx.rs,EU,hf,BK,h])
theorem Xl (l:List Term)(hl:l.length<2^62)(hs:∀ t∈l,tb t<2^62):PF LF [Bd l] (.int .i64 (IP l)):=by
 refine Aa I8.ok rfl ?_
 push_cast
 refine Ac (n:=l.length) (R:=fun k=>IP (l.drop k)=IP l->I8.L3 (Bd l) (.int .i64 l.length) (.int .i64 k) 0 [] _) ?_ ?_ 0 (by omega) rfl
 ·intro k hk ih hq
  rw[Ak hk]at hq
  simp only[IP]at hq
  refine A8.2 ?_
  push_cast[ilt hk]
  refine .of (dt _ (hs _ (A4 hk))) ?_
  push_cast[w64 (show k<2^62 by omega)]
  refine⟨fun h=>A1 ?_,fun h=>ih ?_⟩
  ·push_cast[I8.rs]
   rw[<-hq,if_pos (by simpa using h)]
  ·rw[<-hq,if_neg (by simpa using h)]
 ·intro hq
  refine A8.2 ?_
  push_cast[B6 (Nat.le_refl _)]
  refine A1 ?_
  push_cast[I8.rs]
  rw[<-hq,An];rfl
def Rn (a b:Int):Int:=if a<b then -1 else if b<a then 1 else 0
theorem I5 (a b:Int):PF E8 [.int .i64 a,.int .i64 b] (.int .i64 (Rn a b)):=by
 refine Aa JU.ok rfl ?_
 push_cast
 refine⟨fun h=>A1 ?_,fun h=>⟨fun h2=>A1 ?_,fun h2=>A1 ?_⟩⟩ <;> push_cast[JU.rs,Rn,h]
 ·simp_all
 ·simp_all
def Xu:Str->Str->Int
 | [],[]=>0
 | [],_::_=>-1
 | _::_,[]=>1
 | a::s,b::u=>if a=b then Xu s u else Rn a.toNat b.toNat
theorem sS:∀ a b:Str,Xu a b=I7 a b:=by
 intro a b
 rw[VB]
 induction a generalizing b with
 | nil=>cases b <;> simp[Xu]
 | cons x a ih =>
  cases b with
  | nil=>simp[Xu]
  | cons y b =>
   simp only[Xu,List.cons_lt_cons_iff]
   by_cases h:x=y
   ·subst h
    rw[if_pos rfl,ih]
    have:¬ x<x:=UInt8.lt_irrefl x
    simp[this]
   ·rw[if_neg h]
    have h':¬ y=x:=fun e=>h e.symm
    simp only[h,h',false_and,or_false,Rn,UInt8.lt_iff_toNat_lt]
    norm_cast
theorem Cd (a b:Str)(ha:a.length<2^62)(hb:b.length<2^62):PF CT [.str a,.str b] (.int .i64 (I7 a b)):=by
 rw[<-sS]
 refine Aa Ev.ok rfl ?_
 have hmn:(if (b.length:Int)<(a.length:Int) then (b.length:Int) else (a.length:Int))=((min a.length b.length:Nat):Int):=by split <;> omega
 push_cast[hmn]
 refine Ac (n:=min a.length b.length) (R:=fun k=>Xu (a.drop k) (b.drop k)=Xu a b->Ev.L3 (.str a) (.str b) (.int .i64 (min a.length b.length:Nat)) (.int .i64 k) 0 [] _) ?_ ?_ 0 (by omega) rfl
 ·intro k hk ih hq
  have hka:k<a.length:=by omega
  have hkb:k<b.length:=by omega
  rw[Ak hka,Ak hkb]at hq
  simp only[Xu]at hq
  have h1:btV a k=((a.getD k default).toNat:Int):=rfl
  have h2:btV b k=((b.getD k default).toNat:Int):=rfl
  have hr:∀ c:UInt8,IntKind.i64.wrap (c.toNat:Int)=c.toNat:=fun c=>Bq (by omega) (by have:=UInt8.toNat_lt c;omega)
  refine A8.2 ?_
  push_cast[ilt hk,ilt hka,ilt hkb,h1,h2,hr,w64 (show k<2^62 by omega)]
  refine⟨fun h=>.of (I5 _ _) ?_,fun h=>ih ?_⟩
  ·push_cast
   refine A1 ?_
   push_cast[Ev.rs]
   rw[<-hq,if_neg]
   intro e;rw[e]at h;exact h rfl
  ·rw[<-hq,if_pos]
   exact UInt8.toNat_inj.1 (Int.ofNat.inj (by simpa using h))
 ·intro hq
  refine A8.2 ?_
  push_cast[B6 (Nat.le_refl _)]
  refine .of (I5 _ _) ?_
  push_cast
  refine A1 ?_
  push_cast[Ev.rs]
  rw[<-hq]
  rcases Nat.lt_or_ge a.length b.length with h | h
  ·rw[Nat.min_eq_left (by omega),An,Ak h]
   simp[Xu,Rn];omega
  ·rw[Nat.min_eq_right (by omega),An]
   rcases Nat.lt_or_ge b.length a.length with h2 | h2
   ·rw[Ak h2]
    simp[Xu,Rn];omega
   ·rw[show b.length=a.length by omega,An]
    simp[Xu,Rn]
end Go.Dw
end
section
namespace Go.Dw
mutual
def CZ (v:Str):Term->Nat
 | .mk n b l=>(if b && decide (n=v) then 1 else 0)+BQ v l
def BQ (v:Str):List Term->Nat
 | []=>0
 | a::l=>CZ v a+BQ v l
end
theorem Lb (v:Str)(t:Term):CZ v t=(if t.var && decide (t.name=v) then 1 else 0)+BQ v t.args:=by cases t;rfl
theorem Ju (v:Str)(a b:List Term):BQ v (a++b)=BQ v a+BQ v b:=by
 induction a with
 | nil=>simp[BQ]
 | cons x xs ih=>simp[BQ,ih];omega
theorem TZ (v:Str)(l:List Term)(k:Nat)(h:k<l.length):BQ v (l.take (k+1))=BQ v (l.take k)+CZ v (l.getD k default):=by
 rw[A9 h,Ju];simp[BQ]
theorem P5 (v:Str)(l:List Term)(k:Nat):BQ v (l.take k)<=BQ v l:=by
 conv=>rhs;rw[<-List.take_append_drop k l]
 rw[Ju];omega
mutual
theorem qG (v:Str):∀ t,CZ v t<=size t
 | .mk n b l=>by simp only[CZ,size];have:=Qp v l;split <;> omega
theorem Qp (v:Str):∀ l,BQ v l<=Ab l
 | []=>by simp[BQ,Ab]
 | a::l=>by simp only[BQ,Ab];have:=qG v a;have:=Qp v l;omega
end
theorem Un (t:Term)(v:Str)(hs:size t<2^62):PF JN [Ao t,.str v] (.int .i64 (CZ v t)):=by
 induction t using Af with
 | h t ih =>
 have hst:=AH t
 have hl:=Ai t.args
 have hce:=Lb v t
 have hcl:=Qp v t.args
 have fin:∀ c:Nat,c<=1->CZ v t=c+BQ v t.args->KK.L3 (.str v) (.int .i64 c) (Bd t.args) (.int .i64 t.args.length) (.int .i64 0) 0 [] (Bv 0 KK.rs fun x' H'=>x'=.int .i64 (CZ v t)/\H'=[]):=by
  intro c hc hcv
  refine Ac (n:=t.args.length) (R:=fun k=>KK.L3 (.str v) (.int .i64 ((c+BQ v (t.args.take k):Nat):Int)) (Bd t.args) (.int .i64 t.args.length) (.int .i64 k) 0 [] _) ?_ ?_ 0 (by omega)
  ·intro k hk ih2
   have h1:=TZ v _ _ hk
   have h2:=P5 v t.args (k+1)
   have hm:=A4 hk
   have hm2:=Bp hm
   refine A8.2 ?_
   push_cast[ilt hk]
   refine .of (ih _ hm (by omega)) ?_
   push_cast[w64 (show k<2^62 by omega)]
   rw[Bq (by omega) (by omega)]
   rw[h1]at ih2
   simpa[Int.add_assoc]using ih2
  ·refine A8.2 ?_
   push_cast[B6 (Nat.le_refl _)]
   refine A1 ?_
   push_cast[KK.rs,List.take_length,hcv]
 refine Aa KK.ok rfl ?_
 cases hv:t.var with
 | true =>
  by_cases hn:t.name=v
  ·push_cast[hv,hn]
   exact fin 1 (by omega) (by rw[hce];simp[hv,hn])
  ·push_cast[hv,hn]
   exact fin 0 (by omega) (by rw[hce];simp[hv,hn])
 | false =>
  push_cast[hv]
  exact fin 0 (by omega) (by rw[hce];simp[hv])
def lbg {α:Type}(p:α->Bool):List α->Nat
 | []=>0
 | x::l=>if p x then lbg p l+1 else 0
theorem Ts {α:Type}(p:α->Bool):∀ l:List α,lbg p l<=l.length
 | []=>Nat.le_refl _
 | x::l=>by simp only[lbg];have:=Ts p l;split <;> simp <;> omega
theorem ic {α:Type}[Inhabited α]{p:α->Bool}:∀ {l:List α} {j:Nat},j<lbg p l->p (l.getD j default)=true
 | [],j,h=>by simp[lbg]at h
 | x::l,j,h=>by
  simp only[lbg]at h
  split at h
  ·rename_i hx
   cases j with
   | zero=>simpa using hx
   | succ j=>simpa using ic (l:=l) (j:=j) (by omega)
  ·omega
theorem fL {α:Type}[Inhabited α]{p:α->Bool}:∀ {l:List α},lbg p l<l.length->p (l.getD (lbg p l) default)=false
 | [],h=>by simp at h
 | x::l,h=>by
  simp only[lbg]at h ⊢
  split
  ·rename_i hx
   rw[if_pos hx]at h
   simpa using fL (l:=l) (by simpa using h)
  ·rename_i hx
   simpa using hx
def OI (l:List Str)(s:Str):List Str:=if lbg (fun x=>decide (x<s)) l<l.length/\l.getD (lbg (fun x=>decide (x<s)) l) default=s then l else l.take (lbg (fun x=>decide (x<s)) l)++s::l.drop (lbg (fun x=>decide (x<s)) l)
theorem Xh {l:List Str}{s v:Str}:v∈OI l s↔v∈l\/v=s:=by
 unfold OI
 split
 ·rename_i h
  constructor
  ·exact .inl
  ·rintro (h2 | rfl)
   ·exact h2
   ·rw[<-h.2];exact A4 h.1
 ·generalize lbg (fun x=>decide (x<s)) l=k
  have:=List.take_append_drop k l
  constructor
  ·intro h
   simp only[List.mem_append,List.mem_cons]at h
   rcases h with h | h | h
   ·exact .inl (List.mem_of_mem_take h)
   ·exact .inr h
   ·exact .inl (List.mem_of_mem_drop h)
  ·rintro (h | rfl)
   ·rw[<-this]at h
    simp only[List.mem_append,List.mem_cons]at h ⊢
    rcases h with h | h
    ·exact .inl h
    ·exact .inr (.inr h)
   ·simp
theorem XE (l:List Str)(s:Str):(OI l s).length<=l.length+1:=by
 unfold OI
 have:=Ts (fun x=>decide (x<s)) l
 split <;> simp <;> omega
theorem RP (l:List Str)(s:Str)(hl:l.length<2^40)(hn:∀ x∈l,x.length<2^62)(hs:s.length<2^62):PF Kg [Bl l,.str s] (Bl (OI l s)):=by
 have hle:=Ts (fun x=>decide (x<s)) l
 have hge:=@fL _ _ (fun x=>decide (x<s)) l
 have hlt:=fun j=>@ic _ _ (fun x=>decide (x<s)) l j
 unfold OI
 generalize lbg (fun x=>decide (x<s)) l=a at hle hge hlt
 refine Aa IY.ok rfl ?_
 push_cast
 refine Ac (n:=a) (R:=fun k=>IY.L4 (Bl l) (.str s) (.int .i64 k) 0 [] _) ?_ ?_ 0 (by omega)
 ·intro k hk ih
  have hkl:k<l.length:=by omega
  have h1:I7 (l.getD k default) s<0:=JE.2 (by simpa using hlt k hk)
  refine A8.2 ?_
  push_cast[ilt hkl]
  refine .of (Cd _ _ (hn _ (A4 hkl)) hs) ?_
  push_cast[h1,w64 (show k<2^62 by omega)]
  exact ih
 ·refine A8.2 ?_
  have tail:∀ m:Nat,m<=2^40->∀ b,b<=64->m*b<=Ag:=fun m hm b hb=>Nat.le_trans (Nat.mul_le_mul hm hb) (by unfold Ag;decide)
  rcases Nat.lt_or_ge a l.length with h | h
  ·have h2:¬ I7 (l.getD a default) s<0:=fun hc=>by have:=JE.1 hc;have:=hge h;simp_all
   push_cast[ilt h]
   refine .of (Cd _ _ (hn _ (A4 h)) hs) ?_
   by_cases he:l.getD a default=s
   ·rw[he]at h2
    push_cast[h2,ilt h,he,h]
    exact A1 (by push_cast[IY.rs])
   ·push_cast[h2,ilt h,he,h]
    refine⟨⟨by omega,hle⟩,tail _ (by simp;omega) _ (by omega),tail _ (by simp;omega) _ (by omega),hle,tail _ (by simp;omega) _ (by omega),A1 ?_⟩
    push_cast[IY.rs]
    simp[Dz,cS,List.take_of_length_le]
  ·push_cast[B6 h]
   rw[if_neg (by omega)]
   refine⟨⟨by omega,hle⟩,tail _ (by simp;omega) _ (by omega),tail _ (by simp;omega) _ (by omega),hle,tail _ (by simp;omega) _ (by omega),A1 ?_⟩
   push_cast[IY.rs]
   simp[Dz,cS,List.take_of_length_le]
mutual
def Dn (l:List Str):Term->List Str
 | .mk n b ar=>Bw (if b then OI l n else l) ar
def Bw (l:List Str):List Term->List Str
 | []=>l
 | a::ar=>Bw (Dn l a) ar
end
theorem cO (l:List Str)(t:Term):Dn l t=Bw (if t.var then OI l t.name else l) t.args:=by cases t;rfl
theorem TV (a b:List Term):∀ l:List Str,Bw l (a++b)=Bw (Bw l a) b:=by
 induction a with
 | nil=>intro l;simp[Bw]
 | cons x xs ih=>intro l;simp[Bw,ih]
theorem QC (s:List Str)(l:List Term)(k:Nat)(h:k<l.length):Bw s (l.take (k+1))=Dn (Bw s (l.take k)) (l.getD k default):=by
 rw[A9 h,TV];simp[Bw]
mutual
theorem Ir:∀ (t:Term)(l:List Str),(Dn l t).length<=l.length+size t
 | .mk n b ar,l=>by
  simp only[Dn,size]
  have:=ME ar (if b then OI l n else l)
  have:=XE l n
  cases b <;> simp at*<;> omega
theorem ME:∀ (ar:List Term)(l:List Str),(Bw l ar).length<=l.length+Ab ar
 | [],l=>by simp[Bw,Ab]
 | a::ar,l=>by simp only[Bw,Ab];have:=Ir a l;have:=ME ar (Dn l a);omega
end
mutual
def occ (v:Str):Term->Bool
 | .mk n b ar=>(b && decide (n=v)) || Ex v ar
def Ex (v:Str):List Term->Bool
 | []=>false
 | a::ar=>occ v a || Ex v ar
end
mutual
theorem F4 (v:Str):∀ (t:Term)(l:List Str),v∈Dn l t↔v∈l\/occ v t=true
 | .mk n b ar,l=>by
  simp only[Dn,occ,MD v ar]
  cases b
  ·simp
  ·simp only[if_true,Xh,Bool.true_and,Bool.or_eq_true,decide_eq_true_eq,or_assoc]
   constructor
   ·rintro (h | h | h)
    ·exact .inl h
    ·exact .inr (.inl h.symm)
    ·exact .inr (.inr h)
   ·rintro (h | h | h)
    ·exact .inl h
    ·exact .inr (.inl h.symm)
    ·exact .inr (.inr h)
theorem MD (v:Str):∀ (ar:List Term)(l:List Str),v∈Bw l ar↔v∈l\/Ex v ar=true
 | [],l=>by simp[Bw,Ex]
 | a::ar,l=>by simp only[Bw,Ex,MD v ar,F4 v a,Bool.or_eq_true,or_assoc]
end
mutual
theorem tv (v:Str):∀ t,occ v t=true->v.length<tb t
 | .mk n b ar,h=>by
  simp only[occ,Bool.or_eq_true,Bool.and_eq_true,decide_eq_true_eq]at h
  simp only[tb]
  rcases h with ⟨_,rfl⟩ | h
  ·omega
  ·have:=Wc v ar h;simp only[tbs]at this;omega
theorem Wc (v:Str):∀ l,Ex v l=true->v.length<tbs l
 | [],h=>by simp[Ex]at h
 | a::ar,h=>by
  simp only[Ex,Bool.or_eq_true]at h
  simp only[tbs,tb.tbs]
  rcases h with h | h
  ·have:=tv v a h;omega
  ·have:=Wc v ar h;simp only[tbs]at this;omega
end
mutual
theorem TL (v:Str):∀ t,decide (CZ v t=0)=!occ v t
 | .mk n b ar=>by
  simp only[CZ,occ]
  have:=W4 v ar
  cases b <;> by_cases h:n=v <;> simp_all
theorem W4 (v:Str):∀ l,decide (BQ v l=0)=!Ex v l
 | []=>by simp[BQ,Ex]
 | a::ar=>by
  have h1:=TL v a
  have h2:=W4 v ar
  have e:BQ v (a::ar)=CZ v a+BQ v ar:=rfl
  have e2:Ex v (a::ar)=(occ v a || Ex v ar):=rfl
  rw[e2,Bool.not_or,<-h1,<-h2]
  by_cases c1:CZ v a=0 <;> by_cases c2:BQ v ar=0 <;> simp[e,c1,c2]
end
theorem UJ (l:List Term)(k:Nat):tbs (l.take k)<=tbs l:=by
 induction l generalizing k with
 | nil=>simp
 | cons a l ih=>cases k with
  | zero=>simp[tbs,tb.tbs]
  | succ k=>simp only[List.take_succ_cons,tbs,tb.tbs];have:=ih k;simp only[tbs]at this;omega
theorem Yf (t:Term):∀ (l:List Str),tb t<2^39->l.length+size t<2^39->(∀ x∈l,x.length<2^62)->PF Jp [Ao t,Bl l] (Bl (Dn l t)):=by
 induction t using Af with
 | h t ih =>
 intro l htb hls hn
 have hst:=AH t
 have htb2:=Kn t
 have hll:=Ai t.args
 have hce:=cO l t
 have fin:∀ s:List Str,s=(if t.var then OI l t.name else l)->Hr.L3 (Bl s) (Bd t.args) (.int .i64 t.args.length) (.int .i64 0) 0 [] (Bv 0 Hr.rs fun x' H'=>x'=Bl (Dn l t)/\H'=[]):=by
  intro s hs
  have hsl:s.length<=l.length+1:=by rw[hs];have:=XE l t.name;split <;> omega
  have hsn:∀ x∈s,x.length<2^62:=by
   intro x hx
   rw[hs]at hx
   split at hx
   ·rcases Xh.1 hx with h | rfl
    ·exact hn x h
    ·omega
   ·exact hn x hx
  rw[<-hs]at hce
  refine Ac (n:=t.args.length) (R:=fun k=>Hr.L3 (Bl (Bw s (t.args.take k))) (Bd t.args) (.int .i64 t.args.length) (.int .i64 k) 0 [] _) ?_ ?_ 0 (by omega)
  ·intro k hk ih2
   have h1:=QC s _ _ hk
   have h2:=ME (t.args.take k) s
   have h3:=Ek t.args (k+1)
   rw[Fg _ _ hk]at h3
   have hm:=A4 hk
   have hm3:=O4 hm
   refine A8.2 ?_
   push_cast[ilt hk]
   refine .of (ih _ hm _ (by omega) (by omega) fun x hx=>?_) ?_
   ·rcases (MD x _ _).1 hx with h | h
    ·exact hsn x h
    ·have:=Wc x _ h
     have h4:=UJ t.args k
     omega
   push_cast[w64 (show k<2^62 by omega)]
   rw[h1]at ih2
   exact ih2
  ·refine A8.2 ?_
   push_cast[B6 (Nat.le_refl _)]
   refine A1 ?_
   push_cast[Hr.rs,List.take_length,hce]
 refine Aa Hr.ok rfl ?_
 cases hv:t.var with
 | true =>
  push_cast[hv]
  refine .of (RP l t.name (by omega) hn (by omega)) ?_
  push_cast
  exact fin _ (by rw[hv];rfl)
 | false =>
  push_cast[hv]
  exact fin _ (by rw[hv];rfl)
def DS (t:Term):List Str:=Dn [] t
theorem Rs (t:Term)(ht:tb t<2^39):PF KY [Bd [t]] (Bl (DS t)):=by
 have:=AQ t
 refine Aa SX.ok rfl ?_
 push_cast
 rw[show (V.sl 1 []:V)=Bl (Bw [] ([t].take 0)) from rfl]
 refine Ac (n:=1) (R:=fun k=>SX.L3 (Bl (Bw [] ([t].take k))) (Bd [t]) (.int .i64 1) (.int .i64 k) 0 [] _) ?_ ?_ 0 (by omega)
 ·intro k hk ih2
  obtain rfl:k=0:=by omega
  refine A8.2 ?_
  push_cast
  refine .of (Yf t [] ht (by simpa using by omega) (by simp)) ?_
  push_cast
  exact ih2
 ·refine A8.2 ?_
  push_cast
  refine A1 ?_
  push_cast[SX.rs]
  rfl
def Wg (a b:Term):Bool:=(DS a).all fun v=>occ v b
theorem aA (a b:Term)(ha:tb a<2^39)(hb:tb b<2^39):PF NW [Ao a,Ao b] (.bool (Wg a b)):=by
 have hsa:=AQ a
 have hsb:=AQ b
 have hvl:=Ir a []
 have hV:=Rs a ha
 unfold Wg
 have e1:(.sl 3 [cT a]:V)=Bd [a]:=rfl
 have hcl:(DS a).length<2^62:=by unfold DS;simp at hvl;omega
 generalize DS a=l at hV hcl
 refine Aa Lu.ok rfl ?_
 push_cast[e1]
 refine .of hV ?_
 push_cast
 refine Ac (n:=l.length) (R:=fun k=>((l.drop k).all fun v=>occ v b)=(l.all fun v=>occ v b)->Lu.L3 (.ro (cT b) 0) (Bl l) (.int .i64 l.length) (.int .i64 k) 0 [] _) ?_ ?_ 0 (by omega) rfl
 ·intro k hk ih hq
  rw[Ak hk]at hq
  simp only[List.all_cons]at hq
  refine A8.2 ?_
  push_cast[ilt hk]
  refine .of (Un _ _ (by omega)) ?_
  have hc:=TL (l.getD k default) b
  push_cast[w64 (show k<2^62 by omega)]
  refine⟨fun h=>A1 ?_,fun h=>ih ?_⟩
  ·push_cast[Lu.rs]
   rw[<-hq]
   have h0:CZ (l.getD k default) b=0:=by omega
   rw[decide_eq_true h0]at hc
   simp_all
  ·rw[<-hq]
   have h0:¬ CZ (l.getD k default) b=0:=by omega
   rw[decide_eq_false h0]at hc
   simp_all
 ·intro hq
  refine A8.2 ?_
  push_cast[B6 (Nat.le_refl _)]
  refine A1 ?_
  push_cast[Lu.rs]
  rw[<-hq,An];rfl
theorem bO (r:List A2)(hs:rbs r<2^61):PF OT [Aj r] (.int .i64 (Bi r)):=by
 have hl:=Be r
 refine Aa KM.ok rfl ?_
 by_cases h64:64<r.length
 ·have hi:((64:Int)<(r.length:Int))=True:=eq_true (by omega)
  push_cast[hi]
  refine A1 ?_
  push_cast[KM.rs,Bi,h64]
 ·have hi:((64:Int)<(r.length:Int))=False:=eq_false (by omega)
  push_cast[hi,Bi,h64]
  refine Ac (n:=r.length) (R:=fun k=>De (r.drop k)=De r->KM.L3 (Aj r) (.int .i64 r.length) (.int .i64 k) 0 [] _) ?_ ?_ 0 (by omega) rfl
  ·intro k hk ih hq
   have hm:=Fy (A4 hk)
   refine A8.2 ?_
   rw[Ak hk]at hq
   simp only[De]at hq
   generalize hx:r.getD k default=x at hm hq
   have hA:=Xl [x.left,x.right] (by simp) (by simp;omega)
   push_cast[ilt hk,hx,ZC]
   refine .of hA ?_
   push_cast[w64 (show k<2^62 by omega)]
   refine⟨fun h=>A1 ?_,fun h=>ih ?_⟩
   ·push_cast[KM.rs]
    rw[<-hq,if_pos h]
   ·rw[<-hq,if_neg h]
  ·intro hq
   refine A8.2 ?_
   push_cast[B6 (Nat.le_refl _)]
   refine A1 ?_
   push_cast[KM.rs]
   rw[<-hq,An];rfl
end Go.Dw
end
section
namespace Go.Dw
structure Dm where
 name:Str
 arity:Int
 deriving Inhabited,DecidableEq
def cSy (s:Dm):List V:=[.str s.name,.int .i64 s.arity]
abbrev MA (l:List Dm):V:=Dz cSy 2 l
theorem tR (s:Dm):(cSy s).length=2:=rfl
theorem AbE (s:Dm):(cSy s)[0]?=some (.str s.name):=rfl
theorem AbI (s:Dm):(cSy s)[1]?=some (.int .i64 s.arity):=rfl
theorem jz {i:Nat}{l:List Dm}{n:Str}{k:Int}:(.own i 2 (l.map cSy++[[V.str n,.int .i64 k]]):V)=Bc cSy i 2 (l++[⟨n,k⟩]):=by simp[Bc,cSy]
attribute [push_cast] tR AbE AbI
abbrev Fl (l:List Dm)(n:Str):Nat:=lbg (fun x=>decide (x.name<n)) l
def Hp (l:List Dm)(n:Str)(k:Int):List Dm:=if Fl l n<l.length/\(l.getD (Fl l n) default).name=n then l else l.take (Fl l n)++⟨n,k⟩::l.drop (Fl l n)
mutual
def IG (l:List Dm):Term->List Dm×Bool
 | .mk n b ar=>if b then (l,true) else if marked n then (l,false) else if ((Hp l n ar.length).getD (Fl l n) default).arity≠ar.length then (Hp l n ar.length,false) else EK (Hp l n ar.length) ar
def EK (l:List Dm):List Term->List Dm×Bool
 | []=>(l,true)
 | a::ar=>if (IG l a).2 then EK (IG l a).1 ar else (l,false)
end
theorem wf (l:List Dm)(t:Term):IG l t=if t.var then (l,true) else if marked t.name then (l,false) else if ((Hp l t.name t.args.length).getD (Fl l t.name) default).arity≠t.args.length then (Hp l t.name t.args.length,false) else EK (Hp l t.name t.args.length) t.args:=by cases t;rfl
theorem YF (l:List Dm)(n:Str)(k:Int):(Hp l n k).length<=l.length+1:=by
 unfold Hp
 have:=Ts (fun x:Dm=>decide (x.name<n)) l
 split <;> simp <;> omega
theorem mw {l:List Dm}{n:Str}{k:Int}{x:Dm}(h:x∈Hp l n k):x∈l\/x=⟨n,k⟩:=by
 unfold Hp at h
 split at h
 ·exact .inl h
 ·simp only[List.mem_append,List.mem_cons]at h
  rcases h with h | h | h
  ·exact .inl (List.mem_of_mem_take h)
  ·exact .inr h
  ·exact .inl (List.mem_of_mem_drop h)
def Few (M:Nat)(m:Nat)(l:List Dm):Prop:=l.length<=m/\∀ x∈l,x.name.length<M
theorem Few.ins {M m:Nat}{l:List Dm}(h:Few M m l){n:Str}{k:Int}(hn:n.length<M):Few M (m+1) (Hp l n k):=by
 refine⟨by have:=YF l n k;have:=h.1;omega,fun x hx=>?_⟩
 rcases mw hx with h1 | rfl
 ·exact h.2 x h1
 ·exact hn
mutual
theorem Wp {M:Nat}:∀ (t:Term)(m:Nat)(l:List Dm),Few M m l->tb t<=M->Few M (m+size t) (IG l t).1
 | .mk n b ar,m,l,h,ht=>by
  simp only[tb]at ht
  have h0:Few M (m+size (.mk n b ar)) l:=⟨by have:=h.1;omega,h.2⟩
  have h1:=h.ins (n:=n) (k:=ar.length) (by omega)
  have h2:Few M (m+size (.mk n b ar)) (Hp l n ar.length):=⟨by have:=h1.1;simp only[size];omega,h1.2⟩
  have h3:=Uh ar (m+1) _ h1 (by simp only[tbs];omega)
  simp only[IG]
  split
  ·exact h0
  split
  ·exact h0
  split
  ·exact h2
  ·exact⟨by have:=h3.1;simp only[size];omega,h3.2⟩
theorem Uh {M:Nat}:∀ (ar:List Term)(m:Nat)(l:List Dm),Few M m l->tbs ar<=M->Few M (m+Ab ar) (EK l ar).1
 | [],m,l,h,_=>by simpa[EK,Ab]using h
 | a::ar,m,l,h,ht=>by
  simp only[tbs,tb.tbs]at ht
  have h1:=Wp a m l h (by omega)
  have h2:=Uh ar _ _ h1 (by simp only[tbs];omega)
  simp only[EK]
  split
  ·exact⟨by have:=h2.1;simp only[Ab];omega,h2.2⟩
  ·exact⟨by have:=h.1;show l.length<=_;omega,h.2⟩
end
theorem RU (a b:List Term):∀ l:List Dm,(EK l a).2=true->EK l (a++b)=EK (EK l a).1 b:=by
 induction a with
 | nil=>intro l _;rfl
 | cons x xs ih =>
  intro l h
  simp only[EK,List.cons_append]at h ⊢
  by_cases hx:(IG l x).2=true
  ·rw[if_pos hx]at h ⊢
   rw[if_pos hx]
   exact ih _ h
  ·rw[if_neg hx]at h
   cases h
set_option maxHeartbeats 1000000 in
theorem QP (t:Term):∀ (m:Nat)(l:List Dm),tb t<2^39->m+size t<2^39->Few (2^39) m l->PF Jk [Ao t,MA l] (.tup [MA (IG l t).1,.bool (IG l t).2]):=by
 induction t using Af with
 | h t ih =>
 intro m l htb hms hf
 have hst:=AH t
 have htb2:=Kn t
 have hll:=Ai t.args
 have hse:=wf l t
 have hl:l.length<2^39:=by have:=hf.1;omega
 refine Aa Cl.ok rfl ?_
 cases hv:t.var with
 | true =>
  rw[hv,if_pos rfl]at hse
  push_cast[hv]
  exact A1 (by push_cast[Cl.rs,hse])
 | false =>
 rw[hv,if_neg (by simp)]at hse
 push_cast[hv]
 refine .of (Si t.name (by omega)) ?_
 cases hmk:Ip t.name [35]with
 | true =>
  have hmk':marked t.name=true:=hmk
  rw[hmk',if_pos rfl]at hse
  push_cast
  exact A1 (by push_cast[Cl.rs,hse])
 | false =>
 have hmk':marked t.name=false:=hmk
 rw[hmk',if_neg (by simp)]at hse
 have hI:=YF l t.name t.args.length
 have hF:=hf.ins (n:=t.name) (k:=t.args.length) (by omega)
 have hle:Fl l t.name<=l.length:=Ts (fun x:Dm=>decide (x.name<t.name)) l
 have hge:Fl l t.name<l.length->¬ (l.getD (Fl l t.name) default).name<t.name:=fun h=>of_decide_eq_false (@fL _ _ (fun x:Dm=>decide (x.name<t.name)) l h)
 have hlt:∀ j,j<Fl l t.name->(l.getD j default).name<t.name:=fun j h=>of_decide_eq_true (@ic _ _ (fun x:Dm=>decide (x.name<t.name)) l j h)
 have hat:Fl l t.name<(Hp l t.name t.args.length).length:=by
  unfold Hp
  split
  ·rename_i h;exact h.1
  ·rw[List.length_append,List.length_take,List.length_cons,Nat.min_eq_left hle];omega
 have hins:Hp l t.name t.args.length=if Fl l t.name<l.length/\(l.getD (Fl l t.name) default).name=t.name then l else l.take (Fl l t.name)++⟨t.name,t.args.length⟩::l.drop (Fl l t.name):=rfl
 generalize Hp l t.name t.args.length=l1 at *
 have kids:(l1.getD (Fl l t.name) default).arity=t.args.length->Cl.L3 (MA l1) (Bd t.args) (.int .i64 t.args.length) (.int .i64 0) 0 [] (Bv 0 Cl.rs fun x' H'=>x'=.tup [MA (IG l t).1,.bool (IG l t).2]/\H'=[]):=by
  intro har
  rw[if_neg (by simpa using har)]at hse
  rw[hse]
  refine Ac (n:=t.args.length) (R:=fun k=>(EK l1 (t.args.take k)).2=true->Cl.L3 (MA (EK l1 (t.args.take k)).1) (Bd t.args) (.int .i64 t.args.length) (.int .i64 k) 0 [] _) ?_ ?_ 0 (by omega) rfl
  ·intro k hk ih2 hok
   have hm:=A4 hk
   have hm3:=O4 hm
   have h3:=Ek t.args (k+1)
   rw[Fg _ _ hk]at h3
   have hFk:=Uh (t.args.take k) _ _ hF (by have:=UJ t.args k;omega)
   have hcat:EK l1 (t.args.take (k+1))=if (IG (EK l1 (t.args.take k)).1 (t.args.getD k default)).2 then (IG (EK l1 (t.args.take k)).1 (t.args.getD k default)) else ((EK l1 (t.args.take k)).1,false):=by
    rw[A9 hk,RU _ _ _ hok]
    simp only[EK]
    split
    ·rename_i h;exact Prod.ext rfl h.symm
    ·rfl
   have hend:(IG (EK l1 (t.args.take k)).1 (t.args.getD k default)).2=false->EK l1 t.args=((EK l1 (t.args.take k)).1,false):=by
    intro h
    conv=>lhs;rw[<-List.take_append_drop k t.args]
    rw[RU _ _ _ hok,Ak hk]
    simp only[EK,h]
    rfl
   refine A8.2 ?_
   push_cast[ilt hk]
   refine .of (ih _ hm _ _ (by omega) (by omega) hFk) ?_
   cases hb:(IG (EK l1 (t.args.take k)).1 (t.args.getD k default)).2 with
   | false =>
    push_cast
    refine A1 ?_
    push_cast[Cl.rs,hend hb]
   | true =>
    rw[hb,if_pos rfl]at hcat
    push_cast[w64 (show k<2^62 by omega)]
    rw[hcat]at ih2
    exact ih2 hb
  ·intro hok
   rw[List.take_length]at hok
   refine A8.2 ?_
   push_cast[B6 (Nat.le_refl _)]
   refine A1 ?_
   push_cast[Cl.rs,List.take_length,hok]
 generalize Fl l t.name=a at *
 push_cast
 refine Ac (n:=a) (R:=fun k=>Cl.L9 (MA l) (.ro (cT t) 0) (.int .i64 k) 0 [] _) ?_ ?_ 0 (by omega)
 ·intro k hk ih2
  have hkl:k<l.length:=by omega
  have h1:I7 (l.getD k default).name t.name<0:=JE.2 (hlt k hk)
  refine A8.2 ?_
  push_cast[ilt hkl]
  refine .of (Cd _ _ (by have:=hf.2 _ (A4 hkl);omega) (by omega)) ?_
  push_cast[h1,w64 (show k<2^62 by omega)]
  exact ih2
 ·refine A8.2 ?_
  have tail:∀ m:Nat,m<=2^40->∀ b,b<=64->m*b<=Ag:=fun m hm b hb=>Nat.le_trans (Nat.mul_le_mul hm hb) (by unfold Ag;decide)
  have e1:(l.drop 0).take (a-0)=l.take a:=by simp
  have e2:(l.drop a).take (l.length-a)=l.drop a:=by rw[List.take_of_length_le];simp
  rcases Nat.lt_or_ge a l.length with h | h
  ·have h2:¬ I7 (l.getD a default).name t.name<0:=fun hc=>hge h (JE.1 hc)
   have h3:((a:Int)=(l.length:Int))=False:=eq_false (by omega)
   push_cast[ilt h]
   refine .of (Cd _ _ (by have:=hf.2 _ (A4 h);omega) (by omega)) ?_
   by_cases he:(l.getD a default).name=t.name
   ·rw[if_pos ⟨h,he⟩]at hins
    subst hins
    rw[he]at h2
    push_cast[h2,h3,he,ilt h]
    refine⟨fun har=>A1 ?_,fun har=>kids (by simpa using har)⟩
    rw[if_pos har]at hse
    push_cast[Cl.rs,hse]
   ·rw[if_neg (fun hh=>he hh.2)]at hins
    push_cast[h2,h3,he,ilt h,jz,e1,e2,List.cons_append,List.nil_append,<-hins,hat]
    refine⟨⟨by omega,hle⟩,tail _ (by simp;omega) _ (by omega),tail _ (by simp;omega) _ (by omega),hle,⟨by simp,tail _ (by simp;omega) _ (by omega)⟩,by omega,fun har=>A1 ?_,fun har=>kids (by simpa using har)⟩
    rw[if_pos har]at hse
    push_cast[Cl.rs,hse]
  ·rw[if_neg (fun hh=>by omega)]at hins
   have h3:((a:Int)=(l.length:Int))=True:=eq_true (by omega)
   push_cast (maxSteps:=1000000) [B6 h,h3,jz,e1,e2,List.cons_append,List.nil_append,<-hins,hat]
   refine⟨⟨by omega,hle⟩,tail _ (by simp;omega) _ (by omega),tail _ (by simp;omega) _ (by omega),hle,⟨by simp,tail _ (by simp;omega) _ (by omega)⟩,by omega,fun har=>A1 ?_,fun har=>kids (by simpa using har)⟩
   rw[if_pos har]at hse
   push_cast[Cl.rs,hse]
end Go.Dw
end
section
namespace Go.Dw
open Go.Proofs (sortS)
def Mh (l:List Dm):List A2->List Dm×Bool
 | []=>(l,true)
 | x::r=>if (IG l x.left).2 then if (IG (IG l x.left).1 x.right).2 then Mh (IG (IG l x.left).1 x.right).1 r else ([],false) else ([],false)
theorem Ya (r:List A2)(hs:rbs r<2^38):PF MC [Aj r] (.tup [MA (Mh [] r).1,.bool (Mh [] r).2]):=by
 have hl:=Be r
 have hw1:IntKind.i64.wrap 1=1:=Bq (by omega) (by omega)
 have hw2:IntKind.i64.wrap 2=2:=Bq (by omega) (by omega)
 refine Aa FK.ok rfl ?_
 push_cast
 rw[show (V.sl 2 []:V)=MA [] from rfl]
 refine Ac (n:=r.length) (R:=fun k=>∀ l m,Few (2^39) m l->m+rbs (r.drop k)<2^38->Mh l (r.drop k)=Mh [] r->FK.L6 (MA l) (Aj r) (.int .i64 r.length) (.int .i64 k) 0 [] (Bv 0 FK.rs fun x' H'=>x'=.tup [MA (Mh [] r).1,.bool (Mh [] r).2]/\H'=[])) ?_ ?_ 0 (by omega) [] 0 ⟨by simp,by simp⟩ (by simpa using hs) rfl
 ·intro k hk ih l m hf hm hq
  have hr:=Fy (A4 hk)
  rw[Ak hk]at hm hq
  simp only[rbs,Mh]at hm hq
  generalize hx:r.getD k default=x at hm hq hr
  have s1:=AQ x.left
  have s2:=AQ x.right
  have hf1:=Wp x.left m l hf (by omega)
  have hf2:=Wp x.right _ _ hf1 (by omega)
  refine A8.2 ?_
  push_cast[ilt hk,hx,ZC]
  refine A8.2 ?_
  push_cast
  refine .of (QP x.left m l (by omega) (by omega) hf) ?_
  cases h1:(IG l x.left).2 with
  | false =>
   rw[if_neg (by simp[h1])]at hq
   push_cast
   refine A1 ?_
   push_cast[FK.rs,<-hq]
   rfl
  | true =>
   rw[if_pos h1]at hq
   push_cast[hw1]
   refine A8.2 ?_
   push_cast
   refine .of (QP x.right _ _ (by omega) (by omega) hf1) ?_
   cases h2:(IG (IG l x.left).1 x.right).2 with
   | false =>
    rw[if_neg (by simp[h2])]at hq
    push_cast
    refine A1 ?_
    push_cast[FK.rs,<-hq]
    rfl
   | true =>
    rw[if_pos h2]at hq
    push_cast[hw2]
    refine A8.2 ?_
    push_cast[w64 (show k<2^62 by omega)]
    exact ih _ _ hf2 (by omega) hq
 ·intro l m hf hm hq
  refine A8.2 ?_
  push_cast[B6 (Nat.le_refl _)]
  refine A1 ?_
  rw[An]at hq
  push_cast[FK.rs,<-hq]
  exact⟨rfl,rfl⟩
def NV (x:A2):Bool:=x.left.var || !Wg x.right x.left
def Ke (r:List A2):Int:=if Bi r≠0 then Bi r else if (Mh [] r).2 then (if r.any NV then 7 else 0) else 6
theorem RE (r:List A2)(hs:rbs r<2^38):PF E6 [Aj r] (.int .i64 (Ke r)):=by
 have hl:=Be r
 refine Aa CH.ok rfl ?_
 push_cast
 refine .of (bO r (by omega)) ?_
 unfold Ke
 by_cases h1:Bi r=0
 ·rw[if_neg (by simpa using h1)]
  push_cast[h1]
  refine .of (Ya r hs) ?_
  cases h2:(Mh [] r).2 with
  | false =>
   push_cast
   refine A1 ?_
   push_cast[CH.rs]
  | true =>
   push_cast
   refine Ac (n:=r.length) (R:=fun k=>(r.drop k).any NV=r.any NV->CH.L3 (Aj r) (.int .i64 r.length) (.int .i64 k) 0 [] _) ?_ ?_ 0 (by omega) rfl
   ·intro k hk ih hq
    have hr:=Fy (A4 hk)
    rw[Ak hk]at hq
    simp only[List.any_cons]at hq
    generalize hx:r.getD k default=x at hq hr
    refine A8.2 ?_
    cases hv:x.left.var with
    | true =>
     push_cast[ilt hk,hx,hv]
     refine A1 ?_
     push_cast[CH.rs,<-hq,NV,hv]
     simp
    | false =>
     push_cast[ilt hk,hx,hv]
     refine .of (aA _ _ (by omega) (by omega)) ?_
     cases hw:Wg x.right x.left with
     | false =>
      push_cast
      refine A1 ?_
      push_cast[CH.rs,<-hq,NV,hv,hw]
      rfl
     | true =>
      push_cast[w64 (show k<2^62 by omega)]
      exact ih (by rw[<-hq];simp[NV,hv,hw])
   ·intro hq
    rw[An]at hq
    refine A8.2 ?_
    push_cast[B6 (Nat.le_refl _)]
    refine A1 ?_
    push_cast[CH.rs,<-hq]
    rfl
 ·rw[if_pos h1]
  push_cast[h1]
  refine A1 ?_
  push_cast[CH.rs]
theorem Pg (v:Str):∀ (l ks:List Str),v∈l.foldl Vi ks↔v∈ks\/v∈l
 | [],ks=>by simp
 | x::l,ks=>by
  rw[List.foldl_cons,Pg v l]
  unfold Vi
  split
  ·rename_i h
   simp only[List.mem_cons]
   constructor
   ·rintro (h1 | h1)
    ·exact .inl h1
    ·exact .inr (.inr h1)
   ·rintro (h1 | rfl | h1)
    ·exact .inl h1
    ·exact .inl h
    ·exact .inr h1
  ·simp[or_assoc]
theorem dz (x:List Int×Term)(l:List (List Int×Term)):Fw (x::l)=if x.2.var then x.2.name::Fw l else Fw l:=by
 unfold Fw;rw[List.filter_cons];split <;> rfl
theorem Yh (a b:List (List Int×Term)):Fw (a++b)=Fw a++Fw b:=by
 unfold Fw;rw[List.filter_append,List.map_append]
mutual
theorem WL (v:Str):∀ (t:Term)(p:List Int),v∈Fw (Ap t p)↔occ v t=true
 | .mk n b ar,p=>by
  have h:=Uv v ar p 0
  rw[GH,dz]
  cases b
  ·rw[if_neg (by simp[Term.var])]
   simpa[occ,Term.args]using h
  ·rw[if_pos (by simp[Term.var])]
   simp only[occ,Bool.true_and,Bool.or_eq_true,decide_eq_true_eq,List.mem_cons,<-h]
   exact⟨fun h=>h.imp (fun e=>e.symm) id,fun h=>h.imp (fun e=>e.symm) id⟩
theorem Uv (v:Str):∀ (ar:List Term)(p:List Int)(i:Nat),v∈Fw (B4 ar p i)↔Ex v ar=true
 | [],p,i=>by simp[B4,Fw,Ex]
 | a::ar,p,i=>by
  have h1:=WL v a (p++[(i:Int)])
  have h2:=Uv v ar p (i+1)
  simp only[B4,Yh,List.mem_append,h1,h2,Ex,Bool.or_eq_true]
end
theorem DK (v:Str)(t:Term):v∈Az [t]↔occ v t=true:=by
 unfold Az
 rw[show (v∈sortS (HA [] [t]))↔v∈HA [] [t] from (List.mergeSort_perm _ _).mem_iff]
 simp only[HA,List.foldl_cons,List.foldl_nil,Qw,Pg,WL,List.not_mem_nil,false_or]
theorem rK (x:A2):KW x=NV x:=by
 unfold KW NV Wg
 congr 1
 rw[Bool.eq_iff_iff]
 simp only[List.any_eq_true,Bool.not_eq_true',decide_eq_false_iff_not,DK,List.all_eq_false,DS,F4,List.not_mem_nil,false_or]
theorem eK (m:Ars)(n v:Str)(k:Nat):Lo (m++[(n,k)]) v=match Lo m v with | some a=>some a | none=>if n=v then some k else none:=by
 induction m with
 | nil=>simp[Lo]
 | cons p m ih =>
  simp only[List.cons_append,Lo]
  split
  ·rfl
  ·exact ih
def IJ:List Dm->Str->Option Int
 | [],_=>none
 | x::l,n=>if x.name=n then some x.arity else IJ l n
abbrev KZ (l:List Dm):Prop:=l.Pairwise fun a b=>a.name<b.name
theorem ij {l:List Dm}{n:Str}(h:∀ x∈l,x.name≠n):IJ l n=none:=by
 induction l with
 | nil=>rfl
 | cons x l ih=>simp only[IJ];rw[if_neg (h x (by simp))];exact ih fun y hy=>h y (by simp[hy])
theorem VT {n:Str}:∀ {l:List Dm},KZ l->IJ l n=if Fl l n<l.length/\(l.getD (Fl l n) default).name=n then some (l.getD (Fl l n) default).arity else none
 | [],_=>by simp[IJ]
 | x::l,hs=>by
  obtain⟨h1,h2⟩:=List.pairwise_cons.1 hs
  have ih:=VT (n:=n) h2
  by_cases hx:x.name<n
  ·have e:Fl (x::l) n=Fl l n+1:=by simp[Fl,lbg,hx]
   simp only[IJ,e]
   rw[if_neg (fun e2:x.name=n=>Df n (by rw[e2]at hx;exact hx)),ih]
   simp
  ·have e:Fl (x::l) n=0:=by simp only[Fl,lbg];rw[if_neg (by simpa using hx)]
   simp only[IJ,e]
   by_cases he:x.name=n
   ·simp[he]
   ·rw[if_neg he]
    simp only[List.length_cons,Nat.zero_lt_succ,true_and,List.getD_cons_zero,he,if_false]
    refine ij fun y hy e=>?_
    have:=h1 y hy
    rw[e]at this
    exact hx this
def Qv (n:Str)(k:Int):List Dm->List Dm
 | []=>[⟨n,k⟩]
 | x::l=>if x.name<n then x::Qv n k l else ⟨n,k⟩::x::l
theorem ac (n:Str)(k:Int):∀ l:List Dm,l.take (Fl l n)++⟨n,k⟩::l.drop (Fl l n)=Qv n k l
 | []=>rfl
 | x::l=>by
  have ih:=ac n k l
  by_cases hx:x.name<n
  ·have e:Fl (x::l) n=Fl l n+1:=by simp[Fl,lbg,hx]
   simp only[Qv]
   rw[if_pos hx,e,List.take_succ_cons,List.drop_succ_cons,List.cons_append,ih]
  ·have e:Fl (x::l) n=0:=by simp only[Fl,lbg];rw[if_neg (by simpa using hx)]
   simp only[Qv]
   rw[if_neg hx,e];rfl
theorem dg {n:Str}{k:Int}{x:Dm}:∀ {l:List Dm},x∈Qv n k l↔x=⟨n,k⟩\/x∈l
 | []=>by simp[Qv]
 | y::l=>by
  simp only[Qv]
  split
  ·simp only[List.mem_cons,dg (l:=l)]
   constructor
   ·rintro (h | h | h)
    ·exact .inr (.inl h)
    ·exact .inl h
    ·exact .inr (.inr h)
   ·rintro (h | h | h)
    ·exact .inr (.inl h)
    ·exact .inl h
    ·exact .inr (.inr h)
  ·simp
theorem UO {n:Str}{k:Int}:∀ {l:List Dm},KZ l->(∀ x∈l,x.name≠n)->KZ (Qv n k l)
 | [],_,_=>by simp[Qv,KZ]
 | x::l,hs,hn=>by
  obtain⟨h1,h2⟩:=List.pairwise_cons.1 hs
  simp only[Qv]
  split
  ·rename_i hx
   refine List.pairwise_cons.2 ⟨fun y hy=>?_,UO h2 fun y hy=>hn y (by simp[hy])⟩
   rcases dg.1 hy with rfl | h
   ·exact hx
   ·exact h1 y h
  ·rename_i hx
   have hlt:n<x.name:=by
    rcases Classical.em (n<x.name)with h | h
    ·exact h
    ·exact absurd (WP hx h) (hn x (by simp))
   refine List.pairwise_cons.2 ⟨fun y hy=>?_,hs⟩
   rcases List.mem_cons.1 hy with rfl | h
   ·exact hlt
   ·exact Nf hlt (h1 y h)
theorem W7 {n v:Str}{k:Int}:∀ {l:List Dm},(∀ x∈l,x.name≠n)->IJ (Qv n k l) v=if n=v then some k else IJ l v
 | [],_=>by simp[Qv,IJ]
 | x::l,hn=>by
  simp only[Qv]
  split
  ·simp only[IJ]
   rw[W7 fun y hy=>hn y (by simp[hy])]
   by_cases h:x.name=v
   ·rw[if_pos h,if_pos h,if_neg (fun e=>hn x (by simp) (h.trans e.symm))]
   ·rw[if_neg h,if_neg h]
  ·simp only[IJ]
theorem gw {l:List Dm}{n:Str}{x:Dm}(hx:x∈l)(hn:x.name=n):IJ l n≠none:=by
 induction l with
 | nil=>cases hx
 | cons y l ih =>
  simp only[IJ]
  split
  ·simp
  ·rename_i h
   rcases List.mem_cons.1 hx with rfl | hx
   ·exact absurd hn h
   ·exact ih hx
def mk (m:Ars):Bool:=m.any fun p=>marked p.1
def Rel (l:List Dm)(m:Ars):Prop:=KZ l/\(∀ n,IJ l n=(Lo m n).map fun k:Nat=>(k:Int))/\mk m=false
theorem uS {m:Ars}{n:Str}{k:Nat}(h:Lo m n=some k)(hm:mk m=false):marked n=false:=by
 induction m with
 | nil=>cases h
 | cons p m ih =>
  simp only[mk,List.any_cons,Bool.or_eq_false_iff]at hm
  simp only[Lo]at h
  split at h
  ·rename_i e;rw[<-e];exact hm.1
  ·exact ih h hm.2
theorem kz {m m':Ars}{u:Term}(h:CU m u=some m')(hm:mk m=true):mk m'=true:=by
 unfold CU at h
 split at h
 ·cases h;exact hm
 ·split at h
  ·split at h
   ·cases h;exact hm
   ·cases h
  ·cases h
   simp only[mk,List.any_append,Bool.or_eq_true]at hm ⊢
   exact .inl hm
theorem N0:∀ (l:List (List Int×Term)) {m m':Ars},D9 m l=some m'->mk m=true->mk m'=true
 | [],m,m',h,hm=>by cases h;exact hm
 | x::l,m,m',h,hm=>by
  simp only[D9]at h
  cases hs:CU m x.2 with
  | none=>rw[hs]at h;cases h
  | some m1 =>
   rw[hs,Option.bind_some]at h
   exact N0 l h (kz hs hm)
def ae (o:Option Ars)(s:List Dm×Bool):Prop:=match o with
 | none=>s.2=false
 | some m=>if mk m then s.2=false else s.2=true/\Rel s.1 m
theorem cZ (l:List Dm)(n:Str)(k:Int)(hs:KZ l):Hp l n k=if IJ l n=none then Qv n k l else l:=by
 unfold Hp
 rw[VT hs,ac]
 split
 ·simp
 ·simp
theorem yn {l:List Dm}{n:Str}{k:Int}:(l.take (Fl l n)++⟨n,k⟩::l.drop (Fl l n)).getD (Fl l n) default=⟨n,k⟩:=by
 have hle:Fl l n<=l.length:=Ts (fun x:Dm=>decide (x.name<n)) l
 rw[List.getD_eq_getElem?_getD,List.getElem?_append_right (by simp;omega),List.length_take,Nat.min_eq_left hle]
 simp
mutual
theorem gH:∀ (t:Term)(p:List Int)(l:List Dm)(m:Ars),Rel l m->C5 t=true->ae (D9 m (Ap t p)) (IG l t)
 | .mk n b ar,p,l,m,hR,hf=>by
  have ht:=EH (.mk n b ar)
  rw[hf]at ht
  simp only[Term.var,Term.args,Term.name]at ht
  simp only[GH,D9,IG,Term.args]
  cases b with
  | true =>
   simp only[if_true]at ht
   have har:ar=[]:=by
    have:=ht.symm
    simp only[Bool.and_eq_true,decide_eq_true_eq]at this
    exact List.length_eq_zero_iff.1 (of_decide_eq_true this.1)
   subst har
   simp only[CU,Term.var,if_true,B4,D9,Option.bind_some,ae,hR.2.2,Bool.false_eq_true,if_false]
   exact⟨trivial,hR⟩
  | false =>
   have hfs:Nz ar=true:=by
    rw[Ur]
    have:=ht.symm
    simp only[Bool.false_eq_true,if_false,Bool.and_eq_true]at this
    exact this.2.2
   simp only[Bool.false_eq_true,if_false]
   by_cases hmk:marked n=true
   ·rw[if_pos hmk]
    have hg:Lo m n=none:=by
     cases hg:Lo m n with
     | none=>rfl
     | some k=>rw[uS hg hR.2.2]at hmk;cases hmk
    have hst:CU m (.mk n false ar)=some (m++[(n,ar.length)]):=by simp[CU,Term.var,Term.name,Term.args,hg]
    rw[hst,Option.bind_some]
    have hm1:mk (m++[(n,ar.length)])=true:=by simp[mk,hmk]
    cases hr:D9 (m++[(n,ar.length)]) (B4 ar p 0)with
    | none=>rfl
    | some m'=>simp only[ae,N0 _ hr hm1,if_true]
   ·rw[if_neg hmk]
    have hg2:=hR.2.1 n
    have hat:=VT (n:=n) hR.1
    cases hg:Lo m n with
    | some k =>
     rw[hg]at hg2
     have hne:¬ IJ l n=none:=by rw[hg2];simp
     have hins:Hp l n ar.length=l:=by rw[cZ _ _ _ hR.1,if_neg hne]
     have har:(l.getD (Fl l n) default).arity=k:=by
      rw[hg2]at hat
      split at hat
      ·simpa using hat.symm
      ·cases hat
     rw[hins,har]
     by_cases hk:k=ar.length
     ·have hst:CU m (.mk n false ar)=some m:=by simp[CU,Term.var,Term.name,Term.args,hg,hk]
      rw[hst,Option.bind_some,if_neg (by simp[hk])]
      exact av ar p 0 l m hR hfs
     ·have hst:CU m (.mk n false ar)=none:=by simp[CU,Term.var,Term.name,Term.args,hg,hk]
      rw[hst,if_pos (by simp;omega)]
      rfl
    | none =>
     rw[hg]at hg2
     have hg2':IJ l n=none:=hg2
     have hnm:∀ x∈l,x.name≠n:=fun x hx e=>gw hx e hg2'
     have hst:CU m (.mk n false ar)=some (m++[(n,ar.length)]):=by simp[CU,Term.var,Term.name,Term.args,hg]
     have hins:Hp l n ar.length=Qv n ar.length l:=by rw[cZ _ _ _ hR.1,if_pos hg2']
     have hnew:((Qv n ar.length l).getD (Fl l n) default).arity=ar.length:=by rw[<-ac,yn]
     rw[hst,Option.bind_some,hins,hnew,if_neg (by simp)]
     refine av ar p 0 _ _ ⟨UO hR.1 hnm,fun v=>?_,?_⟩ hfs
     ·rw[W7 hnm,eK,hR.2.1 v]
      by_cases e:n=v
      ·subst e;rw[if_pos rfl,if_pos rfl,hg];rfl
      ·rw[if_neg e,if_neg e];cases Lo m v <;> rfl
     ·have:=hR.2.2
      simp only[mk]at this ⊢
      rw[List.any_append,this]
      simpa using hmk
theorem av:∀ (ar:List Term)(p:List Int)(i:Nat)(l:List Dm)(m:Ars),Rel l m->Nz ar=true->ae (D9 m (B4 ar p i)) (EK l ar)
 | [],p,i,l,m,hR,_=>by
  simp only[B4,D9,EK,ae,hR.2.2,Bool.false_eq_true,if_false]
  exact⟨trivial,hR⟩
 | a::ar,p,i,l,m,hR,hf=>by
  simp only[Nz,Bool.and_eq_true]at hf
  have h1:=gH a (p++[(i:Int)]) l m hR hf.1
  simp only[B4,Kv,EK]
  cases hr:D9 m (Ap a (p++[(i:Int)]))with
  | none =>
   rw[hr]at h1
   rw[if_neg (by rw[show (IG l a).2=false from h1];simp)]
   rfl
  | some m1 =>
   rw[hr]at h1
   rw[Option.bind_some]
   simp only[ae]at h1
   by_cases hm1:mk m1=true
   ·rw[if_pos hm1]at h1
    rw[if_neg (by rw[h1];simp)]
    cases hr2:D9 m1 (B4 ar p (i+1))with
    | none=>rfl
    | some m'=>simp only[ae,N0 _ hr2 hm1,if_true]
   ·rw[if_neg hm1]at h1
    rw[if_pos h1.1]
    exact av ar p (i+1) _ _ h1.2 hf.2
end
theorem jU:∀ (r:List A2)(l:List Dm)(m:Ars),Rel l m->(∀ x∈r,C5 x.left=true/\C5 x.right=true)->match Cz m r with
  | none=>(Mh l r).2=false
  | some m=>(Mh l r).2=!mk m
 | [],l,m,hR,_=>by simp only[Cz,Mh,hR.2.2];rfl
 | x::r,l,m,hR,hf=>by
  obtain⟨hf1,hf2⟩:=hf x (by simp)
  have h1:=gH x.left [] l m hR hf1
  have mono:∀ (r:List A2) {m m':Ars},Cz m r=some m'->mk m=true->mk m'=true:=by
   intro r
   induction r with
   | nil=>intro m m' h hm;cases h;exact hm
   | cons y r ih =>
    intro m m' h hm
    simp only[Cz]at h
    cases ha:D9 m (Ap y.left [])with
    | none=>rw[ha]at h;cases h
    | some m1 =>
     rw[ha,Option.bind_some]at h
     cases hb:D9 m1 (Ap y.right [])with
     | none=>rw[hb]at h;cases h
     | some m2 =>
      rw[hb,Option.bind_some]at h
      exact ih h (N0 _ hb (N0 _ ha hm))
  simp only[Cz,Mh]
  cases ha:D9 m (Ap x.left [])with
  | none =>
   rw[ha]at h1
   have:(IG l x.left).2=false:=h1
   simp[this]
  | some m1 =>
   rw[ha]at h1
   simp only[ae]at h1
   rw[Option.bind_some]
   by_cases hm1:mk m1=true
   ·rw[if_pos hm1]at h1
    rw[if_neg (by rw[h1];simp)]
    cases hr:(D9 m1 (Ap x.right [])).bind fun m2=>Cz m2 r with
    | none=>rfl
    | some m' =>
     have:mk m'=true:=by
      cases hb:D9 m1 (Ap x.right [])with
      | none=>rw[hb]at hr;cases hr
      | some m2=>rw[hb,Option.bind_some]at hr;exact mono r hr (N0 _ hb hm1)
     simp[this]
   ·rw[if_neg hm1]at h1
    rw[if_pos h1.1]
    have h2:=gH x.right [] _ m1 h1.2 hf2
    cases hb:D9 m1 (Ap x.right [])with
    | none =>
     rw[hb]at h2
     have:(IG (IG l x.left).1 x.right).2=false:=h2
     simp[this]
    | some m2 =>
     rw[hb]at h2
     simp only[ae]at h2
     rw[Option.bind_some]
     by_cases hm2:mk m2=true
     ·rw[if_pos hm2]at h2
      rw[if_neg (by rw[h2];simp)]
      cases hr:Cz m2 r with
      | none=>rfl
      | some m'=>simp[mono r hr hm2]
     ·rw[if_neg hm2]at h2
      rw[if_pos h2.1]
      exact jU r _ _ h2.2 fun y hy=>hf y (by simp[hy])
theorem S5 {t:Term}(h:EU t=0):C5 t=true:=by
 unfold EU at h
 split at h
 ·assumption
 ·omega
theorem Md:∀ {r:List A2},De r=0->∀ x∈r,EU x.left=0/\EU x.right=0
 | [],_,x,hx=>by cases hx
 | y::r,h,x,hx=>by
  simp only[De]at h
  split at h
  ·omega
  ·rename_i h1
   rcases List.mem_cons.1 hx with rfl | hx
   ·simp only[IP,ne_eq,Classical.not_not]at h1
    split at h1
    ·omega
    ·rename_i h2
     split at h1
     ·omega
     ·rename_i h3
      exact⟨by simpa using h2,by simpa using h3⟩
   ·exact Md h x hx
theorem T5 {r:List A2}(h:Bi r=0):∀ x∈r,EU x.left=0/\EU x.right=0:=by
 unfold Bi at h
 split at h
 ·omega
 ·exact Md h
theorem Ve (r:List A2):Ke r=Al r:=by
 unfold Ke Al
 by_cases h1:Bi r=0
 ·rw[h1,if_neg (show ¬ ((0:Int)≠0) by simp),if_neg (show ¬ ((0:Int)≠0) by simp)]
  have hf:=T5 h1
  have:=jU r [] [] ⟨by simp[KZ],fun n=>rfl,rfl⟩ fun x hx=>⟨S5 (hf x hx).1,S5 (hf x hx).2⟩
  rw[show r.any KW=r.any NV from by congr 1;funext x;exact rK x]
  cases ha:Cz [] r with
  | none=>rw[ha]at this;simp only at this;simp[this]
  | some m =>
   rw[ha]at this
   simp only at this
   rw[this]
   by_cases hk:(m.any fun p=>marked p.1)=true
   ·simp[mk,hk]
   ·simp[mk,hk]
 ·rw[if_pos (by simpa using h1),if_pos (by simpa using h1)]
theorem M8 (r:List A2)(hs:rbs r<2^38):PF E6 [Aj r] (.int .i64 (Al r)):=Ve r▸RE r hs
end Go.Dw
end
section
namespace Go.Dw
mutual
def GK (f:A0->Bool):A0->Bool
 | .mk k n v l=>f (.mk k n v l) && kf f l
def kf (f:A0->Bool):List A0->Bool
 | []=>true
 | a::l=>GK f a && kf f l
end
theorem mr (f:A0->Bool)(l:List A0):kf f l=l.all (GK f):=by induction l with | nil=>rfl | cons a l ih=>simp[kf,ih]
theorem GU (f:A0->Bool)(m:A0):GK f m=(f m && m.args.all (GK f)):=by cases m;simp only[GK,mr,A0.args]
theorem T2 {f:A0->Bool}{m a:A0}(h:GK f m=true)(ha:a∈m.args):GK f a=true:=by
 rw[GU,Bool.and_eq_true]at h
 exact List.all_eq_true.1 h.2 a ha
theorem Gs {f:A0->Bool}{m:A0}(h:GK f m=true):f m=true:=by
 rw[GU,Bool.and_eq_true]at h;exact h.1
def BY (n:Nat)(m:A0):Bool:=decide (0<=m.rule) && decide (m.rule<=n)
def At (r:List A2)(m:A0):A2:=r.getD (m.rule-1).toNat default
def Bj (r:List A2)(m:A0):Bool :=
 if 0<m.rule then decide (m.name=[]) && (!m.var && decide (m.args.length=(Az [(At r m).left]).length))
 else if m.var then decide (m.args.length=0) && C6 m.name false
 else decide (m.args.length<=8) && C6 m.name true
def Fu (r:List A2)(m:A0):Int :=
 if Al r≠0 then Al r else if GK (BY r.length) m=false then 8 else if GK (Bj r) m=false then 4 else if 4000<Ar m\/200<Ba m then 3 else 0
mutual
def fV:A0->Nat
 | .mk k _ _ l=>(if k=0 then 0 else 1)+VA l
def VA:List A0->Nat
 | []=>0
 | a::l=>fV a+VA l
end
mutual
theorem mi:∀ m,fV m<=Ar m
 | .mk k n v l=>by simp only[fV,Ar];have:=WO l;split <;> omega
theorem WO:∀ l,VA l<=Bs l
 | []=>Nat.le_refl _
 | a::l=>by simp only[VA,Bs];have:=mi a;have:=WO l;omega
end
mutual
def EF:A0->Nat
 | .mk _ _ _ l=>Hc 1 l
def Hc (n:Nat):List A0->Nat
 | []=>n
 | a::l=>if 4000<n+EF a then n+EF a else Hc (n+EF a) l
end
theorem iD (m:A0):EF m=Hc 1 m.args:=by cases m;simp[EF,A0.args]
mutual
theorem Xc:∀ m,EF m<=Ar m
 | .mk _ _ _ l=>by simp only[EF,Ar];have:=YO l 1;omega
theorem YO:∀ (l:List A0)(n:Nat),Hc n l<=n+Bs l
 | [],n=>by simp[Hc,Bs]
 | a::l,n=>by
  simp only[Hc,Bs]
  have h1:=Xc a
  have h2:=YO l (n+EF a)
  split <;> omega
end
mutual
theorem eB:∀ m,EF m<=4000->EF m=Ar m
 | .mk _ _ _ l=>by simp only[EF,Ar];exact fun h=>Z2 l 1 h
theorem Z2:∀ (l:List A0)(n:Nat),Hc n l<=4000->Hc n l=n+Bs l
 | [],n=>by simp[Hc,Bs]
 | a::l,n=>by
  simp only[Hc,Bs]
  intro h
  split at h
  ·omega
  ·rename_i hc
   rw[if_neg hc]
   have:=eB a (by omega)
   rw[Z2 l _ h];omega
end
theorem cr (m:A0):4000<EF m↔4000<Ar m:=by
 constructor
 ·intro h;have:=Xc m;omega
 ·intro h
  by_cases hc:EF m<=4000
  ·rw[eB m hc]at hc;omega
  ·omega
mutual
def xQ:Term->A0
 | .mk n v l=>.mk 0 n v (jR l)
def jR:List Term->List A0
 | []=>[]
 | a::l=>xQ a::jR l
end
def ixS (v:Str)(l:List Str):Nat:=(Kd (fun x=>decide (v=x)) l).toNat
theorem F6 {v:Str}:∀ {l:List Str},v∈l->Kd (fun x=>decide (v=x)) l=ixS v l/\ixS v l<l.length/\l.getD (ixS v l) default=v
 | [],h=>by cases h
 | x::l,h=>by
  unfold ixS
  simp only[Kd]
  by_cases he:v=x
  ·subst he;simp
  ·have hm:v∈l:=(List.mem_cons.1 h).resolve_left he
   obtain⟨h1,h2,h3⟩:=F6 hm
   have hd:decide (v=x)=false:=by simpa using he
   simp only[hd,Bool.false_eq_true,if_false]
   rw[h1]
   have hn:¬ ((ixS v l:Nat):Int)<0:=by omega
   have h4:(((ixS v l:Nat):Int)+1).toNat=ixS v l+1:=by omega
   simp only[hn,if_false,h4,List.length_cons]
   refine⟨by omega,by omega,?_⟩
   simpa[List.getD_eq_getElem?_getD]using h3
mutual
def Cy (vars:List Str)(x:List Term):Term->Term
 | .mk n v l=>if v then x.getD (ixS n vars) default else .mk n false (aM vars x l)
def aM (vars:List Str)(x:List Term):List Term->List Term
 | []=>[]
 | a::l=>Cy vars x a::aM vars x l
end
theorem iE (vars:List Str)(x:List Term)(l:List Term):aM vars x l=l.map (Cy vars x):=by induction l with | nil=>rfl | cons a l ih=>simp[aM,ih]
theorem Lp (vars:List Str)(x:List Term)(t:Term):Cy vars x t=if t.var then x.getD (ixS t.name vars) default else .mk t.name false (t.args.map (Cy vars x)):=by cases t;simp only[Cy,iE,Term.name,Term.var,Term.args];rfl
mutual
def Ae (r:List A2)(f:A2->Term):A0->Term
 | .mk k n v l=>if k=0 then .mk n v (Xi r f l) else Cy (Az [(r.getD (k-1).toNat default).left]) (Xi r f l) (f (r.getD (k-1).toNat default))
def Xi (r:List A2)(f:A2->Term):List A0->List Term
 | []=>[]
 | a::l=>Ae r f a::Xi r f l
end
theorem gi (r:List A2)(f:A2->Term)(l:List A0):Xi r f l=l.map (Ae r f):=by induction l with | nil=>rfl | cons a l ih=>simp[Xi,ih]
theorem D4 (r:List A2)(f:A2->Term)(m:A0):Ae r f m=if m.rule=0 then .mk m.name m.var (m.args.map (Ae r f)) else Cy (Az [(At r m).left]) (m.args.map (Ae r f)) (f (At r m)):=by cases m;simp only[Ae,gi,A0.rule,A0.name,A0.var,A0.args,At];rfl
def FZ (r:List A2)(f:A2->Term)(m:A0):Option Term×Int :=
 if Fu r m≠0 then (none,Fu r m) else if BK (Ae r f m) then (some (Ae r f m),0) else (none,3)
structure OkM (r:List A2) (m:A0):Prop where
 rg:GK (BY r.length) m=true
 fm:GK (Bj r) m=true
theorem OkM.arg {r:List A2}{m a:A0}(h:OkM r m)(ha:a∈m.args):OkM r a:=⟨T2 h.rg ha,T2 h.fm ha⟩
theorem Fs {r:List A2}{m:A0}(h:Fu r m=0):Al r=0/\OkM r m/\Ar m<=4000/\Ba m<=200:=by
 unfold Fu at h
 split at h
 ·rename_i hc;exact absurd h hc
 ·rename_i h1
  split at h
  ·cases h
  ·rename_i h2
   split at h
   ·cases h
   ·rename_i h3
    split at h
    ·cases h
    ·exact⟨Classical.not_not.1 h1,⟨by simpa using h2,by simpa using h3⟩,by omega,by omega⟩
theorem OkM.rule {r:List A2}{m:A0}(h:OkM r m)(hr:m.rule≠0):0<m.rule/\m.rule<=r.length/\At r m∈r/\m.args.length=(Az [(At r m).left]).length/\m.name=[]/\m.var=false:=by
 have h1:=Gs h.rg
 have h2:=Gs h.fm
 unfold BY at h1
 rw[Bool.and_eq_true,decide_eq_true_eq,decide_eq_true_eq]at h1
 unfold Bj at h2
 rw[if_pos (by omega),Bool.and_eq_true,Bool.and_eq_true,decide_eq_true_eq,decide_eq_true_eq]at h2
 exact⟨by omega,h1.2,A4 (by omega),h2.2.2,h2.1,by simpa using h2.2.1⟩
theorem OkM.rule_pos {r:List A2}{m:A0}(h:OkM r m)(hr:m.rule≠0):0<m.rule:=(h.rule hr).1
end Go.Dw
end
section
namespace Go.Dw
theorem I2 {p:A0->Bool}{g:Nat}{caps:List V}(hc:∀ σ,AP σ caps=caps)(l:List A0)(hl:l.length<2^62)(h:∀ a∈l,PF g (Aq a::caps) (.bool (p a))) :
  PF CA [Dz cM 4 l,.fn (.func g) [] caps] (.int .i64 (Kd p l)):=by
 refine Aa Bo.ok rfl ?_
 push_cast[hc]
 refine Ac (n:=l.length) (R:=fun k=>(∀ j,j<k->p (l.getD j default)=false)->Bo.L3 (Dz cM 4 l) (.fn (.func g) [] caps) (.int .i64 l.length) (.int .i64 k) 0 [] _) ?_ ?_ 0 (by omega) (by intro j hj;omega)
 ·intro k hk ih hq
  refine A8.2 ?_
  push_cast[ilt hk,YL,lZ,hc]
  refine .of (h _ (A4 hk)) ?_
  push_cast[w64 (show k<2^62 by omega),hc]
  refine⟨fun hp=>A1 ?_,fun hp=>?_⟩
  ·push_cast[Bo.rs]
   rw[Gj hk hp hq]
  ·exact ih fun j hj=>by rcases Nat.lt_succ_iff_lt_or_eq.1 hj with h | rfl;exact hq j h;exact hp
 ·intro hq
  refine A8.2 ?_
  push_cast[B6 (Nat.le_refl _)]
  refine A1 ?_
  push_cast[Bo.rs]
  rw[HC hq]
theorem GI {p:A0->Bool}{g:Nat}{caps:List V}(hc:∀ σ,AP σ caps=caps)(l:List A0)(hl:l.length<2^62)(h:∀ a∈l,PF g (Aq a::caps) (.bool (p a))) :
  PF Ca [Dz cM 4 l,.fn (.func g) [] caps] (.bool (l.any p)):=by
 refine Aa Cs.ok rfl ?_
 push_cast[hc]
 refine .of (I2 hc l hl h) ?_
 push_cast[hc]
 refine A1 ?_
 push_cast[Cs.rs,Nh]
end Go.Dw
end
section
namespace Go.Dw
theorem ud (m:A0)(v:V):put 3 [v] (cM m)=[.int .i64 m.rule,.str m.name,.bool m.var,v]:=by rw[SE];rfl
attribute [push_cast] ud
theorem SJ (m:A0)(hs:Ar m<2^40):PF Ig [Aq m] (.int .i64 (EF m)):=by
 induction m using Co with
 | h m ih =>
 refine Aa IR.ok rfl ?_
 have hst:=AO m
 have hl:=AS m.args
 rw[iD]
 push_cast
 refine Ac (n:=m.args.length) (R:=fun k=>∀ v:Nat,Hc v (m.args.drop k)=Hc 1 m.args->v<=1+Bs (m.args.take k)->IR.L3 (.int .i64 v) (Cu m.args) (.int .i64 m.args.length) (.int .i64 k) 0 [] (Bv 0 IR.rs fun x' H'=>x'=.int .i64 (Hc 1 m.args)/\H'=[])) ?_ ?_ 0 (Nat.zero_le _) 1 (by simp) (by omega)
 ·intro k hk ih2 v hv hb
  have h1:=IV _ _ hk
  have h2:=OR m.args (k+1)
  have hm:=A4 hk
  have hsp:=Xc (m.args.getD k default)
  have hih:=ih _ hm (by omega)
  rw[Ak hk]at hv
  simp only[Hc]at hv
  generalize hx:m.args.getD k default=a at hm hv h1 hsp hih
  refine A8.2 ?_
  push_cast[ilt hk,hx]
  refine .of hih ?_
  have hw:IntKind.i64.wrap ((v:Int)+(EF a:Int))=((v+EF a:Nat):Int):=by rw[Bq (by omega) (by omega)];omega
  by_cases hc:4000<v+EF a
  ·rw[if_pos hc]at hv
   have hci:((4000:Int)<((v+EF a:Nat):Int))=True:=eq_true (by omega)
   rw[hv]at hw hci
   generalize Hc 1 m.args=w at hw hci
   push_cast[hw,hci]
   exact A1 (by push_cast[IR.rs])
  ·rw[if_neg hc]at hv
   have hci:((4000:Int)<((v+EF a:Nat):Int))=False:=eq_false (by omega)
   have:=ih2 (v+EF a) hv (by omega)
   generalize v+EF a=w at hw hci this
   push_cast[hw,hci,w64 (show k<2^62 by omega)]
   exact this
 ·intro v hv hb
  rw[An]at hv
  refine A8.2 ?_
  push_cast[B6 (Nat.le_refl _)]
  refine A1 ?_
  push_cast[IR.rs,<-hv]
  rfl
theorem QM (m:A0)(hs:Ar m<2^40):PF GE [Aq m] (.int .i64 (Ba m)):=by
 induction m using Co with
 | h m ih =>
 refine Aa Ma.ok rfl ?_
 have hst:=AO m
 have hl:=AS m.args
 have hd:=M3 m.args
 push_cast
 refine Ac (n:=m.args.length) (R:=fun k=>Ma.L3 (.int .i64 (AW (m.args.take k):Nat)) (Cu m.args) (.int .i64 m.args.length) (.int .i64 k) 0 [] _) ?_ ?_ 0 (by omega)
 ·intro k hk ih2
  have h1:=HY _ _ hk
  have hm:=A4 hk
  have:=CE hm
  refine A8.2 ?_
  push_cast[ilt hk]
  refine .of (ih _ hm (by omega)) ?_
  push_cast[w64 (show k<2^62 by omega)]
  rw[h1]at ih2
  exact ih2
 ·refine A8.2 ?_
  push_cast[B6 (Nat.le_refl _),List.take_length]
  rw[Bq (by omega) (by omega)]
  refine A1 ?_
  push_cast[Ma.rs,List.take_length,E4 m]
theorem dM (m:A0)(hs:Ar m<2^40):PF Me [Aq m] (Aq m):=by
 induction m using Co with
 | h m ih =>
 refine Aa Q9.ok rfl ?_
 have hst:=AO m
 have hl:=AS m.args
 push_cast
 refine Ac (n:=m.args.length) (R:=fun k=>Q9.L3 (.ptr 0 0) (.ptr 1 0) (Cu m.args) (.int .i64 m.args.length) (.int .i64 k) 0
  [.cells A7 [.int .i64 m.rule,.str m.name,.bool m.var,Bc cM 2 4 (m.args.take k)],.cells A7 [.int .i64 0,.str [],.bool false,.sl 4 []],.arr A7 4 k] _) ?_ ?_ 0 (by omega)
 ·intro k hk ih2
  have hm:=A4 hk
  have:=CE hm
  have hlt:(m.args.take k).length=k:=by simp;omega
  rw[A9 hk]at ih2
  refine A8.2 ?_
  push_cast[ilt hk]
  refine .of (ih _ hm (by omega)) ?_
  push_cast[hlt,w64 (show k<2^62 by omega)]
  refine⟨by unfold Ag;omega,?_⟩
  exact ih2
 ·refine A8.2 ?_
  push_cast[B6 (Nat.le_refl _)]
  refine A1 ?_
  push_cast[Q9.rs,List.take_length,rY]
  rw[A0.eta]
def zM:A0:=.mk 0 [] false []
def Pp (r:Option A0)(e:Int):V:=match r with
 | some m=>.tup [Aq m,.int .i64 e]
 | none=>.tup [Aq zM,.int .i64 e]
def LK (m:A0):Bool:=decide (Ar m<=4000) && decide (Ba m<=200)
def dY (m:A0):V:=if LK m then Pp (some m) 0 else Pp none 3
theorem pJ:V.agg [.int .i64 0,.str [],.bool false,.sl 4 []]=Aq zM:=rfl
theorem UD (m:A0)(hs:Ar m<2^40):PF LP [Aq m] (dY m):=by
 have hsz:=cr m
 refine Aa N5.ok rfl ?_
 push_cast
 refine .of (SJ m hs) ?_
 unfold dY LK
 by_cases h1:4000<EF m
 ·have hi:((4000:Int)<(EF m:Int))=True:=eq_true (by omega)
  have h1':¬ Ar m<=4000:=by omega
  push_cast[hi,h1']
  exact A1 (by push_cast[N5.rs,pJ];rfl)
 ·have hi:((4000:Int)<(EF m:Int))=False:=eq_false (by omega)
  have h1':Ar m<=4000:=by omega
  push_cast[hi]
  refine .of (QM m hs) ?_
  by_cases h2:200<Ba m
  ·have hj:((200:Int)<(Ba m:Int))=True:=eq_true (by omega)
   have h2':¬ Ba m<=200:=by omega
   push_cast[hj,h2']
   exact A1 (by push_cast[N5.rs,pJ];rfl)
  ·have hj:((200:Int)<(Ba m:Int))=False:=eq_false (by omega)
   have h2':Ba m<=200:=by omega
   push_cast[hj]
   refine .of (dM m hs) ?_
   push_cast
   exact A1 (by push_cast[N5.rs];simp[h1',h2'];rfl)
theorem US {p q:A0->Bool}{g:Nat}{caps:List V}{B:Nat}(hc:∀ σ,AP σ caps=caps)(h:∀ a,q a=true->mb a<=B->PF g (Aq a::caps) (.bool (p a)))(hB:B<2^40)(m:A0)(hq:GK q m=true)(hm:mb m<=B) :
  PF JA [Aq m,.fn (.func g) [] caps] (.bool (GK p m)):=by
 induction m using Co with
 | h m ih =>
 have hmb:=Vp m
 have hsz:=FO m
 have hst:=AO m
 have hl:=AS m.args
 have hC:=GI (p:=fun a=>!GK p a) (g:=Mw) (caps:=[.ro [.fn (.func g) [] caps] 0]) (fun σ=>by push_cast) m.args (by omega) fun a ha=>by
  refine Aa Pd.ok rfl ?_
  push_cast[hc]
  refine .of (ih a ha (T2 hq ha) (by have:=oE ha;omega)) ?_
  push_cast
  exact A1 (by push_cast[Pd.rs])
 refine Aa Qh.ok rfl ?_
 rw[GU]
 push_cast[hc]
 refine .of (h m (Gs hq) hm) ?_
 cases hp:p m with
 | false =>
  push_cast[hc]
  exact A1 (by push_cast[Qh.rs])
 | true =>
  push_cast[hc]
  refine .of hC ?_
  push_cast[hc]
  exact A1 (by push_cast[Qh.rs,Vt])
end Go.Dw
end
section
namespace Go.Dw
theorem XL (r:List A2)(m:A0)(hr:rbs r<2^38)(hq:BY r.length m=true)(hm:mb m<2^40):PF LI [Aj r,Aq m] (.bool (Bj r m)):=by
 have hmb:=Vp m
 have hsz:=FO m
 have hst:=AO m
 have hl:=AS m.args
 have hI:∀ b,PF Du [.str m.name,.bool b] (.bool (C6 m.name b)):=fun b=>QW _ b (by omega)
 unfold BY at hq
 rw[Bool.and_eq_true,decide_eq_true_eq,decide_eq_true_eq]at hq
 refine Aa Dr.ok rfl ?_
 unfold Bj
 by_cases h1:0<m.rule
 ·have hm1:r.getD (m.rule-1).toNat default∈r:=A4 (by omega)
  have hrm:=Fy hm1
  have hst:=AQ (At r m).left
  have hru:r.getD (m.rule-1).toNat default=At r m:=rfl
  have hw:IntKind.i64.wrap (m.rule-1)=m.rule-1:=Bq (by have:=Be r;omega) (by have:=Be r;omega)
  have hc1:((0:Int)<=m.rule-1)=True:=eq_true (by omega)
  have hc2:(m.rule-1<(r.length:Int))=True:=eq_true (by omega)
  rw[hru]at hrm
  have hV:=Ej [(At r m).left] (by simp[Ab];omega)
  rw[if_pos h1]
  by_cases h2:m.name=[]
  ·cases h3:m.var with
   | true =>
    push_cast[eq_true h1,h2,h3]
    exact A1 (by push_cast[Dr.rs])
   | false =>
    push_cast[eq_true h1,h2,h3,hw,hc1,hc2,hru]
    refine .of hV ?_
    push_cast
    exact A1 (by push_cast[Dr.rs];exact decide_eq_decide.2 (by omega))
  ·push_cast[eq_true h1,eq_false h2]
   exact A1 (by push_cast[Dr.rs])
 ·rw[if_neg h1]
  cases hv:m.var with
  | true =>
   rw[if_pos rfl]
   by_cases h0:m.args.length=0
   ·push_cast[eq_false h1,hv,h0]
    refine .of (hI false) ?_
    push_cast
    exact A1 (by push_cast[Dr.rs])
   ·have hi:((m.args.length:Int)=0)=False:=eq_false (by omega)
    push_cast[eq_false h1,hv,hi]
    exact A1 (by push_cast[Dr.rs,h0])
  | false =>
   rw[if_neg (by simp)]
   by_cases h0:m.args.length<=8
   ·have hi:((m.args.length:Int)<=8)=True:=eq_true (by omega)
    push_cast[eq_false h1,hv,hi]
    refine .of (hI true) ?_
    push_cast
    exact A1 (by push_cast[Dr.rs,h0])
   ·have hi:((m.args.length:Int)<=8)=False:=eq_false (by omega)
    push_cast[eq_false h1,hv,hi]
    exact A1 (by push_cast[Dr.rs,h0])
theorem kx (m:A0):GK (fun _=>true) m=true:=by
 induction m using Co with
 | h m ih=>rw[GU,Bool.true_and,List.all_eq_true];exact ih
theorem kW (r:List A2)(a:A0):PF JT [Aq a,.ro [Aj r] 0] (.bool (BY r.length a)):=by
 refine Aa Jq.ok rfl ?_
 unfold BY
 by_cases h:0<=a.rule
 ·push_cast[eq_true h]
  exact A1 (by push_cast[Jq.rs])
 ·push_cast[eq_false h]
  exact A1 (by push_cast[Jq.rs])
theorem kL (r:List A2)(a:A0)(hr:rbs r<2^38)(hq:BY r.length a=true)(hm:mb a<2^40):PF K2 [Aq a,.ro [Aj r] 0] (.bool (Bj r a)):=by
 refine Aa Mv.ok rfl ?_
 push_cast
 refine .of (XL r a hr hq hm) ?_
 push_cast
 exact A1 (by push_cast[Mv.rs])
theorem Y8 (r:List A2)(m:A0)(hr:rbs r<2^38)(hm:mb m<2^39):PF Mz [Aj r,Aq m] (.int .i64 (Fu r m)):=by
 have hsz:=FO m
 have hsp:=cr m
 refine Aa EL.ok rfl ?_
 push_cast
 refine .of (LE r hr) ?_
 generalize hT:Fu r m=T
 unfold Fu at hT
 by_cases h1:¬ Al r=0
 ·rw[if_pos h1]at hT
  subst hT
  push_cast[eq_false h1]
  exact A1 (by push_cast[EL.rs])
 have h1:Al r=0:=Classical.not_not.1 h1
 rw[if_neg (by simpa using h1)]at hT
 push_cast[h1]
 refine .of (US (p:=BY r.length) (q:=fun _=>true) (B:=2^39) (caps:=[.ro [Aj r] 0]) (fun σ=>by push_cast) (fun a _ _=>kW r a) (by omega) m (kx m) (by omega)) ?_
 cases h2:GK (BY r.length) m with
 | false =>
  rw[h2,if_pos rfl]at hT
  subst hT
  push_cast
  exact A1 (by push_cast[EL.rs])
 | true =>
 rw[h2,if_neg (by simp)]at hT
 push_cast
 refine .of (US (p:=Bj r) (q:=BY r.length) (B:=2^39) (caps:=[.ro [Aj r] 0]) (fun σ=>by push_cast) (fun a hq hb=>kL r a hr hq (by omega)) (by omega) m h2 (by omega)) ?_
 cases h3:GK (Bj r) m with
 | false =>
  rw[h3,if_pos rfl]at hT
  subst hT
  push_cast
  exact A1 (by push_cast[EL.rs])
 | true =>
 rw[h3,if_neg (by simp)]at hT
 push_cast
 refine .of (SJ m (by omega)) ?_
 by_cases h4:4000<EF m
 ·have hi:((4000:Int)<(EF m:Int))=True:=eq_true (by omega)
  rw[if_pos (by omega)]at hT
  subst hT
  push_cast[hi]
  exact A1 (by push_cast[EL.rs])
 ·have hi:((4000:Int)<(EF m:Int))=False:=eq_false (by omega)
  push_cast[hi]
  refine .of (QM m (by omega)) ?_
  by_cases h5:200<Ba m
  ·have hj:((200:Int)<(Ba m:Int))=True:=eq_true (by omega)
   rw[if_pos (by omega)]at hT
   subst hT
   push_cast[hj]
   exact A1 (by push_cast[EL.rs])
  ·have hj:((200:Int)<(Ba m:Int))=False:=eq_false (by omega)
   rw[if_neg (by omega)]at hT
   subst hT
   push_cast[hj]
   exact A1 (by push_cast[EL.rs])
end Go.Dw
end
section
namespace Go.Dw
theorem dU (t:Term)(p:List Int)(hp:p.length<2^62)(ht:size t<2^62):PF So [Ao t,Hk p] (UQ (D7 t p)):=by
 refine Aa U1.ok rfl ?_
 push_cast
 refine Ac (n:=p.length) (R:=fun k=>∀ u,D7 u (p.drop k)=D7 t p->size u<2^62->U1.L3 (.ptr 0 0) (.ptr 1 0) (Hk p) (.int .i64 p.length) (.int .i64 k) 0 [.cells A3 (cT u),.cells A3 [.str [],.bool false,.sl 3 []]] _) ?_ ?_ 0 (by omega) t rfl ht
 ·intro k hk ih u hu hsu
  rw[Ak hk]at hu
  simp only[D7]at hu
  generalize hgi:p.getD k default=i at hu
  have hl:=Ai u.args
  have hst:=AH u
  refine A8.2 ?_
  by_cases hi:i<0
  ·rw[if_neg (by omega)]at hu
   push_cast[ilt hk,hgi,hi]
   refine A1 ?_
   push_cast[U1.rs,<-hu]
   rfl
  ·by_cases hi2:(u.args.length:Int)<=i
   ·rw[if_neg (by omega)]at hu
    push_cast[ilt hk,hgi,hi,hi2]
    refine A1 ?_
    push_cast[U1.rs,<-hu]
    rfl
   ·rw[if_pos (by omega)]at hu
    push_cast[ilt hk,hgi,hi,hi2,w64 (show k<2^62 by omega)]
    have hm:u.args.getD i.toNat default∈u.args:=A4 (by omega)
    exact⟨by omega,ih _ hu (by have:=Bp hm;omega)⟩
 ·intro u hu hsu
  rw[An]at hu
  refine A8.2 ?_
  push_cast[B6 (Nat.le_refl _)]
  refine A1 ?_
  push_cast[U1.rs,<-hu]
  rfl
theorem Mf (s:List A6)(v:Str)(hl:s.length<2^62):PF Hz [Bf s,.str v] (Ao ((Ad s v).getD (.mk v true []))):=by
 refine Aa MQ.ok rfl ?_
 push_cast
 refine Ac (n:=s.length) (R:=fun k=>Ad (s.drop k) v=Ad s v->MQ.L3 (.str v) (.ptr 0 0) (Bf s) (.int .i64 s.length) (.int .i64 k) 0 [.cells A3 [.str [],.bool false,.sl 3 []]] _) ?_ ?_ 0 (by omega) rfl
 ·intro k hk ih hq
  rw[Ak hk]at hq
  simp only[Ad]at hq
  generalize hgi:s.getD k default=b at hq
  refine A8.2 ?_
  by_cases h:b.name=v
  ·rw[if_pos h]at hq
   push_cast[ilt hk,hgi,h]
   refine A1 ?_
   push_cast[MQ.rs,<-hq]
   rfl
  ·rw[if_neg h]at hq
   push_cast[ilt hk,hgi,h,w64 (show k<2^62 by omega)]
   exact ih hq
 ·intro hq
  rw[An]at hq
  refine A8.2 ?_
  push_cast[B6 (Nat.le_refl _)]
  refine A1 ?_
  push_cast[MQ.rs,<-hq]
  rfl
theorem E3 (s:List A6)(hl:s.length<2^62)(t:Term)(ht:size t<2^40):PF CG [Bf s,Ao t] (Ao (AB s t)):=by
 induction t using Af with
 | h t ih =>
 have hst:=AH t
 have hll:=Ai t.args
 refine Aa N6.ok rfl ?_
 rw[HV]
 cases hv:t.var with
 | true =>
  push_cast[hv]
  refine .of (Mf s t.name hl) ?_
  push_cast
  exact A1 (by push_cast[N6.rs])
 | false =>
  push_cast[hv]
  refine Ac (n:=t.args.length) (R:=fun k=>N6.L3 (Bf s) (.ptr 0 0) (.ptr 1 0) (Bd t.args) (.int .i64 t.args.length) (.int .i64 k) 0 [.cells A3 [.str [],.bool false,.sl 3 []],.cells A3 [.str t.name,.bool false,Bc cT 2 3 ((t.args.take k).map (AB s))],.arr A3 3 k] _) ?_ ?_ 0 (by omega)
  ·intro k hk ih2
   have hm:=A4 hk
   have hm2:=Bp hm
   have hlen:((t.args.take k).map (AB s)).length=k:=by simp;omega
   rw[A9 hk,List.map_append,List.map_singleton]at ih2
   refine A8.2 ?_
   push_cast[ilt hk]
   refine .of (ih _ hm (by omega)) ?_
   push_cast[hlen,w64 (show k<2^62 by omega)]
   exact⟨Nat.le_trans (Nat.mul_le_mul_right 48 (show _<=2^41 by omega)) (by unfold Ag;decide),ih2⟩
  ·refine A8.2 ?_
   push_cast[B6 (Nat.le_refl _)]
   refine A1 ?_
   push_cast[N6.rs,List.take_length]
   unfold Ao
   rw[Oq];rfl
theorem UA (s:List A6)(v:Str)(hl:s.length<2^62):PF M1 [Bf s,.str v] (.bool (bound s v)):=by
 refine Aa N4.ok rfl ?_
 unfold bound
 push_cast
 refine Ac (n:=s.length) (R:=fun k=>Ad (s.drop k) v=Ad s v->N4.L3 (.str v) (Bf s) (.int .i64 s.length) (.int .i64 k) 0 [] _) ?_ ?_ 0 (by omega) rfl
 ·intro k hk ih hq
  rw[Ak hk]at hq
  simp only[Ad]at hq
  generalize hgi:s.getD k default=b at hq
  refine A8.2 ?_
  by_cases h:b.name=v
  ·rw[if_pos h]at hq
   push_cast[ilt hk,hgi,h]
   refine A1 ?_
   push_cast[N4.rs,<-hq]
   rfl
  ·rw[if_neg h]at hq
   push_cast[ilt hk,hgi,h,w64 (show k<2^62 by omega)]
   exact ih hq
 ·intro hq
  rw[An]at hq
  refine A8.2 ?_
  push_cast[B6 (Nat.le_refl _)]
  refine A1 ?_
  push_cast[N4.rs,<-hq]
  rfl
theorem cJ {v:Str}:∀ {s:List A6},lbd v s<s.length->¬ (s.getD (lbd v s) default).name<v
 | [],h=>by simp at h
 | b::s,h=>by
  simp only[lbd]at h ⊢
  split
  ·rename_i hx
   rw[if_pos hx]at h
   simpa using cJ (s:=s) (by simpa using h)
  ·rename_i hx
   simpa using hx
theorem VZ {i:Nat}{l:List A6}{n:Str}{t:Term}:(.own i 4 (l.map cB++[V.str n::cT t]):V)=Bc cB i 4 (l++[⟨n,t⟩]):=by simp[Bc,cB]
theorem ib (s:List A6)(v:Str)(t:Term)(hl:s.length<2^40)(hn:∀ b∈s,b.name.length<2^62)(hv:v.length<2^62):PF RH [Bf s,.str v,Ao t] (Bf (FC s v t)):=by
 have hle:=R8 v s
 have hge:=@cJ v s
 have hlt:=fun j=>@XS v s j
 have tail:∀ m:Nat,m<=2^40->∀ b,b<=64->m*b<=Ag:=fun m hm b hb=>Nat.le_trans (Nat.mul_le_mul hm hb) (by unfold Ag;decide)
 unfold FC
 generalize lbd v s=a at hle hge hlt
 have e1:(s.drop 0).take (a-0)=s.take a:=by simp
 have e2:(s.drop a).take (s.length-a)=s.drop a:=by rw[List.take_of_length_le];simp
 refine Aa OP.ok rfl ?_
 push_cast
 refine Ac (n:=a) (R:=fun k=>OP.L3 (Bf s) (.str v) (.ro (cT t) 0) (.int .i64 k) 0 [] _) ?_ ?_ 0 (by omega)
 ·intro k hk ih
  have hkl:k<s.length:=by omega
  have h1:I7 (s.getD k default).name v<0:=JE.2 (hlt k hk)
  refine A8.2 ?_
  push_cast[ilt hkl]
  refine .of (Cd _ _ (hn _ (A4 hkl)) hv) ?_
  push_cast[h1,w64 (show k<2^62 by omega)]
  exact ih
 ·refine A8.2 ?_
  rcases Nat.lt_or_ge a s.length with h | h
  ·have h2:¬ I7 (s.getD a default).name v<0:=fun hc=>hge h (JE.1 hc)
   push_cast[ilt h]
   refine .of (Cd _ _ (hn _ (A4 h)) hv) ?_
   push_cast[h2,e1,e2,VZ,List.cons_append,List.nil_append]
   refine⟨⟨by omega,hle⟩,tail _ (by simp;omega) _ (by omega),tail _ (by simp;omega) _ (by omega),hle,⟨by simp,tail _ (by simp;omega) _ (by omega)⟩,A1 ?_⟩
   push_cast[OP.rs]
  ·push_cast[B6 h,e1,e2,VZ,List.cons_append,List.nil_append]
   refine⟨⟨by omega,hle⟩,tail _ (by simp;omega) _ (by omega),tail _ (by simp;omega) _ (by omega),hle,⟨by simp,tail _ (by simp;omega) _ (by omega)⟩,A1 ?_⟩
   push_cast[OP.rs]
end Go.Dw
end
