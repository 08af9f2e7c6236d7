/-
  Contracts and lemmas for ResidualDivides: part f of 10.
-/
import Derived.Sort.KeysCollected
import Derived.Test.YtkdcfkfdkimaeaaGreatDoorVae
import Derived.Shelf.Spec.SlicesInsert
import Derived.Lib.AppendZerosOnto
import Derived.Test.YtkdcfkfdkimaeaaGreatDoorVad
import Derived.ArgAppend
import Derived.Shelf.Spec.SlicesGrow
import Derived.Test.YtkdcfkfdkimaeaaGreatDoorRows
import Derived.WalkKit
import Derived.ProofKit
import Derived.OpenShut
import Derived.JoinedCond
import Derived.ReadAgain
import Derived.Carry
set_option linter.unusedVariables false
set_option linter.unusedSimpArgs false
set_option maxRecDepth 100000
section
namespace Go.Dw
open Go.Proofs (sortS)
theorem Qt {σ:Nat->Option Nat}{l:List A9}:(l.map fun s=>[V.str s]).map (AR σ)=l.map fun s=>[V.str s]:=by rw[List.map_map];rfl
attribute [push_cast] Qt
theorem rh (a b c d o:Ob):takeB [2] [a,b,c,d] [o]=[a,b,A5 (BY [2] 4) o,d]:=rfl
theorem ug (a b c d:Ob):give [2] [a,b,c,d]=[A5 (Ay [2]) c]:=rfl
def VE (ks:List A9)(n:A9):List A9:=if n∈ks then ks else ks++[n]
def Il (ks:List A9):List (V×V):=ks.map fun k=>(.str k,.bool true)
theorem mI {σ:Nat->Option Nat}{ks:List A9}:((Il ks).map fun p=>(ren σ p.1,ren σ p.2))=Il ks:=by
 unfold Il;rw[List.map_map];rfl
attribute [push_cast] mI
theorem Vh (n:A9):∀ (ks:List A9)(i:Nat),FV (.str n) (Il ks) i=some (if n∈ks then some (i+ks.idxOf n,.bool true) else none)
 | [],i=>by simp[FV,Il]
 | k::ks,i=>by
  have ih:=Vh n ks (i+1)
  unfold Il at ih ⊢
  by_cases h:k=n
  ·subst h;simp[FV,HP]
  ·have h':n≠k:=fun e=>h e.symm
   have e:HP (.str n) (.str k)=some false:=by simp[HP,h']
   have hb:(k==n)=false:=by simp[h]
   simp only[List.map_cons,FV,e,ih,List.mem_cons,h',false_or,List.idxOf_cons,hb,cond_false]
   split
   ·congr 3;omega
   ·rfl
theorem iU (n:A9)(ks:List A9):WK (.str n) (.bool true) (Il ks)=some (Il (VE ks n)):=by
 unfold WK
 rw[Vh]
 unfold VE
 by_cases h:n∈ks
 ·simp only[h,if_true]
  congr 1
  unfold Il
  apply List.ext_getElem (by simp)
  intro i h1 h2
  rw[List.getElem_set]
  split
  ·rename_i e
   subst e
   simp[List.getElem_idxOf]
  ·rfl
 ·simp only[h,if_false]
  simp[Il]
def FI (l:List (List Int×Term)):List A9:=(l.filter fun x=>x.2.var).map fun x=>x.2.name
def R2 (ks:List A9)(l:List (List Int×Term)):List A9:=(FI l).foldl VE ks
def HZ (ks:List A9)(l:List Term):List A9:=l.foldl (fun ks t=>R2 ks (Aq t [])) ks
def AA (l:List Term):List A9:=sortS (HZ [] l)
mutual
theorem Nl:∀ (t:Term)(p:List Int),(Aq t p).length=size t
 | .mk n v l,p=>by simp only[Aq,size,List.length_cons,XA l p 0];omega
theorem XA:∀ (l:List Term)(p:List Int)(i:Nat),(B6 l p i).length=Ac l
 | [],p,i=>rfl
 | a::l,p,i=>by simp only[B6,Ac,List.length_append,Nl a,XA l]
end
theorem sW (ks:List A9)(n:A9):(VE ks n).length<=ks.length+1:=by unfold VE;split<;>simp
theorem Pr:∀ (l:List A9)(ks:List A9),(l.foldl VE ks).length<=ks.length+l.length
 | [],ks=>by simp
 | n::l,ks=>by have:=Pr l (VE ks n);have:=sW ks n;simp only[List.foldl_cons,List.length_cons];omega
theorem uc (ks:List A9)(l:List (List Int×Term)):(R2 ks l).length<=ks.length+l.length:=by
 have h1:=Pr (FI l) ks
 have h2:(FI l).length<=l.length:=by unfold FI;rw[List.length_map];exact List.length_filter_le _ _
 unfold R2;omega
theorem UD:∀ (l:List Term)(ks:List A9),(HZ ks l).length<=ks.length+Ac l
 | [],ks=>by simp[HZ,Ac]
 | t::l,ks=>by
  have h1:=UD l (R2 ks (Aq t []))
  have h2:=uc ks (Aq t [])
  rw[Nl]at h2
  simp only[HZ,List.foldl_cons,Ac]at h1 ⊢;omega
theorem Ew (l:List Term)(hs:Ac l<2^40):PF Dc [Bg l] (Bo (AA l)):=by
 have hl:=Aj l
 refine Ab Gi.ok rfl ?_
 push_cast
 refine Ad (n:=l.length) (R:=fun k=>Gi.L8 (.ptr 1 0) .any (Bg l) (.int .i64 l.length) (.int .i64 k) 0 [.map (Il (HZ [] (l.take k))),.cells Dt [.map 0]] _) ?_ ?_ 0 (by omega)
 ·intro k hk ih
  have hm:=A4 hk
  have hsm:=Bt hm
  refine A8.2 ?_
  push_cast[BT hk]
  refine .of (Mp _) ?_
  push_cast
  have hks:HZ [] (l.take (k+1))=R2 (HZ [] (l.take k)) (Aq (l.getD k default) []):=by rw[Aa hk];simp[HZ]
  rw[hks]at ih
  generalize HZ [] (l.take k)=ks at ih ⊢
  generalize l.getD k default=u at ih hsm ⊢
  refine AB.rf Dd [] [.ro (cT u) 0] ((Aq u []).map Kn) (fun j H1=>H1=[.map (Il (R2 ks ((Aq u []).take j))),.cells Dt [.map 0],.dead]) (fun _ _=>False) rfl (Ib u (by omega)) ?_ (by simp[R2,FI]) ?_ ?_ (fun _ _ h=>h.elim) ?_ ?_ (fun _ _ h=>h.elim)
  ·intro it hit
   obtain⟨x,_,rfl⟩:=List.mem_map.1 hit
   rfl
  ·push_cast
  ·rintro j H1 rfl
   refine⟨rfl,?_⟩
   push_cast
  ·rintro lo r j it H1 hit rfl
   rw[List.getElem?_map]at hit
   cases hx:(Aq u [])[j]? with
   | none=>rw[hx]at hit;cases hit
   | some x =>
   rw[hx]at hit
   have hit:it=Kn x:=by simpa using hit.symm
   subst hit
   have hj:j<(Aq u []).length:=(List.getElem?_eq_some_iff.1 hx).1
   have hxj:(Aq u [])[j]=x:=(List.getElem?_eq_some_iff.1 hx).2
   have htk:(Aq u []).take (j+1)=(Aq u []).take j++[x]:=by rw[List.take_succ_eq_append_getElem hj,hxj]
   push_cast[Q4,Kn]
   refine A8.2 ?_
   cases hv:x.2.var with
   | false =>
    have hvs:R2 ks ((Aq u []).take (j+1))=R2 ks ((Aq u []).take j):=by rw[htk];simp[R2,FI,hv]
    push_cast[hv]
    refine⟨rfl,?_⟩
    push_cast[cut,hvs]
   | true =>
    have hvs:R2 ks ((Aq u []).take (j+1))=VE (R2 ks ((Aq u []).take j)) x.2.name:=by rw[htk];simp[R2,FI,hv]
    push_cast[hv,iU,lv]
    refine⟨rfl,?_⟩
    push_cast[cut,hvs]
  ·rintro H1 rfl
   push_cast[CV (show k<2^62 by omega)]
   have:(Aq u []).take ((Aq u []).map Kn).length=Aq u []:=by rw[List.length_map,List.take_length]
   rw[this]
   exact ih
 ·refine A8.2 ?_
  push_cast[B8 (Nat.le_refl _)]
  unfold AA
  rw[List.take_length]
  have hkl:=UD l []
  generalize HZ [] l=ks at hkl ⊢
  simp only[List.length_nil,Nat.zero_add]at hkl
  have hlen:(Il ks).length=ks.length:=by unfold Il;rw[List.length_map]
  rw[hlen]
  have fin:∀ (seen:List Nat),seen.Nodup->(∀ i∈seen,i<ks.length)->(∀ k,k<ks.length->k∈seen)->sortS (seen.map fun i=>ks.getD i [])=sortS ks:=fun seen h1 h2 h3=>by
   refine Go.mergeSort_of_perm ?_
   have hp:seen.Perm (List.range ks.length):=(List.perm_ext_iff_of_nodup h1 List.nodup_range).2 fun i=>by rw[List.mem_range];exact⟨h2 i,h3 i⟩
   have he:(List.range ks.length).map (fun i=>ks.getD i [])=ks:=by
    apply List.ext_getElem (by simp)
    intro i a b
    have hi:i<ks.length:=by simpa using b
    simp[List.getD_eq_getElem?_getD,hi]
   have:=hp.map fun i=>ks.getD i []
   rw[he]at this
   exact this
  have key:∀ (m:Nat)(seen:List Nat),ks.length-seen.length<=m->seen.Nodup->(∀ i∈seen,i<ks.length)->Gi.L3 (.rw 2 1 seen.length) (.it 3) 0
    [.map (Il ks),.cells Dt [.map 0],.row C7 1 ((seen.map fun i=>ks.getD i []).map fun s=>[V.str s]),.iter (some 0) ks.length seen]
    (Bx 0 Gi.rs fun x' H'=>x'=Bo (sortS ks)/\H'=[]):=by
   intro m
   induction m with
   | zero =>
    intro seen hm hnd hlt
    refine A8.2 ?_
    push_cast
    refine be 0 ks.length seen (Il ks) rfl rfl hlen.symm (fun hall=>?_) (fun k p hp hk=>?_)
    ·have hsl:(seen.map fun i=>ks.getD i []).length=seen.length:=by simp
     have hc:=fb (seen.map fun i=>ks.getD i [])
     have hso:(sortS (seen.map fun i=>ks.getD i [])).length=seen.length:=by rw[(List.mergeSort_perm _ _).length_eq,hsl]
     rw[hsl,fin seen hnd hlt hall]at hc
     rw[fin seen hnd hlt hall]at hso
     push_cast
     refine By.some [2] (by simp) (by simp) (R:=fun x H'=>x=.tup []/\H'=[.row C7 1 ((sortS ks).map fun s=>[V.str s])]) (by rw[ug,Lj,Qt];exact hc) ?_
     rintro x H' ⟨rfl,rfl⟩ _
     rw[rh]
     push_cast
     refine⟨by rw[List.length_map];exact hso,A1 ?_⟩
     push_cast[Gi.rs]
     rfl
    ·have:(seen++[k]).length<=(List.range ks.length).length:=List.Nodup.length_le_of_subset (by simp[List.nodup_append,hnd];intro a ha e;exact hk (e▸ha)) (by
      intro i hi
      rw[List.mem_range]
      rcases List.mem_append.1 hi with h | h
      ·exact hlt i h
      ·simp only[List.mem_singleton]at h;subst h;rw[<-hlen];exact (List.getElem?_eq_some_iff.1 hp).1)
     simp at this;omega
   | succ m ih =>
    intro seen hm hnd hlt
    refine A8.2 ?_
    push_cast
    refine be 0 ks.length seen (Il ks) rfl rfl hlen.symm (fun hall=>?_) (fun k p hp hk=>?_)
    ·have hsl:(seen.map fun i=>ks.getD i []).length=seen.length:=by simp
     have hc:=fb (seen.map fun i=>ks.getD i [])
     have hso:(sortS (seen.map fun i=>ks.getD i [])).length=seen.length:=by rw[(List.mergeSort_perm _ _).length_eq,hsl]
     rw[hsl,fin seen hnd hlt hall]at hc
     rw[fin seen hnd hlt hall]at hso
     push_cast
     refine By.some [2] (by simp) (by simp) (R:=fun x H'=>x=.tup []/\H'=[.row C7 1 ((sortS ks).map fun s=>[V.str s])]) (by rw[ug,Lj,Qt];exact hc) ?_
     rintro x H' ⟨rfl,rfl⟩ _
     rw[rh]
     push_cast
     refine⟨by rw[List.length_map];exact hso,A1 ?_⟩
     push_cast[Gi.rs]
     rfl
    ·have hkl:k<ks.length:=by rw[<-hlen];exact (List.getElem?_eq_some_iff.1 hp).1
     have hpe:p=(.str (ks.getD k []),.bool true):=by
      unfold Il at hp
      rw[List.getElem?_map]at hp
      simp[hkl]at hp
      rw[<-hp];simp[List.getD_eq_getElem?_getD,hkl]
     have hen:∀ a b,vy [.map (Il ks),a,b,.iter (some 0) ks.length (seen++[k])] (.it 3)=some (.tup [p.1,p.2]):=fun a b=>by
      simp[vy,hlen,hp]
     subst hpe
     push_cast[hen]
     refine⟨?_,?_⟩
     ·have:(seen.map fun i=>ks.getD i []).length=seen.length:=by simp
      have h2:seen.length<=ks.length:=by simpa using List.Nodup.length_le_of_subset hnd (l₂:=List.range ks.length) fun i hi=>List.mem_range.2 (hlt i hi)
      exact⟨by simp,U9 (n:=seen.length) (b:=16) (by omega) (by omega)⟩
     ·have hnd2:(seen++[k]).Nodup:=by simp[List.nodup_append,hnd];intro a ha e;exact hk (e▸ha)
      have hlt2:∀ i∈seen++[k],i<ks.length:=fun i hi=>by
       rcases List.mem_append.1 hi with h | h
       ·exact hlt i h
       ·simp only[List.mem_singleton]at h;subst h;exact hkl
      have:=ih (seen++[k]) (by simp;omega) hnd2 hlt2
      simp only[List.map_append,List.map_cons,List.map_nil,List.length_append,List.length_singleton]at this
      rw[List.map_append,Qt]
      exact this
  exact key ks.length [] (by simp) List.nodup_nil (by simp)
end Go.Dw
end
section
namespace Go.Dw
open Go.Proofs (sortS)
def KZ:List A2->Nat
 | []=>0
 | x::r=>1+tb x.left+tb x.right+KZ r
theorem FQ {r:List A2}{x:A2}(h:x∈r):1+tb x.left+tb x.right<=KZ r:=by
 induction r with
 | nil=>cases h
 | cons y ys ih=>rcases List.mem_cons.1 h with rfl | h<;>simp[KZ];have:=ih h;omega
theorem Bh (r:List A2):r.length<=KZ r:=by
 induction r with
 | nil=>simp
 | cons x xs ih=>simp only[KZ,List.length_cons];omega
section
variable (r:A2)
theorem AdV:(cR r)[0]?=some (.str r.left.name):=rfl
theorem Aeq:(cR r)[1]?=some (.bool r.left.var):=rfl
theorem Aem:(cR r)[2]?=some (Bg r.left.args):=by show some (V.sl 3 (jc r.left))=_;rw[cg];rfl
theorem Aeo:(cR r)[3]?=some (.str r.right.name):=rfl
theorem Ad4:(cR r)[4]?=some (.bool r.right.var):=rfl
theorem Ael:(cR r)[5]?=some (Bg r.right.args):=by show some (V.sl 3 (jc r.right))=_;rw[cg];rfl
end
attribute [push_cast] AdV Aeq Aem Aeo Ad4 Ael
def Dp:List A2->Int
 | []=>0
 | x::r=>if Je [x.left,x.right]≠0 then Je [x.left,x.right] else Dp r
def Bl (r:List A2):Int:=if 64<r.length then 3 else Dp r
theorem aJ (a b:Term):(.sl 3 [cT a,cT b]:V)=Bg [a,b]:=rfl
theorem T1 (r:List A2)(hs:KZ r<2^61):PF Ip [Ak r] (.int .i64 (Bl r)):=by
 have hl:=Bh r
 refine Ab Ea.ok rfl ?_
 by_cases h64:64<r.length
 ·have hi:((64:Int)<(r.length:Int))=True:=eq_true (by omega)
  push_cast[hi]
  refine A1 ?_
  push_cast[Ea.rs,Bl,h64]
 ·have hi:((64:Int)<(r.length:Int))=False:=eq_false (by omega)
  push_cast[hi,Bl,h64]
  refine Ad (n:=r.length) (R:=fun k=>Dp (r.drop k)=Dp r->Ea.L3 (Ak r) (.int .i64 r.length) (.int .i64 k) 0 [] _) ?_ ?_ 0 (by omega) rfl
  ·intro k hk ih hq
   have hm:=FQ (A4 hk)
   refine A8.2 ?_
   rw[Al hk]at hq
   simp only[Dp]at hq
   generalize hx:r.getD k default=x at hm hq
   have hA:=iw [x.left,x.right] (by simp) (by simp;omega)
   push_cast[BT hk,hx]
   refine .of hA ?_
   push_cast[CV (show k<2^62 by omega)]
   refine⟨fun h=>A1 ?_,fun h=>ih ?_⟩
   ·push_cast[Ea.rs]
    rw[<-hq,if_pos h]
   ·rw[<-hq,if_neg h]
  ·intro hq
   refine A8.2 ?_
   push_cast[B8 (Nat.le_refl _)]
   refine A1 ?_
   push_cast[Ea.rs]
   rw[<-hq,Ao];rfl
theorem Fo (l:List A9)(v:A9)(hl:l.length<2^62):PF AU [Bo l,.str v] (.int .i64 (KM (fun x=>decide (v=x)) l)):=by
 refine Ab BH.ok rfl ?_
 push_cast
 refine Ad (n:=l.length) (R:=fun k=>(∀ j,j<k->decide (v=l.getD j default)=false)->BH.L3 (Bo l) (.str v) (.int .i64 l.length) (.int .i64 k) 0 [] _) ?_ ?_ 0 (by omega) (by intro j hj;omega)
 ·intro k hk ih hq
  refine A8.2 ?_
  push_cast[BT hk,CV (show k<2^62 by omega)]
  refine⟨fun hp=>A1 ?_,fun hp=>?_⟩
  ·push_cast[BH.rs]
   rw[GF hk (by simpa using hp) hq]
  ·refine ih fun j hj=>?_
   rcases Nat.lt_succ_iff_lt_or_eq.1 hj with h | rfl
   ·exact hq j h
   ·simpa using hp
 ·intro hq
  refine A8.2 ?_
  push_cast[B8 (Nat.le_refl _)]
  refine A1 ?_
  push_cast[BH.rs]
  rw[HT hq]
theorem Pc (l:List A9)(v:A9)(hl:l.length<2^62):PF Cy [Bo l,.str v] (.bool (decide (v∈l))):=by
 refine Ab CQ.ok rfl ?_
 push_cast
 refine .of (Fo l v hl) ?_
 push_cast
 refine A1 ?_
 push_cast[CQ.rs,Ng]
 rw[Bool.eq_iff_iff];simp
def Lr (x:A2):Bool:=x.left.var||(AA [x.right]).any fun v=>!decide (v∈AA [x.left])
theorem Fk (l:List Term):(AA l).length<=Ac l:=by
 have:=UD l []
 unfold AA;rw[(List.mergeSort_perm _ _).length_eq];simpa using this
theorem ce (x:A2)(hs:tb x.left+tb x.right<2^39):PF Kw [JW x] (.bool (Lr x)):=by
 have h1:=AS x.left
 have h2:=AS x.right
 have e1:∀ t,Ac [t]=size t:=fun t=>by simp[Ac]
 have hv:=Fk [x.left]
 have hv2:=Fk [x.right]
 rw[e1]at hv hv2
 have hL:=Ew [x.left] (by rw[e1];omega)
 have hR:=Ew [x.right] (by rw[e1];omega)
 refine Ab O7.ok rfl ?_
 push_cast
 refine .of hL ?_
 cases hvar:x.left.var with
 | true =>
  push_cast[hvar]
  refine A1 ?_
  push_cast[O7.rs,Lr,hvar]
  rfl
 | false =>
  push_cast[hvar]
  refine .of hR ?_
  push_cast
  refine .of (Dl (p:=fun v=>!decide (v∈AA [x.left])) (caps:=[.ro [Bo (AA [x.left])] 0]) (fun _=>rfl) _ (by omega) fun v hv=>?_) ?_
  ·refine Ab OL.ok rfl ?_
   push_cast
   refine .of (Pc _ _ (by omega)) ?_
   push_cast
   exact A1 (by push_cast[OL.rs])
  ·push_cast
   refine A1 ?_
   push_cast[O7.rs,Lr,hvar]
   rfl
end Go.Dw
end
namespace Go.Dw
abbrev SI:=List (A9×Nat)
def Lx:SI->A9->Option Nat
 | [],_=>none
 | p::m,n=>if p.1=n then some p.2 else Lx m n
def D5 (m:SI)(u:Term):Option SI:=if u.var then some m else match Lx m u.name with
 | some n=>if n=u.args.length then some m else none
 | none=>some (m++[(u.name,u.args.length)])
def Dk (m:SI):List (List Int×Term)->Option SI
 | []=>some m
 | x::l=>(D5 m x.2).bind fun m'=>Dk m' l
def CF (m:SI):List A2->Option SI
 | []=>some m
 | x::r=>(Dk m (Aq x.left [])).bind fun m1=>(Dk m1 (Aq x.right [])).bind fun m2=>CF m2 r
theorem KE:∀ (a b:List (List Int×Term)) (m:SI),Dk m (a++b)=(Dk m a).bind fun m'=>Dk m' b
 | [],b,m=>rfl
 | x::a,b,m=>by simp only[List.cons_append,Dk];cases D5 m x.2<;>simp[KE a b]
def EX (m:SI):List (V×V):=m.map fun p=>(.str p.1,.int .i64 p.2)
theorem nP {σ:Nat->Option Nat}{m:SI}:((EX m).map fun p=>(ren σ p.1,ren σ p.2))=EX m:=by
 unfold EX;rw[List.map_map];rfl
attribute [push_cast] nP
theorem Pp (n:A9):∀ (m:SI)(i:Nat),match Lx m n with
  | none=>FV (.str n) (EX m) i=some none
  | some a=>∃ j,FV (.str n) (EX m) i=some (some (i+j,.int .i64 a))/\(EX m)[j]?=some (.str n,.int .i64 a)
 | [],i=>rfl
 | p::m,i=>by
  have ih:=Pp n m (i+1)
  unfold Lx
  by_cases h:p.1=n
  ·rw[if_pos h]
   refine⟨0,?_,?_⟩
   ·simp[EX,FV,HP,h]
   ·simp[EX,h]
  ·rw[if_neg h]
   have h':n≠p.1:=fun e=>h e.symm
   have hb:(n==p.1)=false:=by simpa using h'
   have e:∀ (k:Nat) ,FV (.str n) (EX (p::m)) k=FV (.str n) (EX m) (k+1):=fun k=>by simp[EX,FV,HP,hb]
   cases hg:Lx m n with
   | none=>rw[hg]at ih;simp only at ih ⊢;rw[e];exact ih
   | some a =>
    rw[hg]at ih
    obtain⟨j,h1,h2⟩:=ih
    refine⟨j+1,?_,?_⟩
    ·rw[e,h1];congr 3;omega
    ·simp only[EX,List.map_cons,List.getElem?_cons_succ];exact h2
theorem iL (m:SI)(n:A9){H:List Ob}{k:Nat}(hk:H[k]?=some (.map (EX m))):Lq H true true (.int .i64 0) (.map k) (.str n)=some (.tup [.int .i64 ((Lx m n).getD 0:Nat),.bool (Lx m n).isSome]):=by
 have h:=Pp n m 0
 have he:DA H (.map k)=some (EX m):=by simp[DA,hk]
 unfold Lq
 rw[he]
 cases hg:Lx m n with
 | none=>rw[hg]at h;simp only at h;simp[lv,h,N4]
 | some a=>rw[hg]at h;obtain⟨j,h1,h2⟩:=h;simp[lv,h1,N4]
theorem Zy {m m':SI}{u:Term}(hv:u.var=false)(h:D5 m u=some m'):WK (.str u.name) (.int .i64 u.args.length) (EX m)=some (EX m'):=by
 have hf:=Pp u.name m 0
 unfold D5 at h
 rw[hv]at h
 simp only[Bool.false_eq_true,if_false]at h
 unfold WK
 cases hg:Lx m u.name with
 | none =>
  rw[hg]at h hf
  simp only[Option.some.injEq]at h hf
  subst h
  rw[hf];simp[EX]
 | some a =>
  rw[hg]at h hf
  simp only at h
  split at h
  ·rename_i ha
   cases h
   obtain⟨j,h1,h2⟩:=hf
   rw[h1]
   subst ha
   simp only[Nat.zero_add,Option.some.injEq]
   obtain⟨h3,h4⟩:=List.getElem?_eq_some_iff.1 h2
   rw[<-h4,List.set_getElem_self]
  ·cases h
def eC (o:Option SI)(x:V)(H:List Ob):Prop:=match o with
 | none=>x=.tup [.nilm,.bool false]/\H=[]
 | some m=>x=.tup [.map 0,.bool true]/\H=[.map (EX m)]
abbrev arH (m:SI)(l:List Ob):List Ob:=.cells Ih [.nilm]::.cells jg [.bool false]::.map (EX m)::.cells Ih [.map 2]::l
theorem kl {u:Term}{m:SI}{r:List A2}{v24:V}{j k n:Nat}(hs:size u<2^40)(hj:j<2)(hra:∀ σ,ren σ v24=v24)(hix:mP 3 2 (some 3) v24 (.int .i64 j)=some (Ap u))(hnone:Dk m (Aq u [])=none->CF [] r=none)
  (hsome:∀ m',Dk m (Aq u [])=some m'->Eg.L6 (.ptr 0 0) (.ptr 1 0) (.ptr 3 0) .any (Ak r) (.int .i64 n) (.int .i64 k) v24 (.int .i64 (j+1:Nat)) 0 (arH m' [.dead]) (Bx 0 Eg.rs (eC (CF [] r)))) :
  Eg.L6 (.ptr 0 0) (.ptr 1 0) (.ptr 3 0) .any (Ak r) (.int .i64 n) (.int .i64 k) v24 (.int .i64 j) 0 (arH m [.dead]) (Bx 0 Eg.rs (eC (CF [] r))):=by
 have hj2:((j:Int)<2)=True:=eq_true (by omega)
 refine A8.2 ?_
 push_cast[hj2,hix]
 refine .of (Mp _) ?_
 push_cast
 refine AB.rf Dd [] [.ro (cT u) 0] ((Aq u []).map Kn) (fun i H1=>∃ m',Dk m ((Aq u []).take i)=some m'/\H1=arH m' [.dead,.dead]) (fun e H1=>e=.ret/\Dk m (Aq u [])=none/\∃ m',H1=arH m' [.dead,.dead]) rfl (Ib u hs) ?_ ⟨m,rfl,rfl⟩ ?_ ?_ ?_ ?_ ?_ ?_
 ·intro it hit
  obtain⟨x,_,rfl⟩:=List.mem_map.1 hit
  rfl
 ·push_cast[hra]
 ·rintro i H1 ⟨m',_,rfl⟩
  refine⟨rfl,?_⟩
  push_cast
 ·rintro i H1 ⟨_,_,m',rfl⟩
  refine⟨rfl,?_⟩
  push_cast
 ·rintro lo rr i it H1 hit ⟨m',hm',rfl⟩
  rw[List.getElem?_map]at hit
  cases hx:(Aq u [])[i]? with
  | none=>rw[hx]at hit;cases hit
  | some x =>
  rw[hx]at hit
  have hit:it=Kn x:=by simpa using hit.symm
  subst hit
  have hi:i<(Aq u []).length:=(List.getElem?_eq_some_iff.1 hx).1
  have hxi:(Aq u [])[i]=x:=(List.getElem?_eq_some_iff.1 hx).2
  have htk:(Aq u []).take (i+1)=(Aq u []).take i++[x]:=by rw[List.take_succ_eq_append_getElem hi,hxi]
  have hst:Dk m ((Aq u []).take (i+1))=D5 m' x.2:=by rw[htk,KE,hm'];simp[Dk]
  have hlk:∀ (a b:Ob) l,Lq (a::b::.map (EX m')::l) true true (.int .i64 0) (.map 2) (.str x.2.name)=some (.tup [.int .i64 ((Lx m' x.2.name).getD 0:Nat),.bool (Lx m' x.2.name).isSome]):=fun a b l=>iL m' _ rfl
  push_cast[Q4,Kn]
  refine A8.2 ?_
  cases hv:x.2.var with
  | true =>
   have hst2:D5 m' x.2=some m':=by unfold D5;rw[hv];rfl
   push_cast[hv]
   refine⟨rfl,?_⟩
   refine⟨m',by rw[hst,hst2],?_⟩
   push_cast[cut]
  | false =>
   cases hg:Lx m' x.2.name with
   | none =>
    have hst2:D5 m' x.2=some (m'++[(x.2.name,x.2.args.length)]):=by unfold D5;rw[hv,hg];rfl
    have hup:=Zy hv hst2
    push_cast[hv,hlk,hg,Option.isSome_none,hup,lv]
    refine⟨rfl,?_⟩
    refine⟨_,by rw[hst,hst2],?_⟩
    push_cast[cut]
   | some a =>
    by_cases ha:a=x.2.args.length
    ·have hst2:D5 m' x.2=some m':=by unfold D5;rw[hv,hg];simp[ha]
     have hup:=Zy hv hst2
     have ha':((a:Int)=(x.2.args.length:Int))=True:=eq_true (by omega)
     push_cast[hv,hlk,hg,Option.isSome_some,Option.getD_some,ha',hup,lv]
     refine⟨rfl,?_⟩
     refine⟨_,by rw[hst,hst2],?_⟩
     push_cast[cut]
    ·have hst2:D5 m' x.2=none:=by unfold D5;rw[hv,hg];simp[ha]
     have ha':((a:Int)=(x.2.args.length:Int))=False:=eq_false (by omega)
     push_cast[hv,hlk,hg,Option.isSome_some,Option.getD_some,ha',lv]
     refine⟨rfl,?_⟩
     have hall:Dk m (Aq u [])=none:=by
      have:Aq u []=(Aq u []).take (i+1)++(Aq u []).drop (i+1):=(List.take_append_drop _ _).symm
      rw[this,KE,hst,hst2];rfl
     refine⟨rfl,hall,m',?_⟩
     push_cast[cut]
 ·rintro H1 ⟨m',hm',rfl⟩
  rw[List.length_map,List.take_length]at hm'
  have:=hsome m' hm'
  push_cast[hra,CV (show j<2^62 by omega)]
  push_cast at this
  exact this
 ·rintro e H1 ⟨rfl,hn,m',rfl⟩
  simp only[eB]
  push_cast
  rw[hnone hn]
  exact fW (.inl rfl) rfl ⟨rfl,rfl⟩
theorem XM (r:List A2)(hs:KZ r<2^40):Spec prog Is [Ak r] [] (eC (CF [] r)):=by
 have hl:=Bh r
 refine AK mixed Eg.ok rfl ?_
 push_cast
 refine Ad (n:=r.length) (R:=fun k=>∀ m,CF m (r.drop k)=CF [] r->Eg.L8 (.ptr 0 0) (.ptr 1 0) (.ptr 3 0) .any (Ak r) (.int .i64 r.length) (.int .i64 k) 0 (arH m []) (Bx 0 Eg.rs (eC (CF [] r)))) ?_ ?_ 0 (by omega) [] rfl
 ·intro k hk ih m hm
  have hmm:=FQ (A4 hk)
  rw[Al hk]at hm
  refine A8.2 ?_
  generalize hx:r.getD k default=x at hm hmm
  have h1:=AS x.left
  have h2:=AS x.right
  simp only[CF]at hm
  have hr24:∀ σ,AR σ (cT x.left++cT x.right)=cT x.left++cT x.right:=fun σ=>rfl
  push_cast[BT hk,hx,hr24]
  refine kl (j:=0) (u:=x.left) (by omega) (by omega) (fun σ=>by rw[Gz,hr24]) rfl (fun h=>by rw[<-hm,h];rfl) fun m1 hm1=>?_
  rw[hm1,Option.bind_some]at hm
  refine kl (j:=1) (u:=x.right) (by omega) (by omega) (fun σ=>by rw[Gz,hr24]) rfl (fun h=>by rw[<-hm,h];rfl) fun m2 hm2=>?_
  rw[hm2,Option.bind_some]at hm
  refine A8.2 ?_
  push_cast[CV (show k<2^62 by omega)]
  exact ih m2 hm
 ·intro m hm
  refine A8.2 ?_
  push_cast[B8 (Nat.le_refl _)]
  rw[Ao]at hm
  rw[<-hm]
  refine SD 2 rfl rfl ⟨rfl,?_⟩
  push_cast
end Go.Dw
section
namespace Go.Dw
def marked (n:A9):Bool:=Ia n [35]
def Am (r:List A2):Int:=if Bl r≠0 then Bl r else match CF [] r with
 | none=>6
 | some m=>if m.any (fun p=>marked p.1) then 6 else if r.any Lr then 7 else 0
theorem tY {n:Nat}{seen:List Nat}{k:Nat}(hm:n<=seen.length)(hnd:seen.Nodup)(hlt:∀ i∈seen,i<n)(hk:k∉seen)(hkn:k<n):False:=by
 have h1:(seen++[k]).Nodup:=by simp[List.nodup_append,hnd];intro a ha e;exact hk (e▸ha)
 have h2:(seen++[k]).length<=(List.range n).length:=List.Nodup.length_le_of_subset h1 (by
  intro i hi
  rw[List.mem_range]
  rcases List.mem_append.1 hi with h | h
  ·exact hlt i h
  ·simp only[List.mem_singleton]at h;subst h;exact hkn)
 simp at h2;omega
theorem lR {n:Nat}{seen:List Nat}{k:Nat}(hnd:seen.Nodup)(hlt:∀ i∈seen,i<n)(hk:k∉seen)(hkn:k<n):(seen++[k]).Nodup/\∀ i∈seen++[k],i<n:=by
 refine⟨by simp[List.nodup_append,hnd];intro a ha e;exact hk (e▸ha),fun i hi=>?_⟩
 rcases List.mem_append.1 hi with h | h
 ·exact hlt i h
 ·simp only[List.mem_singleton]at h;subst h;exact hkn
theorem RU (r:List A2)(hs:KZ r<2^38)(hn:∀ m,CF [] r=some m->∀ p∈m,p.1.length<2^62):PF DX [Ak r] (.int .i64 (Am r)):=by
 have hl:=Bh r
 refine Ab Ct.ok rfl ?_
 push_cast
 refine .of (T1 r (by omega)) ?_
 unfold Am
 by_cases h1:Bl r=0
 ·rw[if_neg (by simpa using h1)]
  push_cast[h1]
  refine By.all (show GP prog (.func Is) [Ak r] [] (eC (CF [] r)) from Be▸XM r (by omega)) ?_
  intro x H' h
  cases hr:CF [] r with
  | none =>
   rw[hr]at h
   obtain⟨rfl,rfl⟩:=h
   push_cast
   refine A1 ?_
   push_cast[Ct.rs]
  | some m =>
   have hnm:=hn m hr
   rw[hr]at h
   obtain⟨rfl,rfl⟩:=h
   push_cast
   have hlen:(EX m).length=m.length:=by unfold EX;rw[List.length_map]
   rw[hlen]
   have key:∀ (f:Nat)(seen:List Nat),m.length-seen.length<f->seen.Nodup->(∀ i∈seen,i<m.length)->(∀ i∈seen,marked (m.getD i default).1=false)->Ct.L4 (Ak r) (.it 1) 0
     [.map (EX m),.iter (some 0) m.length seen] (Bx 0 Ct.rs fun x' H'=>x'=.int .i64 (if m.any (fun p=>marked p.1) then 6 else if r.any Lr then 7 else 0)/\H'=[]):=by
    intro f
    induction f with
    | zero =>
     intro seen hm hnd hlt hun
     omega
    | succ f ih =>
     intro seen hm hnd hlt hun
     refine A8.2 ?_
     push_cast
     refine be 0 m.length seen (EX m) rfl rfl hlen.symm (fun hall=>?_) (fun k p hp hk=>?_)
     ·have hany:m.any (fun p=>marked p.1)=false:=by
       rw[List.any_eq_false]
       intro p hp
       obtain⟨i,hi,rfl⟩:=List.getElem_of_mem hp
       have:=hun i (hall i hi)
       simp only[List.getD_eq_getElem?_getD,hi,List.getElem?_eq_getElem,Option.getD_some]at this
       simp[this]
      push_cast[hany]
      refine .of (E5 (p:=Lr) (g:=Kw) (caps:=[]) (fun _=>rfl) r (by omega) fun x hx=>ce x (by have:=FQ hx;omega)) ?_
      push_cast
      refine⟨fun h=>A1 ?_,fun h=>A1 ?_⟩<;>push_cast[Ct.rs,h]
     ·have hkl:k<m.length:=by rw[<-hlen];exact (List.getElem?_eq_some_iff.1 hp).1
      have hpe:p=(.str (m.getD k default).1,.int .i64 (m.getD k default).2):=by
       unfold EX at hp
       rw[List.getElem?_map]at hp
       simp[hkl]at hp
       rw[<-hp];simp[List.getD_eq_getElem?_getD,hkl]
      have hen:vy [.map (EX m),.iter (some 0) m.length (seen++[k])] (.it 1)=some (.tup [p.1,p.2]):=by
       simp[vy,hlen,hp]
      subst hpe
      have hmem:m.getD k default∈m:=A4 hkl
      push_cast[hen]
      refine .of (YH _ (hnm _ hmem)) ?_
      cases hmk:marked (m.getD k default).1 with
      | true =>
       have hany:m.any (fun p=>marked p.1)=true:=List.any_eq_true.2 ⟨_,hmem,hmk⟩
       unfold marked at hmk
       push_cast[hmk]
       refine A1 ?_
       push_cast[Ct.rs,hany]
      | false =>
       have h2:=lR hnd hlt hk hkl
       have hlt':seen.length<m.length:=by
        rcases Nat.lt_or_ge seen.length m.length with h | h
        ·exact h
        ·exact (tY h hnd hlt hk hkl).elim
       have:=ih (seen++[k]) (by simp;omega) h2.1 h2.2 (fun i hi=>by
        rcases List.mem_append.1 hi with h | h
        ·exact hun i h
        ·simp only[List.mem_singleton]at h;subst h;exact hmk)
       unfold marked at hmk
       push_cast[hmk]
       exact this
   exact key (m.length+1) [] (by simp) List.nodup_nil (by simp) (by simp)
 ·rw[if_pos h1]
  push_cast[h1]
  refine A1 ?_
  push_cast[Ct.rs]
end Go.Dw
end
section
namespace Go.Proofs
open Go.Shelf Go.RowKit Go.Lib
theorem Ho {P:Program}(w:World)(dT sT ty elem:TypeId)(b o dLen dCap:Nat)(a:Addr)(sLen sCap z:Nat)(cs:List Value)
  (hu:P.underlying dT=some (.slice elem)) (hs:(P.info? elem).map (·.size)=some z) (hn:cs.length=Nat.min sLen dLen*z)
  (hsrc:∀ j v,cs[j]?=some v->w.cell? (a.add j)=some v) (hc:∀ j,j<cs.length->(w.cell? ⟨b,o+j,none⟩).isSome=true) (hf:∀ j,j<cs.length->w.frozen? ⟨b,o+j,none⟩=false) (h1:∀ v∈cs,v.oneCell'=true) :
  (Builtin.copy_ #[dT,sT] ty #[.slice (some ⟨b,o,none⟩) dLen dCap,.slice (some a) sLen sCap]).run P w=.ok (goInt (Nat.min sLen dLen)) (w.setCells b o cs):=by
 have hl:=run_loadCells_list (P:=P) w a cs hsrc
 have hst:=run_storeCells_cells (P:=P) b o cs 0 w (by simpa using hc) (by simpa using hf) h1
 cases hq:P.info? elem with
 | none=>simp[hq]at hs
 | some i =>
  have hi:i.size=z:=by simpa[hq]using hs
  simp[Builtin.copy_,run_underlying hu,Builtin.lenOf,Builtin.firstCells,sizeOf,typeInfo,hq,hi,<-hn,hl,hst]
theorem Tryz.bind_size:(Tryz.prog.info? 148).map (·.size)=some 4:=by kernel_rfl
set_option maxHeartbeats 4000000 in
set_option maxRecDepth 100000 in
theorem Tryz.ins_shift (b n c i vb vc:Nat)(cs vs:List Value)(w:World)(hi:i<n)(hroom:n+1<=c)(hc63:c<=9223372036854775807)(hvb:vb≠b)
  (hcl:cs.length=n*4) (hvl:vs.length=4)
  (hcs:∀ j v,cs[j]?=some v->w.cell? ⟨b,j,none⟩=some v) (hsp:∀ j,j<(n+1)*4->(w.cell? ⟨b,j,none⟩).isSome=true) (hfz:∀ j,j<(n+1)*4->w.frozen? ⟨b,j,none⟩=false)
  (hvs:∀ j v,vs[j]?=some v->w.cell? ⟨vb,j,none⟩=some v) (h1c:∀ v∈cs,v.oneCell'=true) (h1v:∀ v∈vs,v.oneCell'=true)
  (tA tB:TypeId) (kA kB:Nat) (hsa:w.shape? vb=some (tA,kA)) (hsb:w.shape? b=some (tB,kB)) (hkB:kB≠0) (hfa:w.frozen? ⟨vb,0,none⟩=false) (hfe:w.frozen? ⟨vb,kA,none⟩=false) :
  Calls Tryz.prog 297 #[.slice (some ⟨b,0,none⟩) n c,.int .i64 i,.slice (some ⟨vb,0,none⟩) 1 vc] w fun e w' =>
   e=.returned (.slice (some ⟨b,0,none⟩) (n+1) c)/\w'=(w.drew.setCells b ((i+1)*4) (cs.drop (i*4))).setCells b (i*4) vs:=by
 have hz2:¬ ((i:Int)=(n:Int)):=by omega
 have hsz:=Tryz.bind_size
 have hov:∀ lb cb,(callFunc 308 #[.slice (some ⟨vb,0,none⟩) 1 vc,.slice (some ⟨b,(i+1)*4,none⟩) lb cb]).run Tryz.prog w=.ok (.value (.bool false)) w:=fun lb cb=>by
  rw[run_callFunc_extern Tryz.func308 (by kernel_rfl) (by kernel_rfl) (by kernel_rfl) (e:=Extern.SlicesOverlaps.overlaps #[144,144] #[4]) (by kernel_rfl),
   Lib.run_overlaps_apart w 144 4 148 Tryz.underlying144 4 Tryz.sizeOf148 ⟨vb,0,none⟩ ⟨b,(i+1)*4,none⟩ 1 vc lb cb hvb tA tB kA kB hsa hsb hkB hfa hfe]
  rfl
 have hdl:(cs.drop (i*4)).length=(n-i)*4:=by rw[List.length_drop,hcl];omega
 have hw1:IntKind.i64.wrap ((i:Int)+1)=(i:Int)+1:=by rw[IntKind.wrap_i64];omega
 have mixed:=Go.Dw.mixed
 have hb1:(0:Int)<=(i:Int)+1:=by omega
 have hin:i<=n:=by omega
 have htn:((i:Int)+1).toNat=i+1:=by omega
 have hb2:¬ (c=i+1):=by omega
 have hb3:(i:Int)<=(n:Int)+1:=by omega
 have hb4:¬ (c=i):=by omega
 have hcp1:∀ ty dc sc,(Builtin.copy_ #[144,144] ty #[.slice (some ⟨b,(i+1)*4,none⟩) (n-i) dc,.slice (some ⟨b,i*4,none⟩) (n+1-i) sc]).run Tryz.prog w.drew=.ok (goInt (Nat.min (n+1-i) (n-i))) (w.drew.setCells b ((i+1)*4) (cs.drop (i*4))):=fun ty dc sc =>
  Ho w.drew _ _ ty 148 b ((i+1)*4) (n-i) dc ⟨b,i*4,none⟩ (n+1-i) sc 4 (cs.drop (i*4)) Tryz.underlying144 hsz (by rw[hdl];simp only[Nat.min_def];split<;>omega)
   (fun j v hj=>by rw[Addr.add_lit];exact hcs (i*4+j) v (by rwa [List.getElem?_drop]at hj))
   (fun j hj=>hsp _ (by omega)) (fun j hj=>hfz _ (by omega)) (fun v hv=>h1c v (List.mem_of_mem_drop hv))
 obtain⟨W1,hW1⟩:∃ W1,W1=w.drew.setCells b ((i+1)*4) (cs.drop (i*4)):=⟨_,rfl⟩
 have hsp1:∀ k,k<(n+1)*4->(W1.cell? ⟨b,k,none⟩).isSome=true:=fun k hk=>by
  rw[hW1]
  exact isSome_setCells b _ _ w.drew (fun j hj=>hsp ((i+1)*4+j) (by rw[hdl]at hj;omega)) _ (hsp k hk)
 have hcp2:∀ (W:World),(∀ x,W.cell? x=W1.cell? x)->(∀ x,W.frozen? x=W1.frozen? x)->∀ ty dc,(Builtin.copy_ #[144,144] ty #[.slice (some ⟨b,i*4,none⟩) (n+1-i) dc,.slice (some ⟨vb,0,none⟩) 1 vc]).run Tryz.prog W=.ok (goInt (Nat.min 1 (n+1-i))) (W.setCells b (i*4) vs):=fun W hWc hWf ty dc =>
  Ho W _ _ ty 148 b (i*4) (n+1-i) dc ⟨vb,0,none⟩ 1 vc 4 vs Tryz.underlying144 hsz (by rw[hvl];simp only[Nat.min_def];split<;>omega)
   (fun j v hj=>by
    rw[Addr.add_lit,hWc,hW1,World.cell?_setCells_out b _ _ _ _ (fun h _=>absurd h hvb),Nat.zero_add]
    exact hvs j v hj)
   (fun j hj=>by rw[hWc];exact hsp1 _ (by omega)) (fun j hj=>by rw[hWf,hW1,World.frozen?_setCells];exact hfz _ (by omega)) h1v
 rw[<-hW1]at hcp1
 go_enter Tryz.func297,Tryz.ntmps297
 go_wp2_with (simp only[hov])
 go_region_law_o (refine step_copy_runI rfl _ _ 144 144 rfl _ _ (by simp[Act.eval,Act.put]) (by simp[Act.eval,Act.put]) (hcp1 _ _ _) ?_)
 go_wp2_with (at_builtin;refine wpList_copy_runI _ rfl _ _ 144 144 rfl _ _ rfl rfl (hcp2 _ (fun _=>rfl) (fun _=>rfl) _ _) ?_)
 go_ret
 first | exact⟨rfl,rfl⟩ | exact⟨rfl,by rw[hW1]⟩
end Go.Proofs
end
section
namespace Go.Proofs
open Go.Shelf Go.RowKit Go.Lib
def IQ:Value:=.agg #[.string ⟨#[]⟩,.string ⟨#[]⟩,.bool false,.slice none 0 0]
theorem Tryz.bind_info:(Tryz.prog.info? 148).map (fun i=>(i.zero,i.size,i.bytes))=some (some IQ,4,64):=by kernel_rfl
theorem Gh (cs:Array Value)(k:Nat):(Builtin.zeroCells cs k).size=k*cs.size:=by
 simp[Builtin.zeroCells]
set_option maxHeartbeats 4000000 in
set_option maxRecDepth 100000 in
theorem Tryz.ins_grow (b n c i vb vc:Nat)(cs vs:List Value)(w:World)(hi:i<n)(hnc:n<=c)(hroom:c<n+1)(hbig:(n+1)*64<=140737488355328)
  (hcl:cs.length=n*4) (hvl:vs.length=4)
  (hcs:∀ j v,cs[j]?=some v->w.cell? ⟨b,j,none⟩=some v)
  (hvs:∀ j v,vs[j]?=some v->w.cell? ⟨vb,j,none⟩=some v) (h1c:∀ v∈cs,v.oneCell'=true) (h1v:∀ v∈vs,v.oneCell'=true) :
  Calls Tryz.prog 297 #[.slice (some ⟨b,0,none⟩) n c,.int .i64 i,.slice (some ⟨vb,0,none⟩) 1 vc] w fun e w' =>
   e=.returned (.slice (some ⟨w.heap.size,0,none⟩) (n+1) (grownCap w (n+1) c 148)) /\
   w'=(((w.alloc (.cells ((cs.take (i*4)).toArray++Builtin.zeroCells IQ.cells (n+1-i)++Builtin.zeroCells IQ.cells (grownCap w (n+1) c 148-(n+1))) 148)).drew.setCells w.heap.size (i*4) vs).drew).setCells w.heap.size ((i+1)*4) (cs.drop (i*4)):=by
 have mixed:=Go.Dw.mixed
 obtain⟨i0,hi0,hz0,hzs,hzb⟩:=info_parts Tryz.bind_info
 have hz2:¬ ((i:Int)=(n:Int)):=by omega
 have hz3:(c:Int)<(n:Int)+1:=by omega
 have hsz:=Tryz.bind_size
 have hbw:b<w.heap.size:=block_lt_of_cell (hcs 0 _ (List.getElem?_eq_getElem (by omega)))
 have hvw:vb<w.heap.size:=block_lt_of_cell (hvs 0 _ (List.getElem?_eq_getElem (by omega)))
 have hkk:(n:Int)+1-(i:Int)=((n+1-i:Nat):Int):=by omega
 have hik:i+(n+1-i)=n+1:=by omega
 have hold:(Builtin.firstCells i0.size i (.slice (some ⟨b,0,none⟩) i c)).run Tryz.prog w.drew=.ok (cs.take (i*4)).toArray w.drew:=by
  rw[hzs]
  exact run_firstCells_some w.drew 4 i ⟨b,0,none⟩ i c (cs.take (i*4)) (by rw[List.length_take];omega) (fun j v hj=>by
   rw[Addr.add_lit,Nat.zero_add]
   rw[List.getElem?_take]at hj
   split at hj
   ·exact hcs j v hj
   ·cases hj)
 have hrz:∀ ty,(Builtin.append_ #[144,3] ty #[.slice (some ⟨b,0,none⟩) i c,.int .i64 ((n:Int)+1-(i:Int))]).run Tryz.prog w =
   .ok (.slice (some ⟨w.heap.size,0,none⟩) (n+1) (grownCap w (n+1) c 148)) (w.drew.alloc (.cells ((cs.take (i*4)).toArray++Builtin.zeroCells IQ.cells (n+1-i)++Builtin.zeroCells IQ.cells (grownCap w (n+1) c 148-(n+1))) 148)):=fun ty=>by
  have h:=Lib.run_append_grow_zeros w 144 3 ty 148 i0 _ .i64 .i64 Tryz.underlying144 Tryz.underlying3 hi0 hz0 (some ⟨b,0,none⟩) i c (cs.take (i*4)) hold (n+1-i) (by omega) (by omega) (by omega) (by omega) (by rw[hzb];omega) (by rw[hzb,hik];exact growslice_fits hroom hbig)
  rw[hik]at h
  rw[hkk]
  exact h
 obtain⟨G,hG⟩:∃ G,G=grownCap w (n+1) c 148:=⟨_,rfl⟩
 obtain⟨ROW,hROW⟩:∃ ROW:Array Value,ROW=(cs.take (i*4)).toArray++Builtin.zeroCells IQ.cells (n+1-i)++Builtin.zeroCells IQ.cells (G-(n+1)):=⟨_,rfl⟩
 rw[<-hG]at hrz ⊢
 rw[<-hROW]at hrz ⊢
 have hRl:(n+1)*4<=ROW.size:=by
  rw[hROW]
  have hzc:IQ.cells.size=4:=rfl
  simp only[Array.size_append,Gh,hzc,List.size_toArray,List.length_take,hcl]
  omega
 obtain⟨W1,hW1⟩:∃ W1,W1=w.drew.alloc (.cells ROW 148):=⟨_,rfl⟩
 rw[<-hW1]at hrz
 have hN:∀ j,j<(n+1)*4->(W1.cell? ⟨w.heap.size,j,none⟩).isSome=true:=fun j hj=>by
  rw[hW1,World.cell?_alloc_at (w:=w.drew) ROW _ w.heap.size j rfl,Array.getElem?_eq_getElem (by omega)];rfl
 have hNf:∀ j,W1.frozen? ⟨w.heap.size,j,none⟩=false:=fun j=>by rw[hW1];exact World.frozen?_alloc_at (w:=w.drew) ROW _ w.heap.size j rfl
 have hOb:∀ j v,w.cell? ⟨b,j,none⟩=some v->W1.cell? ⟨b,j,none⟩=some v:=fun j v h=>by rw[hW1,World.cell?_alloc_past (w:=w.drew) _ b j hbw];exact h
 have hOv:∀ j v,w.cell? ⟨vb,j,none⟩=some v->W1.cell? ⟨vb,j,none⟩=some v:=fun j v h=>by rw[hW1,World.cell?_alloc_past (w:=w.drew) _ vb j hvw];exact h
 have hcpA:∀ (W:World),(∀ x,W.cell? x=W1.cell? x)->(∀ x,W.frozen? x=W1.frozen? x)->∀ ty dc,(Builtin.copy_ #[144,144] ty #[.slice (some ⟨w.heap.size,i*4,none⟩) (n+1-i) dc,.slice (some ⟨vb,0,none⟩) 1 vc]).run Tryz.prog W=.ok (goInt (Nat.min 1 (n+1-i))) (W.setCells w.heap.size (i*4) vs):=fun W hWc hWf ty dc =>
  Ho W _ _ ty 148 w.heap.size (i*4) (n+1-i) dc ⟨vb,0,none⟩ 1 vc 4 vs Tryz.underlying144 hsz (by rw[hvl];simp only[Nat.min_def];split<;>omega)
   (fun j v hj=>by rw[Addr.add_lit,hWc,Nat.zero_add];exact hOv _ v (hvs j v hj))
   (fun j hj=>by rw[hWc];exact hN _ (by omega)) (fun j hj=>by rw[hWf];exact hNf _) h1v
 have hGn:n+1<=G:=by rw[hG];exact grownCap_ge w _ _ _
 have hG63:G<=9223372036854775807:=by
  have:=grownCap_le_maxLen w (n+1) c 148 (by unfold maxLen;omega)
  rw[<-hG]at this
  unfold maxLen at this
  omega
 have hGi:¬ (G=i):=by omega
 have hGim:¬ (G=i+1):=by omega
 have hci:¬ (c=i):=by omega
 have hbN:b≠w.heap.size:=by omega
 have hdl:(cs.drop (i*4)).length=(n-i)*4:=by rw[List.length_drop,hcl];omega
 have hcpB:∀ (W:World),(∀ x,W.cell? x=(W1.setCells w.heap.size (i*4) vs).cell? x)->(∀ x,W.frozen? x=(W1.setCells w.heap.size (i*4) vs).frozen? x)->∀ ty dc sc,(Builtin.copy_ #[144,144] ty #[.slice (some ⟨w.heap.size,(i+1)*4,none⟩) (n-i) dc,.slice (some ⟨b,i*4,none⟩) (n-i) sc]).run Tryz.prog W=.ok (goInt (Nat.min (n-i) (n-i))) (W.setCells w.heap.size ((i+1)*4) (cs.drop (i*4))):=fun W hWc hWf ty dc sc =>
  Ho W _ _ ty 148 w.heap.size ((i+1)*4) (n-i) dc ⟨b,i*4,none⟩ (n-i) sc 4 (cs.drop (i*4)) Tryz.underlying144 hsz (by rw[hdl];simp only[Nat.min_def];split<;>omega)
   (fun j v hj=>by
    rw[Addr.add_lit,hWc,World.cell?_setCells_out _ _ _ _ _ (fun h _=>absurd h hbN)]
    exact hOb _ v (hcs (i*4+j) v (by rwa [List.getElem?_drop]at hj)))
   (fun j hj=>by rw[hWc];exact isSome_setCells _ _ _ W1 (fun t ht=>hN (i*4+t) (by omega)) _ (hN ((i+1)*4+j) (by omega)))
   (fun j hj=>by rw[hWf,World.frozen?_setCells];exact hNf _) (fun v hv=>h1c v (List.mem_of_mem_drop hv))
 subst hW1
 have hE1:∀ x,((w.alloc (.cells ROW 148)).drew).cell? x=(w.drew.alloc (.cells ROW 148)).cell? x:=fun x=>rfl
 have hE2:∀ x,((w.alloc (.cells ROW 148)).drew).frozen? x=(w.drew.alloc (.cells ROW 148)).frozen? x:=fun x=>rfl
 have hF1:∀ x,(((w.alloc (.cells ROW 148)).drew.setCells w.heap.size (i*4) vs).drew).cell? x=((w.drew.alloc (.cells ROW 148)).setCells w.heap.size (i*4) vs).cell? x:=fun x=>rfl
 have hF2:∀ x,(((w.alloc (.cells ROW 148)).drew.setCells w.heap.size (i*4) vs).drew).frozen? x=((w.drew.alloc (.cells ROW 148)).setCells w.heap.size (i*4) vs).frozen? x:=fun x=>rfl
 have hw1:IntKind.i64.wrap ((i:Int)+1)=(i:Int)+1:=by rw[IntKind.wrap_i64];omega
 have hb1:(0:Int)<=(i:Int)+1:=by omega
 have hin:i<=n:=by omega
 have htn:((i:Int)+1).toNat=i+1:=by omega
 have hb3:(i:Int)<=(n:Int):=by omega
 clear hkk hik hold hROW hG hRl
 go_enter Tryz.func297,Tryz.ntmps297
 go_wp2_with (first
  | (at_builtin;refine Lib.wpList_append_run _ rfl _ _ _ _ rfl _ _ rfl rfl _ _ (hrz _) ?_)
  | (at_builtin;refine wpList_copy_runI _ rfl _ _ 144 144 rfl _ _ rfl rfl (hcpA _ hE1 hE2 _ _) ?_)
  | (at_builtin;refine wpList_copy_runI _ rfl _ _ 144 144 rfl _ _ rfl rfl (hcpB _ (fun _=>rfl) (fun _=>rfl) _ _ _) ?_))
 go_region_law_o (refine step_copy_runI rfl _ _ 144 144 rfl (.slice (some ⟨w.heap.size,(i+1)*4,none⟩) (n-i) (G-(i+1))) (.slice (some ⟨b,i*4,none⟩) (n-i) (c-i)) (by simp[Act.eval,Act.put]) (by simp[Act.eval,Act.put]) (hcpB _ hF1 hF2 3 (G-(i+1)) (c-i)) ?_)
 go_wp2
 go_ret
 exact⟨rfl,rfl⟩
end Go.Proofs
end
section
namespace Go.Proofs
open Go.Shelf Go.RowKit Go.Lib
set_option maxHeartbeats 4000000 in
set_option maxRecDepth 100000 in
theorem Tryz.ins_end_grow (base:Option Addr)(n c vb vc:Nat)(cs vs:List Value)(w:World)(hnc:n<=c)(hroom:c<n+1)(hbig:(n+1)*64<=140737488355328)
  (hcl:cs.length=n*4) (hvl:vs.length=4) (hnil:base=none->n=0)
  (hcs:∀ a,base=some a->∀ j v,cs[j]?=some v->w.cell? (a.add j)=some v)
  (hvs:∀ j v,vs[j]?=some v->w.cell? ⟨vb,j,none⟩=some v) (h1v:∀ v∈vs,v.oneCell'=true) :
  Calls Tryz.prog 297 #[.slice base n c,.int .i64 n,.slice (some ⟨vb,0,none⟩) 1 vc] w fun e w' =>
   e=.returned (.slice (some ⟨w.heap.size,0,none⟩) (n+1) (grownCap w (n+1) c 148)) /\
   w'=w.drew.alloc (.cells ((cs++vs).toArray++Builtin.zeroCells IQ.cells (grownCap w (n+1) c 148-(n+1))) 148):=by
 have mixed:=Go.Dw.mixed
 obtain⟨i0,hi0,hz0,hzs,hzb⟩:=info_parts Tryz.bind_info
 have hsrc:Src Tryz.prog i0.size 144 (.slice (some ⟨vb,0,none⟩) 1 vc) 1 vs w:=by
  rw[hzs]
  exact Src.ofSlice w Tryz.underlying144 ⟨vb,0,none⟩ 1 vc vs (by omega) (fun j u hj=>by rw[Addr.add_lit,Nat.zero_add];exact hvs j u hj) h1v
 have hold:(Builtin.firstCells i0.size n (.slice base n c)).run Tryz.prog w.drew=.ok cs.toArray w.drew:=by
  rw[hzs]
  cases base with
  | none =>
   have h0:=hnil rfl
   subst h0
   have hc0:cs=[]:=List.length_eq_zero_iff.1 (by omega)
   rw[hc0]
   exact run_firstCells_none w.drew 4 0 0 c
  | some a=>exact run_firstCells_some w.drew 4 n a n c cs (by omega) (fun j v hj=>hcs a rfl j v hj)
 have hrun:∀ ty,(Builtin.append_ #[144,144] ty #[.slice base n c,.slice (some ⟨vb,0,none⟩) 1 vc]).run Tryz.prog w=.ok (.slice (some ⟨w.heap.size,0,none⟩) (n+1) (grownCap w (n+1) c 148)) (w.drew.alloc (.cells ((cs++vs).toArray++Builtin.zeroCells IQ.cells (grownCap w (n+1) c 148-(n+1))) 148)):=fun ty =>
  run_append_grow_src w 144 144 ty 148 i0 IQ Tryz.underlying144 hi0 hz0 base n c cs hold _ 1 vs hsrc hroom (by omega) (by rw[hzb];exact growslice_fits hroom hbig)
 obtain⟨ROW,hROW⟩:∃ ROW:Array Value,ROW=(cs++vs).toArray++Builtin.zeroCells IQ.cells (grownCap w (n+1) c 148-(n+1)):=⟨_,rfl⟩
 rw[<-hROW]at hrun ⊢
 clear hROW
 go_enter Tryz.func297,Tryz.ntmps297
 cases base with
 | none =>
  have h0:=hnil rfl
  subst h0
  go_wp2_with (at_builtin;refine Lib.wpList_append_run _ rfl _ _ _ _ rfl _ _ rfl rfl _ _ (hrun _) ?_)
  go_ret
  exact⟨rfl,rfl⟩
 | some a =>
  obtain⟨ab,ao,asp⟩:=a
  go_wp2_with (at_builtin;refine Lib.wpList_append_run _ rfl _ _ _ _ rfl _ _ rfl rfl _ _ (hrun _) ?_)
  all_goals (go_ret;exact⟨rfl,rfl⟩)
set_option maxHeartbeats 4000000 in
set_option maxRecDepth 100000 in
theorem Tryz.ins_end_room (b n c vb vc:Nat)(vs:List Value)(w:World)(hroom:n+1<=c)(hc63:c<=9223372036854775807)
  (hvl:vs.length=4) (hsp:∀ j,j<4->(w.cell? ⟨b,n*4+j,none⟩).isSome=true) (hfz:∀ j,j<4->w.frozen? ⟨b,n*4+j,none⟩=false)
  (hvs:∀ j v,vs[j]?=some v->w.cell? ⟨vb,j,none⟩=some v) (h1v:∀ v∈vs,v.oneCell'=true) :
  Calls Tryz.prog 297 #[.slice (some ⟨b,0,none⟩) n c,.int .i64 n,.slice (some ⟨vb,0,none⟩) 1 vc] w fun e w' =>
   e=.returned (.slice (some ⟨b,0,none⟩) (n+1) c)/\w'=w.setCells b (n*4) vs:=by
 have mixed:=Go.Dw.mixed
 obtain⟨i0,hi0,hz0,hzs,hzb⟩:=info_parts Tryz.bind_info
 have hrun:∀ ty,(Builtin.append_ #[144,144] ty #[.slice (some ⟨b,0,none⟩) n c,.slice (some ⟨vb,0,none⟩) 1 vc]).run Tryz.prog w=.ok (.slice (some ⟨b,0,none⟩) (n+1) c) (w.setCells b (n*4) vs):=fun ty=>by
  have h:=run_append_room_cells (P:=Tryz.prog) w 144 ty 148 i0 Tryz.underlying144 hi0 b 0 n c ⟨vb,0,none⟩ 1 vc vs (by rw[hzs];omega) (fun j u hj=>by rw[Addr.add_lit,Nat.zero_add];exact hvs j u hj) h1v hroom
   (fun j hj=>by rw[hzs,Nat.zero_add];exact hsp j (by omega)) (fun j hj=>by rw[hzs,Nat.zero_add];exact hfz j (by omega))
  rw[hzs,Nat.zero_add]at h
  exact h
 obtain⟨W,hW⟩:∃ W,W=w.setCells b (n*4) vs:=⟨_,rfl⟩
 rw[<-hW]at hrun ⊢
 clear hW
 go_enter Tryz.func297,Tryz.ntmps297
 go_wp2_with (at_builtin;refine Lib.wpList_append_run _ rfl _ _ _ _ rfl _ _ rfl rfl _ _ (hrun _) ?_)
 go_ret
 exact⟨rfl,rfl⟩
end Go.Proofs
end
section
namespace Go.Dw
open Go.Proofs Go.Sort Go.Lib
theorem FF (b:Nat):∀ (us:List Value)(o:Nat)(w:World),(w.setCells b o us).heap.size=w.heap.size/\(∀ b',b'≠b->(w.setCells b o us).heap[b']?=w.heap[b']?) /\
  (∀ vs t fr,w.heap[b]?=some (.cells vs t fr)->∃ vs1,(w.setCells b o us).heap[b]?=some (.cells vs1 t fr)/\vs1.size=vs.size)/\(w.setCells b o us).os=w.os/\(w.setCells b o us).tape=w.tape/\(w.setCells b o us).output=w.output
 | [],o,w=>⟨rfl,fun _ _=>rfl,fun vs t fr h=>⟨vs,h,rfl⟩,rfl,rfl,rfl⟩
 | u::us,o,w=>by
  obtain⟨h1,h2,h3,h4,h5,h6⟩:=FF b us (o+1) (w.setCell ⟨b,o,none⟩ u)
  have e1:(w.setCell ⟨b,o,none⟩ u).heap.size=w.heap.size:=by rw[setCell_eq];simp[mapBlock]
  have e2:∀ b',b'≠b->(w.setCell ⟨b,o,none⟩ u).heap[b']?=w.heap[b']?:=fun b' hb=>by
   rw[setCell_eq];simp only[mapBlock];rw[Array.getElem?_modify,if_neg (Ne.symm hb)]
  refine⟨by rw[World.setCells,h1,e1],fun b' hb=>by rw[World.setCells,h2 b' hb,e2 b' hb],fun vs t fr h=>?_,?_,?_,?_⟩
  ·have:(w.setCell ⟨b,o,none⟩ u).heap[b]?=some (.cells (vs.setIfInBounds o u) t fr):=by
    rw[setCell_eq];simp only[mapBlock];rw[Array.getElem?_modify,if_pos rfl,h];rfl
   obtain⟨vs1,q1,q2⟩:=h3 _ _ _ this
   exact⟨vs1,by rw[World.setCells];exact q1,by rw[q2];simp⟩
  ·rw[World.setCells,h4,setCell_eq];rfl
  ·rw[World.setCells,h5,setCell_eq];rfl
  ·rw[World.setCells,h6,setCell_eq];rfl
theorem Lv (b:Nat):∀ (us:List Value)(o:Nat)(w:World),(w.setCells b o us).drawn=w.drawn
 | [],o,w=>rfl
 | u::us,o,w=>by rw[World.setCells,Lv b us,setCell_eq];rfl
theorem xj {c:Cx}(hc:B5 c){els:List (List V)}{new:List V}{e i n z:Nat}(hH:c.H=[.row e z els,.arr e z 1])(hn:els.length=n)(hi:i<=n){w':World}{bN kN:Nat}{vs1:Array Value}{us:List Value}
  (hb:(∃ k,c.ρ 0=some (bN,k))\/c.w.heap.size<=bN) (hmax:n+1<=Ah)
  (h1:w'.heap[bN]?=some (.cells vs1 e (0,0))) (h2:vs1.size=kN*z) (h3:n+1<=kN) (h4:kN<=C0)
  (hold:∀ (l:Nat)(el:List V),els[l]?=some el->el.length=z/\∀ (j:Nat)(x:V),el[j]?=some x->∃ v,vs1[(if l<i then l else l+1)*z+j]?=some v/\Co v=true/\BD c x v)
  (hnew:new.length=z/\∀ (j:Nat)(x:V),new[j]?=some x->∃ v,vs1[i*z+j]?=some v/\Co v=true/\BD c x v)
  (hoth:∀ b',b'<c.w.heap.size->b'≠bN->w'.heap[b']?=c.w.heap[b']?) (hsz:c.w.heap.size<=w'.heap.size) (hos:w'.os=c.w.os) (htp:w'.tape=c.w.tape) (hou:w'.output=c.w.output) (hdr:c.w.drawn<=w'.drawn) :
  ∃ v x c',Ending.returned (.slice (some ⟨bN,0,none⟩) (n+1) kN)=.returned v/\c'.w=w'/\(x=.rw 0 z (n+1)/\c'.H=[.row e z (els.take i++new::els.drop i),.arr e z 1])/\B5 c'/\BD c' x v/\Fr c c':=by
 have hH0:c.H[0]?=some (.row e z els):=by rw[hH];rfl
 have hH1:c.H[1]?=some (.arr e z 1):=by rw[hH];rfl
 have hHl:c.H.length=2:=by rw[hH];rfl
 obtain⟨o1,o2⟩:=hc.obj 0 _ hH0
 have hnok:∀ o,¬ c.ok bN o:=fun o ho=>by
  rcases hb with ⟨k,hk⟩ | hb
  ·obtain⟨_,_,_,_,_,h5,_⟩:=o2 bN k hk;exact h5 o ho
  ·have:=hc.okLt _ _ ho;omega
 have h1ne:∀ b' k',c.ρ 1=some (b',k')->b'≠bN/\b'<c.w.heap.size:=fun b' k' h=>by
  have hlt:=Jh hc (show 1<c.H.length by omega) h
  refine⟨fun e1=>?_,hlt⟩
  subst e1
  rcases hb with ⟨k,hk⟩ | hb
  ·exact absurd (hc.inj 0 1 b' k k' (by omega) (by omega) hk h) (by decide)
  ·omega
 generalize hc':(⟨w',c.ok,P2 c.ρ 0 (some (bN,kN)),[.row e z (els.take i++new::els.drop i),.arr e z 1]⟩:Cx)=c'
 have hw:c'.w=w':=by rw[<-hc']
 have hk':c'.ok=c.ok:=by rw[<-hc']
 have hρ0:c'.ρ 0=some (bN,kN):=by rw[<-hc'];simp[P2]
 have hρ1:∀ j,j≠0->c'.ρ j=c.ρ j:=fun j hj=>by rw[<-hc'];exact AO hj
 have hH':c'.H=[.row e z (els.take i++new::els.drop i),.arr e z 1]:=by rw[<-hc']
 have hlen':(els.take i++new::els.drop i).length=n+1:=by simp;omega
 have hf:Fr c c':=by
  refine⟨fun _ _ h=>by rw[hk'];exact h,fun b' o h=>?_,by rw[hw];exact hsz,fun _ _ h=>.inl (by rw[hk']at h;exact h),fun b' hlt hno=>?_,fun b' hb'=>?_,fun j o hj=>?_,by rw[hw];exact hos,by rw[hw];exact htp,by rw[hw];exact hou,by rw[hw];exact hdr⟩
  ·have hne:b'≠bN:=fun e=>hnok o (e▸h)
   simp only[World.cell?,hw]
   rw[hoth b' (hc.okLt _ _ h) hne]
  ·rw[hw]
   refine hoth b' hlt fun e1=>?_
   subst e1
   rcases hb with ⟨k,hk⟩ | hb
   ·exact hno ⟨0,k,by omega,hk⟩
   ·omega
  ·obtain⟨j,k',hj,hr⟩:=hb'
   have hj:j<2:=by rw[hH']at hj;simpa using hj
   by_cases e0:j=0
   ·subst e0
    rw[hρ0]at hr;cases hr
    rcases hb with ⟨k,hk⟩ | hb
    ·exact .inl ⟨0,k,by omega,hk⟩
    ·exact .inr hb
   ·rw[hρ1 j e0]at hr
    exact .inl ⟨j,k',by omega,hr⟩
  ·rw[hH]at hj
   match j,hj with
   | 0,hj =>
    simp only[List.getElem?_cons_zero,Option.some.injEq]at hj
    subst hj
    exact⟨.row e z (els.take i++new::els.drop i),by rw[hH'];rfl,rfl,rfl,by omega,fun h=>by omega⟩
   | 1,hj =>
    simp only[List.getElem?_cons_succ,List.getElem?_cons_zero,Option.some.injEq]at hj
    subst hj
    exact⟨.arr e z 1,by rw[hH'];rfl,rfl,rfl,Nat.le_refl _,fun _=>hρ1 1 (by omega)⟩
   | j+2,hj=>simp at hj
 refine⟨_,_,c',rfl,hw,⟨rfl,hH'⟩,?_,?_,hf⟩
 ·refine⟨fun j1 j2 b' k1 k2 q1 q2 q3 q4=>?_,fun b' o h=>?_,fun j o hj=>?_,hc.globFr hf⟩
  ·rw[hH']at q1 q2
   simp only[List.length_cons,List.length_nil]at q1 q2
   by_cases e1:j1=0<;>by_cases e2:j2=0
   ·omega
   ·have:j2=1:=by omega
    subst e1 this
    rw[hρ0]at q3;cases q3
    rw[hρ1 1 (by omega)]at q4
    exact absurd rfl (h1ne _ _ q4).1
   ·have:j1=1:=by omega
    subst e2 this
    rw[hρ0]at q4;cases q4
    rw[hρ1 1 (by omega)]at q3
    exact absurd rfl (h1ne _ _ q3).1
   ·omega
  ·rw[hk']at h;rw[hw];have:=hc.okLt _ _ h;omega
  ·rw[hH']at hj
   match j,hj with
   | 0,hj =>
    simp only[List.getElem?_cons_zero,Option.some.injEq]at hj
    subst hj
    refine⟨fun h=>(by rw[hρ0]at h;cases h),fun b' k' h=>?_⟩
    rw[hρ0]at h;cases h
    refine⟨vs1,by rw[hw];exact h1,h2,by omega,h4,fun o ho=>hnok o (by rw[hk']at ho;exact ho),fun l el hl=>?_⟩
    rw[List.getElem?_append]at hl
    have hti:(els.take i).length=i:=by rw[List.length_take];omega
    rw[hti]at hl
    by_cases e1:l<i
    ·rw[if_pos e1,List.getElem?_take,if_pos e1]at hl
     obtain⟨q1,q2⟩:=hold l el hl
     refine⟨q1,fun j x hx=>?_⟩
     obtain⟨v,r1,r2,r3⟩:=q2 j x hx
     rw[if_pos e1]at r1
     exact⟨v,r1,r2,AW hf r3⟩
    ·rw[if_neg e1]at hl
     by_cases e2:l=i
     ·subst e2
      rw[Nat.sub_self,List.getElem?_cons_zero]at hl
      cases hl
      refine⟨hnew.1,fun j x hx=>?_⟩
      obtain⟨v,r1,r2,r3⟩:=hnew.2 j x hx
      exact⟨v,r1,r2,AW hf r3⟩
     ·obtain⟨m,rfl⟩:∃ m,l=m+1:=⟨l-1,by omega⟩
      have e3:m+1-i=(m-i)+1:=by omega
      rw[e3,List.getElem?_cons_succ,List.getElem?_drop,show i+(m-i)=m by omega]at hl
      obtain⟨q1,q2⟩:=hold m el hl
      refine⟨q1,fun j x hx=>?_⟩
      obtain⟨v,r1,r2,r3⟩:=q2 j x hx
      rw[if_neg (by omega)]at r1
      exact⟨v,r1,r2,AW hf r3⟩
   | 1,hj =>
    simp only[List.getElem?_cons_succ,List.getElem?_cons_zero,Option.some.injEq]at hj
    subst hj
    obtain⟨a1,a2⟩:=hc.obj 1 _ hH1
    refine⟨fun h=>a1 (by rw[<-hρ1 1 (by omega)];exact h),fun b' k' h=>?_⟩
    rw[hρ1 1 (by omega)]at h
    obtain⟨ne,hlt⟩:=h1ne _ _ h
    obtain⟨vs,r1,r2,r3,r4,r5⟩:=a2 b' k' h
    exact⟨vs,by rw[hw,hoth b' hlt ne];exact r1,r2,r3,r4,fun o ho=>by rw[hk'];exact r5 o ho⟩
   | j+2,hj=>simp at hj
 ·refine⟨by rw[hH'];simp,⟨_,_,rfl,hmax,.inr ⟨_,_,rfl⟩⟩,fun e' sz' els' hh=>?_⟩
  rw[hH']at hh
  simp only[List.getElem?_cons_zero,Option.some.injEq,Ob.row.injEq]at hh
  obtain⟨rfl,rfl,rfl⟩:=hh
  exact⟨rfl,by omega,fun _=>by rw[hρ0];rfl⟩
end Go.Dw
end
section
namespace Go.Dw
open Go.Proofs Go.Sort Go.Lib
theorem AbU (args:Array Value)(w:World):(callFunc 297 args).run Tryz.prog w=.ok (.enter 297 args) w:=enters_of (P:=Tryz.prog) Tryz.func297 (by kernel_rfl) rfl args w
theorem Wp {c:Cx}(hc:B5 c){els:List (List V)}{new:List V}{e i n:Nat}(hH:c.H=[.row e 4 els,.arr e 4 1])(hn:els.length=n)(hi:i<=n){w':World}{bN kN:Nat}{vs0 vs1:Array Value}{us cs:List Value}
  (hb:(∃ k,c.ρ 0=some (bN,k))\/c.w.heap.size<=bN) (hmax:n+1<=Ah) (h1:w'.heap[bN]?=some (.cells vs1 e (0,0))) (h2:vs1.size=kN*4) (h3:n+1<=kN) (h4:kN<=C0)
  (hrow:LY c 4 els vs0) (hcs:∀ j,j<n*4->cs[j]?=vs0[j]?) (hus:new.length=4/\∀ (j:Nat)(x:V),new[j]?=some x->∃ v,us[j]?=some v/\Co v=true/\BD c x v)
  (hcell:∀ j,j<(n+1)*4->vs1[j]?=if j<i*4 then cs[j]? else if j<i*4+4 then us[j-i*4]? else cs[j-4]?)
  (hoth:∀ b',b'<c.w.heap.size->b'≠bN->w'.heap[b']?=c.w.heap[b']?) (hsz:c.w.heap.size<=w'.heap.size) (hos:w'.os=c.w.os) (htp:w'.tape=c.w.tape) (hou:w'.output=c.w.output) (hdr:c.w.drawn<=w'.drawn:=by first | exact Nat.le_refl _ | exact Nat.le_succ _ | (simp only[Lv];first | exact Nat.le_refl _ | exact Nat.le_succ _) | (subst_vars;simp only[World.drew,World.alloc,Lv];omega)) :
  ∃ v x c',Ending.returned (.slice (some ⟨bN,0,none⟩) (n+1) kN)=.returned v/\c'.w=w'/\(x=.rw 0 4 (n+1)/\c'.H=[.row e 4 (els.take i++new::els.drop i),.arr e 4 1])/\B5 c'/\BD c' x v/\Fr c c':=by
 refine xj hc hH hn hi hb hmax h1 h2 h3 h4 (fun l el hl=>?_) ⟨hus.1,fun j x hx=>?_⟩ hoth hsz hos htp hou hdr (us:=us)
 ·obtain⟨q1,q2⟩:=hrow l el hl
  refine⟨q1,fun j x hx=>?_⟩
  obtain⟨v,r1,r2,r3⟩:=q2 j x hx
  have hj:j<4:=by rw[<-q1];exact (List.getElem?_eq_some_iff.1 hx).1
  have hln:l<n:=by rw[<-hn];exact (List.getElem?_eq_some_iff.1 hl).1
  refine⟨v,?_,r2,r3⟩
  by_cases e1:l<i
  ·rw[if_pos e1,hcell _ (by omega),if_pos (by omega),hcs _ (by omega)];exact r1
  ·rw[if_neg e1,hcell _ (by omega),if_neg (by omega),if_neg (by omega),hcs _ (by omega),show (l+1)*4+j-4=l*4+j by omega];exact r1
 ·obtain⟨v,r1,r2,r3⟩:=hus.2 j x hx
  have hj:j<4:=by rw[<-hus.1];exact (List.getElem?_eq_some_iff.1 hx).1
  refine⟨v,?_,r2,r3⟩
  rw[hcell _ (by omega),if_neg (by omega),if_pos (by omega),show i*4+j-i*4=j by omega];exact r1
theorem jE (els:List (List V))(new:List V)(i n:Nat)(hn:els.length=n)(hi:i<=n)(hbig:(n+1)*64<=Ah) :
  Spec prog FM [.rw 0 4 n,.int .i64 i,.own 1 4 [new]] [.row C4 4 els,.arr C4 4 1] fun x H'=>x=.rw 0 4 (n+1)/\H'=[.row C4 4 (els.take i++new::els.drop i),.arr C4 4 1]:=by
 intro c vs hH hc hr
 obtain⟨v0,vs',rfl,hv0,v1,vs'',rfl,hv1,v2,vs3,rfl,hv2,hvn⟩:=hr
 have hvn:vs3=[]:=hvn
 subst hvn
 have hv1:v1=.int .i64 i:=hv1
 subst hv1
 left
 have hH0:c.H[0]?=some (.row C4 4 els):=by rw[hH];rfl
 have hH1:c.H[1]?=some (.arr C4 4 1):=by rw[hH];rfl
 refine⟨AbU _ _,?_⟩
 obtain⟨hp,_,q2⟩:=hv2
 have hcur:=(q2 _ _ _ hH1).2.2 rfl
 obtain⟨a',c',b',o',e3,_,_,_,e4,e5⟩:=hp
 obtain⟨us,s1,s2,s3⟩:=LE e5
 have he4:=e4.resolve_left (by simp)
 subst e3 he4
 cases hρ1:c.ρ 1 with
 | none=>rw[hρ1]at hcur;cases hcur
 | some bk =>
 obtain⟨vb,kv⟩:=bk
 rw[hρ1]at hcur
 have hcur:Value.slice (some ⟨b',o',none⟩) 1 c'=.slice (some ⟨vb,0,none⟩) 1 kv:=hcur
 simp only[Value.slice.injEq,Option.some.injEq,Addr.mk.injEq,and_true,true_and]at hcur
 obtain⟨⟨rfl,rfl⟩,rfl⟩:=hcur
 obtain⟨va,va1,va2,va3,va4,_⟩:=(hc.obj 1 _ hH1).2 _ _ hρ1
 have hus4:us.length=4:=by simpa using s1
 have husc:∀ j v,us[j]?=some v->c.w.cell? ⟨b',j,none⟩=some v:=fun j v hj=>by have:=(s2 j v hj).1;simpa using this
 have hus1:∀ v∈us,v.oneCell'=true:=fun v hv=>by
  obtain⟨j,hj,e⟩:=List.getElem_of_mem hv
  rw[TA];exact (s2 j v (by rw[List.getElem?_eq_getElem hj,e])).2
 have hnewf:new.length=4/\∀ (j:Nat)(x:V),new[j]?=some x->∃ v,us[j]?=some v/\Co v=true/\BD c x v:=by
  obtain⟨t1,t2⟩:=s3 0 new rfl
  refine⟨t1,fun j x hx=>?_⟩
  obtain⟨v,u1,u2⟩:=t2 j x hx
  have u1:us[j]?=some v:=by simpa using u1
  exact⟨v,u1,(s2 j v u1).2,EY u2⟩
 have hvlt:b'<c.w.heap.size:=(Array.getElem?_eq_some_iff.1 va1).1
 have hmx:Ah=140737488355328:=rfl
 have hcm:C0=9223372036854775807:=rfl
 obtain⟨_,⟨a0,k0,hv0,hle0,_⟩,q3⟩:=hv0
 have hcur0:=(q3 _ _ _ hH0).2.2 hn
 obtain⟨o1,o2⟩:=hc.obj 0 _ hH0
 cases hρ0:c.ρ 0 with
 | none =>
  have hels:=o1 hρ0
  subst hels
  have hn0:n=0:=hn.symm
  subst hn0
  have hi0:i=0:=by omega
  subst hi0
  rw[hρ0]at hcur0
  have hcur0:v0=.slice none 0 0:=hcur0
  subst hcur0
  refine (Tryz.ins_end_grow none 0 0 b' c' [] us c.w (by omega) (by omega) (by omega) rfl hus4 (fun _=>rfl) (fun a h=>by cases h) husc hus1).mono ?_
  rintro e w' ⟨rfl,rfl⟩
  have hG:=grownCap_ge c.w 1 0 148
  have hG2:=grownCap_le_maxLen c.w 1 0 148 (by unfold maxLen;omega)
  generalize grownCap c.w (0+1) 0 148=G at hG hG2 ⊢
  refine Wp hc hH rfl (Nat.le_refl 0) (bN:=c.w.heap.size) (kN:=G) (vs0:=#[]) (vs1:=([]++us).toArray++Builtin.zeroCells IQ.cells (G-1)) (us:=us) (cs:=[]) (.inr (Nat.le_refl _)) (by omega) ?_ ?_ hG (by unfold maxLen at hG2;omega) (fun l el hl=>by simp at hl) (fun j hj=>by omega) hnewf (fun j hj=>?_) (fun b1 h1 h2=>?_) ?_ rfl rfl rfl
  ·show (c.w.heap.push _)[c.w.heap.size]?=_
   rw[Array.getElem?_push_size];rfl
  ·have hzc:IQ.cells.size=4:=rfl
   simp only[Array.size_append,Gh,hzc,List.size_toArray,List.nil_append,hus4];omega
  ·rw[if_neg (by omega),if_pos (by omega),Array.getElem?_append_left (by simp;omega)]
   simp
  ·exact BU h1
  ·show c.w.heap.size<=(c.w.heap.push _).size
   rw[Array.size_push];omega
 | some bk =>
 obtain⟨b,k⟩:=bk
 rw[hρ0]at hcur0
 have hcur0:v0=.slice (some ⟨b,0,none⟩) n k:=hcur0
 subst hcur0
 obtain⟨vs0,r1,r2,r3,r4,r5,r6⟩:=o2 b k hρ0
 rw[hn]at r3
 have hblt:b<c.w.heap.size:=(Array.getElem?_eq_some_iff.1 r1).1
 have hvb:b'≠b:=fun e=>by
  have:=hc.inj 0 1 b k c' (by rw[hH];simp) (by rw[hH];simp) hρ0 (e▸hρ1)
  omega
 generalize hcs:vs0.toList.take (n*4)=cs
 have hcsl:cs.length=n*4:=by rw[<-hcs,List.length_take,Array.length_toList,r2];omega
 have hcsg:∀ j,j<n*4->cs[j]?=vs0[j]?:=fun j hj=>by rw[<-hcs,List.getElem?_take,if_pos hj];simp
 have hcell:∀ j,c.w.cell? ⟨b,j,none⟩=vs0[j]?:=fun j=>by simp only[World.cell?,r1];rfl
 have hfz:∀ j,c.w.frozen? ⟨b,j,none⟩=false:=fun j=>by simp[World.frozen?,r1]
 have hcsc:∀ j v,cs[j]?=some v->c.w.cell? ⟨b,j,none⟩=some v:=fun j v hj=>by
  have hjl:j<n*4:=by rw[<-hcsl];exact (List.getElem?_eq_some_iff.1 hj).1
  rw[hcell,<-hcsg j hjl];exact hj
 have hcs1:∀ v∈cs,v.oneCell'=true:=fun v hv=>by
  obtain⟨j,hj,e⟩:=List.getElem_of_mem hv
  have hjl:j<n*4:=by rw[<-hcsl];exact hj
  have hl:j / 4<els.length:=by omega
  obtain⟨t1,t2⟩:=r6 (j / 4) els[j / 4] (List.getElem?_eq_getElem hl)
  obtain⟨u,u1,u2,_⟩:=t2 (j % 4) (els[j / 4][j % 4]'(by omega)) (List.getElem?_eq_getElem (by omega))
  rw[show j / 4*4+j % 4=j by omega,<-hcsg j hjl,List.getElem?_eq_getElem hj,e]at u1
  cases u1
  rw[TA];exact u2
 have hsp:k ≥ n+1->∀ j,j<(n+1)*4->(c.w.cell? ⟨b,j,none⟩).isSome=true:=fun hk j hj=>by
  rw[hcell,Array.getElem?_eq_getElem (by omega)];rfl
 by_cases hin:i=n
 ·subst hin
  by_cases hk:i+1<=k
  ·refine (Tryz.ins_end_room b i k b' c' us c.w hk (by omega) hus4 (fun j hj=>hsp hk _ (by omega)) (fun j _=>hfz _) husc hus1).mono ?_
   rintro e w' ⟨rfl,rfl⟩
   obtain⟨g1,g2,g3,g4,g5,g6⟩:=FF b us (i*4) c.w
   obtain⟨vs1,g7,g8⟩:=g3 _ _ _ r1
   have hw:∀ j,vs1[j]?=(c.w.setCells b (i*4) us).cell? ⟨b,j,none⟩:=fun j=>by simp only[World.cell?,g7];rfl
   refine Wp hc hH hn hi (bN:=b) (kN:=k) (vs0:=vs0) (vs1:=vs1) (us:=us) (cs:=cs) (.inl ⟨k,hρ0⟩) (by omega) g7 (by rw[g8,r2]) hk r4 r6 hcsg hnewf (fun j hj=>?_) (fun b1 _ h2=>g2 b1 h2) (by rw[g1];exact Nat.le_refl _) g4 g5 g6
   rw[hw]
   by_cases e1:j<i*4
   ·rw[if_pos e1,World.cell?_setCells_out b _ _ _ _ (fun _ _=>.inl e1),hcell,hcsg j e1]
   ·rw[if_neg e1,if_pos (by omega)]
    have:=World.cell?_setCells_in b us (i*4) c.w (fun t ht=>hsp hk _ (by omega)) (j-i*4) (by omega)
    rw[show i*4+(j-i*4)=j by omega]at this
    rw[this,List.getElem?_eq_getElem]
  ·refine (Tryz.ins_end_grow (some ⟨b,0,none⟩) i k b' c' cs us c.w r3 (by omega) (by omega) hcsl hus4 (fun h=>by cases h) (fun a h j v hj=>by cases h;rw[Addr.add_lit,Nat.zero_add];exact hcsc j v hj) husc hus1).mono ?_
   rintro e w' ⟨rfl,rfl⟩
   have hG:=grownCap_ge c.w (i+1) k 148
   have hG2:=grownCap_le_maxLen c.w (i+1) k 148 (by unfold maxLen;omega)
   generalize grownCap c.w (i+1) k 148=G at hG hG2 ⊢
   refine Wp hc hH hn hi (bN:=c.w.heap.size) (kN:=G) (vs0:=vs0) (vs1:=(cs++us).toArray++Builtin.zeroCells IQ.cells (G-(i+1))) (us:=us) (cs:=cs) (.inr (Nat.le_refl _)) (by omega) ?_ ?_ hG (by unfold maxLen at hG2;omega) r6 hcsg hnewf (fun j hj=>?_) (fun b1 h1 h2=>?_) ?_ rfl rfl rfl
   ·show (c.w.heap.push _)[c.w.heap.size]?=_
    rw[Array.getElem?_push_size];rfl
   ·have hzc:IQ.cells.size=4:=rfl
    simp only[Array.size_append,Gh,hzc,List.size_toArray,List.length_append,hus4,hcsl];omega
   ·rw[Array.getElem?_append_left (by simp[hcsl,hus4];omega),List.getElem?_toArray,List.getElem?_append,hcsl]
    by_cases e1:j<i*4
    ·rw[if_pos e1,if_pos e1]
    ·rw[if_neg e1,if_neg e1,if_pos (by omega)]
   ·exact BU h1
   ·show c.w.heap.size<=(c.w.heap.push _).size
    rw[Array.size_push];omega
 ·have hin':i<n:=by omega
  by_cases hk:n+1<=k
  ·refine (Tryz.ins_shift b n k i b' c' cs us c.w hin' hk (by omega) hvb hcsl hus4 hcsc (hsp hk) (fun j _=>hfz _) husc hcs1 hus1 C4 C4 va.size vs0.size (by simp[World.shape?,va1]) (by simp[World.shape?,r1]) (by omega) (by simp[World.frozen?,va1]) (by simp[World.frozen?,va1])).mono ?_
   rintro e w' ⟨rfl,rfl⟩
   have hdl:(cs.drop (i*4)).length=(n-i)*4:=by rw[List.length_drop,hcsl];omega
   have hsp':∀ j,j<(n+1)*4->(c.w.drew.cell? ⟨b,j,none⟩).isSome=true:=hsp hk
   obtain⟨g1,g2,g3,g4,g5,g6⟩:=FF b (cs.drop (i*4)) ((i+1)*4) c.w.drew
   obtain⟨vsA,g7,g8⟩:=g3 _ _ _ r1
   generalize hW1:c.w.drew.setCells b ((i+1)*4) (cs.drop (i*4))=W1 at g1 g2 g3 g4 g5 g6 g7 ⊢
   obtain⟨f1,f2,f3,f4,f5,f6⟩:=FF b us (i*4) W1
   obtain⟨vs1,f7,f8⟩:=f3 _ _ _ g7
   have hw:∀ j,vs1[j]?=(W1.setCells b (i*4) us).cell? ⟨b,j,none⟩:=fun j=>by simp only[World.cell?,f7];rfl
   refine Wp hc hH hn hi (bN:=b) (kN:=k) (vs0:=vs0) (vs1:=vs1) (us:=us) (cs:=cs) (.inl ⟨k,hρ0⟩) (by omega) f7 (by rw[f8,g8,r2]) hk r4 r6 hcsg hnewf (fun j hj=>?_) (fun b1 _ h2=>by rw[f2 b1 h2,g2 b1 h2];rfl) (by rw[f1,g1];exact Nat.le_refl _) (by rw[f4,g4];rfl) (by rw[f5,g5];rfl) (by rw[f6,g6];rfl)
   rw[hw]
   have hsp1:∀ j,j<(n+1)*4->(W1.cell? ⟨b,j,none⟩).isSome=true:=fun j hj=>by
    rw[<-hW1]
    exact isSome_setCells b _ _ c.w.drew (fun t ht=>hsp' ((i+1)*4+t) (by rw[hdl]at ht;omega)) _ (hsp' j hj)
   by_cases e1:j<i*4
   ·rw[if_pos e1,World.cell?_setCells_out b _ _ _ _ (fun _ _=>.inl e1),<-hW1,World.cell?_setCells_out b _ _ _ _ (fun _ _=>.inl (by show j<(i+1)*4;omega))]
    show c.w.cell? ⟨b,j,none⟩=_
    rw[hcell,hcsg j (by omega)]
   ·rw[if_neg e1]
    by_cases e2:j<i*4+4
    ·rw[if_pos e2]
     have:=World.cell?_setCells_in b us (i*4) W1 (fun t ht=>hsp1 _ (by omega)) (j-i*4) (by omega)
     rw[show i*4+(j-i*4)=j by omega]at this
     rw[this,List.getElem?_eq_getElem]
    ·rw[if_neg e2,World.cell?_setCells_out b _ _ _ _ (fun _ _=>.inr (by show i*4+us.length<=j;omega)),<-hW1]
     have:=World.cell?_setCells_in b (cs.drop (i*4)) ((i+1)*4) c.w.drew (fun t ht=>hsp' _ (by omega)) (j-(i+1)*4) (by omega)
     rw[show (i+1)*4+(j-(i+1)*4)=j by omega]at this
     rw[this,<-List.getElem?_eq_getElem,List.getElem?_drop,show i*4+(j-(i+1)*4)=j-4 by omega]
  ·refine (Tryz.ins_grow b n k i b' c' cs us c.w hin' r3 (by omega) (by omega) hcsl hus4 hcsc husc hcs1 hus1).mono ?_
   rintro e w' ⟨rfl,rfl⟩
   have hG:=grownCap_ge c.w (n+1) k 148
   have hG2:=grownCap_le_maxLen c.w (n+1) k 148 (by unfold maxLen;omega)
   generalize grownCap c.w (n+1) k 148=G at hG hG2 ⊢
   have hdl:(cs.drop (i*4)).length=(n-i)*4:=by rw[List.length_drop,hcsl];omega
   have hzc:IQ.cells.size=4:=rfl
   generalize hR:(cs.take (i*4)).toArray++Builtin.zeroCells IQ.cells (n+1-i)++Builtin.zeroCells IQ.cells (G-(n+1))=ROW
   have hRs:ROW.size=G*4:=by
    rw[<-hR]
    simp only[Array.size_append,Gh,hzc,List.size_toArray,List.length_take,hcsl];omega
   have hRg:∀ j,j<i*4->ROW[j]?=cs[j]?:=fun j hj=>by
    rw[<-hR,Array.getElem?_append_left (by simp[Gh,hzc,hcsl];omega),Array.getElem?_append_left (by simp[hcsl];omega),List.getElem?_toArray,List.getElem?_take,if_pos hj]
   generalize hN:c.w.heap.size=N
   have hNb:∀ j,(c.w.alloc (.cells ROW 148)).cell? ⟨N,j,none⟩=ROW[j]?:=fun j=>World.cell?_alloc_at (w:=c.w) ROW _ N j hN.symm
   generalize hW0:(c.w.alloc (.cells ROW 148)).drew=W0
   have hW0c:∀ j,W0.cell? ⟨N,j,none⟩=ROW[j]?:=fun j=>by rw[<-hW0];exact hNb j
   have hW0h:W0.heap=c.w.heap.push (.cells ROW 148):=by rw[<-hW0];rfl
   obtain⟨g1,g2,g3,g4,g5,g6⟩:=FF N us (i*4) W0
   obtain⟨vsA,g7,g8⟩:=g3 ROW C4 (0,0) (by rw[hW0h,<-hN,Array.getElem?_push_size];rfl)
   have hsA:∀ j,j<(n+1)*4->((W0.setCells N (i*4) us).cell? ⟨N,j,none⟩).isSome=true:=fun j hj =>
    isSome_setCells N us _ W0 (fun t ht=>by rw[hW0c,Array.getElem?_eq_getElem (by omega)];rfl) _ (by rw[hW0c,Array.getElem?_eq_getElem (by omega)];rfl)
   generalize hW1:W0.setCells N (i*4) us=W1 at g1 g2 g3 g4 g5 g6 g7 hsA ⊢
   obtain⟨f1,f2,f3,f4,f5,f6⟩:=FF N (cs.drop (i*4)) ((i+1)*4) W1.drew
   obtain⟨vs1,f7,f8⟩:=f3 _ _ _ g7
   have hw:∀ j,vs1[j]?=(W1.drew.setCells N ((i+1)*4) (cs.drop (i*4))).cell? ⟨N,j,none⟩:=fun j=>by simp only[World.cell?,f7];rfl
   have hold:∀ b1,b1<c.w.heap.size->b1≠N->W0.heap[b1]?=c.w.heap[b1]?:=fun b1 h _=>by rw[hW0h];exact BU h
   refine Wp hc hH hn hi (bN:=N) (kN:=G) (vs0:=vs0) (vs1:=vs1) (us:=us) (cs:=cs) (.inr (by omega)) (by omega) f7 (by rw[f8,g8,hRs]) hG (by unfold maxLen at hG2;omega) r6 hcsg hnewf (fun j hj=>?_) (fun b1 h1 h2=>?_) ?_ ?_ ?_ ?_
   ·rw[hw]
    by_cases e1:j<i*4
    ·rw[if_pos e1,World.cell?_setCells_out N _ _ _ _ (fun _ _=>.inl (by show j<(i+1)*4;omega))]
     show W1.cell? ⟨N,j,none⟩=_
     rw[<-hW1,World.cell?_setCells_out N _ _ _ _ (fun _ _=>.inl e1),hW0c,hRg j e1]
    ·rw[if_neg e1]
     by_cases e2:j<i*4+4
     ·rw[if_pos e2,World.cell?_setCells_out N _ _ _ _ (fun _ _=>.inl (by show j<(i+1)*4;omega))]
      show W1.cell? ⟨N,j,none⟩=_
      rw[<-hW1]
      have:=World.cell?_setCells_in N us (i*4) W0 (fun t ht=>by rw[hW0c,Array.getElem?_eq_getElem (by omega)];rfl) (j-i*4) (by omega)
      rw[show i*4+(j-i*4)=j by omega]at this
      rw[this,List.getElem?_eq_getElem]
     ·rw[if_neg e2]
      have:=World.cell?_setCells_in N (cs.drop (i*4)) ((i+1)*4) W1.drew (fun t ht=>hsA _ (by omega)) (j-(i+1)*4) (by omega)
      rw[show (i+1)*4+(j-(i+1)*4)=j by omega]at this
      rw[this,<-List.getElem?_eq_getElem,List.getElem?_drop,show i*4+(j-(i+1)*4)=j-4 by omega]
   ·rw[f2 b1 h2]
    show W1.heap[b1]?=_
    rw[g2 b1 h2,hold b1 h1 h2]
   ·rw[f1]
    show c.w.heap.size<=W1.heap.size
    rw[g1,hW0h,Array.size_push];omega
   ·rw[f4]
    show W1.os=_
    rw[g4,<-hW0];rfl
   ·rw[f5]
    show W1.tape=_
    rw[g5,<-hW0];rfl
   ·rw[f6]
    show W1.output=_
    rw[g6,<-hW0];rfl
end Go.Dw
end
namespace Go.Dw
theorem Tz {σ:Nat->Option Nat}{s:List A6}:(s.map cB).map (AR σ)=s.map cB:=by rw[List.map_map];rfl
attribute [push_cast] Tz
theorem kZ {s:List A6}{k:Nat}(h:k<s.length):(s.map cB)[k]?=some (cB (s.getD k default)):=by
 rw[List.getElem?_map];simp[List.getD_eq_getElem?_getD,h]
abbrev Pg (s:List A6):Ob:=.row C4 4 (s.map cB)
theorem Uz {g:Nat}(hg:∀ b v,PF g [Y7 b,.str v] (.int .i64 (Id b.name v)))(s:List A6)(v:A9)(hs:DE s)(hl:s.length<2^61) :
  Spec prog AL [.rw 0 4 s.length,.str v,.fn (.func g) [] []] [Pg s] fun x H'=>x=.tup [.int .i64 (IT v s),.bool (bound s v)]/\H'=[Pg s]:=by
 refine AK mixed Ai.ok rfl ?_
 have hle:=RT v s
 push_cast
 have key:∀ (m i j:Nat),j-i<=m->i<=IT v s->IT v s<=j->j<=s.length->Ai.L3 (.rw 0 4 s.length) (.str v) (.fn (.func g) [] []) (.int .i64 s.length) (.int .i64 i) (.int .i64 j) 1 [Pg s]
   (Bx 1 Ai.rs fun x' H'=>x'=.tup [.int .i64 (IT v s),.bool (bound s v)]/\H'=[Pg s]):=by
  intro m
  induction m with
  | zero =>
   intro i j hm h1 h2 h3
   have hij:i=IT v s:=by omega
   refine A8.2 ?_
   push_cast[B8 (show j<=i by omega)]
   unfold bound
   rw[NG hs]
   by_cases hi:i<s.length
   ·push_cast[BT hi,kZ hi,List.length_map]
    refine .of (hg _ _) ?_
    push_cast
    refine Dy (.inl rfl) rfl ⟨?_,rfl⟩
    push_cast[QM,hij]
    rw[hij]at hi
    by_cases hn:(s.getD (IT v s) default).name=v
    ·rw[if_pos ⟨hi,hn⟩];simp only[hn];rfl
    ·rw[if_neg (fun h=>hn h.2)];simp only[hn];rfl
   ·push_cast[B8 (show s.length<=i by omega)]
    refine Dy (.inl rfl) rfl ⟨?_,rfl⟩
    push_cast[hij]
    rw[if_neg (fun h=>hi (by omega))]
    rfl
  | succ m ih =>
   intro i j hm h1 h2 h3
   by_cases hij:i<j
   ·refine A8.2 ?_
    have hh:=Acn (i:=i) (j:=j) (by omega) (by omega)
    generalize hq:(i+j) / 2=h at hh
    have hk:h<s.length:=by omega
    push_cast[BT hij]
    simp only[hh]
    push_cast[BT hk,kZ hk,List.length_map]
    refine .of (hg _ _) ?_
    push_cast[CV (show h<2^62 by omega),JS]
    refine⟨fun hc=>ih (h+1) j (by omega) ?_ h2 h3,fun hc=>ih i h (by omega) h1 ?_ (by omega)⟩
    ·rcases Nat.lt_or_ge h (IT v s)with h4 | h4
     ·omega
     ·exact absurd hc (XI hs h4 hk)
    ·rcases Nat.lt_or_ge h (IT v s)with h4 | h4
     ·exact absurd (Xp h4) hc
     ·exact h4
   ·exact ih i j (by omega) h1 h2 h3
 exact key s.length 0 s.length (by omega) (by omega) hle (Nat.le_refl _)
def FS (s:List A6)(v:A9)(t:Term):List A6:=s.take (IT v s)++⟨v,t⟩::s.drop (IT v s)
theorem aB (s:List A6)(v:A9)(t:Term):(FS s v t).length=s.length+1:=by
 have:=RT v s
 unfold FS;simp;omega
theorem rz (s:List A6):IU 1 [Pg s]:=⟨rfl,by show [A5 (AM 1) (Pg s)]=_;rw[Lj,Tz]⟩
theorem Y8 (s:List A6)(v:A9)(t:Term)(hs:DE s)(hl:s.length<2^40):Spec prog Og [.rw 0 4 s.length,.str v,Ap t] [Pg s] fun x H'=>x=.rw 0 4 (s.length+1)/\H'=[Pg (FS s v t)]:=by
 have hB:=Uz XB s v hs (by omega)
 have hle:=RT v s
 have hI:=jE (s.map cB) (cB ⟨v,t⟩) (IT v s) s.length (by simp) hle (by unfold Ah;omega)
 have hbt:(s.map cB).take (IT v s)++cB ⟨v,t⟩::(s.map cB).drop (IT v s)=(FS s v t).map cB:=by unfold FS;simp
 rw[hbt]at hI
 refine AK mixed Ym.ok rfl ?_
 push_cast
 refine By.all (Be▸hB) ?_
 rintro x H' ⟨rfl,rfl⟩
 push_cast
 refine By.all (Be▸hI) ?_
 rintro x H' ⟨rfl,rfl⟩
 push_cast
 exact An (H:=[Pg (FS s v t)]) (J:=[_]) (rz _) rfl ⟨rfl,rfl⟩
theorem Tt {s:List A6}{v:A9}{t:Term}(hs:DE s)(hn:Ae s v=none):DE (FS s v t):=by
 have hle:=RT v s
 have h1:∀ b∈s.take (IT v s),b.name<v:=fun b hb=>by
  obtain⟨j,hj,rfl⟩:=List.getElem_of_mem hb
  have hjl:j<IT v s:=by rw[List.length_take]at hj;omega
  have:=Xp hjl
  simpa[List.getD_eq_getElem?_getD,show j<s.length by omega]using this
 have h2:∀ b∈s.drop (IT v s),v<b.name:=fun b hb=>by
  obtain⟨j,hj,rfl⟩:=List.getElem_of_mem hb
  have hjl:IT v s+j<s.length:=by rw[List.length_drop]at hj;omega
  have h3:=XI hs (Nat.le_add_right (IT v s) j) hjl
  have he:(s.drop (IT v s))[j]=s.getD (IT v s+j) default:=by simp[List.getD_eq_getElem?_getD,hjl]
  rw[he]
  have hne:(s.getD (IT v s+j) default).name≠v:=fun e=>by
   have hi:=NG (v:=v) hs
   rw[hn]at hi
   split at hi
   ·cases hi
   ·rename_i hc
    refine hc ⟨by omega,?_⟩
    rcases Nat.eq_zero_or_pos j with h0 | h0
    ·subst h0;exact e
    ·have h5:(s.getD (IT v s) default).name<(s.getD (IT v s+j) default).name:=by
      have:=List.pairwise_iff_getElem.1 hs (IT v s) (IT v s+j) (by omega) hjl (by omega)
      simpa[List.getD_eq_getElem?_getD,hjl,show IT v s<s.length by omega]using this
     rw[e]at h5
     exact absurd h5 (XI hs (Nat.le_refl _) (by omega))
  rcases Classical.em (v<(s.getD (IT v s+j) default).name)with h | h
  ·exact h
  ·exact absurd (Xy h3 h) hne
 unfold FS
 refine List.pairwise_append.2 ⟨List.Pairwise.sublist (List.take_sublist _ _) hs,List.pairwise_cons.2 ⟨h2,List.Pairwise.sublist (List.drop_sublist _ _) hs⟩,fun a ha b hb=>?_⟩
 rcases List.mem_cons.1 hb with rfl | hb
 ·exact h1 a ha
 ·exact Nd (h1 a ha) (h2 b hb)
theorem nv {s:List A6}{v:A9}{t:Term}{b:A6}(h:b∈FS s v t):b∈s\/b=⟨v,t⟩:=by
 unfold FS at h
 rcases List.mem_append.1 h with h | h
 ·exact .inl (List.mem_of_mem_take h)
 ·rcases List.mem_cons.1 h with h | h
  ·exact .inr h
  ·exact .inl (List.mem_of_mem_drop h)
mutual
def short:Term->Bool
 | .mk n v l=>decide (n.length<=24)&&((!v||l.isEmpty)&&RK l)
def RK:List Term->Bool
 | []=>true
 | a::l=>short a&&RK l
end
theorem gO {l:List Term}:RK l=true↔∀ a∈l,short a=true:=by
 induction l with
 | nil=>simp[RK]
 | cons a l ih=>simp[RK,ih]
theorem CJ {t:Term}:short t=true↔t.name.length<=24/\(t.var=true->t.args=[])/\∀ a∈t.args,short a=true:=by
 cases t with | mk n v l=>cases v<;>simp[short,gO,Term.name,Term.var,Term.args]
theorem TC (t:Term):Ca t=true->short t=true:=by
 induction t using Ag with
 | h t ih =>
 intro h
 rw[EU]at h
 rw[CJ]
 split at h
 ·simp only[Bool.and_eq_true,decide_eq_true_eq,Cb]at h
  refine⟨h.2.1,fun _=>List.length_eq_zero_iff.1 h.1,fun a ha=>?_⟩
  rw[List.length_eq_zero_iff.1 h.1]at ha;cases ha
 ·rename_i hv
  simp only[Bool.and_eq_true,decide_eq_true_eq,Cb,List.all_eq_true]at h
  exact⟨h.2.1.1,fun hv2=>absurd hv2 hv,fun a ha=>ih a ha (h.2.2 a ha)⟩
mutual
theorem Yu:∀ t,short t=true->tb t<=25*size t
 | .mk n v l,h=>by
  simp only[short,Bool.and_eq_true,decide_eq_true_eq]at h
  have:=Zs l h.2.2
  simp only[tb,size]
  simp only[tbs]at this
  omega
theorem Zs:∀ l,RK l=true->tbs l<=25*Ac l
 | [],_=>by simp[tbs,tb.tbs,Ac]
 | a::l,h=>by
  simp only[RK,Bool.and_eq_true]at h
  have h1:=Yu a h.1
  have h2:=Zs l h.2
  simp only[tbs,tb.tbs,Ac]at h2 ⊢
  omega
end
theorem iX {s:List A6}(hs:∀ b∈s,short b.term=true)(t:Term):short t=true->short (AD s t)=true:=by
 induction t using Ag with
 | h t ih =>
 intro ht
 rw[Iw]
 have h:=CJ.1 ht
 split
 ·cases hx:Ae s t.name with
  | none=>exact CJ.2 ⟨h.1,fun _=>rfl,fun a ha=>by simp[Term.args]at ha⟩
  | some x =>
   obtain⟨b,hb,_,rfl⟩:=Uh hx
   exact hs b hb
 ·refine CJ.2 ⟨h.1,fun hv=>by simp[Term.var]at hv,fun a ha=>?_⟩
  simp only[Term.args,List.mem_map]at ha
  obtain⟨y,hy,rfl⟩:=ha
  exact ih y hy (h.2.2 y hy)
theorem mZ {l:List Term}{k:Nat}{x:Term}(hk:k<l.length):Ac (l.set k x)+size (l.getD k default)=Ac l+size x:=by
 induction l generalizing k with
 | nil=>simp at hk
 | cons a l ih =>
  cases k with
  | zero=>simp[Ac];omega
  | succ k =>
   have:=ih (k:=k) (by simpa using hk)
   simp only[List.set_cons_succ,Ac,List.getD_cons_succ]
   omega
theorem Ue:∀ (p:List Int)(t x:Term),size (IG t p x)<=size t+size x
 | [],t,x=>by simp only[IG];omega
 | i::p,t,x=>by
  have h1:=AJ t
  have h2:=AJ (IG t (i::p) x)
  rw[h2,U8]
  split
  ·rename_i hi
   have hk:i.toNat<t.args.length:=by omega
   have h3:=mZ (x:=IG (t.args.getD i.toNat default) p x) hk
   have h4:=Ue p (t.args.getD i.toNat default) x
   omega
  ·omega
theorem Zf {t:Term}(h:BO t=true):size t<=4000:=by
 simp only[BO,Bool.and_eq_true,decide_eq_true_eq]at h;exact h.1
def AbV (t:Term):Prop:=short t=true/\size t<=4000
theorem Yl {t:Term}(h:F2 t=0):AbV t:=by
 unfold F2 at h
 split at h
 ·rename_i h1
  split at h
  ·rename_i h2;exact⟨TC t h1,Zf h2⟩
  ·omega
 ·omega
def uu (p:List Int):List V:=[Ht p]
abbrev SO (l:List (List Int)):V:=DI uu 1 l
theorem AcR (p:List Int):(uu p)[0]?=some (Ht p):=rfl
theorem xy (p:List Int):(uu p).length=1:=rfl
attribute [push_cast] AcR xy
mutual
theorem Sj:∀ (t:Term)(p:List Int),∀ x∈Aq t p,x.2.name.length<tb t
 | .mk n v l,p,x,hx=>by
  rw[GQ]at hx
  simp only[tb]
  rcases List.mem_cons.1 hx with rfl | hx
  ·simp only[Term.name];omega
  ·have:=Vm l p 0 x hx;simp only[tbs]at this;omega
theorem Vm:∀ (l:List Term)(p:List Int)(i:Nat),∀ x∈B6 l p i,x.2.name.length<tbs l
 | [],p,i,x,hx=>by simp[B6]at hx
 | a::l,p,i,x,hx=>by
  simp only[B6,List.mem_append]at hx
  simp only[tbs,tb.tbs]
  rcases hx with hx | hx
  ·have:=Sj a _ x hx;omega
  ·have:=Vm l _ _ x hx;simp only[tbs]at this;omega
end
theorem RO {M:Nat}:∀ (l:List (List Int×Term)) {m m':SI},Dk m l=some m'->(∀ x∈l,x.2.name.length<M)->(∀ p∈m,p.1.length<M)->∀ p∈m',p.1.length<M
 | [],m,m',h,_,hm=>by cases h;exact hm
 | x::l,m,m',h,hl,hm=>by
  simp only[Dk]at h
  cases hs:D5 m x.2 with
  | none=>rw[hs]at h;cases h
  | some m1 =>
   rw[hs,Option.bind_some]at h
   refine RO l h (fun y hy=>hl y (by simp[hy])) ?_
   unfold D5 at hs
   split at hs
   ·cases hs;exact hm
   ·split at hs
    ·split at hs
     ·cases hs;exact hm
     ·cases hs
    ·cases hs
     intro p hp
     rcases List.mem_append.1 hp with hp | hp
     ·exact hm p hp
     ·simp only[List.mem_singleton]at hp;subst hp;exact hl x (by simp)
theorem Ta {M:Nat}:∀ (r:List A2) {m m':SI},CF m r=some m'->KZ r<=M->(∀ p∈m,p.1.length<M)->∀ p∈m',p.1.length<M
 | [],m,m',h,_,hm=>by cases h;exact hm
 | x::r,m,m',h,hM,hm=>by
  simp only[CF]at h
  simp only[KZ]at hM
  cases ha:Dk m (Aq x.left [])with
  | none=>rw[ha]at h;cases h
  | some m1 =>
   rw[ha,Option.bind_some]at h
   cases hb:Dk m1 (Aq x.right [])with
   | none=>rw[hb]at h;cases h
   | some m2 =>
    rw[hb,Option.bind_some]at h
    exact Ta r h (by omega) (RO _ hb (fun y hy=>by have:=Sj _ _ y hy;omega) (RO _ ha (fun y hy=>by have:=Sj _ _ y hy;omega) hm))
theorem LU (r:List A2)(hs:KZ r<2^38):PF DX [Ak r] (.int .i64 (Am r)) :=
 RU r hs fun m hm p hp=>by have:=Ta r hm (Nat.le_refl _) (by simp) p hp;omega
theorem N6:∀ {r:List A2},Dp r=0->∀ x∈r,F2 x.left=0/\F2 x.right=0
 | [],_,x,hx=>by cases hx
 | y::r,h,x,hx=>by
  simp only[Dp]at h
  split at h
  ·omega
  ·rename_i h1
   rcases List.mem_cons.1 hx with rfl | hx
   ·simp only[Je,ne_eq,Classical.not_not]at h1
    split at h1
    ·omega
    ·rename_i h2
     split at h1
     ·omega
     ·rename_i h3
      exact⟨by simpa using h2,by simpa using h3⟩
   ·exact N6 h x hx
theorem NB {r:List A2}(h:Am r=0):∀ x∈r,AbV x.left/\AbV x.right:=by
 have h1:Bl r=0:=by
  unfold Am at h
  split at h
  ·rename_i h1;exact absurd h h1
  ·rename_i h1;simpa using h1
 unfold Bl at h1
 split at h1
 ·omega
 ·intro x hx
  have:=N6 h1 x hx
  exact⟨Yl this.1,Yl this.2⟩
end Go.Dw
section
namespace Go.Dw
open Go.Proofs.YtkdcfkfdkimaeaaGreatDoor
abbrev okW (W:World):Nat->Nat->Prop:=fun b _=>b<W.heap.size
def LI (W:World)(xs:List V)(cs:List Value):Prop:=MA W (okW W) xs cs/\∀ u∈cs,Co u=true
theorem ax {w:World}{ok:Nat->Nat->Prop}:∀ {xs ys:List V} {cs ds:List Value},MA w ok xs cs->MA w ok ys ds->MA w ok (xs++ys) (cs++ds)
 | [],ys,cs,ds,h1,h2=>by
  have h1:cs=[]:=h1
  subst h1;exact h2
 | x::xs,ys,cs,ds,⟨v,vs,e,h1,h2⟩,h3=>by
  subst e
  exact⟨v,vs++ds,rfl,h1,ax h2 h3⟩
theorem Zx {w:World}{ok:Nat->Nat->Prop}:∀ {xs:List V} {cs:List Value} {i:Nat} {x:V},MA w ok xs cs->xs[i]?=some x->∃ v,cs[i]?=some v/\Gv w ok x v
 | [],_,i,x,_,h=>by simp at h
 | y::xs,cs,i,x,⟨v,vs,e,h1,h2⟩,h=>by
  subst e
  cases i with
  | zero=>simp only[List.getElem?_cons_zero,Option.some.injEq]at h;subst h;exact⟨v,rfl,h1⟩
  | succ i=>simp only[List.getElem?_cons_succ]at h ⊢;exact Zx h2 h
theorem LI.app {W:World}{xs ys:List V}{cs ds:List Value}(h1:LI W xs cs)(h2:LI W ys ds):LI W (xs++ys) (cs++ds) :=
 ⟨ax h1.1 h2.1,fun u hu=>(List.mem_append.1 hu).elim (h1.2 u) (h2.2 u)⟩
theorem LI.one {W:World}{x:V}{c:Value}(h:Gv W (okW W) x c)(ho:Co c=true):LI W [x] [c]:=⟨⟨c,[],rfl,h,rfl⟩,fun u hu=>by simp only[List.mem_singleton]at hu;subst hu;exact ho⟩
section
variable {H:Type} {enc:TypeId × Value->H} {W:World}
noncomputable abbrev uG (enc:TypeId×Value->H)(W:World):=DataW.trod enc prog W 0 (fun _=>true) true
def Br {α:Type}(enc:TypeId×Value->H)(W:World)(n:Nat)(t:TypeId)(c:α->List V)(b:α->Nat):Prop:=∀ cs x,uG enc W n t cs=some x->Rows.uptoBulk x.1<=1048576->∃ a,b a<=Rows.uptoBulk x.1/\LI W (c a) cs
theorem rD {n:Nat}:Br enc W n C7 (fun s:A9=>[.str s]) (fun s=>s.length+1):=by
 intro cs x h _
 obtain⟨s,rfl,rfl,_⟩:=DataW.trod_string (P:=prog) Go.Proofs.Tryz.underlying9 h
 refine⟨s.data.toList,by simp[Rows.uptoBulk],LI.one ?_ rfl⟩
 show Value.string s=.string ⟨⟨s.data.toList⟩⟩
 cases s with | mk d=>cases d;rfl
theorem kz {n:Nat}:Br enc W n jg (fun s:Bool=>[.bool s]) (fun _=>1):=by
 intro cs x h _
 obtain⟨s,rfl,rfl⟩:=DataW.trod_bool (P:=prog) Go.Proofs.Tryz.underlying4 h
 exact⟨s,by simp[Rows.uptoBulk],LI.one rfl rfl⟩
theorem AaK {n:Nat}:Br enc W n EN (fun s:Int=>cI s) (fun _=>1):=by
 intro cs x h _
 obtain⟨s,rfl,rfl,_⟩:=DataW.trod_int (P:=prog) Go.Proofs.Tryz.underlying3 h
 exact⟨s,by simp[Rows.uptoBulk],LI.one rfl rfl⟩
theorem nw {w:World}{a:Addr}{v:Value}(h:w.cell? a=some v):a.spot=none/\a.block<w.heap.size:=by
 unfold World.cell? at h
 split at h
 ·rename_i hb
  split at h
  ·cases h
  ·rename_i hs
   exact⟨by cases hq:a.spot<;>simp_all,(Array.getElem?_eq_some_iff.1 hb).1⟩
 ·cases h
theorem fc {a:Addr}(h:a.spot=none)(n:Nat):a.add n=⟨a.block,a.off+n,none⟩:=by
 unfold Addr.add
 split
 ·rename_i h0;subst h0;cases a;simp_all
 ·rfl
def Uw {α:Type}(b:α->Nat):List α->Nat
 | []=>0
 | x::l=>b x+Uw b l
theorem Aaa (d:DataW H):1<=Rows.uptoBulk d:=by
 cases d with
 | lit l=>cases l<;>simp[Rows.uptoBulk]
 | _=>simp[Rows.uptoBulk]
theorem sP (l:List (DataW H)):l.length<=Rows.uptoBulkAll l:=by
 induction l with
 | nil=>simp[Rows.uptoBulkAll]
 | cons x r ih=>have:=Aaa x;simp only[Rows.uptoBulkAll,List.length_cons];omega
theorem mq {d:DataW H}{l:List (DataW H)}(h:d∈l):Rows.uptoBulk d<=Rows.uptoBulkAll l:=by
 induction l with
 | nil=>cases h
 | cons x r ih =>
  simp only[Rows.uptoBulkAll]
  rcases List.mem_cons.1 h with e | e
  ·subst e;omega
  ·have:=ih e;omega
theorem lg {α:Type}{b:α->Nat}:∀ {l:List α} {es:List (DataW H×List MemPlace)},l.length=es.length->(∀ (i:Nat)(a:α)(e:DataW H×List MemPlace),l[i]?=some a->es[i]?=some e->b a<=Rows.uptoBulk e.1)->Uw b l<=Rows.uptoBulkAll (es.map (·.1))
 | [],[],_,_=>by simp[Uw]
 | [],_::_,h,_=>by simp at h
 | _::_,[],h,_=>by simp at h
 | a::l,e::es,h,hb=>by
  have h1:=hb 0 a e rfl rfl
  have h2:=lg (l:=l) (es:=es) (by simpa using h) fun i a' e' h1 h2=>hb (i+1) a' e' (by simpa using h1) (by simpa using h2)
  simp only[Uw,List.map_cons,Rows.uptoBulkAll];omega
theorem Y4 {α:Type}{n:Nat}{ts t:TypeId}{sz:Nat}{c:α->List V}{b:α->Nat}(hts:prog.underlying ts=some (.slice t))(hsz:prog.cellsOf t=sz)(hpos:0<sz)(hc:∀ a,(c a).length=sz)
  (h:∀ m,m+1=n->Br enc W m t c b):Br enc W n ts (fun l:List α=>[DI c sz l]) (fun l=>Uw b l+1):=by
 intro cs x hx hbk
 rcases DataW.trod_slice (P:=prog) hts hx with ⟨rfl,rfl⟩|⟨a,len,cap,E4,rest,m,rfl,rfl,rfl,_,hle,hcap,hlen,hel,_,_⟩
 ·exact⟨[],by simp[Uw,Rows.uptoBulk],LI.one ⟨none,0,0,0,rfl,Nat.le_refl _,by unfold C0;omega,by unfold Ah;simp,.inl rfl,trivial⟩ rfl⟩
 ·have hbr:=h m rfl
  have hba:Rows.uptoBulkAll (E4.map (·.1))<=1048576:=by simp only[Rows.uptoBulk]at hbk;omega
  have hln:=sP (E4.map (·.1))
  rw[List.length_map]at hln
  rw[hsz]at hel
  have step:∀ i,i<len->∃ y:α,(∀ e,E4[i]?=some e->b y<=Rows.uptoBulk e.1)/\∃ ecs,W.cells? 0 (a.add (i*sz)) sz=some ecs/\LI W (c y) ecs:=by
   intro i hi
   have h1:=hel i hi
   have hil:i<E4.length:=by omega
   rw[List.getElem?_eq_getElem hil]at h1
   simp only[Option.bind_eq_some_iff]at h1
   obtain⟨ecs,h2,h3⟩:=h1
   obtain⟨y,hy1,hy2⟩:=hbr ecs _ h3 (Nat.le_trans (mq (List.mem_map.2 ⟨_,List.getElem_mem hil,rfl⟩)) hba)
   refine⟨y,fun e he=>?_,ecs,h2,hy2⟩
   rw[List.getElem?_eq_getElem hil]at he
   cases he;exact hy1
  obtain⟨f,hf⟩:∃ f:Nat->Option α,∀ i,i<len->∃ y,f i=some y/\(∀ e,E4[i]?=some e->b y<=Rows.uptoBulk e.1)/\∃ ecs,W.cells? 0 (a.add (i*sz)) sz=some ecs/\LI W (c y) ecs:=by
   refine⟨fun i=>if h:i<len then some (Classical.choose (step i h)) else none,fun i hi=>?_⟩
   exact⟨Classical.choose (step i hi),by simp[hi],Classical.choose_spec (step i hi)⟩
  have hl:∀ k,k<=len->∃ l:List α,l.length=k/\∀ i,i<k->f i=l[i]?:=by
   intro k
   induction k with
   | zero=>intro _;exact⟨[],rfl,fun i hi=>by omega⟩
   | succ k ih =>
    intro hk
    obtain⟨l,h1,h2⟩:=ih (by omega)
    obtain⟨y,hy,_⟩:=hf k (by omega)
    refine⟨l++[y],by simp[h1],fun i hi=>?_⟩
    rcases Nat.lt_succ_iff_lt_or_eq.1 hi with h3 | rfl
    ·rw[List.getElem?_append_left (by omega)];exact h2 i h3
    ·rw[List.getElem?_append_right (by omega),h1];simpa using hy
  obtain⟨l,hl1,hl2⟩:=hl len (Nat.le_refl _)
  have hat:∀ i y,l[i]?=some y->(∀ e,E4[i]?=some e->b y<=Rows.uptoBulk e.1)/\∃ ecs,W.cells? 0 (a.add (i*sz)) sz=some ecs/\LI W (c y) ecs:=by
   intro i y hy
   have hi:i<len:=by rw[<-hl1];exact (List.getElem?_eq_some_iff.1 hy).1
   obtain⟨z,h1,h2⟩:=hf i hi
   rw[hl2 i hi,hy]at h1
   cases h1;exact h2
  refine⟨l,?_,LI.one ?_ rfl⟩
  ·have:=lg (b:=b) (l:=l) (es:=E4) (by omega) fun i y e h1 h2=>(hat i y h1).1 e h2
   simp only[Rows.uptoBulk];omega
  ·have hspot:l≠[]->a.spot=none/\a.block<W.heap.size:=by
    intro hne
    obtain⟨y,hy⟩:∃ y,l[0]?=some y:=by cases l with | nil=>exact absurd rfl hne | cons y l=>exact⟨y,rfl⟩
    obtain⟨_,ecs,h1,h2⟩:=hat 0 y hy
    obtain⟨_,g1,g2⟩:=World.cells?_some h1
    have h3:=g2 0 hpos
    have hel:ecs.length=sz:=g1
    obtain⟨e0,he0⟩:∃ e0,ecs[0]?=some e0:=⟨ecs[0]'(by omega),List.getElem?_eq_getElem (by omega)⟩
    rw[he0]at h3
    simpa[Addr.add]using nw h3
   refine⟨some a,cap,a.block,a.off,by simp[hl1],by simpa[hl1]using hle,by unfold C0;unfold maxLen at hcap;omega,?_,?_,Ie fun i e he=>?_⟩
   ·rw[List.length_map];unfold Ah;omega
   ·by_cases hne:l=[]
    ·left;simp[hne]
    ·right
     have:=(hspot hne).1
     cases a;simp_all
   ·rw[List.getElem?_map]at he
    cases hy:l[i]? with
    | none=>rw[hy]at he;cases he
    | some y =>
     rw[hy]at he
     simp only[Option.map_some,Option.some.injEq]at he
     subst he
     obtain⟨_,ecs,h1,h2⟩:=hat i y hy
     obtain⟨_,g1,g2⟩:=World.cells?_some h1
     obtain⟨hsp,hbl⟩:=hspot (by intro e;rw[e]at hy;simp at hy)
     refine⟨hc y,IF fun j x hx=>?_⟩
     obtain⟨v,k1,k2⟩:=Zx h2.1 hx
     have hj:j<sz:=by rw[<-hc y];exact (List.getElem?_eq_some_iff.1 hx).1
     have h3:=g2 j hj
     rw[k1,fc hsp,fc rfl]at h3
     refine⟨v,?_,hbl,h2.2 v (List.mem_of_getElem? k1),k2⟩
     rw[Nat.zero_add,<-Nat.add_assoc]
     exact h3
theorem AbW {α:Type}{cs:List α}{a b:Nat}(h:cs.length=a+b):cs=(cs.drop 0).take a++(cs.drop a).take b:=by
 rw[List.drop_zero,List.take_of_length_le (l:=cs.drop a) (by simp;omega),List.take_append_drop]
theorem Ab0 {α:Type}{cs:List α}{a b c:Nat}(h:cs.length=a+b+c):cs=(cs.drop 0).take a++((cs.drop a).take b++(cs.drop (a+b)).take c):=by
 have h1:cs.drop a=(cs.drop a).take b++(cs.drop (a+b)).take c:=by
  rw[List.take_of_length_le (l:=cs.drop (a+b)) (by simp;omega),<-List.drop_drop,List.take_append_drop]
 rw[<-h1,List.drop_zero,List.take_append_drop]
theorem ta (l:List Term):Uw tb l=tbs l:=by
 induction l with
 | nil=>rfl
 | cons a l ih=>simp only[Uw,tbs,tb.tbs,ih]
theorem ko:∀ l:List A2,Uw (fun x:A2=>1+tb x.left+tb x.right) l=KZ l
 | []=>rfl
 | a::l=>by simp only[Uw,KZ,ko l]
theorem c9:prog.cellsOf 9=1:=by kernel_rfl
theorem c4:prog.cellsOf 4=1:=by kernel_rfl
theorem c3:prog.cellsOf 3=1:=by kernel_rfl
theorem c33:prog.cellsOf 33=1:=by kernel_rfl
theorem c35:prog.cellsOf 35=1+1+1:=by kernel_rfl
theorem Adz:prog.cellsOf 107=3+3:=by kernel_rfl
theorem cO:∀ n,Br enc W n 35 cT tb
 | 0=>by intro cs x h;simp[DataW.trod]at h
 | n+1=>by
  intro cs x h hbk
  obtain⟨xs,m,hm,rfl,hl,hlen,hf⟩:=DataW.trod_struct (P:=prog) Go.Proofs.Tryz.underlying35 h
  obtain rfl:n=m:=by omega
  rw[c35]at hl
  match xs,hlen with
  | [x0,x1,x2],_ =>
  have f0:uG enc W n 9 ((cs.drop 0).take (prog.cellsOf 9))=some x0:=hf 0 _ rfl
  have f1:uG enc W n 4 ((cs.drop 1).take (prog.cellsOf 4))=some x1:=hf 1 _ rfl
  have f2:uG enc W n 33 ((cs.drop 2).take (prog.cellsOf 33))=some x2:=hf 2 _ rfl
  rw[c9]at f0;rw[c4]at f1;rw[c33]at f2
  simp only[List.map_cons,List.map_nil,Rows.uptoBulk,Rows.uptoBulkAll]at hbk ⊢
  obtain⟨s,b0,d0⟩:=rD _ _ f0 (by omega)
  obtain⟨v,b1,d1⟩:=kz _ _ f1 (by omega)
  obtain⟨l,b2,d2⟩:=Y4 (n:=n) (sz:=3) (c:=cT) (b:=tb) Go.Proofs.Tryz.underlying33 c35 (by omega) (fun _=>rfl) (fun m hm=>cO m) _ _ f2 (by omega)
  try dsimp only at b0
  try dsimp only at b1
  try dsimp only at b2
  refine⟨.mk s v l,?_,?_⟩
  ·rw[ta]at b2
   simp only[tb]
   simp only[tbs]at b2
   omega
  ·rw[Ab0 hl,OV]
   exact d0.app (d1.app d2)
theorem vA:∀ n,Br enc W n 107 cR (fun x=>1+tb x.left+tb x.right)
 | 0=>by intro cs x h;simp[DataW.trod]at h
 | n+1=>by
  intro cs x h hbk
  obtain⟨xs,m,hm,rfl,hl,hlen,hf⟩:=DataW.trod_struct (P:=prog) Go.Proofs.Tryz.underlying107 h
  obtain rfl:n=m:=by omega
  rw[Adz]at hl
  match xs,hlen with
  | [x0,x1],_ =>
  have f0:uG enc W n 35 ((cs.drop 0).take (prog.cellsOf 35))=some x0:=hf 0 _ rfl
  have f1:uG enc W n 35 ((cs.drop 3).take (prog.cellsOf 35))=some x1:=hf 1 _ rfl
  rw[c35]at f0 f1
  simp only[List.map_cons,List.map_nil,Rows.uptoBulk,Rows.uptoBulkAll]at hbk ⊢
  obtain⟨s,b0,d0⟩:=cO n _ _ f0 (by omega)
  obtain⟨v,b1,d1⟩:=cO n _ _ f1 (by omega)
  try dsimp only at b0
  try dsimp only at b1
  refine⟨⟨s,v⟩,by dsimp only;omega,?_⟩
  rw[AbW hl]
  exact d0.app d1
theorem sn {n:Nat}:Br enc W n 22 (fun r:List A2=>[Ak r]) (fun r=>KZ r):=by
 intro cs x h hbk
 obtain⟨l,b0,d0⟩:=Y4 (n:=n) (sz:=6) (c:=cR) (b:=fun x=>1+tb x.left+tb x.right) Go.Proofs.Tryz.underlying22 Adz (by omega) (fun _=>rfl) (fun m hm=>vA m) _ _ h hbk
 refine⟨l,?_,d0⟩
 have:Uw (fun x:A2=>1+tb x.left+tb x.right) l=KZ l:=ko l
 dsimp only at b0 ⊢
 omega
end
end Go.Dw
end
section
namespace Go.Dw
open Go.ChangeShapes Go.WideShapes Go.ChangeAt Go.RowKit Go.Proofs
theorem mF {H:Type}{enc:TypeId×Value->H}{P:Program}{f:Func}{s:ChangeSpec}{apart fresh handsOn again:Bool}{W W':World}{args:Array Value}{v:Value}{ds gs:List (DataW H)}{before pa pv:List MemPlace}
  (hW:DataW.Whole enc P f.params.toList s.vars apart W args.toList ds gs before)
  (hres:∀ (b:Nat)(sp:Nat->Bool)(hd:Bool),DataW.TrodAll enc P W' b sp hd f.resultTypes.toList (v.resultList f.resultTypes.size) (s.fn H (ds++gs)).results [])
  (hargs:∀ sp:Nat->Bool,(∀ p∈before,sp p.block=true)->DataW.TrodAll enc P W' 0 sp true f.params.toList args.toList (s.fn H (ds++gs)).args pa)
  (hvars:∀ sp:Nat->Bool,(∀ p∈before,sp p.block=true)->DataW.TrodVars enc P W' sp s.vars (s.fn H (ds++gs)).vars pv)
  (hps:before=pa++pv) (hk:W.keptBut W' (·∈before)) (hfz:∀ a:Addr,a.block<W.heap.size->W'.frozen? a=W.frozen? a)
  (hok:∀ (j:Nat)(t:TypeId)(r:Value),f.resultTypes[j]?=some t->(v.resultList f.resultTypes.size)[j]?=some r->Value.okWide P W' .any 0 t r) :
  s.post enc P f apart fresh handsOn again W args v W':=by
 have hold:∀ p∈before,(fun b=>decide (b<W.heap.size)) p.block=true:=fun p hp=>by simpa using hW.lt p hp
 have hlt:=hW.lt
 refine⟨ds,gs,before,[],pa,pv,hW,hres _ _ _,hargs _ hold,hvars _ hold,World.keptBut_mono (fun p hp=>⟨hp,?_⟩) hk,fun _=>?_⟩
 ·rw[hps,List.mem_append]at hp
  exact Or.inr hp
 ·obtain⟨_,_,_,_,_,hz,hn⟩:=hW
  refine⟨hok,_,_,([]++pa)++pv,⟨[]++pa,pv,trodAll_append (hargs _ (fun _ _=>rfl)) (hres _ _ _),hvars _ (fun _ _=>rfl),rfl,?_,?_⟩,?_⟩
  ·intro b off hp
   have hp':MemPlace.cell b off∈before:=by rw[hps];simpa using hp
   rw[hfz _ (hlt _ hp')]
   exact hz b off hp'
  ·intro ha
   have:=hn ha
   rw[hps]at this
   simpa using this
  ·intro p hp _
   rw[hps]
   simpa using hp
theorem UY {H:Type}{enc:TypeId×Value->H}{P:Program}{W W':World}(hh:∀ b,b<W.heap.size->W'.heap[b]?=W.heap[b]?){base:Nat}{sp:Nat->Bool}{held:Bool} :
  ∀ {ts:List TypeId} {vs:List Value} {ds:List (DataW H)} {ps:List MemPlace},DataW.TrodAll enc P W base sp held ts vs ds ps->DataW.TrodAll enc P W' base sp held ts vs ds ps
 | [],[],[],_,h=>h
 | [],[],_::_,_,h=>h.elim
 | [],_::_,_,_,h=>h.elim
 | _::_,[],_,_,h=>h.elim
 | _::_,_::_,[],_,h=>h.elim
 | t::ts,v::vs,d::ds,ps,⟨p,q,⟨n,h1⟩,h2,e⟩=>by
  refine⟨p,q,⟨n,DataW.trod_carry n _ _ _ h1 fun x hx=>?_⟩,UY hh h2,e⟩
  have hl:=DataW.trod_lt n _ _ _ h1 x hx
  cases x with
  | cell b o=>exact World.cell?_of_block (w:=W) (hh b hl)
  | map b=>exact hh b hl
end Go.Dw
end
namespace Go.Dw
inductive A0 where
 | mk (rule:Int) (name:A9) (var:Bool) (args:List A0)
deriving Inhabited
namespace A0
def rule:A0->Int | mk r _ _ _=>r
def name:A0->A9 | mk _ n _ _=>n
def var:A0->Bool | mk _ _ v _=>v
def args:A0->List A0 | mk _ _ _ a=>a
theorem eta (t:A0):mk t.rule t.name t.var t.args=t:=by cases t;rfl
end A0
mutual
def kC:A0->List (List V)
 | .mk _ _ _ ts=>Wo ts
def Wo:List A0->List (List V)
 | []=>[]
 | a::ts=>[.int .i64 a.rule,.str a.name,.bool a.var,.sl 4 (kC a)]::Wo ts
end
def cM (t:A0):List V:=[.int .i64 t.rule,.str t.name,.bool t.var,.sl 4 (kC t)]
theorem oa (ts:List A0):Wo ts=ts.map cM:=by
 induction ts with
 | nil=>simp[Wo]
 | cons a ts ih=>simp[Wo,ih,cM]
theorem qx (t:A0):kC t=t.args.map cM:=by cases t;simp[kC,oa,A0.args]
abbrev CB (l:List A0):V:=DI cM 4 l
theorem Tm (t:A0):cM t=[.int .i64 t.rule,.str t.name,.bool t.var,CB t.args]:=by rw[cM,qx];rfl
def Ar (t:A0):V:=.agg (cM t)
theorem pi (t:A0):Kt (Ar t)=some (cM t):=rfl
theorem zK (t:A0):(cM t).length=4:=rfl
theorem Ad3 (t:A0):(cM t)[0]?=some (.int .i64 t.rule):=rfl
theorem Ad0 (t:A0):(cM t)[1]?=some (.str t.name):=rfl
theorem Aew (t:A0):(cM t)[2]?=some (.bool t.var):=rfl
theorem Aeu (t:A0):(cM t)[3]?=some (CB t.args):=by rw[Tm];rfl
theorem AaZ (t:A0):sub 0 4 (cM t)=cM t:=rfl
theorem nJ (t:A0):V.agg (cM t)=Ar t:=rfl
theorem lz {σ:Nat->Option Nat}(t:A0):AR σ (cM t)=cM t:=rfl
theorem qF {σ:Nat->Option Nat}(t:A0):ren σ (Ar t)=Ar t:=by unfold Ar;rw[Gz,lz]
theorem sj (r:Int)(n:A9)(v:Bool)(l:List A0):[V.int .i64 r,V.str n,.bool v,CB l]=cM (.mk r n v l):=by rw[Tm];rfl
theorem YP (t:A0)(k:Nat):mN k none (Ar t)=(cM t)[k]?:=rfl
theorem kU (x:List V)(a b c d:V)(h:x.length=4):put 0 x [a,b,c,d]=x:=by
 simp only[put,h];simp
theorem zt (t:A0)(a b c d:V):put 0 (cM t) [a,b,c,d]=cM t:=kU _ _ _ _ _ rfl
theorem xX (t u:A0):put 0 (cM t) (cM u)=cM t:=kU _ _ _ _ _ rfl
attribute [push_cast] pi zK Ad3 Ad0 Aew Aeu AaZ nJ qF lz YP zt xX
mutual
def As:A0->Nat
 | .mk _ _ _ l=>1+Bv l
def Bv:List A0->Nat
 | []=>0
 | a::l=>As a+Bv l
end
mutual
def Bd:A0->Nat
 | .mk _ _ _ l=>AY l+1
def AY:List A0->Nat
 | []=>0
 | a::l=>max (Bd a) (AY l)
end
mutual
def mb:A0->Nat
 | .mk _ n _ l=>1+n.length+uB l
def uB:List A0->Nat
 | []=>0
 | a::l=>mb a+uB l
end
theorem Rs (a b:List A0):Bv (a++b)=Bv a+Bv b:=by
 induction a with
 | nil=>simp[Bv]
 | cons x xs ih=>simp[Bv,ih];omega
theorem AQ (t:A0):As t=1+Bv t.args:=by cases t;simp[As,A0.args]
theorem El (t:A0):Bd t=AY t.args+1:=by cases t;simp[Bd,A0.args]
theorem Wj (t:A0):mb t=1+t.name.length+uB t.args:=by cases t;simp[mb,A0.args,A0.name]
theorem J4 (l:List A0)(k:Nat)(h:k<l.length):Bv (l.take (k+1))=Bv (l.take k)+As (l.getD k default):=by
 rw[Aa h,Rs];simp[Bv]
theorem Q9 (l:List A0)(k:Nat):Bv (l.take k)<=Bv l:=by
 conv=>rhs;rw[<-List.take_append_drop k l]
 rw[Rs];omega
theorem CL {l:List A0}{a:A0}(h:a∈l):As a<=Bv l:=by
 induction l with
 | nil=>cases h
 | cons x xs ih=>rcases List.mem_cons.1 h with rfl | h<;>simp[Bv];have:=ih h;omega
theorem rK {l:List A0}{a:A0}(h:a∈l):mb a<=uB l:=by
 induction l with
 | nil=>cases h
 | cons x xs ih=>rcases List.mem_cons.1 h with rfl | h<;>simp[uB];have:=ih h;omega
theorem AV (l:List A0):l.length<=Bv l:=by
 induction l with
 | nil=>simp
 | cons x xs ih=>simp only[Bv,List.length_cons];have:=AQ x;omega
theorem Wu (a b:List A0):AY (a++b)=max (AY a) (AY b):=by
 induction a with
 | nil=>simp[AY]
 | cons x xs ih=>simp[AY,ih,Nat.max_assoc]
theorem Cr {p:A0->Prop}(h:∀ t,(∀ a∈t.args,p a)->p t)(t:A0):p t:=by
 have:∀ n t,As t<=n->p t:=by
  intro n
  induction n with
  | zero=>intro t ht;have:=AQ t;omega
  | succ n ih =>
   intro t ht
   refine h t fun a ha=>ih a ?_
   have:=AQ t
   have:=CL ha
   omega
 exact this (As t) t (Nat.le_refl _)
theorem VS (t:A0):Bd t<=As t:=by
 induction t using Cr with
 | h t ih =>
  rw[El,AQ]
  have:∀ l:List A0,(∀ a∈l,Bd a<=As a)->AY l<=Bv l:=by
   intro l
   induction l with
   | nil=>intro _;simp[AY]
   | cons x l ihl =>
    intro hl
    have h1:=hl x (by simp)
    have h2:=ihl fun a ha=>hl a (by simp[ha])
    simp only[AY,Bv];omega
  have:=this t.args ih
  omega
theorem Gd (t:A0):As t<=mb t:=by
 induction t using Cr with
 | h t ih =>
  rw[Wj,AQ]
  have:∀ l:List A0,(∀ a∈l,As a<=mb a)->Bv l<=uB l:=by
   intro l
   induction l with
   | nil=>intro _;simp[uB,Bv]
   | cons x l ihl =>
    intro hl
    have h1:=hl x (by simp)
    have h2:=ihl fun a ha=>hl a (by simp[ha])
    simp only[uB,Bv];omega
  have:=this t.args ih
  omega
theorem IO (l:List A0)(k:Nat)(h:k<l.length):AY (l.take (k+1))=max (AY (l.take k)) (Bd (l.getD k default)):=by
 rw[Aa h,Wu];simp[AY]
theorem Ml (l:List A0):AY l<=Bv l:=by
 induction l with
 | nil=>simp[AY]
 | cons x l ih=>have:=VS x;simp only[AY,Bv];omega
mutual
def meq:A0->A0->Bool
 | .mk r n v l,.mk r' n' v' l'=>r==r'&&n==n'&&v==v'&&il l l'
def il:List A0->List A0->Bool
 | [],[]=>true
 | a::l,b::m=>meq a b&&il l m
 | _,_=>false
end
mutual
theorem aT:∀ a b:A0,meq a b=true↔a=b
 | .mk r n v l,.mk r' n' v' l'=>by simp[meq,eD l l',and_assoc]
theorem eD:∀ a b:List A0,il a b=true↔a=b
 | [],[]=>by simp[il]
 | a::l,b::m=>by simp[il,aT a b,eD l m]
 | [],_::_=>by simp[il]
 | _::_,[]=>by simp[il]
end
instance:DecidableEq A0:=fun a b=>if h:meq a b=true then .isTrue ((aT a b).1 h) else .isFalse fun e=>h ((aT a b).2 e)
theorem YN (s:A9)(h1:s.length<2^62):PF JF [.str s] (.bool (s.all EA)):=by
 refine Ab JT.ok rfl ?_
 push_cast
 refine Ad (n:=s.length) (R:=fun k=>(s.drop k).all EA=s.all EA->JT.L3 (.str s) (.int .i64 s.length) (.int .i64 k) 0 [] _) ?_ ?_ 0 (by omega) rfl
 ·intro k hk ih hq
  rw[Al hk]at hq
  simp only[List.all_cons]at hq
  refine A8.2 ?_
  have hb:uF s k=((s.getD k default).toNat:Int):=rfl
  push_cast[BT hk,hb]
  refine .of (bE _) ?_
  push_cast[CV (show k<2^62 by omega)]
  refine⟨fun h=>A1 ?_,fun h=>ih ?_⟩
  ·push_cast[JT.rs]
   rw[<-hq];simp_all
  ·rw[<-hq];simp_all
 ·intro hq
  refine A8.2 ?_
  push_cast[B8 (Nat.le_refl _)]
  refine A1 ?_
  push_cast[JT.rs]
  rw[<-hq,Ao];rfl
theorem dF {s:A9}(h:s≠[]):Ia s [35]=decide (uF s (s.length-1)=35):=by
 have hl:0<s.length:=List.length_pos_iff.2 h
 have e:s.drop (s.length-1)=[s.getD (s.length-1) default]:=by
  rw[Al (show s.length-1<s.length by omega),show s.length-1+1=s.length by omega,Ao]
 have e2:uF s (s.length-1)=((s.getD (s.length-1) default).toNat:Int):=rfl
 unfold Ia
 rw[e2]
 simp only[List.length_singleton]
 rw[decide_eq_true (show 1<=s.length by omega),Bool.true_and,decide_eq_decide,e]
 generalize s.getD (s.length-1) default=c
 constructor
 ·intro h;simp only[List.cons.injEq,and_true]at h;rw[h];rfl
 ·intro h;simp only[List.cons.injEq,and_true];exact UInt8.toNat_inj.1 (show c.toNat=35 by omega)
theorem Ti (s:A9)(h1:s.length<2^62):PF KK [.str s] (.bool (Ia s [35])):=by
 refine Ab Ok.ok rfl ?_
 by_cases h:s=[]
 ·subst h
  push_cast
  refine A1 ?_
  push_cast[Ok.rs]
  rfl
 ·have hl:0<s.length:=List.length_pos_iff.2 h
  have hlt:(((s.length-1:Nat):Int)<(s.length:Int))=True:=eq_true (by omega)
  push_cast[h,AaG h1 hl,hlt]
  refine A1 ?_
  push_cast[Ok.rs,dF h]
theorem SV (s:A9)(m:Bool)(h1:s.length<2^62):PF Ee [.str s,.bool m] (.bool (Cb s m)):=by
 refine Ab F8.ok rfl ?_
 push_cast
 refine⟨fun h=>A1 ?_,fun h=>?_⟩
 ·push_cast[F8.rs,Cb]
  rw[show decide (s.length<=24)=false from decide_eq_false (by omega)];rfl
 ·have hlen:s.length<=24:=by omega
  have hu:Cb s m=(!decide (Et s m=[])&&(Et s m).all EA):=by simp[Cb,hlen]
  rw[hu]
  have hnl:=XX s m
  have hL:=YN (Et s m) (by omega)
  have fin2:∀ u:A9,u=Et s m->PF JF [.str u] (.bool ((Et s m).all EA)):=fun u hu=>hu▸hL
  cases m with
  | false =>
   have hn:s=Et s false:=rfl
   push_cast
   rw[<-hn]
   by_cases h0:s=[]
   ·push_cast[h0]
    exact A1 (by push_cast[F8.rs])
   ·push_cast[h0]
    refine .of (fin2 s hn) ?_
    push_cast
    exact A1 (by push_cast[F8.rs];rw[<-hn])
  | true =>
   push_cast
   refine .of (Ti s h1) ?_
   cases hm:Ia s [35]with
   | false =>
    have hn:s=Et s true:=by simp[Et,JC,hm]
    push_cast
    rw[<-hn]
    by_cases h0:s=[]
    ·push_cast[h0]
     exact A1 (by push_cast[F8.rs])
    ·push_cast[h0]
     refine .of (fin2 s hn) ?_
     push_cast
     exact A1 (by push_cast[F8.rs];rw[<-hn])
   | true =>
    have hn:(s.drop 0).take (s.length-1-0)=Et s true:=by simp[Et,JC,hm]
    have hl:0<s.length:=by
     unfold Ia at hm;simp only[Bool.and_eq_true,decide_eq_true_eq,List.length_singleton]at hm;omega
    have hle:s.length-1<=s.length:=by omega
    by_cases h0:Et s true=[]
    ·push_cast[AaG h1 hl,hn,hle,h0]
     refine⟨by omega,?_⟩
     exact A1 (by push_cast[F8.rs,h0])
    ·push_cast[AaG h1 hl,hn,hle,h0]
     refine⟨by omega,.of hL ?_⟩
     push_cast
     exact A1 (by push_cast[F8.rs,h0])
theorem RE (t:Term)(hs:size t<2^62):PF Jo [Ap t] (.int .i64 (size t)):=by
 induction t using Ag with
 | h t ih =>
 refine Ab Sz.ok rfl ?_
 have hst:=AJ t
 have hl:=Aj t.args
 push_cast
 refine Ad (n:=t.args.length) (R:=fun k=>Sz.L3 (.int .i64 ((1+Ac (t.args.take k):Nat):Int)) (Bg t.args) (.int .i64 t.args.length) (.int .i64 k) 0 [] _) ?_ ?_ 0 (by omega)
 ·intro k hk ih2
  have h1:=Ft _ _ hk
  have h2:=Ez t.args (k+1)
  have hm:=A4 hk
  refine A8.2 ?_
  push_cast[BT hk]
  refine .of (ih _ hm (by omega)) ?_
  push_cast[CV (show k<2^62 by omega)]
  rw[Bs (by omega) (by omega)]
  rw[h1]at ih2
  simpa[Int.add_assoc]using ih2
 ·refine A8.2 ?_
  push_cast[B8 (Nat.le_refl _)]
  refine A1 ?_
  push_cast[Sz.rs,List.take_length,hst]
theorem PP (t:Term)(hs:size t<2^62):PF I0 [Ap t] (.int .i64 (depth t)):=by
 induction t using Ag with
 | h t ih =>
 refine Ab QB.ok rfl ?_
 have hst:=AJ t
 have hl:=Aj t.args
 have hd:=E6 t.args
 push_cast
 refine Ad (n:=t.args.length) (R:=fun k=>QB.L3 (.int .i64 (AC (t.args.take k):Nat)) (Bg t.args) (.int .i64 t.args.length) (.int .i64 k) 0 [] _) ?_ ?_ 0 (by omega)
 ·intro k hk ih2
  have h1:=Nz _ _ hk
  have hm:=A4 hk
  have:=Bt hm
  refine A8.2 ?_
  push_cast[BT hk]
  refine .of (ih _ hm (by omega)) ?_
  push_cast[CV (show k<2^62 by omega)]
  rw[h1]at ih2
  exact ih2
 ·refine A8.2 ?_
  push_cast[B8 (Nat.le_refl _)]
  rw[Bs (by have:=Io t.args t.args.length;omega) (by have:=Io t.args t.args.length;omega)]
  refine A1 ?_
  push_cast[QB.rs,List.take_length,Fg t]
theorem cJ (t:Term)(hs:tb t<2^62):PF KJ [Ap t] (.bool (Ca t)):=by
 induction t using Ag with
 | h t ih =>
 have htb:=KA t
 have hl:=Ha t.args
 have hI:∀ m,PF Ee [.str t.name,.bool m] (.bool (Cb t.name m)):=fun m=>SV _ m (by omega)
 refine Ab Fc.ok rfl ?_
 cases hv:t.var with
 | true =>
  push_cast[hv]
  refine .of (hI false) ?_
  cases hn:Cb t.name false
  ·push_cast
   exact A1 (by push_cast[Fc.rs,EU t,hv,hn])
  ·push_cast
   exact A1 (by push_cast[Fc.rs,EU t,hv,hn];simp)
 | false =>
  push_cast[hv]
  refine .of (hI true) ?_
  have hf:Ca t=(decide (t.args.length<=8)&&(Cb t.name true&&t.args.all Ca)):=by rw[EU,hv];rfl
  rw[hf]
  cases hn:Cb t.name true
  ·push_cast
   exact A1 (by push_cast[Fc.rs])
  ·by_cases h0:t.args.length<=8
   ·have hi:((8:Int)<(t.args.length:Int))=False:=eq_false (by omega)
    push_cast[hi,h0]
    refine Ad (n:=t.args.length) (R:=fun k=>(t.args.drop k).all Ca=t.args.all Ca->Fc.L3 (Bg t.args) (.int .i64 t.args.length) (.int .i64 k) 0 [] _) ?_ ?_ 0 (by omega) rfl
    ·intro k hk ih2 hq
     rw[Al hk]at hq
     simp only[List.all_cons]at hq
     have hm:=A4 hk
     refine A8.2 ?_
     push_cast[BT hk]
     refine .of (ih _ hm (by have:=Ol hm;omega)) ?_
     push_cast[CV (show k<2^62 by omega)]
     refine⟨fun h=>A1 ?_,fun h=>ih2 ?_⟩
     ·push_cast[Fc.rs]
      rw[<-hq];simp_all
     ·rw[<-hq];simp_all
    ·intro hq
     refine A8.2 ?_
     push_cast[B8 (Nat.le_refl _)]
     refine A1 ?_
     push_cast[Fc.rs]
     rw[<-hq,Ao];rfl
   ·have hi:((8:Int)<(t.args.length:Int))=True:=eq_true (by omega)
    push_cast[hi,h0]
    exact A1 (by push_cast[Fc.rs])
theorem et (t:Term)(hs:tb t<2^62):PF Pn [Ap t] (.int .i64 (F2 t)):=by
 have hst:=AS t
 refine Ab Lk.ok rfl ?_
 push_cast
 refine .of (cJ t hs) ?_
 cases hf:Ca t
 ·push_cast
  exact A1 (by push_cast[Lk.rs,F2,hf])
 ·push_cast
  refine .of (RE t (by omega)) ?_
  by_cases h:size t<=4000
  ·have hi:((4000:Int)<(size t:Int))=False:=eq_false (by omega)
   push_cast[hi]
   refine .of (PP t (by omega)) ?_
   by_cases hd:depth t<=200
   ·have hi2:((200:Int)<(depth t:Int))=False:=eq_false (by omega)
    push_cast[hi2]
    exact A1 (by push_cast[Lk.rs,F2,hf,BO,h,hd])
   ·have hi2:((200:Int)<(depth t:Int))=True:=eq_true (by omega)
    push_cast[hi2]
    exact A1 (by push_cast[Lk.rs,F2,hf,BO,h,hd])
  ·have hi:((4000:Int)<(size t:Int))=True:=eq_true (by omega)
   push_cast[hi]
   exact A1 (by push_cast[Lk.rs,F2,hf,BO,h])
theorem WY (l:List Term)(hl:l.length<2^62)(hs:∀ t∈l,tb t<2^62):PF LL [Bg l] (.int .i64 (Je l)):=by
 refine Ab Ig.ok rfl ?_
 push_cast
 refine Ad (n:=l.length) (R:=fun k=>Je (l.drop k)=Je l->Ig.L3 (Bg l) (.int .i64 l.length) (.int .i64 k) 0 [] _) ?_ ?_ 0 (by omega) rfl
 ·intro k hk ih hq
  rw[Al hk]at hq
  simp only[Je]at hq
  refine A8.2 ?_
  push_cast[BT hk]
  refine .of (et _ (hs _ (A4 hk))) ?_
  push_cast[CV (show k<2^62 by omega)]
  refine⟨fun h=>A1 ?_,fun h=>ih ?_⟩
  ·push_cast[Ig.rs]
   rw[<-hq,if_pos (by simpa using h)]
  ·rw[<-hq,if_neg (by simpa using h)]
 ·intro hq
  refine A8.2 ?_
  push_cast[B8 (Nat.le_refl _)]
  refine A1 ?_
  push_cast[Ig.rs]
  rw[<-hq,Ao];rfl
def RJ (a b:Int):Int:=if a<b then -1 else if b<a then 1 else 0
theorem Iv (a b:Int):PF Eo [.int .i64 a,.int .i64 b] (.int .i64 (RJ a b)):=by
 refine Ab Kk.ok rfl ?_
 push_cast
 refine⟨fun h=>A1 ?_,fun h=>⟨fun h2=>A1 ?_,fun h2=>A1 ?_⟩⟩<;>push_cast[Kk.rs,RJ,h]
 ·simp_all
 ·simp_all
def XS:A9->A9->Int
 | [],[]=>0
 | [],_::_=>-1
 | _::_,[]=>1
 | a::s,b::u=>if a=b then XS s u else RJ a.toNat b.toNat
theorem vp:∀ a b:A9,XS a b=Id a b:=by
 intro a b
 rw[W8]
 induction a generalizing b with
 | nil=>cases b<;>simp[XS]
 | cons x a ih =>
  cases b with
  | nil=>simp[XS]
  | cons y b =>
   simp only[XS,List.cons_lt_cons_iff]
   by_cases h:x=y
   ·subst h
    rw[if_pos rfl,ih]
    have:¬ x<x:=UInt8.lt_irrefl x
    simp[this]
   ·rw[if_neg h]
    have h':¬ y=x:=fun e=>h e.symm
    simp only[h,h',false_and,or_false,RJ,UInt8.lt_iff_toNat_lt]
    norm_cast
theorem Ck (a b:A9)(ha:a.length<2^62)(hb:b.length<2^62):PF D7 [.str a,.str b] (.int .i64 (Id a b)):=by
 rw[<-vp]
 refine Ab EL.ok rfl ?_
 have hmn:(if (b.length:Int)<(a.length:Int) then (b.length:Int) else (a.length:Int))=((min a.length b.length:Nat):Int):=by split<;>omega
 push_cast[hmn]
 refine Ad (n:=min a.length b.length) (R:=fun k=>XS (a.drop k) (b.drop k)=XS a b->EL.L3 (.str a) (.str b) (.int .i64 (min a.length b.length:Nat)) (.int .i64 k) 0 [] _) ?_ ?_ 0 (by omega) rfl
 ·intro k hk ih hq
  have hka:k<a.length:=by omega
  have hkb:k<b.length:=by omega
  rw[Al hka,Al hkb]at hq
  simp only[XS]at hq
  have h1:uF a k=((a.getD k default).toNat:Int):=rfl
  have h2:uF b k=((b.getD k default).toNat:Int):=rfl
  have hr:∀ c:UInt8,IntKind.i64.wrap (c.toNat:Int)=c.toNat:=fun c=>Bs (by omega) (by have:=UInt8.toNat_lt c;omega)
  refine A8.2 ?_
  push_cast[BT hk,BT hka,BT hkb,h1,h2,hr,CV (show k<2^62 by omega)]
  refine⟨fun h=>.of (Iv _ _) ?_,fun h=>ih ?_⟩
  ·push_cast
   refine A1 ?_
   push_cast[EL.rs]
   rw[<-hq,if_neg]
   intro e;rw[e]at h;exact h rfl
  ·rw[<-hq,if_pos]
   exact UInt8.toNat_inj.1 (Int.ofNat.inj (by simpa using h))
 ·intro hq
  refine A8.2 ?_
  push_cast[B8 (Nat.le_refl _)]
  refine .of (Iv _ _) ?_
  push_cast
  refine A1 ?_
  push_cast[EL.rs]
  rw[<-hq]
  rcases Nat.lt_or_ge a.length b.length with h | h
  ·rw[Nat.min_eq_left (by omega),Ao,Al h]
   simp[XS,RJ];omega
  ·rw[Nat.min_eq_right (by omega),Ao]
   rcases Nat.lt_or_ge b.length a.length with h2 | h2
   ·rw[Al h2]
    simp[XS,RJ];omega
   ·rw[show b.length=a.length by omega,Ao]
    simp[XS,RJ]
mutual
def D8 (v:A9):Term->Nat
 | .mk n b l=>(if b&&decide (n=v) then 1 else 0)+BW v l
def BW (v:A9):List Term->Nat
 | []=>0
 | a::l=>D8 v a+BW v l
end
theorem Ln (v:A9)(t:Term):D8 v t=(if t.var&&decide (t.name=v) then 1 else 0)+BW v t.args:=by cases t;rfl
theorem JJ (v:A9)(a b:List Term):BW v (a++b)=BW v a+BW v b:=by
 induction a with
 | nil=>simp[BW]
 | cons x xs ih=>simp[BW,ih];omega
theorem TW (v:A9)(l:List Term)(k:Nat)(h:k<l.length):BW v (l.take (k+1))=BW v (l.take k)+D8 v (l.getD k default):=by
 rw[Aa h,JJ];simp[BW]
theorem Qn (v:A9)(l:List Term)(k:Nat):BW v (l.take k)<=BW v l:=by
 conv=>rhs;rw[<-List.take_append_drop k l]
 rw[JJ];omega
mutual
theorem qM (v:A9):∀ t,D8 v t<=size t
 | .mk n b l=>by simp only[D8,size];have:=QV v l;split<;>omega
theorem QV (v:A9):∀ l,BW v l<=Ac l
 | []=>by simp[BW,Ac]
 | a::l=>by simp only[BW,Ac];have:=qM v a;have:=QV v l;omega
end
theorem Vl (t:Term)(v:A9)(hs:size t<2^62):PF K9 [Ap t,.str v] (.int .i64 (D8 v t)):=by
 induction t using Ag with
 | h t ih =>
 have hst:=AJ t
 have hl:=Aj t.args
 have hce:=Ln v t
 have hcl:=QV v t.args
 have fin:∀ c:Nat,c<=1->D8 v t=c+BW v t.args->KU.L3 (.str v) (.int .i64 c) (Bg t.args) (.int .i64 t.args.length) (.int .i64 0) 0 [] (Bx 0 KU.rs fun x' H'=>x'=.int .i64 (D8 v t)/\H'=[]):=by
  intro c hc hcv
  refine Ad (n:=t.args.length) (R:=fun k=>KU.L3 (.str v) (.int .i64 ((c+BW v (t.args.take k):Nat):Int)) (Bg t.args) (.int .i64 t.args.length) (.int .i64 k) 0 [] _) ?_ ?_ 0 (by omega)
  ·intro k hk ih2
   have h1:=TW v _ _ hk
   have h2:=Qn v t.args (k+1)
   have hm:=A4 hk
   have hm2:=Bt hm
   refine A8.2 ?_
   push_cast[BT hk]
   refine .of (ih _ hm (by omega)) ?_
   push_cast[CV (show k<2^62 by omega)]
   rw[Bs (by omega) (by omega)]
   rw[h1]at ih2
   simpa[Int.add_assoc]using ih2
  ·refine A8.2 ?_
   push_cast[B8 (Nat.le_refl _)]
   refine A1 ?_
   push_cast[KU.rs,List.take_length,hcv]
 refine Ab KU.ok rfl ?_
 cases hv:t.var with
 | true =>
  by_cases hn:t.name=v
  ·push_cast[hv,hn]
   exact fin 1 (by omega) (by rw[hce];simp[hv,hn])
  ·push_cast[hv,hn]
   exact fin 0 (by omega) (by rw[hce];simp[hv,hn])
 | false =>
  push_cast[hv]
  exact fin 0 (by omega) (by rw[hce];simp[hv])
def YL {α:Type}(p:α->Bool):List α->Nat
 | []=>0
 | x::l=>if p x then YL p l+1 else 0
theorem UF {α:Type}(p:α->Bool):∀ l:List α,YL p l<=l.length
 | []=>Nat.le_refl _
 | x::l=>by simp only[YL];have:=UF p l;split<;>simp<;>omega
theorem ja {α:Type}[Inhabited α]{p:α->Bool}:∀ {l:List α} {j:Nat},j<YL p l->p (l.getD j default)=true
 | [],j,h=>by simp[YL]at h
 | x::l,j,h=>by
  simp only[YL]at h
  split at h
  ·rename_i hx
   cases j with
   | zero=>simpa using hx
   | succ j=>simpa using ja (l:=l) (j:=j) (by omega)
  ·omega
theorem iT {α:Type}[Inhabited α]{p:α->Bool}:∀ {l:List α},YL p l<l.length->p (l.getD (YL p l) default)=false
 | [],h=>by simp at h
 | x::l,h=>by
  simp only[YL]at h ⊢
  split
  ·rename_i hx
   rw[if_pos hx]at h
   simpa using iT (l:=l) (by simpa using h)
  ·rename_i hx
   simpa using hx
def Pe (l:List A9)(s:A9):List A9:=if YL (fun x=>decide (x<s)) l<l.length/\l.getD (YL (fun x=>decide (x<s)) l) default=s then l else l.take (YL (fun x=>decide (x<s)) l)++s::l.drop (YL (fun x=>decide (x<s)) l)
theorem Xo {l:List A9}{s v:A9}:v∈Pe l s↔v∈l\/v=s:=by
 unfold Pe
 split
 ·rename_i h
  constructor
  ·exact .inl
  ·rintro (h2 | rfl)
   ·exact h2
   ·rw[<-h.2];exact A4 h.1
 ·generalize YL (fun x=>decide (x<s)) l=k
  have:=List.take_append_drop k l
  constructor
  ·intro h
   simp only[List.mem_append,List.mem_cons]at h
   rcases h with h | h | h
   ·exact .inl (List.mem_of_mem_take h)
   ·exact .inr h
   ·exact .inl (List.mem_of_mem_drop h)
  ·rintro (h | rfl)
   ·rw[<-this]at h
    simp only[List.mem_append,List.mem_cons]at h ⊢
    rcases h with h | h
    ·exact .inl h
    ·exact .inr (.inr h)
   ·simp
theorem WN (l:List A9)(s:A9):(Pe l s).length<=l.length+1:=by
 unfold Pe
 have:=UF (fun x=>decide (x<s)) l
 split<;>simp<;>omega
theorem Tu (l:List A9)(s:A9)(hl:l.length<2^40)(hn:∀ x∈l,x.length<2^62)(hs:s.length<2^62):PF KF [Bo l,.str s] (Bo (Pe l s)):=by
 have hle:=UF (fun x=>decide (x<s)) l
 have hge:=@iT _ _ (fun x=>decide (x<s)) l
 have hlt:=fun j=>@ja _ _ (fun x=>decide (x<s)) l j
 unfold Pe
 generalize YL (fun x=>decide (x<s)) l=a at hle hge hlt
 refine Ab Jm.ok rfl ?_
 push_cast
 refine Ad (n:=a) (R:=fun k=>Jm.L4 (Bo l) (.str s) (.int .i64 k) 0 [] _) ?_ ?_ 0 (by omega)
 ·intro k hk ih
  have hkl:k<l.length:=by omega
  have h1:Id (l.getD k default) s<0:=JS.2 (by simpa using hlt k hk)
  refine A8.2 ?_
  push_cast[BT hkl]
  refine .of (Ck _ _ (hn _ (A4 hkl)) hs) ?_
  push_cast[h1,CV (show k<2^62 by omega)]
  exact ih
 ·refine A8.2 ?_
  have tail:∀ m:Nat,m<=2^40->∀ b,b<=64->m*b<=Ah:=fun m hm b hb=>Nat.le_trans (Nat.mul_le_mul hm hb) (by unfold Ah;decide)
  rcases Nat.lt_or_ge a l.length with h | h
  ·have h2:¬ Id (l.getD a default) s<0:=fun hc=>by have:=JS.1 hc;have:=hge h;simp_all
   push_cast[BT h]
   refine .of (Ck _ _ (hn _ (A4 h)) hs) ?_
   by_cases he:l.getD a default=s
   ·rw[he]at h2
    push_cast[h2,BT h,he,h]
    exact A1 (by push_cast[Jm.rs])
   ·push_cast[h2,BT h,he,h]
    refine⟨⟨by omega,hle⟩,tail _ (by simp;omega) _ (by omega),tail _ (by simp;omega) _ (by omega),hle,tail _ (by simp;omega) _ (by omega),A1 ?_⟩
    push_cast[Jm.rs]
    simp[DI,cS,List.take_of_length_le]
  ·push_cast[B8 h]
   rw[if_neg (by omega)]
   refine⟨⟨by omega,hle⟩,tail _ (by simp;omega) _ (by omega),tail _ (by simp;omega) _ (by omega),hle,tail _ (by simp;omega) _ (by omega),A1 ?_⟩
   push_cast[Jm.rs]
   simp[DI,cS,List.take_of_length_le]
mutual
def Dx (l:List A9):Term->List A9
 | .mk n b ar=>BA (if b then Pe l n else l) ar
def BA (l:List A9):List Term->List A9
 | []=>l
 | a::ar=>BA (Dx l a) ar
end
theorem fu (l:List A9)(t:Term):Dx l t=BA (if t.var then Pe l t.name else l) t.args:=by cases t;rfl
theorem TS (a b:List Term):∀ l:List A9,BA l (a++b)=BA (BA l a) b:=by
 induction a with
 | nil=>intro l;simp[BA]
 | cons x xs ih=>intro l;simp[BA,ih]
theorem R5 (s:List A9)(l:List Term)(k:Nat)(h:k<l.length):BA s (l.take (k+1))=Dx (BA s (l.take k)) (l.getD k default):=by
 rw[Aa h,TS];simp[BA]
mutual
theorem Iy:∀ (t:Term)(l:List A9),(Dx l t).length<=l.length+size t
 | .mk n b ar,l=>by
  simp only[Dx,size]
  have:=MS ar (if b then Pe l n else l)
  have:=WN l n
  cases b<;>simp at *<;>omega
theorem MS:∀ (ar:List Term)(l:List A9),(BA l ar).length<=l.length+Ac ar
 | [],l=>by simp[BA,Ac]
 | a::ar,l=>by simp only[BA,Ac];have:=Iy a l;have:=MS ar (Dx l a);omega
end
mutual
def Cz (v:A9):Term->Bool
 | .mk n b ar=>(b&&decide (n=v))||EQ v ar
def EQ (v:A9):List Term->Bool
 | []=>false
 | a::ar=>Cz v a||EQ v ar
end
mutual
theorem F9 (v:A9):∀ (t:Term)(l:List A9),v∈Dx l t↔v∈l\/Cz v t=true
 | .mk n b ar,l=>by
  simp only[Dx,Cz,MZ v ar]
  cases b
  ·simp
  ·simp only[if_true,Xo,Bool.true_and,Bool.or_eq_true,decide_eq_true_eq,or_assoc]
   constructor
   ·rintro (h | h | h)
    ·exact .inl h
    ·exact .inr (.inl h.symm)
    ·exact .inr (.inr h)
   ·rintro (h | h | h)
    ·exact .inl h
    ·exact .inr (.inl h.symm)
    ·exact .inr (.inr h)
theorem MZ (v:A9):∀ (ar:List Term)(l:List A9),v∈BA l ar↔v∈l\/EQ v ar=true
 | [],l=>by simp[BA,EQ]
 | a::ar,l=>by simp only[BA,EQ,MZ v ar,F9 v a,Bool.or_eq_true,or_assoc]
end
mutual
theorem xN (v:A9):∀ t,Cz v t=true->v.length<tb t
 | .mk n b ar,h=>by
  simp only[Cz,Bool.or_eq_true,Bool.and_eq_true,decide_eq_true_eq]at h
  simp only[tb]
  rcases h with ⟨_,rfl⟩ | h
  ·omega
  ·have:=Xr v ar h;simp only[tbs]at this;omega
theorem Xr (v:A9):∀ l,EQ v l=true->v.length<tbs l
 | [],h=>by simp[EQ]at h
 | a::ar,h=>by
  simp only[EQ,Bool.or_eq_true]at h
  simp only[tbs,tb.tbs]
  rcases h with h | h
  ·have:=xN v a h;omega
  ·have:=Xr v ar h;simp only[tbs]at this;omega
end
mutual
theorem TX (v:A9):∀ t,decide (D8 v t=0)=!Cz v t
 | .mk n b ar=>by
  simp only[D8,Cz]
  have:=Yk v ar
  cases b<;>by_cases h:n=v<;>simp_all
theorem Yk (v:A9):∀ l,decide (BW v l=0)=!EQ v l
 | []=>by simp[BW,EQ]
 | a::ar=>by
  have h1:=TX v a
  have h2:=Yk v ar
  have e:BW v (a::ar)=D8 v a+BW v ar:=rfl
  have e2:EQ v (a::ar)=(Cz v a||EQ v ar):=rfl
  rw[e2,Bool.not_or,<-h1,<-h2]
  by_cases c1:D8 v a=0<;>by_cases c2:BW v ar=0<;>simp[e,c1,c2]
end
theorem Vg (l:List Term)(k:Nat):tbs (l.take k)<=tbs l:=by
 induction l generalizing k with
 | nil=>simp
 | cons a l ih=>cases k with
  | zero=>simp[tbs,tb.tbs]
  | succ k=>simp only[List.take_succ_cons,tbs,tb.tbs];have:=ih k;simp only[tbs]at this;omega
theorem YV (t:Term):∀ (l:List A9),tb t<2^39->l.length+size t<2^39->(∀ x∈l,x.length<2^62)->PF JO [Ap t,Bo l] (Bo (Dx l t)):=by
 induction t using Ag with
 | h t ih =>
 intro l htb hls hn
 have hst:=AJ t
 have htb2:=KA t
 have hll:=Aj t.args
 have hce:=fu l t
 have fin:∀ s:List A9,s=(if t.var then Pe l t.name else l)->HV.L3 (Bo s) (Bg t.args) (.int .i64 t.args.length) (.int .i64 0) 0 [] (Bx 0 HV.rs fun x' H'=>x'=Bo (Dx l t)/\H'=[]):=by
  intro s hs
  have hsl:s.length<=l.length+1:=by rw[hs];have:=WN l t.name;split<;>omega
  have hsn:∀ x∈s,x.length<2^62:=by
   intro x hx
   rw[hs]at hx
   split at hx
   ·rcases Xo.1 hx with h | rfl
    ·exact hn x h
    ·omega
   ·exact hn x hx
  rw[<-hs]at hce
  refine Ad (n:=t.args.length) (R:=fun k=>HV.L3 (Bo (BA s (t.args.take k))) (Bg t.args) (.int .i64 t.args.length) (.int .i64 k) 0 [] _) ?_ ?_ 0 (by omega)
  ·intro k hk ih2
   have h1:=R5 s _ _ hk
   have h2:=MS (t.args.take k) s
   have h3:=Ez t.args (k+1)
   rw[Ft _ _ hk]at h3
   have hm:=A4 hk
   have hm3:=Ol hm
   refine A8.2 ?_
   push_cast[BT hk]
   refine .of (ih _ hm _ (by omega) (by omega) fun x hx=>?_) ?_
   ·rcases (MZ x _ _).1 hx with h | h
    ·exact hsn x h
    ·have:=Xr x _ h
     have h4:=Vg t.args k
     omega
   push_cast[CV (show k<2^62 by omega)]
   rw[h1]at ih2
   exact ih2
  ·refine A8.2 ?_
   push_cast[B8 (Nat.le_refl _)]
   refine A1 ?_
   push_cast[HV.rs,List.take_length,hce]
 refine Ab HV.ok rfl ?_
 cases hv:t.var with
 | true =>
  push_cast[hv]
  refine .of (Tu l t.name (by omega) hn (by omega)) ?_
  push_cast
  exact fin _ (by rw[hv];rfl)
 | false =>
  push_cast[hv]
  exact fin _ (by rw[hv];rfl)
def E3 (t:Term):List A9:=Dx [] t
theorem Rz (t:Term)(ht:tb t<2^39):PF M1 [Bg [t]] (Bo (E3 t)):=by
 have:=AS t
 refine Ab T9.ok rfl ?_
 push_cast
 rw[show (V.sl 1 []:V)=Bo (BA [] ([t].take 0)) from rfl]
 refine Ad (n:=1) (R:=fun k=>T9.L3 (Bo (BA [] ([t].take k))) (Bg [t]) (.int .i64 1) (.int .i64 k) 0 [] _) ?_ ?_ 0 (by omega)
 ·intro k hk ih2
  obtain rfl:k=0:=by omega
  refine A8.2 ?_
  push_cast
  refine .of (YV t [] ht (by simpa using by omega) (by simp)) ?_
  push_cast
  exact ih2
 ·refine A8.2 ?_
  push_cast
  refine A1 ?_
  push_cast[T9.rs]
  rfl
def XW (a b:Term):Bool:=(E3 a).all fun v=>Cz v b
theorem aX (a b:Term)(ha:tb a<2^39)(hb:tb b<2^39):PF NO [Ap a,Ap b] (.bool (XW a b)):=by
 have hsa:=AS a
 have hsb:=AS b
 have hvl:=Iy a []
 have hV:=Rz a ha
 unfold XW
 have e1:(.sl 3 [cT a]:V)=Bg [a]:=rfl
 have hcl:(E3 a).length<2^62:=by unfold E3;simp at hvl;omega
 generalize E3 a=l at hV hcl
 refine Ab LG.ok rfl ?_
 push_cast[e1]
 refine .of hV ?_
 push_cast
 refine Ad (n:=l.length) (R:=fun k=>((l.drop k).all fun v=>Cz v b)=(l.all fun v=>Cz v b)->LG.L3 (.ro (cT b) 0) (Bo l) (.int .i64 l.length) (.int .i64 k) 0 [] _) ?_ ?_ 0 (by omega) rfl
 ·intro k hk ih hq
  rw[Al hk]at hq
  simp only[List.all_cons]at hq
  refine A8.2 ?_
  push_cast[BT hk]
  refine .of (Vl _ _ (by omega)) ?_
  have hc:=TX (l.getD k default) b
  push_cast[CV (show k<2^62 by omega)]
  refine⟨fun h=>A1 ?_,fun h=>ih ?_⟩
  ·push_cast[LG.rs]
   rw[<-hq]
   have h0:D8 (l.getD k default) b=0:=by omega
   rw[decide_eq_true h0]at hc
   simp_all
  ·rw[<-hq]
   have h0:¬ D8 (l.getD k default) b=0:=by omega
   rw[decide_eq_false h0]at hc
   simp_all
 ·intro hq
  refine A8.2 ?_
  push_cast[B8 (Nat.le_refl _)]
  refine A1 ?_
  push_cast[LG.rs]
  rw[<-hq,Ao];rfl
theorem fh (r:List A2)(hs:KZ r<2^61):PF Qa [Ak r] (.int .i64 (Bl r)):=by
 have hl:=Bh r
 refine Ab Le.ok rfl ?_
 by_cases h64:64<r.length
 ·have hi:((64:Int)<(r.length:Int))=True:=eq_true (by omega)
  push_cast[hi]
  refine A1 ?_
  push_cast[Le.rs,Bl,h64]
 ·have hi:((64:Int)<(r.length:Int))=False:=eq_false (by omega)
  push_cast[hi,Bl,h64]
  refine Ad (n:=r.length) (R:=fun k=>Dp (r.drop k)=Dp r->Le.L3 (Ak r) (.int .i64 r.length) (.int .i64 k) 0 [] _) ?_ ?_ 0 (by omega) rfl
  ·intro k hk ih hq
   have hm:=FQ (A4 hk)
   refine A8.2 ?_
   rw[Al hk]at hq
   simp only[Dp]at hq
   generalize hx:r.getD k default=x at hm hq
   have hA:=WY [x.left,x.right] (by simp) (by simp;omega)
   push_cast[BT hk,hx,aJ]
   refine .of hA ?_
   push_cast[CV (show k<2^62 by omega)]
   refine⟨fun h=>A1 ?_,fun h=>ih ?_⟩
   ·push_cast[Le.rs]
    rw[<-hq,if_pos h]
   ·rw[<-hq,if_neg h]
  ·intro hq
   refine A8.2 ?_
   push_cast[B8 (Nat.le_refl _)]
   refine A1 ?_
   push_cast[Le.rs]
   rw[<-hq,Ao];rfl
structure Du where
 name:A9
 arity:Int
 deriving Inhabited,DecidableEq
def cSy (s:Du):List V:=[.str s.name,.int .i64 s.arity]
abbrev MW (l:List Du):V:=DI cSy 2 l
theorem vV (s:Du):(cSy s).length=2:=rfl
theorem Acs (s:Du):(cSy s)[0]?=some (.str s.name):=rfl
theorem Ac6 (s:Du):(cSy s)[1]?=some (.int .i64 s.arity):=rfl
theorem jO {i:Nat}{l:List Du}{n:A9}{k:Int}:(.own i 2 (l.map cSy++[[V.str n,.int .i64 k]]):V)=Bf cSy i 2 (l++[⟨n,k⟩]):=by simp[Bf,cSy]
attribute [push_cast] vV Acs Ac6
abbrev Fy (l:List Du)(n:A9):Nat:=YL (fun x=>decide (x.name<n)) l
def HX (l:List Du)(n:A9)(k:Int):List Du:=if Fy l n<l.length/\(l.getD (Fy l n) default).name=n then l else l.take (Fy l n)++⟨n,k⟩::l.drop (Fy l n)
mutual
def IY (l:List Du):Term->List Du×Bool
 | .mk n b ar=>if b then (l,true) else if marked n then (l,false) else if ((HX l n ar.length).getD (Fy l n) default).arity≠ar.length then (HX l n ar.length,false) else F1 (HX l n ar.length) ar
def F1 (l:List Du):List Term->List Du×Bool
 | []=>(l,true)
 | a::ar=>if (IY l a).2 then F1 (IY l a).1 ar else (l,false)
end
theorem yi (l:List Du)(t:Term):IY l t=if t.var then (l,true) else if marked t.name then (l,false) else if ((HX l t.name t.args.length).getD (Fy l t.name) default).arity≠t.args.length then (HX l t.name t.args.length,false) else F1 (HX l t.name t.args.length) t.args:=by cases t;rfl
theorem ZJ (l:List Du)(n:A9)(k:Int):(HX l n k).length<=l.length+1:=by
 unfold HX
 have:=UF (fun x:Du=>decide (x.name<n)) l
 split<;>simp<;>omega
theorem nB {l:List Du}{n:A9}{k:Int}{x:Du}(h:x∈HX l n k):x∈l\/x=⟨n,k⟩:=by
 unfold HX at h
 split at h
 ·exact .inl h
 ·simp only[List.mem_append,List.mem_cons]at h
  rcases h with h | h | h
  ·exact .inl (List.mem_of_mem_take h)
  ·exact .inr h
  ·exact .inl (List.mem_of_mem_drop h)
def sF (M:Nat)(m:Nat)(l:List Du):Prop:=l.length<=m/\∀ x∈l,x.name.length<M
theorem sF.ins {M m:Nat}{l:List Du}(h:sF M m l){n:A9}{k:Int}(hn:n.length<M):sF M (m+1) (HX l n k):=by
 refine⟨by have:=ZJ l n k;have:=h.1;omega,fun x hx=>?_⟩
 rcases nB hx with h1 | rfl
 ·exact h.2 x h1
 ·exact hn
mutual
theorem Yb {M:Nat}:∀ (t:Term)(m:Nat)(l:List Du),sF M m l->tb t<=M->sF M (m+size t) (IY l t).1
 | .mk n b ar,m,l,h,ht=>by
  simp only[tb]at ht
  have h0:sF M (m+size (.mk n b ar)) l:=⟨by have:=h.1;omega,h.2⟩
  have h1:=h.ins (n:=n) (k:=ar.length) (by omega)
  have h2:sF M (m+size (.mk n b ar)) (HX l n ar.length):=⟨by have:=h1.1;simp only[size];omega,h1.2⟩
  have h3:=Uv ar (m+1) _ h1 (by simp only[tbs];omega)
  simp only[IY]
  split
  ·exact h0
  split
  ·exact h0
  split
  ·exact h2
  ·exact⟨by have:=h3.1;simp only[size];omega,h3.2⟩
theorem Uv {M:Nat}:∀ (ar:List Term)(m:Nat)(l:List Du),sF M m l->tbs ar<=M->sF M (m+Ac ar) (F1 l ar).1
 | [],m,l,h,_=>by simpa[F1,Ac]using h
 | a::ar,m,l,h,ht=>by
  simp only[tbs,tb.tbs]at ht
  have h1:=Yb a m l h (by omega)
  have h2:=Uv ar _ _ h1 (by simp only[tbs];omega)
  simp only[F1]
  split
  ·exact⟨by have:=h2.1;simp only[Ac];omega,h2.2⟩
  ·exact⟨by have:=h.1;show l.length<=_;omega,h.2⟩
end
theorem Td (a b:List Term):∀ l:List Du,(F1 l a).2=true->F1 l (a++b)=F1 (F1 l a).1 b:=by
 induction a with
 | nil=>intro l _;rfl
 | cons x xs ih =>
  intro l h
  simp only[F1,List.cons_append]at h ⊢
  by_cases hx:(IY l x).2=true
  ·rw[if_pos hx]at h ⊢
   rw[if_pos hx]
   exact ih _ h
  ·rw[if_neg hx]at h
   cases h
set_option maxHeartbeats 1000000 in
theorem Ri (t:Term):∀ (m:Nat)(l:List Du),tb t<2^39->m+size t<2^39->sF (2^39) m l->PF JL [Ap t,MW l] (.tup [MW (IY l t).1,.bool (IY l t).2]):=by
 induction t using Ag with
 | h t ih =>
 intro m l htb hms hf
 have hst:=AJ t
 have htb2:=KA t
 have hll:=Aj t.args
 have hse:=yi l t
 have hl:l.length<2^39:=by have:=hf.1;omega
 refine Ab Cn.ok rfl ?_
 cases hv:t.var with
 | true =>
  rw[hv,if_pos rfl]at hse
  push_cast[hv]
  exact A1 (by push_cast[Cn.rs,hse])
 | false =>
 rw[hv,if_neg (by simp)]at hse
 push_cast[hv]
 refine .of (Ti t.name (by omega)) ?_
 cases hmk:Ia t.name [35]with
 | true =>
  have hmk':marked t.name=true:=hmk
  rw[hmk',if_pos rfl]at hse
  push_cast
  exact A1 (by push_cast[Cn.rs,hse])
 | false =>
 have hmk':marked t.name=false:=hmk
 rw[hmk',if_neg (by simp)]at hse
 have hI:=ZJ l t.name t.args.length
 have hF:=hf.ins (n:=t.name) (k:=t.args.length) (by omega)
 have hle:Fy l t.name<=l.length:=UF (fun x:Du=>decide (x.name<t.name)) l
 have hge:Fy l t.name<l.length->¬ (l.getD (Fy l t.name) default).name<t.name:=fun h=>of_decide_eq_false (@iT _ _ (fun x:Du=>decide (x.name<t.name)) l h)
 have hlt:∀ j,j<Fy l t.name->(l.getD j default).name<t.name:=fun j h=>of_decide_eq_true (@ja _ _ (fun x:Du=>decide (x.name<t.name)) l j h)
 have hat:Fy l t.name<(HX l t.name t.args.length).length:=by
  unfold HX
  split
  ·rename_i h;exact h.1
  ·rw[List.length_append,List.length_take,List.length_cons,Nat.min_eq_left hle];omega
 have hins:HX l t.name t.args.length=if Fy l t.name<l.length/\(l.getD (Fy l t.name) default).name=t.name then l else l.take (Fy l t.name)++⟨t.name,t.args.length⟩::l.drop (Fy l t.name):=rfl
 generalize HX l t.name t.args.length=l1 at *
 have kids:(l1.getD (Fy l t.name) default).arity=t.args.length->Cn.L3 (MW l1) (Bg t.args) (.int .i64 t.args.length) (.int .i64 0) 0 [] (Bx 0 Cn.rs fun x' H'=>x'=.tup [MW (IY l t).1,.bool (IY l t).2]/\H'=[]):=by
  intro har
  rw[if_neg (by simpa using har)]at hse
  rw[hse]
  refine Ad (n:=t.args.length) (R:=fun k=>(F1 l1 (t.args.take k)).2=true->Cn.L3 (MW (F1 l1 (t.args.take k)).1) (Bg t.args) (.int .i64 t.args.length) (.int .i64 k) 0 [] _) ?_ ?_ 0 (by omega) rfl
  ·intro k hk ih2 hok
   have hm:=A4 hk
   have hm3:=Ol hm
   have h3:=Ez t.args (k+1)
   rw[Ft _ _ hk]at h3
   have hFk:=Uv (t.args.take k) _ _ hF (by have:=Vg t.args k;omega)
   have hcat:F1 l1 (t.args.take (k+1))=if (IY (F1 l1 (t.args.take k)).1 (t.args.getD k default)).2 then (IY (F1 l1 (t.args.take k)).1 (t.args.getD k default)) else ((F1 l1 (t.args.take k)).1,false):=by
    rw[Aa hk,Td _ _ _ hok]
    simp only[F1]
    split
    ·rename_i h;exact Prod.ext rfl h.symm
    ·rfl
   have hend:(IY (F1 l1 (t.args.take k)).1 (t.args.getD k default)).2=false->F1 l1 t.args=((F1 l1 (t.args.take k)).1,false):=by
    intro h
    conv=>lhs;rw[<-List.take_append_drop k t.args]
    rw[Td _ _ _ hok,Al hk]
    simp only[F1,h]
    rfl
   refine A8.2 ?_
   push_cast[BT hk]
   refine .of (ih _ hm _ _ (by omega) (by omega) hFk) ?_
   cases hb:(IY (F1 l1 (t.args.take k)).1 (t.args.getD k default)).2 with
   | false =>
    push_cast
    refine A1 ?_
    push_cast[Cn.rs,hend hb]
   | true =>
    rw[hb,if_pos rfl]at hcat
    push_cast[CV (show k<2^62 by omega)]
    rw[hcat]at ih2
    exact ih2 hb
  ·intro hok
   rw[List.take_length]at hok
   refine A8.2 ?_
   push_cast[B8 (Nat.le_refl _)]
   refine A1 ?_
   push_cast[Cn.rs,List.take_length,hok]
 generalize Fy l t.name=a at *
 push_cast
 refine Ad (n:=a) (R:=fun k=>Cn.L9 (MW l) (.ro (cT t) 0) (.int .i64 k) 0 [] _) ?_ ?_ 0 (by omega)
 ·intro k hk ih2
  have hkl:k<l.length:=by omega
  have h1:Id (l.getD k default).name t.name<0:=JS.2 (hlt k hk)
  refine A8.2 ?_
  push_cast[BT hkl]
  refine .of (Ck _ _ (by have:=hf.2 _ (A4 hkl);omega) (by omega)) ?_
  push_cast[h1,CV (show k<2^62 by omega)]
  exact ih2
 ·refine A8.2 ?_
  have tail:∀ m:Nat,m<=2^40->∀ b,b<=64->m*b<=Ah:=fun m hm b hb=>Nat.le_trans (Nat.mul_le_mul hm hb) (by unfold Ah;decide)
  have e1:(l.drop 0).take (a-0)=l.take a:=by simp
  have e2:(l.drop a).take (l.length-a)=l.drop a:=by rw[List.take_of_length_le];simp
  rcases Nat.lt_or_ge a l.length with h | h
  ·have h2:¬ Id (l.getD a default).name t.name<0:=fun hc=>hge h (JS.1 hc)
   have h3:((a:Int)=(l.length:Int))=False:=eq_false (by omega)
   push_cast[BT h]
   refine .of (Ck _ _ (by have:=hf.2 _ (A4 h);omega) (by omega)) ?_
   by_cases he:(l.getD a default).name=t.name
   ·rw[if_pos ⟨h,he⟩]at hins
    subst hins
    rw[he]at h2
    push_cast[h2,h3,he,BT h]
    refine⟨fun har=>A1 ?_,fun har=>kids (by simpa using har)⟩
    rw[if_pos har]at hse
    push_cast[Cn.rs,hse]
   ·rw[if_neg (fun hh=>he hh.2)]at hins
    push_cast[h2,h3,he,BT h,jO,e1,e2,List.cons_append,List.nil_append,<-hins,hat]
    refine⟨⟨by omega,hle⟩,tail _ (by simp;omega) _ (by omega),tail _ (by simp;omega) _ (by omega),hle,⟨by simp,tail _ (by simp;omega) _ (by omega)⟩,by omega,fun har=>A1 ?_,fun har=>kids (by simpa using har)⟩
    rw[if_pos har]at hse
    push_cast[Cn.rs,hse]
  ·rw[if_neg (fun hh=>by omega)]at hins
   have h3:((a:Int)=(l.length:Int))=True:=eq_true (by omega)
   push_cast (maxSteps:=1000000) [B8 h,h3,jO,e1,e2,List.cons_append,List.nil_append,<-hins,hat]
   refine⟨⟨by omega,hle⟩,tail _ (by simp;omega) _ (by omega),tail _ (by simp;omega) _ (by omega),hle,⟨by simp,tail _ (by simp;omega) _ (by omega)⟩,by omega,fun har=>A1 ?_,fun har=>kids (by simpa using har)⟩
   rw[if_pos har]at hse
   push_cast[Cn.rs,hse]
end Go.Dw
section
namespace Go.Dw
open Go.Proofs (sortS)
def Mf (l:List Du):List A2->List Du×Bool
 | []=>(l,true)
 | x::r=>if (IY l x.left).2 then if (IY (IY l x.left).1 x.right).2 then Mf (IY (IY l x.left).1 x.right).1 r else ([],false) else ([],false)
theorem Z6 (r:List A2)(hs:KZ r<2^38):PF MV [Ak r] (.tup [MW (Mf [] r).1,.bool (Mf [] r).2]):=by
 have hl:=Bh r
 have hw1:IntKind.i64.wrap 1=1:=Bs (by omega) (by omega)
 have hw2:IntKind.i64.wrap 2=2:=Bs (by omega) (by omega)
 refine Ab FW.ok rfl ?_
 push_cast
 rw[show (V.sl 2 []:V)=MW [] from rfl]
 refine Ad (n:=r.length) (R:=fun k=>∀ l m,sF (2^39) m l->m+KZ (r.drop k)<2^38->Mf l (r.drop k)=Mf [] r->FW.L6 (MW l) (Ak r) (.int .i64 r.length) (.int .i64 k) 0 [] (Bx 0 FW.rs fun x' H'=>x'=.tup [MW (Mf [] r).1,.bool (Mf [] r).2]/\H'=[])) ?_ ?_ 0 (by omega) [] 0 ⟨by simp,by simp⟩ (by simpa using hs) rfl
 ·intro k hk ih l m hf hm hq
  have hr:=FQ (A4 hk)
  rw[Al hk]at hm hq
  simp only[KZ,Mf]at hm hq
  generalize hx:r.getD k default=x at hm hq hr
  have s1:=AS x.left
  have s2:=AS x.right
  have hf1:=Yb x.left m l hf (by omega)
  have hf2:=Yb x.right _ _ hf1 (by omega)
  refine A8.2 ?_
  push_cast[BT hk,hx,aJ]
  refine A8.2 ?_
  push_cast
  refine .of (Ri x.left m l (by omega) (by omega) hf) ?_
  cases h1:(IY l x.left).2 with
  | false =>
   rw[if_neg (by simp[h1])]at hq
   push_cast
   refine A1 ?_
   push_cast[FW.rs,<-hq]
   rfl
  | true =>
   rw[if_pos h1]at hq
   push_cast[hw1]
   refine A8.2 ?_
   push_cast
   refine .of (Ri x.right _ _ (by omega) (by omega) hf1) ?_
   cases h2:(IY (IY l x.left).1 x.right).2 with
   | false =>
    rw[if_neg (by simp[h2])]at hq
    push_cast
    refine A1 ?_
    push_cast[FW.rs,<-hq]
    rfl
   | true =>
    rw[if_pos h2]at hq
    push_cast[hw2]
    refine A8.2 ?_
    push_cast[CV (show k<2^62 by omega)]
    exact ih _ _ hf2 (by omega) hq
 ·intro l m hf hm hq
  refine A8.2 ?_
  push_cast[B8 (Nat.le_refl _)]
  refine A1 ?_
  rw[Ao]at hq
  push_cast[FW.rs,<-hq]
  exact⟨rfl,rfl⟩
def Oz (x:A2):Bool:=x.left.var||!XW x.right x.left
def KN (r:List A2):Int:=if Bl r≠0 then Bl r else if (Mf [] r).2 then (if r.any Oz then 7 else 0) else 6
theorem RX (r:List A2)(hs:KZ r<2^38):PF Ek [Ak r] (.int .i64 (KN r)):=by
 have hl:=Bh r
 refine Ab CN.ok rfl ?_
 push_cast
 refine .of (fh r (by omega)) ?_
 unfold KN
 by_cases h1:Bl r=0
 ·rw[if_neg (by simpa using h1)]
  push_cast[h1]
  refine .of (Z6 r hs) ?_
  cases h2:(Mf [] r).2 with
  | false =>
   push_cast
   refine A1 ?_
   push_cast[CN.rs]
  | true =>
   push_cast
   refine Ad (n:=r.length) (R:=fun k=>(r.drop k).any Oz=r.any Oz->CN.L3 (Ak r) (.int .i64 r.length) (.int .i64 k) 0 [] _) ?_ ?_ 0 (by omega) rfl
   ·intro k hk ih hq
    have hr:=FQ (A4 hk)
    rw[Al hk]at hq
    simp only[List.any_cons]at hq
    generalize hx:r.getD k default=x at hq hr
    refine A8.2 ?_
    cases hv:x.left.var with
    | true =>
     push_cast[BT hk,hx,hv]
     refine A1 ?_
     push_cast[CN.rs,<-hq,Oz,hv]
     simp
    | false =>
     push_cast[BT hk,hx,hv]
     refine .of (aX _ _ (by omega) (by omega)) ?_
     cases hw:XW x.right x.left with
     | false =>
      push_cast
      refine A1 ?_
      push_cast[CN.rs,<-hq,Oz,hv,hw]
      rfl
     | true =>
      push_cast[CV (show k<2^62 by omega)]
      exact ih (by rw[<-hq];simp[Oz,hv,hw])
   ·intro hq
    rw[Ao]at hq
    refine A8.2 ?_
    push_cast[B8 (Nat.le_refl _)]
    refine A1 ?_
    push_cast[CN.rs,<-hq]
    rfl
 ·rw[if_pos h1]
  push_cast[h1]
  refine A1 ?_
  push_cast[CN.rs]
theorem Py (v:A9):∀ (l ks:List A9),v∈l.foldl VE ks↔v∈ks\/v∈l
 | [],ks=>by simp
 | x::l,ks=>by
  rw[List.foldl_cons,Py v l]
  unfold VE
  split
  ·rename_i h
   simp only[List.mem_cons]
   constructor
   ·rintro (h1 | h1)
    ·exact .inl h1
    ·exact .inr (.inr h1)
   ·rintro (h1 | rfl | h1)
    ·exact .inl h1
    ·exact .inl h
    ·exact .inr h1
  ·simp[or_assoc]
theorem eO (x:List Int×Term)(l:List (List Int×Term)):FI (x::l)=if x.2.var then x.2.name::FI l else FI l:=by
 unfold FI;rw[List.filter_cons];split<;>rfl
theorem Za (a b:List (List Int×Term)):FI (a++b)=FI a++FI b:=by
 unfold FI;rw[List.filter_append,List.map_append]
mutual
theorem Y1 (v:A9):∀ (t:Term)(p:List Int),v∈FI (Aq t p)↔Cz v t=true
 | .mk n b ar,p=>by
  have h:=Vo v ar p 0
  rw[GQ,eO]
  cases b
  ·rw[if_neg (by simp[Term.var])]
   simpa[Cz,Term.args]using h
  ·rw[if_pos (by simp[Term.var])]
   simp only[Cz,Bool.true_and,Bool.or_eq_true,decide_eq_true_eq,List.mem_cons,<-h]
   exact⟨fun h=>h.imp (fun e=>e.symm) id,fun h=>h.imp (fun e=>e.symm) id⟩
theorem Vo (v:A9):∀ (ar:List Term)(p:List Int)(i:Nat),v∈FI (B6 ar p i)↔EQ v ar=true
 | [],p,i=>by simp[B6,FI,EQ]
 | a::ar,p,i=>by
  have h1:=Y1 v a (p++[(i:Int)])
  have h2:=Vo v ar p (i+1)
  simp only[B6,Za,List.mem_append,h1,h2,EQ,Bool.or_eq_true]
end
theorem DQ (v:A9)(t:Term):v∈AA [t]↔Cz v t=true:=by
 unfold AA
 rw[show (v∈sortS (HZ [] [t]))↔v∈HZ [] [t] from (List.mergeSort_perm _ _).mem_iff]
 simp only[HZ,List.foldl_cons,List.foldl_nil,R2,Py,Y1,List.not_mem_nil,false_or]
theorem rB (x:A2):Lr x=Oz x:=by
 unfold Lr Oz XW
 congr 1
 rw[Bool.eq_iff_iff]
 simp only[List.any_eq_true,Bool.not_eq_true',decide_eq_false_iff_not,DQ,List.all_eq_false,E3,F9,List.not_mem_nil,false_or]
theorem dZ (m:SI)(n v:A9)(k:Nat):Lx (m++[(n,k)]) v=match Lx m v with | some a=>some a | none=>if n=v then some k else none:=by
 induction m with
 | nil=>simp[Lx]
 | cons p m ih =>
  simp only[List.cons_append,Lx]
  split
  ·rfl
  ·exact ih
def J3:List Du->A9->Option Int
 | [],_=>none
 | x::l,n=>if x.name=n then some x.arity else J3 l n
abbrev LC (l:List Du):Prop:=l.Pairwise fun a b=>a.name<b.name
theorem jb {l:List Du}{n:A9}(h:∀ x∈l,x.name≠n):J3 l n=none:=by
 induction l with
 | nil=>rfl
 | cons x l ih=>simp only[J3];rw[if_neg (h x (by simp))];exact ih fun y hy=>h y (by simp[hy])
theorem Y6 {n:A9}:∀ {l:List Du},LC l->J3 l n=if Fy l n<l.length/\(l.getD (Fy l n) default).name=n then some (l.getD (Fy l n) default).arity else none
 | [],_=>by simp[J3]
 | x::l,hs=>by
  obtain⟨h1,h2⟩:=List.pairwise_cons.1 hs
  have ih:=Y6 (n:=n) h2
  by_cases hx:x.name<n
  ·have e:Fy (x::l) n=Fy l n+1:=by simp[Fy,YL,hx]
   simp only[J3,e]
   rw[if_neg (fun e2:x.name=n=>Dr n (by rw[e2]at hx;exact hx)),ih]
   simp
  ·have e:Fy (x::l) n=0:=by simp only[Fy,YL];rw[if_neg (by simpa using hx)]
   simp only[J3,e]
   by_cases he:x.name=n
   ·simp[he]
   ·rw[if_neg he]
    simp only[List.length_cons,Nat.zero_lt_succ,true_and,List.getD_cons_zero,he,if_false]
    refine jb fun y hy e=>?_
    have:=h1 y hy
    rw[e]at this
    exact hx this
def R3 (n:A9)(k:Int):List Du->List Du
 | []=>[⟨n,k⟩]
 | x::l=>if x.name<n then x::R3 n k l else ⟨n,k⟩::x::l
theorem cf (n:A9)(k:Int):∀ l:List Du,l.take (Fy l n)++⟨n,k⟩::l.drop (Fy l n)=R3 n k l
 | []=>rfl
 | x::l=>by
  have ih:=cf n k l
  by_cases hx:x.name<n
  ·have e:Fy (x::l) n=Fy l n+1:=by simp[Fy,YL,hx]
   simp only[R3]
   rw[if_pos hx,e,List.take_succ_cons,List.drop_succ_cons,List.cons_append,ih]
  ·have e:Fy (x::l) n=0:=by simp only[Fy,YL];rw[if_neg (by simpa using hx)]
   simp only[R3]
   rw[if_neg hx,e];rfl
theorem dE {n:A9}{k:Int}{x:Du}:∀ {l:List Du},x∈R3 n k l↔x=⟨n,k⟩\/x∈l
 | []=>by simp[R3]
 | y::l=>by
  simp only[R3]
  split
  ·simp only[List.mem_cons,dE (l:=l)]
   constructor
   ·rintro (h | h | h)
    ·exact .inr (.inl h)
    ·exact .inl h
    ·exact .inr (.inr h)
   ·rintro (h | h | h)
    ·exact .inr (.inl h)
    ·exact .inl h
    ·exact .inr (.inr h)
  ·simp
theorem V1 {n:A9}{k:Int}:∀ {l:List Du},LC l->(∀ x∈l,x.name≠n)->LC (R3 n k l)
 | [],_,_=>by simp[R3,LC]
 | x::l,hs,hn=>by
  obtain⟨h1,h2⟩:=List.pairwise_cons.1 hs
  simp only[R3]
  split
  ·rename_i hx
   refine List.pairwise_cons.2 ⟨fun y hy=>?_,V1 h2 fun y hy=>hn y (by simp[hy])⟩
   rcases dE.1 hy with rfl | h
   ·exact hx
   ·exact h1 y h
  ·rename_i hx
   have hlt:n<x.name:=by
    rcases Classical.em (n<x.name)with h | h
    ·exact h
    ·exact absurd (Xy hx h) (hn x (by simp))
   refine List.pairwise_cons.2 ⟨fun y hy=>?_,hs⟩
   rcases List.mem_cons.1 hy with rfl | h
   ·exact hlt
   ·exact Nd hlt (h1 y h)
theorem Yi {n v:A9}{k:Int}:∀ {l:List Du},(∀ x∈l,x.name≠n)->J3 (R3 n k l) v=if n=v then some k else J3 l v
 | [],_=>by simp[R3,J3]
 | x::l,hn=>by
  simp only[R3]
  split
  ·simp only[J3]
   rw[Yi fun y hy=>hn y (by simp[hy])]
   by_cases h:x.name=v
   ·rw[if_pos h,if_pos h,if_neg (fun e=>hn x (by simp) (h.trans e.symm))]
   ·rw[if_neg h,if_neg h]
  ·simp only[J3]
theorem iW {l:List Du}{n:A9}{x:Du}(hx:x∈l)(hn:x.name=n):J3 l n≠none:=by
 induction l with
 | nil=>cases hx
 | cons y l ih =>
  simp only[J3]
  split
  ·simp
  ·rename_i h
   rcases List.mem_cons.1 hx with rfl | hx
   ·exact absurd hn h
   ·exact ih hx
def mk (m:SI):Bool:=m.any fun p=>marked p.1
def Rel (l:List Du)(m:SI):Prop:=LC l/\(∀ n,J3 l n=(Lx m n).map fun k:Nat=>(k:Int))/\mk m=false
theorem xi {m:SI}{n:A9}{k:Nat}(h:Lx m n=some k)(hm:mk m=false):marked n=false:=by
 induction m with
 | nil=>cases h
 | cons p m ih =>
  simp only[mk,List.any_cons,Bool.or_eq_false_iff]at hm
  simp only[Lx]at h
  split at h
  ·rename_i e;rw[<-e];exact hm.1
  ·exact ih h hm.2
theorem nz {m m':SI}{u:Term}(h:D5 m u=some m')(hm:mk m=true):mk m'=true:=by
 unfold D5 at h
 split at h
 ·cases h;exact hm
 ·split at h
  ·split at h
   ·cases h;exact hm
   ·cases h
  ·cases h
   simp only[mk,List.any_append,Bool.or_eq_true]at hm ⊢
   exact .inl hm
theorem Na:∀ (l:List (List Int×Term)) {m m':SI},Dk m l=some m'->mk m=true->mk m'=true
 | [],m,m',h,hm=>by cases h;exact hm
 | x::l,m,m',h,hm=>by
  simp only[Dk]at h
  cases hs:D5 m x.2 with
  | none=>rw[hs]at h;cases h
  | some m1 =>
   rw[hs,Option.bind_some]at h
   exact Na l h (nz hs hm)
def bC (o:Option SI)(s:List Du×Bool):Prop:=match o with
 | none=>s.2=false
 | some m=>if mk m then s.2=false else s.2=true/\Rel s.1 m
theorem fj (l:List Du)(n:A9)(k:Int)(hs:LC l):HX l n k=if J3 l n=none then R3 n k l else l:=by
 unfold HX
 rw[Y6 hs,cf]
 split
 ·simp
 ·simp
theorem Aa3 {l:List Du}{n:A9}{k:Int}:(l.take (Fy l n)++⟨n,k⟩::l.drop (Fy l n)).getD (Fy l n) default=⟨n,k⟩:=by
 have hle:Fy l n<=l.length:=UF (fun x:Du=>decide (x.name<n)) l
 rw[List.getD_eq_getElem?_getD,List.getElem?_append_right (by simp;omega),List.length_take,Nat.min_eq_left hle]
 simp
mutual
theorem iO:∀ (t:Term)(p:List Int)(l:List Du)(m:SI),Rel l m->Ca t=true->bC (Dk m (Aq t p)) (IY l t)
 | .mk n b ar,p,l,m,hR,hf=>by
  have ht:=EU (.mk n b ar)
  rw[hf]at ht
  simp only[Term.var,Term.args,Term.name]at ht
  simp only[GQ,Dk,IY,Term.args]
  cases b with
  | true =>
   simp only[if_true]at ht
   have har:ar=[]:=by
    have:=ht.symm
    simp only[Bool.and_eq_true,decide_eq_true_eq]at this
    exact List.length_eq_zero_iff.1 (of_decide_eq_true this.1)
   subst har
   simp only[D5,Term.var,if_true,B6,Dk,Option.bind_some,bC,hR.2.2,Bool.false_eq_true,if_false]
   exact⟨trivial,hR⟩
  | false =>
   have hfs:Ox ar=true:=by
    rw[V3]
    have:=ht.symm
    simp only[Bool.false_eq_true,if_false,Bool.and_eq_true]at this
    exact this.2.2
   simp only[Bool.false_eq_true,if_false]
   by_cases hmk:marked n=true
   ·rw[if_pos hmk]
    have hg:Lx m n=none:=by
     cases hg:Lx m n with
     | none=>rfl
     | some k=>rw[xi hg hR.2.2]at hmk;cases hmk
    have hst:D5 m (.mk n false ar)=some (m++[(n,ar.length)]):=by simp[D5,Term.var,Term.name,Term.args,hg]
    rw[hst,Option.bind_some]
    have hm1:mk (m++[(n,ar.length)])=true:=by simp[mk,hmk]
    cases hr:Dk (m++[(n,ar.length)]) (B6 ar p 0)with
    | none=>rfl
    | some m'=>simp only[bC,Na _ hr hm1,if_true]
   ·rw[if_neg hmk]
    have hg2:=hR.2.1 n
    have hat:=Y6 (n:=n) hR.1
    cases hg:Lx m n with
    | some k =>
     rw[hg]at hg2
     have hne:¬ J3 l n=none:=by rw[hg2];simp
     have hins:HX l n ar.length=l:=by rw[fj _ _ _ hR.1,if_neg hne]
     have har:(l.getD (Fy l n) default).arity=k:=by
      rw[hg2]at hat
      split at hat
      ·simpa using hat.symm
      ·cases hat
     rw[hins,har]
     by_cases hk:k=ar.length
     ·have hst:D5 m (.mk n false ar)=some m:=by simp[D5,Term.var,Term.name,Term.args,hg,hk]
      rw[hst,Option.bind_some,if_neg (by simp[hk])]
      exact cH ar p 0 l m hR hfs
     ·have hst:D5 m (.mk n false ar)=none:=by simp[D5,Term.var,Term.name,Term.args,hg,hk]
      rw[hst,if_pos (by simp;omega)]
      rfl
    | none =>
     rw[hg]at hg2
     have hg2':J3 l n=none:=hg2
     have hnm:∀ x∈l,x.name≠n:=fun x hx e=>iW hx e hg2'
     have hst:D5 m (.mk n false ar)=some (m++[(n,ar.length)]):=by simp[D5,Term.var,Term.name,Term.args,hg]
     have hins:HX l n ar.length=R3 n ar.length l:=by rw[fj _ _ _ hR.1,if_pos hg2']
     have hnew:((R3 n ar.length l).getD (Fy l n) default).arity=ar.length:=by rw[<-cf,Aa3]
     rw[hst,Option.bind_some,hins,hnew,if_neg (by simp)]
     refine cH ar p 0 _ _ ⟨V1 hR.1 hnm,fun v=>?_,?_⟩ hfs
     ·rw[Yi hnm,dZ,hR.2.1 v]
      by_cases e:n=v
      ·subst e;rw[if_pos rfl,if_pos rfl,hg];rfl
      ·rw[if_neg e,if_neg e];cases Lx m v<;>rfl
     ·have:=hR.2.2
      simp only[mk]at this ⊢
      rw[List.any_append,this]
      simpa using hmk
theorem cH:∀ (ar:List Term)(p:List Int)(i:Nat)(l:List Du)(m:SI),Rel l m->Ox ar=true->bC (Dk m (B6 ar p i)) (F1 l ar)
 | [],p,i,l,m,hR,_=>by
  simp only[B6,Dk,F1,bC,hR.2.2,Bool.false_eq_true,if_false]
  exact⟨trivial,hR⟩
 | a::ar,p,i,l,m,hR,hf=>by
  simp only[Ox,Bool.and_eq_true]at hf
  have h1:=iO a (p++[(i:Int)]) l m hR hf.1
  simp only[B6,KE,F1]
  cases hr:Dk m (Aq a (p++[(i:Int)]))with
  | none =>
   rw[hr]at h1
   rw[if_neg (by rw[show (IY l a).2=false from h1];simp)]
   rfl
  | some m1 =>
   rw[hr]at h1
   rw[Option.bind_some]
   simp only[bC]at h1
   by_cases hm1:mk m1=true
   ·rw[if_pos hm1]at h1
    rw[if_neg (by rw[h1];simp)]
    cases hr2:Dk m1 (B6 ar p (i+1))with
    | none=>rfl
    | some m'=>simp only[bC,Na _ hr2 hm1,if_true]
   ·rw[if_neg hm1]at h1
    rw[if_pos h1.1]
    exact cH ar p (i+1) _ _ h1.2 hf.2
end
theorem le:∀ (r:List A2)(l:List Du)(m:SI),Rel l m->(∀ x∈r,Ca x.left=true/\Ca x.right=true)->match CF m r with
  | none=>(Mf l r).2=false
  | some m=>(Mf l r).2=!mk m
 | [],l,m,hR,_=>by simp only[CF,Mf,hR.2.2];rfl
 | x::r,l,m,hR,hf=>by
  obtain⟨hf1,hf2⟩:=hf x (by simp)
  have h1:=iO x.left [] l m hR hf1
  have mono:∀ (r:List A2) {m m':SI},CF m r=some m'->mk m=true->mk m'=true:=by
   intro r
   induction r with
   | nil=>intro m m' h hm;cases h;exact hm
   | cons y r ih =>
    intro m m' h hm
    simp only[CF]at h
    cases ha:Dk m (Aq y.left [])with
    | none=>rw[ha]at h;cases h
    | some m1 =>
     rw[ha,Option.bind_some]at h
     cases hb:Dk m1 (Aq y.right [])with
     | none=>rw[hb]at h;cases h
     | some m2 =>
      rw[hb,Option.bind_some]at h
      exact ih h (Na _ hb (Na _ ha hm))
  simp only[CF,Mf]
  cases ha:Dk m (Aq x.left [])with
  | none =>
   rw[ha]at h1
   have:(IY l x.left).2=false:=h1
   simp[this]
  | some m1 =>
   rw[ha]at h1
   simp only[bC]at h1
   rw[Option.bind_some]
   by_cases hm1:mk m1=true
   ·rw[if_pos hm1]at h1
    rw[if_neg (by rw[h1];simp)]
    cases hr:(Dk m1 (Aq x.right [])).bind fun m2=>CF m2 r with
    | none=>rfl
    | some m' =>
     have:mk m'=true:=by
      cases hb:Dk m1 (Aq x.right [])with
      | none=>rw[hb]at hr;cases hr
      | some m2=>rw[hb,Option.bind_some]at hr;exact mono r hr (Na _ hb hm1)
     simp[this]
   ·rw[if_neg hm1]at h1
    rw[if_pos h1.1]
    have h2:=iO x.right [] _ m1 h1.2 hf2
    cases hb:Dk m1 (Aq x.right [])with
    | none =>
     rw[hb]at h2
     have:(IY (IY l x.left).1 x.right).2=false:=h2
     simp[this]
    | some m2 =>
     rw[hb]at h2
     simp only[bC]at h2
     rw[Option.bind_some]
     by_cases hm2:mk m2=true
     ·rw[if_pos hm2]at h2
      rw[if_neg (by rw[h2];simp)]
      cases hr:CF m2 r with
      | none=>rfl
      | some m'=>simp[mono r hr hm2]
     ·rw[if_neg hm2]at h2
      rw[if_pos h2.1]
      exact le r _ _ h2.2 fun y hy=>hf y (by simp[hy])
theorem Th {t:Term}(h:F2 t=0):Ca t=true:=by
 unfold F2 at h
 split at h
 ·assumption
 ·omega
theorem MG:∀ {r:List A2},Dp r=0->∀ x∈r,F2 x.left=0/\F2 x.right=0
 | [],_,x,hx=>by cases hx
 | y::r,h,x,hx=>by
  simp only[Dp]at h
  split at h
  ·omega
  ·rename_i h1
   rcases List.mem_cons.1 hx with rfl | hx
   ·simp only[Je,ne_eq,Classical.not_not]at h1
    split at h1
    ·omega
    ·rename_i h2
     split at h1
     ·omega
     ·rename_i h3
      exact⟨by simpa using h2,by simpa using h3⟩
   ·exact MG h x hx
theorem TF {r:List A2}(h:Bl r=0):∀ x∈r,F2 x.left=0/\F2 x.right=0:=by
 unfold Bl at h
 split at h
 ·omega
 ·exact MG h
theorem VV (r:List A2):KN r=Am r:=by
 unfold KN Am
 by_cases h1:Bl r=0
 ·rw[h1,if_neg (show ¬ ((0:Int)≠0) by simp),if_neg (show ¬ ((0:Int)≠0) by simp)]
  have hf:=TF h1
  have:=le r [] [] ⟨by simp[LC],fun n=>rfl,rfl⟩ fun x hx=>⟨Th (hf x hx).1,Th (hf x hx).2⟩
  rw[show r.any Lr=r.any Oz from by congr 1;funext x;exact rB x]
  cases ha:CF [] r with
  | none=>rw[ha]at this;simp only at this;simp[this]
  | some m =>
   rw[ha]at this
   simp only at this
   rw[this]
   by_cases hk:(m.any fun p=>marked p.1)=true
   ·simp[mk,hk]
   ·simp[mk,hk]
 ·rw[if_pos (by simpa using h1),if_pos (by simpa using h1)]
theorem Mk (r:List A2)(hs:KZ r<2^38):PF Ek [Ak r] (.int .i64 (Am r)):=VV r▸RX r hs
end Go.Dw
end
namespace Go.Dw
mutual
def He (f:A0->Bool):A0->Bool
 | .mk k n v l=>f (.mk k n v l)&&jU f l
def jU (f:A0->Bool):List A0->Bool
 | []=>true
 | a::l=>He f a&&jU f l
end
theorem nq (f:A0->Bool)(l:List A0):jU f l=l.all (He f):=by induction l with | nil=>rfl | cons a l ih=>simp[jU,ih]
theorem Hh (f:A0->Bool)(m:A0):He f m=(f m&&m.args.all (He f)):=by cases m;simp only[He,nq,A0.args]
theorem SR {f:A0->Bool}{m a:A0}(h:He f m=true)(ha:a∈m.args):He f a=true:=by
 rw[Hh,Bool.and_eq_true]at h
 exact List.all_eq_true.1 h.2 a ha
theorem GI {f:A0->Bool}{m:A0}(h:He f m=true):f m=true:=by
 rw[Hh,Bool.and_eq_true]at h;exact h.1
def C5 (n:Nat)(m:A0):Bool:=decide (0<=m.rule)&&decide (m.rule<=n)
def Au (r:List A2)(m:A0):A2:=r.getD (m.rule-1).toNat default
def Bn (r:List A2)(m:A0):Bool :=
 if 0<m.rule then decide (m.name=[])&&(!m.var&&decide (m.args.length=(AA [(Au r m).left]).length))
 else if m.var then decide (m.args.length=0)&&Cb m.name false
 else decide (m.args.length<=8)&&Cb m.name true
def FH (r:List A2)(m:A0):Int :=
 if Am r≠0 then Am r else if He (C5 r.length) m=false then 8 else if He (Bn r) m=false then 4 else if 4000<As m\/200<Bd m then 3 else 0
mutual
def gU:A0->Nat
 | .mk k _ _ l=>(if k=0 then 0 else 1)+W4 l
def W4:List A0->Nat
 | []=>0
 | a::l=>gU a+W4 l
end
mutual
theorem nS:∀ m,gU m<=As m
 | .mk k n v l=>by simp only[gU,As];have:=WF l;split<;>omega
theorem WF:∀ l,W4 l<=Bv l
 | []=>Nat.le_refl _
 | a::l=>by simp only[W4,Bv];have:=nS a;have:=WF l;omega
end
mutual
def ET:A0->Nat
 | .mk _ _ _ l=>Hu 1 l
def Hu (n:Nat):List A0->Nat
 | []=>n
 | a::l=>if 4000<n+ET a then n+ET a else Hu (n+ET a) l
end
theorem jx (m:A0):ET m=Hu 1 m.args:=by cases m;simp[ET,A0.args]
mutual
theorem Yn:∀ m,ET m<=As m
 | .mk _ _ _ l=>by simp only[ET,As];have:=aM l 1;omega
theorem aM:∀ (l:List A0)(n:Nat),Hu n l<=n+Bv l
 | [],n=>by simp[Hu,Bv]
 | a::l,n=>by
  simp only[Hu,Bv]
  have h1:=Yn a
  have h2:=aM l (n+ET a)
  split<;>omega
end
mutual
theorem dy:∀ m,ET m<=4000->ET m=As m
 | .mk _ _ _ l=>by simp only[ET,As];exact fun h=>ZB l 1 h
theorem ZB:∀ (l:List A0)(n:Nat),Hu n l<=4000->Hu n l=n+Bv l
 | [],n=>by simp[Hu,Bv]
 | a::l,n=>by
  simp only[Hu,Bv]
  intro h
  split at h
  ·omega
  ·rename_i hc
   rw[if_neg hc]
   have:=dy a (by omega)
   rw[ZB l _ h];omega
end
theorem fL (m:A0):4000<ET m↔4000<As m:=by
 constructor
 ·intro h;have:=Yn m;omega
 ·intro h
  by_cases hc:ET m<=4000
  ·rw[dy m hc]at hc;omega
  ·omega
mutual
def zB:Term->A0
 | .mk n v l=>.mk 0 n v (jW l)
def jW:List Term->List A0
 | []=>[]
 | a::l=>zB a::jW l
end
def Mu (v:A9)(l:List A9):Nat:=(KM (fun x=>decide (v=x)) l).toNat
theorem Ff {v:A9}:∀ {l:List A9},v∈l->KM (fun x=>decide (v=x)) l=Mu v l/\Mu v l<l.length/\l.getD (Mu v l) default=v
 | [],h=>by cases h
 | x::l,h=>by
  unfold Mu
  simp only[KM]
  by_cases he:v=x
  ·subst he;simp
  ·have hm:v∈l:=(List.mem_cons.1 h).resolve_left he
   obtain⟨h1,h2,h3⟩:=Ff hm
   have hd:decide (v=x)=false:=by simpa using he
   simp only[hd,Bool.false_eq_true,if_false]
   rw[h1]
   have hn:¬ ((Mu v l:Nat):Int)<0:=by omega
   have h4:(((Mu v l:Nat):Int)+1).toNat=Mu v l+1:=by omega
   simp only[hn,if_false,h4,List.length_cons]
   refine⟨by omega,by omega,?_⟩
   simpa[List.getD_eq_getElem?_getD]using h3
mutual
def CI (vars:List A9)(x:List Term):Term->Term
 | .mk n v l=>if v then x.getD (Mu n vars) default else .mk n false (aS vars x l)
def aS (vars:List A9)(x:List Term):List Term->List Term
 | []=>[]
 | a::l=>CI vars x a::aS vars x l
end
theorem ik (vars:List A9)(x:List Term)(l:List Term):aS vars x l=l.map (CI vars x):=by induction l with | nil=>rfl | cons a l ih=>simp[aS,ih]
theorem M3 (vars:List A9)(x:List Term)(t:Term):CI vars x t=if t.var then x.getD (Mu t.name vars) default else .mk t.name false (t.args.map (CI vars x)):=by cases t;simp only[CI,ik,Term.name,Term.var,Term.args];rfl
mutual
def Af (r:List A2)(f:A2->Term):A0->Term
 | .mk k n v l=>if k=0 then .mk n v (Yr r f l) else CI (AA [(r.getD (k-1).toNat default).left]) (Yr r f l) (f (r.getD (k-1).toNat default))
def Yr (r:List A2)(f:A2->Term):List A0->List Term
 | []=>[]
 | a::l=>Af r f a::Yr r f l
end
theorem jh (r:List A2)(f:A2->Term)(l:List A0):Yr r f l=l.map (Af r f):=by induction l with | nil=>rfl | cons a l ih=>simp[Yr,ih]
theorem De (r:List A2)(f:A2->Term)(m:A0):Af r f m=if m.rule=0 then .mk m.name m.var (m.args.map (Af r f)) else CI (AA [(Au r m).left]) (m.args.map (Af r f)) (f (Au r m)):=by cases m;simp only[Af,jh,A0.rule,A0.name,A0.var,A0.args,Au];rfl
def Gt (r:List A2)(f:A2->Term)(m:A0):Option Term×Int :=
 if FH r m≠0 then (none,FH r m) else if BO (Af r f m) then (some (Af r f m),0) else (none,3)
structure GY (r:List A2) (m:A0):Prop where
 rg:He (C5 r.length) m=true
 fm:He (Bn r) m=true
theorem GY.arg {r:List A2}{m a:A0}(h:GY r m)(ha:a∈m.args):GY r a:=⟨SR h.rg ha,SR h.fm ha⟩
theorem FC {r:List A2}{m:A0}(h:FH r m=0):Am r=0/\GY r m/\As m<=4000/\Bd m<=200:=by
 unfold FH at h
 split at h
 ·rename_i hc;exact absurd h hc
 ·rename_i h1
  split at h
  ·cases h
  ·rename_i h2
   split at h
   ·cases h
   ·rename_i h3
    split at h
    ·cases h
    ·exact⟨Classical.not_not.1 h1,⟨by simpa using h2,by simpa using h3⟩,by omega,by omega⟩
theorem GY.rule {r:List A2}{m:A0}(h:GY r m)(hr:m.rule≠0):0<m.rule/\m.rule<=r.length/\Au r m∈r/\m.args.length=(AA [(Au r m).left]).length/\m.name=[]/\m.var=false:=by
 have h1:=GI h.rg
 have h2:=GI h.fm
 unfold C5 at h1
 rw[Bool.and_eq_true,decide_eq_true_eq,decide_eq_true_eq]at h1
 unfold Bn at h2
 rw[if_pos (by omega),Bool.and_eq_true,Bool.and_eq_true,decide_eq_true_eq,decide_eq_true_eq]at h2
 exact⟨by omega,h1.2,A4 (by omega),h2.2.2,h2.1,by simpa using h2.2.1⟩
theorem GY.rule_pos {r:List A2}{m:A0}(h:GY r m)(hr:m.rule≠0):0<m.rule:=(h.rule hr).1
theorem Ir {p:A0->Bool}{g:Nat}{caps:List V}(hc:∀ σ,AR σ caps=caps)(l:List A0)(hl:l.length<2^62)(h:∀ a∈l,PF g (Ar a::caps) (.bool (p a))) :
  PF CG [DI cM 4 l,.fn (.func g) [] caps] (.int .i64 (KM p l)):=by
 refine Ab Bu.ok rfl ?_
 push_cast[hc]
 refine Ad (n:=l.length) (R:=fun k=>(∀ j,j<k->p (l.getD j default)=false)->Bu.L3 (DI cM 4 l) (.fn (.func g) [] caps) (.int .i64 l.length) (.int .i64 k) 0 [] _) ?_ ?_ 0 (by omega) (by intro j hj;omega)
 ·intro k hk ih hq
  refine A8.2 ?_
  push_cast[BT hk,ZE,nF,hc]
  refine .of (h _ (A4 hk)) ?_
  push_cast[CV (show k<2^62 by omega),hc]
  refine⟨fun hp=>A1 ?_,fun hp=>?_⟩
  ·push_cast[Bu.rs]
   rw[GF hk hp hq]
  ·exact ih fun j hj=>by rcases Nat.lt_succ_iff_lt_or_eq.1 hj with h | rfl;exact hq j h;exact hp
 ·intro hq
  refine A8.2 ?_
  push_cast[B8 (Nat.le_refl _)]
  refine A1 ?_
  push_cast[Bu.rs]
  rw[HT hq]
theorem Hc {p:A0->Bool}{g:Nat}{caps:List V}(hc:∀ σ,AR σ caps=caps)(l:List A0)(hl:l.length<2^62)(h:∀ a∈l,PF g (Ar a::caps) (.bool (p a))) :
  PF Cf [DI cM 4 l,.fn (.func g) [] caps] (.bool (l.any p)):=by
 refine Ab CA.ok rfl ?_
 push_cast[hc]
 refine .of (Ir hc l hl h) ?_
 push_cast[hc]
 refine A1 ?_
 push_cast[CA.rs,Ng]
theorem yr (m:A0)(v:V):put 3 [v] (cM m)=[.int .i64 m.rule,.str m.name,.bool m.var,v]:=by rw[Tm];rfl
attribute [push_cast] yr
theorem SE (m:A0)(hs:As m<2^40):PF I4 [Ar m] (.int .i64 (ET m)):=by
 induction m using Cr with
 | h m ih =>
 refine Ab Jl.ok rfl ?_
 have hst:=AQ m
 have hl:=AV m.args
 rw[jx]
 push_cast
 refine Ad (n:=m.args.length) (R:=fun k=>∀ v:Nat,Hu v (m.args.drop k)=Hu 1 m.args->v<=1+Bv (m.args.take k)->Jl.L3 (.int .i64 v) (CB m.args) (.int .i64 m.args.length) (.int .i64 k) 0 [] (Bx 0 Jl.rs fun x' H'=>x'=.int .i64 (Hu 1 m.args)/\H'=[])) ?_ ?_ 0 (Nat.zero_le _) 1 (by simp) (by omega)
 ·intro k hk ih2 v hv hb
  have h1:=J4 _ _ hk
  have h2:=Q9 m.args (k+1)
  have hm:=A4 hk
  have hsp:=Yn (m.args.getD k default)
  have hih:=ih _ hm (by omega)
  rw[Al hk]at hv
  simp only[Hu]at hv
  generalize hx:m.args.getD k default=a at hm hv h1 hsp hih
  refine A8.2 ?_
  push_cast[BT hk,hx]
  refine .of hih ?_
  have hw:IntKind.i64.wrap ((v:Int)+(ET a:Int))=((v+ET a:Nat):Int):=by rw[Bs (by omega) (by omega)];omega
  by_cases hc:4000<v+ET a
  ·rw[if_pos hc]at hv
   have hci:((4000:Int)<((v+ET a:Nat):Int))=True:=eq_true (by omega)
   rw[hv]at hw hci
   generalize Hu 1 m.args=w at hw hci
   push_cast[hw,hci]
   exact A1 (by push_cast[Jl.rs])
  ·rw[if_neg hc]at hv
   have hci:((4000:Int)<((v+ET a:Nat):Int))=False:=eq_false (by omega)
   have:=ih2 (v+ET a) hv (by omega)
   generalize v+ET a=w at hw hci this
   push_cast[hw,hci,CV (show k<2^62 by omega)]
   exact this
 ·intro v hv hb
  rw[Ao]at hv
  refine A8.2 ?_
  push_cast[B8 (Nat.le_refl _)]
  refine A1 ?_
  push_cast[Jl.rs,<-hv]
  rfl
theorem Ry (m:A0)(hs:As m<2^40):PF GZ [Ar m] (.int .i64 (Bd m)):=by
 induction m using Cr with
 | h m ih =>
 refine Ab Ma.ok rfl ?_
 have hst:=AQ m
 have hl:=AV m.args
 have hd:=Ml m.args
 push_cast
 refine Ad (n:=m.args.length) (R:=fun k=>Ma.L3 (.int .i64 (AY (m.args.take k):Nat)) (CB m.args) (.int .i64 m.args.length) (.int .i64 k) 0 [] _) ?_ ?_ 0 (by omega)
 ·intro k hk ih2
  have h1:=IO _ _ hk
  have hm:=A4 hk
  have:=CL hm
  refine A8.2 ?_
  push_cast[BT hk]
  refine .of (ih _ hm (by omega)) ?_
  push_cast[CV (show k<2^62 by omega)]
  rw[h1]at ih2
  exact ih2
 ·refine A8.2 ?_
  push_cast[B8 (Nat.le_refl _),List.take_length]
  rw[Bs (by omega) (by omega)]
  refine A1 ?_
  push_cast[Ma.rs,List.take_length,El m]
theorem gx (m:A0)(hs:As m<2^40):PF Mm [Ar m] (Ar m):=by
 induction m using Cr with
 | h m ih =>
 refine Ab QA.ok rfl ?_
 have hst:=AQ m
 have hl:=AV m.args
 push_cast
 refine Ad (n:=m.args.length) (R:=fun k=>QA.L3 (.ptr 0 0) (.ptr 1 0) (CB m.args) (.int .i64 m.args.length) (.int .i64 k) 0
  [.cells A7 [.int .i64 m.rule,.str m.name,.bool m.var,Bf cM 2 4 (m.args.take k)],.cells A7 [.int .i64 0,.str [],.bool false,.sl 4 []],.arr A7 4 k] _) ?_ ?_ 0 (by omega)
 ·intro k hk ih2
  have hm:=A4 hk
  have:=CL hm
  have hlt:(m.args.take k).length=k:=by simp;omega
  rw[Aa hk]at ih2
  refine A8.2 ?_
  push_cast[BT hk]
  refine .of (ih _ hm (by omega)) ?_
  push_cast[hlt,CV (show k<2^62 by omega)]
  refine⟨by unfold Ah;omega,?_⟩
  exact ih2
 ·refine A8.2 ?_
  push_cast[B8 (Nat.le_refl _)]
  refine A1 ?_
  push_cast[QA.rs,List.take_length,sj]
  rw[A0.eta]
def zM:A0:=.mk 0 [] false []
def PZ (r:Option A0)(e:Int):V:=match r with
 | some m=>.tup [Ar m,.int .i64 e]
 | none=>.tup [Ar zM,.int .i64 e]
def M8 (m:A0):Bool:=decide (As m<=4000)&&decide (Bd m<=200)
def eo (m:A0):V:=if M8 m then PZ (some m) 0 else PZ none 3
theorem px:V.agg [.int .i64 0,.str [],.bool false,.sl 4 []]=Ar zM:=rfl
theorem Vq (m:A0)(hs:As m<2^40):PF Md [Ar m] (eo m):=by
 have hsz:=fL m
 refine Ab NI.ok rfl ?_
 push_cast
 refine .of (SE m hs) ?_
 unfold eo M8
 by_cases h1:4000<ET m
 ·have hi:((4000:Int)<(ET m:Int))=True:=eq_true (by omega)
  have h1':¬ As m<=4000:=by omega
  push_cast[hi,h1']
  exact A1 (by push_cast[NI.rs,px];rfl)
 ·have hi:((4000:Int)<(ET m:Int))=False:=eq_false (by omega)
  have h1':As m<=4000:=by omega
  push_cast[hi]
  refine .of (Ry m hs) ?_
  by_cases h2:200<Bd m
  ·have hj:((200:Int)<(Bd m:Int))=True:=eq_true (by omega)
   have h2':¬ Bd m<=200:=by omega
   push_cast[hj,h2']
   exact A1 (by push_cast[NI.rs,px];rfl)
  ·have hj:((200:Int)<(Bd m:Int))=False:=eq_false (by omega)
   have h2':Bd m<=200:=by omega
   push_cast[hj]
   refine .of (gx m hs) ?_
   push_cast
   exact A1 (by push_cast[NI.rs];simp[h1',h2'];rfl)
theorem V4 {p q:A0->Bool}{g:Nat}{caps:List V}{B:Nat}(hc:∀ σ,AR σ caps=caps)(h:∀ a,q a=true->mb a<=B->PF g (Ar a::caps) (.bool (p a)))(hB:B<2^40)(m:A0)(hq:He q m=true)(hm:mb m<=B) :
  PF K6 [Ar m,.fn (.func g) [] caps] (.bool (He p m)):=by
 induction m using Cr with
 | h m ih =>
 have hmb:=Wj m
 have hsz:=Gd m
 have hst:=AQ m
 have hl:=AV m.args
 have hC:=Hc (p:=fun a=>!He p a) (g:=N2) (caps:=[.ro [.fn (.func g) [] caps] 0]) (fun σ=>by push_cast) m.args (by omega) fun a ha=>by
  refine Ab Pk.ok rfl ?_
  push_cast[hc]
  refine .of (ih a ha (SR hq ha) (by have:=rK ha;omega)) ?_
  push_cast
  exact A1 (by push_cast[Pk.rs])
 refine Ab QK.ok rfl ?_
 rw[Hh]
 push_cast[hc]
 refine .of (h m (GI hq) hm) ?_
 cases hp:p m with
 | false =>
  push_cast[hc]
  exact A1 (by push_cast[QK.rs])
 | true =>
  push_cast[hc]
  refine .of hC ?_
  push_cast[hc]
  exact A1 (by push_cast[QK.rs,Wc])
theorem Y2 (r:List A2)(m:A0)(hr:KZ r<2^38)(hq:C5 r.length m=true)(hm:mb m<2^40):PF Lz [Ak r,Ar m] (.bool (Bn r m)):=by
 have hmb:=Wj m
 have hsz:=Gd m
 have hst:=AQ m
 have hl:=AV m.args
 have hI:∀ b,PF DF [.str m.name,.bool b] (.bool (Cb m.name b)):=fun b=>Rt _ b (by omega)
 unfold C5 at hq
 rw[Bool.and_eq_true,decide_eq_true_eq,decide_eq_true_eq]at hq
 refine Ab DB.ok rfl ?_
 unfold Bn
 by_cases h1:0<m.rule
 ·have hm1:r.getD (m.rule-1).toNat default∈r:=A4 (by omega)
  have hrm:=FQ hm1
  have hst:=AS (Au r m).left
  have hru:r.getD (m.rule-1).toNat default=Au r m:=rfl
  have hw:IntKind.i64.wrap (m.rule-1)=m.rule-1:=Bs (by have:=Bh r;omega) (by have:=Bh r;omega)
  have hc1:((0:Int)<=m.rule-1)=True:=eq_true (by omega)
  have hc2:(m.rule-1<(r.length:Int))=True:=eq_true (by omega)
  rw[hru]at hrm
  have hV:=Ew [(Au r m).left] (by simp[Ac];omega)
  rw[if_pos h1]
  by_cases h2:m.name=[]
  ·cases h3:m.var with
   | true =>
    push_cast[eq_true h1,h2,h3]
    exact A1 (by push_cast[DB.rs])
   | false =>
    push_cast[eq_true h1,h2,h3,hw,hc1,hc2,hru]
    refine .of hV ?_
    push_cast
    exact A1 (by push_cast[DB.rs];exact decide_eq_decide.2 (by omega))
  ·push_cast[eq_true h1,eq_false h2]
   exact A1 (by push_cast[DB.rs])
 ·rw[if_neg h1]
  cases hv:m.var with
  | true =>
   rw[if_pos rfl]
   by_cases h0:m.args.length=0
   ·push_cast[eq_false h1,hv,h0]
    refine .of (hI false) ?_
    push_cast
    exact A1 (by push_cast[DB.rs])
   ·have hi:((m.args.length:Int)=0)=False:=eq_false (by omega)
    push_cast[eq_false h1,hv,hi]
    exact A1 (by push_cast[DB.rs,h0])
  | false =>
   rw[if_neg (by simp)]
   by_cases h0:m.args.length<=8
   ·have hi:((m.args.length:Int)<=8)=True:=eq_true (by omega)
    push_cast[eq_false h1,hv,hi]
    refine .of (hI true) ?_
    push_cast
    exact A1 (by push_cast[DB.rs,h0])
   ·have hi:((m.args.length:Int)<=8)=False:=eq_false (by omega)
    push_cast[eq_false h1,hv,hi]
    exact A1 (by push_cast[DB.rs,h0])
theorem ov (m:A0):He (fun _=>true) m=true:=by
 induction m using Cr with
 | h m ih=>rw[Hh,Bool.true_and,List.all_eq_true];exact ih
theorem my (r:List A2)(a:A0):PF Kb [Ar a,.ro [Ak r] 0] (.bool (C5 r.length a)):=by
 refine Ab JD.ok rfl ?_
 unfold C5
 by_cases h:0<=a.rule
 ·push_cast[eq_true h]
  exact A1 (by push_cast[JD.rs])
 ·push_cast[eq_false h]
  exact A1 (by push_cast[JD.rs])
theorem lQ (r:List A2)(a:A0)(hr:KZ r<2^38)(hq:C5 r.length a=true)(hm:mb a<2^40):PF Km [Ar a,.ro [Ak r] 0] (.bool (Bn r a)):=by
 refine Ab MX.ok rfl ?_
 push_cast
 refine .of (Y2 r a hr hq hm) ?_
 push_cast
 exact A1 (by push_cast[MX.rs])
theorem YT (r:List A2)(m:A0)(hr:KZ r<2^38)(hm:mb m<2^39):PF N0 [Ak r,Ar m] (.int .i64 (FH r m)):=by
 have hsz:=Gd m
 have hsp:=fL m
 refine Ab F7.ok rfl ?_
 push_cast
 refine .of (LU r hr) ?_
 generalize hT:FH r m=T
 unfold FH at hT
 by_cases h1:¬ Am r=0
 ·rw[if_pos h1]at hT
  subst hT
  push_cast[eq_false h1]
  exact A1 (by push_cast[F7.rs])
 have h1:Am r=0:=Classical.not_not.1 h1
 rw[if_neg (by simpa using h1)]at hT
 push_cast[h1]
 refine .of (V4 (p:=C5 r.length) (q:=fun _=>true) (B:=2^39) (caps:=[.ro [Ak r] 0]) (fun σ=>by push_cast) (fun a _ _=>my r a) (by omega) m (ov m) (by omega)) ?_
 cases h2:He (C5 r.length) m with
 | false =>
  rw[h2,if_pos rfl]at hT
  subst hT
  push_cast
  exact A1 (by push_cast[F7.rs])
 | true =>
 rw[h2,if_neg (by simp)]at hT
 push_cast
 refine .of (V4 (p:=Bn r) (q:=C5 r.length) (B:=2^39) (caps:=[.ro [Ak r] 0]) (fun σ=>by push_cast) (fun a hq hb=>lQ r a hr hq (by omega)) (by omega) m h2 (by omega)) ?_
 cases h3:He (Bn r) m with
 | false =>
  rw[h3,if_pos rfl]at hT
  subst hT
  push_cast
  exact A1 (by push_cast[F7.rs])
 | true =>
 rw[h3,if_neg (by simp)]at hT
 push_cast
 refine .of (SE m (by omega)) ?_
 by_cases h4:4000<ET m
 ·have hi:((4000:Int)<(ET m:Int))=True:=eq_true (by omega)
  rw[if_pos (by omega)]at hT
  subst hT
  push_cast[hi]
  exact A1 (by push_cast[F7.rs])
 ·have hi:((4000:Int)<(ET m:Int))=False:=eq_false (by omega)
  push_cast[hi]
  refine .of (Ry m (by omega)) ?_
  by_cases h5:200<Bd m
  ·have hj:((200:Int)<(Bd m:Int))=True:=eq_true (by omega)
   rw[if_pos (by omega)]at hT
   subst hT
   push_cast[hj]
   exact A1 (by push_cast[F7.rs])
  ·have hj:((200:Int)<(Bd m:Int))=False:=eq_false (by omega)
   rw[if_neg (by omega)]at hT
   subst hT
   push_cast[hj]
   exact A1 (by push_cast[F7.rs])
theorem fV (t:Term)(p:List Int)(hp:p.length<2^62)(ht:size t<2^62):PF T0 [Ap t,Ht p] (Va (Dg t p)):=by
 refine Ab UE.ok rfl ?_
 push_cast
 refine Ad (n:=p.length) (R:=fun k=>∀ u,Dg u (p.drop k)=Dg t p->size u<2^62->UE.L3 (.ptr 0 0) (.ptr 1 0) (Ht p) (.int .i64 p.length) (.int .i64 k) 0 [.cells A3 (cT u),.cells A3 [.str [],.bool false,.sl 3 []]] _) ?_ ?_ 0 (by omega) t rfl ht
 ·intro k hk ih u hu hsu
  rw[Al hk]at hu
  simp only[Dg]at hu
  generalize hgi:p.getD k default=i at hu
  have hl:=Aj u.args
  have hst:=AJ u
  refine A8.2 ?_
  by_cases hi:i<0
  ·rw[if_neg (by omega)]at hu
   push_cast[BT hk,hgi,hi]
   refine A1 ?_
   push_cast[UE.rs,<-hu]
   rfl
  ·by_cases hi2:(u.args.length:Int)<=i
   ·rw[if_neg (by omega)]at hu
    push_cast[BT hk,hgi,hi,hi2]
    refine A1 ?_
    push_cast[UE.rs,<-hu]
    rfl
   ·rw[if_pos (by omega)]at hu
    push_cast[BT hk,hgi,hi,hi2,CV (show k<2^62 by omega)]
    have hm:u.args.getD i.toNat default∈u.args:=A4 (by omega)
    exact⟨by omega,ih _ hu (by have:=Bt hm;omega)⟩
 ·intro u hu hsu
  rw[Ao]at hu
  refine A8.2 ?_
  push_cast[B8 (Nat.le_refl _)]
  refine A1 ?_
  push_cast[UE.rs,<-hu]
  rfl
theorem MB (s:List A6)(v:A9)(hl:s.length<2^62):PF HR [Bi s,.str v] (Ap ((Ae s v).getD (.mk v true []))):=by
 refine Ab NH.ok rfl ?_
 push_cast
 refine Ad (n:=s.length) (R:=fun k=>Ae (s.drop k) v=Ae s v->NH.L3 (.str v) (.ptr 0 0) (Bi s) (.int .i64 s.length) (.int .i64 k) 0 [.cells A3 [.str [],.bool false,.sl 3 []]] _) ?_ ?_ 0 (by omega) rfl
 ·intro k hk ih hq
  rw[Al hk]at hq
  simp only[Ae]at hq
  generalize hgi:s.getD k default=b at hq
  refine A8.2 ?_
  by_cases h:b.name=v
  ·rw[if_pos h]at hq
   push_cast[BT hk,hgi,h]
   refine A1 ?_
   push_cast[NH.rs,<-hq]
   rfl
  ·rw[if_neg h]at hq
   push_cast[BT hk,hgi,h,CV (show k<2^62 by omega)]
   exact ih hq
 ·intro hq
  rw[Ao]at hq
  refine A8.2 ?_
  push_cast[B8 (Nat.le_refl _)]
  refine A1 ?_
  push_cast[NH.rs,<-hq]
  rfl
theorem Em (s:List A6)(hl:s.length<2^62)(t:Term)(ht:size t<2^40):PF CP [Bi s,Ap t] (Ap (AD s t)):=by
 induction t using Ag with
 | h t ih =>
 have hst:=AJ t
 have hll:=Aj t.args
 refine Ab Nv.ok rfl ?_
 rw[Iw]
 cases hv:t.var with
 | true =>
  push_cast[hv]
  refine .of (MB s t.name hl) ?_
  push_cast
  exact A1 (by push_cast[Nv.rs])
 | false =>
  push_cast[hv]
  refine Ad (n:=t.args.length) (R:=fun k=>Nv.L3 (Bi s) (.ptr 0 0) (.ptr 1 0) (Bg t.args) (.int .i64 t.args.length) (.int .i64 k) 0 [.cells A3 [.str [],.bool false,.sl 3 []],.cells A3 [.str t.name,.bool false,Bf cT 2 3 ((t.args.take k).map (AD s))],.arr A3 3 k] _) ?_ ?_ 0 (by omega)
  ·intro k hk ih2
   have hm:=A4 hk
   have hm2:=Bt hm
   have hlen:((t.args.take k).map (AD s)).length=k:=by simp;omega
   rw[Aa hk,List.map_append,List.map_singleton]at ih2
   refine A8.2 ?_
   push_cast[BT hk]
   refine .of (ih _ hm (by omega)) ?_
   push_cast[hlen,CV (show k<2^62 by omega)]
   exact⟨Nat.le_trans (Nat.mul_le_mul_right 48 (show _<=2^41 by omega)) (by unfold Ah;decide),ih2⟩
  ·refine A8.2 ?_
   push_cast[B8 (Nat.le_refl _)]
   refine A1 ?_
   push_cast[Nv.rs,List.take_length]
   unfold Ap
   rw[OV];rfl
theorem Vx (s:List A6)(v:A9)(hl:s.length<2^62):PF Me [Bi s,.str v] (.bool (bound s v)):=by
 refine Ab Nq.ok rfl ?_
 unfold bound
 push_cast
 refine Ad (n:=s.length) (R:=fun k=>Ae (s.drop k) v=Ae s v->Nq.L3 (.str v) (Bi s) (.int .i64 s.length) (.int .i64 k) 0 [] _) ?_ ?_ 0 (by omega) rfl
 ·intro k hk ih hq
  rw[Al hk]at hq
  simp only[Ae]at hq
  generalize hgi:s.getD k default=b at hq
  refine A8.2 ?_
  by_cases h:b.name=v
  ·rw[if_pos h]at hq
   push_cast[BT hk,hgi,h]
   refine A1 ?_
   push_cast[Nq.rs,<-hq]
   rfl
  ·rw[if_neg h]at hq
   push_cast[BT hk,hgi,h,CV (show k<2^62 by omega)]
   exact ih hq
 ·intro hq
  rw[Ao]at hq
  refine A8.2 ?_
  push_cast[B8 (Nat.le_refl _)]
  refine A1 ?_
  push_cast[Nq.rs,<-hq]
  rfl
theorem dt {v:A9}:∀ {s:List A6},IT v s<s.length->¬ (s.getD (IT v s) default).name<v
 | [],h=>by simp at h
 | b::s,h=>by
  simp only[IT]at h ⊢
  split
  ·rename_i hx
   rw[if_pos hx]at h
   simpa using dt (s:=s) (by simpa using h)
  ·rename_i hx
   simpa using hx
theorem Xc {i:Nat}{l:List A6}{n:A9}{t:Term}:(.own i 4 (l.map cB++[V.str n::cT t]):V)=Bf cB i 4 (l++[⟨n,t⟩]):=by simp[Bf,cB]
theorem gN (s:List A6)(v:A9)(t:Term)(hl:s.length<2^40)(hn:∀ b∈s,b.name.length<2^62)(hv:v.length<2^62):PF RN [Bi s,.str v,Ap t] (Bi (FS s v t)):=by
 have hle:=RT v s
 have hge:=@dt v s
 have hlt:=fun j=>@Xp v s j
 have tail:∀ m:Nat,m<=2^40->∀ b,b<=64->m*b<=Ah:=fun m hm b hb=>Nat.le_trans (Nat.mul_le_mul hm hb) (by unfold Ah;decide)
 unfold FS
 generalize IT v s=a at hle hge hlt
 have e1:(s.drop 0).take (a-0)=s.take a:=by simp
 have e2:(s.drop a).take (s.length-a)=s.drop a:=by rw[List.take_of_length_le];simp
 refine Ab Pv.ok rfl ?_
 push_cast
 refine Ad (n:=a) (R:=fun k=>Pv.L3 (Bi s) (.str v) (.ro (cT t) 0) (.int .i64 k) 0 [] _) ?_ ?_ 0 (by omega)
 ·intro k hk ih
  have hkl:k<s.length:=by omega
  have h1:Id (s.getD k default).name v<0:=JS.2 (hlt k hk)
  refine A8.2 ?_
  push_cast[BT hkl]
  refine .of (Ck _ _ (hn _ (A4 hkl)) hv) ?_
  push_cast[h1,CV (show k<2^62 by omega)]
  exact ih
 ·refine A8.2 ?_
  rcases Nat.lt_or_ge a s.length with h | h
  ·have h2:¬ Id (s.getD a default).name v<0:=fun hc=>hge h (JS.1 hc)
   push_cast[BT h]
   refine .of (Ck _ _ (hn _ (A4 h)) hv) ?_
   push_cast[h2,e1,e2,Xc,List.cons_append,List.nil_append]
   refine⟨⟨by omega,hle⟩,tail _ (by simp;omega) _ (by omega),tail _ (by simp;omega) _ (by omega),hle,⟨by simp,tail _ (by simp;omega) _ (by omega)⟩,A1 ?_⟩
   push_cast[Pv.rs]
  ·push_cast[B8 h,e1,e2,Xc,List.cons_append,List.nil_append]
   refine⟨⟨by omega,hle⟩,tail _ (by simp;omega) _ (by omega),tail _ (by simp;omega) _ (by omega),hle,⟨by simp,tail _ (by simp;omega) _ (by omega)⟩,A1 ?_⟩
   push_cast[Pv.rs]
mutual
def dG:Term->Term->Int
 | .mk n v l,t=>if v≠t.var then (if v then -1 else 1) else if Id n t.name≠0 then Id n t.name else if RJ l.length t.args.length≠0 then RJ l.length t.args.length else Tn l t.args
def Tn:List Term->List Term->Int
 | [],_=>0
 | _::_,[]=>0
 | a::l,b::m=>if dG a b≠0 then dG a b else Tn l m
end
theorem jS (a t:Term):dG a t=if a.var≠t.var then (if a.var then -1 else 1) else if Id a.name t.name≠0 then Id a.name t.name else if RJ a.args.length t.args.length≠0 then RJ a.args.length t.args.length else Tn a.args t.args:=by
 cases a;simp only[dG];rfl
theorem U2 {a b:Int}:RJ a b=0↔a=b:=by unfold RJ;split<;>(try split)<;>omega
theorem Wv:∀ (l m:List Term),l.length=m.length->(∀ a∈l,∀ b,dG a b=0↔a=b)->(Tn l m=0↔l=m)
 | [],[],_,_=>by simp[Tn]
 | [],_::_,h,_=>by simp at h
 | _::_,[],h,_=>by simp at h
 | a::l,b::m,h,hc=>by
  have ih:=Wv l m (by simpa using h) fun x hx=>hc x (by simp[hx])
  have h1:=hc a (by simp) b
  simp only[Tn]
  by_cases he:a=b
  ·rw[if_neg (by simpa using h1.2 he),ih]
   simp[he]
  ·have:¬ dG a b=0:=fun e=>he (h1.1 e)
   rw[if_pos this]
   simp[this,he]
theorem nk (a:Term):∀ b,dG a b=0↔a=b:=by
 induction a using Ag with
 | h a ih =>
 intro b
 rw[jS,UW]
 by_cases h1:a.var=b.var
 ·rw[if_neg (by simpa using h1)]
  by_cases h2:a.name=b.name
  ·rw[if_neg (by simpa using QM.2 h2)]
   by_cases h3:a.args.length=b.args.length
   ·rw[if_neg (by simpa using U2.2 (by omega)),Wv _ _ h3 ih]
    simp[h1,h2]
   ·have:¬ RJ a.args.length b.args.length=0:=fun e=>h3 (by have:=U2.1 e;omega)
    rw[if_pos this]
    simp only[this,false_iff,not_and]
    intro _ _ e;exact h3 (by rw[e])
  ·have:¬ Id a.name b.name=0:=fun e=>h2 (QM.1 e)
   rw[if_pos this]
   simp[this,h2]
 ·rw[if_pos h1]
  simp only[h1,false_and,and_false,iff_false]
  split<;>decide
theorem Z3 (a:Term):∀ b,tb a<2^62->tb b<2^62->PF JG [Ap a,Ap b] (.int .i64 (dG a b)):=by
 induction a using Ag with
 | h a ih =>
 intro b ha hb
 have ha2:=KA a
 have hb2:=KA b
 have hla:=Ha a.args
 rw[jS]
 refine Ab Er.ok rfl ?_
 by_cases h1:a.var=b.var
 ·rw[if_neg (by simpa using h1)]
  push_cast[h1,show ∀ x y:Bool,(x != y)=!decide (x=y) from fun x y=>by cases x<;>cases y<;>rfl]
  refine .of (Ck _ _ (by omega) (by omega)) ?_
  by_cases h2:Id a.name b.name=0
  ·rw[if_neg (by simpa using h2)]
   push_cast[h2]
   refine .of (Iv _ _) ?_
   by_cases h3:RJ a.args.length b.args.length=0
   ·have hll:a.args.length=b.args.length:=by have:=U2.1 h3;omega
    rw[if_neg (by simpa using h3)]
    push_cast[h3]
    refine Ad (n:=a.args.length) (R:=fun k=>Tn (a.args.drop k) (b.args.drop k)=Tn a.args b.args->Er.L3 (.ro (cT a) 0) (.ro (cT b) 0) (.int .i64 a.args.length) (.int .i64 k) 0 [] _) ?_ ?_ 0 (by omega) rfl
    ·intro k hk ih2 hq
     have hkb:k<b.args.length:=by omega
     rw[Al hk,Al hkb]at hq
     simp only[Tn]at hq
     have hm:=A4 hk
     have hmb:=A4 hkb
     refine A8.2 ?_
     push_cast[BT hk,BT hkb]
     refine .of (ih _ hm _ (by have:=Ol hm;omega) (by have:=Ol hmb;omega)) ?_
     push_cast[CV (show k<2^62 by omega)]
     refine⟨fun h=>A1 ?_,fun h=>ih2 ?_⟩
     ·push_cast[Er.rs]
      rw[<-hq,if_pos (by simpa using h)]
     ·rw[<-hq,if_neg (by simpa using h)]
    ·intro hq
     refine A8.2 ?_
     push_cast[B8 (Nat.le_refl _)]
     refine A1 ?_
     push_cast[Er.rs]
     rw[<-hq,Ao];rfl
   ·rw[if_pos h3]
    push_cast[h3]
    exact A1 (by push_cast[Er.rs])
  ·rw[if_pos h2]
   push_cast[h2]
   exact A1 (by push_cast[Er.rs])
 ·rw[if_pos h1]
  have e:∀ x y:Bool,(x != y)=!decide (x=y):=fun x y=>by cases x<;>cases y<;>rfl
  cases hv:a.var<;>cases hv2:b.var
  ·exact absurd (hv.trans hv2.symm) h1
  ·push_cast[hv,hv2,e]
   exact A1 (by push_cast[Er.rs])
  ·push_cast[hv,hv2,e]
   exact A1 (by push_cast[Er.rs])
  ·exact absurd (hv.trans hv2.symm) h1
theorem fF (a b:Term)(ha:tb a<2^62)(hb:tb b<2^62):PF Ps [Ap a,Ap b] (.bool (decide (a=b))):=by
 refine Ab UK.ok rfl ?_
 push_cast
 refine .of (Z3 a b ha hb) ?_
 push_cast
 refine A1 ?_
 push_cast[UK.rs,nk]
theorem yR {l:List Term}{k:Nat}(h:k<l.length):(l.map cT)[k]?=some (cT (l.getD k default)):=by
 rw[List.getElem?_map];simp[List.getD_eq_getElem?_getD,h]
theorem mc {σ:Nat->Option Nat}{l:List Term}:(l.map cT).map (AR σ)=l.map cT:=by rw[List.map_map];rfl
theorem nY (p:List Int):∀ (t x y:Term),short t=true->Dg t p=some y->size t<2^40->p.length<2^40->PF QP [Ap t,Ht p,Ap x] (Ap (IG t p x)):=by
 induction p with
 | nil =>
  intro t x y _ _ _ _
  refine Ab T5.ok rfl ?_
  push_cast
  exact A1 (by push_cast[T5.rs];rfl)
 | cons i p ih =>
  intro t x y ht hy hs hp
  simp only[Dg]at hy
  split at hy
  case isFalse=>cases hy
  rename_i hi
  have hst:=AJ t
  have hll:=Aj t.args
  have hk:i.toNat<t.args.length:=by omega
  have hm:=A4 hk
  have hm2:=Bt hm
  have hne:¬ (((i::p).length:Nat):Int)=0:=by rw[List.length_cons];omega
  have hsub:=ih _ x y ((CJ.1 ht).2.2 _ hm) hy (by omega) (by simp at hp;omega)
  refine Ab T5.ok rfl ?_
  have hv:t.var=false:=by
   cases h:t.var with
   | false=>rfl
   | true=>have:=(CJ.1 ht).2.1 h;rw[this]at hk;simp at hk
  have hres:IG t (i::p) x=.mk t.name false (t.args.set i.toNat (IG (t.args.getD i.toNat default) p x)):=by
   simp only[IG];rw[if_pos hi,hv]
  rw[hres]
  have e1:((i::p).drop 1).take ((i::p).length-1)=p:=by simp
  have e2:(i::p).getD 0 default=i:=rfl
  have e3:((0:Int)<(((i::p).length:Nat):Int))=True:=eq_true (by rw[List.length_cons];omega)
  have e4:(1:Nat)<=(i::p).length:=by simp
  generalize (i::p)=q at hne e1 e2 e3 e4
  have hi0:(0<=i)=True:=eq_true hi.1
  have hi1:(i<(t.args.length:Int))=True:=eq_true hi.2
  have hroom:t.args.length*48<=Ah:=Nat.le_trans (Nat.mul_le_mul_right 48 (show _<=2^41 by omega)) (by unfold Ah;decide)
  have hsetC:(t.args.map cT).set i.toNat (put 0 (cT (IG (t.args.getD i.toNat default) p x)) ((t.args.map cT).getD i.toNat []))=(t.args.set i.toNat (IG (t.args.getD i.toNat default) p x)).map cT:=by
   have e5:(t.args.map cT).getD i.toNat []=cT (t.args.getD i.toNat default):=by
    rw[List.getD_eq_getElem?_getD (l:=t.args.map cT),yR hk];rfl
   rw[List.map_set,e5,lw]
  push_cast[hne,yR hk,e1,e2,e3,e4,hi0,hi1,List.length_map,hroom]
  refine .of hsub ?_
  push_cast[hi0,hi1,List.length_map,hk,hsetC,List.length_set,mc]
  refine A1 ?_
  push_cast[T5.rs]
  unfold Ap
  rw[OV];rfl
end Go.Dw
