/-
  Contracts and lemmas for ResidualFull: part f of 11.
-/
import Derived.Sort.KeysCollected
import Derived.Test.YtkdcfkfdkimaeaaGreatDoorFae
import Derived.Shelf.Spec.SlicesInsert
import Derived.Lib.AppendZerosOnto
import Derived.Test.YtkdcfkfdkimaeaaGreatDoorFad
import Derived.ArgAppend
import Derived.Shelf.Spec.SlicesGrow
import Derived.Test.YtkdcfkfdkimaeaaGreatDoorRows
import Derived.WalkKit
import Derived.ProofKit
import Derived.OpenShut
import Derived.JoinedCond
import Derived.ReadAgain
import Derived.Carry
set_option linter.unusedVariables false
set_option linter.unusedSimpArgs false
set_option maxRecDepth 100000
section
namespace Go.Dw
open Go.Proofs (sortS)
theorem QP {σ:Nat->Option Nat}{l:List A9}:(l.map fun s=>[V.str s]).map (AN σ)=l.map fun s=>[V.str s]:=by rw[List.map_map];rfl
attribute [push_cast] QP
theorem tT (a b c d o:Ob):takeB [2] [a,b,c,d] [o]=[a,b,A6 (BG [2] 4) o,d]:=rfl
theorem rL (a b c d:Ob):give [2] [a,b,c,d]=[A6 (Ay [2]) c]:=rfl
def VM (ks:List A9)(n:A9):List A9:=if n∈ks then ks else ks++[n]
def Ij (ks:List A9):List (V×V):=ks.map fun k=>(.str k,.bool true)
theorem oa {σ:Nat->Option Nat}{ks:List A9}:((Ij ks).map fun p=>(ren σ p.1,ren σ p.2))=Ij ks:=by
 unfold Ij;rw[List.map_map];rfl
attribute [push_cast] oa
theorem Vr (n:A9):∀ (ks:List A9)(i:Nat),GA (.str n) (Ij ks) i=some (if n∈ks then some (i+ks.idxOf n,.bool true) else none)
 | [],i=>by simp[GA,Ij]
 | k::ks,i=>by
  have ih:=Vr n ks (i+1)
  unfold Ij at ih ⊢
  by_cases h:k=n
  ·subst h;simp[GA,HX]
  ·have h':n≠k:=fun e=>h e.symm
   have e:HX (.str n) (.str k)=some false:=by simp[HX,h']
   have hb:(k==n)=false:=by simp[h]
   simp only[List.map_cons,GA,e,ih,List.mem_cons,h',false_or,List.idxOf_cons,hb,cond_false]
   split
   ·congr 3;omega
   ·rfl
theorem jY (n:A9)(ks:List A9):Yh (.str n) (.bool true) (Ij ks)=some (Ij (VM ks n)):=by
 unfold Yh
 rw[Vr]
 unfold VM
 by_cases h:n∈ks
 ·simp only[h,if_true]
  congr 1
  unfold Ij
  apply List.ext_getElem (by simp)
  intro i h1 h2
  rw[List.getElem_set]
  split
  ·rename_i e
   subst e
   simp[List.getElem_idxOf]
  ·rfl
 ·simp only[h,if_false]
  simp[Ij]
def FX (l:List (List Int×Term)):List A9:=(l.filter fun x=>x.2.var).map fun x=>x.2.name
def Ra (ks:List A9)(l:List (List Int×Term)):List A9:=(FX l).foldl VM ks
def HV (ks:List A9)(l:List Term):List A9:=l.foldl (fun ks t=>Ra ks (Ab t [])) ks
def AD (l:List Term):List A9:=sortS (HV [] l)
mutual
theorem FV:∀ (t:Term)(p:List Int),(Ab t p).length=size t
 | .mk n v l,p=>by simp only[Ab,size,List.length_cons,YN l p 0];omega
theorem YN:∀ (l:List Term)(p:List Int)(i:Nat),(Bb l p i).length=Af l
 | [],p,i=>rfl
 | a::l,p,i=>by simp only[Bb,Af,List.length_append,FV a,YN l]
end
theorem qD (ks:List A9)(n:A9):(VM ks n).length<=ks.length+1:=by unfold VM;split<;>simp
theorem Pr:∀ (l:List A9)(ks:List A9),(l.foldl VM ks).length<=ks.length+l.length
 | [],ks=>by simp
 | n::l,ks=>by have:=Pr l (VM ks n);have:=qD ks n;simp only[List.foldl_cons,List.length_cons];omega
theorem tW (ks:List A9)(l:List (List Int×Term)):(Ra ks l).length<=ks.length+l.length:=by
 have h1:=Pr (FX l) ks
 have h2:(FX l).length<=l.length:=by unfold FX;rw[List.length_map];exact List.length_filter_le _ _
 unfold Ra;omega
theorem U1:∀ (l:List Term)(ks:List A9),(HV ks l).length<=ks.length+Af l
 | [],ks=>by simp[HV,Af]
 | t::l,ks=>by
  have h1:=U1 l (Ra ks (Ab t []))
  have h2:=tW ks (Ab t [])
  rw[FV]at h2
  simp only[HV,List.foldl_cons,Af]at h1 ⊢;omega
theorem DS (l:List Term)(hs:Af l<2^40):PF CN [Bk l] (C7 (AD l)):=by
 have hl:=Ap l
 refine Ad GD.ok rfl ?_
 push_cast
 refine Ae (n:=l.length) (R:=fun k=>GD.L8 (.ptr 1 0) .any (Bk l) (.int .i64 l.length) (.int .i64 k) 0 [.map (Ij (HV [] (l.take k))),.cells DB [.map 0]] _) ?_ ?_ 0 (by omega)
 ·intro k hk ih
  have hm:=A4 hk
  have hsm:=B4 hm
  refine A7.2 ?_
  push_cast[BB hk]
  refine .of (Gw _) ?_
  push_cast
  have hks:HV [] (l.take (k+1))=Ra (HV [] (l.take k)) (Ab (l.getD k default) []):=by rw[Aa hk];simp[HV]
  rw[hks]at ih
  generalize HV [] (l.take k)=ks at ih ⊢
  generalize l.getD k default=u at ih hsm ⊢
  refine Ax.rf C6 [] [.ro (cT u) 0] ((Ab u []).map EO) (fun j H1=>H1=[.map (Ij (Ra ks ((Ab u []).take j))),.cells DB [.map 0],.dead]) (fun _ _=>False) rfl (E4 u (by omega)) ?_ (by simp[Ra,FX]) ?_ ?_ (fun _ _ h=>h.elim) ?_ ?_ (fun _ _ h=>h.elim)
  ·intro it hit
   obtain⟨x,_,rfl⟩:=List.mem_map.1 hit
   rfl
  ·push_cast
  ·rintro j H1 rfl
   refine⟨rfl,?_⟩
   push_cast
  ·rintro lo r j it H1 hit rfl
   rw[List.getElem?_map]at hit
   cases hx:(Ab u [])[j]? with
   | none=>rw[hx]at hit;cases hit
   | some x =>
   rw[hx]at hit
   have hit:it=EO x:=by simpa using hit.symm
   subst hit
   have hj:j<(Ab u []).length:=(List.getElem?_eq_some_iff.1 hx).1
   have hxj:(Ab u [])[j]=x:=(List.getElem?_eq_some_iff.1 hx).2
   have htk:(Ab u []).take (j+1)=(Ab u []).take j++[x]:=by rw[List.take_succ_eq_append_getElem hj,hxj]
   push_cast[MF,EO]
   refine A7.2 ?_
   cases hv:x.2.var with
   | false =>
    have hvs:Ra ks ((Ab u []).take (j+1))=Ra ks ((Ab u []).take j):=by rw[htk];simp[Ra,FX,hv]
    push_cast[hv]
    refine⟨rfl,?_⟩
    push_cast[cut,hvs]
   | true =>
    have hvs:Ra ks ((Ab u []).take (j+1))=VM (Ra ks ((Ab u []).take j)) x.2.name:=by rw[htk];simp[Ra,FX,hv]
    push_cast[hv,jY,mr]
    refine⟨rfl,?_⟩
    push_cast[cut,hvs]
  ·rintro H1 rfl
   push_cast[Co (show k<2^62 by omega)]
   have:(Ab u []).take ((Ab u []).map EO).length=Ab u []:=by rw[List.length_map,List.take_length]
   rw[this]
   exact ih
 ·refine A7.2 ?_
  push_cast[AZ (Nat.le_refl _)]
  unfold AD
  rw[List.take_length]
  have hkl:=U1 l []
  generalize HV [] l=ks at hkl ⊢
  simp only[List.length_nil,Nat.zero_add]at hkl
  have hlen:(Ij ks).length=ks.length:=by unfold Ij;rw[List.length_map]
  rw[hlen]
  have fin:∀ (seen:List Nat),seen.Nodup->(∀ i∈seen,i<ks.length)->(∀ k,k<ks.length->k∈seen)->sortS (seen.map fun i=>ks.getD i [])=sortS ks:=fun seen h1 h2 h3=>by
   refine Go.mergeSort_of_perm ?_
   have hp:seen.Perm (List.range ks.length):=(List.perm_ext_iff_of_nodup h1 List.nodup_range).2 fun i=>by rw[List.mem_range];exact⟨h2 i,h3 i⟩
   have he:(List.range ks.length).map (fun i=>ks.getD i [])=ks:=by
    apply List.ext_getElem (by simp)
    intro i a b
    have hi:i<ks.length:=by simpa using b
    simp[List.getD_eq_getElem?_getD,hi]
   have:=hp.map fun i=>ks.getD i []
   rw[he]at this
   exact this
  have key:∀ (m:Nat)(seen:List Nat),ks.length-seen.length<=m->seen.Nodup->(∀ i∈seen,i<ks.length)->GD.L3 (.rw 2 1 seen.length) (.it 3) 0
    [.map (Ij ks),.cells DB [.map 0],.row C5 1 ((seen.map fun i=>ks.getD i []).map fun s=>[V.str s]),.iter (some 0) ks.length seen]
    (BH 0 GD.rs fun x' H'=>x'=C7 (sortS ks)/\H'=[]):=by
   intro m
   induction m with
   | zero =>
    intro seen hm hnd hlt
    refine A7.2 ?_
    push_cast
    refine du 0 ks.length seen (Ij ks) rfl rfl hlen.symm (fun hall=>?_) (fun k p hp hk=>?_)
    ·have hsl:(seen.map fun i=>ks.getD i []).length=seen.length:=by simp
     have hc:=eH (seen.map fun i=>ks.getD i [])
     have hso:(sortS (seen.map fun i=>ks.getD i [])).length=seen.length:=by rw[(List.mergeSort_perm _ _).length_eq,hsl]
     rw[hsl,fin seen hnd hlt hall]at hc
     rw[fin seen hnd hlt hall]at hso
     push_cast
     refine Bl.some [2] (by simp) (by simp) (R:=fun x H'=>x=.tup []/\H'=[.row C5 1 ((sortS ks).map fun s=>[V.str s])]) (by rw[rL,El,QP];exact hc) ?_
     rintro x H' ⟨rfl,rfl⟩ _
     rw[tT]
     push_cast
     refine⟨by rw[List.length_map];exact hso,A0 ?_⟩
     push_cast[GD.rs]
     rfl
    ·have:(seen++[k]).length<=(List.range ks.length).length:=List.Nodup.length_le_of_subset (by simp[List.nodup_append,hnd];intro a ha e;exact hk (e▸ha)) (by
      intro i hi
      rw[List.mem_range]
      rcases List.mem_append.1 hi with h | h
      ·exact hlt i h
      ·simp only[List.mem_singleton]at h;subst h;rw[<-hlen];exact (List.getElem?_eq_some_iff.1 hp).1)
     simp at this;omega
   | succ m ih =>
    intro seen hm hnd hlt
    refine A7.2 ?_
    push_cast
    refine du 0 ks.length seen (Ij ks) rfl rfl hlen.symm (fun hall=>?_) (fun k p hp hk=>?_)
    ·have hsl:(seen.map fun i=>ks.getD i []).length=seen.length:=by simp
     have hc:=eH (seen.map fun i=>ks.getD i [])
     have hso:(sortS (seen.map fun i=>ks.getD i [])).length=seen.length:=by rw[(List.mergeSort_perm _ _).length_eq,hsl]
     rw[hsl,fin seen hnd hlt hall]at hc
     rw[fin seen hnd hlt hall]at hso
     push_cast
     refine Bl.some [2] (by simp) (by simp) (R:=fun x H'=>x=.tup []/\H'=[.row C5 1 ((sortS ks).map fun s=>[V.str s])]) (by rw[rL,El,QP];exact hc) ?_
     rintro x H' ⟨rfl,rfl⟩ _
     rw[tT]
     push_cast
     refine⟨by rw[List.length_map];exact hso,A0 ?_⟩
     push_cast[GD.rs]
     rfl
    ·have hkl:k<ks.length:=by rw[<-hlen];exact (List.getElem?_eq_some_iff.1 hp).1
     have hpe:p=(.str (ks.getD k []),.bool true):=by
      unfold Ij at hp
      rw[List.getElem?_map]at hp
      simp[hkl]at hp
      rw[<-hp];simp[List.getD_eq_getElem?_getD,hkl]
     have hen:∀ a b,vU [.map (Ij ks),a,b,.iter (some 0) ks.length (seen++[k])] (.it 3)=some (.tup [p.1,p.2]):=fun a b=>by
      simp[vU,hlen,hp]
     subst hpe
     push_cast[hen]
     refine⟨?_,?_⟩
     ·have:(seen.map fun i=>ks.getD i []).length=seen.length:=by simp
      have h2:seen.length<=ks.length:=by simpa using List.Nodup.length_le_of_subset hnd (l₂:=List.range ks.length) fun i hi=>List.mem_range.2 (hlt i hi)
      exact⟨by simp,Um (n:=seen.length) (b:=16) (by omega) (by omega)⟩
     ·have hnd2:(seen++[k]).Nodup:=by simp[List.nodup_append,hnd];intro a ha e;exact hk (e▸ha)
      have hlt2:∀ i∈seen++[k],i<ks.length:=fun i hi=>by
       rcases List.mem_append.1 hi with h | h
       ·exact hlt i h
       ·simp only[List.mem_singleton]at h;subst h;exact hkl
      have:=ih (seen++[k]) (by simp;omega) hnd2 hlt2
      simp only[List.map_append,List.map_cons,List.map_nil,List.length_append,List.length_singleton]at this
      rw[List.map_append,QP]
      exact this
  exact key ks.length [] (by simp) List.nodup_nil (by simp)
end Go.Dw
end
section
namespace Go.Dw
open Go.Proofs (sortS)
def Mg:List A3->Nat
 | []=>0
 | x::r=>1+tb x.left+tb x.right+Mg r
theorem Gc {r:List A3}{x:A3}(h:x∈r):1+tb x.left+tb x.right<=Mg r:=by
 induction r with
 | nil=>cases h
 | cons y ys ih=>rcases List.mem_cons.1 h with rfl | h<;>simp[Mg];have:=ih h;omega
theorem By (r:List A3):r.length<=Mg r:=by
 induction r with
 | nil=>simp
 | cons x xs ih=>simp only[Mg,List.length_cons];omega
section
variable (r:A3)
theorem Aep:(cR r)[0]?=some (.str r.left.name):=rfl
theorem AeN:(cR r)[1]?=some (.bool r.left.var):=rfl
theorem AeX:(cR r)[2]?=some (Bk r.left.args):=by show some (V.sl 3 (ji r.left))=_;rw[cw];rfl
theorem AeV:(cR r)[3]?=some (.str r.right.name):=rfl
theorem AeT:(cR r)[4]?=some (.bool r.right.var):=rfl
theorem Aek:(cR r)[5]?=some (Bk r.right.args):=by show some (V.sl 3 (ji r.right))=_;rw[cw];rfl
end
attribute [push_cast] Aep AeN AeX AeV AeT Aek
def DC:List A3->Int
 | []=>0
 | x::r=>if Jc [x.left,x.right]≠0 then Jc [x.left,x.right] else DC r
def Bu (r:List A3):Int:=if 64<r.length then 3 else DC r
theorem ZR (a b:Term):(.sl 3 [cT a,cT b]:V)=Bk [a,b]:=rfl
theorem TH (r:List A3)(hs:Mg r<2^61):PF IH [As r] (.int .i64 (Bu r)):=by
 have hl:=By r
 refine Ad En.ok rfl ?_
 by_cases h64:64<r.length
 ·have hi:((64:Int)<(r.length:Int))=True:=eq_true (by omega)
  push_cast[hi]
  refine A0 ?_
  push_cast[En.rs,Bu,h64]
 ·have hi:((64:Int)<(r.length:Int))=False:=eq_false (by omega)
  push_cast[hi,Bu,h64]
  refine Ae (n:=r.length) (R:=fun k=>DC (r.drop k)=DC r->En.L3 (As r) (.int .i64 r.length) (.int .i64 k) 0 [] _) ?_ ?_ 0 (by omega) rfl
  ·intro k hk ih hq
   have hm:=Gc (A4 hk)
   refine A7.2 ?_
   rw[Ag hk]at hq
   simp only[DC]at hq
   generalize hx:r.getD k default=x at hm hq
   have hA:=je [x.left,x.right] (by simp) (by simp;omega)
   push_cast[BB hk,hx]
   refine .of hA ?_
   push_cast[Co (show k<2^62 by omega)]
   refine⟨fun h=>A0 ?_,fun h=>ih ?_⟩
   ·push_cast[En.rs]
    rw[<-hq,if_pos h]
   ·rw[<-hq,if_neg h]
  ·intro hq
   refine A7.2 ?_
   push_cast[AZ (Nat.le_refl _)]
   refine A0 ?_
   push_cast[En.rs]
   rw[<-hq,Ar];rfl
theorem Fv (l:List A9)(v:A9)(hl:l.length<2^62):PF AU [C7 l,.str v] (.int .i64 (Mf (fun x=>decide (v=x)) l)):=by
 refine Ad BO.ok rfl ?_
 push_cast
 refine Ae (n:=l.length) (R:=fun k=>(∀ j,j<k->decide (v=l.getD j default)=false)->BO.L3 (C7 l) (.str v) (.int .i64 l.length) (.int .i64 k) 0 [] _) ?_ ?_ 0 (by omega) (by intro j hj;omega)
 ·intro k hk ih hq
  refine A7.2 ?_
  push_cast[BB hk,Co (show k<2^62 by omega)]
  refine⟨fun hp=>A0 ?_,fun hp=>?_⟩
  ·push_cast[BO.rs]
   rw[HW hk (by simpa using hp) hq]
  ·refine ih fun j hj=>?_
   rcases Nat.lt_succ_iff_lt_or_eq.1 hj with h | rfl
   ·exact hq j h
   ·simpa using hp
 ·intro hq
  refine A7.2 ?_
  push_cast[AZ (Nat.le_refl _)]
  refine A0 ?_
  push_cast[BO.rs]
  rw[HS hq]
theorem Pl (l:List A9)(v:A9)(hl:l.length<2^62):PF CG [C7 l,.str v] (.bool (decide (v∈l))):=by
 refine Ad CZ.ok rfl ?_
 push_cast
 refine .of (Fv l v hl) ?_
 push_cast
 refine A0 ?_
 push_cast[CZ.rs,Lx]
 rw[Bool.eq_iff_iff];simp
def M8 (x:A3):Bool:=x.left.var||(AD [x.right]).any fun v=>!decide (v∈AD [x.left])
theorem HF (l:List Term):(AD l).length<=Af l:=by
 have:=U1 l []
 unfold AD;rw[(List.mergeSort_perm _ _).length_eq];simpa using this
theorem cr (x:A3)(hs:tb x.left+tb x.right<2^39):PF KB [Oh x] (.bool (M8 x)):=by
 have h1:=Bc x.left
 have h2:=Bc x.right
 have e1:∀ t,Af [t]=size t:=fun t=>by simp[Af]
 have hv:=HF [x.left]
 have hv2:=HF [x.right]
 rw[e1]at hv hv2
 have hL:=DS [x.left] (by rw[e1];omega)
 have hR:=DS [x.right] (by rw[e1];omega)
 refine Ad OH.ok rfl ?_
 push_cast
 refine .of hL ?_
 cases hvar:x.left.var with
 | true =>
  push_cast[hvar]
  refine A0 ?_
  push_cast[OH.rs,M8,hvar]
  rfl
 | false =>
  push_cast[hvar]
  refine .of hR ?_
  push_cast
  refine .of (Dx (p:=fun v=>!decide (v∈AD [x.left])) (caps:=[.ro [C7 (AD [x.left])] 0]) (fun _=>rfl) _ (by omega) fun v hv=>?_) ?_
  ·refine Ad OP.ok rfl ?_
   push_cast
   refine .of (Pl _ _ (by omega)) ?_
   push_cast
   exact A0 (by push_cast[OP.rs])
  ·push_cast
   refine A0 ?_
   push_cast[OH.rs,M8,hvar]
   rfl
end Go.Dw
end
namespace Go.Dw
abbrev TF:=List (A9×Nat)
def LX:TF->A9->Option Nat
 | [],_=>none
 | p::m,n=>if p.1=n then some p.2 else LX m n
def De (m:TF)(u:Term):Option TF:=if u.var then some m else match LX m u.name with
 | some n=>if n=u.args.length then some m else none
 | none=>some (m++[(u.name,u.args.length)])
def Dy (m:TF):List (List Int×Term)->Option TF
 | []=>some m
 | x::l=>(De m x.2).bind fun m'=>Dy m' l
def CQ (m:TF):List A3->Option TF
 | []=>some m
 | x::r=>(Dy m (Ab x.left [])).bind fun m1=>(Dy m1 (Ab x.right [])).bind fun m2=>CQ m2 r
theorem KJ:∀ (a b:List (List Int×Term)) (m:TF),Dy m (a++b)=(Dy m a).bind fun m'=>Dy m' b
 | [],b,m=>rfl
 | x::a,b,m=>by simp only[List.cons_append,Dy];cases De m x.2<;>simp[KJ a b]
def Fh (m:TF):List (V×V):=m.map fun p=>(.str p.1,.int .i64 p.2)
theorem nn {σ:Nat->Option Nat}{m:TF}:((Fh m).map fun p=>(ren σ p.1,ren σ p.2))=Fh m:=by
 unfold Fh;rw[List.map_map];rfl
attribute [push_cast] nn
theorem PT (n:A9):∀ (m:TF)(i:Nat),match LX m n with
  | none=>GA (.str n) (Fh m) i=some none
  | some a=>∃ j,GA (.str n) (Fh m) i=some (some (i+j,.int .i64 a))/\(Fh m)[j]?=some (.str n,.int .i64 a)
 | [],i=>rfl
 | p::m,i=>by
  have ih:=PT n m (i+1)
  unfold LX
  by_cases h:p.1=n
  ·rw[if_pos h]
   refine⟨0,?_,?_⟩
   ·simp[Fh,GA,HX,h]
   ·simp[Fh,h]
  ·rw[if_neg h]
   have h':n≠p.1:=fun e=>h e.symm
   have hb:(n==p.1)=false:=by simpa using h'
   have e:∀ (k:Nat) ,GA (.str n) (Fh (p::m)) k=GA (.str n) (Fh m) (k+1):=fun k=>by simp[Fh,GA,HX,hb]
   cases hg:LX m n with
   | none=>rw[hg]at ih;simp only at ih ⊢;rw[e];exact ih
   | some a =>
    rw[hg]at ih
    obtain⟨j,h1,h2⟩:=ih
    refine⟨j+1,?_,?_⟩
    ·rw[e,h1];congr 3;omega
    ·simp only[Fh,List.map_cons,List.getElem?_cons_succ];exact h2
theorem iK (m:TF)(n:A9){H:List Ob}{k:Nat}(hk:H[k]?=some (.map (Fh m))):LN H true true (.int .i64 0) (.map k) (.str n)=some (.tup [.int .i64 ((LX m n).getD 0:Nat),.bool (LX m n).isSome]):=by
 have h:=PT n m 0
 have he:DF H (.map k)=some (Fh m):=by simp[DF,hk]
 unfold LN
 rw[he]
 cases hg:LX m n with
 | none=>rw[hg]at h;simp only at h;simp[mr,h,Nd]
 | some a=>rw[hg]at h;obtain⟨j,h1,h2⟩:=h;simp[mr,h1,Nd]
theorem ZJ {m m':TF}{u:Term}(hv:u.var=false)(h:De m u=some m'):Yh (.str u.name) (.int .i64 u.args.length) (Fh m)=some (Fh m'):=by
 have hf:=PT u.name m 0
 unfold De at h
 rw[hv]at h
 simp only[Bool.false_eq_true,if_false]at h
 unfold Yh
 cases hg:LX m u.name with
 | none =>
  rw[hg]at h hf
  simp only[Option.some.injEq]at h hf
  subst h
  rw[hf];simp[Fh]
 | some a =>
  rw[hg]at h hf
  simp only at h
  split at h
  ·rename_i ha
   cases h
   obtain⟨j,h1,h2⟩:=hf
   rw[h1]
   subst ha
   simp only[Nat.zero_add,Option.some.injEq]
   obtain⟨h3,h4⟩:=List.getElem?_eq_some_iff.1 h2
   rw[<-h4,List.set_getElem_self]
  ·cases h
def fS (o:Option TF)(x:V)(H:List Ob):Prop:=match o with
 | none=>x=.tup [.nilm,.bool false]/\H=[]
 | some m=>x=.tup [.map 0,.bool true]/\H=[.map (Fh m)]
abbrev arH (m:TF)(l:List Ob):List Ob:=.cells IQ [.nilm]::.cells jK [.bool false]::.map (Fh m)::.cells IQ [.map 2]::l
theorem kE {u:Term}{m:TF}{r:List A3}{v24:V}{j k n:Nat}(hs:size u<2^40)(hj:j<2)(hra:∀ σ,ren σ v24=v24)(hix:oK 3 2 (some 3) v24 (.int .i64 j)=some (An u))(hnone:Dy m (Ab u [])=none->CQ [] r=none)
  (hsome:∀ m',Dy m (Ab u [])=some m'->Ey.L6 (.ptr 0 0) (.ptr 1 0) (.ptr 3 0) .any (As r) (.int .i64 n) (.int .i64 k) v24 (.int .i64 (j+1:Nat)) 0 (arH m' [.dead]) (BH 0 Ey.rs (fS (CQ [] r)))) :
  Ey.L6 (.ptr 0 0) (.ptr 1 0) (.ptr 3 0) .any (As r) (.int .i64 n) (.int .i64 k) v24 (.int .i64 j) 0 (arH m [.dead]) (BH 0 Ey.rs (fS (CQ [] r))):=by
 have hj2:((j:Int)<2)=True:=eq_true (by omega)
 refine A7.2 ?_
 push_cast[hj2,hix]
 refine .of (Gw _) ?_
 push_cast
 refine Ax.rf C6 [] [.ro (cT u) 0] ((Ab u []).map EO) (fun i H1=>∃ m',Dy m ((Ab u []).take i)=some m'/\H1=arH m' [.dead,.dead]) (fun e H1=>e=.ret/\Dy m (Ab u [])=none/\∃ m',H1=arH m' [.dead,.dead]) rfl (E4 u hs) ?_ ⟨m,rfl,rfl⟩ ?_ ?_ ?_ ?_ ?_ ?_
 ·intro it hit
  obtain⟨x,_,rfl⟩:=List.mem_map.1 hit
  rfl
 ·push_cast[hra]
 ·rintro i H1 ⟨m',_,rfl⟩
  refine⟨rfl,?_⟩
  push_cast
 ·rintro i H1 ⟨_,_,m',rfl⟩
  refine⟨rfl,?_⟩
  push_cast
 ·rintro lo rr i it H1 hit ⟨m',hm',rfl⟩
  rw[List.getElem?_map]at hit
  cases hx:(Ab u [])[i]? with
  | none=>rw[hx]at hit;cases hit
  | some x =>
  rw[hx]at hit
  have hit:it=EO x:=by simpa using hit.symm
  subst hit
  have hi:i<(Ab u []).length:=(List.getElem?_eq_some_iff.1 hx).1
  have hxi:(Ab u [])[i]=x:=(List.getElem?_eq_some_iff.1 hx).2
  have htk:(Ab u []).take (i+1)=(Ab u []).take i++[x]:=by rw[List.take_succ_eq_append_getElem hi,hxi]
  have hst:Dy m ((Ab u []).take (i+1))=De m' x.2:=by rw[htk,KJ,hm'];simp[Dy]
  have hlk:∀ (a b:Ob) l,LN (a::b::.map (Fh m')::l) true true (.int .i64 0) (.map 2) (.str x.2.name)=some (.tup [.int .i64 ((LX m' x.2.name).getD 0:Nat),.bool (LX m' x.2.name).isSome]):=fun a b l=>iK m' _ rfl
  push_cast[MF,EO]
  refine A7.2 ?_
  cases hv:x.2.var with
  | true =>
   have hst2:De m' x.2=some m':=by unfold De;rw[hv];rfl
   push_cast[hv]
   refine⟨rfl,?_⟩
   refine⟨m',by rw[hst,hst2],?_⟩
   push_cast[cut]
  | false =>
   cases hg:LX m' x.2.name with
   | none =>
    have hst2:De m' x.2=some (m'++[(x.2.name,x.2.args.length)]):=by unfold De;rw[hv,hg];rfl
    have hup:=ZJ hv hst2
    push_cast[hv,hlk,hg,Option.isSome_none,hup,mr]
    refine⟨rfl,?_⟩
    refine⟨_,by rw[hst,hst2],?_⟩
    push_cast[cut]
   | some a =>
    by_cases ha:a=x.2.args.length
    ·have hst2:De m' x.2=some m':=by unfold De;rw[hv,hg];simp[ha]
     have hup:=ZJ hv hst2
     have ha':((a:Int)=(x.2.args.length:Int))=True:=eq_true (by omega)
     push_cast[hv,hlk,hg,Option.isSome_some,Option.getD_some,ha',hup,mr]
     refine⟨rfl,?_⟩
     refine⟨_,by rw[hst,hst2],?_⟩
     push_cast[cut]
    ·have hst2:De m' x.2=none:=by unfold De;rw[hv,hg];simp[ha]
     have ha':((a:Int)=(x.2.args.length:Int))=False:=eq_false (by omega)
     push_cast[hv,hlk,hg,Option.isSome_some,Option.getD_some,ha',mr]
     refine⟨rfl,?_⟩
     have hall:Dy m (Ab u [])=none:=by
      have:Ab u []=(Ab u []).take (i+1)++(Ab u []).drop (i+1):=(List.take_append_drop _ _).symm
      rw[this,KJ,hst,hst2];rfl
     refine⟨rfl,hall,m',?_⟩
     push_cast[cut]
 ·rintro H1 ⟨m',hm',rfl⟩
  rw[List.length_map,List.take_length]at hm'
  have:=hsome m' hm'
  push_cast[hra,Co (show j<2^62 by omega)]
  push_cast at this
  exact this
 ·rintro e H1 ⟨rfl,hn,m',rfl⟩
  simp only[dZ]
  push_cast
  rw[hnone hn]
  exact eh (.inl rfl) rfl ⟨rfl,rfl⟩
theorem Ya (r:List A3)(hs:Mg r<2^40):Spec prog Ia [As r] [] (fS (CQ [] r)):=by
 have hl:=By r
 refine AC mixed Ey.ok rfl ?_
 push_cast
 refine Ae (n:=r.length) (R:=fun k=>∀ m,CQ m (r.drop k)=CQ [] r->Ey.L8 (.ptr 0 0) (.ptr 1 0) (.ptr 3 0) .any (As r) (.int .i64 r.length) (.int .i64 k) 0 (arH m []) (BH 0 Ey.rs (fS (CQ [] r)))) ?_ ?_ 0 (by omega) [] rfl
 ·intro k hk ih m hm
  have hmm:=Gc (A4 hk)
  rw[Ag hk]at hm
  refine A7.2 ?_
  generalize hx:r.getD k default=x at hm hmm
  have h1:=Bc x.left
  have h2:=Bc x.right
  simp only[CQ]at hm
  have hr24:∀ σ,AN σ (cT x.left++cT x.right)=cT x.left++cT x.right:=fun σ=>rfl
  push_cast[BB hk,hx,hr24]
  refine kE (j:=0) (u:=x.left) (by omega) (by omega) (fun σ=>by rw[GL,hr24]) rfl (fun h=>by rw[<-hm,h];rfl) fun m1 hm1=>?_
  rw[hm1,Option.bind_some]at hm
  refine kE (j:=1) (u:=x.right) (by omega) (by omega) (fun σ=>by rw[GL,hr24]) rfl (fun h=>by rw[<-hm,h];rfl) fun m2 hm2=>?_
  rw[hm2,Option.bind_some]at hm
  refine A7.2 ?_
  push_cast[Co (show k<2^62 by omega)]
  exact ih m2 hm
 ·intro m hm
  refine A7.2 ?_
  push_cast[AZ (Nat.le_refl _)]
  rw[Ar]at hm
  rw[<-hm]
  refine TC 2 rfl rfl ⟨rfl,?_⟩
  push_cast
end Go.Dw
section
namespace Go.Dw
def marked (n:A9):Bool:=Ic n [35]
def Ao (r:List A3):Int:=if Bu r≠0 then Bu r else match CQ [] r with
 | none=>6
 | some m=>if m.any (fun p=>marked p.1) then 6 else if r.any M8 then 7 else 0
theorem sR {n:Nat}{seen:List Nat}{k:Nat}(hm:n<=seen.length)(hnd:seen.Nodup)(hlt:∀ i∈seen,i<n)(hk:k∉seen)(hkn:k<n):False:=by
 have h1:(seen++[k]).Nodup:=by simp[List.nodup_append,hnd];intro a ha e;exact hk (e▸ha)
 have h2:(seen++[k]).length<=(List.range n).length:=List.Nodup.length_le_of_subset h1 (by
  intro i hi
  rw[List.mem_range]
  rcases List.mem_append.1 hi with h | h
  ·exact hlt i h
  ·simp only[List.mem_singleton]at h;subst h;exact hkn)
 simp at h2;omega
theorem oL {n:Nat}{seen:List Nat}{k:Nat}(hnd:seen.Nodup)(hlt:∀ i∈seen,i<n)(hk:k∉seen)(hkn:k<n):(seen++[k]).Nodup/\∀ i∈seen++[k],i<n:=by
 refine⟨by simp[List.nodup_append,hnd];intro a ha e;exact hk (e▸ha),fun i hi=>?_⟩
 rcases List.mem_append.1 hi with h | h
 ·exact hlt i h
 ·simp only[List.mem_singleton]at h;subst h;exact hkn
theorem Sn (r:List A3)(hs:Mg r<2^38)(hn:∀ m,CQ [] r=some m->∀ p∈m,p.1.length<2^62):PF E3 [As r] (.int .i64 (Ao r)):=by
 have hl:=By r
 refine Ad CC.ok rfl ?_
 push_cast
 refine .of (TH r (by omega)) ?_
 unfold Ao
 by_cases h1:Bu r=0
 ·rw[if_neg (by simpa using h1)]
  push_cast[h1]
  refine Bl.all (show Hl prog (.func Ia) [As r] [] (fS (CQ [] r)) from AT▸Ya r (by omega)) ?_
  intro x H' h
  cases hr:CQ [] r with
  | none =>
   rw[hr]at h
   obtain⟨rfl,rfl⟩:=h
   push_cast
   refine A0 ?_
   push_cast[CC.rs]
  | some m =>
   have hnm:=hn m hr
   rw[hr]at h
   obtain⟨rfl,rfl⟩:=h
   push_cast
   have hlen:(Fh m).length=m.length:=by unfold Fh;rw[List.length_map]
   rw[hlen]
   have key:∀ (f:Nat)(seen:List Nat),m.length-seen.length<f->seen.Nodup->(∀ i∈seen,i<m.length)->(∀ i∈seen,marked (m.getD i default).1=false)->CC.L4 (As r) (.it 1) 0
     [.map (Fh m),.iter (some 0) m.length seen] (BH 0 CC.rs fun x' H'=>x'=.int .i64 (if m.any (fun p=>marked p.1) then 6 else if r.any M8 then 7 else 0)/\H'=[]):=by
    intro f
    induction f with
    | zero =>
     intro seen hm hnd hlt hun
     omega
    | succ f ih =>
     intro seen hm hnd hlt hun
     refine A7.2 ?_
     push_cast
     refine du 0 m.length seen (Fh m) rfl rfl hlen.symm (fun hall=>?_) (fun k p hp hk=>?_)
     ·have hany:m.any (fun p=>marked p.1)=false:=by
       rw[List.any_eq_false]
       intro p hp
       obtain⟨i,hi,rfl⟩:=List.getElem_of_mem hp
       have:=hun i (hall i hi)
       simp only[List.getD_eq_getElem?_getD,hi,List.getElem?_eq_getElem,Option.getD_some]at this
       simp[this]
      push_cast[hany]
      refine .of (Ei (p:=M8) (g:=KB) (caps:=[]) (fun _=>rfl) r (by omega) fun x hx=>cr x (by have:=Gc hx;omega)) ?_
      push_cast
      refine⟨fun h=>A0 ?_,fun h=>A0 ?_⟩<;>push_cast[CC.rs,h]
     ·have hkl:k<m.length:=by rw[<-hlen];exact (List.getElem?_eq_some_iff.1 hp).1
      have hpe:p=(.str (m.getD k default).1,.int .i64 (m.getD k default).2):=by
       unfold Fh at hp
       rw[List.getElem?_map]at hp
       simp[hkl]at hp
       rw[<-hp];simp[List.getD_eq_getElem?_getD,hkl]
      have hen:vU [.map (Fh m),.iter (some 0) m.length (seen++[k])] (.it 1)=some (.tup [p.1,p.2]):=by
       simp[vU,hlen,hp]
      subst hpe
      have hmem:m.getD k default∈m:=A4 hkl
      push_cast[hen]
      refine .of (Z8 _ (hnm _ hmem)) ?_
      cases hmk:marked (m.getD k default).1 with
      | true =>
       have hany:m.any (fun p=>marked p.1)=true:=List.any_eq_true.2 ⟨_,hmem,hmk⟩
       unfold marked at hmk
       push_cast[hmk]
       refine A0 ?_
       push_cast[CC.rs,hany]
      | false =>
       have h2:=oL hnd hlt hk hkl
       have hlt':seen.length<m.length:=by
        rcases Nat.lt_or_ge seen.length m.length with h | h
        ·exact h
        ·exact (sR h hnd hlt hk hkl).elim
       have:=ih (seen++[k]) (by simp;omega) h2.1 h2.2 (fun i hi=>by
        rcases List.mem_append.1 hi with h | h
        ·exact hun i h
        ·simp only[List.mem_singleton]at h;subst h;exact hmk)
       unfold marked at hmk
       push_cast[hmk]
       exact this
   exact key (m.length+1) [] (by simp) List.nodup_nil (by simp) (by simp)
 ·rw[if_pos h1]
  push_cast[h1]
  refine A0 ?_
  push_cast[CC.rs]
end Go.Dw
end
section
namespace Go.Proofs
open Go.Shelf Go.RowKit Go.Lib
theorem Hv {P:Program}(w:World)(dT sT ty elem:TypeId)(b o dLen dCap:Nat)(a:Addr)(sLen sCap z:Nat)(cs:List Value)
  (hu:P.underlying dT=some (.slice elem)) (hs:(P.info? elem).map (·.size)=some z) (hn:cs.length=Nat.min sLen dLen*z)
  (hsrc:∀ j v,cs[j]?=some v->w.cell? (a.add j)=some v) (hc:∀ j,j<cs.length->(w.cell? ⟨b,o+j,none⟩).isSome=true) (hf:∀ j,j<cs.length->w.frozen? ⟨b,o+j,none⟩=false) (h1:∀ v∈cs,v.oneCell'=true) :
  (Builtin.copy_ #[dT,sT] ty #[.slice (some ⟨b,o,none⟩) dLen dCap,.slice (some a) sLen sCap]).run P w=.ok (goInt (Nat.min sLen dLen)) (w.setCells b o cs):=by
 have hl:=run_loadCells_list (P:=P) w a cs hsrc
 have hst:=run_storeCells_cells (P:=P) b o cs 0 w (by simpa using hc) (by simpa using hf) h1
 cases hq:P.info? elem with
 | none=>simp[hq]at hs
 | some i =>
  have hi:i.size=z:=by simpa[hq]using hs
  simp[Builtin.copy_,run_underlying hu,Builtin.lenOf,Builtin.firstCells,sizeOf,typeInfo,hq,hi,<-hn,hl,hst]
theorem Tryz.bind_size:(Tryz.prog.info? 148).map (·.size)=some 4:=by kernel_rfl
set_option maxHeartbeats 4000000 in
set_option maxRecDepth 100000 in
theorem Tryz.ins_shift (b n c i vb vc:Nat)(cs vs:List Value)(w:World)(hi:i<n)(hroom:n+1<=c)(hc63:c<=9223372036854775807)(hvb:vb≠b)
  (hcl:cs.length=n*4) (hvl:vs.length=4)
  (hcs:∀ j v,cs[j]?=some v->w.cell? ⟨b,j,none⟩=some v) (hsp:∀ j,j<(n+1)*4->(w.cell? ⟨b,j,none⟩).isSome=true) (hfz:∀ j,j<(n+1)*4->w.frozen? ⟨b,j,none⟩=false)
  (hvs:∀ j v,vs[j]?=some v->w.cell? ⟨vb,j,none⟩=some v) (h1c:∀ v∈cs,v.oneCell'=true) (h1v:∀ v∈vs,v.oneCell'=true)
  (tA tB:TypeId) (kA kB:Nat) (hsa:w.shape? vb=some (tA,kA)) (hsb:w.shape? b=some (tB,kB)) (hkB:kB≠0) (hfa:w.frozen? ⟨vb,0,none⟩=false) (hfe:w.frozen? ⟨vb,kA,none⟩=false) :
  Calls Tryz.prog 297 #[.slice (some ⟨b,0,none⟩) n c,.int .i64 i,.slice (some ⟨vb,0,none⟩) 1 vc] w fun e w' =>
   e=.returned (.slice (some ⟨b,0,none⟩) (n+1) c)/\w'=(w.drew.setCells b ((i+1)*4) (cs.drop (i*4))).setCells b (i*4) vs:=by
 have hz2:¬ ((i:Int)=(n:Int)):=by omega
 have hsz:=Tryz.bind_size
 have hov:∀ lb cb,(callFunc 308 #[.slice (some ⟨vb,0,none⟩) 1 vc,.slice (some ⟨b,(i+1)*4,none⟩) lb cb]).run Tryz.prog w=.ok (.value (.bool false)) w:=fun lb cb=>by
  rw[run_callFunc_extern Tryz.func308 (by kernel_rfl) (by kernel_rfl) (by kernel_rfl) (e:=Extern.SlicesOverlaps.overlaps #[144,144] #[4]) (by kernel_rfl),
   Lib.run_overlaps_apart w 144 4 148 Tryz.underlying144 4 Tryz.sizeOf148 ⟨vb,0,none⟩ ⟨b,(i+1)*4,none⟩ 1 vc lb cb hvb tA tB kA kB hsa hsb hkB hfa hfe]
  rfl
 have hdl:(cs.drop (i*4)).length=(n-i)*4:=by rw[List.length_drop,hcl];omega
 have hw1:IntKind.i64.wrap ((i:Int)+1)=(i:Int)+1:=by rw[IntKind.wrap_i64];omega
 have mixed:=Go.Dw.mixed
 have hb1:(0:Int)<=(i:Int)+1:=by omega
 have hin:i<=n:=by omega
 have htn:((i:Int)+1).toNat=i+1:=by omega
 have hb2:¬ (c=i+1):=by omega
 have hb3:(i:Int)<=(n:Int)+1:=by omega
 have hb4:¬ (c=i):=by omega
 have hcp1:∀ ty dc sc,(Builtin.copy_ #[144,144] ty #[.slice (some ⟨b,(i+1)*4,none⟩) (n-i) dc,.slice (some ⟨b,i*4,none⟩) (n+1-i) sc]).run Tryz.prog w.drew=.ok (goInt (Nat.min (n+1-i) (n-i))) (w.drew.setCells b ((i+1)*4) (cs.drop (i*4))):=fun ty dc sc =>
  Hv w.drew _ _ ty 148 b ((i+1)*4) (n-i) dc ⟨b,i*4,none⟩ (n+1-i) sc 4 (cs.drop (i*4)) Tryz.underlying144 hsz (by rw[hdl];simp only[Nat.min_def];split<;>omega)
   (fun j v hj=>by rw[Addr.add_lit];exact hcs (i*4+j) v (by rwa [List.getElem?_drop]at hj))
   (fun j hj=>hsp _ (by omega)) (fun j hj=>hfz _ (by omega)) (fun v hv=>h1c v (List.mem_of_mem_drop hv))
 obtain⟨W1,hW1⟩:∃ W1,W1=w.drew.setCells b ((i+1)*4) (cs.drop (i*4)):=⟨_,rfl⟩
 have hsp1:∀ k,k<(n+1)*4->(W1.cell? ⟨b,k,none⟩).isSome=true:=fun k hk=>by
  rw[hW1]
  exact isSome_setCells b _ _ w.drew (fun j hj=>hsp ((i+1)*4+j) (by rw[hdl]at hj;omega)) _ (hsp k hk)
 have hcp2:∀ (W:World),(∀ x,W.cell? x=W1.cell? x)->(∀ x,W.frozen? x=W1.frozen? x)->∀ ty dc,(Builtin.copy_ #[144,144] ty #[.slice (some ⟨b,i*4,none⟩) (n+1-i) dc,.slice (some ⟨vb,0,none⟩) 1 vc]).run Tryz.prog W=.ok (goInt (Nat.min 1 (n+1-i))) (W.setCells b (i*4) vs):=fun W hWc hWf ty dc =>
  Hv W _ _ ty 148 b (i*4) (n+1-i) dc ⟨vb,0,none⟩ 1 vc 4 vs Tryz.underlying144 hsz (by rw[hvl];simp only[Nat.min_def];split<;>omega)
   (fun j v hj=>by
    rw[Addr.add_lit,hWc,hW1,World.cell?_setCells_out b _ _ _ _ (fun h _=>absurd h hvb),Nat.zero_add]
    exact hvs j v hj)
   (fun j hj=>by rw[hWc];exact hsp1 _ (by omega)) (fun j hj=>by rw[hWf,hW1,World.frozen?_setCells];exact hfz _ (by omega)) h1v
 rw[<-hW1]at hcp1
 go_enter Tryz.func297,Tryz.ntmps297
 go_wp2_with (simp only[hov])
 go_region_law_o (refine step_copy_runI rfl _ _ 144 144 rfl _ _ (by simp[Act.eval,Act.put]) (by simp[Act.eval,Act.put]) (hcp1 _ _ _) ?_)
 go_wp2_with (at_builtin;refine wpList_copy_runI _ rfl _ _ 144 144 rfl _ _ rfl rfl (hcp2 _ (fun _=>rfl) (fun _=>rfl) _ _) ?_)
 go_ret
 first | exact⟨rfl,rfl⟩ | exact⟨rfl,by rw[hW1]⟩
end Go.Proofs
end
section
namespace Go.Proofs
open Go.Shelf Go.RowKit Go.Lib
def If:Value:=.agg #[.string ⟨#[]⟩,.string ⟨#[]⟩,.bool false,.slice none 0 0]
theorem Tryz.bind_info:(Tryz.prog.info? 148).map (fun i=>(i.zero,i.size,i.bytes))=some (some If,4,64):=by kernel_rfl
theorem Gq (cs:Array Value)(k:Nat):(Builtin.zeroCells cs k).size=k*cs.size:=by
 simp[Builtin.zeroCells]
set_option maxHeartbeats 4000000 in
set_option maxRecDepth 100000 in
theorem Tryz.ins_grow (b n c i vb vc:Nat)(cs vs:List Value)(w:World)(hi:i<n)(hnc:n<=c)(hroom:c<n+1)(hbig:(n+1)*64<=140737488355328)
  (hcl:cs.length=n*4) (hvl:vs.length=4)
  (hcs:∀ j v,cs[j]?=some v->w.cell? ⟨b,j,none⟩=some v)
  (hvs:∀ j v,vs[j]?=some v->w.cell? ⟨vb,j,none⟩=some v) (h1c:∀ v∈cs,v.oneCell'=true) (h1v:∀ v∈vs,v.oneCell'=true) :
  Calls Tryz.prog 297 #[.slice (some ⟨b,0,none⟩) n c,.int .i64 i,.slice (some ⟨vb,0,none⟩) 1 vc] w fun e w' =>
   e=.returned (.slice (some ⟨w.heap.size,0,none⟩) (n+1) (grownCap w (n+1) c 148)) /\
   w'=(((w.alloc (.cells ((cs.take (i*4)).toArray++Builtin.zeroCells If.cells (n+1-i)++Builtin.zeroCells If.cells (grownCap w (n+1) c 148-(n+1))) 148)).drew.setCells w.heap.size (i*4) vs).drew).setCells w.heap.size ((i+1)*4) (cs.drop (i*4)):=by
 have mixed:=Go.Dw.mixed
 obtain⟨i0,hi0,hz0,hzs,hzb⟩:=info_parts Tryz.bind_info
 have hz2:¬ ((i:Int)=(n:Int)):=by omega
 have hz3:(c:Int)<(n:Int)+1:=by omega
 have hsz:=Tryz.bind_size
 have hbw:b<w.heap.size:=block_lt_of_cell (hcs 0 _ (List.getElem?_eq_getElem (by omega)))
 have hvw:vb<w.heap.size:=block_lt_of_cell (hvs 0 _ (List.getElem?_eq_getElem (by omega)))
 have hkk:(n:Int)+1-(i:Int)=((n+1-i:Nat):Int):=by omega
 have hik:i+(n+1-i)=n+1:=by omega
 have hold:(Builtin.firstCells i0.size i (.slice (some ⟨b,0,none⟩) i c)).run Tryz.prog w.drew=.ok (cs.take (i*4)).toArray w.drew:=by
  rw[hzs]
  exact run_firstCells_some w.drew 4 i ⟨b,0,none⟩ i c (cs.take (i*4)) (by rw[List.length_take];omega) (fun j v hj=>by
   rw[Addr.add_lit,Nat.zero_add]
   rw[List.getElem?_take]at hj
   split at hj
   ·exact hcs j v hj
   ·cases hj)
 have hrz:∀ ty,(Builtin.append_ #[144,3] ty #[.slice (some ⟨b,0,none⟩) i c,.int .i64 ((n:Int)+1-(i:Int))]).run Tryz.prog w =
   .ok (.slice (some ⟨w.heap.size,0,none⟩) (n+1) (grownCap w (n+1) c 148)) (w.drew.alloc (.cells ((cs.take (i*4)).toArray++Builtin.zeroCells If.cells (n+1-i)++Builtin.zeroCells If.cells (grownCap w (n+1) c 148-(n+1))) 148)):=fun ty=>by
  have h:=Lib.run_append_grow_zeros w 144 3 ty 148 i0 _ .i64 .i64 Tryz.underlying144 Tryz.underlying3 hi0 hz0 (some ⟨b,0,none⟩) i c (cs.take (i*4)) hold (n+1-i) (by omega) (by omega) (by omega) (by omega) (by rw[hzb];omega) (by rw[hzb,hik];exact growslice_fits hroom hbig)
  rw[hik]at h
  rw[hkk]
  exact h
 obtain⟨G,hG⟩:∃ G,G=grownCap w (n+1) c 148:=⟨_,rfl⟩
 obtain⟨ROW,hROW⟩:∃ ROW:Array Value,ROW=(cs.take (i*4)).toArray++Builtin.zeroCells If.cells (n+1-i)++Builtin.zeroCells If.cells (G-(n+1)):=⟨_,rfl⟩
 rw[<-hG]at hrz ⊢
 rw[<-hROW]at hrz ⊢
 have hRl:(n+1)*4<=ROW.size:=by
  rw[hROW]
  have hzc:If.cells.size=4:=rfl
  simp only[Array.size_append,Gq,hzc,List.size_toArray,List.length_take,hcl]
  omega
 obtain⟨W1,hW1⟩:∃ W1,W1=w.drew.alloc (.cells ROW 148):=⟨_,rfl⟩
 rw[<-hW1]at hrz
 have hN:∀ j,j<(n+1)*4->(W1.cell? ⟨w.heap.size,j,none⟩).isSome=true:=fun j hj=>by
  rw[hW1,World.cell?_alloc_at (w:=w.drew) ROW _ w.heap.size j rfl,Array.getElem?_eq_getElem (by omega)];rfl
 have hNf:∀ j,W1.frozen? ⟨w.heap.size,j,none⟩=false:=fun j=>by rw[hW1];exact World.frozen?_alloc_at (w:=w.drew) ROW _ w.heap.size j rfl
 have hOb:∀ j v,w.cell? ⟨b,j,none⟩=some v->W1.cell? ⟨b,j,none⟩=some v:=fun j v h=>by rw[hW1,World.cell?_alloc_past (w:=w.drew) _ b j hbw];exact h
 have hOv:∀ j v,w.cell? ⟨vb,j,none⟩=some v->W1.cell? ⟨vb,j,none⟩=some v:=fun j v h=>by rw[hW1,World.cell?_alloc_past (w:=w.drew) _ vb j hvw];exact h
 have hcpA:∀ (W:World),(∀ x,W.cell? x=W1.cell? x)->(∀ x,W.frozen? x=W1.frozen? x)->∀ ty dc,(Builtin.copy_ #[144,144] ty #[.slice (some ⟨w.heap.size,i*4,none⟩) (n+1-i) dc,.slice (some ⟨vb,0,none⟩) 1 vc]).run Tryz.prog W=.ok (goInt (Nat.min 1 (n+1-i))) (W.setCells w.heap.size (i*4) vs):=fun W hWc hWf ty dc =>
  Hv W _ _ ty 148 w.heap.size (i*4) (n+1-i) dc ⟨vb,0,none⟩ 1 vc 4 vs Tryz.underlying144 hsz (by rw[hvl];simp only[Nat.min_def];split<;>omega)
   (fun j v hj=>by rw[Addr.add_lit,hWc,Nat.zero_add];exact hOv _ v (hvs j v hj))
   (fun j hj=>by rw[hWc];exact hN _ (by omega)) (fun j hj=>by rw[hWf];exact hNf _) h1v
 have hGn:n+1<=G:=by rw[hG];exact grownCap_ge w _ _ _
 have hG63:G<=9223372036854775807:=by
  have:=grownCap_le_maxLen w (n+1) c 148 (by unfold maxLen;omega)
  rw[<-hG]at this
  unfold maxLen at this
  omega
 have hGi:¬ (G=i):=by omega
 have hGim:¬ (G=i+1):=by omega
 have hci:¬ (c=i):=by omega
 have hbN:b≠w.heap.size:=by omega
 have hdl:(cs.drop (i*4)).length=(n-i)*4:=by rw[List.length_drop,hcl];omega
 have hcpB:∀ (W:World),(∀ x,W.cell? x=(W1.setCells w.heap.size (i*4) vs).cell? x)->(∀ x,W.frozen? x=(W1.setCells w.heap.size (i*4) vs).frozen? x)->∀ ty dc sc,(Builtin.copy_ #[144,144] ty #[.slice (some ⟨w.heap.size,(i+1)*4,none⟩) (n-i) dc,.slice (some ⟨b,i*4,none⟩) (n-i) sc]).run Tryz.prog W=.ok (goInt (Nat.min (n-i) (n-i))) (W.setCells w.heap.size ((i+1)*4) (cs.drop (i*4))):=fun W hWc hWf ty dc sc =>
  Hv W _ _ ty 148 w.heap.size ((i+1)*4) (n-i) dc ⟨b,i*4,none⟩ (n-i) sc 4 (cs.drop (i*4)) Tryz.underlying144 hsz (by rw[hdl];simp only[Nat.min_def];split<;>omega)
   (fun j v hj=>by
    rw[Addr.add_lit,hWc,World.cell?_setCells_out _ _ _ _ _ (fun h _=>absurd h hbN)]
    exact hOb _ v (hcs (i*4+j) v (by rwa [List.getElem?_drop]at hj)))
   (fun j hj=>by rw[hWc];exact isSome_setCells _ _ _ W1 (fun t ht=>hN (i*4+t) (by omega)) _ (hN ((i+1)*4+j) (by omega)))
   (fun j hj=>by rw[hWf,World.frozen?_setCells];exact hNf _) (fun v hv=>h1c v (List.mem_of_mem_drop hv))
 subst hW1
 have hE1:∀ x,((w.alloc (.cells ROW 148)).drew).cell? x=(w.drew.alloc (.cells ROW 148)).cell? x:=fun x=>rfl
 have hE2:∀ x,((w.alloc (.cells ROW 148)).drew).frozen? x=(w.drew.alloc (.cells ROW 148)).frozen? x:=fun x=>rfl
 have hF1:∀ x,(((w.alloc (.cells ROW 148)).drew.setCells w.heap.size (i*4) vs).drew).cell? x=((w.drew.alloc (.cells ROW 148)).setCells w.heap.size (i*4) vs).cell? x:=fun x=>rfl
 have hF2:∀ x,(((w.alloc (.cells ROW 148)).drew.setCells w.heap.size (i*4) vs).drew).frozen? x=((w.drew.alloc (.cells ROW 148)).setCells w.heap.size (i*4) vs).frozen? x:=fun x=>rfl
 have hw1:IntKind.i64.wrap ((i:Int)+1)=(i:Int)+1:=by rw[IntKind.wrap_i64];omega
 have hb1:(0:Int)<=(i:Int)+1:=by omega
 have hin:i<=n:=by omega
 have htn:((i:Int)+1).toNat=i+1:=by omega
 have hb3:(i:Int)<=(n:Int):=by omega
 clear hkk hik hold hROW hG hRl
 go_enter Tryz.func297,Tryz.ntmps297
 go_wp2_with (first
  | (at_builtin;refine Lib.wpList_append_run _ rfl _ _ _ _ rfl _ _ rfl rfl _ _ (hrz _) ?_)
  | (at_builtin;refine wpList_copy_runI _ rfl _ _ 144 144 rfl _ _ rfl rfl (hcpA _ hE1 hE2 _ _) ?_)
  | (at_builtin;refine wpList_copy_runI _ rfl _ _ 144 144 rfl _ _ rfl rfl (hcpB _ (fun _=>rfl) (fun _=>rfl) _ _ _) ?_))
 go_region_law_o (refine step_copy_runI rfl _ _ 144 144 rfl (.slice (some ⟨w.heap.size,(i+1)*4,none⟩) (n-i) (G-(i+1))) (.slice (some ⟨b,i*4,none⟩) (n-i) (c-i)) (by simp[Act.eval,Act.put]) (by simp[Act.eval,Act.put]) (hcpB _ hF1 hF2 3 (G-(i+1)) (c-i)) ?_)
 go_wp2
 go_ret
 exact⟨rfl,rfl⟩
end Go.Proofs
end
section
namespace Go.Proofs
open Go.Shelf Go.RowKit Go.Lib
set_option maxHeartbeats 4000000 in
set_option maxRecDepth 100000 in
theorem Tryz.ins_end_grow (base:Option Addr)(n c vb vc:Nat)(cs vs:List Value)(w:World)(hnc:n<=c)(hroom:c<n+1)(hbig:(n+1)*64<=140737488355328)
  (hcl:cs.length=n*4) (hvl:vs.length=4) (hnil:base=none->n=0)
  (hcs:∀ a,base=some a->∀ j v,cs[j]?=some v->w.cell? (a.add j)=some v)
  (hvs:∀ j v,vs[j]?=some v->w.cell? ⟨vb,j,none⟩=some v) (h1v:∀ v∈vs,v.oneCell'=true) :
  Calls Tryz.prog 297 #[.slice base n c,.int .i64 n,.slice (some ⟨vb,0,none⟩) 1 vc] w fun e w' =>
   e=.returned (.slice (some ⟨w.heap.size,0,none⟩) (n+1) (grownCap w (n+1) c 148)) /\
   w'=w.drew.alloc (.cells ((cs++vs).toArray++Builtin.zeroCells If.cells (grownCap w (n+1) c 148-(n+1))) 148):=by
 have mixed:=Go.Dw.mixed
 obtain⟨i0,hi0,hz0,hzs,hzb⟩:=info_parts Tryz.bind_info
 have hsrc:Src Tryz.prog i0.size 144 (.slice (some ⟨vb,0,none⟩) 1 vc) 1 vs w:=by
  rw[hzs]
  exact Src.ofSlice w Tryz.underlying144 ⟨vb,0,none⟩ 1 vc vs (by omega) (fun j u hj=>by rw[Addr.add_lit,Nat.zero_add];exact hvs j u hj) h1v
 have hold:(Builtin.firstCells i0.size n (.slice base n c)).run Tryz.prog w.drew=.ok cs.toArray w.drew:=by
  rw[hzs]
  cases base with
  | none =>
   have h0:=hnil rfl
   subst h0
   have hc0:cs=[]:=List.length_eq_zero_iff.1 (by omega)
   rw[hc0]
   exact run_firstCells_none w.drew 4 0 0 c
  | some a=>exact run_firstCells_some w.drew 4 n a n c cs (by omega) (fun j v hj=>hcs a rfl j v hj)
 have hrun:∀ ty,(Builtin.append_ #[144,144] ty #[.slice base n c,.slice (some ⟨vb,0,none⟩) 1 vc]).run Tryz.prog w=.ok (.slice (some ⟨w.heap.size,0,none⟩) (n+1) (grownCap w (n+1) c 148)) (w.drew.alloc (.cells ((cs++vs).toArray++Builtin.zeroCells If.cells (grownCap w (n+1) c 148-(n+1))) 148)):=fun ty =>
  run_append_grow_src w 144 144 ty 148 i0 If Tryz.underlying144 hi0 hz0 base n c cs hold _ 1 vs hsrc hroom (by omega) (by rw[hzb];exact growslice_fits hroom hbig)
 obtain⟨ROW,hROW⟩:∃ ROW:Array Value,ROW=(cs++vs).toArray++Builtin.zeroCells If.cells (grownCap w (n+1) c 148-(n+1)):=⟨_,rfl⟩
 rw[<-hROW]at hrun ⊢
 clear hROW
 go_enter Tryz.func297,Tryz.ntmps297
 cases base with
 | none =>
  have h0:=hnil rfl
  subst h0
  go_wp2_with (at_builtin;refine Lib.wpList_append_run _ rfl _ _ _ _ rfl _ _ rfl rfl _ _ (hrun _) ?_)
  go_ret
  exact⟨rfl,rfl⟩
 | some a =>
  obtain⟨ab,ao,asp⟩:=a
  go_wp2_with (at_builtin;refine Lib.wpList_append_run _ rfl _ _ _ _ rfl _ _ rfl rfl _ _ (hrun _) ?_)
  all_goals (go_ret;exact⟨rfl,rfl⟩)
set_option maxHeartbeats 4000000 in
set_option maxRecDepth 100000 in
theorem Tryz.ins_end_room (b n c vb vc:Nat)(vs:List Value)(w:World)(hroom:n+1<=c)(hc63:c<=9223372036854775807)
  (hvl:vs.length=4) (hsp:∀ j,j<4->(w.cell? ⟨b,n*4+j,none⟩).isSome=true) (hfz:∀ j,j<4->w.frozen? ⟨b,n*4+j,none⟩=false)
  (hvs:∀ j v,vs[j]?=some v->w.cell? ⟨vb,j,none⟩=some v) (h1v:∀ v∈vs,v.oneCell'=true) :
  Calls Tryz.prog 297 #[.slice (some ⟨b,0,none⟩) n c,.int .i64 n,.slice (some ⟨vb,0,none⟩) 1 vc] w fun e w' =>
   e=.returned (.slice (some ⟨b,0,none⟩) (n+1) c)/\w'=w.setCells b (n*4) vs:=by
 have mixed:=Go.Dw.mixed
 obtain⟨i0,hi0,hz0,hzs,hzb⟩:=info_parts Tryz.bind_info
 have hrun:∀ ty,(Builtin.append_ #[144,144] ty #[.slice (some ⟨b,0,none⟩) n c,.slice (some ⟨vb,0,none⟩) 1 vc]).run Tryz.prog w=.ok (.slice (some ⟨b,0,none⟩) (n+1) c) (w.setCells b (n*4) vs):=fun ty=>by
  have h:=run_append_room_cells (P:=Tryz.prog) w 144 ty 148 i0 Tryz.underlying144 hi0 b 0 n c ⟨vb,0,none⟩ 1 vc vs (by rw[hzs];omega) (fun j u hj=>by rw[Addr.add_lit,Nat.zero_add];exact hvs j u hj) h1v hroom
   (fun j hj=>by rw[hzs,Nat.zero_add];exact hsp j (by omega)) (fun j hj=>by rw[hzs,Nat.zero_add];exact hfz j (by omega))
  rw[hzs,Nat.zero_add]at h
  exact h
 obtain⟨W,hW⟩:∃ W,W=w.setCells b (n*4) vs:=⟨_,rfl⟩
 rw[<-hW]at hrun ⊢
 clear hW
 go_enter Tryz.func297,Tryz.ntmps297
 go_wp2_with (at_builtin;refine Lib.wpList_append_run _ rfl _ _ _ _ rfl _ _ rfl rfl _ _ (hrun _) ?_)
 go_ret
 exact⟨rfl,rfl⟩
end Go.Proofs
end
section
namespace Go.Dw
open Go.Proofs Go.Sort Go.Lib
theorem FS (b:Nat):∀ (us:List Value)(o:Nat)(w:World),(w.setCells b o us).heap.size=w.heap.size/\(∀ b',b'≠b->(w.setCells b o us).heap[b']?=w.heap[b']?) /\
  (∀ vs t fr,w.heap[b]?=some (.cells vs t fr)->∃ vs1,(w.setCells b o us).heap[b]?=some (.cells vs1 t fr)/\vs1.size=vs.size)/\(w.setCells b o us).os=w.os/\(w.setCells b o us).tape=w.tape/\(w.setCells b o us).output=w.output
 | [],o,w=>⟨rfl,fun _ _=>rfl,fun vs t fr h=>⟨vs,h,rfl⟩,rfl,rfl,rfl⟩
 | u::us,o,w=>by
  obtain⟨h1,h2,h3,h4,h5,h6⟩:=FS b us (o+1) (w.setCell ⟨b,o,none⟩ u)
  have e1:(w.setCell ⟨b,o,none⟩ u).heap.size=w.heap.size:=by rw[setCell_eq];simp[mapBlock]
  have e2:∀ b',b'≠b->(w.setCell ⟨b,o,none⟩ u).heap[b']?=w.heap[b']?:=fun b' hb=>by
   rw[setCell_eq];simp only[mapBlock];rw[Array.getElem?_modify,if_neg (Ne.symm hb)]
  refine⟨by rw[World.setCells,h1,e1],fun b' hb=>by rw[World.setCells,h2 b' hb,e2 b' hb],fun vs t fr h=>?_,?_,?_,?_⟩
  ·have:(w.setCell ⟨b,o,none⟩ u).heap[b]?=some (.cells (vs.setIfInBounds o u) t fr):=by
    rw[setCell_eq];simp only[mapBlock];rw[Array.getElem?_modify,if_pos rfl,h];rfl
   obtain⟨vs1,q1,q2⟩:=h3 _ _ _ this
   exact⟨vs1,by rw[World.setCells];exact q1,by rw[q2];simp⟩
  ·rw[World.setCells,h4,setCell_eq];rfl
  ·rw[World.setCells,h5,setCell_eq];rfl
  ·rw[World.setCells,h6,setCell_eq];rfl
theorem Lv (b:Nat):∀ (us:List Value)(o:Nat)(w:World),(w.setCells b o us).drawn=w.drawn
 | [],o,w=>rfl
 | u::us,o,w=>by rw[World.setCells,Lv b us,setCell_eq];rfl
theorem ww {c:Cx}(hc:Ba c){els:List (List V)}{new:List V}{e i n z:Nat}(hH:c.H=[.row e z els,.arr e z 1])(hn:els.length=n)(hi:i<=n){w':World}{bN kN:Nat}{vs1:Array Value}{us:List Value}
  (hb:(∃ k,c.ρ 0=some (bN,k))\/c.w.heap.size<=bN) (hmax:n+1<=Ai)
  (h1:w'.heap[bN]?=some (.cells vs1 e (0,0))) (h2:vs1.size=kN*z) (h3:n+1<=kN) (h4:kN<=BJ)
  (hold:∀ (l:Nat)(el:List V),els[l]?=some el->el.length=z/\∀ (j:Nat)(x:V),el[j]?=some x->∃ v,vs1[(if l<i then l else l+1)*z+j]?=some v/\Cw v=true/\BF c x v)
  (hnew:new.length=z/\∀ (j:Nat)(x:V),new[j]?=some x->∃ v,vs1[i*z+j]?=some v/\Cw v=true/\BF c x v)
  (hoth:∀ b',b'<c.w.heap.size->b'≠bN->w'.heap[b']?=c.w.heap[b']?) (hsz:c.w.heap.size<=w'.heap.size) (hos:w'.os=c.w.os) (htp:w'.tape=c.w.tape) (hou:w'.output=c.w.output) (hdr:c.w.drawn<=w'.drawn) :
  ∃ v x c',Ending.returned (.slice (some ⟨bN,0,none⟩) (n+1) kN)=.returned v/\c'.w=w'/\(x=.rw 0 z (n+1)/\c'.H=[.row e z (els.take i++new::els.drop i),.arr e z 1])/\Ba c'/\BF c' x v/\Fr c c':=by
 have hH0:c.H[0]?=some (.row e z els):=by rw[hH];rfl
 have hH1:c.H[1]?=some (.arr e z 1):=by rw[hH];rfl
 have hHl:c.H.length=2:=by rw[hH];rfl
 obtain⟨o1,o2⟩:=hc.obj 0 _ hH0
 have hnok:∀ o,¬ c.ok bN o:=fun o ho=>by
  rcases hb with ⟨k,hk⟩ | hb
  ·obtain⟨_,_,_,_,_,h5,_⟩:=o2 bN k hk;exact h5 o ho
  ·have:=hc.okLt _ _ ho;omega
 have h1ne:∀ b' k',c.ρ 1=some (b',k')->b'≠bN/\b'<c.w.heap.size:=fun b' k' h=>by
  have hlt:=Jg hc (show 1<c.H.length by omega) h
  refine⟨fun e1=>?_,hlt⟩
  subst e1
  rcases hb with ⟨k,hk⟩ | hb
  ·exact absurd (hc.inj 0 1 b' k k' (by omega) (by omega) hk h) (by decide)
  ·omega
 generalize hc':(⟨w',c.ok,P8 c.ρ 0 (some (bN,kN)),[.row e z (els.take i++new::els.drop i),.arr e z 1]⟩:Cx)=c'
 have hw:c'.w=w':=by rw[<-hc']
 have hk':c'.ok=c.ok:=by rw[<-hc']
 have hρ0:c'.ρ 0=some (bN,kN):=by rw[<-hc'];simp[P8]
 have hρ1:∀ j,j≠0->c'.ρ j=c.ρ j:=fun j hj=>by rw[<-hc'];exact AK hj
 have hH':c'.H=[.row e z (els.take i++new::els.drop i),.arr e z 1]:=by rw[<-hc']
 have hlen':(els.take i++new::els.drop i).length=n+1:=by simp;omega
 have hf:Fr c c':=by
  refine⟨fun _ _ h=>by rw[hk'];exact h,fun b' o h=>?_,by rw[hw];exact hsz,fun _ _ h=>.inl (by rw[hk']at h;exact h),fun b' hlt hno=>?_,fun b' hb'=>?_,fun j o hj=>?_,by rw[hw];exact hos,by rw[hw];exact htp,by rw[hw];exact hou,by rw[hw];exact hdr⟩
  ·have hne:b'≠bN:=fun e=>hnok o (e▸h)
   simp only[World.cell?,hw]
   rw[hoth b' (hc.okLt _ _ h) hne]
  ·rw[hw]
   refine hoth b' hlt fun e1=>?_
   subst e1
   rcases hb with ⟨k,hk⟩ | hb
   ·exact hno ⟨0,k,by omega,hk⟩
   ·omega
  ·obtain⟨j,k',hj,hr⟩:=hb'
   have hj:j<2:=by rw[hH']at hj;simpa using hj
   by_cases e0:j=0
   ·subst e0
    rw[hρ0]at hr;cases hr
    rcases hb with ⟨k,hk⟩ | hb
    ·exact .inl ⟨0,k,by omega,hk⟩
    ·exact .inr hb
   ·rw[hρ1 j e0]at hr
    exact .inl ⟨j,k',by omega,hr⟩
  ·rw[hH]at hj
   match j,hj with
   | 0,hj =>
    simp only[List.getElem?_cons_zero,Option.some.injEq]at hj
    subst hj
    exact⟨.row e z (els.take i++new::els.drop i),by rw[hH'];rfl,rfl,rfl,by omega,fun h=>by omega⟩
   | 1,hj =>
    simp only[List.getElem?_cons_succ,List.getElem?_cons_zero,Option.some.injEq]at hj
    subst hj
    exact⟨.arr e z 1,by rw[hH'];rfl,rfl,rfl,Nat.le_refl _,fun _=>hρ1 1 (by omega)⟩
   | j+2,hj=>simp at hj
 refine⟨_,_,c',rfl,hw,⟨rfl,hH'⟩,?_,?_,hf⟩
 ·refine⟨fun j1 j2 b' k1 k2 q1 q2 q3 q4=>?_,fun b' o h=>?_,fun j o hj=>?_,hc.globFr hf⟩
  ·rw[hH']at q1 q2
   simp only[List.length_cons,List.length_nil]at q1 q2
   by_cases e1:j1=0<;>by_cases e2:j2=0
   ·omega
   ·have:j2=1:=by omega
    subst e1 this
    rw[hρ0]at q3;cases q3
    rw[hρ1 1 (by omega)]at q4
    exact absurd rfl (h1ne _ _ q4).1
   ·have:j1=1:=by omega
    subst e2 this
    rw[hρ0]at q4;cases q4
    rw[hρ1 1 (by omega)]at q3
    exact absurd rfl (h1ne _ _ q3).1
   ·omega
  ·rw[hk']at h;rw[hw];have:=hc.okLt _ _ h;omega
  ·rw[hH']at hj
   match j,hj with
   | 0,hj =>
    simp only[List.getElem?_cons_zero,Option.some.injEq]at hj
    subst hj
    refine⟨fun h=>(by rw[hρ0]at h;cases h),fun b' k' h=>?_⟩
    rw[hρ0]at h;cases h
    refine⟨vs1,by rw[hw];exact h1,h2,by omega,h4,fun o ho=>hnok o (by rw[hk']at ho;exact ho),fun l el hl=>?_⟩
    rw[List.getElem?_append]at hl
    have hti:(els.take i).length=i:=by rw[List.length_take];omega
    rw[hti]at hl
    by_cases e1:l<i
    ·rw[if_pos e1,List.getElem?_take,if_pos e1]at hl
     obtain⟨q1,q2⟩:=hold l el hl
     refine⟨q1,fun j x hx=>?_⟩
     obtain⟨v,r1,r2,r3⟩:=q2 j x hx
     rw[if_pos e1]at r1
     exact⟨v,r1,r2,AX hf r3⟩
    ·rw[if_neg e1]at hl
     by_cases e2:l=i
     ·subst e2
      rw[Nat.sub_self,List.getElem?_cons_zero]at hl
      cases hl
      refine⟨hnew.1,fun j x hx=>?_⟩
      obtain⟨v,r1,r2,r3⟩:=hnew.2 j x hx
      exact⟨v,r1,r2,AX hf r3⟩
     ·obtain⟨m,rfl⟩:∃ m,l=m+1:=⟨l-1,by omega⟩
      have e3:m+1-i=(m-i)+1:=by omega
      rw[e3,List.getElem?_cons_succ,List.getElem?_drop,show i+(m-i)=m by omega]at hl
      obtain⟨q1,q2⟩:=hold m el hl
      refine⟨q1,fun j x hx=>?_⟩
      obtain⟨v,r1,r2,r3⟩:=q2 j x hx
      rw[if_neg (by omega)]at r1
      exact⟨v,r1,r2,AX hf r3⟩
   | 1,hj =>
    simp only[List.getElem?_cons_succ,List.getElem?_cons_zero,Option.some.injEq]at hj
    subst hj
    obtain⟨a1,a2⟩:=hc.obj 1 _ hH1
    refine⟨fun h=>a1 (by rw[<-hρ1 1 (by omega)];exact h),fun b' k' h=>?_⟩
    rw[hρ1 1 (by omega)]at h
    obtain⟨ne,hlt⟩:=h1ne _ _ h
    obtain⟨vs,r1,r2,r3,r4,r5⟩:=a2 b' k' h
    exact⟨vs,by rw[hw,hoth b' hlt ne];exact r1,r2,r3,r4,fun o ho=>by rw[hk'];exact r5 o ho⟩
   | j+2,hj=>simp at hj
 ·refine⟨by rw[hH'];simp,⟨_,_,rfl,hmax,.inr ⟨_,_,rfl⟩⟩,fun e' sz' els' hh=>?_⟩
  rw[hH']at hh
  simp only[List.getElem?_cons_zero,Option.some.injEq,Ob.row.injEq]at hh
  obtain⟨rfl,rfl,rfl⟩:=hh
  exact⟨rfl,by omega,fun _=>by rw[hρ0];rfl⟩
end Go.Dw
end
section
namespace Go.Dw
open Go.Proofs Go.Sort Go.Lib
theorem Abr (args:Array Value)(w:World):(callFunc 297 args).run Tryz.prog w=.ok (.enter 297 args) w:=enters_of (P:=Tryz.prog) Tryz.func297 (by kernel_rfl) rfl args w
theorem Y1 {c:Cx}(hc:Ba c){els:List (List V)}{new:List V}{e i n:Nat}(hH:c.H=[.row e 4 els,.arr e 4 1])(hn:els.length=n)(hi:i<=n){w':World}{bN kN:Nat}{vs0 vs1:Array Value}{us cs:List Value}
  (hb:(∃ k,c.ρ 0=some (bN,k))\/c.w.heap.size<=bN) (hmax:n+1<=Ai) (h1:w'.heap[bN]?=some (.cells vs1 e (0,0))) (h2:vs1.size=kN*4) (h3:n+1<=kN) (h4:kN<=BJ)
  (hrow:Lq c 4 els vs0) (hcs:∀ j,j<n*4->cs[j]?=vs0[j]?) (hus:new.length=4/\∀ (j:Nat)(x:V),new[j]?=some x->∃ v,us[j]?=some v/\Cw v=true/\BF c x v)
  (hcell:∀ j,j<(n+1)*4->vs1[j]?=if j<i*4 then cs[j]? else if j<i*4+4 then us[j-i*4]? else cs[j-4]?)
  (hoth:∀ b',b'<c.w.heap.size->b'≠bN->w'.heap[b']?=c.w.heap[b']?) (hsz:c.w.heap.size<=w'.heap.size) (hos:w'.os=c.w.os) (htp:w'.tape=c.w.tape) (hou:w'.output=c.w.output) (hdr:c.w.drawn<=w'.drawn:=by first | exact Nat.le_refl _ | exact Nat.le_succ _ | (simp only[Lv];first | exact Nat.le_refl _ | exact Nat.le_succ _) | (subst_vars;simp only[World.drew,World.alloc,Lv];omega)) :
  ∃ v x c',Ending.returned (.slice (some ⟨bN,0,none⟩) (n+1) kN)=.returned v/\c'.w=w'/\(x=.rw 0 4 (n+1)/\c'.H=[.row e 4 (els.take i++new::els.drop i),.arr e 4 1])/\Ba c'/\BF c' x v/\Fr c c':=by
 refine ww hc hH hn hi hb hmax h1 h2 h3 h4 (fun l el hl=>?_) ⟨hus.1,fun j x hx=>?_⟩ hoth hsz hos htp hou hdr (us:=us)
 ·obtain⟨q1,q2⟩:=hrow l el hl
  refine⟨q1,fun j x hx=>?_⟩
  obtain⟨v,r1,r2,r3⟩:=q2 j x hx
  have hj:j<4:=by rw[<-q1];exact (List.getElem?_eq_some_iff.1 hx).1
  have hln:l<n:=by rw[<-hn];exact (List.getElem?_eq_some_iff.1 hl).1
  refine⟨v,?_,r2,r3⟩
  by_cases e1:l<i
  ·rw[if_pos e1,hcell _ (by omega),if_pos (by omega),hcs _ (by omega)];exact r1
  ·rw[if_neg e1,hcell _ (by omega),if_neg (by omega),if_neg (by omega),hcs _ (by omega),show (l+1)*4+j-4=l*4+j by omega];exact r1
 ·obtain⟨v,r1,r2,r3⟩:=hus.2 j x hx
  have hj:j<4:=by rw[<-hus.1];exact (List.getElem?_eq_some_iff.1 hx).1
  refine⟨v,?_,r2,r3⟩
  rw[hcell _ (by omega),if_neg (by omega),if_pos (by omega),show i*4+j-i*4=j by omega];exact r1
theorem iE (els:List (List V))(new:List V)(i n:Nat)(hn:els.length=n)(hi:i<=n)(hbig:(n+1)*64<=Ai) :
  Spec prog Gi [.rw 0 4 n,.int .i64 i,.own 1 4 [new]] [.row Cg 4 els,.arr Cg 4 1] fun x H'=>x=.rw 0 4 (n+1)/\H'=[.row Cg 4 (els.take i++new::els.drop i),.arr Cg 4 1]:=by
 intro c vs hH hc hr
 obtain⟨v0,vs',rfl,hv0,v1,vs'',rfl,hv1,v2,vs3,rfl,hv2,hvn⟩:=hr
 have hvn:vs3=[]:=hvn
 subst hvn
 have hv1:v1=.int .i64 i:=hv1
 subst hv1
 left
 have hH0:c.H[0]?=some (.row Cg 4 els):=by rw[hH];rfl
 have hH1:c.H[1]?=some (.arr Cg 4 1):=by rw[hH];rfl
 refine⟨Abr _ _,?_⟩
 obtain⟨hp,_,q2⟩:=hv2
 have hcur:=(q2 _ _ _ hH1).2.2 rfl
 obtain⟨a',c',b',o',e3,_,_,_,e4,e5⟩:=hp
 obtain⟨us,s1,s2,s3⟩:=LY e5
 have he4:=e4.resolve_left (by simp)
 subst e3 he4
 cases hρ1:c.ρ 1 with
 | none=>rw[hρ1]at hcur;cases hcur
 | some bk =>
 obtain⟨vb,kv⟩:=bk
 rw[hρ1]at hcur
 have hcur:Value.slice (some ⟨b',o',none⟩) 1 c'=.slice (some ⟨vb,0,none⟩) 1 kv:=hcur
 simp only[Value.slice.injEq,Option.some.injEq,Addr.mk.injEq,and_true,true_and]at hcur
 obtain⟨⟨rfl,rfl⟩,rfl⟩:=hcur
 obtain⟨va,va1,va2,va3,va4,_⟩:=(hc.obj 1 _ hH1).2 _ _ hρ1
 have hus4:us.length=4:=by simpa using s1
 have husc:∀ j v,us[j]?=some v->c.w.cell? ⟨b',j,none⟩=some v:=fun j v hj=>by have:=(s2 j v hj).1;simpa using this
 have hus1:∀ v∈us,v.oneCell'=true:=fun v hv=>by
  obtain⟨j,hj,e⟩:=List.getElem_of_mem hv
  rw[TE];exact (s2 j v (by rw[List.getElem?_eq_getElem hj,e])).2
 have hnewf:new.length=4/\∀ (j:Nat)(x:V),new[j]?=some x->∃ v,us[j]?=some v/\Cw v=true/\BF c x v:=by
  obtain⟨t1,t2⟩:=s3 0 new rfl
  refine⟨t1,fun j x hx=>?_⟩
  obtain⟨v,u1,u2⟩:=t2 j x hx
  have u1:us[j]?=some v:=by simpa using u1
  exact⟨v,u1,(s2 j v u1).2,Gy u2⟩
 have hvlt:b'<c.w.heap.size:=(Array.getElem?_eq_some_iff.1 va1).1
 have hmx:Ai=140737488355328:=rfl
 have hcm:BJ=9223372036854775807:=rfl
 obtain⟨_,⟨a0,k0,hv0,hle0,_⟩,q3⟩:=hv0
 have hcur0:=(q3 _ _ _ hH0).2.2 hn
 obtain⟨o1,o2⟩:=hc.obj 0 _ hH0
 cases hρ0:c.ρ 0 with
 | none =>
  have hels:=o1 hρ0
  subst hels
  have hn0:n=0:=hn.symm
  subst hn0
  have hi0:i=0:=by omega
  subst hi0
  rw[hρ0]at hcur0
  have hcur0:v0=.slice none 0 0:=hcur0
  subst hcur0
  refine (Tryz.ins_end_grow none 0 0 b' c' [] us c.w (by omega) (by omega) (by omega) rfl hus4 (fun _=>rfl) (fun a h=>by cases h) husc hus1).mono ?_
  rintro e w' ⟨rfl,rfl⟩
  have hG:=grownCap_ge c.w 1 0 148
  have hG2:=grownCap_le_maxLen c.w 1 0 148 (by unfold maxLen;omega)
  generalize grownCap c.w (0+1) 0 148=G at hG hG2 ⊢
  refine Y1 hc hH rfl (Nat.le_refl 0) (bN:=c.w.heap.size) (kN:=G) (vs0:=#[]) (vs1:=([]++us).toArray++Builtin.zeroCells If.cells (G-1)) (us:=us) (cs:=[]) (.inr (Nat.le_refl _)) (by omega) ?_ ?_ hG (by unfold maxLen at hG2;omega) (fun l el hl=>by simp at hl) (fun j hj=>by omega) hnewf (fun j hj=>?_) (fun b1 h1 h2=>?_) ?_ rfl rfl rfl
  ·show (c.w.heap.push _)[c.w.heap.size]?=_
   rw[Array.getElem?_push_size];rfl
  ·have hzc:If.cells.size=4:=rfl
   simp only[Array.size_append,Gq,hzc,List.size_toArray,List.nil_append,hus4];omega
  ·rw[if_neg (by omega),if_pos (by omega),Array.getElem?_append_left (by simp;omega)]
   simp
  ·exact BW h1
  ·show c.w.heap.size<=(c.w.heap.push _).size
   rw[Array.size_push];omega
 | some bk =>
 obtain⟨b,k⟩:=bk
 rw[hρ0]at hcur0
 have hcur0:v0=.slice (some ⟨b,0,none⟩) n k:=hcur0
 subst hcur0
 obtain⟨vs0,r1,r2,r3,r4,r5,r6⟩:=o2 b k hρ0
 rw[hn]at r3
 have hblt:b<c.w.heap.size:=(Array.getElem?_eq_some_iff.1 r1).1
 have hvb:b'≠b:=fun e=>by
  have:=hc.inj 0 1 b k c' (by rw[hH];simp) (by rw[hH];simp) hρ0 (e▸hρ1)
  omega
 generalize hcs:vs0.toList.take (n*4)=cs
 have hcsl:cs.length=n*4:=by rw[<-hcs,List.length_take,Array.length_toList,r2];omega
 have hcsg:∀ j,j<n*4->cs[j]?=vs0[j]?:=fun j hj=>by rw[<-hcs,List.getElem?_take,if_pos hj];simp
 have hcell:∀ j,c.w.cell? ⟨b,j,none⟩=vs0[j]?:=fun j=>by simp only[World.cell?,r1];rfl
 have hfz:∀ j,c.w.frozen? ⟨b,j,none⟩=false:=fun j=>by simp[World.frozen?,r1]
 have hcsc:∀ j v,cs[j]?=some v->c.w.cell? ⟨b,j,none⟩=some v:=fun j v hj=>by
  have hjl:j<n*4:=by rw[<-hcsl];exact (List.getElem?_eq_some_iff.1 hj).1
  rw[hcell,<-hcsg j hjl];exact hj
 have hcs1:∀ v∈cs,v.oneCell'=true:=fun v hv=>by
  obtain⟨j,hj,e⟩:=List.getElem_of_mem hv
  have hjl:j<n*4:=by rw[<-hcsl];exact hj
  have hl:j / 4<els.length:=by omega
  obtain⟨t1,t2⟩:=r6 (j / 4) els[j / 4] (List.getElem?_eq_getElem hl)
  obtain⟨u,u1,u2,_⟩:=t2 (j % 4) (els[j / 4][j % 4]'(by omega)) (List.getElem?_eq_getElem (by omega))
  rw[show j / 4*4+j % 4=j by omega,<-hcsg j hjl,List.getElem?_eq_getElem hj,e]at u1
  cases u1
  rw[TE];exact u2
 have hsp:k ≥ n+1->∀ j,j<(n+1)*4->(c.w.cell? ⟨b,j,none⟩).isSome=true:=fun hk j hj=>by
  rw[hcell,Array.getElem?_eq_getElem (by omega)];rfl
 by_cases hin:i=n
 ·subst hin
  by_cases hk:i+1<=k
  ·refine (Tryz.ins_end_room b i k b' c' us c.w hk (by omega) hus4 (fun j hj=>hsp hk _ (by omega)) (fun j _=>hfz _) husc hus1).mono ?_
   rintro e w' ⟨rfl,rfl⟩
   obtain⟨g1,g2,g3,g4,g5,g6⟩:=FS b us (i*4) c.w
   obtain⟨vs1,g7,g8⟩:=g3 _ _ _ r1
   have hw:∀ j,vs1[j]?=(c.w.setCells b (i*4) us).cell? ⟨b,j,none⟩:=fun j=>by simp only[World.cell?,g7];rfl
   refine Y1 hc hH hn hi (bN:=b) (kN:=k) (vs0:=vs0) (vs1:=vs1) (us:=us) (cs:=cs) (.inl ⟨k,hρ0⟩) (by omega) g7 (by rw[g8,r2]) hk r4 r6 hcsg hnewf (fun j hj=>?_) (fun b1 _ h2=>g2 b1 h2) (by rw[g1];exact Nat.le_refl _) g4 g5 g6
   rw[hw]
   by_cases e1:j<i*4
   ·rw[if_pos e1,World.cell?_setCells_out b _ _ _ _ (fun _ _=>.inl e1),hcell,hcsg j e1]
   ·rw[if_neg e1,if_pos (by omega)]
    have:=World.cell?_setCells_in b us (i*4) c.w (fun t ht=>hsp hk _ (by omega)) (j-i*4) (by omega)
    rw[show i*4+(j-i*4)=j by omega]at this
    rw[this,List.getElem?_eq_getElem]
  ·refine (Tryz.ins_end_grow (some ⟨b,0,none⟩) i k b' c' cs us c.w r3 (by omega) (by omega) hcsl hus4 (fun h=>by cases h) (fun a h j v hj=>by cases h;rw[Addr.add_lit,Nat.zero_add];exact hcsc j v hj) husc hus1).mono ?_
   rintro e w' ⟨rfl,rfl⟩
   have hG:=grownCap_ge c.w (i+1) k 148
   have hG2:=grownCap_le_maxLen c.w (i+1) k 148 (by unfold maxLen;omega)
   generalize grownCap c.w (i+1) k 148=G at hG hG2 ⊢
   refine Y1 hc hH hn hi (bN:=c.w.heap.size) (kN:=G) (vs0:=vs0) (vs1:=(cs++us).toArray++Builtin.zeroCells If.cells (G-(i+1))) (us:=us) (cs:=cs) (.inr (Nat.le_refl _)) (by omega) ?_ ?_ hG (by unfold maxLen at hG2;omega) r6 hcsg hnewf (fun j hj=>?_) (fun b1 h1 h2=>?_) ?_ rfl rfl rfl
   ·show (c.w.heap.push _)[c.w.heap.size]?=_
    rw[Array.getElem?_push_size];rfl
   ·have hzc:If.cells.size=4:=rfl
    simp only[Array.size_append,Gq,hzc,List.size_toArray,List.length_append,hus4,hcsl];omega
   ·rw[Array.getElem?_append_left (by simp[hcsl,hus4];omega),List.getElem?_toArray,List.getElem?_append,hcsl]
    by_cases e1:j<i*4
    ·rw[if_pos e1,if_pos e1]
    ·rw[if_neg e1,if_neg e1,if_pos (by omega)]
   ·exact BW h1
   ·show c.w.heap.size<=(c.w.heap.push _).size
    rw[Array.size_push];omega
 ·have hin':i<n:=by omega
  by_cases hk:n+1<=k
  ·refine (Tryz.ins_shift b n k i b' c' cs us c.w hin' hk (by omega) hvb hcsl hus4 hcsc (hsp hk) (fun j _=>hfz _) husc hcs1 hus1 Cg Cg va.size vs0.size (by simp[World.shape?,va1]) (by simp[World.shape?,r1]) (by omega) (by simp[World.frozen?,va1]) (by simp[World.frozen?,va1])).mono ?_
   rintro e w' ⟨rfl,rfl⟩
   have hdl:(cs.drop (i*4)).length=(n-i)*4:=by rw[List.length_drop,hcsl];omega
   have hsp':∀ j,j<(n+1)*4->(c.w.drew.cell? ⟨b,j,none⟩).isSome=true:=hsp hk
   obtain⟨g1,g2,g3,g4,g5,g6⟩:=FS b (cs.drop (i*4)) ((i+1)*4) c.w.drew
   obtain⟨vsA,g7,g8⟩:=g3 _ _ _ r1
   generalize hW1:c.w.drew.setCells b ((i+1)*4) (cs.drop (i*4))=W1 at g1 g2 g3 g4 g5 g6 g7 ⊢
   obtain⟨f1,f2,f3,f4,f5,f6⟩:=FS b us (i*4) W1
   obtain⟨vs1,f7,f8⟩:=f3 _ _ _ g7
   have hw:∀ j,vs1[j]?=(W1.setCells b (i*4) us).cell? ⟨b,j,none⟩:=fun j=>by simp only[World.cell?,f7];rfl
   refine Y1 hc hH hn hi (bN:=b) (kN:=k) (vs0:=vs0) (vs1:=vs1) (us:=us) (cs:=cs) (.inl ⟨k,hρ0⟩) (by omega) f7 (by rw[f8,g8,r2]) hk r4 r6 hcsg hnewf (fun j hj=>?_) (fun b1 _ h2=>by rw[f2 b1 h2,g2 b1 h2];rfl) (by rw[f1,g1];exact Nat.le_refl _) (by rw[f4,g4];rfl) (by rw[f5,g5];rfl) (by rw[f6,g6];rfl)
   rw[hw]
   have hsp1:∀ j,j<(n+1)*4->(W1.cell? ⟨b,j,none⟩).isSome=true:=fun j hj=>by
    rw[<-hW1]
    exact isSome_setCells b _ _ c.w.drew (fun t ht=>hsp' ((i+1)*4+t) (by rw[hdl]at ht;omega)) _ (hsp' j hj)
   by_cases e1:j<i*4
   ·rw[if_pos e1,World.cell?_setCells_out b _ _ _ _ (fun _ _=>.inl e1),<-hW1,World.cell?_setCells_out b _ _ _ _ (fun _ _=>.inl (by show j<(i+1)*4;omega))]
    show c.w.cell? ⟨b,j,none⟩=_
    rw[hcell,hcsg j (by omega)]
   ·rw[if_neg e1]
    by_cases e2:j<i*4+4
    ·rw[if_pos e2]
     have:=World.cell?_setCells_in b us (i*4) W1 (fun t ht=>hsp1 _ (by omega)) (j-i*4) (by omega)
     rw[show i*4+(j-i*4)=j by omega]at this
     rw[this,List.getElem?_eq_getElem]
    ·rw[if_neg e2,World.cell?_setCells_out b _ _ _ _ (fun _ _=>.inr (by show i*4+us.length<=j;omega)),<-hW1]
     have:=World.cell?_setCells_in b (cs.drop (i*4)) ((i+1)*4) c.w.drew (fun t ht=>hsp' _ (by omega)) (j-(i+1)*4) (by omega)
     rw[show (i+1)*4+(j-(i+1)*4)=j by omega]at this
     rw[this,<-List.getElem?_eq_getElem,List.getElem?_drop,show i*4+(j-(i+1)*4)=j-4 by omega]
  ·refine (Tryz.ins_grow b n k i b' c' cs us c.w hin' r3 (by omega) (by omega) hcsl hus4 hcsc husc hcs1 hus1).mono ?_
   rintro e w' ⟨rfl,rfl⟩
   have hG:=grownCap_ge c.w (n+1) k 148
   have hG2:=grownCap_le_maxLen c.w (n+1) k 148 (by unfold maxLen;omega)
   generalize grownCap c.w (n+1) k 148=G at hG hG2 ⊢
   have hdl:(cs.drop (i*4)).length=(n-i)*4:=by rw[List.length_drop,hcsl];omega
   have hzc:If.cells.size=4:=rfl
   generalize hR:(cs.take (i*4)).toArray++Builtin.zeroCells If.cells (n+1-i)++Builtin.zeroCells If.cells (G-(n+1))=ROW
   have hRs:ROW.size=G*4:=by
    rw[<-hR]
    simp only[Array.size_append,Gq,hzc,List.size_toArray,List.length_take,hcsl];omega
   have hRg:∀ j,j<i*4->ROW[j]?=cs[j]?:=fun j hj=>by
    rw[<-hR,Array.getElem?_append_left (by simp[Gq,hzc,hcsl];omega),Array.getElem?_append_left (by simp[hcsl];omega),List.getElem?_toArray,List.getElem?_take,if_pos hj]
   generalize hN:c.w.heap.size=N
   have hNb:∀ j,(c.w.alloc (.cells ROW 148)).cell? ⟨N,j,none⟩=ROW[j]?:=fun j=>World.cell?_alloc_at (w:=c.w) ROW _ N j hN.symm
   generalize hW0:(c.w.alloc (.cells ROW 148)).drew=W0
   have hW0c:∀ j,W0.cell? ⟨N,j,none⟩=ROW[j]?:=fun j=>by rw[<-hW0];exact hNb j
   have hW0h:W0.heap=c.w.heap.push (.cells ROW 148):=by rw[<-hW0];rfl
   obtain⟨g1,g2,g3,g4,g5,g6⟩:=FS N us (i*4) W0
   obtain⟨vsA,g7,g8⟩:=g3 ROW Cg (0,0) (by rw[hW0h,<-hN,Array.getElem?_push_size];rfl)
   have hsA:∀ j,j<(n+1)*4->((W0.setCells N (i*4) us).cell? ⟨N,j,none⟩).isSome=true:=fun j hj =>
    isSome_setCells N us _ W0 (fun t ht=>by rw[hW0c,Array.getElem?_eq_getElem (by omega)];rfl) _ (by rw[hW0c,Array.getElem?_eq_getElem (by omega)];rfl)
   generalize hW1:W0.setCells N (i*4) us=W1 at g1 g2 g3 g4 g5 g6 g7 hsA ⊢
   obtain⟨f1,f2,f3,f4,f5,f6⟩:=FS N (cs.drop (i*4)) ((i+1)*4) W1.drew
   obtain⟨vs1,f7,f8⟩:=f3 _ _ _ g7
   have hw:∀ j,vs1[j]?=(W1.drew.setCells N ((i+1)*4) (cs.drop (i*4))).cell? ⟨N,j,none⟩:=fun j=>by simp only[World.cell?,f7];rfl
   have hold:∀ b1,b1<c.w.heap.size->b1≠N->W0.heap[b1]?=c.w.heap[b1]?:=fun b1 h _=>by rw[hW0h];exact BW h
   refine Y1 hc hH hn hi (bN:=N) (kN:=G) (vs0:=vs0) (vs1:=vs1) (us:=us) (cs:=cs) (.inr (by omega)) (by omega) f7 (by rw[f8,g8,hRs]) hG (by unfold maxLen at hG2;omega) r6 hcsg hnewf (fun j hj=>?_) (fun b1 h1 h2=>?_) ?_ ?_ ?_ ?_
   ·rw[hw]
    by_cases e1:j<i*4
    ·rw[if_pos e1,World.cell?_setCells_out N _ _ _ _ (fun _ _=>.inl (by show j<(i+1)*4;omega))]
     show W1.cell? ⟨N,j,none⟩=_
     rw[<-hW1,World.cell?_setCells_out N _ _ _ _ (fun _ _=>.inl e1),hW0c,hRg j e1]
    ·rw[if_neg e1]
     by_cases e2:j<i*4+4
     ·rw[if_pos e2,World.cell?_setCells_out N _ _ _ _ (fun _ _=>.inl (by show j<(i+1)*4;omega))]
      show W1.cell? ⟨N,j,none⟩=_
      rw[<-hW1]
      have:=World.cell?_setCells_in N us (i*4) W0 (fun t ht=>by rw[hW0c,Array.getElem?_eq_getElem (by omega)];rfl) (j-i*4) (by omega)
      rw[show i*4+(j-i*4)=j by omega]at this
      rw[this,List.getElem?_eq_getElem]
     ·rw[if_neg e2]
      have:=World.cell?_setCells_in N (cs.drop (i*4)) ((i+1)*4) W1.drew (fun t ht=>hsA _ (by omega)) (j-(i+1)*4) (by omega)
      rw[show (i+1)*4+(j-(i+1)*4)=j by omega]at this
      rw[this,<-List.getElem?_eq_getElem,List.getElem?_drop,show i*4+(j-(i+1)*4)=j-4 by omega]
   ·rw[f2 b1 h2]
    show W1.heap[b1]?=_
    rw[g2 b1 h2,hold b1 h1 h2]
   ·rw[f1]
    show c.w.heap.size<=W1.heap.size
    rw[g1,hW0h,Array.size_push];omega
   ·rw[f4]
    show W1.os=_
    rw[g4,<-hW0];rfl
   ·rw[f5]
    show W1.tape=_
    rw[g5,<-hW0];rfl
   ·rw[f6]
    show W1.output=_
    rw[g6,<-hW0];rfl
end Go.Dw
end
namespace Go.Dw
theorem Hm {σ:Nat->Option Nat}{s:List A5}:(s.map cB).map (AN σ)=s.map cB:=by rw[List.map_map];rfl
attribute [push_cast] Hm
theorem ci {s:List A5}{k:Nat}(h:k<s.length):(s.map cB)[k]?=some (cB (s.getD k default)):=by
 rw[List.getElem?_map];simp[List.getD_eq_getElem?_getD,h]
abbrev CV (s:List A5):Ob:=.row Cg 4 (s.map cB)
theorem Ns {g:Nat}(hg:∀ b v,PF g [Xp b,.str v] (.int .i64 (Iy b.name v)))(s:List A5)(v:A9)(hs:CK s)(hl:s.length<2^61) :
  Spec prog AJ [.rw 0 4 s.length,.str v,.fn (.func g) [] []] [CV s] fun x H'=>x=.tup [.int .i64 (I6 v s),.bool (bound s v)]/\H'=[CV s]:=by
 refine AC mixed Al.ok rfl ?_
 have hle:=Sf v s
 push_cast
 have key:∀ (m i j:Nat),j-i<=m->i<=I6 v s->I6 v s<=j->j<=s.length->Al.L3 (.rw 0 4 s.length) (.str v) (.fn (.func g) [] []) (.int .i64 s.length) (.int .i64 i) (.int .i64 j) 1 [CV s]
   (BH 1 Al.rs fun x' H'=>x'=.tup [.int .i64 (I6 v s),.bool (bound s v)]/\H'=[CV s]):=by
  intro m
  induction m with
  | zero =>
   intro i j hm h1 h2 h3
   have hij:i=I6 v s:=by omega
   refine A7.2 ?_
   push_cast[AZ (show j<=i by omega)]
   unfold bound
   rw[Lb hs]
   by_cases hi:i<s.length
   ·push_cast[BB hi,ci hi,List.length_map]
    refine .of (hg _ _) ?_
    push_cast
    refine Ck (.inl rfl) rfl ⟨?_,rfl⟩
    push_cast[QS,hij]
    rw[hij]at hi
    by_cases hn:(s.getD (I6 v s) default).name=v
    ·rw[if_pos ⟨hi,hn⟩];simp only[hn];rfl
    ·rw[if_neg (fun h=>hn h.2)];simp only[hn];rfl
   ·push_cast[AZ (show s.length<=i by omega)]
    refine Ck (.inl rfl) rfl ⟨?_,rfl⟩
    push_cast[hij]
    rw[if_neg (fun h=>hi (by omega))]
    rfl
  | succ m ih =>
   intro i j hm h1 h2 h3
   by_cases hij:i<j
   ·refine A7.2 ?_
    have hh:=Ac8 (i:=i) (j:=j) (by omega) (by omega)
    generalize hq:(i+j) / 2=h at hh
    have hk:h<s.length:=by omega
    push_cast[BB hij]
    simp only[hh]
    push_cast[BB hk,ci hk,List.length_map]
    refine .of (hg _ _) ?_
    push_cast[Co (show h<2^62 by omega),JN]
    refine⟨fun hc=>ih (h+1) j (by omega) ?_ h2 h3,fun hc=>ih i h (by omega) h1 ?_ (by omega)⟩
    ·rcases Nat.lt_or_ge h (I6 v s)with h4 | h4
     ·omega
     ·exact absurd hc (Y3 hs h4 hk)
    ·rcases Nat.lt_or_ge h (I6 v s)with h4 | h4
     ·exact absurd (XS h4) hc
     ·exact h4
   ·exact ih i j (by omega) h1 h2 h3
 exact key s.length 0 s.length (by omega) (by omega) hle (Nat.le_refl _)
theorem WD (s:List A5)(v:A9)(hs:CK s)(hl:s.length<2^61):Spec prog FB [.rw 0 4 s.length,.str v] [CV s] fun x H'=>x=LU (Ac s v)/\H'=[CV s]:=by
 have hB:=Ns PX s v hs hl
 have hi:=Lb (v:=v) hs
 refine AC mixed LE.ok rfl ?_
 push_cast
 have hsh:I4 1 [CV s]:=⟨rfl,by show [A6 (AI 1) (CV s)]=_;rw[El,Hm]⟩
 refine Bl.some [0] (by simp) (by simp) (R:=fun x H'=>x=.tup [.int .i64 (I6 v s),.bool (bound s v)]/\H'=[CV s]) (by
  have:give [0] [CV s,.cells A2 [.str [],.bool false,.sl 3 []]]=[CV s]:=by
   show [A6 (Ay [0]) (CV s)]=_
   rw[El,Hm]
  rw[this];exact hB) ?_
 rintro x H' ⟨rfl,rfl⟩ _
 have ht:takeB [0] [CV s,.cells A2 [.str [],.bool false,.sl 3 []]] [CV s]=[CV s,.cells A2 [.str [],.bool false,.sl 3 []]]:=by
  show [A6 (BG [0] 2) (CV s),.cells A2 [.str [],.bool false,.sl 3 []]]=_
  rw[El,Hm]
 rw[ht]
 unfold bound
 by_cases hc:I6 v s<s.length/\(s.getD (I6 v s) default).name=v
 ·rw[if_pos hc]at hi
  push_cast[hi,Option.isSome_some,BB hc.1,ci hc.1,List.length_map]
  exact Am (H:=[CV s]) (J:=[_]) hsh rfl ⟨rfl,rfl⟩
 ·rw[if_neg hc]at hi
  push_cast[hi,Option.isSome_none]
  exact Am (H:=[CV s]) (J:=[_]) hsh rfl ⟨rfl,rfl⟩
def Eh (s:List A5)(v:A9)(t:Term):List A5:=s.take (I6 v s)++⟨v,t⟩::s.drop (I6 v s)
theorem NS (s:List A5)(v:A9)(t:Term):(Eh s v t).length=s.length+1:=by
 have:=Sf v s
 unfold Eh;simp;omega
theorem tY (s:List A5):I4 1 [CV s]:=⟨rfl,by show [A6 (AI 1) (CV s)]=_;rw[El,Hm]⟩
theorem Ps (s:List A5)(v:A9)(t:Term)(hs:CK s)(hl:s.length<2^40):Spec prog KL [.rw 0 4 s.length,.str v,An t] [CV s] fun x H'=>x=.rw 0 4 (s.length+1)/\H'=[CV (Eh s v t)]:=by
 have hB:=Ns Yo s v hs (by omega)
 have hle:=Sf v s
 have hI:=iE (s.map cB) (cB ⟨v,t⟩) (I6 v s) s.length (by simp) hle (by unfold Ai;omega)
 have hbt:(s.map cB).take (I6 v s)++cB ⟨v,t⟩::(s.map cB).drop (I6 v s)=(Eh s v t).map cB:=by unfold Eh;simp
 rw[hbt]at hI
 refine AC mixed YF.ok rfl ?_
 push_cast
 refine Bl.all (AT▸hB) ?_
 rintro x H' ⟨rfl,rfl⟩
 push_cast
 refine Bl.all (AT▸hI) ?_
 rintro x H' ⟨rfl,rfl⟩
 push_cast
 exact Am (H:=[CV (Eh s v t)]) (J:=[_]) (tY _) rfl ⟨rfl,rfl⟩
theorem OQ {s:List A5}{v:A9}{t:Term}(hs:CK s)(hn:Ac s v=none):CK (Eh s v t):=by
 have hle:=Sf v s
 have h1:∀ b∈s.take (I6 v s),b.name<v:=fun b hb=>by
  obtain⟨j,hj,rfl⟩:=List.getElem_of_mem hb
  have hjl:j<I6 v s:=by rw[List.length_take]at hj;omega
  have:=XS hjl
  simpa[List.getD_eq_getElem?_getD,show j<s.length by omega]using this
 have h2:∀ b∈s.drop (I6 v s),v<b.name:=fun b hb=>by
  obtain⟨j,hj,rfl⟩:=List.getElem_of_mem hb
  have hjl:I6 v s+j<s.length:=by rw[List.length_drop]at hj;omega
  have h3:=Y3 hs (Nat.le_add_right (I6 v s) j) hjl
  have he:(s.drop (I6 v s))[j]=s.getD (I6 v s+j) default:=by simp[List.getD_eq_getElem?_getD,hjl]
  rw[he]
  have hne:(s.getD (I6 v s+j) default).name≠v:=fun e=>by
   have hi:=Lb (v:=v) hs
   rw[hn]at hi
   split at hi
   ·cases hi
   ·rename_i hc
    refine hc ⟨by omega,?_⟩
    rcases Nat.eq_zero_or_pos j with h0 | h0
    ·subst h0;exact e
    ·have h5:(s.getD (I6 v s) default).name<(s.getD (I6 v s+j) default).name:=by
      have:=List.pairwise_iff_getElem.1 hs (I6 v s) (I6 v s+j) (by omega) hjl (by omega)
      simpa[List.getD_eq_getElem?_getD,hjl,show I6 v s<s.length by omega]using this
     rw[e]at h5
     exact absurd h5 (Y3 hs (Nat.le_refl _) (by omega))
  rcases Classical.em (v<(s.getD (I6 v s+j) default).name)with h | h
  ·exact h
  ·exact absurd (YA h3 h) hne
 unfold Eh
 refine List.pairwise_append.2 ⟨List.Pairwise.sublist (List.take_sublist _ _) hs,List.pairwise_cons.2 ⟨h2,List.Pairwise.sublist (List.drop_sublist _ _) hs⟩,fun a ha b hb=>?_⟩
 rcases List.mem_cons.1 hb with rfl | hb
 ·exact h1 a ha
 ·exact Lf (h1 a ha) (h2 b hb)
theorem Nn {s:List A5}{v:A9}{t:Term}{b:A5}(h:b∈Eh s v t):b∈s\/b=⟨v,t⟩:=by
 unfold Eh at h
 rcases List.mem_append.1 h with h | h
 ·exact .inl (List.mem_of_mem_take h)
 ·rcases List.mem_cons.1 h with h | h
  ·exact .inr h
  ·exact .inl (List.mem_of_mem_drop h)
end Go.Dw
section
namespace Go.Dw
mutual
def AR (s:List A5):Term->Term->List A5×Bool
 | .mk n v l,t=>if v then (match Ac s n with | some x=>(s,decide (x=t)) | none=>(Eh s n t,true)) else
  if t.var\/n≠t.name\/l.length≠t.args.length then (s,false) else D3 s l t.args
def D3 (s:List A5):List Term->List Term->List A5×Bool
 | [],_=>(s,true)
 | _::_,[]=>(s,false)
 | a::l,b::m=>if (AR s a b).2 then D3 (AR s a b).1 l m else ((AR s a b).1,false)
end
theorem J3 (s:List A5)(p t:Term):AR s p t=if p.var then (match Ac s p.name with | some x=>(s,decide (x=t)) | none=>(Eh s p.name t,true)) else
  if t.var\/p.name≠t.name\/p.args.length≠t.args.length then (s,false) else D3 s p.args t.args:=by
 cases p with | mk n v l=>simp only[AR,Term.var,Term.name,Term.args];rfl
structure MOk (M:Nat) (s:List A5) (n:Nat) (s':List A5):Prop where
 sorted:CK s'
 small:∀ b∈s',size b.term<M
 len:s'.length<=s.length+n
theorem aV {M:Nat}(p:Term):∀ (s:List A5)(t:Term),CK s->(∀ b∈s,size b.term<M)->size t<M->MOk M s (size p) (AR s p t).1:=by
 induction p using Ah with
 | h p ih =>
 intro s t hs hb ht
 have hst:=Aq t
 have hsp:=Aq p
 rw[J3]
 cases hv:p.var with
 | true =>
  rw[if_pos rfl]
  cases hx:Ac s p.name with
  | some x=>exact⟨hs,hb,Nat.le_add_right _ _⟩
  | none =>
   refine⟨OQ hs hx,fun b h=>?_,by rw[NS];omega⟩
   rcases Nn h with h | rfl
   ·exact hb b h
   ·exact ht
 | false =>
  rw[if_neg (by simp)]
  by_cases hc:t.var\/p.name≠t.name\/p.args.length≠t.args.length
  ·rw[if_pos hc];exact⟨hs,hb,Nat.le_add_right _ _⟩
  ·rw[if_neg hc]
   have key:∀ (l m:List Term)(s:List A5),(∀ a∈l,a∈p.args)->(∀ a∈m,size a<M)->CK s->(∀ b∈s,size b.term<M)->MOk M s (Af l) (D3 s l m).1:=by
    intro l
    induction l with
    | nil=>intro m s _ _ h1 h2;exact⟨h1,h2,Nat.le_add_right _ _⟩
    | cons a l ihl =>
     intro m s hl hm h1 h2
     cases m with
     | nil=>exact⟨h1,h2,Nat.le_add_right _ _⟩
     | cons b m =>
      have h3:=ih a (hl a (by simp)) s b h1 h2 (hm b (by simp))
      simp only[D3]
      split
      ·have h4:=ihl m _ (fun x hx=>hl x (by simp[hx])) (fun x hx=>hm x (by simp[hx])) h3.sorted h3.small
       exact⟨h4.sorted,h4.small,by have:=h4.len;have:=h3.len;simp only[Af];omega⟩
      ·exact⟨h3.sorted,h3.small,by have:=h3.len;simp only[Af];omega⟩
   have h5:=key p.args t.args s (fun _ h=>h) (fun a ha=>by have:=B4 ha;omega) hs hb
   exact⟨h5.sorted,h5.small,by have:=h5.len;omega⟩
abbrev mH (s:List A5):List Ob:=[.cells P4 [.rw 1 4 s.length],CV s]
theorem tK (s:List A5):I4 2 (mH s):=⟨rfl,by show [A6 (AI 2) _,A6 (AI 2) (CV s)]=_;rw[El,Hm];rfl⟩
theorem eO (s:List A5)(n k:Nat):A6 (BG [k] n) (CV s)=CV s:=by rw[El,Hm]
theorem sS (a:Ob)(s:List A5)(J:List Ob):give [1] (a::CV s::J)=[CV s]:=by
 show [A6 (Ay [1]) (CV s)]=_
 rw[El,Hm]
theorem Acl (a:Ob)(s s':List A5):takeB [1] [a,CV s] [CV s']=[a,CV s']:=by
 show [a,A6 (BG [1] 2) (CV s')]=_
 rw[eO]
theorem xg (a b:Ob)(s s':List A5):takeB [1] [a,CV s,b] [CV s']=[a,CV s',b]:=by
 show [a,A6 (BG [1] 3) (CV s'),b]=_
 rw[eO]
section
variable {N:Nat->C} {B:Nat} {k:List K} {t:T} {Q:X->T->List Ob->Prop} {a b:Ob} {s s':List A5} {d:Option Nat} {l:List S} {f:Nat} {vs vs':List V} {x:V}
theorem dL (hv:AN (Ay [1]) vs=vs')(h:Spec prog f vs' [CV s] fun x' H'=>x'=x/\H'=[CV s'])(k':Ax prog N B (.r l::k) (Fd d (ren (BG [1] 2) x) t) [a,CV s'] Q):Bl prog N B d l k t Q (.func f) vs [a,CV s]:=by
 refine Bl.some [1] (by simp) (by simp) (R:=fun x' H'=>x'=x/\H'=[CV s']) (by rw[sS,hv];exact h) ?_
 rintro x' H' ⟨rfl,rfl⟩ _
 rw[Acl];exact k'
theorem WF (hv:AN (Ay [1]) vs=vs')(h:Spec prog f vs' [CV s] fun x' H'=>x'=x/\H'=[CV s'])(k':Ax prog N B (.r l::k) (Fd d (ren (BG [1] 3) x) t) [a,CV s',b] Q):Bl prog N B d l k t Q (.func f) vs [a,CV s,b]:=by
 refine Bl.some [1] (by simp) (by simp) (R:=fun x' H'=>x'=x/\H'=[CV s']) (by rw[sS,hv];exact h) ?_
 rintro x' H' ⟨rfl,rfl⟩ _
 rw[xg];exact k'
end
theorem Zg (p:Term):∀ (s:List A5)(t:Term),CK s->(∀ b∈s,size b.term<2^62)->size t<2^62->s.length+size p<2^39->Spec prog Ed [.ptr 0 0,An p,An t] (mH s) fun x H'=>x=.bool (AR s p t).2/\H'=mH (AR s p t).1:=by
 induction p using Ah with
 | h p ih =>
 intro s t hs hb ht hl
 refine AC mixed EU.ok rfl ?_
 rw[J3]
 cases hv:p.var with
 | true =>
  have hI:=WD s p.name hs (by omega)
  push_cast[hv]
  cases hx:Ac s p.name with
  | some x =>
   rw[hx]at hI
   refine⟨dL (vs':=[.rw 0 4 s.length,.str p.name]) rfl hI ?_,WF (vs':=[.rw 0 4 s.length,.str p.name]) rfl hI ?_⟩ <;>
   ·push_cast[LU]
    refine .of (T7 x t (by obtain⟨b,hb1,_,rfl⟩:=Ln hx;exact hb b hb1)) ?_
    push_cast
    exact Am (H:=mH s) (J:=[_]) (tK s) rfl ⟨rfl,rfl⟩
  | none =>
   rw[hx]at hI
   refine⟨dL (vs':=[.rw 0 4 s.length,.str p.name]) rfl hI ?_,WF (vs':=[.rw 0 4 s.length,.str p.name]) rfl hI ?_⟩ <;>
   ·push_cast[LU]
    refine WF (vs':=[.rw 0 4 s.length,.str p.name,An t]) rfl (Ps s p.name t hs (by omega)) ?_
    have h0:BG [1] 3 0=some 1:=rfl
    push_cast[h0]
    rw[<-NS s p.name t]
    exact Am (H:=mH (Eh s p.name t)) (J:=[_]) (tK _) rfl ⟨rfl,rfl⟩
 | false =>
  cases ht:t.var with
  | true =>
   push_cast[hv,ht]
   rw[if_pos (.inl trivial)]
   exact Ck (.inl rfl) rfl ⟨rfl,rfl⟩
  | false =>
   by_cases hn:p.name=t.name
   ·by_cases hlen:p.args.length=t.args.length
    ·have hlen':((p.args.length:Int)=(t.args.length:Int))=True:=eq_true (by omega)
     push_cast[hv,ht,hn,hlen']
     rw[if_neg (by simp[hlen])]
     have hsp:=Aq p
     have hst:=Aq t
     refine Ae (n:=p.args.length) (R:=fun k=>∀ s',D3 s p.args t.args=D3 s' (p.args.drop k) (t.args.drop k)->CK s'->(∀ b∈s',size b.term<2^62)->s'.length+Af (p.args.drop k)<=s.length+Af p.args ->
      EU.L3 (.ptr 0 0) (.ro (cT p) 0) (.ro (cT t) 0) (.int .i64 p.args.length) (.int .i64 k) 2 (mH s') (BH 2 EU.rs fun x H'=>x=.bool (D3 s p.args t.args).2/\H'=mH (D3 s p.args t.args).1)) ?_ ?_ 0 (by omega) s rfl hs hb (Nat.le_refl _)
     ·intro k hk ih2 s' he hs' hb' hl'
      have hk2:k<t.args.length:=by omega
      have hm:=A4 hk
      have hm2:=A4 hk2
      have hsm:=B4 hm2
      have hlp:=Ap p.args
      rw[Ag hk,Ag hk2]at he
      rw[Ag hk]at hl'
      simp only[D3,Af]at he hl'
      have hc:=ih _ hm s' (t.args.getD k default) hs' hb' (by omega) (by omega)
      have hok:=aV (M:=2^62) (p.args.getD k default) s' (t.args.getD k default) hs' hb' (by omega)
      refine A7.2 ?_
      push_cast[BB hk,BB hk2]
      refine Bl.all (AT▸hc) ?_
      rintro x H' ⟨rfl,rfl⟩
      cases hr:(AR s' (p.args.getD k default) (t.args.getD k default)).2 with
      | true =>
       rw[hr,if_pos rfl]at he
       have:=ih2 _ he hok.sorted hok.small (by have:=hok.len;omega)
       push_cast[Co (show k<2^62 by omega)]
       exact this
      | false =>
       rw[hr,if_neg (by simp)]at he
       push_cast
       rw[he]
       exact Ck (.inl rfl) rfl ⟨rfl,rfl⟩
     ·intro s' he hs' hb' hl'
      refine A7.2 ?_
      push_cast[AZ (Nat.le_refl _)]
      rw[Ar]at he
      rw[he]
      exact Ck (.inl rfl) rfl ⟨rfl,rfl⟩
    ·have hlen':((p.args.length:Int)=(t.args.length:Int))=False:=eq_false (by omega)
     push_cast[hv,ht,hn,hlen']
     rw[if_pos (.inr (.inr hlen))]
     exact Ck (.inl rfl) rfl ⟨rfl,rfl⟩
   ·push_cast[hv,ht,hn]
    rw[if_pos (.inr (.inl trivial))]
    exact Ck (.inl rfl) rfl ⟨rfl,rfl⟩
theorem dx (p t:Term)(hp:size p<2^38)(ht:size t<2^62):PF O0 [An p,An t] (.tup [B5 (AR [] p t).1,.bool (AR [] p t).2]):=by
 have hm:=Zg p [] t List.Pairwise.nil (by simp) ht (by simp;omega)
 refine Ad S8.ok rfl ?_
 push_cast
 refine Bl.all (AT▸hm) ?_
 rintro x H' ⟨rfl,rfl⟩
 push_cast
 refine⟨by simp,A0 ?_⟩
 push_cast[S8.rs]
 rfl
end Go.Dw
end
namespace Go.Dw
theorem aN:∀ (p:List Int)(t x:Term),Bt t p=some x->size x<=size t
 | [],t,x,h=>by cases h;exact Nat.le_refl _
 | i::p,t,x,h=>by
  simp only[Bt]at h
  split at h
  ·rename_i hc
   have h1:=aN p _ x h
   have h2:=B4 (A4 (l:=t.args) (k:=i.toNat) (by omega))
   have h3:=Aq t
   omega
  ·cases h
theorem kJ:∀ (p:List Int)(t x:Term),Bt t p=some x->tb x<=tb t
 | [],t,x,h=>by cases h;exact Nat.le_refl _
 | i::p,t,x,h=>by
  simp only[Bt]at h
  split at h
  ·rename_i hc
   have h1:=kJ p _ x h
   have h2:=Km (A4 (l:=t.args) (k:=i.toNat) (by omega))
   have h3:=FZ t
   omega
  ·cases h
end Go.Dw
section
namespace Go.Dw
mutual
def short:Term->Bool
 | .mk n v l=>decide (n.length<=24)&&((!v||l.isEmpty)&&St l)
def St:List Term->Bool
 | []=>true
 | a::l=>short a&&St l
end
theorem jw {l:List Term}:St l=true↔∀ a∈l,short a=true:=by
 induction l with
 | nil=>simp[St]
 | cons a l ih=>simp[St,ih]
theorem C0 {t:Term}:short t=true↔t.name.length<=24/\(t.var=true->t.args=[])/\∀ a∈t.args,short a=true:=by
 cases t with | mk n v l=>cases v<;>simp[short,jw,Term.name,Term.var,Term.args]
theorem Ou (t:Term):CI t=true->short t=true:=by
 induction t using Ah with
 | h t ih =>
 intro h
 rw[F8]at h
 rw[C0]
 split at h
 ·simp only[Bool.and_eq_true,decide_eq_true_eq,CJ]at h
  refine⟨h.2.1,fun _=>List.length_eq_zero_iff.1 h.1,fun a ha=>?_⟩
  rw[List.length_eq_zero_iff.1 h.1]at ha;cases ha
 ·rename_i hv
  simp only[Bool.and_eq_true,decide_eq_true_eq,CJ,List.all_eq_true]at h
  exact⟨h.2.1.1,fun hv2=>absurd hv2 hv,fun a ha=>ih a ha (h.2.2 a ha)⟩
mutual
theorem SN:∀ t,short t=true->tb t<=25*size t
 | .mk n v l,h=>by
  simp only[short,Bool.and_eq_true,decide_eq_true_eq]at h
  have:=aO l h.2.2
  simp only[tb,size]
  simp only[tbs]at this
  omega
theorem aO:∀ l,St l=true->tbs l<=25*Af l
 | [],_=>by simp[tbs,tb.tbs,Af]
 | a::l,h=>by
  simp only[St,Bool.and_eq_true]at h
  have h1:=SN a h.1
  have h2:=aO l h.2
  simp only[tbs,tb.tbs,Af]at h2 ⊢
  omega
end
theorem ju {s:List A5}(hs:∀ b∈s,short b.term=true)(t:Term):short t=true->short (Aw s t)=true:=by
 induction t using Ah with
 | h t ih =>
 intro ht
 rw[EW]
 have h:=C0.1 ht
 split
 ·cases hx:Ac s t.name with
  | none=>exact C0.2 ⟨h.1,fun _=>rfl,fun a ha=>by simp[Term.args]at ha⟩
  | some x =>
   obtain⟨b,hb,_,rfl⟩:=Ln hx
   exact hs b hb
 ·refine C0.2 ⟨h.1,fun hv=>by simp[Term.var]at hv,fun a ha=>?_⟩
  simp only[Term.args,List.mem_map]at ha
  obtain⟨y,hy,rfl⟩:=ha
  exact ih y hy (h.2.2 y hy)
theorem bE (p:Term):∀ (s:List A5)(t:Term),(∀ b∈s,short b.term=true)->short t=true->∀ b∈(AR s p t).1,short b.term=true:=by
 induction p using Ah with
 | h p ih =>
 intro s t hb ht
 rw[J3]
 cases hv:p.var with
 | true =>
  rw[if_pos rfl]
  cases hx:Ac s p.name with
  | some x=>exact hb
  | none =>
   intro b h
   rcases Nn h with h | rfl
   ·exact hb b h
   ·exact ht
 | false =>
  rw[if_neg (by simp)]
  by_cases hc:t.var\/p.name≠t.name\/p.args.length≠t.args.length
  ·rw[if_pos hc];exact hb
  ·rw[if_neg hc]
   have key:∀ (l m:List Term)(s:List A5),(∀ a∈l,a∈p.args)->(∀ a∈m,short a=true)->(∀ b∈s,short b.term=true)->∀ b∈(D3 s l m).1,short b.term=true:=by
    intro l
    induction l with
    | nil=>intro m s _ _ h2;exact h2
    | cons a l ihl =>
     intro m s hl hm h2
     cases m with
     | nil=>exact h2
     | cons b m =>
      have h3:=ih a (hl a (by simp)) s b h2 (hm b (by simp))
      simp only[D3]
      split
      ·exact ihl m _ (fun x hx=>hl x (by simp[hx])) (fun x hx=>hm x (by simp[hx])) h3
      ·exact h3
   exact key p.args t.args s (fun _ h=>h) (C0.1 ht).2.2 hb
theorem pe {l:List Term}{k:Nat}{x:Term}(hk:k<l.length):Af (l.set k x)+size (l.getD k default)=Af l+size x:=by
 induction l generalizing k with
 | nil=>simp at hk
 | cons a l ih =>
  cases k with
  | zero=>simp[Af];omega
  | succ k =>
   have:=ih (k:=k) (by simpa using hk)
   simp only[List.set_cons_succ,Af,List.getD_cons_succ]
   omega
theorem UK:∀ (p:List Int)(t x:Term),size (ID t p x)<=size t+size x
 | [],t,x=>by simp only[ID];omega
 | i::p,t,x=>by
  have h1:=Aq t
  have h2:=Aq (ID t (i::p) x)
  rw[h2,UW]
  split
  ·rename_i hi
   have hk:i.toNat<t.args.length:=by omega
   have h3:=pe (x:=ID (t.args.getD i.toNat default) p x) hk
   have h4:=UK p (t.args.getD i.toNat default) x
   omega
  ·omega
theorem Jj {t:Term}(h:BU t=true):size t<=4000:=by
 simp only[BU,Bool.and_eq_true,decide_eq_true_eq]at h;exact h.1
def Aa6 (t:Term):Prop:=short t=true/\size t<=4000
theorem WA {t:Term}(h:DH t=0):Aa6 t:=by
 unfold DH at h
 split at h
 ·rename_i h1
  split at h
  ·rename_i h2;exact⟨Ou t h1,Jj h2⟩
  ·omega
 ·omega
end Go.Dw
end
section
namespace Go.Proofs
open Go.Shelf Go.RowKit
def Tryz.growI_ren:Go.Shelf.Ren:=⟨fun | 4=>207 | n=>n,fun | 22=>130 | 25=>3 | 3=>3 | 4=>4 | 9=>9 | 20=>20 | 0=>0 | n=>n,fun | n=>n⟩
theorem Tryz.growI:Go.Proofs.Lays8.n4 Tryz.prog Tryz.growI_ren:={
 mixed:=by kernel_rfl
 f4:=⟨Tryz.f207.name,by decide,Tryz.func207.trans (congrArg some (by kernel_rfl))⟩
 t0:=Tryz.underlying0
 a0:=Tryz.isAgg0
 z0:=Tryz.sizeOf0
 v0:=Tryz.zeroValue0
 t3:=Tryz.underlying3
 a3:=Tryz.isAgg3
 z3:=Tryz.sizeOf3
 v3:=Tryz.zeroValue3
 t4:=Tryz.underlying4
 a4:=Tryz.isAgg4
 z4:=Tryz.sizeOf4
 v4:=Tryz.zeroValue4
 t9:=Tryz.underlying9
 a9:=Tryz.isAgg9
 z9:=Tryz.sizeOf9
 v9:=Tryz.zeroValue9
 t20:=Tryz.underlying20
 a20:=Tryz.isAgg20
 z20:=Tryz.sizeOf20
 v20:=Tryz.zeroValue20
 t22:=Tryz.underlying130
 a22:=Tryz.isAgg130
 z22:=Tryz.sizeOf130
 v22:=Tryz.zeroValue130 }
theorem Tryz.grow_num:Tryz.growI_ren.f 4=Go.Dw.n_slices_Grow_s_int_int:=by kernel_rfl
theorem Tryz.grow_t:Tryz.growI_ren.t 25=Go.Dw.t_int:=by kernel_rfl
theorem Tryz.int_info:(Tryz.prog.info? Go.Dw.t_int).map (fun i=>(i.zero,i.size,i.bytes))=some (some (.int .i64 0),1,8):=by kernel_rfl
theorem Tryz.grow_in (args:Array Value)(w:World):(callFunc Go.Dw.n_slices_Grow_s_int_int args).run Tryz.prog w=.ok (.enter Go.Dw.n_slices_Grow_s_int_int args) w:=by
 have:=enters_of (P:=Tryz.prog) (f:=Go.Dw.n_slices_Grow_s_int_int) (by kernel_rfl:Tryz.prog.funcs[Go.Dw.n_slices_Grow_s_int_int]?=some Tryz.f207) (by kernel_rfl) rfl args w
 exact this
end Go.Proofs
namespace Go.Dw
open Go.Proofs
theorem pM (n:Nat)(hn:n<2^40):Spec prog n_slices_Grow_s_int_int [.nil,.int .i64 n] [] fun x H'=>x=.own 0 1 []/\H'=[.arr t_int 1 0]:=by
 intro c vs hH hc hr
 obtain⟨v,vs1,rfl,h1,v2,vs2,rfl,h2,h3⟩:=hr
 have h1:v=.slice none 0 0:=h1
 have h2:v2=.int .i64 n:=h2
 have h3:vs2=[]:=h3
 subst h1;subst h2;subst h3
 left
 refine⟨Tryz.grow_in _ _,?_⟩
 by_cases h0:n=0
 ·subst h0
  have:=Any8.slices_Grow_room Tryz.growI none 0 0 0 c.w (Nat.le_refl _) (by omega) (by omega) (by omega)
  rw[Tryz.grow_num]at this
  refine this.mono ?_
  rintro e w' ⟨rfl,rfl⟩
  refine⟨_,.own 0 1 [],⟨c.w,c.ok,fun _=>none,[.arr t_int 1 0]⟩,rfl,rfl,⟨rfl,rfl⟩,?_,?_,?_⟩
  ·refine⟨fun i j b k k' hi hj h1 _=>(by cases h1),hc.okLt,fun i o hi=>?_,hc.glob.keep (fun _ _ _=>rfl) fun b ⟨i,k,_,h⟩=>by cases h⟩
   cases i with
   | succ i=>simp at hi
   | zero =>
    simp only[List.getElem?_cons_zero,Option.some.injEq]at hi
    subst hi
    exact⟨fun _=>rfl,fun b k h=>by cases h⟩
  ·refine⟨⟨none,0,0,0,rfl,Nat.le_refl _,by unfold BJ;omega,by unfold Ai;simp,.inl rfl,trivial⟩,by simp,fun e sz' n hn=>?_⟩
   simp only[List.getElem?_cons_zero,Option.some.injEq,Ob.arr.injEq]at hn
   obtain⟨rfl,rfl,rfl⟩:=hn
   exact⟨rfl,Nat.le_refl _,fun _=>rfl⟩
  ·refine⟨fun _ _ h=>h,fun _ _ _=>rfl,Nat.le_refl _,fun _ _ h=>.inl h,fun _ _ _=>rfl,fun b hb=>?_,fun i o ho=>?_,rfl,rfl,rfl,Nat.le_refl _⟩
   ·obtain⟨i,k,_,h⟩:=hb;cases h
   ·rw[hH]at ho;simp at ho
 ·obtain⟨i0,hi0,hz0,hzs,hzb⟩:=info_parts Tryz.int_info
  have:=Any8.slices_Grow_grow Tryz.growI i0 (.int .i64 0) (by rw[Tryz.grow_t];exact hi0) hz0 (by omega) none 0 0 n [] c.w (by omega) (by omega) (by rw[hzb];omega) (by omega) (by simp) (fun _=>rfl) (fun _ h=>by cases h)
  rw[Tryz.grow_num,Tryz.grow_t]at this
  refine this.mono ?_
  rintro e w' ⟨rfl,rfl⟩
  have hge:0+n<=grownCap c.w (0+n) 0 t_int:=grownCap_ge c.w _ _ _
  have hle:=grownCap_le_maxLen c.w (0+n) 0 t_int (by unfold maxLen;omega)
  unfold maxLen at hle
  generalize grownCap c.w (0+n) 0 t_int=cap at hge hle ⊢
  obtain⟨k1,k2⟩:=Nw hc (w':=c.w.drew) rfl rfl rfl rfl (Nat.le_succ _)
  generalize hvs:((#[]:Array Value)++Builtin.zeroCells (Value.int .i64 0).cells (0+n-0)++Builtin.zeroCells (Value.int .i64 0).cells (cap-(0+n)))=vs
  have hsz:vs.size=cap:=by
   subst hvs
   simp only[Array.size_append,size_zeroCells,show (Value.int .i64 0).cells.size=1 from rfl]
   simp;omega
  have hk:=GC k1 (.cells vs t_int (0,0)) (.arr t_int 1 0) cap (fun _=>False) ⟨fun h=>(by cases h),fun b k h=>by
   cases h
   exact⟨vs,heap_alloc_new c.w.drew _,by omega,by omega,by unfold BJ;omega,fun o _ ho=>by
    rcases ho with ho | ⟨_,ho⟩
    ·have:=hc.okLt _ _ ho;exact absurd this (Nat.lt_irrefl _)
    ·exact ho⟩⟩
  have hf:=GR k1 (.cells vs t_int (0,0)) (.arr t_int 1 0) cap (fun _=>False)
  refine⟨_,.own 0 1 [],_,rfl,rfl,⟨rfl,?_⟩,hk,?_,k2.trans hf⟩
  ·simp only[Cx.addOwn,hH];rfl
  ·refine⟨⟨some ⟨c.w.heap.size,0,none⟩,cap,0,0,rfl,by simp,by unfold BJ;omega,by unfold Ai;simp,.inl rfl,trivial⟩,by simp[Cx.addOwn],fun e sz' n hn=>?_⟩
   simp only[Cx.addOwn,hH,List.nil_append,List.getElem?_cons_zero,Option.some.injEq,Ob.arr.injEq]at hn
   obtain⟨rfl,rfl,rfl⟩:=hn
   refine⟨rfl,Nat.le_refl _,fun _=>?_⟩
   simp only[Cx.addOwn,hH,List.length_nil,Au]
   rfl
end Go.Dw
end
namespace Go.Dw
def km (p:List Int):List V:=[D0 p]
abbrev JZ (l:List (List Int)):V:=Dp km 1 l
theorem Ac4 (p:List Int):(km p)[0]?=some (D0 p):=rfl
theorem vA (p:List Int):(km p).length=1:=rfl
attribute [push_cast] Ac4 vA
theorem Ga {l:List (List Int)}{k:Nat}(h:k<l.length):(l.take (k+1)).flatten=(l.take k).flatten++l.getD k default:=by
 rw[Aa h];simp
theorem Pa (l:List (List Int))(k:Nat):(l.take k).flatten.length<=l.flatten.length:=by
 conv=>rhs;rw[<-List.take_append_drop k l]
 rw[List.flatten_append,List.length_append];omega
theorem W4 (l:List (List Int))(hl:l.length<2^40)(hs:l.flatten.length<2^40):PF Ce [JZ l] (D0 l.flatten):=by
 refine Ad Cz.ok rfl ?_
 push_cast
 refine Ae (n:=l.length) (R:=fun k=>Cz.L7 (JZ l) (.int .i64 (l.take k).flatten.length) (JZ l) (.int .i64 l.length) (.int .i64 k) 0 [] _) ?_ ?_ 0 (by omega)
 ·intro k hk ih
  have h1:=Pa l (k+1)
  rw[Ga hk,List.length_append]at h1
  have h2:IntKind.i64.wrap (((l.take k).flatten.length:Int)+((l.getD k default).length:Int))=((l.take (k+1)).flatten.length:Int):=by
   rw[Cr (by omega) (by omega),Ga hk,List.length_append];omega
  have h3:(((l.take (k+1)).flatten.length:Int)<0)=False:=eq_false (by omega)
  refine A7.2 ?_
  push_cast[BB hk,h2,h3,Co (show k<2^62 by omega)]
  exact ih
 ·refine A7.2 ?_
  push_cast[AZ (Nat.le_refl _),List.take_length]
  refine NR (pM _ hs) ?_
  push_cast[List.map_cons,List.map_nil]
  refine Ae (n:=l.length) (R:=fun k=>Cz.L3 (B8 cI 0 1 (l.take k).flatten) (JZ l) (.int .i64 l.length) (.int .i64 k) 0 [.arr t_int 1 (l.take k).flatten.length] _) ?_ ?_ 0 (by omega)
  ·intro k hk ih
   have h1:=Pa l (k+1)
   rw[Ga hk,List.length_append]at h1
   rw[Ga hk]at ih
   refine A7.2 ?_
   push_cast[BB hk,Co (show k<2^62 by omega)]
   rw[List.length_map]
   refine⟨Nat.le_trans (Nat.mul_le_mul_right 8 (show _<=2^40 by omega)) (by unfold Ai;decide),?_⟩
   rw[List.length_append]at ih
   exact ih
  ·refine A7.2 ?_
   push_cast[AZ (Nat.le_refl _),List.take_length]
   refine A0 ?_
   push_cast[Cz.rs]
mutual
theorem S6:∀ (t:Term)(p:List Int),∀ x∈Ab t p,x.2.name.length<tb t
 | .mk n v l,p,x,hx=>by
  rw[Hq]at hx
  simp only[tb]
  rcases List.mem_cons.1 hx with rfl | hx
  ·simp only[Term.name];omega
  ·have:=V1 l p 0 x hx;simp only[tbs]at this;omega
theorem V1:∀ (l:List Term)(p:List Int)(i:Nat),∀ x∈Bb l p i,x.2.name.length<tbs l
 | [],p,i,x,hx=>by simp[Bb]at hx
 | a::l,p,i,x,hx=>by
  simp only[Bb,List.mem_append]at hx
  simp only[tbs,tb.tbs]
  rcases hx with hx | hx
  ·have:=S6 a _ x hx;omega
  ·have:=V1 l _ _ x hx;simp only[tbs]at this;omega
end
theorem Sg {M:Nat}:∀ (l:List (List Int×Term)) {m m':TF},Dy m l=some m'->(∀ x∈l,x.2.name.length<M)->(∀ p∈m,p.1.length<M)->∀ p∈m',p.1.length<M
 | [],m,m',h,_,hm=>by cases h;exact hm
 | x::l,m,m',h,hl,hm=>by
  simp only[Dy]at h
  cases hs:De m x.2 with
  | none=>rw[hs]at h;cases h
  | some m1 =>
   rw[hs,Option.bind_some]at h
   refine Sg l h (fun y hy=>hl y (by simp[hy])) ?_
   unfold De at hs
   split at hs
   ·cases hs;exact hm
   ·split at hs
    ·split at hs
     ·cases hs;exact hm
     ·cases hs
    ·cases hs
     intro p hp
     rcases List.mem_append.1 hp with hp | hp
     ·exact hm p hp
     ·simp only[List.mem_singleton]at hp;subst hp;exact hl x (by simp)
theorem T3 {M:Nat}:∀ (r:List A3) {m m':TF},CQ m r=some m'->Mg r<=M->(∀ p∈m,p.1.length<M)->∀ p∈m',p.1.length<M
 | [],m,m',h,_,hm=>by cases h;exact hm
 | x::r,m,m',h,hM,hm=>by
  simp only[CQ]at h
  simp only[Mg]at hM
  cases ha:Dy m (Ab x.left [])with
  | none=>rw[ha]at h;cases h
  | some m1 =>
   rw[ha,Option.bind_some]at h
   cases hb:Dy m1 (Ab x.right [])with
   | none=>rw[hb]at h;cases h
   | some m2 =>
    rw[hb,Option.bind_some]at h
    exact T3 r h (by omega) (Sg _ hb (fun y hy=>by have:=S6 _ _ y hy;omega) (Sg _ ha (fun y hy=>by have:=S6 _ _ y hy;omega) hm))
theorem Lt (r:List A3)(hs:Mg r<2^38):PF E3 [As r] (.int .i64 (Ao r)) :=
 Sn r hs fun m hm p hp=>by have:=T3 r hm (Nat.le_refl _) (by simp) p hp;omega
theorem Ng:∀ {r:List A3},DC r=0->∀ x∈r,DH x.left=0/\DH x.right=0
 | [],_,x,hx=>by cases hx
 | y::r,h,x,hx=>by
  simp only[DC]at h
  split at h
  ·omega
  ·rename_i h1
   rcases List.mem_cons.1 hx with rfl | hx
   ·simp only[Jc,ne_eq,Classical.not_not]at h1
    split at h1
    ·omega
    ·rename_i h2
     split at h1
     ·omega
     ·rename_i h3
      exact⟨by simpa using h2,by simpa using h3⟩
   ·exact Ng h x hx
theorem EZ {r:List A3}(h:Ao r=0):∀ x∈r,Aa6 x.left/\Aa6 x.right:=by
 have h1:Bu r=0:=by
  unfold Ao at h
  split at h
  ·rename_i h1;exact absurd h h1
  ·rename_i h1;simpa using h1
 unfold Bu at h1
 split at h1
 ·omega
 ·intro x hx
  have:=Ng h1 x hx
  exact⟨WA this.1,WA this.2⟩
theorem mg (a b:List Int)(h:a.length+b.length<2^40):PF Ce [.sl 1 [[D0 a],[D0 b]]] (D0 (a++b)):=by
 have:=W4 [a,b] (by simp) (by simpa using h)
 simp only[List.flatten_cons,List.flatten_nil,List.append_nil]at this
 exact this
theorem rM {i:Nat}{l:List BZ}{k:Int}{p:List Int}:(.own i 2 (l.map Pi++[[V.int .i64 k,Dp cI 1 p]]):V)=B8 Pi i 2 (l++[⟨k,p⟩]):=by simp[B8,Pi]
end Go.Dw
section
namespace Go.Dw
open Go.Proofs.YtkdcfkfdkimaeaaGreatDoor
abbrev okW (W:World):Nat->Nat->Prop:=fun b _=>b<W.heap.size
def MK (W:World)(xs:List V)(cs:List Value):Prop:=ME W (okW W) xs cs/\∀ u∈cs,Cw u=true
theorem aQ {w:World}{ok:Nat->Nat->Prop}:∀ {xs ys:List V} {cs ds:List Value},ME w ok xs cs->ME w ok ys ds->ME w ok (xs++ys) (cs++ds)
 | [],ys,cs,ds,h1,h2=>by
  have h1:cs=[]:=h1
  subst h1;exact h2
 | x::xs,ys,cs,ds,⟨v,vs,e,h1,h2⟩,h3=>by
  subst e
  exact⟨v,vs++ds,rfl,h1,aQ h2 h3⟩
theorem Zz {w:World}{ok:Nat->Nat->Prop}:∀ {xs:List V} {cs:List Value} {i:Nat} {x:V},ME w ok xs cs->xs[i]?=some x->∃ v,cs[i]?=some v/\Gv w ok x v
 | [],_,i,x,_,h=>by simp at h
 | y::xs,cs,i,x,⟨v,vs,e,h1,h2⟩,h=>by
  subst e
  cases i with
  | zero=>simp only[List.getElem?_cons_zero,Option.some.injEq]at h;subst h;exact⟨v,rfl,h1⟩
  | succ i=>simp only[List.getElem?_cons_succ]at h ⊢;exact Zz h2 h
theorem MK.app {W:World}{xs ys:List V}{cs ds:List Value}(h1:MK W xs cs)(h2:MK W ys ds):MK W (xs++ys) (cs++ds) :=
 ⟨aQ h1.1 h2.1,fun u hu=>(List.mem_append.1 hu).elim (h1.2 u) (h2.2 u)⟩
theorem MK.one {W:World}{x:V}{c:Value}(h:Gv W (okW W) x c)(ho:Cw c=true):MK W [x] [c]:=⟨⟨c,[],rfl,h,rfl⟩,fun u hu=>by simp only[List.mem_singleton]at hu;subst hu;exact ho⟩
section
variable {H:Type} {enc:TypeId × Value->H} {W:World}
noncomputable abbrev trd (enc:TypeId×Value->H)(W:World):=DataW.trod enc prog W 0 (fun _=>true) true
def Br {α:Type}(enc:TypeId×Value->H)(W:World)(n:Nat)(t:TypeId)(c:α->List V)(b:α->Nat):Prop:=∀ cs x,trd enc W n t cs=some x->Rows.uptoBulk x.1<=1048576->∃ a,b a<=Rows.uptoBulk x.1/\MK W (c a) cs
theorem AbW {n:Nat}:Br enc W n C5 (fun s:A9=>[.str s]) (fun s=>s.length+1):=by
 intro cs x h _
 obtain⟨s,rfl,rfl,_⟩:=DataW.trod_string (P:=prog) Go.Proofs.Tryz.underlying9 h
 refine⟨s.data.toList,by simp[Rows.uptoBulk],MK.one ?_ rfl⟩
 show Value.string s=.string ⟨⟨s.data.toList⟩⟩
 cases s with | mk d=>cases d;rfl
theorem vu {n:Nat}:Br enc W n jK (fun s:Bool=>[.bool s]) (fun _=>1):=by
 intro cs x h _
 obtain⟨s,rfl,rfl⟩:=DataW.trod_bool (P:=prog) Go.Proofs.Tryz.underlying4 h
 exact⟨s,by simp[Rows.uptoBulk],MK.one rfl rfl⟩
theorem nz {w:World}{a:Addr}{v:Value}(h:w.cell? a=some v):a.spot=none/\a.block<w.heap.size:=by
 unfold World.cell? at h
 split at h
 ·rename_i hb
  split at h
  ·cases h
  ·rename_i hs
   exact⟨by cases hq:a.spot<;>simp_all,(Array.getElem?_eq_some_iff.1 hb).1⟩
 ·cases h
theorem dP {a:Addr}(h:a.spot=none)(n:Nat):a.add n=⟨a.block,a.off+n,none⟩:=by
 unfold Addr.add
 split
 ·rename_i h0;subst h0;cases a;simp_all
 ·rfl
def Y2 {α:Type}(b:α->Nat):List α->Nat
 | []=>0
 | x::l=>b x+Y2 b l
theorem zY (d:DataW H):1<=Rows.uptoBulk d:=by
 cases d with
 | lit l=>cases l<;>simp[Rows.uptoBulk]
 | _=>simp[Rows.uptoBulk]
theorem rc (l:List (DataW H)):l.length<=Rows.uptoBulkAll l:=by
 induction l with
 | nil=>simp[Rows.uptoBulkAll]
 | cons x r ih=>have:=zY x;simp only[Rows.uptoBulkAll,List.length_cons];omega
theorem oW {d:DataW H}{l:List (DataW H)}(h:d∈l):Rows.uptoBulk d<=Rows.uptoBulkAll l:=by
 induction l with
 | nil=>cases h
 | cons x r ih =>
  simp only[Rows.uptoBulkAll]
  rcases List.mem_cons.1 h with e | e
  ·subst e;omega
  ·have:=ih e;omega
theorem kT {α:Type}{b:α->Nat}:∀ {l:List α} {es:List (DataW H×List MemPlace)},l.length=es.length->(∀ (i:Nat)(a:α)(e:DataW H×List MemPlace),l[i]?=some a->es[i]?=some e->b a<=Rows.uptoBulk e.1)->Y2 b l<=Rows.uptoBulkAll (es.map (·.1))
 | [],[],_,_=>by simp[Y2]
 | [],_::_,h,_=>by simp at h
 | _::_,[],h,_=>by simp at h
 | a::l,e::es,h,hb=>by
  have h1:=hb 0 a e rfl rfl
  have h2:=kT (l:=l) (es:=es) (by simpa using h) fun i a' e' h1 h2=>hb (i+1) a' e' (by simpa using h1) (by simpa using h2)
  simp only[Y2,List.map_cons,Rows.uptoBulkAll];omega
theorem gU {α:Type}{n:Nat}{ts t:TypeId}{sz:Nat}{c:α->List V}{b:α->Nat}(hts:prog.underlying ts=some (.slice t))(hsz:prog.cellsOf t=sz)(hpos:0<sz)(hc:∀ a,(c a).length=sz)
  (h:∀ m,m+1=n->Br enc W m t c b):Br enc W n ts (fun l:List α=>[Dp c sz l]) (fun l=>Y2 b l+1):=by
 intro cs x hx hbk
 rcases DataW.trod_slice (P:=prog) hts hx with ⟨rfl,rfl⟩|⟨a,len,cap,Ef,rest,m,rfl,rfl,rfl,_,hle,hcap,hlen,hel,_,_⟩
 ·exact⟨[],by simp[Y2,Rows.uptoBulk],MK.one ⟨none,0,0,0,rfl,Nat.le_refl _,by unfold BJ;omega,by unfold Ai;simp,.inl rfl,trivial⟩ rfl⟩
 ·have hbr:=h m rfl
  have hba:Rows.uptoBulkAll (Ef.map (·.1))<=1048576:=by simp only[Rows.uptoBulk]at hbk;omega
  have hln:=rc (Ef.map (·.1))
  rw[List.length_map]at hln
  rw[hsz]at hel
  have step:∀ i,i<len->∃ y:α,(∀ e,Ef[i]?=some e->b y<=Rows.uptoBulk e.1)/\∃ ecs,W.cells? 0 (a.add (i*sz)) sz=some ecs/\MK W (c y) ecs:=by
   intro i hi
   have h1:=hel i hi
   have hil:i<Ef.length:=by omega
   rw[List.getElem?_eq_getElem hil]at h1
   simp only[Option.bind_eq_some_iff]at h1
   obtain⟨ecs,h2,h3⟩:=h1
   obtain⟨y,hy1,hy2⟩:=hbr ecs _ h3 (Nat.le_trans (oW (List.mem_map.2 ⟨_,List.getElem_mem hil,rfl⟩)) hba)
   refine⟨y,fun e he=>?_,ecs,h2,hy2⟩
   rw[List.getElem?_eq_getElem hil]at he
   cases he;exact hy1
  obtain⟨f,hf⟩:∃ f:Nat->Option α,∀ i,i<len->∃ y,f i=some y/\(∀ e,Ef[i]?=some e->b y<=Rows.uptoBulk e.1)/\∃ ecs,W.cells? 0 (a.add (i*sz)) sz=some ecs/\MK W (c y) ecs:=by
   refine⟨fun i=>if h:i<len then some (Classical.choose (step i h)) else none,fun i hi=>?_⟩
   exact⟨Classical.choose (step i hi),by simp[hi],Classical.choose_spec (step i hi)⟩
  have hl:∀ k,k<=len->∃ l:List α,l.length=k/\∀ i,i<k->f i=l[i]?:=by
   intro k
   induction k with
   | zero=>intro _;exact⟨[],rfl,fun i hi=>by omega⟩
   | succ k ih =>
    intro hk
    obtain⟨l,h1,h2⟩:=ih (by omega)
    obtain⟨y,hy,_⟩:=hf k (by omega)
    refine⟨l++[y],by simp[h1],fun i hi=>?_⟩
    rcases Nat.lt_succ_iff_lt_or_eq.1 hi with h3 | rfl
    ·rw[List.getElem?_append_left (by omega)];exact h2 i h3
    ·rw[List.getElem?_append_right (by omega),h1];simpa using hy
  obtain⟨l,hl1,hl2⟩:=hl len (Nat.le_refl _)
  have hat:∀ i y,l[i]?=some y->(∀ e,Ef[i]?=some e->b y<=Rows.uptoBulk e.1)/\∃ ecs,W.cells? 0 (a.add (i*sz)) sz=some ecs/\MK W (c y) ecs:=by
   intro i y hy
   have hi:i<len:=by rw[<-hl1];exact (List.getElem?_eq_some_iff.1 hy).1
   obtain⟨z,h1,h2⟩:=hf i hi
   rw[hl2 i hi,hy]at h1
   cases h1;exact h2
  refine⟨l,?_,MK.one ?_ rfl⟩
  ·have:=kT (b:=b) (l:=l) (es:=Ef) (by omega) fun i y e h1 h2=>(hat i y h1).1 e h2
   simp only[Rows.uptoBulk];omega
  ·have hspot:l≠[]->a.spot=none/\a.block<W.heap.size:=by
    intro hne
    obtain⟨y,hy⟩:∃ y,l[0]?=some y:=by cases l with | nil=>exact absurd rfl hne | cons y l=>exact⟨y,rfl⟩
    obtain⟨_,ecs,h1,h2⟩:=hat 0 y hy
    obtain⟨_,g1,g2⟩:=World.cells?_some h1
    have h3:=g2 0 hpos
    have hel:ecs.length=sz:=g1
    obtain⟨e0,he0⟩:∃ e0,ecs[0]?=some e0:=⟨ecs[0]'(by omega),List.getElem?_eq_getElem (by omega)⟩
    rw[he0]at h3
    simpa[Addr.add]using nz h3
   refine⟨some a,cap,a.block,a.off,by simp[hl1],by simpa[hl1]using hle,by unfold BJ;unfold maxLen at hcap;omega,?_,?_,Ih fun i e he=>?_⟩
   ·rw[List.length_map];unfold Ai;omega
   ·by_cases hne:l=[]
    ·left;simp[hne]
    ·right
     have:=(hspot hne).1
     cases a;simp_all
   ·rw[List.getElem?_map]at he
    cases hy:l[i]? with
    | none=>rw[hy]at he;cases he
    | some y =>
     rw[hy]at he
     simp only[Option.map_some,Option.some.injEq]at he
     subst he
     obtain⟨_,ecs,h1,h2⟩:=hat i y hy
     obtain⟨_,g1,g2⟩:=World.cells?_some h1
     obtain⟨hsp,hbl⟩:=hspot (by intro e;rw[e]at hy;simp at hy)
     refine⟨hc y,IK fun j x hx=>?_⟩
     obtain⟨v,k1,k2⟩:=Zz h2.1 hx
     have hj:j<sz:=by rw[<-hc y];exact (List.getElem?_eq_some_iff.1 hx).1
     have h3:=g2 j hj
     rw[k1,dP hsp,dP rfl]at h3
     refine⟨v,?_,hbl,h2.2 v (List.mem_of_getElem? k1),k2⟩
     rw[Nat.zero_add,<-Nat.add_assoc]
     exact h3
theorem Aa7 {α:Type}{cs:List α}{a b:Nat}(h:cs.length=a+b):cs=(cs.drop 0).take a++(cs.drop a).take b:=by
 rw[List.drop_zero,List.take_of_length_le (l:=cs.drop a) (by simp;omega),List.take_append_drop]
theorem Acs {α:Type}{cs:List α}{a b c:Nat}(h:cs.length=a+b+c):cs=(cs.drop 0).take a++((cs.drop a).take b++(cs.drop (a+b)).take c):=by
 have h1:cs.drop a=(cs.drop a).take b++(cs.drop (a+b)).take c:=by
  rw[List.take_of_length_le (l:=cs.drop (a+b)) (by simp;omega),<-List.drop_drop,List.take_append_drop]
 rw[<-h1,List.drop_zero,List.take_append_drop]
theorem uv (l:List Term):Y2 tb l=tbs l:=by
 induction l with
 | nil=>rfl
 | cons a l ih=>simp only[Y2,tbs,tb.tbs,ih]
theorem kI:∀ l:List A3,Y2 (fun x:A3=>1+tb x.left+tb x.right) l=Mg l
 | []=>rfl
 | a::l=>by simp only[Y2,Mg,kI l]
theorem c9:prog.cellsOf 9=1:=by kernel_rfl
theorem c4:prog.cellsOf 4=1:=by kernel_rfl
theorem c3:prog.cellsOf 3=1:=by kernel_rfl
theorem c33:prog.cellsOf 33=1:=by kernel_rfl
theorem c35:prog.cellsOf 35=1+1+1:=by kernel_rfl
theorem AdH:prog.cellsOf 107=3+3:=by kernel_rfl
theorem Wt:∀ n,Br enc W n 35 cT tb
 | 0=>by intro cs x h;simp[DataW.trod]at h
 | n+1=>by
  intro cs x h hbk
  obtain⟨xs,m,hm,rfl,hl,hlen,hf⟩:=DataW.trod_struct (P:=prog) Go.Proofs.Tryz.underlying35 h
  obtain rfl:n=m:=by omega
  rw[c35]at hl
  match xs,hlen with
  | [x0,x1,x2],_ =>
  have f0:trd enc W n 9 ((cs.drop 0).take (prog.cellsOf 9))=some x0:=hf 0 _ rfl
  have f1:trd enc W n 4 ((cs.drop 1).take (prog.cellsOf 4))=some x1:=hf 1 _ rfl
  have f2:trd enc W n 33 ((cs.drop 2).take (prog.cellsOf 33))=some x2:=hf 2 _ rfl
  rw[c9]at f0;rw[c4]at f1;rw[c33]at f2
  simp only[List.map_cons,List.map_nil,Rows.uptoBulk,Rows.uptoBulkAll]at hbk ⊢
  obtain⟨s,b0,d0⟩:=AbW _ _ f0 (by omega)
  obtain⟨v,b1,d1⟩:=vu _ _ f1 (by omega)
  obtain⟨l,b2,d2⟩:=gU (n:=n) (sz:=3) (c:=cT) (b:=tb) Go.Proofs.Tryz.underlying33 c35 (by omega) (fun _=>rfl) (fun m hm=>Wt m) _ _ f2 (by omega)
  try dsimp only at b0
  try dsimp only at b1
  try dsimp only at b2
  refine⟨.mk s v l,?_,?_⟩
  ·rw[uv]at b2
   simp only[tb]
   simp only[tbs]at b2
   omega
  ·rw[Acs hl,Qm]
   exact d0.app (d1.app d2)
theorem xu:∀ n,Br enc W n 107 cR (fun x=>1+tb x.left+tb x.right)
 | 0=>by intro cs x h;simp[DataW.trod]at h
 | n+1=>by
  intro cs x h hbk
  obtain⟨xs,m,hm,rfl,hl,hlen,hf⟩:=DataW.trod_struct (P:=prog) Go.Proofs.Tryz.underlying107 h
  obtain rfl:n=m:=by omega
  rw[AdH]at hl
  match xs,hlen with
  | [x0,x1],_ =>
  have f0:trd enc W n 35 ((cs.drop 0).take (prog.cellsOf 35))=some x0:=hf 0 _ rfl
  have f1:trd enc W n 35 ((cs.drop 3).take (prog.cellsOf 35))=some x1:=hf 1 _ rfl
  rw[c35]at f0 f1
  simp only[List.map_cons,List.map_nil,Rows.uptoBulk,Rows.uptoBulkAll]at hbk ⊢
  obtain⟨s,b0,d0⟩:=Wt n _ _ f0 (by omega)
  obtain⟨v,b1,d1⟩:=Wt n _ _ f1 (by omega)
  try dsimp only at b0
  try dsimp only at b1
  refine⟨⟨s,v⟩,by dsimp only;omega,?_⟩
  rw[Aa7 hl]
  exact d0.app d1
theorem qr {n:Nat}:Br enc W n 22 (fun r:List A3=>[As r]) (fun r=>Mg r):=by
 intro cs x h hbk
 obtain⟨l,b0,d0⟩:=gU (n:=n) (sz:=6) (c:=cR) (b:=fun x=>1+tb x.left+tb x.right) Go.Proofs.Tryz.underlying22 AdH (by omega) (fun _=>rfl) (fun m hm=>xu m) _ _ h hbk
 refine⟨l,?_,d0⟩
 have:Y2 (fun x:A3=>1+tb x.left+tb x.right) l=Mg l:=kI l
 dsimp only at b0 ⊢
 omega
end
end Go.Dw
end
section
namespace Go.Dw
open Go.ChangeShapes Go.WideShapes Go.ChangeAt Go.RowKit Go.Proofs
theorem pi {H:Type}{enc:TypeId×Value->H}{P:Program}{f:Func}{s:ChangeSpec}{apart fresh handsOn again:Bool}{W W':World}{args:Array Value}{v:Value}{ds gs:List (DataW H)}{before pa pv:List MemPlace}
  (hW:DataW.Whole enc P f.params.toList s.vars apart W args.toList ds gs before)
  (hres:∀ (b:Nat)(sp:Nat->Bool)(hd:Bool),DataW.TrodAll enc P W' b sp hd f.resultTypes.toList (v.resultList f.resultTypes.size) (s.fn H (ds++gs)).results [])
  (hargs:∀ sp:Nat->Bool,(∀ p∈before,sp p.block=true)->DataW.TrodAll enc P W' 0 sp true f.params.toList args.toList (s.fn H (ds++gs)).args pa)
  (hvars:∀ sp:Nat->Bool,(∀ p∈before,sp p.block=true)->DataW.TrodVars enc P W' sp s.vars (s.fn H (ds++gs)).vars pv)
  (hps:before=pa++pv) (hk:W.keptBut W' (·∈before)) (hfz:∀ a:Addr,a.block<W.heap.size->W'.frozen? a=W.frozen? a)
  (hok:∀ (j:Nat)(t:TypeId)(r:Value),f.resultTypes[j]?=some t->(v.resultList f.resultTypes.size)[j]?=some r->Value.okWide P W' .any 0 t r) :
  s.post enc P f apart fresh handsOn again W args v W':=by
 have hold:∀ p∈before,(fun b=>decide (b<W.heap.size)) p.block=true:=fun p hp=>by simpa using hW.lt p hp
 have hlt:=hW.lt
 refine⟨ds,gs,before,[],pa,pv,hW,hres _ _ _,hargs _ hold,hvars _ hold,World.keptBut_mono (fun p hp=>⟨hp,?_⟩) hk,fun _=>?_⟩
 ·rw[hps,List.mem_append]at hp
  exact Or.inr hp
 ·obtain⟨_,_,_,_,_,hz,hn⟩:=hW
  refine⟨hok,_,_,([]++pa)++pv,⟨[]++pa,pv,trodAll_append (hargs _ (fun _ _=>rfl)) (hres _ _ _),hvars _ (fun _ _=>rfl),rfl,?_,?_⟩,?_⟩
  ·intro b off hp
   have hp':MemPlace.cell b off∈before:=by rw[hps];simpa using hp
   rw[hfz _ (hlt _ hp')]
   exact hz b off hp'
  ·intro ha
   have:=hn ha
   rw[hps]at this
   simpa using this
  ·intro p hp _
   rw[hps]
   simpa using hp
theorem Vz {H:Type}{enc:TypeId×Value->H}{P:Program}{W W':World}(hh:∀ b,b<W.heap.size->W'.heap[b]?=W.heap[b]?){base:Nat}{sp:Nat->Bool}{held:Bool} :
  ∀ {ts:List TypeId} {vs:List Value} {ds:List (DataW H)} {ps:List MemPlace},DataW.TrodAll enc P W base sp held ts vs ds ps->DataW.TrodAll enc P W' base sp held ts vs ds ps
 | [],[],[],_,h=>h
 | [],[],_::_,_,h=>h.elim
 | [],_::_,_,_,h=>h.elim
 | _::_,[],_,_,h=>h.elim
 | _::_,_::_,[],_,h=>h.elim
 | t::ts,v::vs,d::ds,ps,⟨p,q,⟨n,h1⟩,h2,e⟩=>by
  refine⟨p,q,⟨n,DataW.trod_carry n _ _ _ h1 fun x hx=>?_⟩,Vz hh h2,e⟩
  have hl:=DataW.trod_lt n _ _ _ h1 x hx
  cases x with
  | cell b o=>exact World.cell?_of_block (w:=W) (hh b hl)
  | map b=>exact hh b hl
end Go.Dw
end
namespace Go.Dw
inductive A1 where
 | mk (rule:Int) (name:A9) (var:Bool) (args:List A1)
deriving Inhabited
namespace A1
def rule:A1->Int | mk r _ _ _=>r
def name:A1->A9 | mk _ n _ _=>n
def var:A1->Bool | mk _ _ v _=>v
def args:A1->List A1 | mk _ _ _ a=>a
theorem eta (t:A1):mk t.rule t.name t.var t.args=t:=by cases t;rfl
end A1
mutual
def lj:A1->List (List V)
 | .mk _ _ _ ts=>Xb ts
def Xb:List A1->List (List V)
 | []=>[]
 | a::ts=>[.int .i64 a.rule,.str a.name,.bool a.var,.sl 4 (lj a)]::Xb ts
end
def cM (t:A1):List V:=[.int .i64 t.rule,.str t.name,.bool t.var,.sl 4 (lj t)]
theorem nQ (ts:List A1):Xb ts=ts.map cM:=by
 induction ts with
 | nil=>simp[Xb]
 | cons a ts ih=>simp[Xb,ih,cM]
theorem uM (t:A1):lj t=t.args.map cM:=by cases t;simp[lj,nQ,A1.args]
abbrev Fk (l:List A1):V:=Dp cM 4 l
theorem gp (t:A1):cM t=[.int .i64 t.rule,.str t.name,.bool t.var,Fk t.args]:=by rw[cM,uM];rfl
def Be (t:A1):V:=.agg (cM t)
theorem sL (t:A1):Kz (Be t)=some (cM t):=rfl
theorem AaF (t:A1):(cM t).length=4:=rfl
theorem AeM (t:A1):(cM t)[0]?=some (.int .i64 t.rule):=rfl
theorem AeQ (t:A1):(cM t)[1]?=some (.str t.name):=rfl
theorem Aew (t:A1):(cM t)[2]?=some (.bool t.var):=rfl
theorem AeH (t:A1):(cM t)[3]?=some (Fk t.args):=by rw[gp];rfl
theorem Abj (t:A1):sub 0 4 (cM t)=cM t:=rfl
theorem oy (t:A1):V.agg (cM t)=Be t:=rfl
theorem lh {σ:Nat->Option Nat}(t:A1):AN σ (cM t)=cM t:=rfl
theorem PY {σ:Nat->Option Nat}(t:A1):ren σ (Be t)=Be t:=by unfold Be;rw[GL,lh]
theorem ZC (r:Int)(n:A9)(v:Bool)(l:List A1):[V.int .i64 r,V.str n,.bool v,Fk l]=cM (.mk r n v l):=by rw[gp];rfl
theorem Zo (t:A1)(k:Nat):mM k none (Be t)=(cM t)[k]?:=rfl
theorem kS (x:List V)(a b c d:V)(h:x.length=4):put 0 x [a,b,c,d]=x:=by
 simp only[put,h];simp
theorem Ace (t:A1)(a b c d:V):put 0 (cM t) [a,b,c,d]=cM t:=kS _ _ _ _ _ rfl
theorem vC (t u:A1):put 0 (cM t) (cM u)=cM t:=kS _ _ _ _ _ rfl
attribute [push_cast] sL AaF AeM AeQ Aew AeH Abj oy PY lh Zo Ace vC
mutual
def AV:A1->Nat
 | .mk _ _ _ l=>1+Bm l
def Bm:List A1->Nat
 | []=>0
 | a::l=>AV a+Bm l
end
mutual
def E2:A1->Nat
 | .mk _ _ _ l=>CF l+1
def CF:List A1->Nat
 | []=>0
 | a::l=>max (E2 a) (CF l)
end
mutual
def mb:A1->Nat
 | .mk _ n _ l=>1+n.length+uE l
def uE:List A1->Nat
 | []=>0
 | a::l=>mb a+uE l
end
theorem MO (a b:List A1):Bm (a++b)=Bm a+Bm b:=by
 induction a with
 | nil=>simp[Bm]
 | cons x xs ih=>simp[Bm,ih];omega
theorem Bj (t:A1):AV t=1+Bm t.args:=by cases t;simp[AV,A1.args]
theorem Vi (t:A1):E2 t=CF t.args+1:=by cases t;simp[E2,A1.args]
theorem Wj (t:A1):mb t=1+t.name.length+uE t.args:=by cases t;simp[mb,A1.args,A1.name]
theorem UH (l:List A1)(k:Nat)(h:k<l.length):Bm (l.take (k+1))=Bm (l.take k)+AV (l.getD k default):=by
 rw[Aa h,MO];simp[Bm]
theorem Xy (l:List A1)(k:Nat):Bm (l.take k)<=Bm l:=by
 conv=>rhs;rw[<-List.take_append_drop k l]
 rw[MO];omega
theorem DU {l:List A1}{a:A1}(h:a∈l):AV a<=Bm l:=by
 induction l with
 | nil=>cases h
 | cons x xs ih=>rcases List.mem_cons.1 h with rfl | h<;>simp[Bm];have:=ih h;omega
theorem Acr {l:List A1}{a:A1}(h:a∈l):mb a<=uE l:=by
 induction l with
 | nil=>cases h
 | cons x xs ih=>rcases List.mem_cons.1 h with rfl | h<;>simp[uE];have:=ih h;omega
theorem Ca (l:List A1):l.length<=Bm l:=by
 induction l with
 | nil=>simp
 | cons x xs ih=>simp only[Bm,List.length_cons];have:=Bj x;omega
theorem Qh (a b:List A1):CF (a++b)=max (CF a) (CF b):=by
 induction a with
 | nil=>simp[CF]
 | cons x xs ih=>simp[CF,ih,Nat.max_assoc]
theorem Ek {p:A1->Prop}(h:∀ t,(∀ a∈t.args,p a)->p t)(t:A1):p t:=by
 have:∀ n t,AV t<=n->p t:=by
  intro n
  induction n with
  | zero=>intro t ht;have:=Bj t;omega
  | succ n ih =>
   intro t ht
   refine h t fun a ha=>ih a ?_
   have:=Bj t
   have:=DU ha
   omega
 exact this (AV t) t (Nat.le_refl _)
theorem VX (t:A1):E2 t<=AV t:=by
 induction t using Ek with
 | h t ih =>
  rw[Vi,Bj]
  have:∀ l:List A1,(∀ a∈l,E2 a<=AV a)->CF l<=Bm l:=by
   intro l
   induction l with
   | nil=>intro _;simp[CF]
   | cons x l ihl =>
    intro hl
    have h1:=hl x (by simp)
    have h2:=ihl fun a ha=>hl a (by simp[ha])
    simp only[CF,Bm];omega
  have:=this t.args ih
  omega
theorem My (t:A1):AV t<=mb t:=by
 induction t using Ek with
 | h t ih =>
  rw[Wj,Bj]
  have:∀ l:List A1,(∀ a∈l,AV a<=mb a)->Bm l<=uE l:=by
   intro l
   induction l with
   | nil=>intro _;simp[uE,Bm]
   | cons x l ihl =>
    intro hl
    have h1:=hl x (by simp)
    have h2:=ihl fun a ha=>hl a (by simp[ha])
    simp only[uE,Bm];omega
  have:=this t.args ih
  omega
theorem SL (l:List A1)(k:Nat)(h:k<l.length):CF (l.take (k+1))=max (CF (l.take k)) (E2 (l.getD k default)):=by
 rw[Aa h,Qh];simp[CF]
theorem T0 (l:List A1):CF l<=Bm l:=by
 induction l with
 | nil=>simp[CF]
 | cons x l ih=>have:=VX x;simp only[CF,Bm];omega
mutual
def meq:A1->A1->Bool
 | .mk r n v l,.mk r' n' v' l'=>r==r'&&n==n'&&v==v'&&iO l l'
def iO:List A1->List A1->Bool
 | [],[]=>true
 | a::l,b::m=>meq a b&&iO l m
 | _,_=>false
end
mutual
theorem bX:∀ a b:A1,meq a b=true↔a=b
 | .mk r n v l,.mk r' n' v' l'=>by simp[meq,gD l l',and_assoc]
theorem gD:∀ a b:List A1,iO a b=true↔a=b
 | [],[]=>by simp[iO]
 | a::l,b::m=>by simp[iO,bX a b,gD l m]
 | [],_::_=>by simp[iO]
 | _::_,[]=>by simp[iO]
end
instance:DecidableEq A1:=fun a b=>if h:meq a b=true then .isTrue ((bX a b).1 h) else .isFalse fun e=>h ((bX a b).2 e)
theorem bU (a b:A1):a=b↔a.rule=b.rule/\a.name=b.name/\a.var=b.var/\a.args=b.args:=by cases a;cases b;simp[A1.rule,A1.name,A1.var,A1.args]
theorem lm {f:A1->A1->Bool}:∀ {l m:List A1},(∀ a∈l,∀ b,f a b=decide (a=b))->cj f l m=decide (l=m)
 | [],[],_=>rfl
 | a::l,b::m,h=>by
  simp only[cj,h a (by simp) b,lm (l:=l) (m:=m) fun x hx=>h x (by simp[hx])]
  simp
 | [],_::_,_=>rfl
 | _::_,[],_=>rfl
theorem Zk (s:A9)(h1:s.length<2^62):PF JJ [.str s] (.bool (s.all EJ)):=by
 refine Ad Kb.ok rfl ?_
 push_cast
 refine Ae (n:=s.length) (R:=fun k=>(s.drop k).all EJ=s.all EJ->Kb.L3 (.str s) (.int .i64 s.length) (.int .i64 k) 0 [] _) ?_ ?_ 0 (by omega) rfl
 ·intro k hk ih hq
  rw[Ag hk]at hq
  simp only[List.all_cons]at hq
  refine A7.2 ?_
  have hb:vd s k=((s.getD k default).toNat:Int):=rfl
  push_cast[BB hk,hb]
  refine .of (bW _) ?_
  push_cast[Co (show k<2^62 by omega)]
  refine⟨fun h=>A0 ?_,fun h=>ih ?_⟩
  ·push_cast[Kb.rs]
   rw[<-hq];simp_all
  ·rw[<-hq];simp_all
 ·intro hq
  refine A7.2 ?_
  push_cast[AZ (Nat.le_refl _)]
  refine A0 ?_
  push_cast[Kb.rs]
  rw[<-hq,Ar];rfl
theorem dQ {s:A9}(h:s≠[]):Ic s [35]=decide (vd s (s.length-1)=35):=by
 have hl:0<s.length:=List.length_pos_iff.2 h
 have e:s.drop (s.length-1)=[s.getD (s.length-1) default]:=by
  rw[Ag (show s.length-1<s.length by omega),show s.length-1+1=s.length by omega,Ar]
 have e2:vd s (s.length-1)=((s.getD (s.length-1) default).toNat:Int):=rfl
 unfold Ic
 rw[e2]
 simp only[List.length_singleton]
 rw[decide_eq_true (show 1<=s.length by omega),Bool.true_and,decide_eq_decide,e]
 generalize s.getD (s.length-1) default=c
 constructor
 ·intro h;simp only[List.cons.injEq,and_true]at h;rw[h];rfl
 ·intro h;simp only[List.cons.injEq,and_true];exact UInt8.toNat_inj.1 (show c.toNat=35 by omega)
theorem SV (s:A9)(h1:s.length<2^62):PF KD [.str s] (.bool (Ic s [35])):=by
 refine Ad OK.ok rfl ?_
 by_cases h:s=[]
 ·subst h
  push_cast
  refine A0 ?_
  push_cast[OK.rs]
  rfl
 ·have hl:0<s.length:=List.length_pos_iff.2 h
  have hlt:(((s.length-1:Nat):Int)<(s.length:Int))=True:=eq_true (by omega)
  push_cast[h,AbI h1 hl,hlt]
  refine A0 ?_
  push_cast[OK.rs,dQ h]
theorem co (s:A9)(m:Bool)(h1:s.length<2^62):PF Iu [.str s,.bool m] (.bool (CJ s m)):=by
 refine Ad Fw.ok rfl ?_
 push_cast
 refine⟨fun h=>A0 ?_,fun h=>?_⟩
 ·push_cast[Fw.rs,CJ]
  rw[show decide (s.length<=24)=false from decide_eq_false (by omega)];rfl
 ·have hlen:s.length<=24:=by omega
  have hu:CJ s m=(!decide (EM s m=[])&&(EM s m).all EJ):=by simp[CJ,hlen]
  rw[hu]
  have hnl:=Yp s m
  have hL:=Zk (EM s m) (by omega)
  have fin2:∀ u:A9,u=EM s m->PF JJ [.str u] (.bool ((EM s m).all EJ)):=fun u hu=>hu▸hL
  cases m with
  | false =>
   have hn:s=EM s false:=rfl
   push_cast
   rw[<-hn]
   by_cases h0:s=[]
   ·push_cast[h0]
    exact A0 (by push_cast[Fw.rs])
   ·push_cast[h0]
    refine .of (fin2 s hn) ?_
    push_cast
    exact A0 (by push_cast[Fw.rs];rw[<-hn])
  | true =>
   push_cast
   refine .of (SV s h1) ?_
   cases hm:Ic s [35]with
   | false =>
    have hn:s=EM s true:=by simp[EM,Jy,hm]
    push_cast
    rw[<-hn]
    by_cases h0:s=[]
    ·push_cast[h0]
     exact A0 (by push_cast[Fw.rs])
    ·push_cast[h0]
     refine .of (fin2 s hn) ?_
     push_cast
     exact A0 (by push_cast[Fw.rs];rw[<-hn])
   | true =>
    have hn:(s.drop 0).take (s.length-1-0)=EM s true:=by simp[EM,Jy,hm]
    have hl:0<s.length:=by
     unfold Ic at hm;simp only[Bool.and_eq_true,decide_eq_true_eq,List.length_singleton]at hm;omega
    have hle:s.length-1<=s.length:=by omega
    by_cases h0:EM s true=[]
    ·push_cast[AbI h1 hl,hn,hle,h0]
     refine⟨by omega,?_⟩
     exact A0 (by push_cast[Fw.rs,h0])
    ·push_cast[AbI h1 hl,hn,hle,h0]
     refine⟨by omega,.of hL ?_⟩
     push_cast
     exact A0 (by push_cast[Fw.rs,h0])
theorem Sr (t:Term)(hs:size t<2^62):PF Jq [An t] (.int .i64 (size t)):=by
 induction t using Ah with
 | h t ih =>
 refine Ad Tm.ok rfl ?_
 have hst:=Aq t
 have hl:=Ap t.args
 push_cast
 refine Ae (n:=t.args.length) (R:=fun k=>Tm.L3 (.int .i64 ((1+Af (t.args.take k):Nat):Int)) (Bk t.args) (.int .i64 t.args.length) (.int .i64 k) 0 [] _) ?_ ?_ 0 (by omega)
 ·intro k hk ih2
  have h1:=Eo _ _ hk
  have h2:=EI t.args (k+1)
  have hm:=A4 hk
  refine A7.2 ?_
  push_cast[BB hk]
  refine .of (ih _ hm (by omega)) ?_
  push_cast[Co (show k<2^62 by omega)]
  rw[Cr (by omega) (by omega)]
  rw[h1]at ih2
  simpa[Int.add_assoc]using ih2
 ·refine A7.2 ?_
  push_cast[AZ (Nat.le_refl _)]
  refine A0 ?_
  push_cast[Tm.rs,List.take_length,hst]
theorem PS (t:Term)(hs:size t<2^62):PF HY [An t] (.int .i64 (depth t)):=by
 induction t using Ah with
 | h t ih =>
 refine Ad QL.ok rfl ?_
 have hst:=Aq t
 have hl:=Ap t.args
 have hd:=Er t.args
 push_cast
 refine Ae (n:=t.args.length) (R:=fun k=>QL.L3 (.int .i64 (Bg (t.args.take k):Nat)) (Bk t.args) (.int .i64 t.args.length) (.int .i64 k) 0 [] _) ?_ ?_ 0 (by omega)
 ·intro k hk ih2
  have h1:=J2 _ _ hk
  have hm:=A4 hk
  have:=B4 hm
  refine A7.2 ?_
  push_cast[BB hk]
  refine .of (ih _ hm (by omega)) ?_
  push_cast[Co (show k<2^62 by omega)]
  rw[h1]at ih2
  exact ih2
 ·refine A7.2 ?_
  push_cast[AZ (Nat.le_refl _)]
  rw[Cr (by have:=IG t.args t.args.length;omega) (by have:=IG t.args t.args.length;omega)]
  refine A0 ?_
  push_cast[QL.rs,List.take_length,EL t]
theorem bq (t:Term)(hs:tb t<2^62):PF KR [An t] (.bool (CI t)):=by
 induction t using Ah with
 | h t ih =>
 have htb:=FZ t
 have hl:=FQ t.args
 have hI:∀ m,PF Iu [.str t.name,.bool m] (.bool (CJ t.name m)):=fun m=>co _ m (by omega)
 refine Ad Fq.ok rfl ?_
 cases hv:t.var with
 | true =>
  push_cast[hv]
  refine .of (hI false) ?_
  cases hn:CJ t.name false
  ·push_cast
   exact A0 (by push_cast[Fq.rs,F8 t,hv,hn])
  ·push_cast
   exact A0 (by push_cast[Fq.rs,F8 t,hv,hn];simp)
 | false =>
  push_cast[hv]
  refine .of (hI true) ?_
  have hf:CI t=(decide (t.args.length<=8)&&(CJ t.name true&&t.args.all CI)):=by rw[F8,hv];rfl
  rw[hf]
  cases hn:CJ t.name true
  ·push_cast
   exact A0 (by push_cast[Fq.rs])
  ·by_cases h0:t.args.length<=8
   ·have hi:((8:Int)<(t.args.length:Int))=False:=eq_false (by omega)
    push_cast[hi,h0]
    refine Ae (n:=t.args.length) (R:=fun k=>(t.args.drop k).all CI=t.args.all CI->Fq.L3 (Bk t.args) (.int .i64 t.args.length) (.int .i64 k) 0 [] _) ?_ ?_ 0 (by omega) rfl
    ·intro k hk ih2 hq
     rw[Ag hk]at hq
     simp only[List.all_cons]at hq
     have hm:=A4 hk
     refine A7.2 ?_
     push_cast[BB hk]
     refine .of (ih _ hm (by have:=Km hm;omega)) ?_
     push_cast[Co (show k<2^62 by omega)]
     refine⟨fun h=>A0 ?_,fun h=>ih2 ?_⟩
     ·push_cast[Fq.rs]
      rw[<-hq];simp_all
     ·rw[<-hq];simp_all
    ·intro hq
     refine A7.2 ?_
     push_cast[AZ (Nat.le_refl _)]
     refine A0 ?_
     push_cast[Fq.rs]
     rw[<-hq,Ar];rfl
   ·have hi:((8:Int)<(t.args.length:Int))=True:=eq_true (by omega)
    push_cast[hi,h0]
    exact A0 (by push_cast[Fq.rs])
theorem Vc (t:Term)(hs:tb t<2^62):PF Ms [An t] (.int .i64 (DH t)):=by
 have hst:=Bc t
 refine Ad KY.ok rfl ?_
 push_cast
 refine .of (bq t hs) ?_
 cases hf:CI t
 ·push_cast
  exact A0 (by push_cast[KY.rs,DH,hf])
 ·push_cast
  refine .of (Sr t (by omega)) ?_
  by_cases h:size t<=4000
  ·have hi:((4000:Int)<(size t:Int))=False:=eq_false (by omega)
   push_cast[hi]
   refine .of (PS t (by omega)) ?_
   by_cases hd:depth t<=200
   ·have hi2:((200:Int)<(depth t:Int))=False:=eq_false (by omega)
    push_cast[hi2]
    exact A0 (by push_cast[KY.rs,DH,hf,BU,h,hd])
   ·have hi2:((200:Int)<(depth t:Int))=True:=eq_true (by omega)
    push_cast[hi2]
    exact A0 (by push_cast[KY.rs,DH,hf,BU,h,hd])
  ·have hi:((4000:Int)<(size t:Int))=True:=eq_true (by omega)
   push_cast[hi]
   exact A0 (by push_cast[KY.rs,DH,hf,BU,h])
theorem Wy (l:List Term)(hl:l.length<2^62)(hs:∀ t∈l,tb t<2^62):PF Ma [Bk l] (.int .i64 (Jc l)):=by
 refine Ad IF.ok rfl ?_
 push_cast
 refine Ae (n:=l.length) (R:=fun k=>Jc (l.drop k)=Jc l->IF.L3 (Bk l) (.int .i64 l.length) (.int .i64 k) 0 [] _) ?_ ?_ 0 (by omega) rfl
 ·intro k hk ih hq
  rw[Ag hk]at hq
  simp only[Jc]at hq
  refine A7.2 ?_
  push_cast[BB hk]
  refine .of (Vc _ (hs _ (A4 hk))) ?_
  push_cast[Co (show k<2^62 by omega)]
  refine⟨fun h=>A0 ?_,fun h=>ih ?_⟩
  ·push_cast[IF.rs]
   rw[<-hq,if_pos (by simpa using h)]
  ·rw[<-hq,if_neg (by simpa using h)]
 ·intro hq
  refine A7.2 ?_
  push_cast[AZ (Nat.le_refl _)]
  refine A0 ?_
  push_cast[IF.rs]
  rw[<-hq,Ar];rfl
def RQ (a b:Int):Int:=if a<b then -1 else if b<a then 1 else 0
theorem Iq (a b:Int):PF Eu [.int .i64 a,.int .i64 b] (.int .i64 (RQ a b)):=by
 refine Ad Kl.ok rfl ?_
 push_cast
 refine⟨fun h=>A0 ?_,fun h=>⟨fun h2=>A0 ?_,fun h2=>A0 ?_⟩⟩<;>push_cast[Kl.rs,RQ,h]
 ·simp_all
 ·simp_all
def Xv:A9->A9->Int
 | [],[]=>0
 | [],_::_=>-1
 | _::_,[]=>1
 | a::s,b::u=>if a=b then Xv s u else RQ a.toNat b.toNat
theorem vT:∀ a b:A9,Xv a b=Iy a b:=by
 intro a b
 rw[Ww]
 induction a generalizing b with
 | nil=>cases b<;>simp[Xv]
 | cons x a ih =>
  cases b with
  | nil=>simp[Xv]
  | cons y b =>
   simp only[Xv,List.cons_lt_cons_iff]
   by_cases h:x=y
   ·subst h
    rw[if_pos rfl,ih]
    have:¬ x<x:=UInt8.lt_irrefl x
    simp[this]
   ·rw[if_neg h]
    have h':¬ y=x:=fun e=>h e.symm
    simp only[h,h',false_and,or_false,RQ,UInt8.lt_iff_toNat_lt]
    norm_cast
theorem Cp (a b:A9)(ha:a.length<2^62)(hb:b.length<2^62):PF Df [.str a,.str b] (.int .i64 (Iy a b)):=by
 rw[<-vT]
 refine Ad F3.ok rfl ?_
 have hmn:(if (b.length:Int)<(a.length:Int) then (b.length:Int) else (a.length:Int))=((min a.length b.length:Nat):Int):=by split<;>omega
 push_cast[hmn]
 refine Ae (n:=min a.length b.length) (R:=fun k=>Xv (a.drop k) (b.drop k)=Xv a b->F3.L3 (.str a) (.str b) (.int .i64 (min a.length b.length:Nat)) (.int .i64 k) 0 [] _) ?_ ?_ 0 (by omega) rfl
 ·intro k hk ih hq
  have hka:k<a.length:=by omega
  have hkb:k<b.length:=by omega
  rw[Ag hka,Ag hkb]at hq
  simp only[Xv]at hq
  have h1:vd a k=((a.getD k default).toNat:Int):=rfl
  have h2:vd b k=((b.getD k default).toNat:Int):=rfl
  have hr:∀ c:UInt8,IntKind.i64.wrap (c.toNat:Int)=c.toNat:=fun c=>Cr (by omega) (by have:=UInt8.toNat_lt c;omega)
  refine A7.2 ?_
  push_cast[BB hk,BB hka,BB hkb,h1,h2,hr,Co (show k<2^62 by omega)]
  refine⟨fun h=>.of (Iq _ _) ?_,fun h=>ih ?_⟩
  ·push_cast
   refine A0 ?_
   push_cast[F3.rs]
   rw[<-hq,if_neg]
   intro e;rw[e]at h;exact h rfl
  ·rw[<-hq,if_pos]
   exact UInt8.toNat_inj.1 (Int.ofNat.inj (by simpa using h))
 ·intro hq
  refine A7.2 ?_
  push_cast[AZ (Nat.le_refl _)]
  refine .of (Iq _ _) ?_
  push_cast
  refine A0 ?_
  push_cast[F3.rs]
  rw[<-hq]
  rcases Nat.lt_or_ge a.length b.length with h | h
  ·rw[Nat.min_eq_left (by omega),Ar,Ag h]
   simp[Xv,RQ];omega
  ·rw[Nat.min_eq_right (by omega),Ar]
   rcases Nat.lt_or_ge b.length a.length with h2 | h2
   ·rw[Ag h2]
    simp[Xv,RQ];omega
   ·rw[show b.length=a.length by omega,Ar]
    simp[Xv,RQ]
mutual
def Dh (v:A9):Term->Nat
 | .mk n b l=>(if b&&decide (n=v) then 1 else 0)+BY v l
def BY (v:A9):List Term->Nat
 | []=>0
 | a::l=>Dh v a+BY v l
end
theorem M7 (v:A9)(t:Term):Dh v t=(if t.var&&decide (t.name=v) then 1 else 0)+BY v t.args:=by cases t;rfl
theorem JH (v:A9)(a b:List Term):BY v (a++b)=BY v a+BY v b:=by
 induction a with
 | nil=>simp[BY]
 | cons x xs ih=>simp[BY,ih];omega
theorem U4 (v:A9)(l:List Term)(k:Nat)(h:k<l.length):BY v (l.take (k+1))=BY v (l.take k)+Dh v (l.getD k default):=by
 rw[Aa h,JH];simp[BY]
theorem Px (v:A9)(l:List Term)(k:Nat):BY v (l.take k)<=BY v l:=by
 conv=>rhs;rw[<-List.take_append_drop k l]
 rw[JH];omega
mutual
theorem qp (v:A9):∀ t,Dh v t<=size t
 | .mk n b l=>by simp only[Dh,size];have:=QM v l;split<;>omega
theorem QM (v:A9):∀ l,BY v l<=Af l
 | []=>by simp[BY,Af]
 | a::l=>by simp only[BY,Af];have:=qp v a;have:=QM v l;omega
end
theorem VD (t:Term)(v:A9)(hs:size t<2^62):PF JM [An t,.str v] (.int .i64 (Dh v t)):=by
 induction t using Ah with
 | h t ih =>
 have hst:=Aq t
 have hl:=Ap t.args
 have hce:=M7 v t
 have hcl:=QM v t.args
 have fin:∀ c:Nat,c<=1->Dh v t=c+BY v t.args->KW.L3 (.str v) (.int .i64 c) (Bk t.args) (.int .i64 t.args.length) (.int .i64 0) 0 [] (BH 0 KW.rs fun x' H'=>x'=.int .i64 (Dh v t)/\H'=[]):=by
  intro c hc hcv
  refine Ae (n:=t.args.length) (R:=fun k=>KW.L3 (.str v) (.int .i64 ((c+BY v (t.args.take k):Nat):Int)) (Bk t.args) (.int .i64 t.args.length) (.int .i64 k) 0 [] _) ?_ ?_ 0 (by omega)
  ·intro k hk ih2
   have h1:=U4 v _ _ hk
   have h2:=Px v t.args (k+1)
   have hm:=A4 hk
   have hm2:=B4 hm
   refine A7.2 ?_
   push_cast[BB hk]
   refine .of (ih _ hm (by omega)) ?_
   push_cast[Co (show k<2^62 by omega)]
   rw[Cr (by omega) (by omega)]
   rw[h1]at ih2
   simpa[Int.add_assoc]using ih2
  ·refine A7.2 ?_
   push_cast[AZ (Nat.le_refl _)]
   refine A0 ?_
   push_cast[KW.rs,List.take_length,hcv]
 refine Ad KW.ok rfl ?_
 cases hv:t.var with
 | true =>
  by_cases hn:t.name=v
  ·push_cast[hv,hn]
   exact fin 1 (by omega) (by rw[hce];simp[hv,hn])
  ·push_cast[hv,hn]
   exact fin 0 (by omega) (by rw[hce];simp[hv,hn])
 | false =>
  push_cast[hv]
  exact fin 0 (by omega) (by rw[hce];simp[hv])
def Z1 {α:Type}(p:α->Bool):List α->Nat
 | []=>0
 | x::l=>if p x then Z1 p l+1 else 0
theorem U8 {α:Type}(p:α->Bool):∀ l:List α,Z1 p l<=l.length
 | []=>Nat.le_refl _
 | x::l=>by simp only[Z1];have:=U8 p l;split<;>simp<;>omega
theorem iH {α:Type}[Inhabited α]{p:α->Bool}:∀ {l:List α} {j:Nat},j<Z1 p l->p (l.getD j default)=true
 | [],j,h=>by simp[Z1]at h
 | x::l,j,h=>by
  simp only[Z1]at h
  split at h
  ·rename_i hx
   cases j with
   | zero=>simpa using hx
   | succ j=>simpa using iH (l:=l) (j:=j) (by omega)
  ·omega
theorem jX {α:Type}[Inhabited α]{p:α->Bool}:∀ {l:List α},Z1 p l<l.length->p (l.getD (Z1 p l) default)=false
 | [],h=>by simp at h
 | x::l,h=>by
  simp only[Z1]at h ⊢
  split
  ·rename_i hx
   rw[if_pos hx]at h
   simpa using jX (l:=l) (by simpa using h)
  ·rename_i hx
   simpa using hx
def Ph (l:List A9)(s:A9):List A9:=if Z1 (fun x=>decide (x<s)) l<l.length/\l.getD (Z1 (fun x=>decide (x<s)) l) default=s then l else l.take (Z1 (fun x=>decide (x<s)) l)++s::l.drop (Z1 (fun x=>decide (x<s)) l)
theorem WN {l:List A9}{s v:A9}:v∈Ph l s↔v∈l\/v=s:=by
 unfold Ph
 split
 ·rename_i h
  constructor
  ·exact .inl
  ·rintro (h2 | rfl)
   ·exact h2
   ·rw[<-h.2];exact A4 h.1
 ·generalize Z1 (fun x=>decide (x<s)) l=k
  have:=List.take_append_drop k l
  constructor
  ·intro h
   simp only[List.mem_append,List.mem_cons]at h
   rcases h with h | h | h
   ·exact .inl (List.mem_of_mem_take h)
   ·exact .inr h
   ·exact .inl (List.mem_of_mem_drop h)
  ·rintro (h | rfl)
   ·rw[<-this]at h
    simp only[List.mem_append,List.mem_cons]at h ⊢
    rcases h with h | h
    ·exact .inl h
    ·exact .inr (.inr h)
   ·simp
theorem WZ (l:List A9)(s:A9):(Ph l s).length<=l.length+1:=by
 unfold Ph
 have:=U8 (fun x=>decide (x<s)) l
 split<;>simp<;>omega
theorem SD (l:List A9)(s:A9)(hl:l.length<2^40)(hn:∀ x∈l,x.length<2^62)(hs:s.length<2^62):PF KF [C7 l,.str s] (C7 (Ph l s)):=by
 have hle:=U8 (fun x=>decide (x<s)) l
 have hge:=@jX _ _ (fun x=>decide (x<s)) l
 have hlt:=fun j=>@iH _ _ (fun x=>decide (x<s)) l j
 unfold Ph
 generalize Z1 (fun x=>decide (x<s)) l=a at hle hge hlt
 refine Ad Jd.ok rfl ?_
 push_cast
 refine Ae (n:=a) (R:=fun k=>Jd.L4 (C7 l) (.str s) (.int .i64 k) 0 [] _) ?_ ?_ 0 (by omega)
 ·intro k hk ih
  have hkl:k<l.length:=by omega
  have h1:Iy (l.getD k default) s<0:=JN.2 (by simpa using hlt k hk)
  refine A7.2 ?_
  push_cast[BB hkl]
  refine .of (Cp _ _ (hn _ (A4 hkl)) hs) ?_
  push_cast[h1,Co (show k<2^62 by omega)]
  exact ih
 ·refine A7.2 ?_
  have tail:∀ m:Nat,m<=2^40->∀ b,b<=64->m*b<=Ai:=fun m hm b hb=>Nat.le_trans (Nat.mul_le_mul hm hb) (by unfold Ai;decide)
  rcases Nat.lt_or_ge a l.length with h | h
  ·have h2:¬ Iy (l.getD a default) s<0:=fun hc=>by have:=JN.1 hc;have:=hge h;simp_all
   push_cast[BB h]
   refine .of (Cp _ _ (hn _ (A4 h)) hs) ?_
   by_cases he:l.getD a default=s
   ·rw[he]at h2
    push_cast[h2,BB h,he,h]
    exact A0 (by push_cast[Jd.rs])
   ·push_cast[h2,BB h,he,h]
    refine⟨⟨by omega,hle⟩,tail _ (by simp;omega) _ (by omega),tail _ (by simp;omega) _ (by omega),hle,tail _ (by simp;omega) _ (by omega),A0 ?_⟩
    push_cast[Jd.rs]
    simp[Dp,cS,List.take_of_length_le]
  ·push_cast[AZ h]
   rw[if_neg (by omega)]
   refine⟨⟨by omega,hle⟩,tail _ (by simp;omega) _ (by omega),tail _ (by simp;omega) _ (by omega),hle,tail _ (by simp;omega) _ (by omega),A0 ?_⟩
   push_cast[Jd.rs]
   simp[Dp,cS,List.take_of_length_le]
mutual
def DD (l:List A9):Term->List A9
 | .mk n b ar=>BC (if b then Ph l n else l) ar
def BC (l:List A9):List Term->List A9
 | []=>l
 | a::ar=>BC (DD l a) ar
end
theorem fB (l:List A9)(t:Term):DD l t=BC (if t.var then Ph l t.name else l) t.args:=by cases t;rfl
theorem UR (a b:List Term):∀ l:List A9,BC l (a++b)=BC (BC l a) b:=by
 induction a with
 | nil=>intro l;simp[BC]
 | cons x xs ih=>intro l;simp[BC,ih]
theorem R9 (s:List A9)(l:List Term)(k:Nat)(h:k<l.length):BC s (l.take (k+1))=DD (BC s (l.take k)) (l.getD k default):=by
 rw[Aa h,UR];simp[BC]
mutual
theorem II:∀ (t:Term)(l:List A9),(DD l t).length<=l.length+size t
 | .mk n b ar,l=>by
  simp only[DD,size]
  have:=MT ar (if b then Ph l n else l)
  have:=WZ l n
  cases b<;>simp at *<;>omega
theorem MT:∀ (ar:List Term)(l:List A9),(BC l ar).length<=l.length+Af ar
 | [],l=>by simp[BC,Af]
 | a::ar,l=>by simp only[BC,Af];have:=II a l;have:=MT ar (DD l a);omega
end
mutual
def CX (v:A9):Term->Bool
 | .mk n b ar=>(b&&decide (n=v))||ER v ar
def ER (v:A9):List Term->Bool
 | []=>false
 | a::ar=>CX v a||ER v ar
end
mutual
theorem FA (v:A9):∀ (t:Term)(l:List A9),v∈DD l t↔v∈l\/CX v t=true
 | .mk n b ar,l=>by
  simp only[DD,CX,MS v ar]
  cases b
  ·simp
  ·simp only[if_true,WN,Bool.true_and,Bool.or_eq_true,decide_eq_true_eq,or_assoc]
   constructor
   ·rintro (h | h | h)
    ·exact .inl h
    ·exact .inr (.inl h.symm)
    ·exact .inr (.inr h)
   ·rintro (h | h | h)
    ·exact .inl h
    ·exact .inr (.inl h.symm)
    ·exact .inr (.inr h)
theorem MS (v:A9):∀ (ar:List Term)(l:List A9),v∈BC l ar↔v∈l\/ER v ar=true
 | [],l=>by simp[BC,ER]
 | a::ar,l=>by simp only[BC,ER,MS v ar,FA v a,Bool.or_eq_true,or_assoc]
end
mutual
theorem xQ (v:A9):∀ t,CX v t=true->v.length<tb t
 | .mk n b ar,h=>by
  simp only[CX,Bool.or_eq_true,Bool.and_eq_true,decide_eq_true_eq]at h
  simp only[tb]
  rcases h with ⟨_,rfl⟩ | h
  ·omega
  ·have:=Wz v ar h;simp only[tbs]at this;omega
theorem Wz (v:A9):∀ l,ER v l=true->v.length<tbs l
 | [],h=>by simp[ER]at h
 | a::ar,h=>by
  simp only[ER,Bool.or_eq_true]at h
  simp only[tbs,tb.tbs]
  rcases h with h | h
  ·have:=xQ v a h;omega
  ·have:=Wz v ar h;simp only[tbs]at this;omega
end
mutual
theorem UM (v:A9):∀ t,decide (Dh v t=0)=!CX v t
 | .mk n b ar=>by
  simp only[Dh,CX]
  have:=Yv v ar
  cases b<;>by_cases h:n=v<;>simp_all
theorem Yv (v:A9):∀ l,decide (BY v l=0)=!ER v l
 | []=>by simp[BY,ER]
 | a::ar=>by
  have h1:=UM v a
  have h2:=Yv v ar
  have e:BY v (a::ar)=Dh v a+BY v ar:=rfl
  have e2:ER v (a::ar)=(CX v a||ER v ar):=rfl
  rw[e2,Bool.not_or,<-h1,<-h2]
  by_cases c1:Dh v a=0<;>by_cases c2:BY v ar=0<;>simp[e,c1,c2]
end
theorem Vm (l:List Term)(k:Nat):tbs (l.take k)<=tbs l:=by
 induction l generalizing k with
 | nil=>simp
 | cons a l ih=>cases k with
  | zero=>simp[tbs,tb.tbs]
  | succ k=>simp only[List.take_succ_cons,tbs,tb.tbs];have:=ih k;simp only[tbs]at this;omega
theorem Zb (t:Term):∀ (l:List A9),tb t<2^39->l.length+size t<2^39->(∀ x∈l,x.length<2^62)->PF JB [An t,C7 l] (C7 (DD l t)):=by
 induction t using Ah with
 | h t ih =>
 intro l htb hls hn
 have hst:=Aq t
 have htb2:=FZ t
 have hll:=Ap t.args
 have hce:=fB l t
 have fin:∀ s:List A9,s=(if t.var then Ph l t.name else l)->HU.L3 (C7 s) (Bk t.args) (.int .i64 t.args.length) (.int .i64 0) 0 [] (BH 0 HU.rs fun x' H'=>x'=C7 (DD l t)/\H'=[]):=by
  intro s hs
  have hsl:s.length<=l.length+1:=by rw[hs];have:=WZ l t.name;split<;>omega
  have hsn:∀ x∈s,x.length<2^62:=by
   intro x hx
   rw[hs]at hx
   split at hx
   ·rcases WN.1 hx with h | rfl
    ·exact hn x h
    ·omega
   ·exact hn x hx
  rw[<-hs]at hce
  refine Ae (n:=t.args.length) (R:=fun k=>HU.L3 (C7 (BC s (t.args.take k))) (Bk t.args) (.int .i64 t.args.length) (.int .i64 k) 0 [] _) ?_ ?_ 0 (by omega)
  ·intro k hk ih2
   have h1:=R9 s _ _ hk
   have h2:=MT (t.args.take k) s
   have h3:=EI t.args (k+1)
   rw[Eo _ _ hk]at h3
   have hm:=A4 hk
   have hm3:=Km hm
   refine A7.2 ?_
   push_cast[BB hk]
   refine .of (ih _ hm _ (by omega) (by omega) fun x hx=>?_) ?_
   ·rcases (MS x _ _).1 hx with h | h
    ·exact hsn x h
    ·have:=Wz x _ h
     have h4:=Vm t.args k
     omega
   push_cast[Co (show k<2^62 by omega)]
   rw[h1]at ih2
   exact ih2
  ·refine A7.2 ?_
   push_cast[AZ (Nat.le_refl _)]
   refine A0 ?_
   push_cast[HU.rs,List.take_length,hce]
 refine Ad HU.ok rfl ?_
 cases hv:t.var with
 | true =>
  push_cast[hv]
  refine .of (SD l t.name (by omega) hn (by omega)) ?_
  push_cast
  exact fin _ (by rw[hv];rfl)
 | false =>
  push_cast[hv]
  exact fin _ (by rw[hv];rfl)
def DT (t:Term):List A9:=DD [] t
theorem XO (t:Term)(ht:tb t<2^39):PF Oe [Bk [t]] (C7 (DT t)):=by
 have:=Bc t
 refine Ad TQ.ok rfl ?_
 push_cast
 rw[show (V.sl 1 []:V)=C7 (BC [] ([t].take 0)) from rfl]
 refine Ae (n:=1) (R:=fun k=>TQ.L3 (C7 (BC [] ([t].take k))) (Bk [t]) (.int .i64 1) (.int .i64 k) 0 [] _) ?_ ?_ 0 (by omega)
 ·intro k hk ih2
  obtain rfl:k=0:=by omega
  refine A7.2 ?_
  push_cast
  refine .of (Zb t [] ht (by simpa using by omega) (by simp)) ?_
  push_cast
  exact ih2
 ·refine A7.2 ?_
  push_cast
  refine A0 ?_
  push_cast[TQ.rs]
  rfl
def XY (a b:Term):Bool:=(DT a).all fun v=>CX v b
theorem cW (a b:Term)(ha:tb a<2^39)(hb:tb b<2^39):PF On [An a,An b] (.bool (XY a b)):=by
 have hsa:=Bc a
 have hsb:=Bc b
 have hvl:=II a []
 have hV:=XO a ha
 unfold XY
 have e1:(.sl 3 [cT a]:V)=Bk [a]:=rfl
 have hcl:(DT a).length<2^62:=by unfold DT;simp at hvl;omega
 generalize DT a=l at hV hcl
 refine Ad Lw.ok rfl ?_
 push_cast[e1]
 refine .of hV ?_
 push_cast
 refine Ae (n:=l.length) (R:=fun k=>((l.drop k).all fun v=>CX v b)=(l.all fun v=>CX v b)->Lw.L3 (.ro (cT b) 0) (C7 l) (.int .i64 l.length) (.int .i64 k) 0 [] _) ?_ ?_ 0 (by omega) rfl
 ·intro k hk ih hq
  rw[Ag hk]at hq
  simp only[List.all_cons]at hq
  refine A7.2 ?_
  push_cast[BB hk]
  refine .of (VD _ _ (by omega)) ?_
  have hc:=UM (l.getD k default) b
  push_cast[Co (show k<2^62 by omega)]
  refine⟨fun h=>A0 ?_,fun h=>ih ?_⟩
  ·push_cast[Lw.rs]
   rw[<-hq]
   have h0:Dh (l.getD k default) b=0:=by omega
   rw[decide_eq_true h0]at hc
   simp_all
  ·rw[<-hq]
   have h0:¬ Dh (l.getD k default) b=0:=by omega
   rw[decide_eq_false h0]at hc
   simp_all
 ·intro hq
  refine A7.2 ?_
  push_cast[AZ (Nat.le_refl _)]
  refine A0 ?_
  push_cast[Lw.rs]
  rw[<-hq,Ar];rfl
theorem fI (r:List A3)(hs:Mg r<2^61):PF PC [As r] (.int .i64 (Bu r)):=by
 have hl:=By r
 refine Ad Lm.ok rfl ?_
 by_cases h64:64<r.length
 ·have hi:((64:Int)<(r.length:Int))=True:=eq_true (by omega)
  push_cast[hi]
  refine A0 ?_
  push_cast[Lm.rs,Bu,h64]
 ·have hi:((64:Int)<(r.length:Int))=False:=eq_false (by omega)
  push_cast[hi,Bu,h64]
  refine Ae (n:=r.length) (R:=fun k=>DC (r.drop k)=DC r->Lm.L3 (As r) (.int .i64 r.length) (.int .i64 k) 0 [] _) ?_ ?_ 0 (by omega) rfl
  ·intro k hk ih hq
   have hm:=Gc (A4 hk)
   refine A7.2 ?_
   rw[Ag hk]at hq
   simp only[DC]at hq
   generalize hx:r.getD k default=x at hm hq
   have hA:=Wy [x.left,x.right] (by simp) (by simp;omega)
   push_cast[BB hk,hx,ZR]
   refine .of hA ?_
   push_cast[Co (show k<2^62 by omega)]
   refine⟨fun h=>A0 ?_,fun h=>ih ?_⟩
   ·push_cast[Lm.rs]
    rw[<-hq,if_pos h]
   ·rw[<-hq,if_neg h]
  ·intro hq
   refine A7.2 ?_
   push_cast[AZ (Nat.le_refl _)]
   refine A0 ?_
   push_cast[Lm.rs]
   rw[<-hq,Ar];rfl
structure DI where
 name:A9
 arity:Int
 deriving Inhabited,DecidableEq
def cSy (s:DI):List V:=[.str s.name,.int .i64 s.arity]
abbrev N8 (l:List DI):V:=Dp cSy 2 l
theorem yv (s:DI):(cSy s).length=2:=rfl
theorem Ac9 (s:DI):(cSy s)[0]?=some (.str s.name):=rfl
theorem AdD (s:DI):(cSy s)[1]?=some (.int .i64 s.arity):=rfl
theorem ma {i:Nat}{l:List DI}{n:A9}{k:Int}:(.own i 2 (l.map cSy++[[V.str n,.int .i64 k]]):V)=B8 cSy i 2 (l++[⟨n,k⟩]):=by simp[B8,cSy]
attribute [push_cast] yv Ac9 AdD
abbrev FN (l:List DI)(n:A9):Nat:=Z1 (fun x=>decide (x.name<n)) l
def HQ (l:List DI)(n:A9)(k:Int):List DI:=if FN l n<l.length/\(l.getD (FN l n) default).name=n then l else l.take (FN l n)++⟨n,k⟩::l.drop (FN l n)
mutual
def IT (l:List DI):Term->List DI×Bool
 | .mk n b ar=>if b then (l,true) else if marked n then (l,false) else if ((HQ l n ar.length).getD (FN l n) default).arity≠ar.length then (HQ l n ar.length,false) else Fi (HQ l n ar.length) ar
def Fi (l:List DI):List Term->List DI×Bool
 | []=>(l,true)
 | a::ar=>if (IT l a).2 then Fi (IT l a).1 ar else (l,false)
end
theorem wT (l:List DI)(t:Term):IT l t=if t.var then (l,true) else if marked t.name then (l,false) else if ((HQ l t.name t.args.length).getD (FN l t.name) default).arity≠t.args.length then (HQ l t.name t.args.length,false) else Fi (HQ l t.name t.args.length) t.args:=by cases t;rfl
theorem bc (l:List DI)(n:A9)(k:Int):(HQ l n k).length<=l.length+1:=by
 unfold HQ
 have:=U8 (fun x:DI=>decide (x.name<n)) l
 split<;>simp<;>omega
theorem mE {l:List DI}{n:A9}{k:Int}{x:DI}(h:x∈HQ l n k):x∈l\/x=⟨n,k⟩:=by
 unfold HQ at h
 split at h
 ·exact .inl h
 ·simp only[List.mem_append,List.mem_cons]at h
  rcases h with h | h | h
  ·exact .inl (List.mem_of_mem_take h)
  ·exact .inr h
  ·exact .inl (List.mem_of_mem_drop h)
def qV (M:Nat)(m:Nat)(l:List DI):Prop:=l.length<=m/\∀ x∈l,x.name.length<M
theorem qV.ins {M m:Nat}{l:List DI}(h:qV M m l){n:A9}{k:Int}(hn:n.length<M):qV M (m+1) (HQ l n k):=by
 refine⟨by have:=bc l n k;have:=h.1;omega,fun x hx=>?_⟩
 rcases mE hx with h1 | rfl
 ·exact h.2 x h1
 ·exact hn
mutual
theorem XB {M:Nat}:∀ (t:Term)(m:Nat)(l:List DI),qV M m l->tb t<=M->qV M (m+size t) (IT l t).1
 | .mk n b ar,m,l,h,ht=>by
  simp only[tb]at ht
  have h0:qV M (m+size (.mk n b ar)) l:=⟨by have:=h.1;omega,h.2⟩
  have h1:=h.ins (n:=n) (k:=ar.length) (by omega)
  have h2:qV M (m+size (.mk n b ar)) (HQ l n ar.length):=⟨by have:=h1.1;simp only[size];omega,h1.2⟩
  have h3:=Uh ar (m+1) _ h1 (by simp only[tbs];omega)
  simp only[IT]
  split
  ·exact h0
  split
  ·exact h0
  split
  ·exact h2
  ·exact⟨by have:=h3.1;simp only[size];omega,h3.2⟩
theorem Uh {M:Nat}:∀ (ar:List Term)(m:Nat)(l:List DI),qV M m l->tbs ar<=M->qV M (m+Af ar) (Fi l ar).1
 | [],m,l,h,_=>by simpa[Fi,Af]using h
 | a::ar,m,l,h,ht=>by
  simp only[tbs,tb.tbs]at ht
  have h1:=XB a m l h (by omega)
  have h2:=Uh ar _ _ h1 (by simp only[tbs];omega)
  simp only[Fi]
  split
  ·exact⟨by have:=h2.1;simp only[Af];omega,h2.2⟩
  ·exact⟨by have:=h.1;show l.length<=_;omega,h.2⟩
end
theorem Th (a b:List Term):∀ l:List DI,(Fi l a).2=true->Fi l (a++b)=Fi (Fi l a).1 b:=by
 induction a with
 | nil=>intro l _;rfl
 | cons x xs ih =>
  intro l h
  simp only[Fi,List.cons_append]at h ⊢
  by_cases hx:(IT l x).2=true
  ·rw[if_pos hx]at h ⊢
   rw[if_pos hx]
   exact ih _ h
  ·rw[if_neg hx]at h
   cases h
set_option maxHeartbeats 1000000 in
theorem Rl (t:Term):∀ (m:Nat)(l:List DI),tb t<2^39->m+size t<2^39->qV (2^39) m l->PF Jx [An t,N8 l] (.tup [N8 (IT l t).1,.bool (IT l t).2]):=by
 induction t using Ah with
 | h t ih =>
 intro m l htb hms hf
 have hst:=Aq t
 have htb2:=FZ t
 have hll:=Ap t.args
 have hse:=wT l t
 have hl:l.length<2^39:=by have:=hf.1;omega
 refine Ad CA.ok rfl ?_
 cases hv:t.var with
 | true =>
  rw[hv,if_pos rfl]at hse
  push_cast[hv]
  exact A0 (by push_cast[CA.rs,hse])
 | false =>
 rw[hv,if_neg (by simp)]at hse
 push_cast[hv]
 refine .of (SV t.name (by omega)) ?_
 cases hmk:Ic t.name [35]with
 | true =>
  have hmk':marked t.name=true:=hmk
  rw[hmk',if_pos rfl]at hse
  push_cast
  exact A0 (by push_cast[CA.rs,hse])
 | false =>
 have hmk':marked t.name=false:=hmk
 rw[hmk',if_neg (by simp)]at hse
 have hI:=bc l t.name t.args.length
 have hF:=hf.ins (n:=t.name) (k:=t.args.length) (by omega)
 have hle:FN l t.name<=l.length:=U8 (fun x:DI=>decide (x.name<t.name)) l
 have hge:FN l t.name<l.length->¬ (l.getD (FN l t.name) default).name<t.name:=fun h=>of_decide_eq_false (@jX _ _ (fun x:DI=>decide (x.name<t.name)) l h)
 have hlt:∀ j,j<FN l t.name->(l.getD j default).name<t.name:=fun j h=>of_decide_eq_true (@iH _ _ (fun x:DI=>decide (x.name<t.name)) l j h)
 have hat:FN l t.name<(HQ l t.name t.args.length).length:=by
  unfold HQ
  split
  ·rename_i h;exact h.1
  ·rw[List.length_append,List.length_take,List.length_cons,Nat.min_eq_left hle];omega
 have hins:HQ l t.name t.args.length=if FN l t.name<l.length/\(l.getD (FN l t.name) default).name=t.name then l else l.take (FN l t.name)++⟨t.name,t.args.length⟩::l.drop (FN l t.name):=rfl
 generalize HQ l t.name t.args.length=l1 at *
 have kids:(l1.getD (FN l t.name) default).arity=t.args.length->CA.L3 (N8 l1) (Bk t.args) (.int .i64 t.args.length) (.int .i64 0) 0 [] (BH 0 CA.rs fun x' H'=>x'=.tup [N8 (IT l t).1,.bool (IT l t).2]/\H'=[]):=by
  intro har
  rw[if_neg (by simpa using har)]at hse
  rw[hse]
  refine Ae (n:=t.args.length) (R:=fun k=>(Fi l1 (t.args.take k)).2=true->CA.L3 (N8 (Fi l1 (t.args.take k)).1) (Bk t.args) (.int .i64 t.args.length) (.int .i64 k) 0 [] _) ?_ ?_ 0 (by omega) rfl
  ·intro k hk ih2 hok
   have hm:=A4 hk
   have hm3:=Km hm
   have h3:=EI t.args (k+1)
   rw[Eo _ _ hk]at h3
   have hFk:=Uh (t.args.take k) _ _ hF (by have:=Vm t.args k;omega)
   have hcat:Fi l1 (t.args.take (k+1))=if (IT (Fi l1 (t.args.take k)).1 (t.args.getD k default)).2 then (IT (Fi l1 (t.args.take k)).1 (t.args.getD k default)) else ((Fi l1 (t.args.take k)).1,false):=by
    rw[Aa hk,Th _ _ _ hok]
    simp only[Fi]
    split
    ·rename_i h;exact Prod.ext rfl h.symm
    ·rfl
   have hend:(IT (Fi l1 (t.args.take k)).1 (t.args.getD k default)).2=false->Fi l1 t.args=((Fi l1 (t.args.take k)).1,false):=by
    intro h
    conv=>lhs;rw[<-List.take_append_drop k t.args]
    rw[Th _ _ _ hok,Ag hk]
    simp only[Fi,h]
    rfl
   refine A7.2 ?_
   push_cast[BB hk]
   refine .of (ih _ hm _ _ (by omega) (by omega) hFk) ?_
   cases hb:(IT (Fi l1 (t.args.take k)).1 (t.args.getD k default)).2 with
   | false =>
    push_cast
    refine A0 ?_
    push_cast[CA.rs,hend hb]
   | true =>
    rw[hb,if_pos rfl]at hcat
    push_cast[Co (show k<2^62 by omega)]
    rw[hcat]at ih2
    exact ih2 hb
  ·intro hok
   rw[List.take_length]at hok
   refine A7.2 ?_
   push_cast[AZ (Nat.le_refl _)]
   refine A0 ?_
   push_cast[CA.rs,List.take_length,hok]
 generalize FN l t.name=a at *
 push_cast
 refine Ae (n:=a) (R:=fun k=>CA.L9 (N8 l) (.ro (cT t) 0) (.int .i64 k) 0 [] _) ?_ ?_ 0 (by omega)
 ·intro k hk ih2
  have hkl:k<l.length:=by omega
  have h1:Iy (l.getD k default).name t.name<0:=JN.2 (hlt k hk)
  refine A7.2 ?_
  push_cast[BB hkl]
  refine .of (Cp _ _ (by have:=hf.2 _ (A4 hkl);omega) (by omega)) ?_
  push_cast[h1,Co (show k<2^62 by omega)]
  exact ih2
 ·refine A7.2 ?_
  have tail:∀ m:Nat,m<=2^40->∀ b,b<=64->m*b<=Ai:=fun m hm b hb=>Nat.le_trans (Nat.mul_le_mul hm hb) (by unfold Ai;decide)
  have e1:(l.drop 0).take (a-0)=l.take a:=by simp
  have e2:(l.drop a).take (l.length-a)=l.drop a:=by rw[List.take_of_length_le];simp
  rcases Nat.lt_or_ge a l.length with h | h
  ·have h2:¬ Iy (l.getD a default).name t.name<0:=fun hc=>hge h (JN.1 hc)
   have h3:((a:Int)=(l.length:Int))=False:=eq_false (by omega)
   push_cast[BB h]
   refine .of (Cp _ _ (by have:=hf.2 _ (A4 h);omega) (by omega)) ?_
   by_cases he:(l.getD a default).name=t.name
   ·rw[if_pos ⟨h,he⟩]at hins
    subst hins
    rw[he]at h2
    push_cast[h2,h3,he,BB h]
    refine⟨fun har=>A0 ?_,fun har=>kids (by simpa using har)⟩
    rw[if_pos har]at hse
    push_cast[CA.rs,hse]
   ·rw[if_neg (fun hh=>he hh.2)]at hins
    push_cast[h2,h3,he,BB h,ma,e1,e2,List.cons_append,List.nil_append,<-hins,hat]
    refine⟨⟨by omega,hle⟩,tail _ (by simp;omega) _ (by omega),tail _ (by simp;omega) _ (by omega),hle,⟨by simp,tail _ (by simp;omega) _ (by omega)⟩,by omega,fun har=>A0 ?_,fun har=>kids (by simpa using har)⟩
    rw[if_pos har]at hse
    push_cast[CA.rs,hse]
  ·rw[if_neg (fun hh=>by omega)]at hins
   have h3:((a:Int)=(l.length:Int))=True:=eq_true (by omega)
   push_cast (maxSteps:=1000000) [AZ h,h3,ma,e1,e2,List.cons_append,List.nil_append,<-hins,hat]
   refine⟨⟨by omega,hle⟩,tail _ (by simp;omega) _ (by omega),tail _ (by simp;omega) _ (by omega),hle,⟨by simp,tail _ (by simp;omega) _ (by omega)⟩,by omega,fun har=>A0 ?_,fun har=>kids (by simpa using har)⟩
   rw[if_pos har]at hse
   push_cast[CA.rs,hse]
end Go.Dw
section
namespace Go.Dw
open Go.Proofs (sortS)
def Mq (l:List DI):List A3->List DI×Bool
 | []=>(l,true)
 | x::r=>if (IT l x.left).2 then if (IT (IT l x.left).1 x.right).2 then Mq (IT (IT l x.left).1 x.right).1 r else ([],false) else ([],false)
theorem YZ (r:List A3)(hs:Mg r<2^38):PF N3 [As r] (.tup [N8 (Mq [] r).1,.bool (Mq [] r).2]):=by
 have hl:=By r
 have hw1:IntKind.i64.wrap 1=1:=Cr (by omega) (by omega)
 have hw2:IntKind.i64.wrap 2=2:=Cr (by omega) (by omega)
 refine Ad Gz.ok rfl ?_
 push_cast
 rw[show (V.sl 2 []:V)=N8 [] from rfl]
 refine Ae (n:=r.length) (R:=fun k=>∀ l m,qV (2^39) m l->m+Mg (r.drop k)<2^38->Mq l (r.drop k)=Mq [] r->Gz.L6 (N8 l) (As r) (.int .i64 r.length) (.int .i64 k) 0 [] (BH 0 Gz.rs fun x' H'=>x'=.tup [N8 (Mq [] r).1,.bool (Mq [] r).2]/\H'=[])) ?_ ?_ 0 (by omega) [] 0 ⟨by simp,by simp⟩ (by simpa using hs) rfl
 ·intro k hk ih l m hf hm hq
  have hr:=Gc (A4 hk)
  rw[Ag hk]at hm hq
  simp only[Mg,Mq]at hm hq
  generalize hx:r.getD k default=x at hm hq hr
  have s1:=Bc x.left
  have s2:=Bc x.right
  have hf1:=XB x.left m l hf (by omega)
  have hf2:=XB x.right _ _ hf1 (by omega)
  refine A7.2 ?_
  push_cast[BB hk,hx,ZR]
  refine A7.2 ?_
  push_cast
  refine .of (Rl x.left m l (by omega) (by omega) hf) ?_
  cases h1:(IT l x.left).2 with
  | false =>
   rw[if_neg (by simp[h1])]at hq
   push_cast
   refine A0 ?_
   push_cast[Gz.rs,<-hq]
   rfl
  | true =>
   rw[if_pos h1]at hq
   push_cast[hw1]
   refine A7.2 ?_
   push_cast
   refine .of (Rl x.right _ _ (by omega) (by omega) hf1) ?_
   cases h2:(IT (IT l x.left).1 x.right).2 with
   | false =>
    rw[if_neg (by simp[h2])]at hq
    push_cast
    refine A0 ?_
    push_cast[Gz.rs,<-hq]
    rfl
   | true =>
    rw[if_pos h2]at hq
    push_cast[hw2]
    refine A7.2 ?_
    push_cast[Co (show k<2^62 by omega)]
    exact ih _ _ hf2 (by omega) hq
 ·intro l m hf hm hq
  refine A7.2 ?_
  push_cast[AZ (Nat.le_refl _)]
  refine A0 ?_
  rw[Ar]at hq
  push_cast[Gz.rs,<-hq]
  exact⟨rfl,rfl⟩
def NY (x:A3):Bool:=x.left.var||!XY x.right x.left
def KO (r:List A3):Int:=if Bu r≠0 then Bu r else if (Mq [] r).2 then (if r.any NY then 7 else 0) else 6
theorem RN (r:List A3)(hs:Mg r<2^38):PF Gg [As r] (.int .i64 (KO r)):=by
 have hl:=By r
 refine Ad CT.ok rfl ?_
 push_cast
 refine .of (fI r (by omega)) ?_
 unfold KO
 by_cases h1:Bu r=0
 ·rw[if_neg (by simpa using h1)]
  push_cast[h1]
  refine .of (YZ r hs) ?_
  cases h2:(Mq [] r).2 with
  | false =>
   push_cast
   refine A0 ?_
   push_cast[CT.rs]
  | true =>
   push_cast
   refine Ae (n:=r.length) (R:=fun k=>(r.drop k).any NY=r.any NY->CT.L3 (As r) (.int .i64 r.length) (.int .i64 k) 0 [] _) ?_ ?_ 0 (by omega) rfl
   ·intro k hk ih hq
    have hr:=Gc (A4 hk)
    rw[Ag hk]at hq
    simp only[List.any_cons]at hq
    generalize hx:r.getD k default=x at hq hr
    refine A7.2 ?_
    cases hv:x.left.var with
    | true =>
     push_cast[BB hk,hx,hv]
     refine A0 ?_
     push_cast[CT.rs,<-hq,NY,hv]
     simp
    | false =>
     push_cast[BB hk,hx,hv]
     refine .of (cW _ _ (by omega) (by omega)) ?_
     cases hw:XY x.right x.left with
     | false =>
      push_cast
      refine A0 ?_
      push_cast[CT.rs,<-hq,NY,hv,hw]
      rfl
     | true =>
      push_cast[Co (show k<2^62 by omega)]
      exact ih (by rw[<-hq];simp[NY,hv,hw])
   ·intro hq
    rw[Ar]at hq
    refine A7.2 ?_
    push_cast[AZ (Nat.le_refl _)]
    refine A0 ?_
    push_cast[CT.rs,<-hq]
    rfl
 ·rw[if_pos h1]
  push_cast[h1]
  refine A0 ?_
  push_cast[CT.rs]
theorem PP (v:A9):∀ (l ks:List A9),v∈l.foldl VM ks↔v∈ks\/v∈l
 | [],ks=>by simp
 | x::l,ks=>by
  rw[List.foldl_cons,PP v l]
  unfold VM
  split
  ·rename_i h
   simp only[List.mem_cons]
   constructor
   ·rintro (h1 | h1)
    ·exact .inl h1
    ·exact .inr (.inr h1)
   ·rintro (h1 | rfl | h1)
    ·exact .inl h1
    ·exact .inl h
    ·exact .inr h1
  ·simp[or_assoc]
theorem eF (x:List Int×Term)(l:List (List Int×Term)):FX (x::l)=if x.2.var then x.2.name::FX l else FX l:=by
 unfold FX;rw[List.filter_cons];split<;>rfl
theorem Zf (a b:List (List Int×Term)):FX (a++b)=FX a++FX b:=by
 unfold FX;rw[List.filter_append,List.map_append]
mutual
theorem Xt (v:A9):∀ (t:Term)(p:List Int),v∈FX (Ab t p)↔CX v t=true
 | .mk n b ar,p=>by
  have h:=V4 v ar p 0
  rw[Hq,eF]
  cases b
  ·rw[if_neg (by simp[Term.var])]
   simpa[CX,Term.args]using h
  ·rw[if_pos (by simp[Term.var])]
   simp only[CX,Bool.true_and,Bool.or_eq_true,decide_eq_true_eq,List.mem_cons,<-h]
   exact⟨fun h=>h.imp (fun e=>e.symm) id,fun h=>h.imp (fun e=>e.symm) id⟩
theorem V4 (v:A9):∀ (ar:List Term)(p:List Int)(i:Nat),v∈FX (Bb ar p i)↔ER v ar=true
 | [],p,i=>by simp[Bb,FX,ER]
 | a::ar,p,i=>by
  have h1:=Xt v a (p++[(i:Int)])
  have h2:=V4 v ar p (i+1)
  simp only[Bb,Zf,List.mem_append,h1,h2,ER,Bool.or_eq_true]
end
theorem E5 (v:A9)(t:Term):v∈AD [t]↔CX v t=true:=by
 unfold AD
 rw[show (v∈sortS (HV [] [t]))↔v∈HV [] [t] from (List.mergeSort_perm _ _).mem_iff]
 simp only[HV,List.foldl_cons,List.foldl_nil,Ra,PP,Xt,List.not_mem_nil,false_or]
theorem tv (x:A3):M8 x=NY x:=by
 unfold M8 NY XY
 congr 1
 rw[Bool.eq_iff_iff]
 simp only[List.any_eq_true,Bool.not_eq_true',decide_eq_false_iff_not,E5,List.all_eq_false,DT,FA,List.not_mem_nil,false_or]
theorem eC (m:TF)(n v:A9)(k:Nat):LX (m++[(n,k)]) v=match LX m v with | some a=>some a | none=>if n=v then some k else none:=by
 induction m with
 | nil=>simp[LX]
 | cons p m ih =>
  simp only[List.cons_append,LX]
  split
  ·rfl
  ·exact ih
def IY:List DI->A9->Option Int
 | [],_=>none
 | x::l,n=>if x.name=n then some x.arity else IY l n
abbrev LK (l:List DI):Prop:=l.Pairwise fun a b=>a.name<b.name
theorem iM {l:List DI}{n:A9}(h:∀ x∈l,x.name≠n):IY l n=none:=by
 induction l with
 | nil=>rfl
 | cons x l ih=>simp only[IY];rw[if_neg (h x (by simp))];exact ih fun y hy=>h y (by simp[hy])
theorem Yf {n:A9}:∀ {l:List DI},LK l->IY l n=if FN l n<l.length/\(l.getD (FN l n) default).name=n then some (l.getD (FN l n) default).arity else none
 | [],_=>by simp[IY]
 | x::l,hs=>by
  obtain⟨h1,h2⟩:=List.pairwise_cons.1 hs
  have ih:=Yf (n:=n) h2
  by_cases hx:x.name<n
  ·have e:FN (x::l) n=FN l n+1:=by simp[FN,Z1,hx]
   simp only[IY,e]
   rw[if_neg (fun e2:x.name=n=>Cs n (by rw[e2]at hx;exact hx)),ih]
   simp
  ·have e:FN (x::l) n=0:=by simp only[FN,Z1];rw[if_neg (by simpa using hx)]
   simp only[IY,e]
   by_cases he:x.name=n
   ·simp[he]
   ·rw[if_neg he]
    simp only[List.length_cons,Nat.zero_lt_succ,true_and,List.getD_cons_zero,he,if_false]
    refine iM fun y hy e=>?_
    have:=h1 y hy
    rw[e]at this
    exact hx this
def Rj (n:A9)(k:Int):List DI->List DI
 | []=>[⟨n,k⟩]
 | x::l=>if x.name<n then x::Rj n k l else ⟨n,k⟩::x::l
theorem cz (n:A9)(k:Int):∀ l:List DI,l.take (FN l n)++⟨n,k⟩::l.drop (FN l n)=Rj n k l
 | []=>rfl
 | x::l=>by
  have ih:=cz n k l
  by_cases hx:x.name<n
  ·have e:FN (x::l) n=FN l n+1:=by simp[FN,Z1,hx]
   simp only[Rj]
   rw[if_pos hx,e,List.take_succ_cons,List.drop_succ_cons,List.cons_append,ih]
  ·have e:FN (x::l) n=0:=by simp only[FN,Z1];rw[if_neg (by simpa using hx)]
   simp only[Rj]
   rw[if_neg hx,e];rfl
theorem ed {n:A9}{k:Int}{x:DI}:∀ {l:List DI},x∈Rj n k l↔x=⟨n,k⟩\/x∈l
 | []=>by simp[Rj]
 | y::l=>by
  simp only[Rj]
  split
  ·simp only[List.mem_cons,ed (l:=l)]
   constructor
   ·rintro (h | h | h)
    ·exact .inr (.inl h)
    ·exact .inl h
    ·exact .inr (.inr h)
   ·rintro (h | h | h)
    ·exact .inr (.inl h)
    ·exact .inl h
    ·exact .inr (.inr h)
  ·simp
theorem V9 {n:A9}{k:Int}:∀ {l:List DI},LK l->(∀ x∈l,x.name≠n)->LK (Rj n k l)
 | [],_,_=>by simp[Rj,LK]
 | x::l,hs,hn=>by
  obtain⟨h1,h2⟩:=List.pairwise_cons.1 hs
  simp only[Rj]
  split
  ·rename_i hx
   refine List.pairwise_cons.2 ⟨fun y hy=>?_,V9 h2 fun y hy=>hn y (by simp[hy])⟩
   rcases ed.1 hy with rfl | h
   ·exact hx
   ·exact h1 y h
  ·rename_i hx
   have hlt:n<x.name:=by
    rcases Classical.em (n<x.name)with h | h
    ·exact h
    ·exact absurd (YA hx h) (hn x (by simp))
   refine List.pairwise_cons.2 ⟨fun y hy=>?_,hs⟩
   rcases List.mem_cons.1 hy with rfl | h
   ·exact hlt
   ·exact Lf hlt (h1 y h)
theorem WS {n v:A9}{k:Int}:∀ {l:List DI},(∀ x∈l,x.name≠n)->IY (Rj n k l) v=if n=v then some k else IY l v
 | [],_=>by simp[Rj,IY]
 | x::l,hn=>by
  simp only[Rj]
  split
  ·simp only[IY]
   rw[WS fun y hy=>hn y (by simp[hy])]
   by_cases h:x.name=v
   ·rw[if_pos h,if_pos h,if_neg (fun e=>hn x (by simp) (h.trans e.symm))]
   ·rw[if_neg h,if_neg h]
  ·simp only[IY]
theorem jN {l:List DI}{n:A9}{x:DI}(hx:x∈l)(hn:x.name=n):IY l n≠none:=by
 induction l with
 | nil=>cases hx
 | cons y l ih =>
  simp only[IY]
  split
  ·simp
  ·rename_i h
   rcases List.mem_cons.1 hx with rfl | hx
   ·exact absurd hn h
   ·exact ih hx
def mk (m:TF):Bool:=m.any fun p=>marked p.1
def Rel (l:List DI)(m:TF):Prop:=LK l/\(∀ n,IY l n=(LX m n).map fun k:Nat=>(k:Int))/\mk m=false
theorem wf {m:TF}{n:A9}{k:Nat}(h:LX m n=some k)(hm:mk m=false):marked n=false:=by
 induction m with
 | nil=>cases h
 | cons p m ih =>
  simp only[mk,List.any_cons,Bool.or_eq_false_iff]at hm
  simp only[LX]at h
  split at h
  ·rename_i e;rw[<-e];exact hm.1
  ·exact ih h hm.2
theorem pd {m m':TF}{u:Term}(h:De m u=some m')(hm:mk m=true):mk m'=true:=by
 unfold De at h
 split at h
 ·cases h;exact hm
 ·split at h
  ·split at h
   ·cases h;exact hm
   ·cases h
  ·cases h
   simp only[mk,List.any_append,Bool.or_eq_true]at hm ⊢
   exact .inl hm
theorem Nx:∀ (l:List (List Int×Term)) {m m':TF},Dy m l=some m'->mk m=true->mk m'=true
 | [],m,m',h,hm=>by cases h;exact hm
 | x::l,m,m',h,hm=>by
  simp only[Dy]at h
  cases hs:De m x.2 with
  | none=>rw[hs]at h;cases h
  | some m1 =>
   rw[hs,Option.bind_some]at h
   exact Nx l h (pd hs hm)
def cV (o:Option TF)(s:List DI×Bool):Prop:=match o with
 | none=>s.2=false
 | some m=>if mk m then s.2=false else s.2=true/\Rel s.1 m
theorem eL (l:List DI)(n:A9)(k:Int)(hs:LK l):HQ l n k=if IY l n=none then Rj n k l else l:=by
 unfold HQ
 rw[Yf hs,cz]
 split
 ·simp
 ·simp
theorem AaX {l:List DI}{n:A9}{k:Int}:(l.take (FN l n)++⟨n,k⟩::l.drop (FN l n)).getD (FN l n) default=⟨n,k⟩:=by
 have hle:FN l n<=l.length:=U8 (fun x:DI=>decide (x.name<n)) l
 rw[List.getD_eq_getElem?_getD,List.getElem?_append_right (by simp;omega),List.length_take,Nat.min_eq_left hle]
 simp
mutual
theorem iR:∀ (t:Term)(p:List Int)(l:List DI)(m:TF),Rel l m->CI t=true->cV (Dy m (Ab t p)) (IT l t)
 | .mk n b ar,p,l,m,hR,hf=>by
  have ht:=F8 (.mk n b ar)
  rw[hf]at ht
  simp only[Term.var,Term.args,Term.name]at ht
  simp only[Hq,Dy,IT,Term.args]
  cases b with
  | true =>
   simp only[if_true]at ht
   have har:ar=[]:=by
    have:=ht.symm
    simp only[Bool.and_eq_true,decide_eq_true_eq]at this
    exact List.length_eq_zero_iff.1 (of_decide_eq_true this.1)
   subst har
   simp only[De,Term.var,if_true,Bb,Dy,Option.bind_some,cV,hR.2.2,Bool.false_eq_true,if_false]
   exact⟨trivial,hR⟩
  | false =>
   have hfs:Oi ar=true:=by
    rw[Vk]
    have:=ht.symm
    simp only[Bool.false_eq_true,if_false,Bool.and_eq_true]at this
    exact this.2.2
   simp only[Bool.false_eq_true,if_false]
   by_cases hmk:marked n=true
   ·rw[if_pos hmk]
    have hg:LX m n=none:=by
     cases hg:LX m n with
     | none=>rfl
     | some k=>rw[wf hg hR.2.2]at hmk;cases hmk
    have hst:De m (.mk n false ar)=some (m++[(n,ar.length)]):=by simp[De,Term.var,Term.name,Term.args,hg]
    rw[hst,Option.bind_some]
    have hm1:mk (m++[(n,ar.length)])=true:=by simp[mk,hmk]
    cases hr:Dy (m++[(n,ar.length)]) (Bb ar p 0)with
    | none=>rfl
    | some m'=>simp only[cV,Nx _ hr hm1,if_true]
   ·rw[if_neg hmk]
    have hg2:=hR.2.1 n
    have hat:=Yf (n:=n) hR.1
    cases hg:LX m n with
    | some k =>
     rw[hg]at hg2
     have hne:¬ IY l n=none:=by rw[hg2];simp
     have hins:HQ l n ar.length=l:=by rw[eL _ _ _ hR.1,if_neg hne]
     have har:(l.getD (FN l n) default).arity=k:=by
      rw[hg2]at hat
      split at hat
      ·simpa using hat.symm
      ·cases hat
     rw[hins,har]
     by_cases hk:k=ar.length
     ·have hst:De m (.mk n false ar)=some m:=by simp[De,Term.var,Term.name,Term.args,hg,hk]
      rw[hst,Option.bind_some,if_neg (by simp[hk])]
      exact dj ar p 0 l m hR hfs
     ·have hst:De m (.mk n false ar)=none:=by simp[De,Term.var,Term.name,Term.args,hg,hk]
      rw[hst,if_pos (by simp;omega)]
      rfl
    | none =>
     rw[hg]at hg2
     have hg2':IY l n=none:=hg2
     have hnm:∀ x∈l,x.name≠n:=fun x hx e=>jN hx e hg2'
     have hst:De m (.mk n false ar)=some (m++[(n,ar.length)]):=by simp[De,Term.var,Term.name,Term.args,hg]
     have hins:HQ l n ar.length=Rj n ar.length l:=by rw[eL _ _ _ hR.1,if_pos hg2']
     have hnew:((Rj n ar.length l).getD (FN l n) default).arity=ar.length:=by rw[<-cz,AaX]
     rw[hst,Option.bind_some,hins,hnew,if_neg (by simp)]
     refine dj ar p 0 _ _ ⟨V9 hR.1 hnm,fun v=>?_,?_⟩ hfs
     ·rw[WS hnm,eC,hR.2.1 v]
      by_cases e:n=v
      ·subst e;rw[if_pos rfl,if_pos rfl,hg];rfl
      ·rw[if_neg e,if_neg e];cases LX m v<;>rfl
     ·have:=hR.2.2
      simp only[mk]at this ⊢
      rw[List.any_append,this]
      simpa using hmk
theorem dj:∀ (ar:List Term)(p:List Int)(i:Nat)(l:List DI)(m:TF),Rel l m->Oi ar=true->cV (Dy m (Bb ar p i)) (Fi l ar)
 | [],p,i,l,m,hR,_=>by
  simp only[Bb,Dy,Fi,cV,hR.2.2,Bool.false_eq_true,if_false]
  exact⟨trivial,hR⟩
 | a::ar,p,i,l,m,hR,hf=>by
  simp only[Oi,Bool.and_eq_true]at hf
  have h1:=iR a (p++[(i:Int)]) l m hR hf.1
  simp only[Bb,KJ,Fi]
  cases hr:Dy m (Ab a (p++[(i:Int)]))with
  | none =>
   rw[hr]at h1
   rw[if_neg (by rw[show (IT l a).2=false from h1];simp)]
   rfl
  | some m1 =>
   rw[hr]at h1
   rw[Option.bind_some]
   simp only[cV]at h1
   by_cases hm1:mk m1=true
   ·rw[if_pos hm1]at h1
    rw[if_neg (by rw[h1];simp)]
    cases hr2:Dy m1 (Bb ar p (i+1))with
    | none=>rfl
    | some m'=>simp only[cV,Nx _ hr2 hm1,if_true]
   ·rw[if_neg hm1]at h1
    rw[if_pos h1.1]
    exact dj ar p (i+1) _ _ h1.2 hf.2
end
theorem lu:∀ (r:List A3)(l:List DI)(m:TF),Rel l m->(∀ x∈r,CI x.left=true/\CI x.right=true)->match CQ m r with
  | none=>(Mq l r).2=false
  | some m=>(Mq l r).2=!mk m
 | [],l,m,hR,_=>by simp only[CQ,Mq,hR.2.2];rfl
 | x::r,l,m,hR,hf=>by
  obtain⟨hf1,hf2⟩:=hf x (by simp)
  have h1:=iR x.left [] l m hR hf1
  have mono:∀ (r:List A3) {m m':TF},CQ m r=some m'->mk m=true->mk m'=true:=by
   intro r
   induction r with
   | nil=>intro m m' h hm;cases h;exact hm
   | cons y r ih =>
    intro m m' h hm
    simp only[CQ]at h
    cases ha:Dy m (Ab y.left [])with
    | none=>rw[ha]at h;cases h
    | some m1 =>
     rw[ha,Option.bind_some]at h
     cases hb:Dy m1 (Ab y.right [])with
     | none=>rw[hb]at h;cases h
     | some m2 =>
      rw[hb,Option.bind_some]at h
      exact ih h (Nx _ hb (Nx _ ha hm))
  simp only[CQ,Mq]
  cases ha:Dy m (Ab x.left [])with
  | none =>
   rw[ha]at h1
   have:(IT l x.left).2=false:=h1
   simp[this]
  | some m1 =>
   rw[ha]at h1
   simp only[cV]at h1
   rw[Option.bind_some]
   by_cases hm1:mk m1=true
   ·rw[if_pos hm1]at h1
    rw[if_neg (by rw[h1];simp)]
    cases hr:(Dy m1 (Ab x.right [])).bind fun m2=>CQ m2 r with
    | none=>rfl
    | some m' =>
     have:mk m'=true:=by
      cases hb:Dy m1 (Ab x.right [])with
      | none=>rw[hb]at hr;cases hr
      | some m2=>rw[hb,Option.bind_some]at hr;exact mono r hr (Nx _ hb hm1)
     simp[this]
   ·rw[if_neg hm1]at h1
    rw[if_pos h1.1]
    have h2:=iR x.right [] _ m1 h1.2 hf2
    cases hb:Dy m1 (Ab x.right [])with
    | none =>
     rw[hb]at h2
     have:(IT (IT l x.left).1 x.right).2=false:=h2
     simp[this]
    | some m2 =>
     rw[hb]at h2
     simp only[cV]at h2
     rw[Option.bind_some]
     by_cases hm2:mk m2=true
     ·rw[if_pos hm2]at h2
      rw[if_neg (by rw[h2];simp)]
      cases hr:CQ m2 r with
      | none=>rfl
      | some m'=>simp[mono r hr hm2]
     ·rw[if_neg hm2]at h2
      rw[if_pos h2.1]
      exact lu r _ _ h2.2 fun y hy=>hf y (by simp[hy])
theorem SP {t:Term}(h:DH t=0):CI t=true:=by
 unfold DH at h
 split at h
 ·assumption
 ·omega
theorem Mk:∀ {r:List A3},DC r=0->∀ x∈r,DH x.left=0/\DH x.right=0
 | [],_,x,hx=>by cases hx
 | y::r,h,x,hx=>by
  simp only[DC]at h
  split at h
  ·omega
  ·rename_i h1
   rcases List.mem_cons.1 hx with rfl | hx
   ·simp only[Jc,ne_eq,Classical.not_not]at h1
    split at h1
    ·omega
    ·rename_i h2
     split at h1
     ·omega
     ·rename_i h3
      exact⟨by simpa using h2,by simpa using h3⟩
   ·exact Mk h x hx
theorem Tc {r:List A3}(h:Bu r=0):∀ x∈r,DH x.left=0/\DH x.right=0:=by
 unfold Bu at h
 split at h
 ·omega
 ·exact Mk h
theorem W3 (r:List A3):KO r=Ao r:=by
 unfold KO Ao
 by_cases h1:Bu r=0
 ·rw[h1,if_neg (show ¬ ((0:Int)≠0) by simp),if_neg (show ¬ ((0:Int)≠0) by simp)]
  have hf:=Tc h1
  have:=lu r [] [] ⟨by simp[LK],fun n=>rfl,rfl⟩ fun x hx=>⟨SP (hf x hx).1,SP (hf x hx).2⟩
  rw[show r.any M8=r.any NY from by congr 1;funext x;exact tv x]
  cases ha:CQ [] r with
  | none=>rw[ha]at this;simp only at this;simp[this]
  | some m =>
   rw[ha]at this
   simp only at this
   rw[this]
   by_cases hk:(m.any fun p=>marked p.1)=true
   ·simp[mk,hk]
   ·simp[mk,hk]
 ·rw[if_pos (by simpa using h1),if_pos (by simpa using h1)]
theorem Tv (r:List A3)(hs:Mg r<2^38):PF Gg [As r] (.int .i64 (Ao r)):=W3 r▸RN r hs
end Go.Dw
end
namespace Go.Dw
mutual
def Pk (f:A1->Bool):A1->Bool
 | .mk k n v l=>f (.mk k n v l)&&kP f l
def kP (f:A1->Bool):List A1->Bool
 | []=>true
 | a::l=>Pk f a&&kP f l
end
theorem nJ (f:A1->Bool)(l:List A1):kP f l=l.all (Pk f):=by induction l with | nil=>rfl | cons a l ih=>simp[kP,ih]
theorem Hu (f:A1->Bool)(m:A1):Pk f m=(f m&&m.args.all (Pk f)):=by cases m;simp only[Pk,nJ,A1.args]
theorem WR {f:A1->Bool}{m a:A1}(h:Pk f m=true)(ha:a∈m.args):Pk f a=true:=by
 rw[Hu,Bool.and_eq_true]at h
 exact List.all_eq_true.1 h.2 a ha
theorem J4 {f:A1->Bool}{m:A1}(h:Pk f m=true):f m=true:=by
 rw[Hu,Bool.and_eq_true]at h;exact h.1
def EY (n:Nat)(m:A1):Bool:=decide (0<=m.rule)&&decide (m.rule<=n)
def C8 (r:List A3)(m:A1):A3:=r.getD (m.rule-1).toNat default
def Gb (r:List A3)(m:A1):Bool :=
 if 0<m.rule then decide (m.name=[])&&(!m.var&&decide (m.args.length=(AD [(C8 r m).left]).length))
 else if m.var then decide (m.args.length=0)&&CJ m.name false
 else decide (m.args.length<=8)&&CJ m.name true
def LF (r:List A3)(m:A1):Int :=
 if Ao r≠0 then Ao r else if Pk (EY r.length) m=false then 8 else if Pk (Gb r) m=false then 4 else if 4000<AV m\/200<E2 m then 3 else 0
mutual
def jC:A1->Nat
 | .mk k _ _ l=>(if k=0 then 0 else 1)+Wo l
def Wo:List A1->Nat
 | []=>0
 | a::l=>jC a+Wo l
end
mutual
theorem nV:∀ m,jC m<=AV m
 | .mk k n v l=>by simp only[jC,AV];have:=Wx l;split<;>omega
theorem Wx:∀ l,Wo l<=Bm l
 | []=>Nat.le_refl _
 | a::l=>by simp only[Wo,Bm];have:=nV a;have:=Wx l;omega
end
mutual
def F9:A1->Nat
 | .mk _ _ _ l=>HC 1 l
def HC (n:Nat):List A1->Nat
 | []=>n
 | a::l=>if 4000<n+F9 a then n+F9 a else HC (n+F9 a) l
end
theorem jg (m:A1):F9 m=HC 1 m.args:=by cases m;simp[F9,A1.args]
mutual
theorem XC:∀ m,F9 m<=AV m
 | .mk _ _ _ l=>by simp only[F9,AV];have:=aI l 1;omega
theorem aI:∀ (l:List A1)(n:Nat),HC n l<=n+Bm l
 | [],n=>by simp[HC,Bm]
 | a::l,n=>by
  simp only[HC,Bm]
  have h1:=XC a
  have h2:=aI l (n+F9 a)
  split<;>omega
end
mutual
theorem fF:∀ m,F9 m<=4000->F9 m=AV m
 | .mk _ _ _ l=>by simp only[F9,AV];exact fun h=>av l 1 h
theorem av:∀ (l:List A1)(n:Nat),HC n l<=4000->HC n l=n+Bm l
 | [],n=>by simp[HC,Bm]
 | a::l,n=>by
  simp only[HC,Bm]
  intro h
  split at h
  ·omega
  ·rename_i hc
   rw[if_neg hc]
   have:=fF a (by omega)
   rw[av l _ h];omega
end
theorem eo (m:A1):4000<F9 m↔4000<AV m:=by
 constructor
 ·intro h;have:=XC m;omega
 ·intro h
  by_cases hc:F9 m<=4000
  ·rw[fF m hc]at hc;omega
  ·omega
mutual
def Ab9:Term->A1
 | .mk n v l=>.mk 0 n v (ko l)
def ko:List Term->List A1
 | []=>[]
 | a::l=>Ab9 a::ko l
end
def XM (v:A9)(l:List A9):Nat:=(Mf (fun x=>decide (v=x)) l).toNat
theorem KK {v:A9}:∀ {l:List A9},v∈l->Mf (fun x=>decide (v=x)) l=XM v l/\XM v l<l.length/\l.getD (XM v l) default=v
 | [],h=>by cases h
 | x::l,h=>by
  unfold XM
  simp only[Mf]
  by_cases he:v=x
  ·subst he;simp
  ·have hm:v∈l:=(List.mem_cons.1 h).resolve_left he
   obtain⟨h1,h2,h3⟩:=KK hm
   have hd:decide (v=x)=false:=by simpa using he
   simp only[hd,Bool.false_eq_true,if_false]
   rw[h1]
   have hn:¬ ((XM v l:Nat):Int)<0:=by omega
   have h4:(((XM v l:Nat):Int)+1).toNat=XM v l+1:=by omega
   simp only[hn,if_false,h4,List.length_cons]
   refine⟨by omega,by omega,?_⟩
   simpa[List.getD_eq_getElem?_getD]using h3
mutual
def NA (vars:List A9)(x:List Term):Term->Term
 | .mk n v l=>if v then x.getD (XM n vars) default else .mk n false (cd vars x l)
def cd (vars:List A9)(x:List Term):List Term->List Term
 | []=>[]
 | a::l=>NA vars x a::cd vars x l
end
theorem jR (vars:List A9)(x:List Term)(l:List Term):cd vars x l=l.map (NA vars x):=by induction l with | nil=>rfl | cons a l ih=>simp[cd,ih]
theorem Yq (vars:List A9)(x:List Term)(t:Term):NA vars x t=if t.var then x.getD (XM t.name vars) default else .mk t.name false (t.args.map (NA vars x)):=by cases t;simp only[NA,jR,Term.name,Term.var,Term.args];rfl
mutual
def Az (r:List A3)(f:A3->Term):A1->Term
 | .mk k n v l=>if k=0 then .mk n v (Xe r f l) else NA (AD [(r.getD (k-1).toNat default).left]) (Xe r f l) (f (r.getD (k-1).toNat default))
def Xe (r:List A3)(f:A3->Term):List A1->List Term
 | []=>[]
 | a::l=>Az r f a::Xe r f l
end
theorem iP (r:List A3)(f:A3->Term)(l:List A1):Xe r f l=l.map (Az r f):=by induction l with | nil=>rfl | cons a l ih=>simp[Xe,ih]
theorem FL (r:List A3)(f:A3->Term)(m:A1):Az r f m=if m.rule=0 then .mk m.name m.var (m.args.map (Az r f)) else NA (AD [(C8 r m).left]) (m.args.map (Az r f)) (f (C8 r m)):=by cases m;simp only[Az,iP,A1.rule,A1.name,A1.var,A1.args,C8];rfl
def MX (r:List A3)(f:A3->Term)(m:A1):Option Term×Int :=
 if LF r m≠0 then (none,LF r m) else if BU (Az r f m) then (some (Az r f m),0) else (none,3)
structure Kc (r:List A3) (m:A1):Prop where
 rg:Pk (EY r.length) m=true
 fm:Pk (Gb r) m=true
theorem Kc.arg {r:List A3}{m a:A1}(h:Kc r m)(ha:a∈m.args):Kc r a:=⟨WR h.rg ha,WR h.fm ha⟩
theorem Uk {r:List A3}{m:A1}(h:LF r m=0):Ao r=0/\Kc r m/\AV m<=4000/\E2 m<=200:=by
 unfold LF at h
 split at h
 ·rename_i hc;exact absurd h hc
 ·rename_i h1
  split at h
  ·cases h
  ·rename_i h2
   split at h
   ·cases h
   ·rename_i h3
    split at h
    ·cases h
    ·exact⟨Classical.not_not.1 h1,⟨by simpa using h2,by simpa using h3⟩,by omega,by omega⟩
theorem Kc.rule {r:List A3}{m:A1}(h:Kc r m)(hr:m.rule≠0):0<m.rule/\m.rule<=r.length/\C8 r m∈r/\m.args.length=(AD [(C8 r m).left]).length/\m.name=[]/\m.var=false:=by
 have h1:=J4 h.rg
 have h2:=J4 h.fm
 unfold EY at h1
 rw[Bool.and_eq_true,decide_eq_true_eq,decide_eq_true_eq]at h1
 unfold Gb at h2
 rw[if_pos (by omega),Bool.and_eq_true,Bool.and_eq_true,decide_eq_true_eq,decide_eq_true_eq]at h2
 exact⟨by omega,h1.2,A4 (by omega),h2.2.2,h2.1,by simpa using h2.2.1⟩
theorem Kc.rule_pos {r:List A3}{m:A1}(h:Kc r m)(hr:m.rule≠0):0<m.rule:=(h.rule hr).1
theorem Ib {p:A1->Bool}{g:Nat}{caps:List V}(hc:∀ σ,AN σ caps=caps)(l:List A1)(hl:l.length<2^62)(h:∀ a∈l,PF g (Be a::caps) (.bool (p a))) :
  PF CO [Dp cM 4 l,.fn (.func g) [] caps] (.int .i64 (Mf p l)):=by
 refine Ad Bx.ok rfl ?_
 push_cast[hc]
 refine Ae (n:=l.length) (R:=fun k=>(∀ j,j<k->p (l.getD j default)=false)->Bx.L3 (Dp cM 4 l) (.fn (.func g) [] caps) (.int .i64 l.length) (.int .i64 k) 0 [] _) ?_ ?_ 0 (by omega) (by intro j hj;omega)
 ·intro k hk ih hq
  refine A7.2 ?_
  push_cast[BB hk,Xl,iV,hc]
  refine .of (h _ (A4 hk)) ?_
  push_cast[Co (show k<2^62 by omega),hc]
  refine⟨fun hp=>A0 ?_,fun hp=>?_⟩
  ·push_cast[Bx.rs]
   rw[HW hk hp hq]
  ·exact ih fun j hj=>by rcases Nat.lt_succ_iff_lt_or_eq.1 hj with h | rfl;exact hq j h;exact hp
 ·intro hq
  refine A7.2 ?_
  push_cast[AZ (Nat.le_refl _)]
  refine A0 ?_
  push_cast[Bx.rs]
  rw[HS hq]
theorem Hg {p:A1->Bool}{g:Nat}{caps:List V}(hc:∀ σ,AN σ caps=caps)(l:List A1)(hl:l.length<2^62)(h:∀ a∈l,PF g (Be a::caps) (.bool (p a))) :
  PF Cm [Dp cM 4 l,.fn (.func g) [] caps] (.bool (l.any p)):=by
 refine Ad CL.ok rfl ?_
 push_cast[hc]
 refine .of (Ib hc l hl h) ?_
 push_cast[hc]
 refine A0 ?_
 push_cast[CL.rs,Lx]
end Go.Dw
