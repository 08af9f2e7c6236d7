/-
  Contracts and lemmas for ResidualProjects: part g of 11.
-/
import Derived.Test.YtkdcfkfdkimaeaaGreatDoorPaf
import Derived.Test.YtkdcfkfdkimaeaaGreatDoorPae
import Derived.Test.YtkdcfkfdkimaeaaGreatDoorPad
import Derived.WalkKit
import Derived.Laws.MathBits
import Derived.Lib.LaidTab
import Derived.Stop.LaidErr
import Derived.Shelf.Strconv.Itoa4
import Derived.Test.YtkdcfkfdkimaeaaGreatDoorRows
import Derived.Ground.NamesProg
set_option linter.unusedVariables false
set_option linter.unusedSimpArgs false
set_option maxRecDepth 100000
section
namespace Go.Dw
open Go.Proofs (sortS)
def MD (l:List DH):List A2->List DH×Bool
 | []=>(l,true)
 | x::r=>if (Jg l x.left).2 then if (Jg (Jg l x.left).1 x.right).2 then MD (Jg (Jg l x.left).1 x.right).1 r else ([],false) else ([],false)
theorem Zn (r:List A2)(hs:KJ r<2^38):PF N8 [Al r] (.tup [Nc (MD [] r).1,.bool (MD [] r).2]):=by
 have hl:=Bl r
 have hw1:IntKind.i64.wrap 1=1:=Bn (by omega) (by omega)
 have hw2:IntKind.i64.wrap 2=2:=Bn (by omega) (by omega)
 refine Ab GD.ok rfl ?_
 push_cast
 rw[show (V.sl 2 []:V)=Nc [] from rfl]
 refine Ac (n:=r.length) (R:=fun k=>∀ l m,uW (2^39) m l->m+KJ (r.drop k)<2^38->MD l (r.drop k)=MD [] r->GD.L6 (Nc l) (Al r) (.int .i64 r.length) (.int .i64 k) 0 [] (Bo 0 GD.rs fun x' H'=>x'=.tup [Nc (MD [] r).1,.bool (MD [] r).2]/\H'=[])) ?_ ?_ 0 (by omega) [] 0 ⟨by simp,by simp⟩ (by simpa using hs) rfl
 ·intro k hk ih l m hf hm hq
  have hr:=Gi (A4 hk)
  rw[Ag hk]at hm hq
  simp only[KJ,MD]at hm hq
  generalize hx:r.getD k default=x at hm hq hr
  have s1:=AX x.left
  have s2:=AX x.right
  have hf1:=WT x.left m l hf (by omega)
  have hf2:=WT x.right _ _ hf1 (by omega)
  refine A5.2 ?_
  push_cast[BC hk,hx,ZS]
  refine A5.2 ?_
  push_cast
  refine .of (Ry x.left m l (by omega) (by omega) hf) ?_
  cases h1:(Jg l x.left).2 with
  | false =>
   rw[if_neg (by simp[h1])]at hq
   push_cast
   refine A1 ?_
   push_cast[GD.rs,<-hq]
   rfl
  | true =>
   rw[if_pos h1]at hq
   push_cast[hw1]
   refine A5.2 ?_
   push_cast
   refine .of (Ry x.right _ _ (by omega) (by omega) hf1) ?_
   cases h2:(Jg (Jg l x.left).1 x.right).2 with
   | false =>
    rw[if_neg (by simp[h2])]at hq
    push_cast
    refine A1 ?_
    push_cast[GD.rs,<-hq]
    rfl
   | true =>
    rw[if_pos h2]at hq
    push_cast[hw2]
    refine A5.2 ?_
    push_cast[CD (show k<2^62 by omega)]
    exact ih _ _ hf2 (by omega) hq
 ·intro l m hf hm hq
  refine A5.2 ?_
  push_cast[AZ (Nat.le_refl _)]
  refine A1 ?_
  rw[Ak]at hq
  push_cast[GD.rs,<-hq]
  exact⟨rfl,rfl⟩
def OM (x:A2):Bool:=x.left.var||!XG x.right x.left
def Lg (r:List A2):Int:=if Bt r≠0 then Bt r else if (MD [] r).2 then (if r.any OM then 7 else 0) else 6
theorem Sl (r:List A2)(hs:KJ r<2^38):PF Eo [Al r] (.int .i64 (Lg r)):=by
 have hl:=Bl r
 refine Ab CS.ok rfl ?_
 push_cast
 refine .of (ez r (by omega)) ?_
 unfold Lg
 by_cases h1:Bt r=0
 ·rw[if_neg (by simpa using h1)]
  push_cast[h1]
  refine .of (Zn r hs) ?_
  cases h2:(MD [] r).2 with
  | false =>
   push_cast
   refine A1 ?_
   push_cast[CS.rs]
  | true =>
   push_cast
   refine Ac (n:=r.length) (R:=fun k=>(r.drop k).any OM=r.any OM->CS.L3 (Al r) (.int .i64 r.length) (.int .i64 k) 0 [] _) ?_ ?_ 0 (by omega) rfl
   ·intro k hk ih hq
    have hr:=Gi (A4 hk)
    rw[Ag hk]at hq
    simp only[List.any_cons]at hq
    generalize hx:r.getD k default=x at hq hr
    refine A5.2 ?_
    cases hv:x.left.var with
    | true =>
     push_cast[BC hk,hx,hv]
     refine A1 ?_
     push_cast[CS.rs,<-hq,OM,hv]
     simp
    | false =>
     push_cast[BC hk,hx,hv]
     refine .of (dF _ _ (by omega) (by omega)) ?_
     cases hw:XG x.right x.left with
     | false =>
      push_cast
      refine A1 ?_
      push_cast[CS.rs,<-hq,OM,hv,hw]
      rfl
     | true =>
      push_cast[CD (show k<2^62 by omega)]
      exact ih (by rw[<-hq];simp[OM,hv,hw])
   ·intro hq
    rw[Ak]at hq
    refine A5.2 ?_
    push_cast[AZ (Nat.le_refl _)]
    refine A1 ?_
    push_cast[CS.rs,<-hq]
    rfl
 ·rw[if_pos h1]
  push_cast[h1]
  refine A1 ?_
  push_cast[CS.rs]
theorem Qn (v:A9):∀ (l ks:List A9),v∈l.foldl Wo ks↔v∈ks\/v∈l
 | [],ks=>by simp
 | x::l,ks=>by
  rw[List.foldl_cons,Qn v l]
  unfold Wo
  split
  ·rename_i h
   simp only[List.mem_cons]
   constructor
   ·rintro (h1 | h1)
    ·exact .inl h1
    ·exact .inr (.inr h1)
   ·rintro (h1 | rfl | h1)
    ·exact .inl h1
    ·exact .inl h
    ·exact .inr h1
  ·simp[or_assoc]
theorem ef (x:List Int×Term)(l:List (List Int×Term)):Gb (x::l)=if x.2.var then x.2.name::Gb l else Gb l:=by
 unfold Gb;rw[List.filter_cons];split<;>rfl
theorem Zh (a b:List (List Int×Term)):Gb (a++b)=Gb a++Gb b:=by
 unfold Gb;rw[List.filter_append,List.map_append]
mutual
theorem Ya (v:A9):∀ (t:Term)(p:List Int),v∈Gb (Aq t p)↔CI v t=true
 | .mk n b ar,p=>by
  have h:=Vw v ar p 0
  rw[Ht,ef]
  cases b
  ·rw[if_neg (by simp[Term.var])]
   simpa[CI,Term.args]using h
  ·rw[if_pos (by simp[Term.var])]
   simp only[CI,Bool.true_and,Bool.or_eq_true,decide_eq_true_eq,List.mem_cons,<-h]
   exact⟨fun h=>h.imp (fun e=>e.symm) id,fun h=>h.imp (fun e=>e.symm) id⟩
theorem Vw (v:A9):∀ (ar:List Term)(p:List Int)(i:Nat),v∈Gb (B9 ar p i)↔EW v ar=true
 | [],p,i=>by simp[B9,Gb,EW]
 | a::ar,p,i=>by
  have h1:=Ya v a (p++[(i:Int)])
  have h2:=Vw v ar p (i+1)
  simp only[B9,Zh,List.mem_append,h1,h2,EW,Bool.or_eq_true]
end
theorem E5 (v:A9)(t:Term):v∈AA [t]↔CI v t=true:=by
 unfold AA
 rw[show (v∈sortS (I7 [] [t]))↔v∈I7 [] [t] from (List.mergeSort_perm _ _).mem_iff]
 simp only[I7,List.foldl_cons,List.foldl_nil,Rl,Qn,Ya,List.not_mem_nil,false_or]
theorem qL (x:A2):Mc x=OM x:=by
 unfold Mc OM XG
 congr 1
 rw[Bool.eq_iff_iff]
 simp only[List.any_eq_true,Bool.not_eq_true',decide_eq_false_iff_not,E5,List.all_eq_false,Ed,Fw,List.not_mem_nil,false_or]
theorem gj (m:TD)(n v:A9)(k:Nat):Mi (m++[(n,k)]) v=match Mi m v with | some a=>some a | none=>if n=v then some k else none:=by
 induction m with
 | nil=>simp[Mi]
 | cons p m ih =>
  simp only[List.cons_append,Mi]
  split
  ·rfl
  ·exact ih
def Jk:List DH->A9->Option Int
 | [],_=>none
 | x::l,n=>if x.name=n then some x.arity else Jk l n
abbrev Mh (l:List DH):Prop:=l.Pairwise fun a b=>a.name<b.name
theorem jU {l:List DH}{n:A9}(h:∀ x∈l,x.name≠n):Jk l n=none:=by
 induction l with
 | nil=>rfl
 | cons x l ih=>simp only[Jk];rw[if_neg (h x (by simp))];exact ih fun y hy=>h y (by simp[hy])
theorem Yc {n:A9}:∀ {l:List DH},Mh l->Jk l n=if FO l n<l.length/\(l.getD (FO l n) default).name=n then some (l.getD (FO l n) default).arity else none
 | [],_=>by simp[Jk]
 | x::l,hs=>by
  obtain⟨h1,h2⟩:=List.pairwise_cons.1 hs
  have ih:=Yc (n:=n) h2
  by_cases hx:x.name<n
  ·have e:FO (x::l) n=FO l n+1:=by simp[FO,Zx,hx]
   simp only[Jk,e]
   rw[if_neg (fun e2:x.name=n=>DB n (by rw[e2]at hx;exact hx)),ih]
   simp
  ·have e:FO (x::l) n=0:=by simp only[FO,Zx];rw[if_neg (by simpa using hx)]
   simp only[Jk,e]
   by_cases he:x.name=n
   ·simp[he]
   ·rw[if_neg he]
    simp only[List.length_cons,Nat.zero_lt_succ,true_and,List.getD_cons_zero,he,if_false]
    refine jU fun y hy e=>?_
    have:=h1 y hy
    rw[e]at this
    exact hx this
def Rq (n:A9)(k:Int):List DH->List DH
 | []=>[⟨n,k⟩]
 | x::l=>if x.name<n then x::Rq n k l else ⟨n,k⟩::x::l
theorem ce (n:A9)(k:Int):∀ l:List DH,l.take (FO l n)++⟨n,k⟩::l.drop (FO l n)=Rq n k l
 | []=>rfl
 | x::l=>by
  have ih:=ce n k l
  by_cases hx:x.name<n
  ·have e:FO (x::l) n=FO l n+1:=by simp[FO,Zx,hx]
   simp only[Rq]
   rw[if_pos hx,e,List.take_succ_cons,List.drop_succ_cons,List.cons_append,ih]
  ·have e:FO (x::l) n=0:=by simp only[FO,Zx];rw[if_neg (by simpa using hx)]
   simp only[Rq]
   rw[if_neg hx,e];rfl
theorem ee {n:A9}{k:Int}{x:DH}:∀ {l:List DH},x∈Rq n k l↔x=⟨n,k⟩\/x∈l
 | []=>by simp[Rq]
 | y::l=>by
  simp only[Rq]
  split
  ·simp only[List.mem_cons,ee (l:=l)]
   constructor
   ·rintro (h | h | h)
    ·exact .inr (.inl h)
    ·exact .inl h
    ·exact .inr (.inr h)
   ·rintro (h | h | h)
    ·exact .inr (.inl h)
    ·exact .inl h
    ·exact .inr (.inr h)
  ·simp
theorem Vm {n:A9}{k:Int}:∀ {l:List DH},Mh l->(∀ x∈l,x.name≠n)->Mh (Rq n k l)
 | [],_,_=>by simp[Rq,Mh]
 | x::l,hs,hn=>by
  obtain⟨h1,h2⟩:=List.pairwise_cons.1 hs
  simp only[Rq]
  split
  ·rename_i hx
   refine List.pairwise_cons.2 ⟨fun y hy=>?_,Vm h2 fun y hy=>hn y (by simp[hy])⟩
   rcases ee.1 hy with rfl | h
   ·exact hx
   ·exact h1 y h
  ·rename_i hx
   have hlt:n<x.name:=by
    rcases Classical.em (n<x.name)with h | h
    ·exact h
    ·exact absurd (Xg hx h) (hn x (by simp))
   refine List.pairwise_cons.2 ⟨fun y hy=>?_,hs⟩
   rcases List.mem_cons.1 hy with rfl | h
   ·exact hlt
   ·exact NE hlt (h1 y h)
theorem YU {n v:A9}{k:Int}:∀ {l:List DH},(∀ x∈l,x.name≠n)->Jk (Rq n k l) v=if n=v then some k else Jk l v
 | [],_=>by simp[Rq,Jk]
 | x::l,hn=>by
  simp only[Rq]
  split
  ·simp only[Jk]
   rw[YU fun y hy=>hn y (by simp[hy])]
   by_cases h:x.name=v
   ·rw[if_pos h,if_pos h,if_neg (fun e=>hn x (by simp) (h.trans e.symm))]
   ·rw[if_neg h,if_neg h]
  ·simp only[Jk]
theorem iw {l:List DH}{n:A9}{x:DH}(hx:x∈l)(hn:x.name=n):Jk l n≠none:=by
 induction l with
 | nil=>cases hx
 | cons y l ih =>
  simp only[Jk]
  split
  ·simp
  ·rename_i h
   rcases List.mem_cons.1 hx with rfl | hx
   ·exact absurd hn h
   ·exact ih hx
def mk (m:TD):Bool:=m.any fun p=>marked p.1
def Rel (l:List DH)(m:TD):Prop:=Mh l/\(∀ n,Jk l n=(Mi m n).map fun k:Nat=>(k:Int))/\mk m=false
theorem yD {m:TD}{n:A9}{k:Nat}(h:Mi m n=some k)(hm:mk m=false):marked n=false:=by
 induction m with
 | nil=>cases h
 | cons p m ih =>
  simp only[mk,List.any_cons,Bool.or_eq_false_iff]at hm
  simp only[Mi]at h
  split at h
  ·rename_i e;rw[<-e];exact hm.1
  ·exact ih h hm.2
theorem oN {m m':TD}{u:Term}(h:Dc m u=some m')(hm:mk m=true):mk m'=true:=by
 unfold Dc at h
 split at h
 ·cases h;exact hm
 ·split at h
  ·split at h
   ·cases h;exact hm
   ·cases h
  ·cases h
   simp only[mk,List.any_append,Bool.or_eq_true]at hm ⊢
   exact .inl hm
theorem NG:∀ (l:List (List Int×Term)) {m m':TD},Dt m l=some m'->mk m=true->mk m'=true
 | [],m,m',h,hm=>by cases h;exact hm
 | x::l,m,m',h,hm=>by
  simp only[Dt]at h
  cases hs:Dc m x.2 with
  | none=>rw[hs]at h;cases h
  | some m1 =>
   rw[hs,Option.bind_some]at h
   exact NG l h (oN hs hm)
def dE (o:Option TD)(s:List DH×Bool):Prop:=match o with
 | none=>s.2=false
 | some m=>if mk m then s.2=false else s.2=true/\Rel s.1 m
theorem fJ (l:List DH)(n:A9)(k:Int)(hs:Mh l):Ih l n k=if Jk l n=none then Rq n k l else l:=by
 unfold Ih
 rw[Yc hs,ce]
 split
 ·simp
 ·simp
theorem AcC {l:List DH}{n:A9}{k:Int}:(l.take (FO l n)++⟨n,k⟩::l.drop (FO l n)).getD (FO l n) default=⟨n,k⟩:=by
 have hle:FO l n<=l.length:=Ur (fun x:DH=>decide (x.name<n)) l
 rw[List.getD_eq_getElem?_getD,List.getElem?_append_right (by simp;omega),List.length_take,Nat.min_eq_left hle]
 simp
mutual
theorem jQ:∀ (t:Term)(p:List Int)(l:List DH)(m:TD),Rel l m->Db t=true->dE (Dt m (Aq t p)) (Jg l t)
 | .mk n b ar,p,l,m,hR,hf=>by
  have ht:=EX (.mk n b ar)
  rw[hf]at ht
  simp only[Term.var,Term.args,Term.name]at ht
  simp only[Ht,Dt,Jg,Term.args]
  cases b with
  | true =>
   simp only[if_true]at ht
   have har:ar=[]:=by
    have:=ht.symm
    simp only[Bool.and_eq_true,decide_eq_true_eq]at this
    exact List.length_eq_zero_iff.1 (of_decide_eq_true this.1)
   subst har
   simp only[Dc,Term.var,if_true,B9,Dt,Option.bind_some,dE,hR.2.2,Bool.false_eq_true,if_false]
   exact⟨trivial,hR⟩
  | false =>
   have hfs:P1 ar=true:=by
    rw[VJ]
    have:=ht.symm
    simp only[Bool.false_eq_true,if_false,Bool.and_eq_true]at this
    exact this.2.2
   simp only[Bool.false_eq_true,if_false]
   by_cases hmk:marked n=true
   ·rw[if_pos hmk]
    have hg:Mi m n=none:=by
     cases hg:Mi m n with
     | none=>rfl
     | some k=>rw[yD hg hR.2.2]at hmk;cases hmk
    have hst:Dc m (.mk n false ar)=some (m++[(n,ar.length)]):=by simp[Dc,Term.var,Term.name,Term.args,hg]
    rw[hst,Option.bind_some]
    have hm1:mk (m++[(n,ar.length)])=true:=by simp[mk,hmk]
    cases hr:Dt (m++[(n,ar.length)]) (B9 ar p 0)with
    | none=>rfl
    | some m'=>simp only[dE,NG _ hr hm1,if_true]
   ·rw[if_neg hmk]
    have hg2:=hR.2.1 n
    have hat:=Yc (n:=n) hR.1
    cases hg:Mi m n with
    | some k =>
     rw[hg]at hg2
     have hne:¬ Jk l n=none:=by rw[hg2];simp
     have hins:Ih l n ar.length=l:=by rw[fJ _ _ _ hR.1,if_neg hne]
     have har:(l.getD (FO l n) default).arity=k:=by
      rw[hg2]at hat
      split at hat
      ·simpa using hat.symm
      ·cases hat
     rw[hins,har]
     by_cases hk:k=ar.length
     ·have hst:Dc m (.mk n false ar)=some m:=by simp[Dc,Term.var,Term.name,Term.args,hg,hk]
      rw[hst,Option.bind_some,if_neg (by simp[hk])]
      exact bX ar p 0 l m hR hfs
     ·have hst:Dc m (.mk n false ar)=none:=by simp[Dc,Term.var,Term.name,Term.args,hg,hk]
      rw[hst,if_pos (by simp;omega)]
      rfl
    | none =>
     rw[hg]at hg2
     have hg2':Jk l n=none:=hg2
     have hnm:∀ x∈l,x.name≠n:=fun x hx e=>iw hx e hg2'
     have hst:Dc m (.mk n false ar)=some (m++[(n,ar.length)]):=by simp[Dc,Term.var,Term.name,Term.args,hg]
     have hins:Ih l n ar.length=Rq n ar.length l:=by rw[fJ _ _ _ hR.1,if_pos hg2']
     have hnew:((Rq n ar.length l).getD (FO l n) default).arity=ar.length:=by rw[<-ce,AcC]
     rw[hst,Option.bind_some,hins,hnew,if_neg (by simp)]
     refine bX ar p 0 _ _ ⟨Vm hR.1 hnm,fun v=>?_,?_⟩ hfs
     ·rw[YU hnm,gj,hR.2.1 v]
      by_cases e:n=v
      ·subst e;rw[if_pos rfl,if_pos rfl,hg];rfl
      ·rw[if_neg e,if_neg e];cases Mi m v<;>rfl
     ·have:=hR.2.2
      simp only[mk]at this ⊢
      rw[List.any_append,this]
      simpa using hmk
theorem bX:∀ (ar:List Term)(p:List Int)(i:Nat)(l:List DH)(m:TD),Rel l m->P1 ar=true->dE (Dt m (B9 ar p i)) (Fk l ar)
 | [],p,i,l,m,hR,_=>by
  simp only[B9,Dt,Fk,dE,hR.2.2,Bool.false_eq_true,if_false]
  exact⟨trivial,hR⟩
 | a::ar,p,i,l,m,hR,hf=>by
  simp only[P1,Bool.and_eq_true]at hf
  have h1:=jQ a (p++[(i:Int)]) l m hR hf.1
  simp only[B9,KM,Fk]
  cases hr:Dt m (Aq a (p++[(i:Int)]))with
  | none =>
   rw[hr]at h1
   rw[if_neg (by rw[show (Jg l a).2=false from h1];simp)]
   rfl
  | some m1 =>
   rw[hr]at h1
   rw[Option.bind_some]
   simp only[dE]at h1
   by_cases hm1:mk m1=true
   ·rw[if_pos hm1]at h1
    rw[if_neg (by rw[h1];simp)]
    cases hr2:Dt m1 (B9 ar p (i+1))with
    | none=>rfl
    | some m'=>simp only[dE,NG _ hr2 hm1,if_true]
   ·rw[if_neg hm1]at h1
    rw[if_pos h1.1]
    exact bX ar p (i+1) _ _ h1.2 hf.2
end
theorem kM:∀ (r:List A2)(l:List DH)(m:TD),Rel l m->(∀ x∈r,Db x.left=true/\Db x.right=true)->match CN m r with
  | none=>(MD l r).2=false
  | some m=>(MD l r).2=!mk m
 | [],l,m,hR,_=>by simp only[CN,MD,hR.2.2];rfl
 | x::r,l,m,hR,hf=>by
  obtain⟨hf1,hf2⟩:=hf x (by simp)
  have h1:=jQ x.left [] l m hR hf1
  have mono:∀ (r:List A2) {m m':TD},CN m r=some m'->mk m=true->mk m'=true:=by
   intro r
   induction r with
   | nil=>intro m m' h hm;cases h;exact hm
   | cons y r ih =>
    intro m m' h hm
    simp only[CN]at h
    cases ha:Dt m (Aq y.left [])with
    | none=>rw[ha]at h;cases h
    | some m1 =>
     rw[ha,Option.bind_some]at h
     cases hb:Dt m1 (Aq y.right [])with
     | none=>rw[hb]at h;cases h
     | some m2 =>
      rw[hb,Option.bind_some]at h
      exact ih h (NG _ hb (NG _ ha hm))
  simp only[CN,MD]
  cases ha:Dt m (Aq x.left [])with
  | none =>
   rw[ha]at h1
   have:(Jg l x.left).2=false:=h1
   simp[this]
  | some m1 =>
   rw[ha]at h1
   simp only[dE]at h1
   rw[Option.bind_some]
   by_cases hm1:mk m1=true
   ·rw[if_pos hm1]at h1
    rw[if_neg (by rw[h1];simp)]
    cases hr:(Dt m1 (Aq x.right [])).bind fun m2=>CN m2 r with
    | none=>rfl
    | some m' =>
     have:mk m'=true:=by
      cases hb:Dt m1 (Aq x.right [])with
      | none=>rw[hb]at hr;cases hr
      | some m2=>rw[hb,Option.bind_some]at hr;exact mono r hr (NG _ hb hm1)
     simp[this]
   ·rw[if_neg hm1]at h1
    rw[if_pos h1.1]
    have h2:=jQ x.right [] _ m1 h1.2 hf2
    cases hb:Dt m1 (Aq x.right [])with
    | none =>
     rw[hb]at h2
     have:(Jg (Jg l x.left).1 x.right).2=false:=h2
     simp[this]
    | some m2 =>
     rw[hb]at h2
     simp only[dE]at h2
     rw[Option.bind_some]
     by_cases hm2:mk m2=true
     ·rw[if_pos hm2]at h2
      rw[if_neg (by rw[h2];simp)]
      cases hr:CN m2 r with
      | none=>rfl
      | some m'=>simp[mono r hr hm2]
     ·rw[if_neg hm2]at h2
      rw[if_pos h2.1]
      exact kM r _ _ h2.2 fun y hy=>hf y (by simp[hy])
theorem T6 {t:Term}(h:FQ t=0):Db t=true:=by
 unfold FQ at h
 split at h
 ·assumption
 ·omega
theorem MH:∀ {r:List A2},Dx r=0->∀ x∈r,FQ x.left=0/\FQ x.right=0
 | [],_,x,hx=>by cases hx
 | y::r,h,x,hx=>by
  simp only[Dx]at h
  split at h
  ·omega
  ·rename_i h1
   rcases List.mem_cons.1 hx with rfl | hx
   ·simp only[Jt,ne_eq,Classical.not_not]at h1
    split at h1
    ·omega
    ·rename_i h2
     split at h1
     ·omega
     ·rename_i h3
      exact⟨by simpa using h2,by simpa using h3⟩
   ·exact MH h x hx
theorem Ty {r:List A2}(h:Bt r=0):∀ x∈r,FQ x.left=0/\FQ x.right=0:=by
 unfold Bt at h
 split at h
 ·omega
 ·exact MH h
theorem Wd (r:List A2):Lg r=Ao r:=by
 unfold Lg Ao
 by_cases h1:Bt r=0
 ·rw[h1,if_neg (show ¬ ((0:Int)≠0) by simp),if_neg (show ¬ ((0:Int)≠0) by simp)]
  have hf:=Ty h1
  have:=kM r [] [] ⟨by simp[Mh],fun n=>rfl,rfl⟩ fun x hx=>⟨T6 (hf x hx).1,T6 (hf x hx).2⟩
  rw[show r.any Mc=r.any OM from by congr 1;funext x;exact qL x]
  cases ha:CN [] r with
  | none=>rw[ha]at this;simp only at this;simp[this]
  | some m =>
   rw[ha]at this
   simp only at this
   rw[this]
   by_cases hk:(m.any fun p=>marked p.1)=true
   ·simp[mk,hk]
   ·simp[mk,hk]
 ·rw[if_pos (by simpa using h1),if_pos (by simpa using h1)]
theorem MF (r:List A2)(hs:KJ r<2^38):PF Eo [Al r] (.int .i64 (Ao r)):=Wd r▸Sl r hs
end Go.Dw
end
namespace Go.Dw
mutual
def Gp (f:A0->Bool):A0->Bool
 | .mk k n v l=>f (.mk k n v l)&&mj f l
def mj (f:A0->Bool):List A0->Bool
 | []=>true
 | a::l=>Gp f a&&mj f l
end
theorem nC (f:A0->Bool)(l:List A0):mj f l=l.all (Gp f):=by induction l with | nil=>rfl | cons a l ih=>simp[mj,ih]
theorem He (f:A0->Bool)(m:A0):Gp f m=(f m&&m.args.all (Gp f)):=by cases m;simp only[Gp,nC,A0.args]
theorem NI {f:A0->Bool}{m a:A0}(h:Gp f m=true)(ha:a∈m.args):Gp f a=true:=by
 rw[He,Bool.and_eq_true]at h
 exact List.all_eq_true.1 h.2 a ha
theorem F5 {f:A0->Bool}{m:A0}(h:Gp f m=true):f m=true:=by
 rw[He,Bool.and_eq_true]at h;exact h.1
def Cb (n:Nat)(m:A0):Bool:=decide (0<=m.rule)&&decide (m.rule<=n)
def At (r:List A2)(m:A0):A2:=r.getD (m.rule-1).toNat default
def Bv (r:List A2)(m:A0):Bool :=
 if 0<m.rule then decide (m.name=[])&&(!m.var&&decide (m.args.length=(AA [(At r m).left]).length))
 else if m.var then decide (m.args.length=0)&&BW m.name false
 else decide (m.args.length<=8)&&BW m.name true
def FC (r:List A2)(m:A0):Int :=
 if Ao r≠0 then Ao r else if Gp (Cb r.length) m=false then 8 else if Gp (Bv r) m=false then 4 else if 4000<As m\/200<AR m then 3 else 0
mutual
def ja:A0->Nat
 | .mk k _ _ l=>(if k=0 then 0 else 1)+WP l
def WP:List A0->Nat
 | []=>0
 | a::l=>ja a+WP l
end
mutual
theorem mV:∀ m,ja m<=As m
 | .mk k n v l=>by simp only[ja,As];have:=Ys l;split<;>omega
theorem Ys:∀ l,WP l<=BB l
 | []=>Nat.le_refl _
 | a::l=>by simp only[WP,BB];have:=mV a;have:=Ys l;omega
end
mutual
def CH:A0->Nat
 | .mk _ _ _ l=>E7 1 l
def E7 (n:Nat):List A0->Nat
 | []=>n
 | a::l=>if 4000<n+CH a then n+CH a else E7 (n+CH a) l
end
theorem SB (m:A0):CH m=E7 1 m.args:=by cases m;simp[CH,A0.args]
mutual
theorem XF:∀ m,CH m<=As m
 | .mk _ _ _ l=>by simp only[CH,As];have:=au l 1;omega
theorem au:∀ (l:List A0)(n:Nat),E7 n l<=n+BB l
 | [],n=>by simp[E7,BB]
 | a::l,n=>by
  simp only[E7,BB]
  have h1:=XF a
  have h2:=au l (n+CH a)
  split<;>omega
end
mutual
theorem eO:∀ m,CH m<=4000->CH m=As m
 | .mk _ _ _ l=>by simp only[CH,As];exact fun h=>aJ l 1 h
theorem aJ:∀ (l:List A0)(n:Nat),E7 n l<=4000->E7 n l=n+BB l
 | [],n=>by simp[E7,BB]
 | a::l,n=>by
  simp only[E7,BB]
  intro h
  split at h
  ·omega
  ·rename_i hc
   rw[if_neg hc]
   have:=eO a (by omega)
   rw[aJ l _ h];omega
end
theorem XJ (m:A0):4000<CH m↔4000<As m:=by
 constructor
 ·intro h;have:=XF m;omega
 ·intro h
  by_cases hc:CH m<=4000
  ·rw[eO m hc]at hc;omega
  ·omega
mutual
def AcH:Term->A0
 | .mk n v l=>.mk 0 n v (my l)
def my:List Term->List A0
 | []=>[]
 | a::l=>AcH a::my l
end
def Mu (v:A9)(l:List A9):Nat:=(Ld (fun x=>decide (v=x)) l).toNat
theorem Gc {v:A9}:∀ {l:List A9},v∈l->Ld (fun x=>decide (v=x)) l=Mu v l/\Mu v l<l.length/\l.getD (Mu v l) default=v
 | [],h=>by cases h
 | x::l,h=>by
  unfold Mu
  simp only[Ld]
  by_cases he:v=x
  ·subst he;simp
  ·have hm:v∈l:=(List.mem_cons.1 h).resolve_left he
   obtain⟨h1,h2,h3⟩:=Gc hm
   have hd:decide (v=x)=false:=by simpa using he
   simp only[hd,Bool.false_eq_true,if_false]
   rw[h1]
   have hn:¬ ((Mu v l:Nat):Int)<0:=by omega
   have h4:(((Mu v l:Nat):Int)+1).toNat=Mu v l+1:=by omega
   simp only[hn,if_false,h4,List.length_cons]
   refine⟨by omega,by omega,?_⟩
   simpa[List.getD_eq_getElem?_getD]using h3
mutual
def D7 (vars:List A9)(x:List Term):Term->Term
 | .mk n v l=>if v then x.getD (Mu n vars) default else .mk n false (dg vars x l)
def dg (vars:List A9)(x:List Term):List Term->List Term
 | []=>[]
 | a::l=>D7 vars x a::dg vars x l
end
theorem jv (vars:List A9)(x:List Term)(l:List Term):dg vars x l=l.map (D7 vars x):=by induction l with | nil=>rfl | cons a l ih=>simp[dg,ih]
theorem M6 (vars:List A9)(x:List Term)(t:Term):D7 vars x t=if t.var then x.getD (Mu t.name vars) default else .mk t.name false (t.args.map (D7 vars x)):=by cases t;simp only[D7,jv,Term.name,Term.var,Term.args];rfl
mutual
def Ad (r:List A2)(f:A2->Term):A0->Term
 | .mk k n v l=>if k=0 then .mk n v (Z0 r f l) else D7 (AA [(r.getD (k-1).toNat default).left]) (Z0 r f l) (f (r.getD (k-1).toNat default))
def Z0 (r:List A2)(f:A2->Term):List A0->List Term
 | []=>[]
 | a::l=>Ad r f a::Z0 r f l
end
theorem iH (r:List A2)(f:A2->Term)(l:List A0):Z0 r f l=l.map (Ad r f):=by induction l with | nil=>rfl | cons a l ih=>simp[Z0,ih]
theorem DK (r:List A2)(f:A2->Term)(m:A0):Ad r f m=if m.rule=0 then .mk m.name m.var (m.args.map (Ad r f)) else D7 (AA [(At r m).left]) (m.args.map (Ad r f)) (f (At r m)):=by cases m;simp only[Ad,iH,A0.rule,A0.name,A0.var,A0.args,At];rfl
def Ga (r:List A2)(f:A2->Term)(m:A0):Option Term×Int :=
 if FC r m≠0 then (none,FC r m) else if BJ (Ad r f m) then (some (Ad r f m),0) else (none,3)
structure Hm (r:List A2) (m:A0):Prop where
 rg:Gp (Cb r.length) m=true
 fm:Gp (Bv r) m=true
theorem Hm.arg {r:List A2}{m a:A0}(h:Hm r m)(ha:a∈m.args):Hm r a:=⟨NI h.rg ha,NI h.fm ha⟩
theorem GY {r:List A2}{m:A0}(h:FC r m=0):Ao r=0/\Hm r m/\As m<=4000/\AR m<=200:=by
 unfold FC at h
 split at h
 ·rename_i hc;exact absurd h hc
 ·rename_i h1
  split at h
  ·cases h
  ·rename_i h2
   split at h
   ·cases h
   ·rename_i h3
    split at h
    ·cases h
    ·exact⟨Classical.not_not.1 h1,⟨by simpa using h2,by simpa using h3⟩,by omega,by omega⟩
theorem Hm.rule {r:List A2}{m:A0}(h:Hm r m)(hr:m.rule≠0):0<m.rule/\m.rule<=r.length/\At r m∈r/\m.args.length=(AA [(At r m).left]).length/\m.name=[]/\m.var=false:=by
 have h1:=F5 h.rg
 have h2:=F5 h.fm
 unfold Cb at h1
 rw[Bool.and_eq_true,decide_eq_true_eq,decide_eq_true_eq]at h1
 unfold Bv at h2
 rw[if_pos (by omega),Bool.and_eq_true,Bool.and_eq_true,decide_eq_true_eq,decide_eq_true_eq]at h2
 exact⟨by omega,h1.2,A4 (by omega),h2.2.2,h2.1,by simpa using h2.2.1⟩
theorem Hm.rule_pos {r:List A2}{m:A0}(h:Hm r m)(hr:m.rule≠0):0<m.rule:=(h.rule hr).1
theorem Iy {p:A0->Bool}{g:Nat}{caps:List V}(hc:∀ σ,AS σ caps=caps)(l:List A0)(hl:l.length<2^62)(h:∀ a∈l,PF g (AP a::caps) (.bool (p a))) :
  PF CK [DT cM 4 l,.fn (.func g) [] caps] (.int .i64 (Ld p l)):=by
 refine Ab Bz.ok rfl ?_
 push_cast[hc]
 refine Ac (n:=l.length) (R:=fun k=>(∀ j,j<k->p (l.getD j default)=false)->Bz.L3 (DT cM 4 l) (.fn (.func g) [] caps) (.int .i64 l.length) (.int .i64 k) 0 [] _) ?_ ?_ 0 (by omega) (by intro j hj;omega)
 ·intro k hk ih hq
  refine A5.2 ?_
  push_cast[BC hk,aP,nW,hc]
  refine .of (h _ (A4 hk)) ?_
  push_cast[CD (show k<2^62 by omega),hc]
  refine⟨fun hp=>A1 ?_,fun hp=>?_⟩
  ·push_cast[Bz.rs]
   rw[Hc hk hp hq]
  ·exact ih fun j hj=>by rcases Nat.lt_succ_iff_lt_or_eq.1 hj with h | rfl;exact hq j h;exact hp
 ·intro hq
  refine A5.2 ?_
  push_cast[AZ (Nat.le_refl _)]
  refine A1 ?_
  push_cast[Bz.rs]
  rw[Ij hq]
theorem Hq {p:A0->Bool}{g:Nat}{caps:List V}(hc:∀ σ,AS σ caps=caps)(l:List A0)(hl:l.length<2^62)(h:∀ a∈l,PF g (AP a::caps) (.bool (p a))) :
  PF Ck [DT cM 4 l,.fn (.func g) [] caps] (.bool (l.any p)):=by
 refine Ab CF.ok rfl ?_
 push_cast[hc]
 refine .of (Iy hc l hl h) ?_
 push_cast[hc]
 refine A1 ?_
 push_cast[CF.rs,NF]
theorem yZ (m:A0)(v:V):put 3 [v] (cM m)=[.int .i64 m.rule,.str m.name,.bool m.var,v]:=by rw[Xp];rfl
attribute [push_cast] yZ
theorem Tt (m:A0)(hs:As m<2^40):PF GS [AP m] (.int .i64 (CH m)):=by
 induction m using BU with
 | h m ih =>
 refine Ab E8.ok rfl ?_
 have hst:=AU m
 have hl:=B7 m.args
 rw[SB]
 push_cast
 refine Ac (n:=m.args.length) (R:=fun k=>∀ v:Nat,E7 v (m.args.drop k)=E7 1 m.args->v<=1+BB (m.args.take k)->E8.L3 (.int .i64 v) (Av m.args) (.int .i64 m.args.length) (.int .i64 k) 0 [] (Bo 0 E8.rs fun x' H'=>x'=.int .i64 (E7 1 m.args)/\H'=[])) ?_ ?_ 0 (Nat.zero_le _) 1 (by simp) (by omega)
 ·intro k hk ih2 v hv hb
  have h1:=JH _ _ hk
  have h2:=QB m.args (k+1)
  have hm:=A4 hk
  have hsp:=XF (m.args.getD k default)
  have hih:=ih _ hm (by omega)
  rw[Ag hk]at hv
  simp only[E7]at hv
  generalize hx:m.args.getD k default=a at hm hv h1 hsp hih
  refine A5.2 ?_
  push_cast[BC hk,hx]
  refine .of hih ?_
  have hw:IntKind.i64.wrap ((v:Int)+(CH a:Int))=((v+CH a:Nat):Int):=by rw[Bn (by omega) (by omega)];omega
  by_cases hc:4000<v+CH a
  ·rw[if_pos hc]at hv
   have hci:((4000:Int)<((v+CH a:Nat):Int))=True:=eq_true (by omega)
   rw[hv]at hw hci
   generalize E7 1 m.args=w at hw hci
   push_cast[hw,hci]
   exact A1 (by push_cast[E8.rs])
  ·rw[if_neg hc]at hv
   have hci:((4000:Int)<((v+CH a:Nat):Int))=False:=eq_false (by omega)
   have:=ih2 (v+CH a) hv (by omega)
   generalize v+CH a=w at hw hci this
   push_cast[hw,hci,CD (show k<2^62 by omega)]
   exact this
 ·intro v hv hb
  rw[Ak]at hv
  refine A5.2 ?_
  push_cast[AZ (Nat.le_refl _)]
  refine A1 ?_
  push_cast[E8.rs,<-hv]
  rfl
theorem Rs (m:A0)(hs:As m<2^40):PF FV [AP m] (.int .i64 (AR m)):=by
 induction m using BU with
 | h m ih =>
 refine Ab GI.ok rfl ?_
 have hst:=AU m
 have hl:=B7 m.args
 have hd:=N6 m.args
 push_cast
 refine Ac (n:=m.args.length) (R:=fun k=>GI.L3 (.int .i64 (AT (m.args.take k):Nat)) (Av m.args) (.int .i64 m.args.length) (.int .i64 k) 0 [] _) ?_ ?_ 0 (by omega)
 ·intro k hk ih2
  have h1:=Ge _ _ hk
  have hm:=A4 hk
  have:=CP hm
  refine A5.2 ?_
  push_cast[BC hk]
  refine .of (ih _ hm (by omega)) ?_
  push_cast[CD (show k<2^62 by omega)]
  rw[h1]at ih2
  exact ih2
 ·refine A5.2 ?_
  push_cast[AZ (Nat.le_refl _),List.take_length]
  rw[Bn (by omega) (by omega)]
  refine A1 ?_
  push_cast[GI.rs,List.take_length,CB m]
theorem Vz (m:A0)(hs:As m<2^40):PF MC [AP m] (AP m):=by
 induction m using BU with
 | h m ih =>
 refine Ab Rf.ok rfl ?_
 have hst:=AU m
 have hl:=B7 m.args
 push_cast
 refine Ac (n:=m.args.length) (R:=fun k=>Rf.L3 (.ptr 0 0) (.ptr 1 0) (Av m.args) (.int .i64 m.args.length) (.int .i64 k) 0
  [.cells A8 [.int .i64 m.rule,.str m.name,.bool m.var,Bf cM 2 4 (m.args.take k)],.cells A8 [.int .i64 0,.str [],.bool false,.sl 4 []],.arr A8 4 k] _) ?_ ?_ 0 (by omega)
 ·intro k hk ih2
  have hm:=A4 hk
  have:=CP hm
  have hlt:(m.args.take k).length=k:=by simp;omega
  rw[Aa hk]at ih2
  refine A5.2 ?_
  push_cast[BC hk]
  refine .of (ih _ hm (by omega)) ?_
  push_cast[hlt,CD (show k<2^62 by omega)]
  refine⟨by unfold Ah;omega,?_⟩
  exact ih2
 ·refine A5.2 ?_
  push_cast[AZ (Nat.le_refl _)]
  refine A1 ?_
  push_cast[Rf.rs,List.take_length,zC]
  rw[A0.eta]
def zM:A0:=.mk 0 [] false []
def WX (r:Option A0)(e:Int):V:=match r with
 | some m=>.tup [AP m,.int .i64 e]
 | none=>.tup [AP zM,.int .i64 e]
def F7 (m:A0):Bool:=decide (As m<=4000)&&decide (AR m<=200)
def Uf (m:A0):V:=if F7 m then WX (some m) 0 else WX none 3
theorem dq:V.agg [.int .i64 0,.str [],.bool false,.sl 4 []]=AP zM:=rfl
theorem VE (m:A0)(hs:As m<2^40):PF Fd [AP m] (Uf m):=by
 have hsz:=XJ m
 refine Ab Hi.ok rfl ?_
 push_cast
 refine .of (Tt m hs) ?_
 unfold Uf F7
 by_cases h1:4000<CH m
 ·have hi:((4000:Int)<(CH m:Int))=True:=eq_true (by omega)
  have h1':¬ As m<=4000:=by omega
  push_cast[hi,h1']
  exact A1 (by push_cast[Hi.rs,dq];rfl)
 ·have hi:((4000:Int)<(CH m:Int))=False:=eq_false (by omega)
  have h1':As m<=4000:=by omega
  push_cast[hi]
  refine .of (Rs m hs) ?_
  by_cases h2:200<AR m
  ·have hj:((200:Int)<(AR m:Int))=True:=eq_true (by omega)
   have h2':¬ AR m<=200:=by omega
   push_cast[hj,h2']
   exact A1 (by push_cast[Hi.rs,dq];rfl)
  ·have hj:((200:Int)<(AR m:Int))=False:=eq_false (by omega)
   have h2':AR m<=200:=by omega
   push_cast[hj]
   refine .of (Vz m hs) ?_
   push_cast
   exact A1 (by push_cast[Hi.rs];simp[h1',h2'];rfl)
theorem VU {p q:A0->Bool}{g:Nat}{caps:List V}{B:Nat}(hc:∀ σ,AS σ caps=caps)(h:∀ a,q a=true->mb a<=B->PF g (AP a::caps) (.bool (p a)))(hB:B<2^40)(m:A0)(hq:Gp q m=true)(hm:mb m<=B) :
  PF Km [AP m,.fn (.func g) [] caps] (.bool (Gp p m)):=by
 induction m using BU with
 | h m ih =>
 have hmb:=WL m
 have hsz:=GC m
 have hst:=AU m
 have hl:=B7 m.args
 have hC:=Hq (p:=fun a=>!Gp p a) (g:=Ng) (caps:=[.ro [.fn (.func g) [] caps] 0]) (fun σ=>by push_cast) m.args (by omega) fun a ha=>by
  refine Ab Qj.ok rfl ?_
  push_cast[hc]
  refine .of (ih a ha (NI hq ha) (by have:=cX ha;omega)) ?_
  push_cast
  exact A1 (by push_cast[Qj.rs])
 refine Ab R3.ok rfl ?_
 rw[He]
 push_cast[hc]
 refine .of (h m (F5 hq) hm) ?_
 cases hp:p m with
 | false =>
  push_cast[hc]
  exact A1 (by push_cast[R3.rs])
 | true =>
  push_cast[hc]
  refine .of hC ?_
  push_cast[hc]
  exact A1 (by push_cast[R3.rs,Wx])
theorem Y6 (r:List A2)(m:A0)(hr:KJ r<2^38)(hq:Cb r.length m=true)(hm:mb m<2^40):PF LX [Al r,AP m] (.bool (Bv r m)):=by
 have hmb:=WL m
 have hsz:=GC m
 have hst:=AU m
 have hl:=B7 m.args
 have hI:∀ b,PF DQ [.str m.name,.bool b] (.bool (BW m.name b)):=fun b=>RP _ b (by omega)
 unfold Cb at hq
 rw[Bool.and_eq_true,decide_eq_true_eq,decide_eq_true_eq]at hq
 refine Ab DN.ok rfl ?_
 unfold Bv
 by_cases h1:0<m.rule
 ·have hm1:r.getD (m.rule-1).toNat default∈r:=A4 (by omega)
  have hrm:=Gi hm1
  have hst:=AX (At r m).left
  have hru:r.getD (m.rule-1).toNat default=At r m:=rfl
  have hw:IntKind.i64.wrap (m.rule-1)=m.rule-1:=Bn (by have:=Bl r;omega) (by have:=Bl r;omega)
  have hc1:((0:Int)<=m.rule-1)=True:=eq_true (by omega)
  have hc2:(m.rule-1<(r.length:Int))=True:=eq_true (by omega)
  rw[hru]at hrm
  have hV:=EH [(At r m).left] (by simp[Ae];omega)
  rw[if_pos h1]
  by_cases h2:m.name=[]
  ·cases h3:m.var with
   | true =>
    push_cast[eq_true h1,h2,h3]
    exact A1 (by push_cast[DN.rs])
   | false =>
    push_cast[eq_true h1,h2,h3,hw,hc1,hc2,hru]
    refine .of hV ?_
    push_cast
    exact A1 (by push_cast[DN.rs];exact decide_eq_decide.2 (by omega))
  ·push_cast[eq_true h1,eq_false h2]
   exact A1 (by push_cast[DN.rs])
 ·rw[if_neg h1]
  cases hv:m.var with
  | true =>
   rw[if_pos rfl]
   by_cases h0:m.args.length=0
   ·push_cast[eq_false h1,hv,h0]
    refine .of (hI false) ?_
    push_cast
    exact A1 (by push_cast[DN.rs])
   ·have hi:((m.args.length:Int)=0)=False:=eq_false (by omega)
    push_cast[eq_false h1,hv,hi]
    exact A1 (by push_cast[DN.rs,h0])
  | false =>
   rw[if_neg (by simp)]
   by_cases h0:m.args.length<=8
   ·have hi:((m.args.length:Int)<=8)=True:=eq_true (by omega)
    push_cast[eq_false h1,hv,hi]
    refine .of (hI true) ?_
    push_cast
    exact A1 (by push_cast[DN.rs,h0])
   ·have hi:((m.args.length:Int)<=8)=False:=eq_false (by omega)
    push_cast[eq_false h1,hv,hi]
    exact A1 (by push_cast[DN.rs,h0])
theorem ow (m:A0):Gp (fun _=>true) m=true:=by
 induction m using BU with
 | h m ih=>rw[He,Bool.true_and,List.all_eq_true];exact ih
theorem ot (r:List A2)(a:A0):PF Kq [AP a,.ro [Al r] 0] (.bool (Cb r.length a)):=by
 refine Ab K0.ok rfl ?_
 unfold Cb
 by_cases h:0<=a.rule
 ·push_cast[eq_true h]
  exact A1 (by push_cast[K0.rs])
 ·push_cast[eq_false h]
  exact A1 (by push_cast[K0.rs])
theorem nU (r:List A2)(a:A0)(hr:KJ r<2^38)(hq:Cb r.length a=true)(hm:mb a<2^40):PF Kz [AP a,.ro [Al r] 0] (.bool (Bv r a)):=by
 refine Ab Nx.ok rfl ?_
 push_cast
 refine .of (Y6 r a hr hq hm) ?_
 push_cast
 exact A1 (by push_cast[Nx.rs])
theorem Zr (r:List A2)(m:A0)(hr:KJ r<2^38)(hm:mb m<2^39):PF Nj [Al r,AP m] (.int .i64 (FC r m)):=by
 have hsz:=GC m
 have hsp:=XJ m
 refine Ab Fe.ok rfl ?_
 push_cast
 refine .of (M4 r hr) ?_
 generalize hT:FC r m=T
 unfold FC at hT
 by_cases h1:¬ Ao r=0
 ·rw[if_pos h1]at hT
  subst hT
  push_cast[eq_false h1]
  exact A1 (by push_cast[Fe.rs])
 have h1:Ao r=0:=Classical.not_not.1 h1
 rw[if_neg (by simpa using h1)]at hT
 push_cast[h1]
 refine .of (VU (p:=Cb r.length) (q:=fun _=>true) (B:=2^39) (caps:=[.ro [Al r] 0]) (fun σ=>by push_cast) (fun a _ _=>ot r a) (by omega) m (ow m) (by omega)) ?_
 cases h2:Gp (Cb r.length) m with
 | false =>
  rw[h2,if_pos rfl]at hT
  subst hT
  push_cast
  exact A1 (by push_cast[Fe.rs])
 | true =>
 rw[h2,if_neg (by simp)]at hT
 push_cast
 refine .of (VU (p:=Bv r) (q:=Cb r.length) (B:=2^39) (caps:=[.ro [Al r] 0]) (fun σ=>by push_cast) (fun a hq hb=>nU r a hr hq (by omega)) (by omega) m h2 (by omega)) ?_
 cases h3:Gp (Bv r) m with
 | false =>
  rw[h3,if_pos rfl]at hT
  subst hT
  push_cast
  exact A1 (by push_cast[Fe.rs])
 | true =>
 rw[h3,if_neg (by simp)]at hT
 push_cast
 refine .of (Tt m (by omega)) ?_
 by_cases h4:4000<CH m
 ·have hi:((4000:Int)<(CH m:Int))=True:=eq_true (by omega)
  rw[if_pos (by omega)]at hT
  subst hT
  push_cast[hi]
  exact A1 (by push_cast[Fe.rs])
 ·have hi:((4000:Int)<(CH m:Int))=False:=eq_false (by omega)
  push_cast[hi]
  refine .of (Rs m (by omega)) ?_
  by_cases h5:200<AR m
  ·have hj:((200:Int)<(AR m:Int))=True:=eq_true (by omega)
   rw[if_pos (by omega)]at hT
   subst hT
   push_cast[hj]
   exact A1 (by push_cast[Fe.rs])
  ·have hj:((200:Int)<(AR m:Int))=False:=eq_false (by omega)
   rw[if_neg (by omega)]at hT
   subst hT
   push_cast[hj]
   exact A1 (by push_cast[Fe.rs])
theorem dX (t:Term)(p:List Int)(hp:p.length<2^62)(ht:size t<2^62):PF TX [An t,I0 p] (VD (Dm t p)):=by
 refine Ab Ul.ok rfl ?_
 push_cast
 refine Ac (n:=p.length) (R:=fun k=>∀ u,Dm u (p.drop k)=Dm t p->size u<2^62->Ul.L3 (.ptr 0 0) (.ptr 1 0) (I0 p) (.int .i64 p.length) (.int .i64 k) 0 [.cells A3 (cT u),.cells A3 [.str [],.bool false,.sl 3 []]] _) ?_ ?_ 0 (by omega) t rfl ht
 ·intro k hk ih u hu hsu
  rw[Ag hk]at hu
  simp only[Dm]at hu
  generalize hgi:p.getD k default=i at hu
  have hl:=Am u.args
  have hst:=AJ u
  refine A5.2 ?_
  by_cases hi:i<0
  ·rw[if_neg (by omega)]at hu
   push_cast[BC hk,hgi,hi]
   refine A1 ?_
   push_cast[Ul.rs,<-hu]
   rfl
  ·by_cases hi2:(u.args.length:Int)<=i
   ·rw[if_neg (by omega)]at hu
    push_cast[BC hk,hgi,hi,hi2]
    refine A1 ?_
    push_cast[Ul.rs,<-hu]
    rfl
   ·rw[if_pos (by omega)]at hu
    push_cast[BC hk,hgi,hi,hi2,CD (show k<2^62 by omega)]
    have hm:u.args.getD i.toNat default∈u.args:=A4 (by omega)
    exact⟨by omega,ih _ hu (by have:=By hm;omega)⟩
 ·intro u hu hsu
  rw[Ak]at hu
  refine A5.2 ?_
  push_cast[AZ (Nat.le_refl _)]
  refine A1 ?_
  push_cast[Ul.rs,<-hu]
  rfl
theorem My (s:List A7)(v:A9)(hl:s.length<2^62):PF I3 [Bm s,.str v] (An ((Af s v).getD (.mk v true []))):=by
 refine Ab NU.ok rfl ?_
 push_cast
 refine Ac (n:=s.length) (R:=fun k=>Af (s.drop k) v=Af s v->NU.L3 (.str v) (.ptr 0 0) (Bm s) (.int .i64 s.length) (.int .i64 k) 0 [.cells A3 [.str [],.bool false,.sl 3 []]] _) ?_ ?_ 0 (by omega) rfl
 ·intro k hk ih hq
  rw[Ag hk]at hq
  simp only[Af]at hq
  generalize hgi:s.getD k default=b at hq
  refine A5.2 ?_
  by_cases h:b.name=v
  ·rw[if_pos h]at hq
   push_cast[BC hk,hgi,h]
   refine A1 ?_
   push_cast[NU.rs,<-hq]
   rfl
  ·rw[if_neg h]at hq
   push_cast[BC hk,hgi,h,CD (show k<2^62 by omega)]
   exact ih hq
 ·intro hq
  rw[Ak]at hq
  refine A5.2 ?_
  push_cast[AZ (Nat.le_refl _)]
  refine A1 ?_
  push_cast[NU.rs,<-hq]
  rfl
theorem Eu (s:List A7)(hl:s.length<2^62)(t:Term)(ht:size t<2^40):PF CQ [Bm s,An t] (An (AC s t)):=by
 induction t using Ai with
 | h t ih =>
 have hst:=AJ t
 have hll:=Am t.args
 refine Ab NN.ok rfl ?_
 rw[Is]
 cases hv:t.var with
 | true =>
  push_cast[hv]
  refine .of (My s t.name hl) ?_
  push_cast
  exact A1 (by push_cast[NN.rs])
 | false =>
  push_cast[hv]
  refine Ac (n:=t.args.length) (R:=fun k=>NN.L3 (Bm s) (.ptr 0 0) (.ptr 1 0) (Bk t.args) (.int .i64 t.args.length) (.int .i64 k) 0 [.cells A3 [.str [],.bool false,.sl 3 []],.cells A3 [.str t.name,.bool false,Bf cT 2 3 ((t.args.take k).map (AC s))],.arr A3 3 k] _) ?_ ?_ 0 (by omega)
  ·intro k hk ih2
   have hm:=A4 hk
   have hm2:=By hm
   have hlen:((t.args.take k).map (AC s)).length=k:=by simp;omega
   rw[Aa hk,List.map_append,List.map_singleton]at ih2
   refine A5.2 ?_
   push_cast[BC hk]
   refine .of (ih _ hm (by omega)) ?_
   push_cast[hlen,CD (show k<2^62 by omega)]
   exact⟨Nat.le_trans (Nat.mul_le_mul_right 48 (show _<=2^41 by omega)) (by unfold Ah;decide),ih2⟩
  ·refine A5.2 ?_
   push_cast[AZ (Nat.le_refl _)]
   refine A1 ?_
   push_cast[NN.rs,List.take_length]
   unfold An
   rw[P7];rfl
theorem VT (s:List A7)(v:A9)(hl:s.length<2^62):PF ME [Bm s,.str v] (.bool (bound s v)):=by
 refine Ab NZ.ok rfl ?_
 unfold bound
 push_cast
 refine Ac (n:=s.length) (R:=fun k=>Af (s.drop k) v=Af s v->NZ.L3 (.str v) (Bm s) (.int .i64 s.length) (.int .i64 k) 0 [] _) ?_ ?_ 0 (by omega) rfl
 ·intro k hk ih hq
  rw[Ag hk]at hq
  simp only[Af]at hq
  generalize hgi:s.getD k default=b at hq
  refine A5.2 ?_
  by_cases h:b.name=v
  ·rw[if_pos h]at hq
   push_cast[BC hk,hgi,h]
   refine A1 ?_
   push_cast[NZ.rs,<-hq]
   rfl
  ·rw[if_neg h]at hq
   push_cast[BC hk,hgi,h,CD (show k<2^62 by omega)]
   exact ih hq
 ·intro hq
  rw[Ak]at hq
  refine A5.2 ?_
  push_cast[AZ (Nat.le_refl _)]
  refine A1 ?_
  push_cast[NZ.rs,<-hq]
  rfl
theorem fY {v:A9}:∀ {s:List A7},Jd v s<s.length->¬ (s.getD (Jd v s) default).name<v
 | [],h=>by simp at h
 | b::s,h=>by
  simp only[Jd]at h ⊢
  split
  ·rename_i hx
   rw[if_pos hx]at h
   simpa using fY (s:=s) (by simpa using h)
  ·rename_i hx
   simpa using hx
theorem Y0 {i:Nat}{l:List A7}{n:A9}{t:Term}:(.own i 4 (l.map cB++[V.str n::cT t]):V)=Bf cB i 4 (l++[⟨n,t⟩]):=by simp[Bf,cB]
theorem jK (s:List A7)(v:A9)(t:Term)(hl:s.length<2^40)(hn:∀ b∈s,b.name.length<2^62)(hv:v.length<2^62):PF S7 [Bm s,.str v,An t] (Bm (Gh s v t)):=by
 have hle:=RS v s
 have hge:=@fY v s
 have hlt:=fun j=>@YO v s j
 have tail:∀ m:Nat,m<=2^40->∀ b,b<=64->m*b<=Ah:=fun m hm b hb=>Nat.le_trans (Nat.mul_le_mul hm hb) (by unfold Ah;decide)
 unfold Gh
 generalize Jd v s=a at hle hge hlt
 have e1:(s.drop 0).take (a-0)=s.take a:=by simp
 have e2:(s.drop a).take (s.length-a)=s.drop a:=by rw[List.take_of_length_le];simp
 refine Ab PW.ok rfl ?_
 push_cast
 refine Ac (n:=a) (R:=fun k=>PW.L3 (Bm s) (.str v) (.ro (cT t) 0) (.int .i64 k) 0 [] _) ?_ ?_ 0 (by omega)
 ·intro k hk ih
  have hkl:k<s.length:=by omega
  have h1:Ip (s.getD k default).name v<0:=K8.2 (hlt k hk)
  refine A5.2 ?_
  push_cast[BC hkl]
  refine .of (Cq _ _ (hn _ (A4 hkl)) hv) ?_
  push_cast[h1,CD (show k<2^62 by omega)]
  exact ih
 ·refine A5.2 ?_
  rcases Nat.lt_or_ge a s.length with h | h
  ·have h2:¬ Ip (s.getD a default).name v<0:=fun hc=>hge h (K8.1 hc)
   push_cast[BC h]
   refine .of (Cq _ _ (hn _ (A4 h)) hv) ?_
   push_cast[h2,e1,e2,Y0,List.cons_append,List.nil_append]
   refine⟨⟨by omega,hle⟩,tail _ (by simp;omega) _ (by omega),tail _ (by simp;omega) _ (by omega),hle,⟨by simp,tail _ (by simp;omega) _ (by omega)⟩,A1 ?_⟩
   push_cast[PW.rs]
  ·push_cast[AZ h,e1,e2,Y0,List.cons_append,List.nil_append]
   refine⟨⟨by omega,hle⟩,tail _ (by simp;omega) _ (by omega),tail _ (by simp;omega) _ (by omega),hle,⟨by simp,tail _ (by simp;omega) _ (by omega)⟩,A1 ?_⟩
   push_cast[PW.rs]
mutual
def eT:Term->Term->Int
 | .mk n v l,t=>if v≠t.var then (if v then -1 else 1) else if Ip n t.name≠0 then Ip n t.name else if RX l.length t.args.length≠0 then RX l.length t.args.length else TB l t.args
def TB:List Term->List Term->Int
 | [],_=>0
 | _::_,[]=>0
 | a::l,b::m=>if eT a b≠0 then eT a b else TB l m
end
theorem lI (a t:Term):eT a t=if a.var≠t.var then (if a.var then -1 else 1) else if Ip a.name t.name≠0 then Ip a.name t.name else if RX a.args.length t.args.length≠0 then RX a.args.length t.args.length else TB a.args t.args:=by
 cases a;simp only[eT];rfl
theorem UZ {a b:Int}:RX a b=0↔a=b:=by unfold RX;split<;>(try split)<;>omega
theorem Ye:∀ (l m:List Term),l.length=m.length->(∀ a∈l,∀ b,eT a b=0↔a=b)->(TB l m=0↔l=m)
 | [],[],_,_=>by simp[TB]
 | [],_::_,h,_=>by simp at h
 | _::_,[],h,_=>by simp at h
 | a::l,b::m,h,hc=>by
  have ih:=Ye l m (by simpa using h) fun x hx=>hc x (by simp[hx])
  have h1:=hc a (by simp) b
  simp only[TB]
  by_cases he:a=b
  ·rw[if_neg (by simpa using h1.2 he),ih]
   simp[he]
  ·have:¬ eT a b=0:=fun e=>he (h1.1 e)
   rw[if_pos this]
   simp[this,he]
theorem nq (a:Term):∀ b,eT a b=0↔a=b:=by
 induction a using Ai with
 | h a ih =>
 intro b
 rw[lI,Vv]
 by_cases h1:a.var=b.var
 ·rw[if_neg (by simpa using h1)]
  by_cases h2:a.name=b.name
  ·rw[if_neg (by simpa using Rd.2 h2)]
   by_cases h3:a.args.length=b.args.length
   ·rw[if_neg (by simpa using UZ.2 (by omega)),Ye _ _ h3 ih]
    simp[h1,h2]
   ·have:¬ RX a.args.length b.args.length=0:=fun e=>h3 (by have:=UZ.1 e;omega)
    rw[if_pos this]
    simp only[this,false_iff,not_and]
    intro _ _ e;exact h3 (by rw[e])
  ·have:¬ Ip a.name b.name=0:=fun e=>h2 (Rd.1 e)
   rw[if_pos this]
   simp[this,h2]
 ·rw[if_pos h1]
  simp only[h1,false_and,and_false,iff_false]
  split<;>decide
theorem ZE (a:Term):∀ b,tb a<2^62->tb b<2^62->PF JU [An a,An b] (.int .i64 (eT a b)):=by
 induction a using Ai with
 | h a ih =>
 intro b ha hb
 have ha2:=KX a
 have hb2:=KX b
 have hla:=Hp a.args
 rw[lI]
 refine Ab Ev.ok rfl ?_
 by_cases h1:a.var=b.var
 ·rw[if_neg (by simpa using h1)]
  push_cast[h1,show ∀ x y:Bool,(x != y)=!decide (x=y) from fun x y=>by cases x<;>cases y<;>rfl]
  refine .of (Cq _ _ (by omega) (by omega)) ?_
  by_cases h2:Ip a.name b.name=0
  ·rw[if_neg (by simpa using h2)]
   push_cast[h2]
   refine .of (IB _ _) ?_
   by_cases h3:RX a.args.length b.args.length=0
   ·have hll:a.args.length=b.args.length:=by have:=UZ.1 h3;omega
    rw[if_neg (by simpa using h3)]
    push_cast[h3]
    refine Ac (n:=a.args.length) (R:=fun k=>TB (a.args.drop k) (b.args.drop k)=TB a.args b.args->Ev.L3 (.ro (cT a) 0) (.ro (cT b) 0) (.int .i64 a.args.length) (.int .i64 k) 0 [] _) ?_ ?_ 0 (by omega) rfl
    ·intro k hk ih2 hq
     have hkb:k<b.args.length:=by omega
     rw[Ag hk,Ag hkb]at hq
     simp only[TB]at hq
     have hm:=A4 hk
     have hmb:=A4 hkb
     refine A5.2 ?_
     push_cast[BC hk,BC hkb]
     refine .of (ih _ hm _ (by have:=OC hm;omega) (by have:=OC hmb;omega)) ?_
     push_cast[CD (show k<2^62 by omega)]
     refine⟨fun h=>A1 ?_,fun h=>ih2 ?_⟩
     ·push_cast[Ev.rs]
      rw[<-hq,if_pos (by simpa using h)]
     ·rw[<-hq,if_neg (by simpa using h)]
    ·intro hq
     refine A5.2 ?_
     push_cast[AZ (Nat.le_refl _)]
     refine A1 ?_
     push_cast[Ev.rs]
     rw[<-hq,Ak];rfl
   ·rw[if_pos h3]
    push_cast[h3]
    exact A1 (by push_cast[Ev.rs])
  ·rw[if_pos h2]
   push_cast[h2]
   exact A1 (by push_cast[Ev.rs])
 ·rw[if_pos h1]
  have e:∀ x y:Bool,(x != y)=!decide (x=y):=fun x y=>by cases x<;>cases y<;>rfl
  cases hv:a.var<;>cases hv2:b.var
  ·exact absurd (hv.trans hv2.symm) h1
  ·push_cast[hv,hv2,e]
   exact A1 (by push_cast[Ev.rs])
  ·push_cast[hv,hv2,e]
   exact A1 (by push_cast[Ev.rs])
  ·exact absurd (hv.trans hv2.symm) h1
theorem Q2 (a b:Term)(ha:tb a<2^62)(hb:tb b<2^62):PF N1 [An a,An b] (.bool (decide (a=b))):=by
 refine Ab UP.ok rfl ?_
 push_cast
 refine .of (ZE a b ha hb) ?_
 push_cast
 refine A1 ?_
 push_cast[UP.rs,nq]
theorem zE {l:List Term}{k:Nat}(h:k<l.length):(l.map cT)[k]?=some (cT (l.getD k default)):=by
 rw[List.getElem?_map];simp[List.getD_eq_getElem?_getD,h]
theorem oh {σ:Nat->Option Nat}{l:List Term}:(l.map cT).map (AS σ)=l.map cT:=by rw[List.map_map];rfl
theorem nD (p:List Int):∀ (t x y:Term),short t=true->Dm t p=some y->size t<2^40->p.length<2^40->PF QQ [An t,I0 p,An x] (An (J8 t p x)):=by
 induction p with
 | nil =>
  intro t x y _ _ _ _
  refine Ab TH.ok rfl ?_
  push_cast
  exact A1 (by push_cast[TH.rs];rfl)
 | cons i p ih =>
  intro t x y ht hy hs hp
  simp only[Dm]at hy
  split at hy
  case isFalse=>cases hy
  rename_i hi
  have hst:=AJ t
  have hll:=Am t.args
  have hk:i.toNat<t.args.length:=by omega
  have hm:=A4 hk
  have hm2:=By hm
  have hne:¬ (((i::p).length:Nat):Int)=0:=by rw[List.length_cons];omega
  have hsub:=ih _ x y ((C4.1 ht).2.2 _ hm) hy (by omega) (by simp at hp;omega)
  refine Ab TH.ok rfl ?_
  have hv:t.var=false:=by
   cases h:t.var with
   | false=>rfl
   | true=>have:=(C4.1 ht).2.1 h;rw[this]at hk;simp at hk
  have hres:J8 t (i::p) x=.mk t.name false (t.args.set i.toNat (J8 (t.args.getD i.toNat default) p x)):=by
   simp only[J8];rw[if_pos hi,hv]
  rw[hres]
  have e1:((i::p).drop 1).take ((i::p).length-1)=p:=by simp
  have e2:(i::p).getD 0 default=i:=rfl
  have e3:((0:Int)<(((i::p).length:Nat):Int))=True:=eq_true (by rw[List.length_cons];omega)
  have e4:(1:Nat)<=(i::p).length:=by simp
  generalize (i::p)=q at hne e1 e2 e3 e4
  have hi0:(0<=i)=True:=eq_true hi.1
  have hi1:(i<(t.args.length:Int))=True:=eq_true hi.2
  have hroom:t.args.length*48<=Ah:=Nat.le_trans (Nat.mul_le_mul_right 48 (show _<=2^41 by omega)) (by unfold Ah;decide)
  have hsetC:(t.args.map cT).set i.toNat (put 0 (cT (J8 (t.args.getD i.toNat default) p x)) ((t.args.map cT).getD i.toNat []))=(t.args.set i.toNat (J8 (t.args.getD i.toNat default) p x)).map cT:=by
   have e5:(t.args.map cT).getD i.toNat []=cT (t.args.getD i.toNat default):=by
    rw[List.getD_eq_getElem?_getD (l:=t.args.map cT),zE hk];rfl
   rw[List.map_set,e5,lS]
  push_cast[hne,zE hk,e1,e2,e3,e4,hi0,hi1,List.length_map,hroom]
  refine .of hsub ?_
  push_cast[hi0,hi1,List.length_map,hk,hsetC,List.length_set,oh]
  refine A1 ?_
  push_cast[TH.rs]
  unfold An
  rw[P7];rfl
theorem Lu {l:List Term}{a:Term}(h:a∈l):depth a<=AD l:=by
 induction l with
 | nil=>cases h
 | cons x xs ih=>rcases List.mem_cons.1 h with rfl | h<;>simp only[AD];omega;have:=ih h;omega
mutual
theorem R7:∀ (t:Term)(p:List Int),∀ x∈Aq t p,size x.2<=size t/\x.1.length<=p.length+size t
 | .mk n v l,p,x,hx=>by
  rw[Ht]at hx
  rcases List.mem_cons.1 hx with rfl | hx
  ·exact⟨Nat.le_refl _,Nat.le_add_right _ _⟩
  ·have:=Xm l p 0 x hx
   simp only[size]
   omega
theorem Xm:∀ (l:List Term)(p:List Int)(i:Nat),∀ x∈B9 l p i,size x.2<=Ae l/\x.1.length<=p.length+1+Ae l
 | [],p,i,x,hx=>by simp[B9]at hx
 | a::l,p,i,x,hx=>by
  simp only[B9,List.mem_append]at hx
  simp only[Ae]
  rcases hx with hx | hx
  ·have:=R7 a _ x hx
   simp only[List.length_append,List.length_singleton]at this
   omega
  ·have:=Xm l _ _ x hx;omega
end
def jf (n:A9)(v:Bool)(k:Nat):Bool:=if v then decide (k=0)&&BW n false else decide (k<=8)&&BW n true
theorem jS {t:Term}:Db t=true↔jf t.name t.var t.args.length=true/\∀ a∈t.args,Db a=true:=by
 rw[EX]
 unfold jf
 cases t.var with
 | true =>
  simp only[if_true,Bool.and_eq_true,decide_eq_true_eq]
  refine⟨fun h=>⟨h,fun a ha=>?_⟩,fun h=>h.1⟩
  rw[List.length_eq_zero_iff.1 h.1]at ha;cases ha
 | false=>simp[and_assoc]
theorem Uv {t:Term}:FQ t=0↔Db t=true/\BJ t=true:=by
 unfold FQ
 cases Db t<;>cases BJ t<;>simp
theorem MG {r:List A2}(h:Ao r=0):∀ x∈r,FQ x.left=0/\FQ x.right=0:=by
 have h1:Bt r=0:=by
  unfold Ao at h
  split at h
  ·rename_i h1;exact absurd h h1
  ·rename_i h1;simpa using h1
 unfold Bt at h1
 split at h1
 ·omega
 ·exact N7 h1
theorem AdD {σ:Nat->Option Nat}{l:List Term}:(l.map cT).map (AS σ)=l.map cT:=by rw[List.map_map];rfl
namespace yj
end yj
theorem mN {σ:Nat->Option Nat}{l:List YX}:(l.map ju).map (AS σ)=l.map ju:=by rw[List.map_map];rfl
attribute [push_cast] mN
mutual
def Fp:Term->List (List Int)
 | .mk n v l=>[]::Ix l 0
def Ix:List Term->Nat->List (List Int)
 | [],_=>[]
 | a::l,i=>(Fp a).map ((i:Int)::·)++Ix l (i+1)
end
theorem wI (t:Term):Fp t=[]::Ix t.args 0:=by cases t;simp[Fp,Term.args]
mutual
theorem Lp:∀ (t:Term)(p:List Int),(Aq t p).map Prod.fst=(Fp t).map (p++·)
 | .mk n v l,p=>by
  simp only[Aq,Fp,List.map_cons,List.append_nil,XV l p 0]
theorem XV:∀ (l:List Term)(p:List Int)(i:Nat),(B9 l p i).map Prod.fst=(Ix l i).map (p++·)
 | [],p,i=>rfl
 | a::l,p,i=>by
  simp only[B9,Ix,List.map_append,Lp a,XV l p (i+1),List.map_map]
  congr 1
  apply List.map_congr_left
  intro q _;simp
end
theorem db (a b:List Term)(i:Nat):Ix (a++b) i=Ix a i++Ix b (i+a.length):=by
 induction a generalizing i with
 | nil=>simp[Ix]
 | cons x xs ih=>simp only[List.cons_append,Ix,ih,List.append_assoc,List.length_cons];congr 3;omega
theorem ku (l:List Term){k:Nat}(hk:k<l.length):Ix (l.take (k+1)) 0=Ix (l.take k) 0++(Fp (l.getD k default)).map ((k:Int)::·):=by
 rw[List.take_succ_eq_append_getElem hk,db,List.length_take,Nat.min_eq_left (by omega)]
 simp[Ix,List.getD_eq_getElem?_getD,List.getElem?_eq_getElem hk]
theorem XW (t:Term):(Fp t).length=size t:=by
 have h:=congrArg List.length (Lp t [])
 simp only[List.length_map]at h
 rw[<-h];exact Nz t []
theorem az:∀ (l:List Term)(i:Nat),(Ix l i).length=Ae l
 | [],i=>rfl
 | a::l,i=>by simp only[Ix,List.length_append,List.length_map,XW,az l (i+1),Ae]
theorem jc (t:Term):∀ p∈Fp t,p.length<=size t:=by
 intro p hp
 have h:=Lp t []
 have:p∈(Fp t).map ([]++·):=by simpa using hp
 rw[<-h]at this
 obtain⟨x,hx,rfl⟩:=List.mem_map.1 this
 have:=(R7 t [] x hx).2
 simpa using this
theorem Wi (t:Term)(hs:size t<2^38):PF HG [An t] (Tw (Fp t)):=by
 induction t using Ai with
 | h t ih =>
 refine Ab EJ.ok rfl ?_
 have hst:=AJ t
 have hl:=Am t.args
 push_cast
 rw[show (V.own 0 1 [[V.sl 1 []]]:V)=Bf vm 0 1 ([]::Ix (t.args.take 0) 0) from rfl]
 refine Ac (n:=t.args.length) (R:=fun k=>EJ.L6 (Bf vm 0 1 ([]::Ix (t.args.take k) 0)) (Bk t.args) (.int .i64 t.args.length) (.int .i64 k) 0 [.arr WQ 1 (1+Ae (t.args.take k))] (Bo 0 EJ.rs fun x' H'=>x'=Tw (Fp t)/\H'=[])) ?_ ?_ 0 (Nat.zero_le _)
 ·intro k hk ih2
  have hm:=A4 hk
  have hsn:=ku t.args hk
  have hss:=FN t.args k hk
  have hsl:=EF t.args (k+1)
  have hsz:=By hm
  refine A5.2 ?_
  generalize hx:t.args.getD k default=a at hm hsn hss hsz
  push_cast[BC hk,hx]
  refine .of (ih a hm (by omega)) ?_
  push_cast
  have hpl:=XW a
  have h0:=Ac (n:=(Fp a).length) (R:=fun j=>EJ.L4 (Bf vm 0 1 ([]::(Ix (t.args.take k) 0++((Fp a).take j).map ((k:Int)::·)))) (.int .i64 k) (Bk t.args) (.int .i64 t.args.length) (.int .i64 k) (Tw (Fp a)) (.int .i64 (Fp a).length) (.int .i64 j) 0 [.arr WQ 1 (1+Ae (t.args.take k)+j),.dead] (Bo 0 EJ.rs fun x' H'=>x'=Tw (Fp t)/\H'=[])) ?_ ?_ 0 (Nat.zero_le _)
  ·simp only[List.take_zero,List.map_nil,List.append_nil,Nat.add_zero]at h0
   exact h0
  ·intro j hj ih3
   have hmj:=A4 hj
   have hsj:=jc a _ hmj
   refine A5.2 ?_
   have htk:(Fp a).take (j+1)=(Fp a).take j++[(Fp a).getD j default]:=by rw[List.take_succ_eq_append_getElem hj];simp[List.getD_eq_getElem?_getD,hj]
   generalize hq:(Fp a).getD j default=q at hmj hsj htk
   push_cast[BC hj,hq]
   have e1:(Ix (t.args.take k) 0).length=Ae (t.args.take k):=az _ _
   have e2:(List.map (fun x=>(k:Int)::x) ((Fp a).take j)).length=j:=by simp;omega
   have e3:(List.map cI q).length=q.length:=by simp
   have e4:∀ X:List (List Int),V.own 0 1 (vm []::(List.map vm X++[[V.sl 1 ([V.int IntKind.i64 ↑k]::List.map cI q)]]))=Bf vm 0 1 ([]::(X++[(k:Int)::q])):=fun X=>by simp[Bf,vm,DT,cI]
   rw[e1,e2,e3,e4,CD (show j<2^62 by omega)]
   rw[htk,List.map_append,<-List.append_assoc]at ih3
   have hme:Ah=140737488355328:=rfl
   refine⟨by omega,⟨by omega,by omega⟩,?_⟩
   rw[show Ae (t.args.take k)+j+1+1=1+Ae (t.args.take k)+(j+1) by omega]
   exact ih3
  ·refine A5.2 ?_
   push_cast[AZ (Nat.le_refl _)]
   rw[List.take_length,CD (show k<2^62 by omega),<-hsn,hpl,Nat.add_assoc,<-hss]
   exact ih2
 ·refine A5.2 ?_
  push_cast[AZ (Nat.le_refl _)]
  refine A1 ?_
  push_cast[EJ.rs,List.take_length,wI t]
  try rfl
def isV (v:A9)(x:List Int×Term):Bool:=x.2.var&&decide (x.2.name=v)
def W8 (v:A9)(l:List (List Int×Term)):List (List Int):=(l.filter (isV v)).map Prod.fst
def Xo (t:Term)(v:A9):List (List Int):=W8 v (Aq t [])
end Go.Dw
section
namespace Go.Dw
namespace lP
def nd:Nat->C
 | 0=>.R [.mv 4 (.i (-1))] (.ret)
 | 1=>.gh [.ks 0 [0,1,7,8]] (.m 3)
 | 2=>.seq (.blk 1 (.R [.A 10 8,.A 5 10] (.R [.A 11 1,.A 12 0,.A 13 5,.G 14 3 12 13,.E 15 3 14,.callv (some 16) (.s 11) [.s 15]] (.W 16 (.R [.A 17 5,.A 4 17] (.ret)) (.skip))))) (.reg [.X 18 .add 8 1,.A 8 18])
 | 3=>.R [.V 9 .lss 8 7] (.seq (.W 9 (.skip) (.exit 0)) (.n 2))
 | _=>.skip
def body:C:=.R [.mv 4 (.i 0)] (.seq (.R [.A 6 0,.Y 7 6,.mv 8 (.i 0)] (.J 0 1)) (.n 0))
def rs:List RV:=[.t 4]
attribute [push_cast] nd body
theorem ok:Bd prog Bh nd body 2 rs=true:=by kernel_rfl
abbrev L3 (a b c d:V)(B:Nat)(H:CX)(Q:QX):Prop:=Ax prog nd B (DA 3 1 0 0) [(0,a),(1,b),(7,c),(8,d)] H Q
end lP
namespace zY
def nd (_:Nat):C:=.skip
def body:C:=.R [.mv 4 (.c (.bool false))] (.R [.A 5 0,.A 6 1,.call (some 7) Bh [.s 5,.s 6],.X 8 .geq 7 0,.A 4 8] (.ret))
def rs:List RV:=[.t 4]
attribute [push_cast] nd body
theorem ok:Bd prog AO nd body 2 rs=true:=by kernel_rfl
end zY
def Vi {S:Type}(F:S->Term->S×Bool)(s:S):List Term->S×Bool
 | []=>(s,false)
 | a::l=>if (F s a).2 then ((F s a).1,true) else Vi F (F s a).1 l
def qc {S:Type}(F:S->Term->S×Bool)(s:S)(k:Nat):List Term->Int
 | []=>-1
 | a::l=>if (F s a).2 then k else qc F (F s a).1 (k+1) l
theorem rB {S:Type}(F:S->Term->S×Bool):∀ (l:List Term)(s:S)(k:Nat),0<=qc F s k l↔(Vi F s l).2=true
 | [],s,k=>by simp[qc,Vi]
 | a::l,s,k=>by
  unfold qc Vi
  by_cases h:(F s a).2=true
  ·rw[if_pos h,if_pos h];simp
  ·rw[if_neg h,if_neg h];exact rB F l _ _
section
variable {S:Type} {F:S->Term->S × Bool} {Hs:S->List Ob} {Inv:S->Prop} {g n:Nat} {caps:List V} (hn:∀ s,(Hs s).length = n) (hc:AS (AM n) caps = caps) (hH:∀ s,(Hs s).map (A6 (AM n)) = Hs s)
 (l:List Term) (hl:l.length<2^62) (h:∀ a∈l,∀ s,Inv s->Spec prog g (An a::caps) (Hs s) fun x H'=>x=.bool (F s a).2/\H'=Hs (F s a).1) (hi:∀ a∈l,∀ s,Inv s->(F s a).2=false->Inv (F s a).1)
include hn hc hH hl h hi
theorem cZ (s0:S)(h0:Inv s0):Spec prog Bh [Bk l,.fn (.func g) [] caps] (Hs s0) fun x H'=>x=.int .i64 (qc F s0 0 l)/\H'=Hs (Vi F s0 l).1:=by
 have htk:∀ s,(Hs s).take n=Hs s:=fun s=>List.take_of_length_le (by rw[hn];exact Nat.le_refl _)
 refine AK mixed lP.ok rfl ?_
 push_cast[hc,hH,hn,htk]
 refine Ac (n:=l.length) (R:=fun k=>∀ s,Inv s->qc F s k (l.drop k)=qc F s0 0 l->Vi F s (l.drop k)=Vi F s0 l->lP.L3 (Bk l) (.fn (.func g) [] caps) (.int .i64 l.length) (.int .i64 k) n (Hs s) (Bo n lP.rs fun x H'=>x=.int .i64 (qc F s0 0 l)/\H'=Hs (Vi F s0 l).1)) ?_ ?_ 0 (Nat.zero_le _) s0 h0 rfl rfl
 ·intro k hk ih s hs hq1 hq2
  refine A5.2 ?_
  have hm:=A4 hk
  rw[Ag hk]at hq1 hq2
  generalize hx:l.getD k default=a at hm hq1 hq2
  simp only[qc,Vi]at hq1 hq2
  push_cast[BC hk,hx]
  refine BD.all (R:=fun x H'=>x=.bool (F s a).2/\H'=Hs (F s a).1) (h a hm s hs) ?_
  rintro x H' ⟨rfl,rfl⟩
  cases hp:(F s a).2 with
  | true =>
   rw[hp,if_pos rfl]at hq1 hq2
   push_cast
   exact DJ (.inl rfl) rfl ⟨by rw[<-hq1];rfl,by rw[<-hq2]⟩
  | false =>
   rw[hp,if_neg (by simp)]at hq1 hq2
   push_cast[hc,hH,hn,htk,CD (show k<2^62 by omega)]
   have:=ih _ (hi a hm s hs hp) hq1 hq2
   push_cast at this
   exact this
 ·intro s hs hq1 hq2
  refine A5.2 ?_
  push_cast[AZ (Nat.le_refl _)]
  rw[Ak]at hq1 hq2
  exact DJ (.inl rfl) rfl ⟨by rw[<-hq1];rfl,by rw[<-hq2];rfl⟩
theorem Pg (s0:S)(h0:Inv s0):Spec prog AO [Bk l,.fn (.func g) [] caps] (Hs s0) fun x H'=>x=.bool (Vi F s0 l).2/\H'=Hs (Vi F s0 l).1:=by
 refine AK mixed zY.ok rfl ?_
 push_cast
 refine BD.all (R:=fun x H'=>x=.int .i64 (qc F s0 0 l)/\H'=Hs (Vi F s0 l).1) (cZ hn hc hH l hl h hi s0 h0) ?_
 rintro x H' ⟨rfl,rfl⟩
 push_cast
 have hd:decide (0<=qc F s0 0 l)=(Vi F s0 l).2:=by
  have:=rB F l s0 0
  cases hq:(Vi F s0 l).2 with
  | true=>rw[hq]at this;simpa using this
  | false=>rw[hq]at this;simpa using this
 rw[hn]
 exact DJ (.inl rfl) rfl ⟨by rw[<-hd];rfl,rfl⟩
end
mutual
def Pt (n:Int):Term->Int×Bool
 | .mk _ _ l=>if n-1<0 then (n-1,true) else Tp (n-1) l
def Tp (n:Int):List Term->Int×Bool
 | []=>(n,false)
 | a::l=>if (Pt n a).2 then ((Pt n a).1,true) else Tp (Pt n a).1 l
end
theorem zp (n:Int)(t:Term):Pt n t=if n-1<0 then (n-1,true) else Tp (n-1) t.args:=by cases t;rfl
theorem su (n:Int)(l:List Term):Tp n l=Vi Pt n l:=by
 induction l generalizing n with
 | nil=>rfl
 | cons a l ih=>simp only[Tp,Vi,ih]
mutual
theorem YV:∀ (t:Term)(n:Int),0<=n->((size t:Int)<=n->Pt n t=(n-size t,false))/\(n<(size t:Int)->(Pt n t).2=true)
 | .mk x v l,n,hn=>by
  have hs:size (.mk x v l)=1+Ae l:=rfl
  rw[hs]
  simp only[Pt]
  by_cases h:n-1<0
  ·rw[if_pos h]
   exact⟨fun h2=>by omega,fun _=>rfl⟩
  ·rw[if_neg h]
   have:=ax l (n-1) (by omega)
   refine⟨fun h2=>?_,fun h2=>this.2 (by omega)⟩
   rw[this.1 (by omega)]
   congr 1;omega
theorem ax:∀ (l:List Term)(n:Int),0<=n->((Ae l:Int)<=n->Tp n l=(n-Ae l,false))/\(n<(Ae l:Int)->(Tp n l).2=true)
 | [],n,hn=>⟨fun _=>by simp[Tp,Ae],fun h=>by simp[Ae]at h;omega⟩
 | a::l,n,hn=>by
  have hs:Ae (a::l)=size a+Ae l:=rfl
  rw[hs]
  simp only[Tp]
  have h1:=YV a n hn
  by_cases h2:(size a:Int)<=n
  ·have h3:=ax l (n-size a) (by omega)
   rw[h1.1 h2]
   simp only[Bool.false_eq_true,if_false]
   refine⟨fun h4=>?_,fun h4=>h3.2 (by omega)⟩
   rw[h3.1 (by omega)]
   congr 1;omega
  ·rw[h1.2 (by omega),if_pos rfl]
   exact⟨fun h4=>by omega,fun _=>rfl⟩
end
theorem rP {n:Int}{t:Term}(hn:0<=n/\n<=4000)(h:(Pt n t).2=false):0<=(Pt n t).1/\(Pt n t).1<=4000:=by
 have:=YV t n hn.1
 by_cases h2:(size t:Int)<=n
 ·rw[this.1 h2];simp;omega
 ·rw[this.2 (by omega)]at h;cases h
mutual
def Dn:Term->Nat
 | .mk _ _ l=>max l.length (Kf l)
def Kf:List Term->Nat
 | []=>0
 | a::l=>max (Dn a) (Kf l)
end
theorem Ek (t:Term):t.args.length<=Dn t/\Kf t.args<=Dn t:=by cases t;simp only[Dn,Term.args];omega
theorem TW {l:List Term}{a:Term}(h:a∈l):Dn a<=Kf l:=by
 induction l with
 | nil=>cases h
 | cons x xs ih=>rcases List.mem_cons.1 h with rfl | h<;>simp only[Kf];omega;have:=ih h;omega
def PQ (n:Int):List Ob:=[.cells F1 [.int .i64 n],.cells GQ [.fn (.func DE) [] [.ptr 0 0,.ptr 1 0]]]
theorem gC (n:Int):(PQ n).map (A6 (AM 2))=PQ n:=rfl
theorem W2 (W:Nat)(hW:W<2^60)(t:Term)(hw:Dn t<=W):∀ n:Int,0<=n/\n<=4000->Spec prog DE [An t,.ptr 0 0,.ptr 1 0] (PQ n) fun x H'=>x=.bool (Pt n t).2/\H'=PQ (Pt n t).1:=by
 induction t using Ai with
 | h t ih =>
 intro n hn
 have hwa:=Ek t
 have hw1:IntKind.i64.wrap (n-1)=n-1:=Bn (by omega) (by omega)
 refine AK mixed RM.ok rfl ?_
 rw[zp]
 by_cases h:n-1<0
 ·rw[if_pos h]
  unfold PQ
  push_cast[hw1,eq_true h]
  exact DJ (.inl rfl) rfl ⟨rfl,rfl⟩
 ·rw[if_neg h,su]
  have hC:=Pg (S:=Int) (F:=Pt) (Hs:=PQ) (Inv:=fun n=>0<=n/\n<=4000) (g:=DE) (n:=2) (caps:=[.ptr 0 0,.ptr 1 0]) (fun _=>rfl) rfl gC t.args (by omega)
   (fun a ha s hs=>ih a ha (by have:=TW ha;omega) s hs) (fun a ha s hs hf=>rP hs hf) (n-1) (by omega)
  unfold PQ at hC ⊢
  push_cast[hw1,eq_false h]
  refine BD.all (R:=fun x H'=>x=.bool (Vi Pt (n-1) t.args).2/\H'=[.cells F1 [.int .i64 (Vi Pt (n-1) t.args).1],.cells GQ [.fn (.func DE) [] [.ptr 0 0,.ptr 1 0]]]) hC ?_
  rintro x H' ⟨rfl,rfl⟩
  push_cast
  exact DJ (.inl rfl) rfl ⟨rfl,rfl⟩
theorem Zj (t:Term)(hw:Dn t<2^60):PF Nf [An t] (.bool (decide (4000<size t))):=by
 refine Ab Qm.ok rfl ?_
 push_cast
 have hL:=W2 _ hw t (Nat.le_refl _) 4000 (by omega)
 unfold PQ at hL
 refine BD.all (R:=fun x H'=>x=.bool (Pt 4000 t).2/\H'=[.cells F1 [.int .i64 (Pt 4000 t).1],.cells GQ [.fn (.func DE) [] [.ptr 0 0,.ptr 1 0]]]) hL ?_
 rintro x H' ⟨rfl,rfl⟩
 push_cast
 refine A1 ?_
 push_cast[Qm.rs]
 have:=YV t 4000 (by omega)
 by_cases h:4000<size t
 ·rw[this.2 (by omega)];simpa using h
 ·rw[this.1 (by omega)];simpa using h
end Go.Dw
end
section
namespace Go.Dw
mutual
theorem Qy:∀ (t:Term)(p:List Int),∀ x∈Aq t p,∃ q,x.1=p++q/\Dm t q=some x.2
 | .mk n v l,p,x,hx=>by
  simp only[Aq]at hx
  rcases List.mem_cons.1 hx with rfl | hx
  ·exact⟨[],by simp,rfl⟩
  ·obtain⟨k,q,h1,h2,h3⟩:=ac l p 0 x hx
   refine⟨(k:Int)::q,by simpa using h1,?_⟩
   rw[show Dm (.mk n v l) ((k:Int)::q)=if 0<=(k:Int)/\(k:Int)<l.length then Dm (l.getD (k:Int).toNat default) q else none from rfl,if_pos ⟨by omega,by omega⟩]
   simpa using h3
theorem ac:∀ (l:List Term)(p:List Int)(i:Nat),∀ x∈B9 l p i,∃ (k:Nat) (q:List Int),x.1=p++((i+k:Nat):Int)::q/\k<l.length/\Dm (l.getD k default) q=some x.2
 | [],p,i,x,hx=>by simp[B9]at hx
 | a::l,p,i,x,hx=>by
  simp only[B9,List.mem_append]at hx
  rcases hx with hx | hx
  ·obtain⟨q,h1,h2⟩:=Qy a _ x hx
   exact⟨0,q,by simpa using h1,by simp,by simpa using h2⟩
  ·obtain⟨k,q,h1,h2,h3⟩:=ac l p (i+1) x hx
   refine⟨k+1,q,?_,by simp;omega,by simpa using h3⟩
   rw[h1];congr 3;omega
end
theorem oB (t:Term){k:Nat}(hk:k<(Fp t).length):Dm t ((Fp t).getD k default)=some ((Aq t []).getD k default).2/\((Aq t []).getD k default).1=(Fp t).getD k default:=by
 have hl:k<(Aq t []).length:=by rw[Nz];rw[XW]at hk;exact hk
 have hm:(Aq t []).getD k default∈Aq t []:=A4 hl
 obtain⟨q,h1,h2⟩:=Qy t [] _ hm
 have h3:=Lp t []
 have h4:((Aq t []).map Prod.fst).getD k default=((Fp t).map ([]++·)).getD k default:=by rw[h3]
 have h5:((Aq t []).getD k default).1=(Fp t).getD k default:=by
  simp only[List.getD_eq_getElem?_getD,List.getElem?_map,List.getElem?_eq_getElem hl,List.getElem?_eq_getElem hk,Option.map_some,Option.getD_some,List.nil_append]at h4 ⊢
  exact h4
 refine⟨?_,h5⟩
 rw[<-h5,h1,List.nil_append];exact h2
section
variable {P:Program} {N:Nat->C} {B:Nat} {ds:List Nat} {g l:List S} {s:List K} {t:T} {H:List Ob} {Q:X->T->List Ob->Prop}
theorem Afl:gP P N B true ds g l s t H Q (.bool true)=Ax P N B (.r (g++l)::s) t H Q:=by simp[gP]
theorem Afn:gP P N B false ds g l s t H Q (.bool false)=Ax P N B (.r (g++l)::s) t H Q:=by simp[gP]
theorem Afj:gP P N B true ds g l s t H Q (.bool false)=Ax P N B (.r l::s) (ds.map (fun d=>(d,V.tup []))++t) H Q:=by simp[gP]
theorem Afk:gP P N B false ds g l s t H Q (.bool true)=Ax P N B (.r l::s) (ds.map (fun d=>(d,V.tup []))++t) H Q:=by simp[gP]
theorem Afv {a b:C}:cP P N B a b s t H Q (.bool true)=Ax P N B (.c a::s) t H Q:=by simp[cP]
theorem Afx {a b:C}:cP P N B a b s t H Q (.bool false)=Ax P N B (.c b::s) t H Q:=by simp[cP]
end
end Go.Dw
end
namespace Go.Dw
theorem YA {r:List A2}(h:Ao r=0):∀ x∈r,x.left.var=false:=by
 unfold Ao at h
 split at h
 ·rename_i h1;exact absurd h h1
 ·split at h
  ·cases h
  ·split at h
   ·cases h
   ·split at h
    ·cases h
    ·rename_i h3
     intro x hx
     have h4:Mc x=false:=by
      cases he:Mc x with
      | false=>rfl
      | true=>exact absurd (List.any_eq_true.2 ⟨x,hx,he⟩) h3
     unfold Mc at h4
     simp only[Bool.or_eq_false_iff]at h4
     exact h4.1
theorem Uu (v:A9)(t:Term):CI v t=((t.var&&decide (t.name=v))||EW v t.args):=by cases t;rfl
theorem gM {v:A9}{l:List Term}{a:Term}(h:a∈l)(ho:CI v a=true):EW v l=true:=by
 induction l with
 | nil=>cases h
 | cons x xs ih =>
  simp only[EW,Bool.or_eq_true]
  rcases List.mem_cons.1 h with rfl | h
  ·exact .inl ho
  ·exact .inr (ih h)
theorem WN {v:A9}{t a:Term}(h:a∈t.args)(ho:CI v a=true):CI v t=true:=by rw[Uu,gM h ho,Bool.or_true]
theorem U8 {t:Term}(h:t.var=true):CI t.name t=true:=by rw[Uu,h];simp
theorem cO (vars:List A9)(x:List Term)(hva:vars.length<=x.length)(hl:vars.length<2^40)(t:Term)(ht:size t<2^40)(ho:∀ v,CI v t=true->v∈vars):PF Lc [An t,Bw vars,Bk x] (An (D7 vars x t)):=by
 induction t using Ai with
 | h t ih =>
 have hst:=AJ t
 have hll:=Am t.args
 refine Ab Mr.ok rfl ?_
 rw[M6]
 cases hv:t.var with
 | true =>
  obtain⟨h1,h2,h3⟩:=Gc (ho _ (U8 hv))
  have hI:=FA vars t.name (by omega)
  rw[h1]at hI
  have hlt:((Mu t.name vars:Int)<(x.length:Int))=True:=eq_true (by omega)
  push_cast[hv]
  refine .of hI ?_
  push_cast[hlt]
  exact A1 (by push_cast[Mr.rs])
 | false =>
  push_cast[hv]
  refine Ac (n:=t.args.length) (R:=fun k=>Mr.L3 (Bw vars) (Bk x) (.ptr 0 0) (.ptr 1 0) (Bk t.args) (.int .i64 t.args.length) (.int .i64 k) 0 [.cells A3 [.str [],.bool false,.sl 3 []],.cells A3 [.str t.name,.bool false,Bf cT 2 3 ((t.args.take k).map (D7 vars x))],.arr A3 3 k] _) ?_ ?_ 0 (by omega)
  ·intro k hk ih2
   have hm:=A4 hk
   have hm2:=By hm
   have hlen:((t.args.take k).map (D7 vars x)).length=k:=by simp;omega
   rw[Aa hk,List.map_append,List.map_singleton]at ih2
   refine A5.2 ?_
   push_cast[BC hk]
   refine .of (ih _ hm (by omega) fun v hv2=>ho v (WN hm hv2)) ?_
   push_cast[hlen,CD (show k<2^62 by omega)]
   exact⟨Nat.le_trans (Nat.mul_le_mul_right 48 (show _<=2^41 by omega)) (by unfold Ah;decide),ih2⟩
  ·refine A5.2 ?_
   push_cast[AZ (Nat.le_refl _)]
   refine A1 ?_
   push_cast[Mr.rs,List.take_length,zO]
   try rfl
theorem bU (r:List A2)(f:A2->Term)(g:Nat)(hr:KJ r<2^38)(hof:∀ x∈r,PF g [Kn x] (An (f x)))(hsz:∀ x∈r,size (f x)<2^40)(hvs:∀ x∈r,∀ v,CI v (f x)=true->v∈AA [x.left])(m:A0)(hok:Hm r m)(hm:As m<2^39) :
  PF KP [Al r,AP m,.fn (.func g) [] []] (An (Ad r f m)):=by
 induction m using BU with
 | h m ih =>
 have hst:=AU m
 have hll:=B7 m.args
 refine Ab M3.ok rfl ?_
 rw[DK]
 push_cast
 refine Ac (n:=m.args.length) (R:=fun k=>M3.L4 (Al r) (.fn (.func g) [] []) (.ro (cM m) 0) (.ptr 0 0) (Bf cT 1 3 ((m.args.take k).map (Ad r f))) (Av m.args) (.int .i64 m.args.length) (.int .i64 k) 0 [.cells A3 [.str [],.bool false,.sl 3 []],.arr A3 3 k] _) ?_ ?_ 0 (by omega)
 ·intro k hk ih2
  have hmm:=A4 hk
  have hm2:=CP hmm
  have hlen:((m.args.take k).map (Ad r f)).length=k:=by simp;omega
  rw[Aa hk,List.map_append,List.map_singleton]at ih2
  refine A5.2 ?_
  push_cast[BC hk]
  refine .of (ih _ hmm (hok.arg hmm) (by omega)) ?_
  push_cast[hlen,CD (show k<2^62 by omega)]
  exact⟨Nat.le_trans (Nat.mul_le_mul_right 48 (show _<=2^41 by omega)) (by unfold Ah;decide),ih2⟩
 ·refine A5.2 ?_
  push_cast[AZ (Nat.le_refl _),List.take_length]
  by_cases h0:m.rule=0
  ·push_cast[eq_true h0]
   refine A1 ?_
   push_cast[M3.rs]
   show V.agg [.str m.name,.bool m.var,Bk (m.args.map (Ad r f))]=An (.mk m.name m.var (m.args.map (Ad r f)))
   unfold An;rw[P7];rfl
  ·obtain⟨k1,k2,k3,k4,k5,k6⟩:=hok.rule h0
   have hw:IntKind.i64.wrap (m.rule-1)=m.rule-1:=Bn (by have:=Bl r;omega) (by have:=Bl r;omega)
   have hc1:((0:Int)<=m.rule-1)=True:=eq_true (by omega)
   have hc2:(m.rule-1<(r.length:Int))=True:=eq_true (by omega)
   have hru:r.getD (m.rule-1).toNat default=At r m:=rfl
   have hrm:=Gi k3
   have hsl:=AX (At r m).left
   have hV:=EH [(At r m).left] (by simp[Ae];omega)
   push_cast[eq_false h0,hw,hc1,hc2,hru]
   refine .of (hof _ k3) ?_
   push_cast
   refine .of hV ?_
   push_cast
   refine .of (cO (AA [(At r m).left]) (m.args.map (Ad r f)) (by rw[List.length_map,k4];exact Nat.le_refl _) (by rw[<-k4];omega) _ (hsz _ k3) (hvs _ k3)) ?_
   push_cast
   exact A1 (by push_cast[M3.rs])
theorem Uo {α:Type}{f:α->Term}{W:Nat}:∀ {l:List α},(∀ a∈l,Dn (f a)<=W)->Kf (l.map f)<=W
 | [],_=>by simp[Kf]
 | a::l,h=>by
  simp only[List.map_cons,Kf]
  have h1:=h a (by simp)
  have h2:=Uo (f:=f) (l:=l) fun b hb=>h b (by simp[hb])
  omega
theorem kh {l:List Term}{k:Nat}:Dn (l.getD k default)<=Kf l:=by
 by_cases h:k<l.length
 ·exact TW (A4 h)
 ·rw[List.getD_eq_getElem?_getD,List.getElem?_eq_none (by omega)]
  exact Nat.zero_le _
theorem nR (vars:List A9)(x:List Term)(t:Term):Dn (D7 vars x t)<=max (Kf x) (size t):=by
 induction t using Ai with
 | h t ih =>
  rw[M6]
  have hst:=AJ t
  have hll:=Am t.args
  split
  ·have:=kh (l:=x) (k:=Mu t.name vars);omega
  ·simp only[Dn,List.length_map]
   have:=Uo (f:=D7 vars x) (W:=max (Kf x) (size t)) (l:=t.args) fun a ha=>by
    have:=ih a ha
    have:=By ha
    omega
   omega
theorem oR (r:List A2)(f:A2->Term){W:Nat}(hsz:∀ x∈r,size (f x)<=W)(m:A0)(hok:Hm r m)(hm:As m<=W):Dn (Ad r f m)<=W:=by
 induction m using BU with
 | h m ih =>
  rw[DK]
  have hst:=AU m
  have hll:=B7 m.args
  have hw:=Uo (f:=Ad r f) (W:=W) (l:=m.args) fun a ha=>ih a ha (hok.arg ha) (by have:=CP ha;omega)
  split
  ·simp only[Dn,List.length_map];omega
  ·rename_i h0
   have:=nR (AA [(At r m).left]) (m.args.map (Ad r f)) (f (At r m))
   have:=hsz _ (hok.rule h0).2.2.1
   omega
theorem VX (r:List A2)(f:A2->Term)(g:Nat)(m:A0)(hr:KJ r<2^38)(hm:mb m<2^38)(hof:∀ x∈r,PF g [Kn x] (An (f x)))(hsz:∀ x∈r,size (f x)<2^40)(hvs:Ao r=0->∀ x∈r,∀ v,CI v (f x)=true->v∈AA [x.left]) :
  PF ML [Al r,AP m,.fn (.func g) [] []] (Hj (Ga r f m).1 (Ga r f m).2):=by
 have hmz:=GC m
 refine Ab LB.ok rfl ?_
 push_cast
 refine .of (Zr r m hr (by omega)) ?_
 unfold Ga
 by_cases h1:¬ FC r m=0
 ·rw[if_pos h1]
  push_cast[eq_false h1]
  exact A1 (by push_cast[LB.rs];rfl)
 have h1:FC r m=0:=Classical.not_not.1 h1
 rw[if_neg (by simpa using h1)]
 obtain⟨c1,c2,c3,c4⟩:=GY h1
 have hS:=bU r f g hr hof hsz (hvs c1) m c2 (by omega)
 have hwd:=oR r f (W:=2^40) (fun x hx=>by have:=hsz x hx;omega) m c2 (by omega)
 generalize Ad r f m=t at hS hwd
 push_cast[h1]
 refine .of hS ?_
 push_cast
 refine .of (Zj t (by omega)) ?_
 by_cases h2:4000<size t
 ·have hf:BJ t=false:=by unfold BJ;simp;omega
  rw[hf]
  push_cast[eq_true h2]
  exact A1 (by push_cast[LB.rs];rfl)
 ·push_cast[eq_false h2]
  refine .of (P4 t (by omega)) ?_
  push_cast
  refine .of (YQ t (by omega)) ?_
  cases hf:BJ t with
  | true =>
   rw[if_pos rfl,if_pos rfl]
   unfold Hj
   push_cast
   exact A1 (by push_cast[LB.rs];try rfl)
  | false =>
   rw[if_neg (by simp),if_neg (by simp)]
   unfold Hj
   push_cast
   exact A1 (by push_cast[LB.rs];try rfl)
theorem MO (x:A2):∀ v,CI v x.left=true->v∈AA [x.left]:=fun v h=>(E5 v x.left).2 h
theorem IH {r:List A2}(h:Ao r=0):∀ x∈r,∀ v,CI v x.right=true->v∈AA [x.left]:=by
 unfold Ao at h
 split at h
 ·rename_i h1;exact absurd h h1
 ·split at h
  ·cases h
  ·split at h
   ·cases h
   ·split at h
    ·cases h
    ·rename_i h3
     intro x hx v hv
     have h4:Mc x=false:=by
      cases he:Mc x with
      | false=>rfl
      | true=>exact absurd (List.any_eq_true.2 ⟨x,hx,he⟩) h3
     unfold Mc at h4
     simp only[Bool.or_eq_false_iff]at h4
     have:=List.any_eq_false.1 h4.2 v ((E5 v x.right).2 hv)
     simpa using this
theorem Uk (x:A2):PF GW [Kn x] (An x.left):=by
 refine Ab LR.ok rfl ?_
 push_cast
 exact A1 (by push_cast[LR.rs];try rfl)
theorem Ui (x:A2):PF GV [Kn x] (An x.right):=by
 refine Ab LI.ok rfl ?_
 push_cast
 exact A1 (by push_cast[LI.rs];try rfl)
theorem XB (r:List A2)(m:A0)(hr:KJ r<2^38)(hm:mb m<2^38):PF M9 [Al r,AP m] (Hj (Ga r A2.left m).1 (Ga r A2.left m).2):=by
 refine Ab OJ.ok rfl ?_
 have hE:=VX r A2.left GW m hr hm (fun x _=>Uk x) (fun x hx=>by have:=Gi hx;have:=AX x.left;omega) (fun _ x _=>MO x)
 push_cast
 refine .of hE ?_
 generalize (Ga r A2.left m)=p
 obtain⟨o,e⟩:=p
 cases o<;>(unfold Hj;push_cast;exact A1 (by push_cast[OJ.rs];try rfl))
theorem XZ (r:List A2)(m:A0)(hr:KJ r<2^38)(hm:mb m<2^38):PF LU [Al r,AP m] (Hj (Ga r A2.right m).1 (Ga r A2.right m).2):=by
 refine Ab OD.ok rfl ?_
 have hE:=VX r A2.right GV m hr hm (fun x _=>Ui x) (fun x hx=>by have:=Gi hx;have:=AX x.right;omega) (fun h=>IH h)
 push_cast
 refine .of hE ?_
 generalize (Ga r A2.right m)=p
 obtain⟨o,e⟩:=p
 cases o<;>(unfold Hj;push_cast;exact A1 (by push_cast[OD.rs];try rfl))
end Go.Dw
section
namespace Go.Dw
section
variable {P:Program} {N:Nat->C} {B:Nat} {ds:List Nat} {g l:List S} {s:List K} {t:T} {H:List Ob} {Q:X->T->List Ob->Prop}
theorem Adj:gP P N B true ds g l s t H Q (.bool true)=Ax P N B (.r (g++l)::s) t H Q:=by simp[gP]
theorem Adp:gP P N B false ds g l s t H Q (.bool false)=Ax P N B (.r (g++l)::s) t H Q:=by simp[gP]
theorem Adn:gP P N B true ds g l s t H Q (.bool false)=Ax P N B (.r l::s) (ds.map (fun d=>(d,V.tup []))++t) H Q:=by simp[gP]
theorem Adx:gP P N B false ds g l s t H Q (.bool true)=Ax P N B (.r l::s) (ds.map (fun d=>(d,V.tup []))++t) H Q:=by simp[gP]
theorem AeX {a b:C}:cP P N B a b s t H Q (.bool true)=Ax P N B (.c a::s) t H Q:=by simp[cP]
theorem AeT {a b:C}:cP P N B a b s t H Q (.bool false)=Ax P N B (.c b::s) t H Q:=by simp[cP]
end
attribute [push_cast] Adj Adp Adn Adx AeX AeT
end Go.Dw
end
namespace Go.Dw
def TL (s:A9):List A9->List A9
 | []=>[s]
 | x::l=>if x<s then x::TL s l else if x=s then x::l else s::x::l
theorem rY (s:A9):∀ l:List A9,Pz l s=TL s l
 | []=>rfl
 | x::l=>by
  have ih:=rY s l
  unfold Pz at ih ⊢
  simp only[Zx,TL]
  by_cases h:x<s
  ·simp only[h,decide_true,if_true]
   rw[<-ih]
   simp only[List.length_cons,Nat.add_lt_add_iff_right,List.getD_cons_succ,List.take_succ_cons,List.drop_succ_cons]
   split<;>simp
  ·simp only[h,decide_false,Bool.false_eq_true,if_false,List.length_cons,Nat.zero_lt_succ,true_and,List.getD_cons_zero,List.take_zero,List.drop_zero,List.nil_append]
def SS (l:List A9):Prop:=l.Pairwise (· < ·)
theorem ZX {s v:A9}:∀ {l:List A9},v∈TL s l->v∈l\/v=s
 | [],h=>.inr (by simpa[TL]using h)
 | x::l,h=>by
  unfold TL at h
  split at h
  ·rcases List.mem_cons.1 h with rfl | h
   ·exact .inl (by simp)
   ·rcases ZX h with h | h
    ·exact .inl (by simp[h])
    ·exact .inr h
  ·split at h
   ·exact .inl h
   ·rcases List.mem_cons.1 h with rfl | h
    ·exact .inr rfl
    ·exact .inl h
theorem To {s:A9}:∀ {l:List A9},SS l->SS (TL s l)
 | [],_=>by simp[TL,SS]
 | x::l,h=>by
  unfold SS at h ⊢
  rw[List.pairwise_cons]at h
  unfold TL
  split
  ·rename_i hx
   rw[List.pairwise_cons]
   refine⟨fun v hv=>?_,To h.2⟩
   rcases ZX hv with hv | rfl
   ·exact h.1 v hv
   ·exact hx
  ·rename_i hx
   split
   ·rw[List.pairwise_cons];exact h
   ·rename_i hne
    have hsx:s<x:=by
     rcases Classical.em (s<x)with hc | hc
     ·exact hc
     ·exact absurd (Xg hc hx).symm hne
    rw[List.pairwise_cons,List.pairwise_cons]
    refine⟨fun v hv=>?_,h⟩
    rcases List.mem_cons.1 hv with rfl | hv
    ·exact hsx
    ·exact NE hsx (h.1 v hv)
mutual
theorem Pi:∀ (t:Term)(l:List A9),SS l->SS (DG l t)
 | .mk n b ar,l,h=>by
  simp only[DG]
  refine O4 ar _ ?_
  split
  ·rw[rY];exact To h
  ·exact h
theorem O4:∀ (ar:List Term)(l:List A9),SS l->SS (BF l ar)
 | [],l,h=>h
 | a::ar,l,h=>by simp only[BF];exact O4 ar _ (Pi a l h)
end
theorem Yl (l:List A9):∀ ks:List A9,ks.Nodup->(l.foldl Wo ks).Nodup:=by
 induction l with
 | nil=>intro ks h;exact h
 | cons x l ih =>
  intro ks h
  refine ih _ ?_
  unfold Wo
  split
  ·exact h
  ·rename_i hx
   rw[List.nodup_append]
   exact⟨h,by simp,fun a ha b hb e=>by rw[List.mem_singleton]at hb;subst hb;subst e;exact hx ha⟩
theorem eu (t:Term):Ed t=AA [t]:=by
 have h1:SS (Ed t):=Pi t [] List.Pairwise.nil
 have h2:(I7 [] [t]).Nodup:=by
  show (Rl [] (Aq t [])).Nodup
  exact Yl _ _ List.nodup_nil
 have hm:∀ v,v∈Ed t↔v∈I7 [] [t]:=fun v=>by
  have e1:v∈Ed t↔CI v t=true:=by
   unfold Ed;rw[Fw];simp
  have e2:=E5 v t
  unfold AA at e2
  rw[(List.mergeSort_perm _ _).mem_iff]at e2
  rw[e1,e2]
 have hnd:(Ed t).Nodup:=h1.imp fun hab e=>by rw[e]at hab;exact DB _ hab
 have hp:(Ed t).Perm (I7 [] [t]):=(List.perm_ext_iff_of_nodup hnd h2).2 hm
 unfold AA
 have e3:Proofs.sortS (I7 [] [t])=Proofs.sortS (Ed t):=Go.mergeSort_of_perm hp.symm
 rw[e3]
 unfold Proofs.sortS
 refine (List.mergeSort_of_pairwise ?_).symm
 refine h1.imp fun {a b} hab=>?_
 simpa using List.le_of_lt hab
theorem LO (x:A2)(ht:tb x.left<2^39):PF GG [Kn x] (Bw (AA [x.left])):=by
 refine Ab XC.ok rfl ?_
 push_cast
 have hV:=Sj x.left ht
 rw[eu]at hV
 refine .of hV ?_
 push_cast
 exact A1 (by push_cast[XC.rs])
theorem RF {α:Type}[Inhabited α]{p:α->Bool}{l:List α}{k:Nat}(hk:k<l.length):(l.drop k).all p=(p (l.getD k default)&&(l.drop (k+1)).all p):=by
 rw[Ag hk,List.all_cons]
theorem bK (r:List A2)(m:A0)(hs:As m<2^40):PF KV [Al r,AP m] (.bool (Gp (Cb r.length) m)):=by
 induction m using BU with
 | h m ih =>
 have hst:=AU m
 have hl:=B7 m.args
 refine Ab Gu.ok rfl ?_
 rw[He]
 have hrd:Cb r.length m=(decide (0<=m.rule)&&decide (m.rule<=r.length)):=rfl
 by_cases h1:m.rule<0
 ·have hf:Cb r.length m=false:=by rw[hrd];simp;omega
  push_cast[eq_true h1,hf]
  exact A1 (by push_cast[Gu.rs])
 by_cases h2:(r.length:Int)<m.rule
 ·have hf:Cb r.length m=false:=by rw[hrd];simp;omega
  push_cast[eq_false h1,eq_true h2,hf]
  exact A1 (by push_cast[Gu.rs])
 have ht:Cb r.length m=true:=by rw[hrd];simp;omega
 push_cast[eq_false h1,eq_false h2,ht]
 refine Ac (n:=m.args.length) (R:=fun k=>(m.args.drop k).all (Gp (Cb r.length))=m.args.all (Gp (Cb r.length))->Gu.L3 (Al r) (Av m.args) (.int .i64 m.args.length) (.int .i64 k) 0 [] (Bo 0 Gu.rs fun x' H'=>x'=.bool (m.args.all (Gp (Cb r.length)))/\H'=[])) ?_ ?_ 0 (by omega) rfl
 ·intro k hk ih2 hq
  have hm:=A4 hk
  have hsm:=CP hm
  rw[RF hk]at hq
  refine A5.2 ?_
  push_cast[BC hk]
  refine .of (ih _ hm (by omega)) ?_
  cases hp:Gp (Cb r.length) (m.args.getD k default)with
  | false =>
   rw[hp,Bool.false_and]at hq
   push_cast[<-hq]
   exact A1 (by push_cast[Gu.rs])
  | true =>
   rw[hp,Bool.true_and]at hq
   push_cast[CD (show k<2^62 by omega)]
   exact ih2 hq
 ·intro hq
  refine A5.2 ?_
  push_cast[AZ (Nat.le_refl _)]
  rw[Ak]at hq
  exact A1 (by push_cast[Gu.rs,<-hq];rfl)
theorem iv (m:A0)(hs:As m<2^40):PF Oo [AP m] (.tup [.int .i64 (As m),.int .i64 (AR m)]):=by
 induction m using BU with
 | h m ih =>
 refine Ab Tg.ok rfl ?_
 have hst:=AU m
 have hdt:=CB m
 have hl:=B7 m.args
 have hd:=N6 m.args
 push_cast
 refine Ac (n:=m.args.length) (R:=fun k=>Tg.L3 (.int .i64 ((1+BB (m.args.take k):Nat):Int)) (.int .i64 (AT (m.args.take k):Nat)) (Av m.args) (.int .i64 m.args.length) (.int .i64 k) 0 [] _) ?_ ?_ 0 (by omega)
 ·intro k hk ih2
  have h1:=Ge _ _ hk
  have h2:=JH _ _ hk
  have h3:=QB m.args (k+1)
  have hm:=A4 hk
  have:=CP hm
  refine A5.2 ?_
  push_cast[BC hk]
  refine .of (ih _ hm (by omega)) ?_
  push_cast[CD (show k<2^62 by omega)]
  rw[Bn (by omega) (by omega)]
  rw[h1,h2]at ih2
  push_cast at ih2
  simpa[Int.add_assoc]using ih2
 ·refine A5.2 ?_
  push_cast[AZ (Nat.le_refl _),List.take_length]
  rw[Bn (by omega) (by omega)]
  refine A1 ?_
  push_cast[Tg.rs,hst,hdt]
theorem eS (m:A0)(hs:As m<2^40):PF Qe [AP m] (.bool (F7 m)):=by
 refine Ab QM.ok rfl ?_
 push_cast
 refine .of (iv m hs) ?_
 unfold F7
 by_cases h:As m<=4000
 ·have hi:((As m:Int)<=4000)=True:=eq_true (by omega)
  push_cast[hi]
  refine A1 ?_
  push_cast[QM.rs,h]
  exact decide_eq_decide.2 (by omega)
 ·have hi:((As m:Int)<=4000)=False:=eq_false (by omega)
  push_cast[hi]
  exact A1 (by push_cast[QM.rs,h];try rfl)
set_option maxHeartbeats 2000000 in
theorem cf (r:List A2)(hr:KJ r<2^38)(m:A0)(hq:Gp (Cb r.length) m=true)(hm:mb m<2^40):PF Li [Al r,AP m] (.bool (Gp (Bv r) m)):=by
 induction m using BU with
 | h m ih =>
 have hmb:=WL m
 have hsz:=GC m
 have hst:=AU m
 have hl:=B7 m.args
 have hI:∀ b,PF Ez [.str m.name,.bool b] (.bool (BW m.name b)):=fun b=>Ts _ b (by omega)
 have hqs:=F5 hq
 unfold Cb at hqs
 rw[Bool.and_eq_true,decide_eq_true_eq,decide_eq_true_eq]at hqs
 refine Ab Cr.ok rfl ?_
 rw[He]
 have hloop:Bv r m=true->Cr.L3 (Al r) (Av m.args) (.int .i64 m.args.length) (.int .i64 0) 0 [] (Bo 0 Cr.rs fun x' H'=>x'=.bool (Bv r m&&m.args.all (Gp (Bv r)))/\H'=[]):=fun hf=>by
  rw[hf,Bool.true_and]
  refine Ac (n:=m.args.length) (R:=fun k=>(m.args.drop k).all (Gp (Bv r))=m.args.all (Gp (Bv r))->Cr.L3 (Al r) (Av m.args) (.int .i64 m.args.length) (.int .i64 k) 0 [] (Bo 0 Cr.rs fun x' H'=>x'=.bool (m.args.all (Gp (Bv r)))/\H'=[])) ?_ ?_ 0 (by omega) rfl
  ·intro k hk ih2 hq2
   have hm2:=A4 hk
   have hsm:=cX hm2
   rw[RF hk]at hq2
   refine A5.2 ?_
   push_cast[BC hk]
   refine .of (ih _ hm2 (NI hq hm2) (by omega)) ?_
   cases hp:Gp (Bv r) (m.args.getD k default)with
   | false =>
    rw[hp,Bool.false_and]at hq2
    push_cast[<-hq2]
    exact A1 (by push_cast[Cr.rs])
   | true =>
    rw[hp,Bool.true_and]at hq2
    push_cast[CD (show k<2^62 by omega)]
    exact ih2 hq2
  ·intro hq2
   refine A5.2 ?_
   push_cast[AZ (Nat.le_refl _)]
   rw[Ak]at hq2
   exact A1 (by push_cast[Cr.rs,<-hq2];rfl)
 have hfe:Bv r m=if 0<m.rule then decide (m.name=[])&&(!m.var&&decide (m.args.length=(AA [(At r m).left]).length)) else if m.var then decide (m.args.length=0)&&BW m.name false else decide (m.args.length<=8)&&BW m.name true:=rfl
 by_cases h1:0<m.rule
 ·have hm1:r.getD (m.rule-1).toNat default∈r:=A4 (by omega)
  have hrm:=Gi hm1
  have hru:r.getD (m.rule-1).toNat default=At r m:=rfl
  have hw:IntKind.i64.wrap (m.rule-1)=m.rule-1:=Bn (by have:=Bl r;omega) (by have:=Bl r;omega)
  have hc1:((0:Int)<=m.rule-1)=True:=eq_true (by omega)
  have hc2:(m.rule-1<(r.length:Int))=True:=eq_true (by omega)
  rw[hru]at hrm
  have hV:=LO (At r m) (by omega)
  rw[if_pos h1]at hfe
  cases h3:m.var with
  | true =>
   have hf:Bv r m=false:=by rw[hfe,h3];simp
   push_cast[eq_true h1,h3,hf]
   exact A1 (by push_cast[Cr.rs])
  | false =>
  by_cases h2:m.name=[]
  ·by_cases h4:m.args.length=(AA [(At r m).left]).length
   ·have hf:Bv r m=true:=by rw[hfe,h3,h2];simp[h4]
    have hL:=hloop hf
    have h4i:((m.args.length:Int)=((AA [(At r m).left]).length:Int))=True:=eq_true (by omega)
    push_cast[eq_true h1,h2,h3,hw,hc1,hc2,hru]
    refine .of hV ?_
    push_cast[h4i]
    exact hL
   ·have hf:Bv r m=false:=by rw[hfe,h3,h2];simp[h4]
    have h4i:((m.args.length:Int)=((AA [(At r m).left]).length:Int))=False:=eq_false (by omega)
    push_cast[eq_true h1,h2,h3,hw,hc1,hc2,hru,hf]
    refine .of hV ?_
    push_cast[h4i]
    exact A1 (by push_cast[Cr.rs])
  ·have hf:Bv r m=false:=by rw[hfe];simp[h2]
   push_cast[eq_true h1,eq_false h2,h3,hf]
   exact A1 (by push_cast[Cr.rs])
 ·rw[if_neg h1]at hfe
  cases hv:m.var with
  | true =>
   rw[hv,if_pos rfl]at hfe
   cases hn:BW m.name false with
   | false =>
    have hf:Bv r m=false:=by rw[hfe,hn];simp
    push_cast[eq_false h1,hv]
    refine .of (hI false) ?_
    push_cast[hn,hf]
    exact A1 (by push_cast[Cr.rs])
   | true =>
   by_cases h0:m.args.length=0
   ·have hf:Bv r m=true:=by rw[hfe,hn];simp[h0]
    have hL:=hloop hf
    have h0i:(0<(m.args.length:Int))=False:=eq_false (by omega)
    push_cast[eq_false h1,hv]
    refine .of (hI false) ?_
    push_cast[hn,h0i]
    exact hL
   ·have hf:Bv r m=false:=by rw[hfe,hn];simp[h0]
    have h0i:(0<(m.args.length:Int))=True:=eq_true (by omega)
    push_cast[eq_false h1,hv]
    refine .of (hI false) ?_
    push_cast[hn,h0i,hf]
    exact A1 (by push_cast[Cr.rs])
  | false =>
   rw[hv,if_neg (by simp)]at hfe
   cases hn:BW m.name true with
   | false =>
    have hf:Bv r m=false:=by rw[hfe,hn];simp
    push_cast[eq_false h1,hv]
    refine .of (hI true) ?_
    push_cast[hn,hf]
    exact A1 (by push_cast[Cr.rs])
   | true =>
   by_cases h0:m.args.length<=8
   ·have hf:Bv r m=true:=by rw[hfe,hn];simp[h0]
    have hL:=hloop hf
    have h0i:(8<(m.args.length:Int))=False:=eq_false (by omega)
    push_cast[eq_false h1,hv]
    refine .of (hI true) ?_
    push_cast[hn,h0i]
    exact hL
   ·have hf:Bv r m=false:=by rw[hfe,hn];simp[h0]
    have h0i:(8<(m.args.length:Int))=True:=eq_true (by omega)
    push_cast[eq_false h1,hv]
    refine .of (hI true) ?_
    push_cast[hn,h0i,hf]
    exact A1 (by push_cast[Cr.rs])
theorem pT (m:A0):F7 m=true↔¬ (4000<As m\/200<AR m):=by unfold F7;simp
theorem gx (r:List A2)(m:A0)(hr:KJ r<2^38)(hm:mb m<2^39):PF PB [Al r,AP m] (.int .i64 (FC r m)):=by
 have hsz:=GC m
 refine Ab Ju.ok rfl ?_
 push_cast
 refine .of (MF r (by omega)) ?_
 generalize hT:FC r m=T
 unfold FC at hT
 by_cases h1:¬ Ao r=0
 ·rw[if_pos h1]at hT
  subst hT
  push_cast[eq_false h1]
  exact A1 (by push_cast[Ju.rs])
 have h1:Ao r=0:=Classical.not_not.1 h1
 rw[if_neg (by simpa using h1)]at hT
 push_cast[h1]
 refine .of (bK r m (by omega)) ?_
 cases h2:Gp (Cb r.length) m with
 | false =>
  rw[h2,if_pos rfl]at hT
  subst hT
  push_cast
  exact A1 (by push_cast[Ju.rs])
 | true =>
 rw[h2,if_neg (by simp)]at hT
 push_cast
 refine .of (cf r hr m h2 (by omega)) ?_
 cases h3:Gp (Bv r) m with
 | false =>
  rw[h3,if_pos rfl]at hT
  subst hT
  push_cast
  exact A1 (by push_cast[Ju.rs])
 | true =>
 rw[h3,if_neg (by simp)]at hT
 push_cast
 refine .of (eS m (by omega)) ?_
 have hf:=pT m
 cases h4:F7 m with
 | false =>
  rw[h4]at hf
  rw[if_pos (Classical.not_not.1 fun h=>by simpa using hf.2 h)]at hT
  subst hT
  push_cast
  exact A1 (by push_cast[Ju.rs])
 | true =>
  rw[if_neg (hf.1 h4)]at hT
  subst hT
  push_cast
  exact A1 (by push_cast[Ju.rs])
end Go.Dw
section
namespace Go.Dw
open Go.Proofs.YtkdcfkfdkimaeaaGreatDoor
section
variable {H:Type} {enc:TypeId × Value->H} {W:World}
theorem Abj:prog.cellsOf 25=1+1+1+1:=by kernel_rfl
theorem AeM:prog.cellsOf 23=1:=by kernel_rfl
theorem xZ {α:Type}{cs:List α}{a b c d:Nat}(h:cs.length=a+b+c+d):cs=(cs.drop 0).take a++((cs.drop a).take b++((cs.drop (a+b)).take c++(cs.drop (a+b+c)).take d)):=by
 have h1:cs.drop (a+b)=(cs.drop (a+b)).take c++(cs.drop (a+b+c)).take d:=by
  rw[List.take_of_length_le (l:=cs.drop (a+b+c)) (by simp;omega),<-List.drop_drop (i:=c),List.take_append_drop]
 have h2:cs.drop a=(cs.drop a).take b++cs.drop (a+b):=by rw[<-List.drop_drop (i:=b),List.take_append_drop]
 rw[<-h1,<-h2,List.drop_zero,List.take_append_drop]
theorem gU (l:List A0):US mb l=uM l:=by
 induction l with
 | nil=>rfl
 | cons a l ih=>simp only[US,uM,ih]
theorem gA:∀ n,Br enc W n 25 cM mb
 | 0=>by intro cs x h;simp[DataW.trod]at h
 | n+1=>by
  intro cs x h hbk
  obtain⟨xs,m,hm,rfl,hl,hlen,hf⟩:=DataW.trod_struct (P:=prog) Go.Proofs.Tryz.underlying25 h
  obtain rfl:n=m:=by omega
  rw[Abj]at hl
  match xs,hlen with
  | [x0,x1,x2,x3],_ =>
  have f0:vt enc W n 3 ((cs.drop 0).take (prog.cellsOf 3))=some x0:=hf 0 _ rfl
  have f1:vt enc W n 9 ((cs.drop 1).take (prog.cellsOf 9))=some x1:=hf 1 _ rfl
  have f2:vt enc W n 4 ((cs.drop 2).take (prog.cellsOf 4))=some x2:=hf 2 _ rfl
  have f3:vt enc W n 23 ((cs.drop 3).take (prog.cellsOf 23))=some x3:=hf 3 _ rfl
  rw[c3]at f0;rw[c9]at f1;rw[c4]at f2;rw[AeM]at f3
  simp only[List.map_cons,List.map_nil,Rows.uptoBulk,Rows.uptoBulkAll]at hbk ⊢
  obtain⟨k,b0,d0⟩:=AcO _ _ f0 (by omega)
  obtain⟨s,b1,d1⟩:=rb _ _ f1 (by omega)
  obtain⟨v,b2,d2⟩:=lh _ _ f2 (by omega)
  obtain⟨l,b3,d3⟩:=Tn (n:=n) (sz:=4) (c:=cM) (b:=mb) Go.Proofs.Tryz.underlying23 Abj (by omega) (fun _=>rfl) (fun m hm=>gA m) _ _ f3 (by omega)
  try dsimp only at b0
  try dsimp only at b1
  try dsimp only at b2
  try dsimp only at b3
  refine⟨.mk k s v l,?_,?_⟩
  ·rw[gU]at b3
   simp only[mb]
   omega
  ·rw[xZ hl,Xp]
   exact d0.app (d1.app (d2.app d3))
end
end Go.Dw
end
section
namespace Go.Dw
open Go.Proofs.YtkdcfkfdkimaeaaGreatDoor
section
variable {H:Type} {enc:TypeId × Value->H} {W:World}
theorem aH {n:Nat}:Br enc W n 23 (fun l:List A0=>[Av l]) (fun l=>uM l+1):=by
 intro cs x h hbk
 obtain⟨l,b0,d0⟩:=Tn (n:=n) (sz:=4) (c:=cM) (b:=mb) Go.Proofs.Tryz.underlying23 Abj (by omega) (fun _=>rfl) (fun m hm=>gA m) _ _ h hbk
 refine⟨l,?_,d0⟩
 dsimp only at b0 ⊢
 rw[gU]at b0
 omega
end
end Go.Dw
end
section
namespace Go.Dw
open Go.Proofs Go.Proofs.YtkdcfkfdkimaeaaGreatDoor
theorem qa {P:Program}{W:World}{name:String}{cs:Array Value}{g:Nat}(hg:P.globalNamed name=some g)(h:W.var? P name=some cs):∃ e fz,W.heap[g]?=some (.cells cs e fz):=by
 unfold World.var? at h
 rw[hg]at h
 simp only[Option.bind_some]at h
 split at h
 ·rename_i c e fz hh
  injection h with h
  subst h
  exact⟨_,_,hh⟩
 ·cases h
theorem zI : prog.globalNamed "internal/strconv.uint64pow10" = some 1 := by kernel_rfl
theorem AdJ:(prog.globals[1]?).map (·.type)=some 323:=by kernel_rfl
theorem Aed:prog.underlying 323=some (.array 20 254):=by kernel_rfl
theorem AaE:prog.underlying 254=some (.int .u64):=by kernel_rfl
theorem AaO:prog.cellsOf 254=1:=by kernel_rfl
theorem Ad4:prog.cellsOf 323=20:=by kernel_rfl
theorem nV {L:List (String×DataW Unit)}{W:World}(hL:laidMetH prog L W)
  (he : L=[("math/bits.deBruijn32tab",Rows.laid_math_bits_deBruijn32tab),("math/bits.deBruijn64tab",Rows.laid_math_bits_deBruijn64tab),("internal/strconv.uint64pow10",Rows.laid_internal_strconv_uint64pow10)]) : jL ⟨W,okW W,fun _ => none,[]⟩ := by
 subst he
 have h3 : laidMet prog [("internal/strconv.uint64pow10",Lib.tabData .u64 Lib.pow10Tab)] W := laidMet.tail (laidMet.tail hL)
 have ht:=Lib.tabIs_of_head zI AdJ Aed AaE AaO Ad4 h3
 obtain⟨e,fz,hh⟩:=qa zI ht
 intro p hp
 simp only[Aa4,List.mem_singleton]at hp
 subst hp
 refine⟨⟨e,fz,?_⟩,fun ⟨i,k,hi,_⟩=>by cases hi⟩
 show W.heap[1]?=_
 rw[hh,Lib.pow10Tab,List.map_map]
 rfl
def Sb:DataW Unit->Array Value
 | .agg l=>(l.map fun x=>match x with | .lit (.int k z)=>Value.int k z | _=>Value.bool false).toArray
 | _=>#[]
noncomputable def jd (w:World)(i:Nat)(cs:Array Value):World:={ w with heap:=w.heap.modify i fun o=>match o with
 | .cells _ t frozen=>.cells cs t frozen
 | o=>o }
noncomputable def ky (w:World):World :=
 jd (jd (jd w 1 (Sb Rows.laid_internal_strconv_uint64pow10)) 2 (Sb Rows.laid_math_bits_deBruijn32tab)) 3 (Sb Rows.laid_math_bits_deBruijn64tab)
end Go.Dw
end
section
namespace Go.Proofs
open Go.RowKit Go.Shelf Go.Sort
def Tryz.laysFmt_ren:Go.Shelf.Ren:=⟨fun | 246=>310 | 283=>316 | 284=>317 | 285=>318 | 286=>319 | 129=>244 | 317=>322 | 318=>323 | 319=>324 | 320=>325 | 337=>327 | 338=>328 | n=>n,fun | 2=>2 | 3=>3 | 9=>9 | 4=>4 | 171=>315 | 0=>0 | 53=>254 | 37=>221 | 5=>5 | 173=>317 | 212=>323 | 51=>252 | 20=>20 | 213=>324 | 46=>208 | 232=>326 | 233=>327 | n=>n,fun | 17=>1 | 18=>2 | 19=>3 | n=>n⟩
theorem Tryz.laysFmt:Go.Proofs.LaysM.n246 Tryz.prog Tryz.laysFmt_ren:={
 mixed:=by kernel_rfl
 f129:=Tryz.func244.trans (congrArg some (by kernel_rfl))
 f246:=Tryz.func310.trans (congrArg some (by kernel_rfl))
 f283:=Tryz.func316.trans (congrArg some (by kernel_rfl))
 f284:=Tryz.func317.trans (congrArg some (by kernel_rfl))
 f285:=Tryz.func318.trans (congrArg some (by kernel_rfl))
 f286:=Tryz.func319.trans (congrArg some (by kernel_rfl))
 f317:=Tryz.func322.trans (congrArg some (by kernel_rfl))
 f318:=Tryz.func323.trans (congrArg some (by kernel_rfl))
 f319:=Tryz.func324.trans (congrArg some (by kernel_rfl))
 f320:=Tryz.func325.trans (congrArg some (by kernel_rfl))
 f337:=Tryz.func327.trans (congrArg some (by kernel_rfl))
 f338:=Tryz.func328.trans (congrArg some (by kernel_rfl))
 t0:=Tryz.underlying0
 a0:=Tryz.isAgg0
 z0:=Tryz.sizeOf0
 v0:=Tryz.zeroValue0
 t2:=Tryz.underlying2
 a2:=Tryz.isAgg2
 z2:=Tryz.sizeOf2
 v2:=Tryz.zeroValue2
 t3:=Tryz.underlying3
 a3:=Tryz.isAgg3
 z3:=Tryz.sizeOf3
 v3:=Tryz.zeroValue3
 t4:=Tryz.underlying4
 a4:=Tryz.isAgg4
 z4:=Tryz.sizeOf4
 v4:=Tryz.zeroValue4
 t5:=Tryz.underlying5
 a5:=Tryz.isAgg5
 z5:=Tryz.sizeOf5
 v5:=Tryz.zeroValue5
 t9:=Tryz.underlying9
 a9:=Tryz.isAgg9
 z9:=Tryz.sizeOf9
 v9:=Tryz.zeroValue9
 t20:=Tryz.underlying20
 a20:=Tryz.isAgg20
 z20:=Tryz.sizeOf20
 v20:=Tryz.zeroValue20
 t37:=Tryz.underlying221
 a37:=Tryz.isAgg221
 z37:=Tryz.sizeOf221
 v37:=Tryz.zeroValue221
 t46:=Tryz.underlying208
 a46:=Tryz.isAgg208
 z46:=Tryz.sizeOf208
 v46:=Tryz.zeroValue208
 t51:=Tryz.underlying252
 a51:=Tryz.isAgg252
 z51:=Tryz.sizeOf252
 v51:=Tryz.zeroValue252
 t53:=Tryz.underlying254
 a53:=Tryz.isAgg254
 z53:=Tryz.sizeOf254
 v53:=Tryz.zeroValue254
 t171:=Tryz.underlying315
 a171:=Tryz.isAgg315
 z171:=Tryz.sizeOf315
 v171:=Tryz.zeroValue315
 t173:=Tryz.underlying317
 a173:=Tryz.isAgg317
 z173:=Tryz.sizeOf317
 v173:=Tryz.zeroValue317
 t212:=Tryz.underlying323
 a212:=Tryz.isAgg323
 z212:=Tryz.sizeOf323
 v212:=Tryz.zeroValue323
 t213:=Tryz.underlying324
 a213:=Tryz.isAgg324
 z213:=Tryz.sizeOf324
 t232:=Tryz.underlying326
 a232:=Tryz.isAgg326
 z232:=Tryz.sizeOf326
 v232:=Tryz.zeroValue326
 t233:=Tryz.underlying327
 a233:=Tryz.isAgg327
 z233:=Tryz.sizeOf327
 v233:=Tryz.zeroValue327
 g17:=by kernel_rfl
 g18:=by kernel_rfl
 g19:=by kernel_rfl
 i0:=by kernel_rfl
 i2:=by kernel_rfl
 i3:=by kernel_rfl
 i4:=by kernel_rfl
 i5:=by kernel_rfl
 i9:=by kernel_rfl
 i20:=by kernel_rfl
 i37:=by kernel_rfl
 i46:=by kernel_rfl
 i51:=by kernel_rfl
 i53:=by kernel_rfl
 i171:=by kernel_rfl
 i173:=by kernel_rfl
 i212:=by kernel_rfl
 i232:=by kernel_rfl
 i233:=by kernel_rfl
 m17:=by kernel_rfl
 m18:=by kernel_rfl
 m19:=by kernel_rfl }
theorem Tryz.fmt_num:Tryz.laysFmt_ren.f 246=Go.Dw.n_strconv_FormatInt:=by kernel_rfl
theorem Tryz.fmt_in (args:Array Value)(w:World):(callFunc Go.Dw.n_strconv_FormatInt args).run Tryz.prog w=.ok (.enter Go.Dw.n_strconv_FormatInt args) w:=by
 have:=enters_of (P:=Tryz.prog) Tryz.laysFmt.f246 (by kernel_rfl) rfl args w
 rw[Tryz.fmt_num]at this
 exact this
theorem Tryz.fmt_c (n : Int)(h0 : -9223372036854775808 <= n)(h1 : n <= 9223372036854775807)(w : World) (htab : Lib.TabIs Tryz.prog w "internal/strconv.uint64pow10" .u64 Lib.pow10Tab) :
  Calls Tryz.prog Go.Dw.n_strconv_FormatInt #[.int .i64 n,.int .i64 10] w fun e w'=>e=.returned (.string ⟨(Lib.itoa n).toArray⟩)/\∃ k os,w'=grow (w.drewN k) os:=by
 have:=Any.internal_strconv_FormatInt_10 Tryz.laysFmt n h0 h1 w htab
 rw[Tryz.fmt_num]at this
 exact this
theorem Tryz.pow10_at : Tryz.prog.globalNamed "internal/strconv.uint64pow10" = some 1 := by kernel_rfl
end Go.Proofs
namespace Go.Dw
open Go.Proofs Go.Sort
theorem km {c : Cx}(h : jL c) : Lib.TabIs Tryz.prog c.w "internal/strconv.uint64pow10" .u64 Lib.pow10Tab := by
 obtain⟨⟨e,fz,h1⟩,_⟩:=h (1,(List.range 20).map fun i=>Value.int .u64 ((10^i:Nat):Int)) (by simp[Aa4])
 unfold Lib.TabIs World.var?
 rw[Tryz.pow10_at]
 simp only[Option.bind_some,h1]
 rw[Lib.pow10Tab,List.map_map]
 rfl
theorem Rp (n:Int)(h0:-9223372036854775808<=n)(h1:n<=9223372036854775807):PF n_strconv_FormatInt [.int .i64 n,.int .i64 10] (.str (Lib.itoa n)):=by
 intro c vs hH hc hr
 obtain⟨v,vs',rfl,r1,v2,vs2,rfl,r2,r3⟩:=hr
 have r1:v=.int .i64 n:=r1
 have r2:v2=.int .i64 10:=r2
 have r3:vs2=[]:=r3
 subst r1;subst r2;subst r3
 left
 refine⟨Tryz.fmt_in _ _,(Tryz.fmt_c n h0 h1 c.w (km hc.glob)).mono ?_⟩
 rintro e w' ⟨rfl,k,os,rfl⟩
 have hno:∀ b,¬ c.owns b:=fun b ⟨i,k,h,_⟩=>by rw[hH]at h;simp at h
 have hlt:∀ b,b<c.w.heap.size->(grow (c.w.drewN k) os).heap[b]?=c.w.heap[b]?:=fun b hb=>Array.getElem?_append_left hb
 have hown:∀ b,¬ (⟨grow (c.w.drewN k) os,c.ok,c.ρ,[]⟩:Cx).owns b:=fun b ⟨i,k,h,_⟩=>by simp at h
 refine⟨_,.str (Lib.itoa n),⟨grow (c.w.drewN k) os,c.ok,c.ρ,[]⟩,rfl,rfl,⟨rfl,rfl⟩,?_,rfl,?_⟩
 ·refine⟨fun i j b1 k1 k2 h1=>by simp at h1,fun b o h=>?_,fun i o hi=>by simp at hi,hc.glob.keep (fun b hb _=>hlt b hb) fun b h=>absurd h (hown b)⟩
  have:=hc.okLt b o h
  show b<(c.w.heap++os).size
  rw[Array.size_append];omega
 ·refine⟨fun _ _ h=>h,fun b o h=>?_,?_,fun _ _ h=>.inl h,fun b hb _=>hlt b hb,fun b h=>absurd h (hown b),fun i o hi=>?_,rfl,rfl,rfl,Nat.le_add_right _ _⟩
  ·simp only[World.cell?]
   rw[hlt b (hc.okLt _ _ h)]
  ·show c.w.heap.size<=(c.w.heap++os).size
   rw[Array.size_append];omega
  ·rw[hH]at hi;simp at hi
theorem V0 (n:Int)(h0:-9223372036854775808<=n)(h1:n<=9223372036854775807):PF Kv [.int .i64 n] (.str (Lib.itoa n)):=by
 refine Ab N9.ok rfl ?_
 push_cast
 refine .of (Rp n h0 h1) ?_
 push_cast
 exact A1 (by push_cast[N9.rs])
theorem XO (n:Int)(h0:-9223372036854775808<=n)(h1:n<=9223372036854775807):PF GM [.int .i64 n] (.str (Lib.itoa n)):=by
 refine Ab Ot.ok rfl ?_
 push_cast
 refine .of (V0 n h0 h1) ?_
 push_cast
 exact A1 (by push_cast[Ot.rs])
abbrev Jc (n:Nat):A9:=Lib.decDigits n
theorem PZ (n:Nat)(h:n<2^62):PF GM [.int .i64 n] (.str (Jc n)):=by
 have:=XO n (by omega) (by omega)
 rw[show Lib.itoa (n:Int)=Jc n from if_neg (by omega)]at this
 exact this
end Go.Dw
end
namespace Go.Dw
theorem U6 (a b:List A7)(n:A9):Af (a++b) n=match Af a n with | some x=>some x | none=>Af b n:=by
 induction a with
 | nil=>rfl
 | cons x a ih =>
  simp only[List.cons_append,Af]
  split
  ·rfl
  ·exact ih
theorem Ep {s:List A7}{v:A9}{t:Term}(h:Af s v=none)(n:A9):Af (Gh s v t) n=if v=n then some t else Af s n:=by
 unfold Gh
 have h0:=U6 (s.take (Jd v s)) (s.drop (Jd v s)) n
 rw[List.take_append_drop]at h0
 rw[U6]
 by_cases hv:v=n
 ·subst hv
  rw[h]at h0
  rw[if_pos rfl]
  cases ha:Af (s.take (Jd v s)) v with
  | some x=>rw[ha]at h0;cases h0
  | none=>simp only[Af,if_true]
 ·rw[if_neg hv,h0]
  cases Af (s.take (Jd v s)) n with
  | some x=>rfl
  | none=>simp only[Af,if_neg hv]
def Uy (a b:List A7):Prop:=∀ n x,Af a n=some x->Af b n=some x
theorem Uy.refl (a:List A7):Uy a a:=fun _ _ h=>h
theorem Uy.trans {a b c:List A7}(h:Uy a b)(h2:Uy b c):Uy a c:=fun n x hx=>h2 n x (h n x hx)
theorem ni {s:List A7}{v:A9}{t:Term}(h:Af s v=none):Uy s (Gh s v t):=fun n x hx=>by
 rw[Ep h]
 split
 ·rename_i e;subst e;rw[h]at hx;cases hx
 ·exact hx
end Go.Dw
section
namespace Go.Dw
abbrev EP:=A9->Term
mutual
def app (f:EP):Term->Term
 | .mk n v l=>if v then f n else .mk n false (zu f l)
def zu (f:EP):List Term->List Term
 | []=>[]
 | a::l=>app f a::zu f l
end
theorem tc (f:EP)(l:List Term):zu f l=l.map (app f):=by induction l with | nil=>rfl | cons a l ih=>simp[zu,ih]
theorem Ql (f:EP)(t:Term):app f t=if t.var then f t.name else .mk t.name false (t.args.map (app f)):=by
 cases t with | mk n v l=>simp only[app,tc,Term.var,Term.name,Term.args];rfl
theorem Aw {f:EP}{t:Term}(h:t.var=true):app f t=f t.name:=by rw[Ql,if_pos h]
theorem Bg {f:EP}{t:Term}(h:t.var=false):app f t=.mk t.name false (t.args.map (app f)):=by rw[Ql,if_neg (by simp[h])]
theorem oX {v:A9}{l:List Term}:EW v l=true↔∃ a∈l,CI v a=true:=by
 induction l with
 | nil=>simp[EW]
 | cons a l ih=>simp[EW,ih]
theorem AE {v:A9}{t:Term}:CI v t=true↔(t.var=true/\t.name=v)\/∃ a∈t.args,CI v a=true:=by
 cases t with | mk n b l =>
 show ((b&&decide (n=v))||EW v l)=true↔_
 rw[Bool.or_eq_true,Bool.and_eq_true,decide_eq_true_eq,oX]
 exact Iff.rfl
def C6 (v:A9):Term:=.mk v true []
theorem Q4 {v w:A9}:CI w (C6 v)=true↔v=w:=by
 rw[AE];simp[C6,Term.var,Term.name,Term.args]
mutual
def vfl:Term->Bool
 | .mk _ v l=>(!v||l.isEmpty)&&sY l
def sY:List Term->Bool
 | []=>true
 | a::l=>vfl a&&sY l
end
theorem tk {l:List Term}:sY l=true↔∀ a∈l,vfl a=true:=by
 induction l with
 | nil=>simp[sY]
 | cons a l ih=>simp[sY,ih]
theorem Lm {t:Term}:vfl t=true↔(t.var=true->t.args=[])/\∀ a∈t.args,vfl a=true:=by
 cases t with | mk n v l=>cases v<;>simp[vfl,tk,Term.var,Term.args]
theorem BS {t a:Term}(h:vfl t=true)(ha:a∈t.args):vfl a=true:=(Lm.1 h).2 a ha
theorem Vf (t:Term):short t=true->vfl t=true:=by
 induction t using Ai with
 | h t ih =>
 intro h
 have h:=C4.1 h
 exact Lm.2 ⟨h.2.1,fun a ha=>ih a ha (h.2.2 a ha)⟩
theorem Rg {t:Term}(h:vfl t=true)(hv:t.var=true):t=C6 t.name:=by
 have:=(Lm.1 h).1 hv
 cases t with | mk n v l =>
 simp only[Term.args]at this
 simp only[Term.var]at hv
 subst this;subst hv;rfl
theorem MZ {t:Term}{v:A9}(h:vfl t=true)(hv:t.var=true):CI v t=true↔t.name=v:=by
 rw[Rg h hv,Q4];rfl
theorem MN {t:Term}{v:A9}(hv:t.var=false):CI v t=true↔∃ a∈t.args,CI v a=true:=by
 rw[AE,hv];simp
theorem Du {f g:EP}(t:Term):(∀ v,CI v t=true->f v=g v)->app f t=app g t:=by
 induction t using Ai with
 | h t ih =>
 intro h
 rw[Ql,Ql]
 split
 ·rename_i hv;exact h _ (AE.2 (.inl ⟨hv,rfl⟩))
 ·congr 1
  exact List.map_congr_left fun a ha=>ih a ha fun v hv=>h v (AE.2 (.inr ⟨a,ha,hv⟩))
theorem Oz (f g:EP)(t:Term):app g (app f t)=app (fun v=>app g (f v)) t:=by
 induction t using Ai with
 | h t ih =>
 cases hv:t.var with
 | true=>rw[Aw hv,Aw hv]
 | false =>
  rw[Bg hv,Bg hv,Bg rfl]
  simp only[Term.name,Term.args,List.map_map]
  congr 1
  exact List.map_congr_left fun a ha=>ih a ha
theorem uo {f:EP}(t:Term):vfl t=true->(∀ v,CI v t=true->f v=C6 v)->app f t=t:=by
 induction t using Ai with
 | h t ih =>
 intro ht h
 cases hv:t.var with
 | true =>
  rw[Aw hv,h _ (AE.2 (.inl ⟨hv,rfl⟩))]
  exact (Rg ht hv).symm
 | false =>
  rw[Bg hv]
  have e:t.args.map (app f)=t.args:=by
   conv=>rhs;rw[<-List.map_id t.args]
   exact List.map_congr_left fun a ha=>ih a ha (BS ht ha) fun v hv=>h v (AE.2 (.inr ⟨a,ha,hv⟩))
  rw[e]
  cases t;simp only[Term.var]at hv;subst hv;rfl
theorem T3 {f:EP}{w:A9}(t:Term):vfl t=true->(CI w (app f t)=true↔∃ v,CI v t=true/\CI w (f v)=true):=by
 induction t using Ai with
 | h t ih =>
 intro ht
 cases hv:t.var with
 | true =>
  rw[Aw hv]
  constructor
  ·intro h;exact⟨_,(MZ ht hv).2 rfl,h⟩
  ·rintro ⟨v,h1,h2⟩
   rw[(MZ ht hv).1 h1];exact h2
 | false =>
  rw[Bg hv,MN rfl]
  simp only[Term.args,List.mem_map]
  constructor
  ·rintro ⟨_,⟨a,ha,rfl⟩,h⟩
   obtain⟨v,h1,h2⟩:=(ih a ha (BS ht ha)).1 h
   exact⟨v,(MN hv).2 ⟨a,ha,h1⟩,h2⟩
  ·rintro ⟨v,h1,h2⟩
   obtain⟨a,ha,h3⟩:=(MN hv).1 h1
   exact⟨_,⟨a,ha,rfl⟩,(ih a ha (BS ht ha)).2 ⟨v,h3,h2⟩⟩
theorem mt {f:EP}(t:Term):(∀ v,CI v t=true->vfl (f v)=true)->vfl (app f t)=true:=by
 induction t using Ai with
 | h t ih =>
 intro h
 cases hv:t.var with
 | true=>rw[Aw hv];exact h _ (AE.2 (.inl ⟨hv,rfl⟩))
 | false =>
  rw[Bg hv]
  refine Lm.2 ⟨fun e=>by simp[Term.var]at e,fun a ha=>?_⟩
  simp only[Term.args,List.mem_map]at ha
  obtain⟨b,hb,rfl⟩:=ha
  exact ih b hb fun v hv=>h v (AE.2 (.inr ⟨b,hb,hv⟩))
def Ud (θ:EP)(s:List A7):Prop:=∀ v t,Af s v=some t->θ v=app θ t
structure Gq (s:List A7) (σ:EP) (rk:A9->Nat):Prop where
 srt:DO s
 vf:∀ v t,Af s v=some t->vfl t=true
 free:∀ v,Af s v=none->σ v=C6 v
 fix:∀ v t,Af s v=some t->σ v=app σ t
 low:∀ v t,Af s v=some t->∀ w,CI w t=true->rk w<rk v
theorem Gq.nil:Gq [] C6 (fun _=>0):=⟨List.Pairwise.nil,fun v t h=>(by cases h),fun v _=>rfl,fun v t h=>(by cases h),fun v t h=>(by cases h)⟩
section
variable {s:List A7} {σ:EP} {rk:A9->Nat}
theorem Gq.sat (h:Gq s σ rk):Ud σ s:=h.fix
theorem Gq.ind {P:A9->Prop}(h:Gq s σ rk)(step:∀ v,(∀ t w,Af s v=some t->CI w t=true->P w)->P v):∀ v,P v:=by
 have:∀ n v,rk v<n->P v:=by
  intro n
  induction n with
  | zero=>intro v hv;omega
  | succ n ih =>
   intro v hv
   exact step v fun t w h1 h2=>ih w (by have:=h.low v t h1 w h2;omega)
 exact fun v=>this (rk v+1) v (by omega)
theorem Gq.vfl (h:Gq s σ rk):∀ v,Dw.vfl (σ v)=true:=by
 refine h.ind fun v ih=>?_
 cases hi:Af s v with
 | none=>rw[h.free v hi];rfl
 | some t=>rw[h.fix v t hi];exact mt t fun w hw=>ih t w hi hw
theorem Gq.occ_free (h:Gq s σ rk){w:A9}:∀ v,CI w (σ v)=true->Af s w=none:=by
 refine h.ind fun v ih=>?_
 cases hi:Af s v with
 | none =>
  rw[h.free v hi,Q4]
  rintro rfl;exact hi
 | some t =>
  rw[h.fix v t hi,T3 t (h.vf v t hi)]
  rintro ⟨u,h1,h2⟩
  exact ih t u hi h1 h2
theorem Gq.idem (h:Gq s σ rk)(v:A9):app σ (σ v)=σ v:=uo _ (h.vfl v) fun w hw=>h.free w (h.occ_free v hw)
theorem Gq.uniq {σ':EP}{rk':A9->Nat}(h:Gq s σ rk)(h':Gq s σ' rk'):σ=σ':=by
 funext v
 revert v
 refine h.ind fun v ih=>?_
 cases hi:Af s v with
 | none=>rw[h.free v hi,h'.free v hi]
 | some t=>rw[h.fix v t hi,h'.fix v t hi];exact Du t fun w hw=>ih t w hi hw
inductive QA (s:List A7) (v:A9):Term->Prop
 | here {t:Term}:t.var=true->t.name=v->QA s v t
 | bound {t x:Term}:t.var=true->Af s t.name=some x->QA s v x->QA s v t
 | arg {t a:Term}:t.var=false->a∈t.args->QA s v a->QA s v t
theorem Gq.occ_sem (h:Gq s σ rk){v:A9}(hv:Af s v=none){t:Term}(ht:Dw.vfl t=true):QA s v t↔CI v (app σ t)=true:=by
 constructor
 ·intro ho
  induction ho with
  | here h1 h2=>rw[Aw h1,h2,h.free v hv,Q4]
  | bound h1 h2 _ ih=>rw[Aw h1,h.fix _ _ h2];exact ih (h.vf _ _ h2)
  | arg h1 h2 _ ih =>
   rw[Bg h1,MN rfl]
   exact⟨_,List.mem_map_of_mem h2,ih (BS ht h2)⟩
 ·have B:∀ t:Term,Dw.vfl t=true->(∀ u,CI u t=true->CI v (σ u)=true->∀ t':Term,t'.var=true->t'.name=u->QA s v t')->CI v (app σ t)=true->QA s v t:=by
   intro t
   induction t using Ai with
   | h t ih =>
   intro ht hu ho
   cases hv:t.var with
   | true =>
    rw[Aw hv]at ho
    exact hu _ (AE.2 (.inl ⟨hv,rfl⟩)) ho t hv rfl
   | false =>
    rw[Bg hv,MN rfl]at ho
    obtain⟨b,hb,ho⟩:=ho
    simp only[Term.args,List.mem_map]at hb
    obtain⟨a,ha,rfl⟩:=hb
    exact .arg hv ha (ih a ha (BS ht ha) (fun u h1=>hu u (AE.2 (.inr ⟨a,ha,h1⟩))) ho)
  have A:∀ u,CI v (σ u)=true->∀ t':Term,t'.var=true->t'.name=u->QA s v t':=by
   refine h.ind fun u ih=>?_
   intro ho t' h1 h2
   cases hi:Af s u with
   | none =>
    rw[h.free u hi,Q4]at ho
    exact .here h1 (h2.trans ho)
   | some x =>
    rw[h.fix u x hi]at ho
    exact .bound h1 (h2▸hi) (B x (h.vf u x hi) (fun w hw=>ih x w hi hw) ho)
  exact fun ho=>B t ht (fun u _=>A u) ho
theorem Z4 (rk:A9->Nat)(t:Term):∃ M,∀ w,CI w t=true->rk w<=M:=by
 have key:∀ l:List A9,∃ M,∀ w∈l,rk w<=M:=by
  intro l
  induction l with
  | nil=>exact⟨0,by simp⟩
  | cons x l ih =>
   obtain⟨M,hM⟩:=ih
   refine⟨M+rk x,fun w hw=>?_⟩
   rcases List.mem_cons.1 hw with rfl | hw
   ·omega
   ·have:=hM w hw;omega
 obtain⟨M,hM⟩:=key (Ed t)
 exact⟨M,fun w hw=>hM w ((Fw w t []).2 (.inr hw))⟩
theorem Gq.bind (h:Gq s σ rk){v:A9}(hv:Af s v=none){t:Term}(ht:Dw.vfl t=true)(hn:¬ QA s v t):∃ σ' rk',Gq (Gh s v t) σ' rk'/\∀ w,σ' w=app σ' (σ w):=by
 have hno:¬ CI v (app σ t)=true:=fun e=>hn ((h.occ_sem hv ht).2 e)
 obtain⟨M,hM⟩:=Z4 rk t
 let τ:EP:=fun u=>if u=v then app σ t else C6 u
 have hτ:∀ u,u≠v->τ u=C6 u:=fun u hu=>if_neg hu
 have hτt:app τ (app σ t)=app σ t:=uo _ (mt t fun w _=>h.vfl w) fun u hu=>hτ u fun e=>hno (e▸hu)
 refine⟨fun w=>app τ (σ w),fun w=>if CI v (σ w)=true then rk w+(M+1) else rk w,⟨TN h.srt hv,?_,?_,?_,?_⟩,?_⟩
 ·intro w x hx
  rw[Ep hv]at hx
  split at hx
  ·cases hx;exact ht
  ·exact h.vf w x hx
 ·intro w hw
  rw[Ep hv]at hw
  split at hw
  ·cases hw
  ·rename_i hne
   show app τ (σ w)=_
   rw[h.free w hw,C6,Aw rfl]
   exact hτ w fun e=>hne e.symm
 ·intro w x hx
  show app τ (σ w)=app (fun w=>app τ (σ w)) x
  rw[<-Oz]
  rw[Ep hv]at hx
  split at hx
  ·rename_i e
   cases hx
   subst e
   rw[h.free v hv,C6,Aw rfl,hτt]
   exact if_pos rfl
  ·rw[h.fix w x hx]
 ·intro u x hx w hw
  show (if CI v (σ w)=true then _ else _)<(if CI v (σ u)=true then _ else _)
  rw[Ep hv]at hx
  split at hx
  ·rename_i e
   cases hx
   subst e
   have h1:=hM w hw
   have h2:¬ CI v (σ w)=true:=fun e=>hno ((T3 t ht).2 ⟨w,hw,e⟩)
   rw[if_neg h2,h.free v hv,if_pos (Q4.2 rfl)]
   omega
  ·have h1:=h.low u x hx w hw
   have h2:CI v (σ w)=true->CI v (σ u)=true:=fun e=>by
    rw[h.fix u x hx]
    exact (T3 x (h.vf u x hx)).2 ⟨w,hw,e⟩
   by_cases c:CI v (σ w)=true
   ·rw[if_pos c,if_pos (h2 c)];omega
   ·rw[if_neg c];split<;>omega
 ·intro w
  show app τ (σ w)=app (fun w=>app τ (σ w)) (σ w)
  rw[<-Oz,h.idem]
end
def E3:Nat->List A7->Term->Option Term
 | 0,_,_=>none
 | n+1,s,t=>if t.var then (match Af s t.name with | some x=>E3 n s x | none=>some t) else some t
open Classical in
noncomputable def LN (s:List A7)(v:A9)(t:Term):List A7×Bool:=if QA s v t then (s,false) else (Gh s v t,true)
def AF (f:List A7->Term->Term->Option (List A7×Bool)):List A7->List Term->List Term->Option (List A7×Bool)
 | s,a::l,b::m=>match f s a b with
  | none=>none
  | some (s',false)=>some (s',false)
  | some (s',true)=>AF f s' l m
 | s,_,_=>some (s,true)
noncomputable def B5:Nat->List A7->Term->Term->Option (List A7×Bool)
 | 0,_,_,_=>none
 | n+1,s,a,b=>match E3 (n+1) s a,E3 (n+1) s b with
  | some x,some y =>
   if x.var then (if y.var/\x.name=y.name then some (s,true) else some (LN s x.name y))
   else if y.var then some (LN s y.name x)
   else if x.name≠y.name\/x.args.length≠y.args.length then some (s,false)
   else AF (B5 n) s x.args y.args
  | _,_=>none
theorem Mb {s:List A7}:∀ {n m:Nat} {t x:Term},E3 n s t=some x->n<=m->E3 m s t=some x
 | 0,_,_,_,h,_=>by cases h
 | n+1,0,_,_,_,h=>by omega
 | n+1,m+1,t,x,h,hm=>by
  simp only[E3]at h ⊢
  split at h
  ·rename_i hv
   rw[if_pos hv]
   cases hi:Af s t.name with
   | none=>rw[hi]at h;exact h
   | some y=>rw[hi]at h;exact Mb h (by omega)
  ·rename_i hv
   rw[if_neg hv];exact h
theorem Fy {f g:List A7->Term->Term->Option (List A7×Bool)}(hfg:∀ s a b r,f s a b=some r->g s a b=some r):∀ (l m:List Term)(s:List A7)(r:List A7×Bool),AF f s l m=some r->AF g s l m=some r
 | [],_,s,r,h=>h
 | _::_,[],s,r,h=>h
 | a::l,b::m,s,r,h=>by
  simp only[AF]at h ⊢
  cases hf:f s a b with
  | none=>rw[hf]at h;cases h
  | some p =>
   obtain⟨s',ok⟩:=p
   rw[hf]at h
   rw[hfg _ _ _ _ hf]
   cases ok with
   | false=>exact h
   | true=>exact Fy hfg l m s' r h
theorem Fh:∀ (n m:Nat)(s:List A7)(a b:Term)(r:List A7×Bool),B5 n s a b=some r->n<=m->B5 m s a b=some r
 | 0,_,_,_,_,_,h,_=>by cases h
 | n+1,0,_,_,_,_,_,h=>by omega
 | n+1,m+1,s,a,b,r,h,hm=>by
  simp only[B5]at h ⊢
  cases hx:E3 (n+1) s a with
  | none=>rw[hx]at h;cases h
  | some x =>
   cases hy:E3 (n+1) s b with
   | none=>rw[hx,hy]at h;cases h
   | some y =>
    rw[hx,hy]at h
    rw[Mb hx (by omega),Mb hy (by omega)]
    simp only at h ⊢
    by_cases c1:x.var=true
    ·rw[if_pos c1]at h ⊢;exact h
    ·rw[if_neg c1]at h ⊢
     by_cases c2:y.var=true
     ·rw[if_pos c2]at h ⊢;exact h
     ·rw[if_neg c2]at h ⊢
      by_cases c3:x.name≠y.name\/x.args.length≠y.args.length
      ·rw[if_pos c3]at h ⊢;exact h
      ·rw[if_neg c3]at h ⊢
       exact Fy (fun s a b r hr=>Fh n m s a b r hr (by omega)) _ _ _ _ h
theorem K4 {n:Nat}{s:List A7}{a b:Term}{r:List A7×Bool}(h:B5 (n+1) s a b=some r):∃ x y,E3 (n+1) s a=some x/\E3 (n+1) s b=some y /\
  ((x.var=true/\y.var=true/\x.name=y.name/\r=(s,true))\/(x.var=true/\¬ (y.var=true/\x.name=y.name)/\r=LN s x.name y)\/(x.var=false/\y.var=true/\r=LN s y.name x) \/
   (x.var=false/\y.var=false/\(x.name≠y.name\/x.args.length≠y.args.length)/\r=(s,false)) \/
   (x.var=false/\y.var=false/\x.name=y.name/\x.args.length=y.args.length/\AF (B5 n) s x.args y.args=some r)):=by
 simp only[B5]at h
 cases hx:E3 (n+1) s a with
 | none=>rw[hx]at h;cases h
 | some x =>
  cases hy:E3 (n+1) s b with
  | none=>rw[hx,hy]at h;cases h
  | some y =>
   rw[hx,hy]at h
   simp only at h
   refine⟨x,y,rfl,rfl,?_⟩
   by_cases c1:x.var=true
   ·rw[if_pos c1]at h
    by_cases c2:y.var=true/\x.name=y.name
    ·rw[if_pos c2]at h;cases h;exact .inl ⟨c1,c2.1,c2.2,rfl⟩
    ·rw[if_neg c2]at h;cases h;exact .inr (.inl ⟨c1,c2,rfl⟩)
   ·rw[if_neg c1]at h
    have c1:x.var=false:=by simpa using c1
    by_cases c2:y.var=true
    ·rw[if_pos c2]at h;cases h;exact .inr (.inr (.inl ⟨c1,c2,rfl⟩))
    ·rw[if_neg c2]at h
     have c2:y.var=false:=by simpa using c2
     by_cases c3:x.name≠y.name\/x.args.length≠y.args.length
     ·rw[if_pos c3]at h;cases h;exact .inr (.inr (.inr (.inl ⟨c1,c2,c3,rfl⟩)))
     ·rw[if_neg c3]at h
      simp only[not_or,Classical.not_not]at c3
      exact .inr (.inr (.inr (.inr ⟨c1,c2,c3.1,c3.2,h⟩)))
theorem Eh {s:List A7}:∀ {n:Nat} {t x:Term},E3 n s t=some x->x.var=true->Af s x.name=none
 | 0,_,_,h,_=>by cases h
 | n+1,t,x,h,hx=>by
  simp only[E3]at h
  split at h
  ·cases hi:Af s t.name with
   | none=>rw[hi]at h;cases h;exact hi
   | some y=>rw[hi]at h;exact Eh h hx
  ·rename_i hv;cases h;exact absurd hx hv
theorem ID {θ:EP}{s:List A7}(hθ:Ud θ s):∀ {n:Nat} {t x:Term},E3 n s t=some x->app θ x=app θ t
 | 0,_,_,h=>by cases h
 | n+1,t,x,h=>by
  simp only[E3]at h
  split at h
  ·rename_i hv
   cases hi:Af s t.name with
   | none=>rw[hi]at h;cases h;rfl
   | some y=>rw[hi]at h;rw[ID hθ h,Aw hv];exact (hθ _ _ hi).symm
  ·cases h;rfl
theorem Ca {P:Term->Prop}{s:List A7}(hs:∀ v t,Af s v=some t->P t):∀ {n:Nat} {t x:Term},P t->E3 n s t=some x->P x
 | 0,_,_,_,h=>by cases h
 | n+1,t,x,ht,h=>by
  simp only[E3]at h
  split at h
  ·cases hi:Af s t.name with
   | none=>rw[hi]at h;cases h;exact ht
   | some y=>rw[hi]at h;exact Ca hs (hs _ _ hi) h
  ·cases h;exact ht
theorem Up {s:List A7}{σ:EP}{rk:A9->Nat}(h:Gq s σ rk):∀ (n:Nat)(t:Term),(t.var=true->rk t.name<n)->∃ x,E3 (n+1) s t=some x
 | n,t,ht=>by
  simp only[E3]
  split
  ·rename_i hv
   cases hi:Af s t.name with
   | none=>exact⟨t,rfl⟩
   | some y =>
    cases n with
    | zero=>exact absurd (ht hv) (by omega)
    | succ n =>
     refine Up h n y fun hy=>?_
     have:=h.low _ _ hi y.name (AE.2 (.inl ⟨hy,rfl⟩))
     have:=ht hv
     omega
  ·exact⟨t,rfl⟩
end Go.Dw
end
section
namespace Go.Dw
theorem Fx {s:List A7}(hs:DO s){b:A7}(hb:b∈s):Af s b.name=some b.term:=by
 induction s with
 | nil=>cases hb
 | cons c s ih =>
  obtain⟨h1,h2⟩:=List.pairwise_cons.1 hs
  simp only[Af]
  rcases List.mem_cons.1 hb with rfl | hb
  ·rw[if_pos rfl]
  ·rw[if_neg fun e=>by have:=h1 b hb;rw[e]at this;exact DB _ this]
   exact ih h2 hb
theorem M0 (s:List A7)(v:A9)(t:Term):(QA s v t/\LN s v t=(s,false))\/(¬ QA s v t/\LN s v t=(Gh s v t,true)):=by
 unfold LN
 by_cases h:QA s v t
 ·exact .inl ⟨h,if_pos h⟩
 ·exact .inr ⟨h,if_neg h⟩
theorem rG {s:List A7}{θ:EP}{v:A9}(hθ:Ud θ s){t:Term}(h:QA s v t):size (θ v)<=size (app θ t)/\(t.var=false->size (θ v)<size (app θ t)):=by
 induction h with
 | here h1 h2=>rw[Aw h1,h2];exact⟨Nat.le_refl _,fun h=>by rw[h1]at h;cases h⟩
 | bound h1 h2 _ ih=>rw[Aw h1,hθ _ _ h2];exact⟨ih.1,fun h=>by rw[h1]at h;cases h⟩
 | @arg t a h1 h2 _ ih =>
  have h3:size (app θ t)=1+Ae (t.args.map (app θ)):=by rw[Bg h1];rfl
  have h4:=By (List.mem_map_of_mem (f:=app θ) h2)
  have:=ih.1
  omega
theorem Ud.mono {θ:EP}{s s':List A7}(h:Ud θ s')(he:Uy s s'):Ud θ s:=fun v t hi=>h v t (he v t hi)
structure ml (s:List A7) (σ:EP) (A:EP->Prop) (r:List A7×Bool) (σ':EP) (rk':A9->Nat):Prop where
 ok:Gq r.1 σ' rk'
 ext:Uy s r.1
 len:r.1=s\/s.length<r.1.length
 comp:∀ w,σ' w=app σ' (σ w)
 eq:r.2=true->A σ'
 mgu:∀ θ,Ud θ s->A θ->r.2=true/\Ud θ r.1
theorem Xk {σ σ':EP}(h:∀ w,σ' w=app σ' (σ w))(t:Term):app σ' t=app σ' (app σ t):=by
 rw[Oz];exact Du t fun v _=>h v
theorem mz {s:List A7}{σ:EP}{rk:A9->Nat}(h:Gq s σ rk){v:A9}{t:Term}(hv:Af s v=none)(ht:vfl t=true)(hne:t.var=true->Af s t.name=none/\t.name≠v) :
  ∃ σ' rk',ml s σ (fun θ=>θ v=app θ t) (LN s v t) σ' rk':=by
 rcases M0 s v t with ⟨ho,e⟩|⟨ho,e⟩
 ·rw[e]
  refine⟨σ,rk,h,Uy.refl s,.inl rfl,fun w=>(h.idem w).symm,(fun e=>by cases e),fun θ hθ he=>?_⟩
  exfalso
  cases hv2:t.var with
  | true =>
   obtain⟨h1,h2⟩:=hne hv2
   cases ho with
   | here _ h4=>exact h2 h4
   | bound _ h4 _=>rw[h1]at h4;cases h4
   | arg h3 _ _=>rw[hv2]at h3;cases h3
  | false =>
   have:=(rG hθ ho).2 hv2
   rw[<-he]at this
   omega
 ·rw[e]
  obtain⟨σ',rk',h1,h2⟩:=h.bind hv ht ho
  refine⟨σ',rk',h1,ni hv,.inr (by rw[aV];omega),h2,fun _=>h1.fix v t (by rw[Ep hv,if_pos rfl]),fun θ hθ he=>⟨rfl,fun w x hx=>?_⟩⟩
  rw[Ep hv]at hx
  split at hx
  ·rename_i e;cases hx;subst e;exact he
  ·exact hθ w x hx
theorem Sk {n:Nat}(ih:∀ (s:List A7)(σ:EP)(rk:A9->Nat)(a b:Term)(r:List A7×Bool),Gq s σ rk->vfl a=true->vfl b=true->B5 n s a b=some r->∃ σ' rk',ml s σ (fun θ=>app θ a=app θ b) r σ' rk') :
  ∀ (l m:List Term)(s:List A7)(σ:EP)(rk:A9->Nat)(r:List A7×Bool),Gq s σ rk->(∀ a∈l,vfl a=true)->(∀ b∈m,vfl b=true)->l.length=m.length->AF (B5 n) s l m=some r->∃ σ' rk',ml s σ (fun θ=>l.map (app θ)=m.map (app θ)) r σ' rk'
 | [],[],s,σ,rk,r,h,_,_,_,hr=>by
  simp only[AF,Option.some.injEq]at hr
  subst hr
  exact⟨σ,rk,h,Uy.refl s,.inl rfl,fun w=>(h.idem w).symm,fun _=>rfl,fun θ hθ _=>⟨rfl,hθ⟩⟩
 | a::l,b::m,s,σ,rk,r,h,hl,hm,hlen,hr=>by
  simp only[AF]at hr
  cases hf:B5 n s a b with
  | none=>rw[hf]at hr;cases hr
  | some p =>
   obtain⟨s1,ok⟩:=p
   rw[hf]at hr
   obtain⟨σ1,rk1,h1⟩:=ih s σ rk a b _ h (hl a (by simp)) (hm b (by simp)) hf
   cases ok with
   | false =>
    simp only[Option.some.injEq]at hr
    subst hr
    refine⟨σ1,rk1,h1.ok,h1.ext,h1.len,h1.comp,(fun e=>by cases e),fun θ hθ he=>?_⟩
    simp only[List.map_cons,List.cons.injEq]at he
    have:=(h1.mgu θ hθ he.1).1
    cases this
   | true =>
    simp only at hr
    obtain⟨σ2,rk2,h2⟩:=Sk ih l m s1 σ1 rk1 r h1.ok (fun x hx=>hl x (by simp[hx])) (fun x hx=>hm x (by simp[hx])) (by simpa using hlen) hr
    refine⟨σ2,rk2,h2.ok,h1.ext.trans h2.ext,?_,fun w=>?_,fun e=>?_,fun θ hθ he=>?_⟩
    ·rcases h1.len with e1 | e1<;>rcases h2.len with e2 | e2
     ·exact .inl (e2.trans e1)
     ·right;rw[<-e1];exact e2
     ·right;rw[e2];exact e1
     ·right;simp only at e1;omega
    ·rw[h2.comp w,h1.comp w,<-Xk h2.comp]
    ·have h3:app σ1 a=app σ1 b:=h1.eq rfl
     simp only[List.map_cons]
     rw[Xk h2.comp a,Xk h2.comp b,h3,h2.eq e]
    ·simp only[List.map_cons,List.cons.injEq]at he
     have h3:=h1.mgu θ hθ he.1
     exact h2.mgu θ h3.2 he.2
 | [],_::_,_,_,_,_,_,_,_,hlen,_=>by simp at hlen
 | _::_,[],_,_,_,_,_,_,_,hlen,_=>by simp at hlen
theorem FW:∀ (n:Nat)(s:List A7)(σ:EP)(rk:A9->Nat)(a b:Term)(r:List A7×Bool),Gq s σ rk->vfl a=true->vfl b=true->B5 n s a b=some r->∃ σ' rk',ml s σ (fun θ=>app θ a=app θ b) r σ' rk'
 | 0,_,_,_,_,_,_,_,_,_,h=>by cases h
 | n+1,s,σ,rk,a,b,r,h,ha,hb,hr=>by
  obtain⟨x,y,hx,hy,hc⟩:=K4 hr
  have hxa:=fun θ (hθ:Ud θ s)=>ID hθ hx
  have hyb:=fun θ (hθ:Ud θ s)=>ID hθ hy
  have hvx:vfl x=true:=Ca (P:=fun t=>vfl t=true) h.vf ha hx
  have hvy:vfl y=true:=Ca (P:=fun t=>vfl t=true) h.vf hb hy
  rcases hc with ⟨c1,c2,c3,rfl⟩|⟨c1,c2,rfl⟩|⟨c1,c2,rfl⟩|⟨c1,c2,c3,rfl⟩|⟨c1,c2,c3,c4,c5⟩
  ·refine⟨σ,rk,h,Uy.refl s,.inl rfl,fun w=>(h.idem w).symm,fun _=>?_,fun θ hθ _=>⟨rfl,hθ⟩⟩
   rw[<-hxa σ h.sat,<-hyb σ h.sat,Aw c1,Aw c2,c3]
  ·obtain⟨σ',rk',k⟩:=mz h (Eh hx c1) hvy (fun e=>⟨Eh hy e,fun e2=>c2 ⟨e,e2.symm⟩⟩)
   refine⟨σ',rk',k.ok,k.ext,k.len,k.comp,fun e=>?_,fun θ hθ he=>k.mgu θ hθ ?_⟩
   ·have hs:=k.ok.sat.mono k.ext
    rw[<-hxa σ' hs,<-hyb σ' hs,Aw c1];exact k.eq e
   ·rw[<-Aw (f:=θ) c1,hxa θ hθ,hyb θ hθ];exact he
  ·obtain⟨σ',rk',k⟩:=mz h (v:=y.name) (t:=x) (Eh hy c2) hvx (fun e=>by rw[c1]at e;cases e)
   refine⟨σ',rk',k.ok,k.ext,k.len,k.comp,fun e=>?_,fun θ hθ he=>k.mgu θ hθ ?_⟩
   ·have hs:=k.ok.sat.mono k.ext
    rw[<-hxa σ' hs,<-hyb σ' hs,Aw c2];exact (k.eq e).symm
   ·rw[<-Aw (f:=θ) c2,hxa θ hθ,hyb θ hθ];exact he.symm
  ·refine⟨σ,rk,h,Uy.refl s,.inl rfl,fun w=>(h.idem w).symm,(fun e=>by cases e),fun θ hθ he=>?_⟩
   exfalso
   rw[<-hxa θ hθ,<-hyb θ hθ,Bg c1,Bg c2]at he
   injection he with e1 _ e3
   rcases c3 with c3 | c3
   ·exact c3 e1
   ·have:=congrArg List.length e3
    simp only[List.length_map]at this
    exact c3 this
  ·obtain⟨σ',rk',k⟩:=Sk (FW n) x.args y.args s σ rk r h (fun z hz=>BS hvx hz) (fun z hz=>BS hvy hz) c4 c5
   refine⟨σ',rk',k.ok,k.ext,k.len,k.comp,fun e=>?_,fun θ hθ he=>k.mgu θ hθ ?_⟩
   ·have hs:=k.ok.sat.mono k.ext
    rw[<-hxa σ' hs,<-hyb σ' hs,Bg c1,Bg c2,c3,k.eq e]
   ·rw[<-hxa θ hθ,<-hyb θ hθ,Bg c1,Bg c2]at he
    injection he
theorem bE {P:Term->Prop}{Q:A9->Prop}{s:List A7}{v:A9}{t:Term}(hs:∀ v t,Af s v=some t->P t/\Q v)(hv:Af s v=none)(ht:P t)(hq:Q v):∀ w x,Af (LN s v t).1 w=some x->P x/\Q w:=by
 rcases M0 s v t with ⟨_,e⟩|⟨_,e⟩
 ·rw[e];exact hs
 ·rw[e]
  intro w x hx
  rw[Ep hv]at hx
  split at hx
  ·rename_i e;cases hx;subst e;exact⟨ht,hq⟩
  ·exact hs w x hx
theorem Kk {P:Term->Prop}{Q:A9->Prop}(hP:∀ t a,P t->a∈t.args->P a)(hQ:∀ t,P t->t.var=true->Q t.name):∀ (n:Nat)(s:List A7)(a b:Term)(r:List A7×Bool),(∀ v t,Af s v=some t->P t/\Q v)->P a->P b->B5 n s a b=some r->∀ v t,Af r.1 v=some t->P t/\Q v
 | 0,_,_,_,_,_,_,_,h=>by cases h
 | n+1,s,a,b,r,hs,ha,hb,hr=>by
  obtain⟨x,y,hx,hy,hc⟩:=K4 hr
  have hvx:P x:=Ca (fun v t h=>(hs v t h).1) ha hx
  have hvy:P y:=Ca (fun v t h=>(hs v t h).1) hb hy
  rcases hc with ⟨c1,c2,c3,rfl⟩|⟨c1,c2,rfl⟩|⟨c1,c2,rfl⟩|⟨c1,c2,c3,rfl⟩|⟨c1,c2,c3,c4,c5⟩
  ·exact hs
  ·exact bE hs (Eh hx c1) hvy (hQ x hvx c1)
  ·exact bE hs (Eh hy c2) hvx (hQ y hvy c2)
  ·exact hs
  ·have key:∀ (l m:List Term)(s:List A7),(∀ a∈l,P a)->(∀ b∈m,P b)->(∀ v t,Af s v=some t->P t/\Q v)->AF (B5 n) s l m=some r->∀ v t,Af r.1 v=some t->P t/\Q v:=by
    intro l
    induction l with
    | nil=>intro m s _ _ hs h;simp only[AF,Option.some.injEq]at h;subst h;exact hs
    | cons a l ihl =>
     intro m s hl hm hs h
     cases m with
     | nil=>simp only[AF,Option.some.injEq]at h;subst h;exact hs
     | cons b m =>
      simp only[AF]at h
      cases hf:B5 n s a b with
      | none=>rw[hf]at h;cases h
      | some p =>
       obtain⟨s1,ok⟩:=p
       rw[hf]at h
       have h1:=Kk hP hQ n s a b _ hs (hl a (by simp)) (hm b (by simp)) hf
       cases ok with
       | false=>simp only[Option.some.injEq]at h;subst h;exact h1
       | true=>exact ihl m s1 (fun x hx=>hl x (by simp[hx])) (fun x hx=>hm x (by simp[hx])) h1 h
   exact key x.args y.args s (fun z hz=>hP x z hvx hz) (fun z hz=>hP y z hvy hz) hs c5
theorem be:∀ (s:List A7)(Vs:List A9),DO s->(∀ b∈s,b.name∈Vs)->s.length<=Vs.length
 | [],_,_,_=>by simp
 | b::s,Vs,hs,h=>by
  obtain⟨h1,h2⟩:=List.pairwise_cons.1 hs
  have hb:=h b (by simp)
  have:=be s (Vs.erase b.name) h2 fun c hc=>(List.mem_erase_of_ne (fun e=>by have:=h1 c hc;rw[e]at this;exact DB _ this)).2 (h c (by simp[hc]))
  rw[List.length_erase_of_mem hb]at this
  have:=List.length_pos_of_mem hb
  simp only[List.length_cons];omega
def C3 (Vs:List A9)(t:Term):Prop:=vfl t=true/\∀ w,CI w t=true->w∈Vs
theorem C3.arg {Vs:List A9}{t a:Term}(h:C3 Vs t)(ha:a∈t.args):C3 Vs a:=⟨BS h.1 ha,fun w hw=>h.2 w (AE.2 (.inr ⟨a,ha,hw⟩))⟩
theorem I4 {Vs:List A9}{s:List A7}(hs:DO s)(h:∀ v t,Af s v=some t->C3 Vs t/\v∈Vs):s.length<=Vs.length:=be s Vs hs fun b hb=>(h _ _ (Fx hs hb)).2
theorem M7 {Vs:List A9}{n:Nat}{s:List A7}{a b:Term}{r:List A7×Bool}(hs:∀ v t,Af s v=some t->C3 Vs t/\v∈Vs)(ha:C3 Vs a)(hb:C3 Vs b)(hr:B5 n s a b=some r):∀ v t,Af r.1 v=some t->C3 Vs t/\v∈Vs :=
 Kk (P:=C3 Vs) (Q:=fun v=>v∈Vs) (fun t a h ha=>h.arg ha) (fun t h hv=>h.2 _ (AE.2 (.inl ⟨hv,rfl⟩))) n s a b r hs ha hb hr
theorem eG (Vs:List A9):∀ (k m:Nat)(s:List A7)(σ:EP)(rk:A9->Nat)(a b:Term),Gq s σ rk->(∀ v t,Af s v=some t->C3 Vs t/\v∈Vs)->C3 Vs a->C3 Vs b->Vs.length-s.length=k->size (app σ a)=m->∃ n r,B5 n s a b=some r:=by
 intro k
 induction k using Nat.strongRecOn with
 | ind k ihk =>
 intro m
 induction m using Nat.strongRecOn with
 | ind m ihm =>
 intro s σ rk a b h hs ha hb hk hm
 obtain⟨x,hx⟩:=Up h (rk a.name+rk b.name+1) a (fun _=>by omega)
 obtain⟨y,hy⟩:=Up h (rk a.name+rk b.name+1) b (fun _=>by omega)
 generalize hN:rk a.name+rk b.name+1=N at hx hy
 by_cases c1:x.var=true
 ·by_cases c2:y.var=true/\x.name=y.name
  ·exact⟨N+1,_,by simp only[B5,hx,hy];rw[if_pos c1,if_pos c2]⟩
  ·exact⟨N+1,_,by simp only[B5,hx,hy];rw[if_pos c1,if_neg c2]⟩
 ·by_cases c2:y.var=true
  ·exact⟨N+1,_,by simp only[B5,hx,hy];rw[if_neg c1,if_pos c2]⟩
  ·by_cases c3:x.name≠y.name\/x.args.length≠y.args.length
   ·exact⟨N+1,_,by simp only[B5,hx,hy];rw[if_neg c1,if_neg c2,if_pos c3]⟩
   ·have hxv:x.var=false:=by simpa using c1
    have hax:C3 Vs x:=Ca (P:=C3 Vs) (fun v t h=>(hs v t h).1) ha hx
    have hay:C3 Vs y:=Ca (P:=C3 Vs) (fun v t h=>(hs v t h).1) hb hy
    have hsz:1+Ae (x.args.map (app σ))=m:=by
     rw[<-hm,<-ID h.sat hx,Bg hxv];rfl
    have key:∀ (l m':List Term)(s1:List A7)(σ1:EP)(rk1:A9->Nat),Gq s1 σ1 rk1->(∀ v t,Af s1 v=some t->C3 Vs t/\v∈Vs)->(∀ z∈l,z∈x.args)->(∀ z∈m',C3 Vs z)->(s1=s\/s.length<s1.length)->∃ n r,AF (B5 n) s1 l m'=some r:=by
     intro l
     induction l with
     | nil=>intro m' s1 _ _ _ _ _ _ _;exact⟨0,(s1,true),by simp only[AF]⟩
     | cons a' l ihl =>
      intro m' s1 σ1 rk1 h1 hs1 hl hm' hlen
      cases m' with
      | nil=>exact⟨0,(s1,true),by simp only[AF]⟩
      | cons b' m' =>
       have haa:C3 Vs a':=hax.arg (hl a' (by simp))
       have hbb:C3 Vs b':=hm' b' (by simp)
       have hone:∃ n r,B5 n s1 a' b'=some r:=by
        rcases hlen with e | e
        ·subst e
         have e:=h.uniq h1
         subst e
         have h3:=By (List.mem_map_of_mem (f:=app σ) (hl a' (by simp)))
         exact ihm (size (app σ a')) (by omega) s1 σ rk a' b' h hs1 haa hbb hk rfl
        ·have h3:=I4 h1.srt hs1
         exact ihk (Vs.length-s1.length) (by omega) _ s1 σ1 rk1 a' b' h1 hs1 haa hbb rfl rfl
       obtain⟨n1,⟨s2,ok⟩,hr1⟩:=hone
       cases ok with
       | false=>exact⟨n1,(s2,false),by simp only[AF,hr1]⟩
       | true =>
        obtain⟨σ2,rk2,h2⟩:=FW n1 s1 σ1 rk1 a' b' _ h1 haa.1 hbb.1 hr1
        obtain⟨n2,r2,hr2⟩:=ihl m' s2 σ2 rk2 h2.ok (M7 hs1 haa hbb hr1) (fun z hz=>hl z (by simp[hz])) (fun z hz=>hm' z (by simp[hz])) (by
         have h5:=h2.len
         simp only at h5
         rcases h5 with e | e
         ·rw[e];exact hlen
         ·rcases hlen with e2 | e2
          ·rw[e2]at e;exact .inr e
          ·exact .inr (by omega))
        refine⟨n1+n2,r2,?_⟩
        simp only[AF]
        rw[Fh n1 (n1+n2) _ _ _ _ hr1 (by omega)]
        exact Fy (fun s a b r hr=>Fh n2 (n1+n2) s a b r hr (by omega)) _ _ _ _ hr2
    obtain⟨n,r,hr⟩:=key x.args y.args s σ rk h hs (fun z hz=>hz) (fun z hz=>hay.arg hz) (.inl rfl)
    refine⟨N+n+1,r,?_⟩
    simp only[B5]
    rw[Mb hx (by omega),Mb hy (by omega)]
    simp only
    rw[if_neg c1,if_neg c2,if_neg c3]
    exact Fy (fun s a b r hr=>Fh n (N+n) s a b r hr (by omega)) _ _ _ _ hr
theorem Iq (Vs:List A9):∀ (l m:List Term)(s:List A7)(σ:EP)(rk:A9->Nat),Gq s σ rk->(∀ v t,Af s v=some t->C3 Vs t/\v∈Vs)->(∀ z∈l,C3 Vs z)->(∀ z∈m,C3 Vs z)->∃ n r,AF (B5 n) s l m=some r
 | [],_,s,_,_,_,_,_,_=>⟨0,(s,true),by simp only[AF]⟩
 | _::_,[],s,_,_,_,_,_,_=>⟨0,(s,true),by simp only[AF]⟩
 | a::l,b::m,s,σ,rk,h,hs,hl,hm=>by
  have haa:=hl a (by simp)
  have hbb:=hm b (by simp)
  obtain⟨n1,⟨s2,ok⟩,hr1⟩:=eG Vs _ _ s σ rk a b h hs haa hbb rfl rfl
  cases ok with
  | false=>exact⟨n1,(s2,false),by simp only[AF,hr1]⟩
  | true =>
   obtain⟨σ2,rk2,h2⟩:=FW n1 s σ rk a b _ h haa.1 hbb.1 hr1
   obtain⟨n2,r2,hr2⟩:=Iq Vs l m s2 σ2 rk2 h2.ok (M7 hs haa hbb hr1) (fun z hz=>hl z (by simp[hz])) (fun z hz=>hm z (by simp[hz]))
   refine⟨n1+n2,r2,?_⟩
   simp only[AF]
   rw[Fh n1 (n1+n2) _ _ _ _ hr1 (by omega)]
   exact Fy (fun s a b r hr=>Fh n2 (n1+n2) s a b r hr (by omega)) _ _ _ _ hr2
theorem gy {n m:Nat}{s:List A7}{l k:List Term}{r q:List A7×Bool}(h:AF (B5 n) s l k=some r)(h2:AF (B5 m) s l k=some q):r=q:=by
 have e1:=Fy (g:=B5 (n+m)) (fun s a b r hr=>Fh n (n+m) s a b r hr (by omega)) _ _ _ _ h
 have e2:=Fy (g:=B5 (n+m)) (fun s a b r hr=>Fh m (n+m) s a b r hr (by omega)) _ _ _ _ h2
 rw[e1]at e2;exact Option.some.inj e2
open Classical in
noncomputable def HQ (l m:List Term):List A7×Bool:=if h:∃ r,∃ n,AF (B5 n) [] l m=some r then h.choose else ([],false)
theorem NB {n:Nat}{l m:List Term}{r:List A7×Bool}(h:AF (B5 n) [] l m=some r):HQ l m=r:=by
 unfold HQ
 have he:∃ r,∃ n,AF (B5 n) [] l m=some r:=⟨r,n,h⟩
 rw[dif_pos he]
 obtain⟨k,hk⟩:=he.choose_spec
 exact gy hk h
open Classical in
noncomputable def Tf (s:List A7):EP:=if h:∃ σ,∃ rk,Gq s σ rk then h.choose else C6
theorem Te {s:List A7}{σ:EP}{rk:A9->Nat}(h:Gq s σ rk):Tf s=σ:=by
 unfold Tf
 have he:∃ σ,∃ rk,Gq s σ rk:=⟨σ,rk,h⟩
 rw[dif_pos he]
 obtain⟨rk',h'⟩:=he.choose_spec
 exact h'.uniq h
noncomputable def Dz (s:List A7):List A7:=s.map fun b=>⟨b.name,Tf s b.name⟩
noncomputable def FL (s:List A7):Bool:=s.any fun b=>!BJ (Tf s b.name)
noncomputable def Kb (l m:List Term):List A7×Bool×Int :=
 if (HQ l m).2=false then ([],false,0) else if FL (HQ l m).1 then ([],false,3) else (Dz (HQ l m).1,true,0)
theorem ZO {Vs:List A9}{l m:List Term}(hl:∀ z∈l,C3 Vs z)(hm:∀ z∈m,C3 Vs z)(hlen:l.length=m.length):∃ rk,Gq (HQ l m).1 (Tf (HQ l m).1) rk/\(∀ v t,Af (HQ l m).1 v=some t->C3 Vs t/\v∈Vs) /\
  ((HQ l m).2=true->l.map (app (Tf (HQ l m).1))=m.map (app (Tf (HQ l m).1)))/\∀ θ:EP,l.map (app θ)=m.map (app θ)->(HQ l m).2=true/\Ud θ (HQ l m).1:=by
 have hnil:∀ v t,Af [] v=some t->C3 Vs t/\v∈Vs:=fun v t h=>by cases h
 obtain⟨n,r,hr⟩:=Iq Vs l m [] C6 (fun _=>0) Gq.nil hnil hl hm
 rw[NB hr]
 obtain⟨σ,rk,h⟩:=Sk (FW n) l m [] C6 (fun _=>0) r Gq.nil (fun z hz=>(hl z hz).1) (fun z hz=>(hm z hz).1) hlen hr
 rw[Te h.ok]
 refine⟨rk,h.ok,?_,h.eq,fun θ hθ=>h.mgu θ (fun v t h=>by cases h) hθ⟩
 clear h
 revert hr
 have key:∀ (l m:List Term)(s:List A7),(∀ z∈l,C3 Vs z)->(∀ z∈m,C3 Vs z)->(∀ v t,Af s v=some t->C3 Vs t/\v∈Vs)->AF (B5 n) s l m=some r->∀ v t,Af r.1 v=some t->C3 Vs t/\v∈Vs:=by
  intro l
  induction l with
  | nil=>intro m s _ _ hs h;simp only[AF,Option.some.injEq]at h;subst h;exact hs
  | cons a l ihl =>
   intro m s hl hm hs h
   cases m with
   | nil=>simp only[AF,Option.some.injEq]at h;subst h;exact hs
   | cons b m =>
    simp only[AF]at h
    cases hf:B5 n s a b with
    | none=>rw[hf]at h;cases h
    | some p =>
     obtain⟨s1,ok⟩:=p
     rw[hf]at h
     have h1:=M7 hs (hl a (by simp)) (hm b (by simp)) hf
     cases ok with
     | false=>simp only[Option.some.injEq]at h;subst h;exact h1
     | true=>exact ihl m s1 (fun x hx=>hl x (by simp[hx])) (fun x hx=>hm x (by simp[hx])) h1 h
 exact key l m [] hl hm hnil
end Go.Dw
end
namespace Go.Dw
theorem oZ {n:Nat}{seen:List Nat}{k:Nat}(hm:n<=seen.length)(hnd:seen.Nodup)(hlt:∀ i∈seen,i<n)(hk:k∉seen)(hkn:k<n):False:=by
 have h1:(seen++[k]).Nodup:=by simp[List.nodup_append,hnd];intro a ha e;exact hk (e▸ha)
 have h2:(seen++[k]).length<=(List.range n).length:=List.Nodup.length_le_of_subset h1 (by
  intro i hi
  rw[List.mem_range]
  rcases List.mem_append.1 hi with h | h
  ·exact hlt i h
  ·simp only[List.mem_singleton]at h;subst h;exact hkn)
 simp at h2;omega
theorem qq (n:Nat)(R:List Nat->Prop)(h:∀ seen,seen.Nodup->(∀ i∈seen,i<n)->seen.length<=n->(∀ k,k<n->k∉seen->R (seen++[k]))->R seen):R []:=by
 have key:∀ (f:Nat)(seen:List Nat),n-seen.length<f->seen.Nodup->(∀ i∈seen,i<n)->R seen:=by
  intro f
  induction f with
  | zero=>intro seen hf;omega
  | succ f ih =>
   intro seen hf hnd hlt
   have hl:seen.length<=n:=by simpa using List.Nodup.length_le_of_subset hnd (l₂:=List.range n) fun i hi=>List.mem_range.2 (hlt i hi)
   refine h seen hnd hlt hl fun k hkn hk=>?_
   have hlen:seen.length<n:=by
    rcases Nat.lt_or_ge seen.length n with h | h
    ·exact h
    ·exact (oZ h hnd hlt hk hkn).elim
   refine ih (seen++[k]) (by simp;omega) (by simp[List.nodup_append,hnd];intro a ha e;exact hk (e▸ha)) fun i hi=>?_
   rcases List.mem_append.1 hi with h | h
   ·exact hlt i h
   ·simp only[List.mem_singleton]at h;subst h;exact hkn
 exact key (n+1) [] (by simp) List.nodup_nil (by simp)
theorem bV {i:Nat}{l:List A9}{s:A9}:(.own i 1 (l.map cS++[[V.str s]]):V)=Bf cS i 1 (l++[s]):=by simp[Bf,cS]
end Go.Dw
section
namespace Go.Dw
section
variable {κ α:Type} [DecidableEq κ]
def Ce:List (κ×α)->κ->Option α
 | [],_=>none
 | p::m,k=>if p.1=k then some p.2 else Ce m k
def Fm:List (κ×α)->κ->α->List (κ×α)
 | [],k,x=>[(k,x)]
 | p::m,k,x=>if p.1=k then (k,x)::m else p::Fm m k x
theorem Ik (m:List (κ×α))(k j:κ)(x:α):Ce (Fm m k x) j=if k=j then some x else Ce m j:=by
 induction m with
 | nil=>simp only[Fm,Ce]
 | cons p m ih =>
  simp only[Fm]
  split
  ·rename_i h
   simp only[Ce,h]
   split<;>rfl
  ·rename_i h
   simp only[Ce,ih]
   by_cases h2:p.1=j
   ·rw[if_pos h2,if_neg (fun e=>h (h2.trans e.symm)),if_pos h2]
   ·rw[if_neg h2,if_neg h2]
theorem pK {m:List (κ×α)}{k:κ}{x:α}(h:Ce m k=some x):(k,x)∈m:=by
 induction m with
 | nil=>cases h
 | cons p m ih =>
  simp only[Ce]at h
  split at h
  ·rename_i e;cases h;subst e;exact List.mem_cons_self
  ·exact List.mem_cons_of_mem _ (ih h)
def mT (m:List (κ×α)):Prop:=(m.map (·.1)).Nodup
theorem pi {m:List (κ×α)}(h:mT m)(k:κ)(x:α):mT (Fm m k x):=by
 have hm:∀ (m:List (κ×α)) (j:κ),j∈(Fm m k x).map (·.1)->j=k\/j∈m.map (·.1):=by
  intro m
  induction m with
  | nil=>intro j hj;simp[Fm]at hj;exact .inl hj
  | cons p m ih =>
   intro j hj
   simp only[Fm]at hj
   split at hj
   ·simp only[List.map_cons,List.mem_cons]at hj ⊢
    rcases hj with h | h
    ·exact .inl h
    ·exact .inr (.inr h)
   ·simp only[List.map_cons,List.mem_cons]at hj ⊢
    rcases hj with h | h
    ·exact .inr (.inl h)
    ·rcases ih j h with h | h
     ·exact .inl h
     ·exact .inr (.inr h)
 unfold mT at h ⊢
 induction m with
 | nil=>simp[Fm]
 | cons p m ih =>
  simp only[List.map_cons,List.nodup_cons]at h
  simp only[Fm]
  split
  ·rename_i e
   simp only[List.map_cons,List.nodup_cons]
   subst e;exact h
  ·rename_i e
   simp only[List.map_cons,List.nodup_cons]
   refine⟨fun hc=>?_,ih h.2⟩
   rcases hm m _ hc with h2 | h2
   ·exact e h2
   ·exact h.1 h2
theorem Vj {m:List (κ×α)}(h:mT m){k:κ}{x:α}(hm:(k,x)∈m):Ce m k=some x:=by
 unfold mT at h
 induction m with
 | nil=>cases hm
 | cons p m ih =>
  simp only[List.map_cons,List.nodup_cons]at h
  simp only[Ce]
  rcases List.mem_cons.1 hm with e | hm
  ·subst e;rw[if_pos rfl]
  ·rw[if_neg (fun e=>h.1 (by rw[e];exact List.mem_map_of_mem (f:=(·.1)) hm))]
   exact ih h.2 hm
end
section
variable {α:Type}
def Bs (f:α->V)(m:List (A9×α)):List (V×V):=m.map fun p=>(.str p.1,f p.2)
theorem U1 (f:α->V)(m:List (A9×α)):(Bs f m).length=m.length:=by simp[Bs]
theorem S8 (f:α->V)(k:A9):∀ (m:List (A9×α)) (i:Nat),(Ce m k=none/\Gv (.str k) (Bs f m) i=some none)\/∃ x j,Ce m k=some x/\Gv (.str k) (Bs f m) i=some (some (i+j,f x))/\∀ y,(Bs f m).set j (.str k,f y)=Bs f (Fm m k y)
 | [],i=>.inl ⟨rfl,rfl⟩
 | p::m,i=>by
  by_cases h:p.1=k
  ·refine .inr ⟨p.2,0,?_,?_,fun y=>?_⟩
   ·simp[Ce,h]
   ·simp[Bs,Gv,Id,h]
   ·simp[Bs,Fm,h]
  ·have h':k≠p.1:=fun e=>h e.symm
   have hb:(k==p.1)=false:=by simpa using h'
   have e:∀ (i:Nat) ,Gv (.str k) (Bs f (p::m)) i=Gv (.str k) (Bs f m) (i+1):=fun i=>by simp[Bs,Gv,Id,hb]
   have eg:Ce (p::m) k=Ce m k:=by simp only[Ce];rw[if_neg h]
   rw[eg,e]
   rcases S8 f k m (i+1)with h1 | ⟨x,j,h1,h2,h3⟩
   ·exact .inl h1
   ·refine .inr ⟨x,j+1,h1,by rw[h2];congr 3;omega,fun y=>?_⟩
    have:=h3 y
    simp only[Bs,Fm,if_neg h,List.map_cons,List.set_cons_succ]at this ⊢
    rw[this]
theorem LC (f:α->V)(m:List (A9×α))(k:A9)(ok:Bool)(z:V){H:List Ob}{i:Nat}(hi:H[i]?=some (.map (Bs f m))):M8 H true ok z (.map i) (.str k)=some (if ok then .tup [((Ce m k).map f).getD z,.bool (Ce m k).isSome] else ((Ce m k).map f).getD z):=by
 have he:DI H (.map i)=some (Bs f m):=by simp[DI,hi]
 unfold M8
 rw[he]
 rcases S8 f k m 0 with ⟨h1,h2⟩|⟨x,j,h1,h2,_⟩
 ·simp[kQ,h1,h2,Ni]
 ·simp[kQ,h1,h2,Ni]
theorem Xj {κ:Type}[DecidableEq κ]{m:List (κ×α)}{k:κ}(h:Ce m k=none)(x:α):Fm m k x=m++[(k,x)]:=by
 induction m with
 | nil=>rfl
 | cons p m ih =>
  simp only[Ce]at h
  split at h
  ·cases h
  ·rename_i e
   simp only[Fm,if_neg e,List.cons_append,ih h]
theorem PN (f:α->V)(m:List (A9×α))(k:A9)(x:α):XR (.str k) (f x) (Bs f m)=some (Bs f (Fm m k x)):=by
 unfold XR
 rcases S8 f k m 0 with ⟨h1,h2⟩|⟨y,j,h1,h2,h3⟩
 ·rw[h2,Xj h1];simp[Bs]
 ·rw[h2]
  simp only[Nat.zero_add]
  rw[h3]
theorem T1 {σ:Nat->Option Nat}{f:α->V}(hf:∀ x,ren σ (f x)=f x)(m:List (A9×α)):((Bs f m).map fun p=>(ren σ p.1,ren σ p.2))=Bs f m:=by
 unfold Bs
 rw[List.map_map]
 refine List.map_congr_left fun p _=>?_
 show (ren σ (V.str p.1),ren σ (f p.2))=_
 rw[hf];rfl
abbrev QE:=A9×A9
def Pu (k:QE):V:=.agg [.str k.1,.str k.2]
def Ha (f:α->V)(m:List (QE×α)):List (V×V):=m.map fun p=>(Pu p.1,f p.2)
theorem S0 (a b:QE):Pr (Pu a) (Pu b)=some (decide (a=b)):=by
 obtain⟨a1,a2⟩:=a
 obtain⟨b1,b2⟩:=b
 by_cases h1:a1=b1
 ·by_cases h2:a2=b2
  ·subst h1;subst h2
   simp[Pr,Pu,U4,Id]
  ·have:(a2==b2)=false:=by simpa using h2
   subst h1
   simp[Pr,Pu,U4,Id,this,h2]
 ·have:(a1==b1)=false:=by simpa using h1
  simp[Pr,Pu,U4,Id,this,h1]
theorem RT (f:α->V)(k:QE):∀ (m:List (QE×α)) (i:Nat),(Ce m k=none/\NX (Pu k) (Ha f m) i=some none)\/∃ x j,Ce m k=some x/\NX (Pu k) (Ha f m) i=some (some (i+j,f x))/\∀ y,(Ha f m).set j (Pu k,f y)=Ha f (Fm m k y)
 | [],i=>.inl ⟨rfl,rfl⟩
 | p::m,i=>by
  by_cases h:p.1=k
  ·refine .inr ⟨p.2,0,?_,?_,fun y=>?_⟩
   ·simp[Ce,h]
   ·simp only[Ha,List.map_cons,NX,S0,h,decide_true];rfl
   ·simp[Ha,Fm,h]
  ·have h':k≠p.1:=fun e=>h e.symm
   have e:∀ (i:Nat) ,NX (Pu k) (Ha f (p::m)) i=NX (Pu k) (Ha f m) (i+1):=fun i=>by simp only[Ha,List.map_cons,NX,S0,h',decide_false]
   have eg:Ce (p::m) k=Ce m k:=by simp only[Ce];rw[if_neg h]
   rw[eg,e]
   rcases RT f k m (i+1)with h1 | ⟨x,j,h1,h2,h3⟩
   ·exact .inl h1
   ·refine .inr ⟨x,j+1,h1,by rw[h2];congr 3;omega,fun y=>?_⟩
    have:=h3 y
    simp only[Ha,Fm,if_neg h,List.map_cons,List.set_cons_succ]at this ⊢
    rw[this]
theorem nu (f:α->V)(m:List (QE×α))(k:QE)(ok:Bool)(z:V){H:List Ob}{i:Nat}(hi:H[i]?=some (.map (Ha f m))):Rv H [true,true] ok z (.map i) (Pu k)=some (if ok then .tup [((Ce m k).map f).getD z,.bool (Ce m k).isSome] else ((Ce m k).map f).getD z):=by
 have he:DI H (.map i)=some (Ha f m):=by simp[DI,hi]
 have hs:vk [true,true] (Pu k)=true:=rfl
 unfold Rv
 rw[he,if_pos hs]
 rcases RT f k m 0 with ⟨h1,h2⟩|⟨x,j,h1,h2,_⟩
 ·simp[h1,h2,Ni]
 ·simp[h1,h2,Ni]
theorem ua (f:α->V)(m:List (QE×α))(k:QE)(x:α):ou (Pu k) (f x) (Ha f m)=some (Ha f (Fm m k x)):=by
 unfold ou
 rcases RT f k m 0 with ⟨h1,h2⟩|⟨y,j,h1,h2,h3⟩
 ·rw[h2,Xj h1];simp[Ha]
 ·rw[h2]
  simp only[Nat.zero_add]
  rw[h3]
theorem rJ {σ:Nat->Option Nat}{f:α->V}(hf:∀ x,ren σ (f x)=f x)(m:List (QE×α)):((Ha f m).map fun p=>(ren σ p.1,ren σ p.2))=Ha f m:=by
 unfold Ha
 rw[List.map_map]
 refine List.map_congr_left fun p _=>?_
 show (ren σ (Pu p.1),ren σ (f p.2))=_
 rw[hf];rfl
end
def Gn (s:List A7):Nat->Term->Prop
 | 0,_=>False
 | n+1,t=>if t.var then ∀ x,Af s t.name=some x->Gn s n x else ∀ a∈t.args,Gn s n a
theorem Gn.mono {s:List A7}:∀ {n m:Nat} {t:Term},Gn s n t->n<=m->Gn s m t
 | 0,_,_,h,_=>h.elim
 | n+1,0,_,_,h=>by omega
 | n+1,m+1,t,h,hm=>by
  simp only[Gn]at h ⊢
  split
  ·rename_i hv
   rw[if_pos hv]at h
   exact fun x hx=>(h x hx).mono (by omega)
  ·rename_i hv
   rw[if_neg hv]at h
   exact fun a ha=>(h a ha).mono (by omega)
theorem ZQ {s:List A7}:∀ l:List Term,(∀ a∈l,∃ n,Gn s n a)->∃ n,∀ a∈l,Gn s n a
 | [],_=>⟨0,by simp⟩
 | a::l,h=>by
  obtain⟨n,hn⟩:=h a (by simp)
  obtain⟨m,hm⟩:=ZQ l fun b hb=>h b (by simp[hb])
  refine⟨n+m,fun b hb=>?_⟩
  rcases List.mem_cons.1 hb with rfl | hb
  ·exact hn.mono (by omega)
  ·exact (hm b hb).mono (by omega)
theorem Gq.need {s:List A7}{σ:EP}{rk:A9->Nat}(h:Gq s σ rk)(t:Term):∃ n,Gn s n t:=by
 have B:∀ t:Term,(∀ u,CI u t=true->∀ x,Af s u=some x->∃ n,Gn s n x)->∃ n,Gn s n t:=by
  intro t
  induction t using Ai with
  | h t ih =>
  intro hu
  cases hv:t.var with
  | true =>
   cases hi:Af s t.name with
   | none=>exact⟨1,by simp only[Gn,hv,if_pos];intro x hx;rw[hi]at hx;cases hx⟩
   | some x =>
    obtain⟨n,hn⟩:=hu t.name (AE.2 (.inl ⟨hv,rfl⟩)) x hi
    exact⟨n+1,by simp only[Gn,hv,if_pos];intro y hy;rw[hi]at hy;cases hy;exact hn⟩
  | false =>
   obtain⟨n,hn⟩:=ZQ (s:=s) t.args fun a ha=>ih a ha fun u hu'=>hu u (AE.2 (.inr ⟨a,ha,hu'⟩))
   exact⟨n+1,by simp only[Gn,hv,Bool.false_eq_true,if_false];exact hn⟩
 have A:∀ u,∀ x,Af s u=some x->∃ n,Gn s n x:=h.ind fun u ih x hx=>B x fun w hw y hy=>ih x w hx hw y hy
 exact B t fun u _=>A u
end Go.Dw
end
section
namespace Go.Dw
abbrev NM:=List (A9×A9)
abbrev oD (nm:NM)(J:List Ob):List Ob:=.map (Bs V.str nm)::.cells Bi [.map 0]::J
abbrev nH (nm:NM):List Ob:=oD nm []
theorem po {σ:Nat->Option Nat}(m:NM):((Bs V.str m).map fun p=>(ren σ p.1,ren σ p.2))=Bs V.str m:=T1 (fun x=>rfl) m
attribute [push_cast] po
theorem jn (nm:NM):Je 2 (nH nm):=⟨rfl,by
 show [A6 (AM 2) (.map (Bs V.str nm)),A6 (AM 2) (.cells Bi [.map 0])]=_
 have h0:AM 2 0=some 0:=rfl
 push_cast[h0]⟩
theorem sg (nm:NM)(J:List Ob):give [0,1] (oD nm J)=nH nm:=by
 show [A6 (Az [0,1]) (.map (Bs V.str nm)),A6 (Az [0,1]) (.cells Bi [.map 0])]=_
 have h0:Az [0,1] 0=some 0:=rfl
 push_cast[h0]
theorem AbI (nm nm':NM)(J:List Ob):takeB [0,1] (oD nm J) (nH nm')=oD nm' J:=by
 apply List.ext_getElem?
 intro i
 rw[DW (by simp)]
 have h0:∀ n,C5 [0,1] n 0=some 0:=fun _=>rfl
 match i with
 | 0=>rw[if_pos (by simp)];show some (A6 _ (.map (Bs V.str nm')))=some _;push_cast
 | 1=>rw[if_pos (by simp)];show some (A6 _ (.cells Bi [.map 0]))=some _;push_cast[h0]
 | i+2 =>
  have hp:Az [0,1] (i+2)=none:=by simp[Az,List.findIdx?_cons]
  by_cases h:i<J.length
  ·rw[if_pos (by simp;omega),hp]
   simp[List.getD_eq_getElem?_getD,h]
  ·rw[if_neg (by simp;omega)]
   have e1:(oD nm' J)[i+2]?=none:=List.getElem?_eq_none (by simp;omega)
   have e2:(nH nm')[[0,1].length+(i+2-(oD nm J).length)]?=none:=List.getElem?_eq_none (by simp)
   rw[e1,e2];rfl
section
variable {N:Nat->C} {B:Nat} {k:List K} {t:T} {Q:X->T->List Ob->Prop} {dd:Option Nat} {l:List S} {F:Fn} {vs vs':List V} {nm nm':NM} {J:List Ob} {x:V}
theorem dj (hv:AS (Az [0,1]) vs=vs')(h:HC prog F vs' (nH nm) fun x' H'=>x'=x/\H'=nH nm')(k':Ax prog N B (.r l::k) (FZ dd (ren (C5 [0,1] (J.length+2)) x) t) (oD nm' J) Q):BD prog N B dd l k t Q F vs (oD nm J):=by
 refine BD.some [0,1] (by simp) (by simp) (R:=fun x' H'=>x'=x/\H'=nH nm') (by rw[sg,hv];exact h) ?_
 rintro x' H' ⟨rfl,rfl⟩ _
 rw[AbI];exact k'
end
abbrev py (P:List Ob)(nm:NM)(J:List Ob):List Ob:=P++(.map (Bs V.str nm)::.cells Bi [.map P.length]::J)
theorem zS (p:Nat):Az [p,p+1] p=some 0:=by simp[Az,List.findIdx?_cons]
theorem AaS (p:Nat):Az [p,p+1] (p+1)=some 1:=by simp[Az,List.findIdx?_cons]
theorem yn (P:List Ob)(nm:NM)(J:List Ob):give [P.length,P.length+1] (py P nm J)=nH nm:=by
 unfold give
 have e1:(py P nm J).getD P.length .dead=.map (Bs V.str nm):=by simp[List.getD_eq_getElem?_getD]
 have e2:(py P nm J).getD (P.length+1) .dead=.cells Bi [.map P.length]:=by
  rw[List.getD_eq_getElem?_getD,List.getElem?_append_right (by omega)]
  simp
 simp only[List.map_cons,List.map_nil,e1,e2]
 push_cast[zS]
theorem yY (P:List Ob)(nm nm':NM)(J:List Ob):takeB [P.length,P.length+1] (py P nm J) (nH nm')=py P nm' J:=by
 apply List.ext_getElem?
 intro i
 rw[DW (by simp)]
 have hb0:∀ n,C5 [P.length,P.length+1] n 0=some P.length:=fun _=>rfl
 have hlen:(py P nm J).length=P.length+(J.length+2):=by simp
 by_cases h1:i<P.length
 ·have hp:Az [P.length,P.length+1] i=none:=by
   have a1:¬ P.length=i:=by omega
   have a2:¬ P.length+1=i:=by omega
   simp[Az,List.findIdx?_cons,a1,a2]
  rw[if_pos (by omega),hp,List.getElem?_append_left h1,List.getD_eq_getElem?_getD,List.getElem?_append_left h1]
  simp[h1]
 ·rw[List.getElem?_append_right (by omega)]
  by_cases h2:i=P.length
  ·subst h2
   rw[if_pos (by omega),zS]
   simp only[Nat.sub_self,List.getElem?_cons_zero]
   show some (A6 _ (.map (Bs V.str nm')))=_
   push_cast
  ·by_cases h3:i=P.length+1
   ·subst h3
    rw[if_pos (by omega),AaS]
    have e:P.length+1-P.length=1:=by omega
    rw[e]
    simp only[List.getElem?_cons_succ,List.getElem?_cons_zero]
    show some (A6 _ (.cells Bi [.map 0]))=_
    push_cast[hb0]
   ·have hp:Az [P.length,P.length+1] i=none:=by
     have a1:¬ P.length=i:=by omega
     have a2:¬ P.length+1=i:=by omega
     simp[Az,List.findIdx?_cons,a1,a2]
    obtain⟨j,rfl⟩:∃ j,i=P.length+2+j:=⟨i-P.length-2,by omega⟩
    have e:P.length+2+j-P.length=j+2:=by omega
    rw[e]
    simp only[List.getElem?_cons_succ]
    by_cases h4:j<J.length
    ·rw[if_pos (by omega),hp]
     simp only[List.getD_eq_getElem?_getD]
     rw[List.getElem?_append_right (by omega),e]
     simp[h4]
    ·rw[if_neg (by omega)]
     have e1:J[j]?=none:=List.getElem?_eq_none (by omega)
     have e2:(nH nm')[[P.length,P.length+1].length+(P.length+2+j-(py P nm J).length)]?=none:=List.getElem?_eq_none (by simp)
     rw[e1,e2];rfl
theorem FP {N:Nat->C}{B:Nat}{k:List K}{t:T}{Q:X->T->List Ob->Prop}{dd:Option Nat}{l:List S}{F:Fn}{vs vs':List V}{nm nm':NM}{x:V}(P J:List Ob)(hv:AS (Az [P.length,P.length+1]) vs=vs')(h:HC prog F vs' (nH nm) fun x' H'=>x'=x/\H'=nH nm')
  (k':Ax prog N B (.r l::k) (FZ dd (ren (C5 [P.length,P.length+1] (py P nm J).length) x) t) (py P nm' J) Q):BD prog N B dd l k t Q F vs (py P nm J):=by
 refine BD.some [P.length,P.length+1] (by simp) (by simp) (R:=fun x' H'=>x'=x/\H'=nH nm') (by rw[yn,hv];exact h) ?_
 rintro x' H' ⟨rfl,rfl⟩ _
 rw[yY];exact k'
def K5 (pre:A9)(nm:NM)(v:A9):NM×A9:=if (Ce nm v).getD []=[] then (Fm nm v (pre++Jc nm.length),pre++Jc nm.length) else (nm,(Ce nm v).getD [])
theorem pJ {κ α:Type}[DecidableEq κ](m:List (κ×α))(k:κ)(x:α):(Fm m k x).length<=m.length+1:=by
 induction m with
 | nil=>simp[Fm]
 | cons p m ih=>simp only[Fm];split<;>simp;exact ih
theorem mF (pre:A9)(nm:NM)(v:A9):(K5 pre nm v).1.length<=nm.length+1:=by
 unfold K5
 split
 ·exact pJ _ _ _
 ·exact Nat.le_succ _
theorem Ww (n:Nat):(Jc n).length<=n+1:=by
 induction n using Nat.strongRecOn with
 | ind n ih =>
  unfold Jc Lib.decDigits
  split
  ·simp
  ·have:=ih (n / 10) (by omega)
   unfold Jc at this
   simp only[List.length_append,List.length_singleton]
   omega
theorem SE (nm:NM)(v:A9)(hl:nm.length<2^62):Spec prog EU [.str v,.ptr 1 0] (nH nm) fun x H'=>x=.str (K5 [120] nm v).2/\H'=nH (K5 [120] nm v).1:=by
 have hlk:∀ nm l,_:=fun (nm:NM) (l:List Ob)=>LC V.str nm v false (.str []) (H:=oD nm l) (i:=0) rfl
 have hup:=PN V.str nm v (120::Jc nm.length)
 have hcap:1+(Jc nm.length).length<=C7:=by have:=Ww nm.length;unfold C7;omega
 have hlm:∀ l,W3 (oD nm l) (.map 0)=some (.int .i64 nm.length):=fun l=>by unfold W3;simp[DI,U1]
 have hI:=PZ nm.length hl
 refine AK mixed MB.ok rfl ?_
 unfold K5
 have e2:∀ nm:NM,((Ce nm v).map V.str).getD (.str [])=.str ((Ce nm v).getD []):=fun nm=>by cases Ce nm v<;>rfl
 simp only[e2,Bool.false_eq_true,if_false]at hlk
 by_cases h:(Ce nm v).getD []=[]
 ·rw[if_pos h]
  have h3:(Ce (Fm nm v (120::Jc nm.length)) v).getD []=120::Jc nm.length:=by rw[Ik,if_pos rfl];rfl
  push_cast[hlk,h,hlm]
  refine .of hI ?_
  push_cast[hup,hlk,h3,hcap]
  exact⟨rfl,DJ (.inl rfl) rfl ⟨rfl,rfl⟩⟩
 ·rw[if_neg h]
  push_cast[hlk,h]
  exact DJ (.inl rfl) rfl ⟨rfl,rfl⟩
theorem MI (nm:NM)(v:A9)(hl:nm.length<2^40):Spec prog CL [.str v,.ptr 1 0] (nH nm) fun x H'=>x=.str (K5 [121] nm v).2/\H'=nH (K5 [121] nm v).1:=by
 have hlk:∀ nm l,_:=fun (nm:NM) (l:List Ob)=>LC V.str nm v false (.str []) (H:=oD nm l) (i:=0) rfl
 have hup:=PN V.str nm v (121::Jc nm.length)
 have hcap:1+(Jc nm.length).length<=C7:=by have:=Ww nm.length;unfold C7;omega
 have hlm:∀ l,W3 (oD nm l) (.map 0)=some (.int .i64 nm.length):=fun l=>by unfold W3;simp[DI,U1]
 have hI:=PZ nm.length (by omega)
 refine AK mixed Pe.ok rfl ?_
 unfold K5
 have e2:∀ nm:NM,((Ce nm v).map V.str).getD (.str [])=.str ((Ce nm v).getD []):=fun nm=>by cases Ce nm v<;>rfl
 simp only[e2,Bool.false_eq_true,if_false]at hlk
 by_cases h:(Ce nm v).getD []=[]
 ·rw[if_pos h]
  have h3:(Ce (Fm nm v (121::Jc nm.length)) v).getD []=121::Jc nm.length:=by rw[Ik,if_pos rfl];rfl
  push_cast[hlk,h,hlm]
  refine .of hI ?_
  push_cast[hup,hlk,h3,hcap]
  exact⟨rfl,DJ (.inl rfl) rfl ⟨rfl,rfl⟩⟩
 ·rw[if_neg h]
  push_cast[hlk,h]
  exact DJ (.inl rfl) rfl ⟨rfl,rfl⟩
mutual
def Hy (pre:A9)(nm:NM):Term->NM×Term
 | .mk n v l=>if v then ((K5 pre nm n).1,.mk (K5 pre nm n).2 true []) else ((Ef pre nm l).1,.mk n false (Ef pre nm l).2)
def Ef (pre:A9)(nm:NM):List Term->NM×List Term
 | []=>(nm,[])
 | a::l=>((Ef pre (Hy pre nm a).1 l).1,(Hy pre nm a).2::(Ef pre (Hy pre nm a).1 l).2)
end
theorem dy (pre:A9)(nm:NM)(t:Term):Hy pre nm t=if t.var then ((K5 pre nm t.name).1,.mk (K5 pre nm t.name).2 true []) else ((Ef pre nm t.args).1,.mk t.name false (Ef pre nm t.args).2):=by cases t;simp only[Hy];rfl
theorem SV (pre:A9):∀ (a b:List Term)(nm:NM),Ef pre nm (a++b)=((Ef pre (Ef pre nm a).1 b).1,(Ef pre nm a).2++(Ef pre (Ef pre nm a).1 b).2)
 | [],b,nm=>rfl
 | x::a,b,nm=>by simp only[List.cons_append,Ef,SV pre a b]
theorem bw (pre:A9):∀ (a:List Term)(nm:NM),(Ef pre nm a).2.length=a.length
 | [],nm=>rfl
 | x::a,nm=>by simp only[Ef,List.length_cons,bw pre a]
theorem NL (pre:A9)(t:Term):∀ nm:NM,(Hy pre nm t).1.length<=nm.length+size t:=by
 induction t using Ai with
 | h t ih =>
 intro nm
 have hst:=AJ t
 rw[dy]
 split
 ·have:=mF pre nm t.name;simp only;omega
 ·have key:∀ (l:List Term)(nm:NM),(∀ a∈l,a∈t.args)->(Ef pre nm l).1.length<=nm.length+Ae l:=by
   intro l
   induction l with
   | nil=>intro nm _;simp[Ef,Ae]
   | cons a l ihl =>
    intro nm hl
    have h1:=ih a (hl a (by simp)) nm
    have h2:=ihl (Hy pre nm a).1 fun b hb=>hl b (by simp[hb])
    simp only[Ef,Ae]
    omega
  have:=key t.args nm fun _ h=>h
  simp only;omega
theorem LQ {g:Nat}{pre:A9}(hg:∀ (nm:NM)(v:A9),nm.length<2^40->Spec prog g [.str v,.ptr 1 0] (nH nm) fun x H'=>x=.str (K5 pre nm v).2/\H'=nH (K5 pre nm v).1)(t:Term) :
  ∀ nm:NM,nm.length+size t<2^40->Spec prog Dl [An t,.fn (.func g) [] [.ptr 1 0]] (nH nm) fun x H'=>x=An (Hy pre nm t).2/\H'=nH (Hy pre nm t).1:=by
 induction t using Ai with
 | h t ih =>
 intro nm hl
 have hst:=AJ t
 have hla:=Am t.args
 have p1:Az [0,1] 1=some 1:=rfl
 have c1:AM 2 1=some 1:=rfl
 refine AK mixed KS.ok rfl ?_
 rw[dy]
 cases hv:t.var with
 | true =>
  rw[if_pos rfl]
  push_cast[hv]
  refine dj (by push_cast[p1]) (Bj▸hg nm t.name (by omega)) ?_
  push_cast
  exact Ap (H:=nH (K5 pre nm t.name).1) (J:=[_]) (jn _) rfl ⟨by push_cast;rfl,rfl⟩
 | false =>
  rw[if_neg (by simp)]
  push_cast[hv]
  refine Ac (n:=t.args.length) (R:=fun k=>KS.L3 (.fn (.func g) [] [.ptr 1 0]) (.ptr 2 0) (.ptr 3 0) (Bk t.args) (.int .i64 t.args.length) (.int .i64 k) 2
   (oD (Ef pre nm (t.args.take k)).1 [.cells A3 [.str [],.bool false,.sl 3 []],.cells A3 [.str t.name,.bool false,Bf cT 4 3 (Ef pre nm (t.args.take k)).2],.arr A3 3 k]) _) ?_ ?_ 0 (by omega)
  ·intro k hk ih2
   have hme:=A4 hk
   have hlt:(Ef pre nm (t.args.take k)).2.length=k:=by rw[bw];simp;omega
   have hsz:=By hme
   have hpre:(Ef pre nm (t.args.take k)).1.length+size (t.args.getD k default)<2^40:=by
    have key:∀ (l:List Term)(nm:NM),(Ef pre nm l).1.length<=nm.length+Ae l:=by
     intro l
     induction l with
     | nil=>intro nm;simp[Ef,Ae]
     | cons a l ihl =>
      intro nm
      have h1:=NL pre a nm
      have h2:=ihl (Hy pre nm a).1
      simp only[Ef,Ae];omega
    have h1:=key (t.args.take k) nm
    have h2:Ae (t.args.take k)+size (t.args.getD k default)<=Ae t.args:=by
     have h3:Ae (t.args.take (k+1))=Ae (t.args.take k)+size (t.args.getD k default):=by rw[Aa hk,Cm];simp[Ae]
     have h4:Ae t.args=Ae (t.args.take (k+1))+Ae (t.args.drop (k+1)):=by rw[<-Cm,List.take_append_drop]
     omega
    omega
   have hc:=ih _ hme (Ef pre nm (t.args.take k)).1 hpre
   rw[Aa hk,SV]at ih2
   simp only[Ef]at ih2
   generalize Ef pre nm (t.args.take k)=q at hlt hc ih2
   generalize Hy pre q.1 (t.args.getD k default)=u at hc ih2
   refine A5.2 ?_
   push_cast[BC hk]
   refine⟨⟨?_,?_⟩,?_⟩
   all_goals
    refine dj (J:=[_,_,_,_]) (by push_cast[p1]) hc ?_
    push_cast[hlt,Uz (show k<2^40 by omega) (show 48<=64 by omega),CD (show k<2^62 by omega),c1]
    push_cast at ih2
    exact ih2
  ·refine A5.2 ?_
   push_cast[AZ (Nat.le_refl _)]
   rw[List.take_length]
   refine Ap (H:=nH _) (J:=[_,_,_]) (jn _) rfl ⟨?_,rfl⟩
   push_cast[KS.rs]
   rw[An,P7];rfl
theorem We:Spec prog FF [] [] fun x H'=>x=.fn (.func Dv) [] [.ptr 1 0]/\H'=nH []:=by
 refine AK mixed RA.ok rfl ?_
 push_cast
 refine SX (.inl rfl) [0,1] (by simp) (by simp) rfl ⟨?_,?_⟩
 ·have p1:Az (List.range 0++[0,1]) 1=some 1:=rfl
  push_cast[p1]
 ·exact sg [] []
theorem Er (nm:NM)(t:Term)(hl:nm.length+size t<2^40):Spec prog Dv [An t,.ptr 1 0] (nH nm) fun x H'=>x=An (Hy [120] nm t).2/\H'=nH (Hy [120] nm t).1:=by
 have hR:=LQ (g:=EU) (pre:=[120]) (fun nm v h=>SE nm v (by omega)) t nm hl
 have p1:Az [0,1] 1=some 1:=rfl
 refine AK mixed P9.ok rfl ?_
 push_cast
 refine dj (J:=[_]) (by push_cast[p1]) hR ?_
 push_cast
 exact Ap (H:=nH (Hy [120] nm t).1) (J:=[_]) (jn _) rfl ⟨by push_cast,rfl⟩
def tY (pre:A9)(x:A2):A2:=⟨(Hy pre [] x.left).2,(Hy pre (Hy pre [] x.left).1 x.right).2⟩
theorem Wf (x:A2)(hl:size x.left+size x.right<2^39):PF Kx [Kn x] (Kn (tY [121] x)):=by
 have hL:=LQ (g:=CL) (pre:=[121]) MI x.left [] (by simp;omega)
 have hR:=LQ (g:=CL) (pre:=[121]) MI x.right (Hy [121] [] x.left).1 (by have:=NL [121] x.left [];simp only[List.length_nil]at this;omega)
 have p1:Az [0,1] 1=some 1:=rfl
 refine Ab Nq.ok rfl ?_
 push_cast
 have q1:Az [1,2] 2=some 1:=rfl
 refine FP (vs:=[An x.left,V.fn (Fn.func CL) [] [V.ptr 2 0]]) (nm:=[]) [.cells BY [V.str [],V.bool false,V.sl 3 [],V.str [],V.bool false,V.sl 3 []]] [] (by push_cast[q1]) (Bj▸hL) ?_
 push_cast
 refine FP (vs:=[An x.right,V.fn (Fn.func CL) [] [V.ptr 2 0]]) [.cells BY [V.str [],V.bool false,V.sl 3 [],V.str [],V.bool false,V.sl 3 []]] [_] (by push_cast[q1]) (Bj▸hR) ?_
 push_cast
 refine A1 ?_
 push_cast[Nq.rs,tY]
 rfl
end Go.Dw
end
namespace Go.Dw
def Wj (l:List A9)(x:A9):Bool:=l.any fun y=>decide (y=x)
theorem fw {l:List A9}{x:A9}:Wj l x=true↔x∈l:=by
 unfold Wj;simp[List.any_eq_true]
theorem UR (l:List A9)(x:A9)(hl:l.length<2^62):PF NQ [Bw l,.str x] (.bool (Wj l x)):=by
 refine Ab QJ.ok rfl ?_
 push_cast
 refine Ac (n:=l.length) (R:=fun k=>Wj (l.drop k) x=Wj l x->QJ.L3 (.str x) (Bw l) (.int .i64 l.length) (.int .i64 k) 0 [] (Bo 0 QJ.rs fun y H=>y=.bool (Wj l x)/\H=[])) ?_ ?_ 0 (Nat.zero_le _) rfl
 ·intro k hk ih hq
  rw[Ag hk]at hq
  refine A5.2 ?_
  generalize hy:l.getD k default=y at hq
  simp only[Wj,List.any_cons]at hq
  by_cases h:y=x
  ·push_cast[BC hk,hy,eq_true h]
   simp only[h,decide_true,Bool.true_or]at hq
   exact A1 (by push_cast[QJ.rs,Wj,h,<-hq])
  ·push_cast[BC hk,hy,eq_false h,CD (show k<2^62 by omega)]
   simp only[h,decide_false,Bool.false_or]at hq
   push_cast at ih
   exact ih hq
 ·intro hq
  refine A5.2 ?_
  rw[List.drop_length]at hq
  push_cast[AZ (Nat.le_refl _)]
  exact A1 (by push_cast[QJ.rs,<-hq];simp[Wj])
theorem Ve {l:List A9}{x:A9}(h:x∈l):Wj l x=true:=fw.2 h
theorem Sz {l:List A9}{x:A9}(h:x∉l):Wj l x=false:=by
 cases e:Wj l x with
 | false=>rfl
 | true=>exact absurd (fw.1 e) h
theorem bM (n:Nat):n<2^62->PF IO [.int .i64 n] (.str (Jc n)):=by
 induction n using Nat.strongRecOn with
 | ind n ih =>
 intro hn
 refine Ab Ow.ok rfl ?_
 unfold Jc Lib.decDigits
 by_cases h:n<10
 ·have hi:((n:Int)<10)=True:=eq_true (by omega)
  rw[dif_pos h]
  have hb:iF [[V.int .u8 (IntKind.u8.wrap (IntKind.i64.wrap (48+(n:Int))))]]=some [UInt8.ofNat (48+n)]:=by
   have:n=0\/n=1\/n=2\/n=3\/n=4\/n=5\/n=6\/n=7\/n=8\/n=9:=by omega
   rcases this with rfl | rfl | rfl | rfl | rfl | rfl | rfl | rfl | rfl | rfl<;>rfl
  push_cast[hi,hb]
  exact A1 (by push_cast[Ow.rs])
 ·have hi:((n:Int)<10)=False:=eq_false (by omega)
  rw[dif_neg h]
  have h1:=ih (n / 10) (by omega) (by omega)
  have h2:=ih (n % 10) (by omega) (by omega)
  have e1:IntKind.i64.wrap ((n:Int).tdiv 10)=((n / 10:Nat):Int):=by
   rw[Int.tdiv_eq_ediv_of_nonneg (by omega),Bn (by omega) (by omega)];omega
  have e2:(n:Int).tmod 10=((n % 10:Nat):Int):=by
   rw[Int.tmod_eq_emod_of_nonneg (by omega)];omega
  have h3:Jc (n % 10)=[UInt8.ofNat (48+n % 10)]:=by
   unfold Jc Lib.decDigits;rw[dif_pos (by omega)]
  have hcap:(Jc (n / 10)).length+1<=C7:=by have:=Ww (n / 10);unfold C7;omega
  rw[h3]at h2
  push_cast[hi]
  rw[e1]
  refine .of h1 ?_
  push_cast
  rw[e2]
  refine .of h2 ?_
  push_cast[hcap]
  exact A1 (by push_cast[Ow.rs])
mutual
def AH (l:List A9):Term->List A9
 | .mk n v ar=>if v then (if n∈l then l else l++[n]) else BR l ar
def BR (l:List A9):List Term->List A9
 | []=>l
 | a::ar=>BR (AH l a) ar
end
theorem LE (l:List A9)(t:Term):AH l t=if t.var then (if t.name∈l then l else l++[t.name]) else BR l t.args:=by cases t;simp only[AH];rfl
theorem PH:∀ (a b:List Term)(l:List A9),BR l (a++b)=BR (BR l a) b
 | [],b,l=>rfl
 | x::a,b,l=>by simp only[List.cons_append,BR,PH a b]
theorem PC (t:Term):∀ l:List A9,(AH l t).length<=l.length+size t:=by
 induction t using Ai with
 | h t ih =>
 intro l
 have hst:=AJ t
 rw[LE]
 split
 ·split
  ·omega
  ·simp;omega
 ·have key:∀ (ar:List Term)(l:List A9),(∀ a∈ar,a∈t.args)->(BR l ar).length<=l.length+Ae ar:=by
   intro ar
   induction ar with
   | nil=>intro l _;simp[BR,Ae]
   | cons a ar ihl =>
    intro l hl
    have h1:=ih a (hl a (by simp)) l
    have h2:=ihl (AH l a) fun b hb=>hl b (by simp[hb])
    simp only[BR,Ae]
    omega
  have:=key t.args l fun _ h=>h
  omega
theorem bJ (ar:List Term)(l:List A9):(BR l ar).length<=l.length+Ae ar:=by
 induction ar generalizing l with
 | nil=>simp[BR,Ae]
 | cons a ar ih =>
  have h1:=PC a l
  have h2:=ih (AH l a)
  simp only[BR,Ae];omega
theorem Vr (t:Term):∀ l:List A9,l.length+size t<2^40->PF Kd [An t,Bw l] (Bw (AH l t)):=by
 induction t using Ai with
 | h t ih =>
 intro l hl
 have hst:=AJ t
 have hla:=Am t.args
 refine Ab Lt.ok rfl ?_
 rw[LE]
 cases hv:t.var with
 | true =>
  rw[if_pos rfl]
  have hH:=UR l t.name (by omega)
  push_cast[hv]
  refine .of hH ?_
  by_cases hm:t.name∈l
  ·rw[Ve hm,if_pos hm]
   push_cast
   exact A1 (by push_cast[Lt.rs])
  ·rw[Sz hm,if_neg hm]
   have hr1:l.length*16<=Ah:=by unfold Ah;omega
   have hr2:(l.length+1)*16<=Ah:=by unfold Ah;omega
   have ho:∀ i,(.own i 1 (l.map cS):V)=Bf cS i 1 l:=fun i=>rfl
   push_cast[hr1,hr2,ho,bV,List.length_map]
   exact A1 (by push_cast[Lt.rs])
 | false =>
  rw[if_neg (by simp)]
  push_cast[hv]
  refine Ac (n:=t.args.length) (R:=fun k=>Lt.L3 (Bw (BR l (t.args.take k))) (Bk t.args) (.int .i64 t.args.length) (.int .i64 k) 0 [] _) ?_ ?_ 0 (by omega)
  ·intro k hk ih2
   have hme:=A4 hk
   have h1:=bJ (t.args.take k) l
   have h3:Ae (t.args.take (k+1))=Ae (t.args.take k)+size (t.args.getD k default):=by rw[Aa hk,Cm];simp[Ae]
   have h4:Ae t.args=Ae (t.args.take (k+1))+Ae (t.args.drop (k+1)):=by rw[<-Cm,List.take_append_drop]
   have hc:=ih _ hme (BR l (t.args.take k)) (by omega)
   rw[Aa hk,PH]at ih2
   simp only[BR]at ih2
   refine A5.2 ?_
   push_cast[BC hk]
   refine .of hc ?_
   push_cast[CD (show k<2^62 by omega)]
   push_cast at ih2
   exact ih2
  ·refine A5.2 ?_
   push_cast[AZ (Nat.le_refl _)]
   exact A1 (by push_cast[Lt.rs];rw[List.take_length])
def CC (l:List A9):List A9:=l.foldl Pz []
theorem Mg {v:A9}:∀ (l m:List A9),v∈l.foldl Pz m↔v∈m\/v∈l
 | [],m=>by simp
 | x::l,m=>by
  simp only[List.foldl_cons,Mg l,XP,List.mem_cons]
  constructor
  ·rintro ((h | h) | h)
   ·exact .inl h
   ·exact .inr (.inl h)
   ·exact .inr (.inr h)
  ·rintro (h | h | h)
   ·exact .inl (.inl h)
   ·exact .inl (.inr h)
   ·exact .inr h
theorem J9:∀ (l m:List A9),(l.foldl Pz m).length<=m.length+l.length
 | [],m=>by simp
 | x::l,m=>by
  have:=J9 l (Pz m x)
  have:=Yr m x
  simp only[List.foldl_cons,List.length_cons];omega
theorem dk (l:List A9)(hl:l.length<2^38)(hn:∀ x∈l,x.length<2^62):PF O7 [Bw l] (Bw (CC l)):=by
 refine Ab Og.ok rfl ?_
 push_cast
 refine Ac (n:=l.length) (R:=fun k=>Og.L3 (Bw ((l.take k).foldl Pz [])) (Bw l) (.int .i64 l.length) (.int .i64 k) 0 [] _) ?_ ?_ 0 (by omega)
 ·intro k hk ih
  have hm:=A4 hk
  have h1:=J9 (l.take k) []
  have h2:(l.take k).length<=k:=by simp;omega
  have hI:=Tq ((l.take k).foldl Pz []) (l.getD k default) (by simp only[List.length_nil]at h1;omega) (fun x hx=>by
   rcases (Mg _ _).1 hx with h | h
   ·cases h
   ·exact hn x (List.mem_of_mem_take h)) (hn _ hm)
  rw[Aa hk,List.foldl_append]at ih
  simp only[List.foldl_cons,List.foldl_nil]at ih
  refine A5.2 ?_
  push_cast[BC hk]
  refine .of hI ?_
  push_cast[CD (show k<2^62 by omega)]
  push_cast at ih
  exact ih
 ·refine A5.2 ?_
  push_cast[AZ (Nat.le_refl _)]
  exact A1 (by push_cast[Og.rs];rw[List.take_length];rfl)
def Jf (pre v:A9):Nat->List A9->List A7
 | _,[]=>[]
 | i,x::l=>(if x=v then [⟨v,C6 (pre++Jc i)⟩] else [])++Jf pre v (i+1) l
def Sh (l:List A9)(pre:A9):List A7:=(CC l).flatMap fun v=>Jf pre v 0 l
theorem Ta (pre v:A9):∀ (l:List A9)(i:Nat),(Jf pre v i l).length<=l.length
 | [],i=>by simp[Jf]
 | x::l,i=>by
  have:=Ta pre v l (i+1)
  simp only[Jf,List.length_append,List.length_cons]
  split<;>simp<;>omega
theorem ge {l:List A9}{F:A9->List A7}{m:Nat}(h:∀ v,(F v).length<=m):(l.flatMap F).length<=l.length*m:=by
 induction l with
 | nil=>simp
 | cons x l ih =>
  have:=h x
  simp only[List.flatMap_cons,List.length_append,List.length_cons,Nat.succ_mul];omega
theorem bB (pre v:A9):∀ (l:List A9)(i k:Nat),k<l.length->Jf pre v i (l.take (k+1))=Jf pre v i (l.take k)++(if l.getD k default=v then [⟨v,C6 (pre++Jc (i+k))⟩] else [])
 | [],i,k,h=>by simp at h
 | x::l,i,0,h=>by simp[Jf]
 | x::l,i,k+1,h=>by
  have:=bB pre v l (i+1) k (by simpa using h)
  simp only[List.take_succ_cons,Jf,this,List.getD_cons_succ]
  rw[show i+1+k=i+(k+1) by omega,List.append_assoc]
theorem Qb (l:List A9)(pre:A9)(hl:l.length<2^19)(hn:∀ x∈l,x.length<2^62)(hp:pre.length<2^20):PF IA [Bw l,.str pre] (Bm (Sh l pre)):=by
 have hS:=dk l (by omega) hn
 have hsl:(CC l).length<=l.length:=by have:=J9 l [];simpa[CC]using this
 refine Ab DP.ok rfl ?_
 push_cast
 refine .of hS ?_
 push_cast
 have hsq:l.length*l.length<=2^19*2^19:=Nat.mul_le_mul (by omega) (by omega)
 refine Ac (n:=(CC l).length) (R:=fun k=>DP.L6 (Bw l) (.str pre) (Bf cB 0 4 (((CC l).take k).flatMap fun v=>Jf pre v 0 l)) (Bw (CC l)) (.int .i64 (CC l).length) (.int .i64 k) 0 [.arr Cc 4 (((CC l).take k).flatMap fun v=>Jf pre v 0 l).length] (Bo 0 DP.rs fun x H=>x=Bm (Sh l pre)/\H=[])) ?_ ?_ 0 (by omega)
 ·intro k hk ih
  have hm:=A4 hk
  rw[Aa hk,List.flatMap_append]at ih
  simp only[List.flatMap_cons,List.flatMap_nil,List.append_nil]at ih
  have hbl:(((CC l).take k).flatMap fun v=>Jf pre v 0 l).length<=k*l.length:=by
   have h1:=ge (l:=(CC l).take k) (F:=fun v=>Jf pre v 0 l) (m:=l.length) fun v=>Ta pre v l 0
   have h2:((CC l).take k).length=k:=by simp;omega
   rw[h2]at h1;exact h1
  have hkl:k*l.length<=l.length*l.length:=Nat.mul_le_mul_right _ (by omega)
  generalize ((CC l).take k).flatMap (fun v=>Jf pre v 0 l)=B0 at ih hbl
  refine A5.2 ?_
  push_cast[BC hk]
  generalize hv:(CC l).getD k default=v at hm ih
  have inner:DP.L4 (Bw l) (.str pre) (Bf cB 0 4 (B0++Jf pre v 0 (l.take 0))) (.str v) (Bw (CC l)) (.int .i64 (CC l).length) (.int .i64 k) (Bw l) (.int .i64 l.length) (.int .i64 (0:Nat)) 0 [.arr Cc 4 (B0++Jf pre v 0 (l.take 0)).length] (Bo 0 DP.rs fun x H=>x=Bm (Sh l pre)/\H=[]):=by
   refine Ac (n:=l.length) (R:=fun j=>DP.L4 (Bw l) (.str pre) (Bf cB 0 4 (B0++Jf pre v 0 (l.take j))) (.str v) (Bw (CC l)) (.int .i64 (CC l).length) (.int .i64 k) (Bw l) (.int .i64 l.length) (.int .i64 j) 0 [.arr Cc 4 (B0++Jf pre v 0 (l.take j)).length] (Bo 0 DP.rs fun x H=>x=Bm (Sh l pre)/\H=[])) ?_ ?_ 0 (by omega)
   ·intro j hj ih2
    have hjl:=Ta pre v (l.take j) 0
    have hjt:(l.take j).length<=l.length:=by simp;omega
    have htot:(B0++Jf pre v 0 (l.take j)).length<2^40:=by simp only[List.length_append];omega
    rw[bB pre v l 0 j hj]at ih2
    have hD:=bM j (by omega)
    refine A5.2 ?_
    generalize hx:l.getD j default=x at ih2
    by_cases e:x=v
    ·rw[if_pos e,<-List.append_assoc]at ih2
     generalize B0++Jf pre v 0 (l.take j)=B1 at ih2 htot
     push_cast[BC hj,hx,e]
     refine .of hD ?_
     have hcap:pre.length+(Jc j).length<=C7:=by have:=Ww j;unfold C7;omega
     have hob:∀ i,(.own i 4 (B1.map cB++[[V.str v,V.str (pre++Jc j),V.bool true,V.sl 3 []]]):V)=Bf cB i 4 (B1++[⟨v,C6 (pre++Jc (0+j))⟩]):=fun i=>by simp[Bf,cB,C6,cT,iW,bF,Term.name,Term.var]
     push_cast[hcap,hob,Uz htot (show 64<=64 by omega),CD (show j<2^62 by omega)]
     push_cast at ih2
     exact ih2
    ·rw[if_neg e,List.append_nil]at ih2
     push_cast[BC hj,hx,e,CD (show j<2^62 by omega)]
     push_cast at ih2
     exact ih2
   ·refine A5.2 ?_
    push_cast[AZ (Nat.le_refl _),CD (show k<2^62 by omega)]
    rw[List.take_length]
    push_cast at ih
    exact ih
  simp only[List.take_zero,Jf,List.append_nil]at inner
  exact inner
 ·refine A5.2 ?_
  push_cast[AZ (Nat.le_refl _)]
  exact A1 (by push_cast[DP.rs];rw[List.take_length];rfl)
end Go.Dw
