/-
  Contracts and lemmas for ResidualDivides: part i of 10.
-/
import Derived.WalkKit
import Derived.Laws.MathBits
import Derived.Test.YtkdcfkfdkimaeaaGreatDoorVah
import Derived.Test.YtkdcfkfdkimaeaaGreatDoorVad
import Derived.Test.YtkdcfkfdkimaeaaGreatDoorVae
import Derived.Test.YtkdcfkfdkimaeaaGreatDoorVag
import Derived.Test.YtkdcfkfdkimaeaaGreatDoorVaf
set_option linter.unusedVariables false
set_option linter.unusedSimpArgs false
set_option maxRecDepth 100000
namespace Go.Dw
noncomputable def Jw (r:List A2):Int:=if (ES r).2≠0 then (ES r).2 else if (ES r).1 then 0 else 2
theorem UN {r:List A2}(hs:KZ r<2^38):PF Jv [Ak r] (.int .i64 (Jw r)):=by
 have hO:=PU hs
 refine Ab Gj.ok rfl ?_
 unfold Jw
 push_cast
 refine .of hO ?_
 generalize ES r=v
 obtain⟨ok,e⟩:=v
 simp only
 by_cases he:e=0
 ·subst he
  cases ok
  ·push_cast
   exact A1 (by push_cast[Gj.rs])
  ·push_cast
   exact A1 (by push_cast[Gj.rs])
 ·have i1:(e=0)=False:=eq_false he
  push_cast[i1]
  exact A1 (by push_cast[Gj.rs])
theorem SQ {r:List A2}(hs:KZ r<2^38):PF Ic [Ak r] (.int .i64 (Jw r)):=by
 have hO:=TV hs
 refine Ab Fu.ok rfl ?_
 unfold Jw
 push_cast
 refine .of hO ?_
 generalize ES r=v
 obtain⟨ok,e⟩:=v
 simp only
 by_cases he:e=0
 ·subst he
  cases ok
  ·push_cast
   exact A1 (by push_cast[Fu.rs])
  ·push_cast
   exact A1 (by push_cast[Fu.rs])
 ·have i1:(e=0)=False:=eq_false he
  push_cast[i1]
  exact A1 (by push_cast[Fu.rs])
theorem eG {r:List A2}(h:Jw r=0):ES r=(true,0)/\Am r=0:=by
 have h1:ES r=(true,0):=by
  unfold Jw at h
  split at h
  ·rename_i hc;exact absurd h hc
  ·rename_i hc
   split at h
   ·rename_i h2
    have h3:(ES r).2=0:=by simpa using hc
    exact Prod.ext h2 h3
   ·cases h
 refine⟨h1,?_⟩
 unfold ES at h1
 by_cases hc:Am r=0
 ·exact hc
 ·rw[if_pos hc]at h1
  exact absurd (congrArg Prod.fst h1) (by simp)
def Gu (r:List A2)(m:A0):Int:=if (Gt r A2.left m).2≠0 then (Gt r A2.left m).2 else (Gt r A2.right m).2
def LN (r:List A2)(m:A0):Term:=(Gt r A2.left m).1.getD uo
def yh (r:List A2)(m:A0):Term:=if (Gt r A2.left m).2≠0 then LN r m else (Gt r A2.right m).1.getD uo
theorem Oq (o:Option Term)(e:Int):GK o e=.tup [Ap (o.getD uo),.int .i64 e]:=by cases o<;>rfl
theorem OP {r:List A2}{m:A0}(hr:KZ r<2^38)(hm:mb m<2^38):PF Hi [Ak r,Ar m] (.tup [Ap (LN r m),Ap (yh r m),.int .i64 (Gu r m)]):=by
 have h1:=XL r m hr hm
 have h2:=YA r m hr hm
 rw[Oq]at h1 h2
 unfold LN yh Gu
 unfold LN
 generalize Gt r A2.left m=A at *
 generalize Gt r A2.right m=B at *
 obtain⟨o1,e1⟩:=A
 obtain⟨o2,e2⟩:=B
 refine Ab JH.ok rfl ?_
 push_cast
 refine .of h1 ?_
 simp only
 by_cases he:e1=0
 ·subst he
  push_cast
  refine .of h2 ?_
  push_cast
  exact A1 (by push_cast[JH.rs])
 ·have i1:(e1=0)=False:=eq_false he
  push_cast[i1]
  exact A1 (by push_cast[JH.rs])
noncomputable def FL (r:List A2)(a b:A0):Int :=
 if Jw r≠0 then Jw r else if Gu r a≠0 then Gu r a else if Gu r b≠0 then Gu r b else if LN r a=LN r b then 0 else 9
theorem M0 {r:List A2}{m:A0}(h:Gu r m=0):FH r m=0/\LN r m=Af r A2.left m/\yh r m=Af r A2.right m/\BO (Af r A2.left m)=true/\BO (Af r A2.right m)=true:=by
 unfold Gu at h
 split at h
 ·rename_i hc;exact absurd h hc
 ·rename_i hc
  have hc:(Gt r A2.left m).2=0:=by simpa using hc
  obtain⟨a1,a2,a3⟩:=Ua hc
  obtain⟨b1,b2,b3⟩:=Ua h
  refine⟨a1,?_,?_,a2,b2⟩
  ·unfold LN;rw[a3];rfl
  ·unfold yh;rw[if_neg (by simpa using hc),b3];rfl
theorem OO {r:List A2}{a b:A0}(hr:KZ r<2^38)(ha:mb a<2^38)(hb:mb b<2^38):PF Hj [Ak r,Ar a,Ar b] (.int .i64 (FL r a b)):=by
 have h0:=UN hr
 have h1:=OP hr ha
 have h2:=OP hr hb
 have hz:Gu r a=0->size (LN r a)<2^62:=fun h=>by
  obtain⟨_,e,_,f,_⟩:=M0 h
  rw[e]
  unfold BO at f
  simp at f
  omega
 unfold FL
 refine Ab EC.ok rfl ?_
 push_cast
 refine .of h0 ?_
 generalize Jw r=e0
 by_cases c0:e0=0
 ·subst c0
  simp only[ne_eq,not_true_eq_false,if_false]
  push_cast
  refine .of h1 ?_
  by_cases c1:Gu r a=0
  ·have hz:=hz c1
   rw[if_neg (by simpa using c1)]
   push_cast[c1]
   refine .of h2 ?_
   by_cases c2:Gu r b=0
   ·rw[if_neg (by simpa using c2)]
    push_cast[c2]
    refine .of (bq (LN r a) (LN r b) hz) ?_
    by_cases c3:LN r a=LN r b
    ·rw[if_pos c3]
     push_cast[c3]
     exact A1 (by push_cast[EC.rs])
    ·rw[if_neg c3]
     push_cast[c3]
     exact A1 (by push_cast[EC.rs])
   ·rw[if_pos c2]
    have i2:(Gu r b=0)=False:=eq_false c2
    push_cast[i2]
    exact A1 (by push_cast[EC.rs])
  ·rw[if_pos c1]
   have i1:(Gu r a=0)=False:=eq_false c1
   push_cast[i1]
   exact A1 (by push_cast[EC.rs])
 ·rw[if_pos c0]
  have i0:(e0=0)=False:=eq_false c0
  push_cast[i0]
  exact A1 (by push_cast[EC.rs])
theorem NJ {r:List A2}{m:A0}(hr:KZ r<2^28)(hm:mb m<2^28):PF Jp [Ak r,Ar m] (.int .i64 (Gu r m)):=by
 have h1:=SG r m hr hm
 unfold Gu
 refine Ab IJ.ok rfl ?_
 push_cast
 refine .of h1 ?_
 by_cases c1:(Gt r A2.left m).2=0
 ·obtain⟨a1,a2,a3⟩:=Ua c1
  obtain⟨d1,d2,d3,d4⟩:=FC a1
  have h2:=Om r true hr (KP d1) m d2 (by omega) d4
  rw[Oq,<-QI (f:=sd true) a1]at h2
  have e:Gt r (sd true) m=Gt r A2.right m:=rfl
  rw[e]at h2
  rw[if_neg (by simpa using c1)]
  push_cast[c1]
  refine .of h2 ?_
  push_cast
  exact A1 (by push_cast[IJ.rs])
 ·rw[if_pos c1]
  have i1:((Gt r A2.left m).2=0)=False:=eq_false c1
  push_cast[i1]
  exact A1 (by push_cast[IJ.rs])
theorem kS {r:List A2}(hr:KZ r<2^28){m:A0}(h:FH r m=0)(hf:BO (Af r A2.left m)=true):tb (Af r A2.left m)<2^62:=by
 obtain⟨d1,d2,d3,d4⟩:=FC h
 have hc:F2 (Af r A2.left m)=0:=Nk.2 ⟨fg (fun x hx=>(Nk.1 (I9 d1 x hx).1).1) (fun x _=>HW x) m d2,hf⟩
 have:=(C2.of_check hc).tb
 omega
theorem P4 {r:List A2}{a b:A0}(hr:KZ r<2^28)(ha:mb a<2^28)(hb:mb b<2^28):PF Hk [Ak r,Ar a,Ar b] (.int .i64 (FL r a b)):=by
 have h0:=SQ (r:=r) (by omega)
 have h1:=NJ hr ha
 have h2:=NJ hr hb
 unfold FL
 refine Ab Ex.ok rfl ?_
 push_cast
 refine .of h0 ?_
 generalize Jw r=e0
 by_cases c0:e0=0
 ·subst c0
  simp only[ne_eq,not_true_eq_false,if_false]
  have gM0:[cM a,cM b].getD 0 []=cM a:=rfl
  have gM1:[cM a,cM b].getD 1 []=cM b:=rfl
  have hw1:IntKind.i64.wrap 1=1:=rfl
  have hw2:IntKind.i64.wrap 2=2:=rfl
  have ht1:(1:Int).toNat=1:=rfl
  push_cast
  refine A8.2 ?_
  push_cast[gM0]
  refine .of h1 ?_
  by_cases c1:Gu r a=0
  ·rw[if_neg (by simpa using c1)]
   push_cast[c1,hw1]
   refine A8.2 ?_
   push_cast[gM1,ht1]
   refine .of h2 ?_
   by_cases c2:Gu r b=0
   ·rw[if_neg (by simpa using c2)]
    push_cast[c2,hw2]
    refine A8.2 ?_
    obtain⟨a1,a2,_,a3,_⟩:=M0 c1
    obtain⟨b1,b2,_,b3,_⟩:=M0 c2
    obtain⟨d1,d2,d3,d4⟩:=FC a1
    obtain⟨f1,f2,f3,f4⟩:=FC b1
    have t1:=Om r false hr (fun x _=>HW x) a d2 (by omega) d4
    have t2:=Om r false hr (fun x _=>HW x) b f2 (by omega) f4
    rw[Oq,<-QI (f:=sd false) a1]at t1
    rw[Oq,<-QI (f:=sd false) b1]at t2
    have e:∀ m,Gt r (sd false) m=Gt r A2.left m:=fun _=>rfl
    rw[e]at t1 t2
    have g1:(Gt r A2.left a).1.getD uo=LN r a:=rfl
    have g2:(Gt r A2.left b).1.getD uo=LN r b:=rfl
    rw[g1]at t1
    rw[g2]at t2
    have hq:=fF (LN r a) (LN r b) (by rw[a2];exact kS hr a1 a3) (by rw[b2];exact kS hr b1 b3)
    push_cast
    refine .of t1 ?_
    push_cast
    refine .of t2 ?_
    push_cast
    refine .of hq ?_
    by_cases c3:LN r a=LN r b
    ·rw[if_pos c3]
     push_cast[c3]
     exact A1 (by push_cast[Ex.rs])
    ·rw[if_neg c3]
     push_cast[c3]
     exact A1 (by push_cast[Ex.rs])
   ·rw[if_pos c2]
    have i2:(Gu r b=0)=False:=eq_false c2
    push_cast[i2]
    exact A1 (by push_cast[Ex.rs])
  ·rw[if_pos c1]
   have i1:(Gu r a=0)=False:=eq_false c1
   push_cast[i1]
   exact A1 (by push_cast[Ex.rs])
 ·rw[if_pos c0]
  have i0:(e0=0)=False:=eq_false c0
  push_cast[i0]
  exact A1 (by push_cast[Ex.rs])
theorem WA {x:List Int×Term}:∀ (l:List Term)(q:List Int)(i k:Nat),k<l.length->x∈Aq (l.getD k default) (q++[((i+k:Nat):Int)])->x∈B6 l q i
 | [],q,i,k,hk,_=>by simp at hk
 | a::l,q,i,0,_,h=>by simp only[B6,List.mem_append];exact .inl h
 | a::l,q,i,k+1,hk,h=>by
  simp only[B6,List.mem_append]
  exact .inr (WA l q (i+1) k (by simpa using hk) (by rw[show i+1+k=i+(k+1) by omega];exact h))
theorem ZS:∀ (p:List Int)(t x:Term)(q:List Int),Dg t p=some x->(q++p,x)∈Aq t q
 | [],t,x,q,h=>by cases h;rw[GQ,List.append_nil];simp
 | i::p,t,x,q,h=>by
  simp only[Dg]at h
  split at h
  ·rename_i hi
   have ih:=ZS p _ x (q++[i]) h
   rw[GQ]
   refine List.mem_cons_of_mem _ (WA t.args q 0 i.toNat (by omega) ?_)
   rw[show ((0+i.toNat:Nat):Int)=i by omega]
   simpa using ih
  ·cases h
def mt (t:Term):Prop:=∀ v,D8 v t<=1
structure CE (r:List A2):Prop where
 sys:Am r=0
 lin:∀ x∈r,mt x.left
 nov:∀ i j,i<r.length->j<r.length->∀ p y,Dg (r.getD i default).left p=some y->y.var=false->¬ (i=j/\p=[])->∀ f g:EE,app f y≠app g (r.getD j default).left
abbrev Cq:=A9->A0
mutual
def pl (g:Cq):Term->A0
 | .mk n v l=>if v then g n else .mk 0 n false (pls g l)
def pls (g:Cq):List Term->List A0
 | []=>[]
 | a::l=>pl g a::pls g l
end
theorem yt (g:Cq)(l:List Term):pls g l=l.map (pl g):=by induction l with | nil=>rfl | cons a l ih=>simp[pls,ih]
theorem dY (g:Cq)(t:Term):pl g t=if t.var then g t.name else .mk 0 t.name false (t.args.map (pl g)):=by
 cases t with | mk n v l=>simp only[pl,yt,Term.var,Term.name,Term.args];rfl
theorem Ja {g:Cq}{t:Term}(h:t.var=true):pl g t=g t.name:=by rw[dY,if_pos h]
theorem IE {g:Cq}{t:Term}(h:t.var=false):pl g t=.mk 0 t.name false (t.args.map (pl g)):=by rw[dY,if_neg (by simp[h])]
theorem Ni {f g:Cq}(t:Term):(∀ v,Cz v t=true->f v=g v)->pl f t=pl g t:=by
 induction t using Ag with
 | h t ih =>
 intro h
 rw[dY,dY]
 split
 ·rename_i hv;exact h _ (AE.2 (.inl ⟨hv,rfl⟩))
 ·congr 1
  exact List.map_congr_left fun a ha=>ih a ha fun v hv=>h v (AE.2 (.inr ⟨a,ha,hv⟩))
def Wm {α:Type}[Inhabited α](vars:List A9)(xs:List α):A9->α:=fun n=>xs.getD (Mu n vars) default
theorem Nh (vars:List A9)(xs:List A0)(t:Term):Fi vars xs t=pl (Wm vars xs) t:=by
 induction t using Ag with
 | h t ih =>
 rw[Ud,dY]
 split
 ·rfl
 ·congr 1
  exact List.map_congr_left fun a ha=>ih a ha
theorem ZC (vars:List A9)(xs:List Term)(t:Term):CI vars xs t=app (Wm vars xs) t:=by
 induction t using Ag with
 | h t ih =>
 rw[M3,PH]
 split
 ·rfl
 ·congr 1
  exact List.map_congr_left fun a ha=>ih a ha
theorem vQ {α β:Type}[Inhabited α][Inhabited β]{vars:List A9}{xs:List α}{f:α->β}(hl:xs.length=vars.length){n:A9}(hn:n∈vars):Wm vars (xs.map f) n=f (Wm vars xs n):=by
 obtain⟨h1,h2,h3⟩:=Ff hn
 unfold Wm
 simp[List.getD_eq_getElem?_getD,show Mu n vars<xs.length by omega]
theorem SH {α:Type}[Inhabited α]{vars:List A9}(f:A9->α){n:A9}(hn:n∈vars):Wm vars (vars.map f) n=f n:=by
 obtain⟨h1,h2,h3⟩:=Ff hn
 unfold Wm
 rw[List.getD_eq_getElem?_getD,List.getElem?_map,List.getElem?_eq_getElem h2]
 rw[List.getD_eq_getElem?_getD,List.getElem?_eq_getElem h2]at h3
 exact congrArg f h3
theorem xe {α:Type}[Inhabited α]{vars:List A9}(hn:vars.Nodup){xs:List α}{i:Nat}(hi:i<vars.length):Wm vars xs (vars.getD i default)=xs.getD i default:=by
 unfold Wm;rw[dO hn hi]
theorem Wn {α:Type}[Inhabited α]{vars:List A9}{xs:List α}(hl:xs.length=vars.length){n:A9}(hn:n∈vars):Wm vars xs n∈xs:=by
 obtain⟨h1,h2,h3⟩:=Ff hn
 exact A4 (by omega)
theorem bF {r:List A2}{f:A2->Term}{g:Cq}(t:Term):Af r f (pl g t)=app (fun v=>Af r f (g v)) t:=by
 induction t using Ag with
 | h t ih =>
 cases hv:t.var with
 | true=>rw[Ja hv,Aw hv]
 | false =>
  rw[IE hv,Ba hv,De,if_pos (by rfl)]
  simp only[A0.name,A0.var,A0.args,List.map_map]
  congr 1
  exact List.map_congr_left fun a ha=>ih a ha
theorem nC {r:List A2}{f:A2->Term}(hv:∀ x∈r,∀ v,Cz v (f x)=true->v∈AA [x.left]){m:A0}(hm:GY r m)(h0:0<m.rule):Af r f m=app (fun v=>Af r f (Wm (AA [(Au r m).left]) m.args v)) (f (Au r m)):=by
 obtain⟨k1,k2,k3,k4,k5,k6⟩:=hm.rule (by omega)
 rw[De,if_neg (by omega),ZC]
 exact DJ _ fun v h=>vQ k4 (hv _ k3 v h)
theorem xm {f g:EE}(t:Term):app f t=app g t->∀ v,Cz v t=true->vfl t=true->f v=g v:=by
 induction t using Ag with
 | h t ih =>
 intro h v ho ht
 cases hv:t.var with
 | true=>rw[Aw hv,Aw hv]at h;rw[<-(ME ht hv).1 ho];exact h
 | false =>
  rw[Ba hv,Ba hv]at h
  injection h with _ _ h
  obtain⟨a,ha,h1⟩:=(Mn hv).1 ho
  exact ih a ha (List.map_inj_left.1 h a ha) v h1 (BJ ht ha)
theorem WT {v:A9}{t:Term}:Cz v t=true↔0<D8 v t:=by
 have:=TX v t
 cases h:Cz v t with
 | true=>rw[h]at this;simp only[Bool.not_true,decide_eq_false_iff_not]at this;simp;omega
 | false=>rw[h]at this;simp only[Bool.not_false,decide_eq_true_eq]at this;simp[this]
theorem WP {v:A9}{l:List Term}{a:Term}(h:a∈l):D8 v a<=BW v l:=by
 induction l with
 | nil=>cases h
 | cons x l ih =>
  simp only[BW]
  rcases List.mem_cons.1 h with rfl | h
  ·omega
  ·have:=ih h;omega
theorem mt.arg {t a:Term}(h:mt t)(ha:a∈t.args):mt a:=fun v=>by
 have h1:=h v
 rw[Ln]at h1
 have:=WP (v:=v) ha
 omega
theorem GY.rule0 {r:List A2}{m:A0}(hm:GY r m):0<=m.rule/\m.rule<=r.length:=by
 have h1:=GI hm.rg
 unfold C5 at h1
 rw[Bool.and_eq_true,decide_eq_true_eq,decide_eq_true_eq]at h1
 exact h1
theorem xt {t:Term}{i:Nat}(hi:i<t.args.length):Dg t [(i:Int)]=some (t.args.getD i default):=by
 show (if 0<=(i:Int)/\(i:Int)<(t.args.length:Int) then Dg (t.args.getD (i:Int).toNat default) [] else none)=_
 rw[if_pos (by omega),Int.toNat_natCast];rfl
theorem oi {r:List A2}(h:CE r){i:Nat}(hi:i<r.length)(L:Term):∀ (p:List Int)(b:A0)(f:EE),Dg (r.getD i default).left p=some L->GY r b->(p=[]->b.rule=0)->mt L->vfl L=true->Af r A2.left b=app f L ->
  ∃ g:Cq,b=pl g L/\∀ v,Cz v L=true->GY r (g v)/\Af r A2.left (g v)=f v/\As (g v)<=As b:=by
 induction L using Ag with
 | h L ih =>
 intro p b f hp hb hr hl hf hs
 cases hv:L.var with
 | true =>
  refine⟨fun _=>b,by rw[Ja hv],fun v ho=>⟨hb,?_,Nat.le_refl _⟩⟩
  rw[Aw hv]at hs
  rw[hs,(ME hf hv).1 ho]
 | false =>
  have h0:b.rule=0:=by
   rcases Classical.em (b.rule=0)with h0 | h0
   ·exact h0
   ·exfalso
    have hpos:=hb.rule_pos h0
    obtain⟨k1,k2,k3,k4,k5,k6⟩:=hb.rule h0
    rw[nC (fun x _=>HW x) hb hpos]at hs
    exact h.nov i (b.rule-1).toNat hi (by omega) p L hp hv (fun e=>h0 (hr e.2)) _ _ hs.symm
  rw[De,if_pos h0,Ba hv]at hs
  injection hs with e1 e2 e3
  have key:∀ (l:List Term)(bs:List A0),(∀ a∈l,a∈L.args)->(∀ x∈bs,x∈b.args)->(∀ v,BW v l<=1)->bs.map (Af r A2.left)=l.map (app f) ->
    ∃ g:Cq,bs=l.map (pl g)/\∀ v,EQ v l=true->GY r (g v)/\Af r A2.left (g v)=f v/\As (g v)<=As b:=by
   intro l
   induction l with
   | nil =>
    intro bs _ _ _ he
    have:bs=[]:=by simpa using he
    subst this
    exact⟨fun _=>zM,rfl,fun v ho=>by simp[EQ]at ho⟩
   | cons a l ihl =>
    intro bs hal hbl hc he
    cases bs with
    | nil=>simp at he
    | cons x bs =>
     simp only[List.map_cons,List.cons.injEq]at he
     have haL:=hal a (by simp)
     obtain⟨k,hk,hka⟩:=List.getElem_of_mem haL
     have hsub:Dg (r.getD i default).left (p++[(k:Int)])=some a:=by
      rw[ee,hp]
      show Dg L [(k:Int)]=_
      rw[xt hk,List.getD_eq_getElem?_getD,List.getElem?_eq_getElem hk,hka];rfl
     have hxb:=hbl x (by simp)
     have hms:=CL hxb
     have hmb:=AQ b
     obtain⟨g1,h1,h2⟩:=ih a haL (p++[(k:Int)]) x f hsub (hb.arg hxb) (fun e=>by simp at e) (hl.arg haL) (BJ hf haL) he.1
     obtain⟨g2,h3,h4⟩:=ihl bs (fun y hy=>hal y (by simp[hy])) (fun y hy=>hbl y (by simp[hy])) (fun v=>by have:=hc v;simp only[BW]at this;omega) he.2
     refine⟨fun v=>if Cz v a=true then g1 v else g2 v,?_,fun v ho=>?_⟩
     ·rw[List.map_cons]
      congr 1
      ·rw[h1];exact Ni a fun v hv=>(if_pos hv).symm
      ·rw[h3]
       refine List.map_congr_left fun c hc'=>Ni c fun v hv=>?_
       have h5:=hc v
       simp only[BW]at h5
       have h6:=WP (v:=v) hc'
       have h7:=WT.1 hv
       exact (if_neg fun e=>by have:=WT.1 e;omega).symm
     ·by_cases c:Cz v a=true
      ·dsimp only;rw[if_pos c]
       obtain⟨q1,q2,q3⟩:=h2 v c
       exact⟨q1,q2,by omega⟩
      ·dsimp only;rw[if_neg c]
       simp only[EQ,Bool.or_eq_true]at ho
       exact h4 v (ho.resolve_left c)
  obtain⟨g,h1,h2⟩:=key L.args b.args (fun a ha=>ha) (fun x hx=>hx) (fun v=>by have:=hl v;rw[Ln]at this;omega) e3
  refine⟨g,?_,fun v ho=>h2 v ?_⟩
  ·rw[IE hv,<-h1,<-e1,<-e2,<-h0];exact b.eta.symm
  ·rw[UA,hv]at ho;simpa using ho
theorem th {r:List A2}{k:Int}{ms:List A0}(h0:0<=k)(h1:k<r.length)(hl:ms.length=(AA [(r.getD k.toNat default).left]).length)(h:∀ a∈ms,GY r a):GY r (.mk (k+1) [] false ms):=by
 constructor
 ·rw[Hh,Bool.and_eq_true]
  refine⟨?_,List.all_eq_true.2 fun a ha=>(h a ha).rg⟩
  unfold C5
  rw[Bool.and_eq_true,decide_eq_true_eq,decide_eq_true_eq]
  show 0<=k+1/\k+1<=(r.length:Int)
  omega
 ·rw[Hh,Bool.and_eq_true]
  refine⟨?_,List.all_eq_true.2 fun a ha=>(h a ha).fm⟩
  unfold Bn
  have hk:(A0.mk (k+1) [] false ms).rule=k+1:=rfl
  rw[hk,if_pos (by omega)]
  have hru:Au r (.mk (k+1) [] false ms)=r.getD k.toNat default:=by unfold Au;rw[hk,show k+1-1=k by omega]
  rw[hru]
  simp[A0.name,A0.var,A0.args,hl]
theorem fp:∀ (p:List Int)(t y:Term),Dg t p=some y->y.var=true->Cz y.name t=true
 | [],t,y,h,hv=>by cases h;rw[UA,hv];simp
 | i::p,t,y,h,hv=>by
  simp only[Dg]at h
  split at h
  ·rename_i hi
   have h1:=fp p _ y h hv
   rw[UA,gq (A4 (by omega)) h1];simp
  ·cases h
end Go.Dw
section
namespace Go.Dw
def Gk (r:List A2)(k:Nat):Term:=(r.getD k default).left
def YC (r:List A2)(k:Nat):Term:=(r.getD k default).right
def Da (r:List A2)(k:Nat):List A9:=AA [Gk r k]
def ru (r:List A2)(k:Nat)(g:Cq):A0:=.mk ((k:Int)+1) [] false ((Da r k).map g)
def fm (r:List A2)(k:Nat)(b:Bool)(g:Cq):A0:=if b then ru r k g else pl g (Gk r k)
theorem Hp {r:List A2}{k:Nat}{v:A9}:v∈Da r k↔Cz v (Gk r k)=true:=DQ v (Gk r k)
theorem Np (r:List A2)(k:Nat)(g:Cq):Au r (ru r k g)=r.getD k default:=by
 unfold Au ru
 show r.getD ((k:Int)+1-1).toNat default=_
 rw[show (k:Int)+1-1=k by omega,Int.toNat_natCast]
theorem DY (r:List A2)(k:Nat)(g:Cq):(ru r k g).rule=(k:Int)+1:=rfl
theorem CU (r:List A2)(k:Nat)(g:Cq):(ru r k g).args=(Da r k).map g:=rfl
theorem gv {r:List A2}{k:Nat}{f g:Cq}(h:∀ v∈Da r k,f v=g v):ru r k f=ru r k g:=by
 unfold ru
 rw[List.map_congr_left h]
theorem tg {r:List A2}{k:Nat}{b:Bool}{f g:Cq}(h:∀ v∈Da r k,f v=g v):fm r k b f=fm r k b g:=by
 cases b with
 | true=>exact gv h
 | false=>exact Ni _ fun v hv=>h v (Hp.2 hv)
section
variable {r:List A2} (h:CE r)
include h
theorem CE.left {k:Nat}(hk:k<r.length):(Gk r k).var=false/\vfl (Gk r k)=true/\mt (Gk r k)/\Ca (Gk r k)=true/\Ca (YC r k)=true/\vfl (YC r k)=true/\∀ v,Cz v (YC r k)=true->v∈Da r k:=by
 have hm:=A4 (l:=r) hk
 have h1:=I9 h.sys _ hm
 exact⟨XK h.sys _ hm,TR _ (NB h.sys _ hm).1.1,h.lin _ hm,(Nk.1 h1.1).1,(Nk.1 h1.2).1,TR _ (NB h.sys _ hm).2.1,KP h.sys _ hm⟩
omit h in
theorem vG {r:List A2}{n:A9}{ms:List A0}(hn:Cb n true=true)(hl:ms.length<=8)(ha:∀ a∈ms,GY r a):GY r (.mk 0 n false ms):=by
 constructor
 ·rw[Hh,Bool.and_eq_true]
  exact⟨by simp[C5,A0.rule],List.all_eq_true.2 fun a h=>(ha a h).rg⟩
 ·rw[Hh,Bool.and_eq_true]
  exact⟨by simp[Bn,A0.rule,A0.var,A0.name,A0.args,hn,hl],List.all_eq_true.2 fun a h=>(ha a h).fm⟩
omit h in
theorem sY {r:List A2}{g:Cq}(t:Term):Ca t=true->(∀ v,Cz v t=true->GY r (g v))->GY r (pl g t):=by
 induction t using Ag with
 | h t ih =>
 intro ht hg
 obtain⟨h1,h2⟩:=NS.1 ht
 cases hv:t.var with
 | true=>rw[Ja hv];exact hg _ (AE.2 (.inl ⟨hv,rfl⟩))
 | false =>
  rw[hv]at h1
  simp only[Uu,Bool.false_eq_true,if_false,Bool.and_eq_true,decide_eq_true_eq]at h1
  rw[IE hv]
  refine vG h1.2 (by simp;omega) fun c hc=>?_
  obtain⟨a,ha,rfl⟩:=List.mem_map.1 hc
  exact ih a ha (h2 a ha) fun v hv=>hg v (AE.2 (.inr ⟨a,ha,hv⟩))
omit h in
theorem AbT {r:List A2}{k:Nat}(hk:k<r.length){g:Cq}(hg:∀ v∈Da r k,GY r (g v)):GY r (ru r k g):=by
 refine th (by omega) (by omega) ?_ fun a ha=>?_
 ·rw[List.length_map];unfold Da Gk;rw[Int.toNat_natCast]
 ·obtain⟨v,hv,rfl⟩:=List.mem_map.1 ha
  exact hg v hv
theorem CE.ok_fm {k:Nat}(hk:k<r.length){b:Bool}{g:Cq}(hg:∀ v∈Da r k,GY r (g v)):GY r (fm r k b g):=by
 cases b with
 | true=>exact AbT hk hg
 | false=>exact sY _ (h.left hk).2.2.2.1 fun v hv=>hg v (Hp.2 hv)
omit h in
theorem QQ {r:List A2}{F:A2->Term}{k:Nat}{g:Cq}(hv:∀ v,Cz v (F (r.getD k default))=true->v∈Da r k):Af r F (ru r k g)=app (fun v=>Af r F (g v)) (F (r.getD k default)):=by
 rw[De,if_neg (by rw[DY];omega),Np,ZC,CU]
 refine DJ _ fun v ho=>?_
 show Wm (Da r k) _ v=_
 rw[List.map_map,SH _ (hv v ho)];rfl
theorem CE.src_fm {k:Nat}(hk:k<r.length){b:Bool}{g:Cq}:Af r A2.left (fm r k b g)=app (fun v=>Af r A2.left (g v)) (Gk r k):=by
 have hSys:=h.sys
 cases b with
 | true=>exact QQ fun v hv=>Hp.2 hv
 | false=>exact bF _
theorem CE.tgt_fm {k:Nat}(hk:k<r.length){b:Bool}{g:Cq}:Af r A2.right (fm r k b g)=app (fun v=>Af r A2.right (g v)) (if b then YC r k else Gk r k):=by
 cases b with
 | true=>exact QQ (h.left hk).2.2.2.2.2.2
 | false=>exact bF _
omit h in
theorem Wd {r:List A2}{a:A0}(ha:GY r a)(h0:0<a.rule):∃ k,k<r.length/\a.rule=(k:Int)+1/\a=ru r k (Wm (Da r k) a.args)/\a.args.length=(Da r k).length:=by
 obtain⟨k1,k2,k3,k4,k5,k6⟩:=ha.rule (by omega)
 have hvs:Da r (a.rule-1).toNat=AA [(Au r a).left]:=rfl
 refine⟨(a.rule-1).toNat,by omega,by omega,?_,by rw[hvs];exact k4⟩
 have hmap:(Da r (a.rule-1).toNat).map (Wm (Da r (a.rule-1).toNat) a.args)=a.args:=by
  apply List.ext_getElem (by rw[List.length_map,hvs];omega)
  intro i h1 h2
  rw[List.getElem_map]
  have hi:i<(Da r (a.rule-1).toNat).length:=by simpa using h1
  have:=xe (vars:=Da r (a.rule-1).toNat) (KD _) (xs:=a.args) hi
  rw[List.getD_eq_getElem?_getD,List.getElem?_eq_getElem hi,List.getD_eq_getElem?_getD,List.getElem?_eq_getElem h2]at this
  exact this
 unfold ru
 rw[hmap,<-k5,<-k6,show (((a.rule-1).toNat:Nat):Int)+1=a.rule by omega]
 exact a.eta.symm
theorem CE.form {a b:A0}(ha:GY r a)(hb:GY r b){k:Nat}(hk:k<r.length){f:Cq}(hf:a=ru r k f)(hs:Af r A2.left b=Af r A2.left a) :
  ∃ (β:Bool) (g:Cq),b=fm r k β g/\(β=true↔0<b.rule)/\∀ v∈Da r k,GY r (g v)/\Af r A2.left (g v)=Af r A2.left (f v)/\As (g v)<=As b:=by
 have hsa:Af r A2.left a=app (fun v=>Af r A2.left (f v)) (Gk r k):=(congrArg (Af r A2.left) hf).trans (QQ fun v hv=>Hp.2 hv)
 obtain⟨q1,q2,q3,q4,q5,q6⟩:=h.left hk
 by_cases h0:0<b.rule
 ·obtain⟨j,hj,hjr,hbj,hlen⟩:=Wd hb h0
  have hjk:k=j:=by
   rcases Classical.em (k=j)with e | e
   ·exact e
   ·exfalso
    have hsb:Af r A2.left b=app (fun v=>Af r A2.left (Wm (Da r j) b.args v)) (Gk r j):=(congrArg (Af r A2.left) hbj).trans (QQ fun v hv=>Hp.2 hv)
    exact h.nov k j hk hj [] (Gk r k) rfl q1 (fun e2=>e e2.1) _ _ (hsa.symm.trans (hs.symm.trans hsb))
  subst hjk
  refine⟨true,Wm (Da r k) b.args,hbj,by simp[h0],fun v hv=>?_⟩
  have hm:=Wn hlen hv
  refine⟨hb.arg hm,?_,Nat.le_of_lt (by have:=CL hm;have:=AQ b;omega)⟩
  have hsb:Af r A2.left b=app (fun v=>Af r A2.left (Wm (Da r k) b.args v)) (Gk r k):=(congrArg (Af r A2.left) hbj).trans (QQ fun v hv=>Hp.2 hv)
  exact xm (Gk r k) (hsb.symm.trans (hs.trans hsa)) v (Hp.1 hv) q2
 ·have h0':b.rule=0:=by have:=hb.rule0.1;omega
  obtain⟨g,h1,h2⟩:=oi h hk (Gk r k) [] b _ rfl hb (fun _=>h0') q3 q2 (hs.trans hsa)
  exact⟨false,g,h1,by simp[h0],fun v hv=>h2 v (Hp.1 hv)⟩
omit h in
theorem mW {r:List A2}{a b:A0}(ha:a.rule=0)(hb:b.rule=0)(hs:Af r A2.left b=Af r A2.left a):b=.mk 0 a.name a.var b.args/\b.args.map (Af r A2.left)=a.args.map (Af r A2.left):=by
 rw[De,if_pos hb,De,if_pos ha]at hs
 injection hs with e1 e2 e3
 refine⟨?_,e3⟩
 rw[<-e1,<-e2,<-hb];exact b.eta.symm
end
def FG (vars:List A9)(L:Term)(b:A0):List A0:=vars.map fun v=>XQ b ((XJ L v).getD 0 [])
theorem CK (m:A0):0<As m:=by have:=AQ m;omega
theorem Ws:∀ (p:List Int)(m:A0),As (XQ m p)<=As m
 | [],m=>Nat.le_refl _
 | i::p,m=>by
  show As (XQ (m.args.getD i.toNat default) p)<=_
  have h1:=Ws p (m.args.getD i.toNat default)
  by_cases hi:i.toNat<m.args.length
  ·have h2:=CL (A4 hi)
   have h3:=AQ m
   omega
  ·have e:m.args.getD i.toNat default=default:=by simp[List.getD_eq_getElem?_getD,show m.args.length<=i.toNat by omega]
   rw[e]at h1 ⊢
   have e2:As (default:A0)=1:=rfl
   have:=CK m
   omega
theorem jV {g:Cq}:∀ (p:List Int)(L y:Term),vfl L=true->Dg L p=some y->XQ (pl g L) p=pl g y
 | [],L,y,_,h=>by cases h;rfl
 | i::p,L,y,hf,h=>by
  simp only[Dg]at h
  split at h
  ·rename_i hi
   have hv:L.var=false:=by
    cases hv:L.var with
    | false=>rfl
    | true=>rw[(Kx.1 hf).1 hv]at hi;simp at hi;omega
   have hk:i.toNat<L.args.length:=by omega
   rw[IE hv]
   show XQ ((L.args.map (pl g)).getD i.toNat default) p=_
   have e:(L.args.map (pl g)).getD i.toNat default=pl g (L.args.getD i.toNat default):=by simp[List.getD_eq_getElem?_getD,hk]
   rw[e]
   exact jV p _ y (BJ hf (A4 hk)) h
  ·cases h
theorem SP {L:Term}(hf:vfl L=true)(g:Cq):FG (AA [L]) L (pl g L)=(AA [L]).map g:=by
 refine List.map_congr_left fun v hv=>?_
 have hne:XJ L v≠[]:=by rw[sS];exact UQ v _ ((DQ _ _).1 hv)
 generalize hps:XJ L v=ps at hne
 cases ps with
 | nil=>exact absurd rfl hne
 | cons p ps =>
  obtain⟨y,h1,h2,h3⟩:=yu (show p∈XJ L v by rw[hps];simp)
  show XQ _ p=_
  rw[jV p L y hf h1,Ja h2,h3]
def SX (r:List A2):Nat->A0->A0->A0
 | 0,_,_=>zM
 | n+1,a,b =>
  if 0<b.rule then Fi (AA [(Au r b).left]) (List.zipWith (SX r n) (if 0<a.rule then a.args else FG (AA [(Au r b).left]) (Au r b).left a) b.args) (Au r b).right
  else if 0<a.rule then .mk a.rule [] false (List.zipWith (SX r n) a.args (FG (AA [(Au r a).left]) (Au r a).left b))
  else .mk 0 a.name a.var (List.zipWith (SX r n) a.args b.args)
def NL (r:List A2):Nat->A0->A0->A0
 | 0,_,_=>zM
 | n+1,a,b =>
  if 0<b.rule then .mk b.rule [] false (List.zipWith (NL r n) (if 0<a.rule then a.args else FG (AA [(Au r b).left]) (Au r b).left a) b.args)
  else if 0<a.rule then .mk a.rule [] false (List.zipWith (NL r n) a.args (FG (AA [(Au r a).left]) (Au r a).left b))
  else .mk 0 a.name a.var (List.zipWith (NL r n) a.args b.args)
theorem DP {α β γ:Type}{f g:α->β->γ}:∀ {l:List α} {m:List β},(∀ x∈l,∀ y∈m,f x y=g x y)->List.zipWith f l m=List.zipWith g l m
 | [],_,_=>by simp
 | _::_,[],_=>by simp
 | a::l,b::m,h=>by
  simp only[List.zipWith_cons_cons]
  rw[h a (by simp) b (by simp),DP fun x hx y hy=>h x (by simp[hx]) y (by simp[hy])]
theorem IL {α β γ δ:Type}{f:β->γ->δ}{g:α->β}{k:α->γ}(l:List α):List.zipWith f (l.map g) (l.map k)=l.map fun x=>f (g x) (k x):=by
 induction l with
 | nil=>rfl
 | cons a l ih=>simp[ih]
theorem FE {vars:List A9}{L:Term}{a x:A0}(h:x∈FG vars L a):As x<=As a:=by
 obtain⟨v,_,rfl⟩:=List.mem_map.1 h
 exact Ws _ _
theorem Bp {a x:A0}(h:x∈a.args):As x<As a:=by have:=CL h;have:=AQ a;omega
theorem HG (r:List A2):∀ (n m:Nat)(a b:A0),As a+As b<=n->As a+As b<=m->SX r n a b=SX r m a b
 | 0,_,a,b,h,_=>by have:=CK a;omega
 | _+1,0,a,b,_,h=>by have:=CK a;omega
 | n+1,m+1,a,b,h1,h2=>by
  simp only[SX]
  split
  ·congr 1
   refine DP fun x hx y hy=>HG r n m x y ?_ ?_ <;>
   ·have:=Bp hy
    split at hx
    ·have:=Bp hx;omega
    ·have:=FE hx;omega
  ·split
   ·congr 1
    refine DP fun x hx y hy=>HG r n m x y ?_ ?_ <;>
    ·have:=Bp hx
     have:=FE hy;omega
   ·congr 1
    refine DP fun x hx y hy=>HG r n m x y ?_ ?_ <;>
    ·have:=Bp hx
     have:=Bp hy;omega
theorem Gp (r:List A2):∀ (n m:Nat)(a b:A0),As a+As b<=n->As a+As b<=m->NL r n a b=NL r m a b
 | 0,_,a,b,h,_=>by have:=CK a;omega
 | _+1,0,a,b,_,h=>by have:=CK a;omega
 | n+1,m+1,a,b,h1,h2=>by
  simp only[NL]
  split
  ·congr 1
   refine DP fun x hx y hy=>Gp r n m x y ?_ ?_ <;>
   ·have:=Bp hy
    split at hx
    ·have:=Bp hx;omega
    ·have:=FE hx;omega
  ·split
   ·congr 1
    refine DP fun x hx y hy=>Gp r n m x y ?_ ?_ <;>
    ·have:=Bp hx
     have:=FE hy;omega
   ·congr 1
    refine DP fun x hx y hy=>Gp r n m x y ?_ ?_ <;>
    ·have:=Bp hx
     have:=Bp hy;omega
def rest (r:List A2)(a b:A0):A0:=SX r (As a+As b) a b
def Hl (r:List A2)(a b:A0):A0:=NL r (As a+As b) a b
theorem Oh (r:List A2)(a b:A0):rest r a b =
  if 0<b.rule then Fi (AA [(Au r b).left]) (List.zipWith (rest r) (if 0<a.rule then a.args else FG (AA [(Au r b).left]) (Au r b).left a) b.args) (Au r b).right
  else if 0<a.rule then .mk a.rule [] false (List.zipWith (rest r) a.args (FG (AA [(Au r a).left]) (Au r a).left b))
  else .mk 0 a.name a.var (List.zipWith (rest r) a.args b.args):=by
 have e:rest r a b=SX r (As a+As b+1) a b:=HG r _ _ a b (Nat.le_refl _) (by omega)
 rw[e]
 simp only[SX]
 split
 ·congr 1
  refine DP fun x hx y hy=>HG r _ _ x y ?_ (Nat.le_refl _)
  have:=Bp hy
  split at hx
  ·have:=Bp hx;omega
  ·have:=FE hx;omega
 ·split
  ·congr 1
   refine DP fun x hx y hy=>HG r _ _ x y ?_ (Nat.le_refl _)
   have:=Bp hx
   have:=FE hy;omega
  ·congr 1
   refine DP fun x hx y hy=>HG r _ _ x y ?_ (Nat.le_refl _)
   have:=Bp hx
   have:=Bp hy;omega
theorem Pz (r:List A2)(a b:A0):Hl r a b =
  if 0<b.rule then .mk b.rule [] false (List.zipWith (Hl r) (if 0<a.rule then a.args else FG (AA [(Au r b).left]) (Au r b).left a) b.args)
  else if 0<a.rule then .mk a.rule [] false (List.zipWith (Hl r) a.args (FG (AA [(Au r a).left]) (Au r a).left b))
  else .mk 0 a.name a.var (List.zipWith (Hl r) a.args b.args):=by
 have e:Hl r a b=NL r (As a+As b+1) a b:=Gp r _ _ a b (Nat.le_refl _) (by omega)
 rw[e]
 simp only[NL]
 split
 ·congr 1
  refine DP fun x hx y hy=>Gp r _ _ x y ?_ (Nat.le_refl _)
  have:=Bp hy
  split at hx
  ·have:=Bp hx;omega
  ·have:=FE hx;omega
 ·split
  ·congr 1
   refine DP fun x hx y hy=>Gp r _ _ x y ?_ (Nat.le_refl _)
   have:=Bp hx
   have:=FE hy;omega
  ·congr 1
   refine DP fun x hx y hy=>Gp r _ _ x y ?_ (Nat.le_refl _)
   have:=Bp hx
   have:=Bp hy;omega
theorem ma (r:List A2)(n:A9)(v:Bool)(la lb:List A0)(n':A9)(v':Bool):rest r (.mk 0 n v la) (.mk 0 n' v' lb)=.mk 0 n v (List.zipWith (rest r) la lb):=by
 rw[Oh,if_neg (by simp[A0.rule]),if_neg (by simp[A0.rule])];rfl
theorem tU (r:List A2)(n:A9)(v:Bool)(la lb:List A0)(n':A9)(v':Bool):Hl r (.mk 0 n v la) (.mk 0 n' v' lb)=.mk 0 n v (List.zipWith (Hl r) la lb):=by
 rw[Pz,if_neg (by simp[A0.rule]),if_neg (by simp[A0.rule])];rfl
theorem wC (r:List A2)(f g:Cq)(t:Term):rest r (pl f t) (pl g t)=pl (fun v=>rest r (f v) (g v)) t:=by
 induction t using Ag with
 | h t ih =>
 cases hv:t.var with
 | true=>rw[Ja hv,Ja hv,Ja hv]
 | false =>
  rw[IE hv,IE hv,IE hv,ma,IL]
  congr 1
  exact List.map_congr_left fun a ha=>ih a ha
theorem AbJ (r:List A2)(f g:Cq)(t:Term):Hl r (pl f t) (pl g t)=pl (fun v=>Hl r (f v) (g v)) t:=by
 induction t using Ag with
 | h t ih =>
 cases hv:t.var with
 | true=>rw[Ja hv,Ja hv,Ja hv]
 | false =>
  rw[IE hv,IE hv,IE hv,tU,IL]
  congr 1
  exact List.map_congr_left fun a ha=>ih a ha
theorem JQ {g:Cq}{t:Term}(h:t.var=false):(pl g t).rule=0:=by rw[IE h];rfl
theorem Ou {r:List A2}(h:CE r){k:Nat}(hk:k<r.length)(α β:Bool)(f g:Cq):rest r (fm r k α f) (fm r k β g)=if β then pl (fun v=>rest r (f v) (g v)) (YC r k) else fm r k α (fun v=>rest r (f v) (g v)):=by
 obtain⟨q1,q2,q3,q4,q5,q6,q7⟩:=h.left hk
 cases β with
 | true =>
  have hb:fm r k true g=ru r k g:=rfl
  rw[hb,Oh,if_pos (by rw[DY];omega),Np,CU]
  have hx:(if 0<(fm r k α f).rule then (fm r k α f).args else FG (AA [(r.getD k default).left]) (r.getD k default).left (fm r k α f))=(Da r k).map f:=by
   cases α with
   | true=>exact if_pos (by show 0<(ru r k f).rule;rw[DY];omega)
   | false =>
    rw[if_neg (by show ¬ 0<(pl f (Gk r k)).rule;rw[JQ q1];omega)]
    exact SP q2 f
  rw[hx,IL,Nh]
  exact Ni _ fun v hv=>SH _ (q7 v hv)
 | false =>
  cases α with
  | false=>exact wC r f g _
  | true =>
   have ha:fm r k true f=ru r k f:=rfl
   have hb:fm r k false g=pl g (Gk r k):=rfl
   rw[ha,hb,Oh,if_neg (by rw[JQ q1];omega),if_pos (by rw[DY];omega),Np,CU]
   have:FG (AA [(r.getD k default).left]) (r.getD k default).left (pl g (Gk r k))=(Da r k).map g:=SP q2 g
   rw[this,IL];rfl
theorem Xk {r:List A2}(h:CE r){k:Nat}(hk:k<r.length)(α β:Bool)(f g:Cq):Hl r (fm r k α f) (fm r k β g)=fm r k (α||β) (fun v=>Hl r (f v) (g v)):=by
 obtain⟨q1,q2,q3,q4,q5,q6,q7⟩:=h.left hk
 cases β with
 | true =>
  have hb:fm r k true g=ru r k g:=rfl
  rw[hb,Pz,if_pos (by rw[DY];omega),Np,CU,Bool.or_true]
  have hx:(if 0<(fm r k α f).rule then (fm r k α f).args else FG (AA [(r.getD k default).left]) (r.getD k default).left (fm r k α f))=(Da r k).map f:=by
   cases α with
   | true=>exact if_pos (by show 0<(ru r k f).rule;rw[DY];omega)
   | false =>
    rw[if_neg (by show ¬ 0<(pl f (Gk r k)).rule;rw[JQ q1];omega)]
    exact SP q2 f
  rw[hx,IL];rfl
 | false =>
  cases α with
  | false=>exact AbJ r f g _
  | true =>
   have ha:fm r k true f=ru r k f:=rfl
   have hb:fm r k false g=pl g (Gk r k):=rfl
   rw[ha,hb,Pz,if_neg (by rw[JQ q1];omega),if_pos (by rw[DY];omega),Np,CU]
   have:FG (AA [(r.getD k default).left]) (r.getD k default).left (pl g (Gk r k))=(Da r k).map g:=SP q2 g
   rw[this,IL];rfl
end Go.Dw
end
section
namespace Go.Dw
theorem Tj {β:Type}{G:List Fq->β->List Fq×Int}:∀ (l:List β),mV G l->BC G [] l=([],0)->∀ y∈l,G [] y=([],0)
 | [],_,_,y,hy=>by cases hy
 | z::l,hm,h,y,hy=>by
  simp only[BC]at h
  rcases hm [] z (by simp)with h1 | ⟨h1,h2⟩
  ·rw[if_pos (by rw[h1];decide)]at h
   have:=congrArg Prod.snd h
   simp only at this
   rw[h1]at this;cases this
  ·rw[if_neg (by rw[h1];decide)]at h
   have h3:(G [] z).1=[]:=by
    rcases Nx l (G [] z).1 fun o w hw=>hm o w (by simp[hw])with h4 | ⟨h4,h5⟩
    ·rw[h]at h4;cases h4
    ·rw[h]at h5
     exact List.length_eq_zero_iff.1 (by simpa using h5)
   have h4:G [] z=([],0):=Prod.ext h3 h1
   rw[h3]at h
   rcases List.mem_cons.1 hy with rfl | hy
   ·exact h4
   ·exact Tj l (fun o w hw=>hm o w (by simp[hw])) h y hy
theorem wK {r:List A2}(h:(P7 r).2=0)(h0:(P7 r).1.length=0){i j:Nat}(hi:i<r.length)(hj:j<r.length){p:List Int}{y:Term}(hy:(p,y)∈Aq (r.getD i default).left [])(hv:y.var=false)(hne:¬ (i=j/\p=[])) :
  DV (Ch [120] (r.getD i default)) (Ch [121] (r.getD j default)) p (app (Nm [120] (AH [] (r.getD i default).left)) y)=(false,0):=by
 have hS:BC (IM r) [] (List.range r.length)=([],0):=by
  unfold P7 at h h0
  split at h
  ·rename_i hc;exact absurd h hc
  ·rename_i hc
   rw[if_neg hc]at h0
   split at h
   ·cases h
   ·rename_i hc2
    rw[if_neg hc2]at h0
    exact Prod.ext (List.length_eq_zero_iff.1 h0) (by simpa using hc)
 have h1:=Tj _ (Vf r _) hS i (List.mem_range.2 hi)
 have h2:=Tj _ (Qc r i _) h1 (p,y) hy
 have h3:=Tj _ (PV r i p y _) h2 j (List.mem_range.2 hj)
 unfold Hz at h3
 rw[if_neg (by rw[hv];simp only[Bool.false_eq_true,false_or];exact hne)]at h3
 have he:=S3 (Ch [120] (r.getD i default)) (Ch [121] (r.getD j default)) p (app (Nm [120] (AH [] (r.getD i default).left)) y)
 generalize DV (Ch [120] (r.getD i default)) (Ch [121] (r.getD j default)) p (app (Nm [120] (AH [] (r.getD i default).left)) y)=v at h3 he ⊢
 obtain⟨ok,e⟩:=v
 simp only at h3 he
 rcases he with rfl | rfl
 ·cases ok with
  | false=>rfl
  | true=>simp at h3
 ·simp at h3
theorem od {a b:A2}{pos:List Int}{sub:Term}(hs:C2 sub)(hb:C2 b.left){θ:EE}(h:app θ sub=app θ b.left):DV a b pos sub≠(false,0):=by
 obtain⟨_,_,_,_,hm⟩:=ac (Vs:=vs2 sub b.left) (l:=[sub]) (m:=[b.left]) (fun z hz=>by rw[List.mem_singleton.1 hz];exact⟨hs.vf,fun w hw=>KQ.2 (.inl hw)⟩) (fun z hz=>by rw[List.mem_singleton.1 hz];exact⟨hb.vf,fun w hw=>KQ.2 (.inr hw)⟩) rfl
 have h1:=(hm θ (by simp[h])).1
 have h2:(EP sub b.left).2.1=false->(EP sub b.left).2.2=3:=by
  unfold EP K0
  rw[h1]
  simp only[Bool.true_eq_false,if_false]
  split
  ·intro _;rfl
  ·intro hc;cases hc
 intro he
 unfold DV at he
 split at he
 ·rename_i hc
  have:=congrArg Prod.snd he
  simp only at this
  rw[h2 hc]at this;cases this
 ·split at he
  ·cases he
  ·split at he
   ·cases he
   ·cases he
theorem aa {a b:Nat}(ha:a<10)(hb:b<10)(h:UInt8.ofNat (48+a)=UInt8.ofNat (48+b)):a=b:=by
 have:=congrArg UInt8.toNat h
 simp only[UInt8.toNat_ofNat']at this
 omega
theorem pu (n:Nat):IS n≠[]:=by
 unfold IS Lib.decDigits
 split<;>simp
theorem wW:∀ (m n:Nat),IS m=IS n->m=n:=by
 intro m
 induction m using Nat.strongRecOn with
 | ind m ih =>
 intro n h
 have hd:∀ k:Nat,IS k=if k<10 then [UInt8.ofNat (48+k)] else IS (k / 10)++[UInt8.ofNat (48+k % 10)]:=fun k=>by
  unfold IS
  conv=>lhs;unfold Lib.decDigits
  split<;>rfl
 rw[hd m,hd n]at h
 by_cases hm:m<10
 ·rw[if_pos hm]at h
  by_cases hn:n<10
  ·rw[if_pos hn]at h
   injection h with h _
   exact aa hm hn h
  ·rw[if_neg hn]at h
   have:=congrArg List.length h
   simp only[List.length_append,List.length_singleton]at this
   have h2:=List.length_pos_iff.2 (pu (n / 10))
   omega
 ·rw[if_neg hm]at h
  by_cases hn:n<10
  ·rw[if_pos hn]at h
   have:=congrArg List.length h
   simp only[List.length_append,List.length_singleton]at this
   have h2:=List.length_pos_iff.2 (pu (m / 10))
   omega
  ·rw[if_neg hn]at h
   obtain⟨h1,h2⟩:=List.append_inj' h (by simp)
   injection h2 with h2 _
   have e1:=ih (m / 10) (by omega) (n / 10) h1
   have e2:=aa (a:=m % 10) (b:=n % 10) (by omega) (by omega) h2
   omega
theorem eH {l:List A9}{u v:A9}{j:Nat}(h1:ER l u=some j)(h2:ER l v=some j):u=v:=by
 induction l generalizing j with
 | nil=>cases h1
 | cons x l ih =>
  simp only[ER]at h1 h2
  by_cases e1:x=u
  ·rw[if_pos e1]at h1
   cases h1
   by_cases e2:x=v
   ·exact e1.symm.trans e2
   ·rw[if_neg e2]at h2
    cases hq:ER l v with
    | none=>rw[hq]at h2;cases h2
    | some i=>rw[hq]at h2;cases h2
  ·rw[if_neg e1]at h1
   by_cases e2:x=v
   ·rw[if_pos e2]at h2
    cases h2
    cases hq:ER l u with
    | none=>rw[hq]at h1;cases h1
    | some i=>rw[hq]at h1;cases h1
   ·rw[if_neg e2]at h2
    cases hq:ER l u with
    | none=>rw[hq]at h1;cases h1
    | some i =>
     cases hq2:ER l v with
     | none=>rw[hq2]at h2;cases h2
     | some k =>
      rw[hq]at h1
      rw[hq2]at h2
      simp only[Option.map_some,Option.some.injEq]at h1 h2
      have:i=k:=by omega
      subst this
      exact ih hq hq2
def oB (pre:A9)(l:List A9)(v:A9):Option A9:=(ER l v).map fun j=>pre++IS j
theorem bQ {c d:UInt8}{l m:List A9}{u v:A9}{w:A9}(h1:oB [c] l u=some w)(h2:oB [d] m v=some w):c=d/\∃ j,ER l u=some j/\ER m v=some j:=by
 unfold oB at h1 h2
 cases hq:ER l u with
 | none=>rw[hq]at h1;cases h1
 | some i =>
  cases hq2:ER m v with
  | none=>rw[hq2]at h2;cases h2
  | some k =>
   rw[hq]at h1
   rw[hq2]at h2
   simp only[Option.map_some,Option.some.injEq]at h1 h2
   rw[<-h2]at h1
   simp only[List.cons_append,List.nil_append,List.cons.injEq]at h1
   refine⟨h1.1,i,rfl,?_⟩
   rw[wW i k h1.2]
open Classical in
noncomputable def T7 (l m:List A9)(f g:EE):EE:=fun w =>
 if h:∃ u,oB [120] l u=some w then f h.choose else if h:∃ u,oB [121] m u=some w then g h.choose else BZ w
theorem vk {l m:List A9}{f g:EE}{v:A9}(hv:v∈l):app (T7 l m f g) (Nm [120] l v)=f v:=by
 unfold Nm
 cases hq:ER l v with
 | none=>exact absurd hv (Lh.1 hq)
 | some j =>
  have hn:oB [120] l v=some ([120]++IS j):=by unfold oB;rw[hq];rfl
  rw[Aw (t:=BZ ([120]++IS j)) rfl]
  show T7 l m f g ([120]++IS j)=f v
  unfold T7
  have h:∃ u,oB [120] l u=some ([120]++IS j):=⟨v,hn⟩
  rw[dif_pos h]
  obtain⟨_,i,h1,h2⟩:=bQ h.choose_spec hn
  rw[eH h1 h2]
theorem xq {l m:List A9}{f g:EE}{v:A9}(hv:v∈m):app (T7 l m f g) (Nm [121] m v)=g v:=by
 unfold Nm
 cases hq:ER m v with
 | none=>exact absurd hv (Lh.1 hq)
 | some j =>
  have hn:oB [121] m v=some ([121]++IS j):=by unfold oB;rw[hq];rfl
  rw[Aw (t:=BZ ([121]++IS j)) rfl]
  show T7 l m f g ([121]++IS j)=g v
  unfold T7
  have hno:¬ ∃ u,oB [120] l u=some ([121]++IS j):=fun ⟨u,hu⟩=>by
   have:=(bQ hu hn).1
   exact absurd this (by decide)
  have h:∃ u,oB [121] m u=some ([121]++IS j):=⟨v,hn⟩
  rw[dif_neg hno,dif_pos h]
  obtain⟨_,i,h1,h2⟩:=bQ h.choose_spec hn
  rw[eH h1 h2]
theorem Vp {v:A9}:∀ l:List Term,(∀ a∈l,0<D8 v a->Cz v a=true)->0<BW v l->∃ a∈l,Cz v a=true
 | [],_,h=>by simp[BW]at h
 | a::l,hs,h=>by
  simp only[BW]at h
  by_cases ha:0<D8 v a
  ·exact⟨a,by simp,hs a (by simp) ha⟩
  ·obtain⟨b,hb,ho⟩:=Vp l (fun b hb=>hs b (by simp[hb])) (by omega)
   exact⟨b,by simp[hb],ho⟩
theorem iQ {v:A9}(t:Term):0<D8 v t->Cz v t=true:=by
 induction t using Ag with
 | h t ih =>
 intro h
 rw[Ln]at h
 by_cases hc:(t.var&&decide (t.name=v))=true
 ·rw[Bool.and_eq_true,decide_eq_true_eq]at hc
  exact AE.2 (.inl hc)
 ·rw[if_neg hc]at h
  obtain⟨a,ha,ho⟩:=Vp t.args ih (by omega)
  exact AE.2 (.inr ⟨a,ha,ho⟩)
theorem ZD {v:A9}:∀ (p:List Int)(t y:Term),Dg t p=some y->Cz v y=true->Cz v t=true
 | [],t,y,h,ho=>by simp only[Dg,Option.some.injEq]at h;subst h;exact ho
 | i::p,t,y,h,ho=>by
  simp only[Dg]at h
  split at h
  ·rename_i hi
   exact AE.2 (.inr ⟨_,A4 (by omega),ZD p _ y h ho⟩)
  ·cases h
theorem eW {r:List A2}(h:ES r=(true,0)):CE r:=by
 have hsys:Am r=0:=by
  unfold ES at h
  by_cases hc:Am r=0
  ·exact hc
  ·rw[if_pos hc]at h
   exact absurd (congrArg Prod.fst h) (by simp)
 obtain⟨hg,hrl⟩:=HJ hsys
 unfold ES at h
 rw[if_neg (by simpa using hsys)]at h
 obtain⟨s1,s2⟩:=Ru hg
 have ha:(OA r).2=0:=by
  by_cases hc:(OA r).2=0
  ·exact hc
  ·rw[if_pos hc]at h
   exact absurd (congrArg Prod.fst h) (by simp)
 rw[if_neg (by simpa using ha)]at h
 have h:=congrArg Prod.fst h
 simp only[Bool.and_eq_true,decide_eq_true_eq,List.all_eq_true]at h
 obtain⟨h0,hlin⟩:=h
 refine⟨hsys,fun x hx v=>?_,fun i j hi hj p y hy hv hne f g he=>?_⟩
 ·have hb:=hlin x hx
  by_cases hc:D8 v x.left<=1
  ·exact hc
  ·exfalso
   have ho:=iQ x.left (v:=v) (by omega)
   unfold PY at hb
   rw[Bool.not_eq_true']at hb
   rw[List.any_eq_false]at hb
   have:=hb v ((F9 v x.left []).2 (.inr ho))
   simp only[decide_eq_true_eq]at this
   omega
 ·have hxi:=hg _ (A4 hi)
  have hxj:=hg _ (A4 hj)
  have hvis:(p,y)∈Aq (r.getD i default).left []:=by
   have:=ZS p (r.getD i default).left y [] hy
   simpa using this
  have hno:=wK (s1▸ha) (by rw[<-s2 ha];exact h0) hi hj hvis hv hne
  have hsub:=lq hxi hy
  have hgi:=KW (pre:=[120]) rfl hxi
  have hgj:=KW (pre:=[121]) rfl hxj
  refine od (a:=Ch [120] (r.getD i default)) (b:=Ch [121] (r.getD j default)) (pos:=p) (C2.sub p hgi.l hsub) hgj.l (θ:=T7 (AH [] (r.getD i default).left) (AH [] (r.getD j default).left) f g) ?_ hno
  have e1:app (T7 (AH [] (r.getD i default).left) (AH [] (r.getD j default).left) f g) (app (Nm [120] (AH [] (r.getD i default).left)) y)=app f y:=by
   rw[OH]
   refine DJ y fun v hvo=>vk ?_
   exact (Hq (r.getD i default).left []).2 hxi.l.vf v (ZD p _ y hy hvo)
  have e2:app (T7 (AH [] (r.getD i default).left) (AH [] (r.getD j default).left) f g) (Ch [121] (r.getD j default)).left=app g (r.getD j default).left:=by
   show app _ (app (Nm [121] (AH [] (r.getD j default).left)) (r.getD j default).left)=_
   rw[OH]
   exact DJ _ fun v hvo=>xq ((Hq (r.getD j default).left []).2 hxj.l.vf v hvo)
  rw[e1,e2,he]
end Go.Dw
end
namespace Go.Dw
theorem xO {n k:Nat}{Z:List A0}(hk:k<n)(hZ:n<=Z.length):(Z.take k++List.replicate (n-k) zM).set k (Z.getD k default)=Z.take (k+1)++List.replicate (n-(k+1)) zM:=by
 have h1:(Z.take k).length=k:=by simp;omega
 rw[List.set_append,if_neg (by omega),h1,Nat.sub_self]
 obtain⟨m,hm⟩:∃ m,n-k=m+1:=⟨n-k-1,by omega⟩
 have h2:n-(k+1)=m:=by omega
 rw[hm,h2,List.replicate_succ,List.set_cons_zero,Aa (by omega),List.append_assoc];rfl
theorem Gq {F:A0->A0->A0}{g:Nat}{caps:List V}(hc:∀ σ,AR σ caps=caps)(a b:List A0)(hla:a.length<=b.length)(hl:a.length<2^38)(h:∀ k,k<a.length->PF g (Ar (a.getD k default)::Ar (b.getD k default)::caps) (Ar (F (a.getD k default) (b.getD k default)))) :
  PF I3 [CB a,CB b,.fn (.func g) [] caps] (CB (List.zipWith F a b)):=by
 have hz:∀ τ,List.map (AR τ) (List.replicate a.length [V.int IntKind.i64 0,V.str [],V.bool false,V.sl 4 []])=(List.replicate a.length zM).map cM:=fun τ=>by
  rw[List.map_replicate,List.map_replicate];rfl
 have hz0:List.replicate a.length [V.int IntKind.i64 0,V.str [],V.bool false,V.sl 4 []]=(List.replicate a.length zM).map cM:=by rw[List.map_replicate];rfl
 have m1:a.length<=Ah:=by unfold Ah;omega
 have m2:a.length*56<=Ah:=by unfold Ah;omega
 have hZl:(List.zipWith F a b).length=a.length:=by rw[List.length_zipWith];omega
 refine Ab I7.ok rfl ?_
 push_cast[hc,hz,hz0,m1,m2,Ce]
 refine Ad (n:=a.length) (R:=fun k=>I7.L3 (CB a) (CB b) (.fn (.func g) [] caps) (.rw 0 4 a.length) (.int .i64 a.length) (.int .i64 k) 0 [.row A7 4 (((List.zipWith F a b).take k++List.replicate (a.length-k) zM).map cM)] (Bx 0 I7.rs fun x' H'=>x'=CB (List.zipWith F a b)/\H'=[])) ?_ ?_ 0 (by omega)
 ·intro k hk ih
  have hkb:k<b.length:=by omega
  have hcall:=h k hk
  have hge:(List.zipWith F a b).getD k default=F (a.getD k default) (b.getD k default):=by
   have e1:(List.zipWith F a b)[k]?=some (F (a.getD k default) (b.getD k default)):=by
    have ea:a[k]?=some (a.getD k default):=by simp[List.getD_eq_getElem?_getD,hk]
    have eb:b[k]?=some (b.getD k default):=by simp[List.getD_eq_getElem?_getD,hkb]
    rw[List.getElem?_zipWith,ea,eb]
   rw[List.getD_eq_getElem?_getD,e1];rfl
  have hset:=xO (n:=a.length) (k:=k) (Z:=List.zipWith F a b) hk (by omega)
  rw[<-hset,hge]at ih
  have hlen:((List.zipWith F a b).take k++List.replicate (a.length-k) zM).length=a.length:=by simp;omega
  generalize (List.zipWith F a b).take k++List.replicate (a.length-k) zM=L at ih hlen
  generalize F (a.getD k default) (b.getD k default)=y at hcall ih
  have hset2:(L.map cM).set k (put 0 (cM y) ((L.map cM).getD k []))=(L.set k y).map cM:=by
   have e:(L.map cM).getD k []=cM (L.getD k default):=by simp[List.getD_eq_getElem?_getD,hlen,hk]
   rw[e,List.map_set];rfl
  have hg1:(L.map cM)[k]?=some (cM (L.getD k default)):=by simp[List.getD_eq_getElem?_getD,hlen,hk]
  refine A8.2 ?_
  push_cast[BT hk,BT hkb,hc]
  refine .of hcall ?_
  push_cast[hset2,hg1,hc,Ce,List.length_map,hlen,BT hk,CV (show k<2^62 by omega)]
  push_cast at ih
  first | exact ih | exact⟨by omega,ih⟩
 ·refine A8.2 ?_
  have hfin:((List.zipWith F a b).take a.length++List.replicate (a.length-a.length) zM)=List.zipWith F a b:=by
   rw[List.take_of_length_le (by omega),Nat.sub_self,List.replicate_zero,List.append_nil]
  rw[hfin]
  push_cast[B8 (Nat.le_refl _),List.length_map,hZl,Ce]
  exact A1 (by push_cast[I7.rs,Ce];rfl)
def tF (n:Nat)(out:List A0):List Ob:=[.dead,.row A7 4 (out.map cM),.cells QC [.rw 1 4 n]]
theorem ub (n:Nat)(out:List A0):IU 3 (tF n out):=⟨rfl,by
 show [A5 (AM 3) .dead,A5 (AM 3) (.row A7 4 (out.map cM)),A5 (AM 3) (.cells QC [.rw 1 4 n])]=_
 have h3:AM 3 1=some 1:=rfl
 push_cast[h3,Ce,List.map_map];rfl⟩
theorem jZ (n:Nat)(out:List A0)(J:List Ob):cut 3 (tF n out++J)=tF n out:=by
 show [A5 (AM 4) .dead,A5 (AM 4) (.row A7 4 (out.map cM)),A5 (AM 4) (.cells QC [.rw 1 4 n])]=_
 have h3:AM 4 1=some 1:=rfl
 push_cast[h3,Ce];rfl
def tc (L:Term)(g:Cq)(vars:List A9)(j:Nat)(out:List A0):Prop :=
 out.length=vars.length/\∀ k,k<vars.length->(∃ x∈(Aq L []).take j,x.2.var=true/\x.2.name=vars.getD k default)->out.getD k default=g (vars.getD k default)
theorem sX {L:Term}{g:Cq}{vars:List A9}{j:Nat}{out:List A0}(h:tc L g vars j out)(hj:j<(Aq L []).length)(hv:((Aq L []).getD j default).2.var=false):tc L g vars (j+1) out:=by
 refine⟨h.1,fun k hk hx=>h.2 k hk ?_⟩
 obtain⟨x,hx,h1,h2⟩:=hx
 rw[Aa hj,List.mem_append,List.mem_singleton]at hx
 rcases hx with hx | rfl
 ·exact⟨x,hx,h1,h2⟩
 ·rw[hv]at h1;cases h1
theorem oT {L:Term}{g:Cq}{vars:List A9}{j:Nat}{out:List A0}(hnd:vars.Nodup)(h:tc L g vars j out)(hj:j<(Aq L []).length){x:List Int×Term}(hx0:(Aq L []).getD j default=x){i:Nat}(hi:i<vars.length)(hn:vars.getD i default=x.2.name):tc L g vars (j+1) (out.set i (g x.2.name)):=by
 refine⟨by rw[List.length_set,h.1],fun k hk hx=>?_⟩
 obtain⟨y,hy,h1,h2⟩:=hx
 by_cases hik:i=k
 ·subst hik
  rw[hn]
  simp[List.getD_eq_getElem?_getD,h.1,hi]
 ·have e:(out.set i (g x.2.name)).getD k default=out.getD k default:=by simp[List.getD_eq_getElem?_getD,hik]
  rw[e]
  refine h.2 k hk ?_
  rw[Aa hj,List.mem_append,List.mem_singleton]at hy
  rcases hy with hy | rfl
  ·exact⟨y,hy,h1,h2⟩
  ·exact absurd (by
    have e1:vars[i]?=vars[k]?:=by
     rw[hx0]at h2
     have a1:vars[i]?=some (vars.getD i default):=by simp[List.getD_eq_getElem?_getD,hi]
     have a2:vars[k]?=some (vars.getD k default):=by simp[List.getD_eq_getElem?_getD,hk]
     rw[a1,a2,hn,h2]
    exact (List.getElem?_inj hi hnd).1 e1) hik
theorem uM {y z:Term}{i:Int}{p:List Int}(hf:vfl y=true)(h:Dg y (i::p)=some z):y.var=false/\0<=i/\i.toNat<y.args.length/\Dg (y.args.getD i.toNat default) p=some z:=by
 simp only[Dg]at h
 split at h
 ·rename_i hi
  have hv:y.var=false:=by
   cases hv:y.var with
   | false=>rfl
   | true=>rw[(Kx.1 hf).1 hv]at hi;simp at hi;omega
  exact⟨hv,by omega,by omega,h⟩
 ·cases h
theorem jH {vars:List A9}{g:Cq}{x:List Int×Term}(O:Ob)(hO:A5 (AM 6) O=O)(out:List A0)(hol:out.length=vars.length)(hvl:vars.length<2^38)(y0:Term)(hy0:vfl y0=true)(hsub:Dg y0 x.1=some x.2)(hv:x.2.var=true)(hm:x.2.name∈vars)(hpl:x.1.length<2^38)(Q:X->T->List Ob->Prop)
  (hq:∀ T J,Q .fall T (tF vars.length (out.set (Mu x.2.name vars) (g x.2.name))++O::J)) :
  Ga.L3 (.ro [Bo vars] 0) (.ptr 2 0) (.ro (cT x.2) 0) (.ptr 5 0) (Ht x.1) (.int .i64 x.1.length) (.int .i64 0) 4 (tF vars.length out++[O,.dead,.cells A7 (cM (pl g y0))]) Q:=by
 refine Ad (n:=x.1.length) (R:=fun k=>∀ y,vfl y=true->Dg y (x.1.drop k)=some x.2->Ga.L3 (.ro [Bo vars] 0) (.ptr 2 0) (.ro (cT x.2) 0) (.ptr 5 0) (Ht x.1) (.int .i64 x.1.length) (.int .i64 k) 4 (tF vars.length out++[O,.dead,.cells A7 (cM (pl g y))]) Q) ?_ ?_ 0 (Nat.zero_le _) y0 hy0 (by rw[List.drop_zero];exact hsub)
 ·intro k hk ih y hy hs
  rw[Al hk]at hs
  obtain⟨h1,h2,h3,h4⟩:=uM hy hs
  have ih:=ih _ (BJ hy (A4 h3)) h4
  simp only[tF,List.cons_append,List.nil_append]at ih ⊢
  refine A8.2 ?_
  have e:((y.args.map (pl g)).getD (x.1.getD k default).toNat default)=pl g (y.args.getD (x.1.getD k default).toNat default):=by
   generalize (x.1.getD k default).toNat=i at h3
   simp[List.getD_eq_getElem?_getD,h3]
  have e2:(A0.mk 0 y.name false (y.args.map (pl g))).args=y.args.map (pl g):=rfl
  push_cast[BT hk,IE h1,hO,Ce,e2,e,List.length_map,CV (show k<2^62 by omega)]
  exact⟨⟨by omega,by omega⟩,ih⟩
 ·intro y hy hs
  rw[List.drop_length]at hs
  have hs:y=x.2:=by simpa[Dg]using hs
  subst hs
  have hix:=Fo vars x.2.name (by omega)
  obtain⟨i1,i2,i3⟩:=Ff hm
  rw[i1]at hix
  simp only[tF,List.cons_append,List.nil_append]
  refine A8.2 ?_
  push_cast[B8 (Nat.le_refl _),hO]
  refine .of hix ?_
  have hset:(out.map cM).set (Mu x.2.name vars) (put 0 (cM (g x.2.name)) ((out.map cM).getD (Mu x.2.name vars) []))=(out.set (Mu x.2.name vars) (g x.2.name)).map cM:=by
   have e:(out.map cM).getD (Mu x.2.name vars) []=cM (out.getD (Mu x.2.name vars) default):=by simp[List.getD_eq_getElem?_getD,hol,i2]
   rw[e,List.map_set];rfl
  push_cast[hO,Ja hv,hset,Ce,List.length_map,hol]
  exact⟨by omega,i2,hq _ [_,_]⟩
theorem Uq {L:Term}(hL:vfl L=true)(hs:size L<2^38)(g:Cq):PF J9 [Ap L,Ar (pl g L)] (CB ((AA [L]).map g)):=by
 have hvs:=Ew [L] (by simp only[Ac];omega)
 have hw:=Mp L
 have hvl:(AA [L]).length<2^38:=by have:=Fk [L];simp only[Ac]at this;omega
 have hnd:=KD L
 generalize hvars:AA [L]=vars at hvs hvl hnd
 have hz:∀ τ,List.map (AR τ) (List.replicate vars.length [V.int IntKind.i64 0,V.str [],V.bool false,V.sl 4 []])=(List.replicate vars.length zM).map cM:=fun τ=>by
  rw[List.map_replicate,List.map_replicate];rfl
 have hz0:List.replicate vars.length [V.int IntKind.i64 0,V.str [],V.bool false,V.sl 4 []]=(List.replicate vars.length zM).map cM:=by rw[List.map_replicate];rfl
 have m1:vars.length<=Ah:=by unfold Ah;omega
 have m2:vars.length*56<=Ah:=by unfold Ah;omega
 refine Ab Ga.ok rfl ?_
 push_cast
 refine .of hvs ?_
 push_cast[hz,hz0,m1,m2,Ce]
 refine .of hw ?_
 push_cast[hz,hz0,Ce]
 refine AB.rf Dd [] [.ro (cT L) 0] ((Aq L []).map Kn) (fun j H1=>∃ out,H1=tF vars.length out/\tc L g vars j out) (fun _ _=>False) rfl (Ib L (by omega)) ?_ ⟨List.replicate vars.length zM,rfl,by simp,fun k hk hx=>by simp at hx⟩ ?_ ?_ ?_ ?_ ?_ ?_
 ·intro it hit
  obtain⟨x,_,rfl⟩:=List.mem_map.1 hit
  rfl
 ·push_cast
 ·rintro j H1 ⟨out,rfl,_⟩
  exact ub _ out
 ·rintro e H1 h
  exact h.elim
 ·rintro lo rr j it H1 hit ⟨out,rfl,hI⟩
  rw[List.getElem?_map]at hit
  cases hx:(Aq L [])[j]? with
  | none=>rw[hx]at hit;cases hit
  | some x =>
  rw[hx]at hit
  have hit:it=Kn x:=by simpa using hit.symm
  subst hit
  have hj:j<(Aq L []).length:=(List.getElem?_eq_some_iff.1 hx).1
  have hxj:(Aq L []).getD j default=x:=by rw[List.getD_eq_getElem?_getD,hx];rfl
  have hxm:x∈Aq L []:=hxj▸A4 hj
  push_cast[Q4,Kn,tF]
  refine A8.2 ?_
  cases hv:x.2.var with
  | false =>
   push_cast[hv]
   refine⟨rfl,out,jZ _ out _,sX hI hj (by rw[hxj];exact hv)⟩
  | true =>
   push_cast[hv]
   have hv1:=Pl L [] x hxm
   obtain⟨p,hp,h2⟩:=hv1
   rw[List.nil_append]at hp
   rw[<-hp]at h2
   have h3:=(QE L [] x hxm).2
   have hm:x.2.name∈vars:=by
    rw[<-hvars,DQ]
    exact fp _ _ _ h2 hv
   obtain⟨i1,i2,i3⟩:=Ff hm
   rw[Ce]
   refine jH (vars:=vars) (g:=g) (x:=x) (.lp lo .busy rr _) ?_ out hI.1 hvl L hL h2 hv hm (by simp only[List.length_nil]at h3;omega) _ ?_
   ·push_cast
   ·intro T J
    exact⟨rfl,_,jZ _ _ (_::J),oT hnd hI hj hxj i2 i3⟩
 ·rintro H1 ⟨out,rfl,hI⟩
  have hout:out=vars.map g:=by
   refine List.ext_getElem? fun k=>?_
   by_cases hk:k<vars.length
   ·have e:=hI.2 k hk (by
     rw[List.length_map,List.take_length]
     have hm:vars.getD k default∈AA [L]:=by rw[hvars];exact A4 hk
     have hne:XJ L (vars.getD k default)≠[]:=by rw[sS];exact UQ _ _ ((DQ _ _).1 hm)
     unfold XJ VJ at hne
     obtain⟨x,hx⟩:=List.exists_mem_of_ne_nil _ (fun h=>hne (by rw[h];rfl):((Aq L []).filter (isV (vars.getD k default)))≠[])
     obtain⟨h1,h2⟩:=List.mem_filter.1 hx
     simp only[isV,Bool.and_eq_true,decide_eq_true_eq]at h2
     exact⟨x,h1,by first | exact h2 | exact⟨h2.1,h2.2.symm⟩⟩)
    have e1:out[k]?=some (out.getD k default):=by simp[List.getD_eq_getElem?_getD,hI.1,hk]
    have e2:(vars.map g)[k]?=some (g (vars.getD k default)):=by simp[List.getD_eq_getElem?_getD,hk]
    rw[e1,e2,e]
   ·rw[List.getElem?_eq_none (by have:=hI.1;omega),List.getElem?_eq_none (by rw[List.length_map];omega)]
  subst hout
  push_cast[tF,Ce]
  refine⟨by rw[List.length_map,List.length_map],A1 ?_⟩
  push_cast[Ga.rs,Ce]
  rfl
 ·rintro e H1 h
  exact h.elim
theorem No (r:List A2)(m:A0)(hm:m.rule=0):PF Fb [Ar m,.ro [.int .i64 0] 0,.ro [Ak r] 0] (CB m.args):=by
 refine Ab DN.ok rfl ?_
 push_cast[hm]
 refine A1 ?_
 push_cast[DN.rs]
theorem NE {r:List A2}{k:Nat}(hk:k<r.length)(hkl:k<2^40)(hv:(Gk r k).var=false)(hf:vfl (Gk r k)=true)(hs:size (Gk r k)<2^38)(β:Bool)(g:Cq):PF Fb [Ar (fm r k β g),.ro [.int .i64 (k+1)] 0,.ro [Ak r] 0] (CB ((Da r k).map g)):=by
 refine Ab DN.ok rfl ?_
 cases β with
 | true =>
  have e:fm r k true g=ru r k g:=rfl
  have h1:(0:Int)<k+1:=by omega
  push_cast[e,DY,CU,h1]
  refine A1 ?_
  push_cast[DN.rs]
 | false =>
  have e:fm r k false g=pl g (Gk r k):=rfl
  have hu:=Uq hf hs g
  have h0:(pl g (Gk r k)).rule=0:=JQ hv
  have h1:((k:Int)+1=0)=False:=by simp;omega
  have hw:IntKind.i64.wrap ((k:Int)+1-1)=k:=by
   rw[Int.add_sub_cancel];exact Bs (by omega) (by omega)
  push_cast[e,h0,h1,hw]
  refine⟨by omega,.of hu ?_⟩
  push_cast
  refine A1 ?_
  push_cast[DN.rs]
  rfl
theorem LO (r:List A2)(a b:A0)(ha:a.rule=0)(hb:b.rule=0):PF EM [Ak r,Ar a,Ar b] (.tup [.int .i64 0,CB a.args,CB b.args]):=by
 refine Ab FX.ok rfl ?_
 push_cast[ha,hb]
 refine .of (No r a ha) ?_
 push_cast
 refine .of (No r b hb) ?_
 push_cast
 refine A1 ?_
 push_cast[FX.rs]
theorem HA {r:List A2}{k:Nat}(hk:k<r.length)(hkl:k<2^40)(hv:(Gk r k).var=false)(hf:vfl (Gk r k)=true)(hs:size (Gk r k)<2^38)(β γ:Bool)(f g:Cq)(hβ:β=true\/γ=true):PF EM [Ak r,Ar (fm r k β f),Ar (fm r k γ g)] (.tup [.int .i64 (k+1),CB ((Da r k).map f),CB ((Da r k).map g)]):=by
 have c1:=NE hk hkl hv hf hs β f
 have c2:=NE hk hkl hv hf hs γ g
 have hr:∀ (δ:Bool)(f:Cq),(fm r k δ f).rule=if δ then (k:Int)+1 else 0:=fun δ f=>by
  cases δ with
  | true=>rfl
  | false=>exact JQ hv
 have hm:(if (fm r k β f).rule<(fm r k γ g).rule then (fm r k γ g).rule else (fm r k β f).rule)=(k:Int)+1:=by
  rw[hr,hr]
  rcases hβ with rfl | rfl
  ·cases γ<;>simp<;>omega
  ·cases β<;>simp<;>omega
 refine Ab FX.ok rfl ?_
 push_cast[hm]
 refine .of c1 ?_
 push_cast
 refine .of c2 ?_
 push_cast
 refine A1 ?_
 push_cast[FX.rs]
theorem Im {r:List A2}{a b y:A0}(h:PF Bq [Ak r,Ar a,Ar b] (Ar y)):PF Dm [Ar a,Ar b,.ro [Ak r] 0] (Ar y):=by
 refine Ab Kg.ok rfl ?_
 push_cast
 refine .of h ?_
 push_cast
 refine A1 ?_
 push_cast[Kg.rs]
theorem VX {r:List A2}{a b:A0}(ha:a.rule=0)(hb:b.rule=0)(hl:a.args.length<=b.args.length)(hl2:a.args.length<2^38)(F:A0->A0->A0)
  (hF:∀ k,k<a.args.length->PF Bq [Ak r,Ar (a.args.getD k default),Ar (b.args.getD k default)] (Ar (F (a.args.getD k default) (b.args.getD k default)))) :
  PF Bq [Ak r,Ar a,Ar b] (Ar (.mk 0 a.name a.var (List.zipWith F a.args b.args))):=by
 have hz:=Gq (F:=F) (g:=Dm) (caps:=[.ro [Ak r] 0]) (fun σ=>by push_cast) a.args b.args hl hl2 (fun k hk=>Im (hF k hk))
 refine Ab Ev.ok rfl ?_
 push_cast
 refine .of (LO r a b ha hb) ?_
 push_cast
 refine .of hz ?_
 push_cast
 refine A1 ?_
 push_cast[Ev.rs]
 first | rfl | (rw[Ar,Tm];rfl) | (simp only[Ar,cM];rfl)
theorem VR {r:List A2}{k:Nat}(hk:k<r.length)(hkl:k<2^40)(hv:(Gk r k).var=false)(hf:vfl (Gk r k)=true)(hs:size (Gk r k)<2^38)(f g:Cq)(F:A0->A0->A0)
  (hF:∀ v,v∈Da r k->PF Bq [Ak r,Ar (f v),Ar (g v)] (Ar (F (f v) (g v)))) :
  PF Bq [Ak r,Ar (fm r k true f),Ar (fm r k false g)] (Ar (.mk (k+1) [] false (List.zipWith F ((Da r k).map f) ((Da r k).map g)))):=by
 have hvl:(Da r k).length<2^38:=by have:=Fk [Gk r k];simp only[Ac]at this;unfold Da;omega
 have hz:=Gq (F:=F) (g:=Dm) (caps:=[.ro [Ak r] 0]) (fun σ=>by push_cast) ((Da r k).map f) ((Da r k).map g) (by simp) (by simpa using hvl) (fun j hj=>by
  rw[List.length_map]at hj
  have e:∀ f:Cq,((Da r k).map f).getD j default=f ((Da r k).getD j default):=fun f=>by simp[List.getD_eq_getElem?_getD,hj]
  rw[e,e]
  exact Im (hF _ (A4 hj)))
 refine Ab Ev.ok rfl ?_
 push_cast
 refine .of (HA hk hkl hv hf hs true false f g (.inl rfl)) ?_
 push_cast
 refine .of hz ?_
 have e0:(fm r k false g).rule=0:=JQ hv
 have h1:((k:Int)+1=0)=False:=by simp;omega
 push_cast[e0,h1]
 refine A1 ?_
 push_cast[Ev.rs]
 first | rfl | (rw[Ar,Tm];rfl) | (simp only[Ar,cM];rfl)
theorem VK {r:List A2}{k:Nat}(hk:k<r.length)(hkl:k<2^40)(hv:(Gk r k).var=false)(hf:vfl (Gk r k)=true)(hs:size (Gk r k)<2^38)(hs2:size (YC r k)<2^40)(ho:∀ v,Cz v (YC r k)=true->v∈Da r k)(β:Bool)(f g:Cq)(F:A0->A0->A0)
  (hF:∀ v,v∈Da r k->PF Bq [Ak r,Ar (f v),Ar (g v)] (Ar (F (f v) (g v)))) :
  PF Bq [Ak r,Ar (fm r k β f),Ar (fm r k true g)] (Ar (Fi (Da r k) (List.zipWith F ((Da r k).map f) ((Da r k).map g)) (YC r k))):=by
 have hvl:(Da r k).length<2^38:=by have:=Fk [Gk r k];simp only[Ac]at this;unfold Da;omega
 have hz:=Gq (F:=F) (g:=Dm) (caps:=[.ro [Ak r] 0]) (fun σ=>by push_cast) ((Da r k).map f) ((Da r k).map g) (by simp) (by simpa using hvl) (fun j hj=>by
  rw[List.length_map]at hj
  have e:∀ f:Cq,((Da r k).map f).getD j default=f ((Da r k).getD j default):=fun f=>by simp[List.getD_eq_getElem?_getD,hj]
  rw[e,e]
  exact Im (hF _ (A4 hj)))
 have hvs:=Ew [Gk r k] (by simp only[Ac];omega)
 have hp:=cu (Da r k) (List.zipWith F ((Da r k).map f) ((Da r k).map g)) (by simp) (by omega) (YC r k) hs2 ho
 refine Ab Ev.ok rfl ?_
 push_cast
 refine .of (HA hk hkl hv hf hs β true f g (.inr rfl)) ?_
 push_cast
 refine .of hz ?_
 have e0:(fm r k true g).rule=(k:Int)+1:=rfl
 have h1:((k:Int)+1=0)=False:=by simp;omega
 have hw:IntKind.i64.wrap ((k:Int)+1-1)=k:=by
  rw[Int.add_sub_cancel];exact Bs (by omega) (by omega)
 push_cast[e0,h1,hw]
 refine⟨by omega,by omega,.of hvs ?_⟩
 push_cast
 refine .of hp ?_
 push_cast
 refine A1 ?_
 push_cast[Ev.rs]
end Go.Dw
section
namespace Go.Dw
section
variable {r:List A2} (h:CE r)
include h
theorem CE.shapes {a b:A0}(ha:GY r a)(hb:GY r b)(hs:Af r A2.left b=Af r A2.left a) :
  (a.rule=0/\b.rule=0/\b=.mk 0 a.name a.var b.args/\b.args.map (Af r A2.left)=a.args.map (Af r A2.left)) \/
  ∃ (k:Nat) (α β:Bool) (f g:Cq),k<r.length/\a=fm r k α f/\b=fm r k β g/\(α=true\/β=true)/\∀ v∈Da r k,GY r (f v)/\GY r (g v)/\Af r A2.left (g v)=Af r A2.left (f v)/\As (f v)+As (g v)<As a+As b:=by
 by_cases h0:0<a.rule
 ·obtain⟨k,hk,hkr,hak,hlen⟩:=Wd ha h0
  obtain⟨β,g,h1,h2,h3⟩:=h.form ha hb hk hak hs
  refine .inr ⟨k,true,β,_,g,hk,hak,h1,.inl rfl,fun v hv=>?_⟩
  have hm:=Wn hlen hv
  obtain⟨q1,q2,q3⟩:=h3 v hv
  have:=CL hm
  have:=AQ a
  exact⟨ha.arg hm,q1,q2,by omega⟩
 ·have ha0:a.rule=0:=by have:=ha.rule0.1;omega
  by_cases h1:0<b.rule
  ·obtain⟨k,hk,hkr,hbk,hlen⟩:=Wd hb h1
   obtain⟨α,f,h1,h2,h3⟩:=h.form hb ha hk hbk hs.symm
   refine .inr ⟨k,α,true,f,_,hk,h1,hbk,.inr rfl,fun v hv=>?_⟩
   have hm:=Wn hlen hv
   obtain⟨q1,q2,q3⟩:=h3 v hv
   have:=CL hm
   have:=AQ b
   exact⟨q1,hb.arg hm,q2.symm,by omega⟩
  ·have hb0:b.rule=0:=by have:=hb.rule0.1;omega
   obtain⟨q1,q2⟩:=mW ha0 hb0 hs
   exact .inl ⟨ha0,hb0,q1,q2⟩
theorem Kc (hrl:r.length<=64)(hsz:∀ k,k<r.length->size (Gk r k)<2^38/\size (YC r k)<2^38):∀ (n:Nat)(a b:A0),As a+As b<=n->GY r a->GY r b->Af r A2.left b=Af r A2.left a->PF Bq [Ak r,Ar a,Ar b] (Ar (rest r a b))
 | 0,a,b,hn,_,_,_=>by have:=CK a;omega
 | n+1,a,b,hn,ha,hb,hs=>by
  rcases h.shapes ha hb hs with ⟨a0,b0,hbe,hm⟩|⟨k,α,β,f,g,hk,rfl,rfl,hαβ,hp⟩
  ·have hl:b.args.length=a.args.length:=by have:=congrArg List.length hm;simpa using this
   have e:rest r a b=.mk 0 a.name a.var (List.zipWith (rest r) a.args b.args):=by
    rw[Oh,if_neg (by omega),if_neg (by omega)]
   rw[e]
   refine VX a0 b0 (by omega) ?_ (rest r) fun k hk=>?_
   ·have hf:=GI ha.fm
    unfold Bn at hf
    rw[if_neg (by omega)]at hf
    split at hf
    ·simp only[Bool.and_eq_true,decide_eq_true_eq]at hf;omega
    ·simp only[Bool.and_eq_true,decide_eq_true_eq]at hf;omega
   ·have h1:=A4 hk
    have h2:=A4 (l:=b.args) (k:=k) (by omega)
    have:=Bp h1
    have:=Bp h2
    refine Kc hrl hsz n _ _ (by omega) (ha.arg h1) (hb.arg h2) ?_
    have e:=congrArg (fun l=>l.getD k default) hm
    have ea:(a.args.map (Af r A2.left)).getD k default=Af r A2.left (a.args.getD k default):=by simp[List.getD_eq_getElem?_getD,hk]
    have eb:(b.args.map (Af r A2.left)).getD k default=Af r A2.left (b.args.getD k default):=by simp[List.getD_eq_getElem?_getD,show k<b.args.length by omega]
    rw[<-ea,<-eb]
    exact e
  ·obtain⟨q1,q2,q3,q4,q5,q6,q7⟩:=h.left hk
   obtain⟨s1,s2⟩:=hsz k hk
   have hF:∀ v,v∈Da r k->PF Bq [Ak r,Ar (f v),Ar (g v)] (Ar (rest r (f v) (g v))):=fun v hv=>by
    obtain⟨p1,p2,p3,p4⟩:=hp v hv
    exact Kc hrl hsz n _ _ (by omega) p1 p2 p3
   rw[Ou h hk]
   cases β with
   | true =>
    have:=VK hk (by omega) q1 q2 s1 (by omega) q7 α f g (rest r) hF
    rw[IL,Nh]at this
    rw[if_pos rfl]
    have e:pl (Wm (Da r k) (List.map (fun x=>rest r (f x) (g x)) (Da r k))) (YC r k)=pl (fun v=>rest r (f v) (g v)) (YC r k):=Ni _ fun v hv=>SH _ (q7 v hv)
    rw[e]at this
    exact this
   | false =>
    have hα:α=true:=by simpa using hαβ
    subst hα
    have:=VR hk (by omega) q1 q2 s1 f g (rest r) hF
    rw[IL]at this
    exact this
end
end Go.Dw
end
section
namespace Go.Dw
theorem Ll {r:List A2}{a b y:A0}(h:PF BP [Ak r,Ar a,Ar b] (Ar y)):PF DT [Ar a,Ar b,.ro [Ak r] 0] (Ar y):=by
 refine Ab Jr.ok rfl ?_
 push_cast
 refine .of h ?_
 push_cast
 refine A1 ?_
 push_cast[Jr.rs]
theorem TY {r:List A2}{a b:A0}(ha:a.rule=0)(hb:b.rule=0)(hl:a.args.length<=b.args.length)(hl2:a.args.length<2^38)(F:A0->A0->A0)
  (hF:∀ k,k<a.args.length->PF BP [Ak r,Ar (a.args.getD k default),Ar (b.args.getD k default)] (Ar (F (a.args.getD k default) (b.args.getD k default)))) :
  PF BP [Ak r,Ar a,Ar b] (Ar (.mk 0 a.name a.var (List.zipWith F a.args b.args))):=by
 have hz:=Gq (F:=F) (g:=DT) (caps:=[.ro [Ak r] 0]) (fun σ=>by push_cast) a.args b.args hl hl2 (fun k hk=>Ll (hF k hk))
 refine Ab Gr.ok rfl ?_
 push_cast
 refine .of (LO r a b ha hb) ?_
 push_cast
 refine .of hz ?_
 push_cast
 refine A1 ?_
 push_cast[Gr.rs]
 first | rfl | (rw[Ar,Tm];rfl) | (simp only[Ar,cM];rfl)
theorem UH {r:List A2}{k:Nat}(hk:k<r.length)(hkl:k<2^40)(hv:(Gk r k).var=false)(hf:vfl (Gk r k)=true)(hs:size (Gk r k)<2^38)(α β:Bool)(hαβ:α=true\/β=true)(f g:Cq)(F:A0->A0->A0)
  (hF:∀ v,v∈Da r k->PF BP [Ak r,Ar (f v),Ar (g v)] (Ar (F (f v) (g v)))) :
  PF BP [Ak r,Ar (fm r k α f),Ar (fm r k β g)] (Ar (.mk (k+1) [] false (List.zipWith F ((Da r k).map f) ((Da r k).map g)))):=by
 have hvl:(Da r k).length<2^38:=by have:=Fk [Gk r k];simp only[Ac]at this;unfold Da;omega
 have hz:=Gq (F:=F) (g:=DT) (caps:=[.ro [Ak r] 0]) (fun σ=>by push_cast) ((Da r k).map f) ((Da r k).map g) (by simp) (by simpa using hvl) (fun j hj=>by
  rw[List.length_map]at hj
  have e:∀ f:Cq,((Da r k).map f).getD j default=f ((Da r k).getD j default):=fun f=>by simp[List.getD_eq_getElem?_getD,hj]
  rw[e,e]
  exact Ll (hF _ (A4 hj)))
 refine Ab Gr.ok rfl ?_
 push_cast
 refine .of (HA hk hkl hv hf hs α β f g hαβ) ?_
 push_cast
 refine .of hz ?_
 have h1:((k:Int)+1=0)=False:=by simp;omega
 push_cast[h1]
 refine A1 ?_
 push_cast[Gr.rs]
 first | rfl | (rw[Ar,Tm];rfl) | (simp only[Ar,cM];rfl)
section
variable {r:List A2} (h:CE r)
include h
theorem Jn (hrl:r.length<=64)(hsz:∀ k,k<r.length->size (Gk r k)<2^38/\size (YC r k)<2^38):∀ (n:Nat)(a b:A0),As a+As b<=n->GY r a->GY r b->Af r A2.left b=Af r A2.left a->PF BP [Ak r,Ar a,Ar b] (Ar (Hl r a b))
 | 0,a,b,hn,_,_,_=>by have:=CK a;omega
 | n+1,a,b,hn,ha,hb,hs=>by
  rcases h.shapes ha hb hs with ⟨a0,b0,hbe,hm⟩|⟨k,α,β,f,g,hk,rfl,rfl,hαβ,hp⟩
  ·have hl:b.args.length=a.args.length:=by have:=congrArg List.length hm;simpa using this
   have e:Hl r a b=.mk 0 a.name a.var (List.zipWith (Hl r) a.args b.args):=by
    rw[Pz,if_neg (by omega),if_neg (by omega)]
   rw[e]
   refine TY a0 b0 (by omega) ?_ (Hl r) fun k hk=>?_
   ·have hf:=GI ha.fm
    unfold Bn at hf
    rw[if_neg (by omega)]at hf
    split at hf
    ·simp only[Bool.and_eq_true,decide_eq_true_eq]at hf;omega
    ·simp only[Bool.and_eq_true,decide_eq_true_eq]at hf;omega
   ·have h1:=A4 hk
    have h2:=A4 (l:=b.args) (k:=k) (by omega)
    have:=Bp h1
    have:=Bp h2
    refine Jn hrl hsz n _ _ (by omega) (ha.arg h1) (hb.arg h2) ?_
    have e:=congrArg (fun l=>l.getD k default) hm
    have ea:(a.args.map (Af r A2.left)).getD k default=Af r A2.left (a.args.getD k default):=by simp[List.getD_eq_getElem?_getD,hk]
    have eb:(b.args.map (Af r A2.left)).getD k default=Af r A2.left (b.args.getD k default):=by simp[List.getD_eq_getElem?_getD,show k<b.args.length by omega]
    rw[<-ea,<-eb]
    exact e
  ·obtain⟨q1,q2,q3,q4,q5,q6,q7⟩:=h.left hk
   obtain⟨s1,s2⟩:=hsz k hk
   have hF:∀ v,v∈Da r k->PF BP [Ak r,Ar (f v),Ar (g v)] (Ar (Hl r (f v) (g v))):=fun v hv=>by
    obtain⟨p1,p2,p3,p4⟩:=hp v hv
    exact Jn hrl hsz n _ _ (by omega) p1 p2 p3
   rw[Xk h hk]
   have:=UH hk (by omega) q1 q2 s1 α β hαβ f g (Hl r) hF
   rw[IL]at this
   have e:(α||β)=true:=by rcases hαβ with rfl | rfl<;>simp
   rw[e]
   exact this
end
end Go.Dw
end
section
namespace Go.Dw
theorem fP {r:List A2}{a:A0}(ha:GY r a)(h0:a.rule=0){l:List A0}(hl:l.length=a.args.length)(h:∀ x∈l,GY r x):GY r (.mk 0 a.name a.var l):=by
 refine⟨?_,?_⟩
 ·rw[Hh,Bool.and_eq_true,List.all_eq_true]
  exact⟨by simp[C5,A0.rule],fun x hx=>(h x hx).rg⟩
 ·rw[Hh,Bool.and_eq_true,List.all_eq_true]
  refine⟨?_,fun x hx=>(h x hx).fm⟩
  have hf:=GI ha.fm
  cases a with
  | mk k n v l0 =>
   have h0:k=0:=h0
   subst h0
   have hl:l.length=l0.length:=hl
   unfold Bn at hf ⊢
   simp only[A0.rule,A0.var,A0.args,A0.name,hl]at hf ⊢
   exact hf
section
variable {r:List A2} (h:CE r)
include h
theorem CE.rest_ok:∀ (n:Nat)(a b:A0),As a+As b<=n->GY r a->GY r b->Af r A2.left b=Af r A2.left a->GY r (rest r a b)/\Af r A2.left (rest r a b)=Af r A2.right b
 | 0,a,b,hn,_,_,_=>by have:=CK a;omega
 | n+1,a,b,hn,ha,hb,hs=>by
  rcases h.shapes ha hb hs with ⟨a0,b0,hbe,hm⟩|⟨k,α,β,f,g,hk,rfl,rfl,hαβ,hp⟩
  ·have hl:b.args.length=a.args.length:=by have:=congrArg List.length hm;simpa using this
   have e:rest r a b=.mk 0 a.name a.var (List.zipWith (rest r) a.args b.args):=by
    rw[Oh,if_neg (by omega),if_neg (by omega)]
   have hi:∀ k,k<a.args.length->GY r (rest r (a.args.getD k default) (b.args.getD k default))/\Af r A2.left (rest r (a.args.getD k default) (b.args.getD k default))=Af r A2.right (b.args.getD k default):=fun k hk=>by
    have h1:=A4 hk
    have h2:=A4 (l:=b.args) (k:=k) (by omega)
    have:=Bp h1
    have:=Bp h2
    refine CE.rest_ok n _ _ (by omega) (ha.arg h1) (hb.arg h2) ?_
    have e:=congrArg (fun l=>l.getD k default) hm
    have ea:(a.args.map (Af r A2.left)).getD k default=Af r A2.left (a.args.getD k default):=by simp[List.getD_eq_getElem?_getD,hk]
    have eb:(b.args.map (Af r A2.left)).getD k default=Af r A2.left (b.args.getD k default):=by simp[List.getD_eq_getElem?_getD,show k<b.args.length by omega]
    rw[<-ea,<-eb]
    exact e
   have hz:∀ k,k<a.args.length->(List.zipWith (rest r) a.args b.args)[k]?=some (rest r (a.args.getD k default) (b.args.getD k default)):=fun k hk=>by
    have ea:a.args[k]?=some (a.args.getD k default):=by simp[List.getD_eq_getElem?_getD,hk]
    have eb:b.args[k]?=some (b.args.getD k default):=by simp[List.getD_eq_getElem?_getD,show k<b.args.length by omega]
    rw[List.getElem?_zipWith,ea,eb]
   have hzl:(List.zipWith (rest r) a.args b.args).length=a.args.length:=by rw[List.length_zipWith];omega
   rw[e]
   refine⟨fP ha a0 hzl fun x hx=>?_,?_⟩
   ·obtain⟨k,hk,rfl⟩:=List.getElem_of_mem hx
    have h1:=hz k (by omega)
    rw[List.getElem?_eq_getElem hk]at h1
    injection h1 with h1
    rw[h1];exact (hi k (by omega)).1
   ·rw[De,if_pos (show (A0.mk 0 a.name a.var (List.zipWith (rest r) a.args b.args)).rule=0 from rfl),De,if_pos b0]
    have en:b.name=a.name:=by have:=congrArg A0.name hbe;exact this
    have ev:b.var=a.var:=by have:=congrArg A0.var hbe;exact this
    rw[en,ev]
    congr 1
    refine List.ext_getElem? fun k=>?_
    by_cases hk:k<a.args.length
    ·have eb:b.args[k]?=some (b.args.getD k default):=by simp[List.getD_eq_getElem?_getD,show k<b.args.length by omega]
     rw[List.getElem?_map,List.getElem?_map,eb]
     have e2:(A0.mk 0 a.name a.var (List.zipWith (rest r) a.args b.args)).args=List.zipWith (rest r) a.args b.args:=rfl
     rw[e2,hz k hk]
     exact congrArg some (hi k hk).2
    ·rw[List.getElem?_eq_none (by rw[List.length_map];show (List.zipWith (rest r) a.args b.args).length<=k;omega),List.getElem?_eq_none (by rw[List.length_map];omega)]
  ·obtain⟨q1,q2,q3,q4,q5,q6,q7⟩:=h.left hk
   have hi:∀ v∈Da r k,GY r (rest r (f v) (g v))/\Af r A2.left (rest r (f v) (g v))=Af r A2.right (g v):=fun v hv=>by
    obtain⟨p1,p2,p3,p4⟩:=hp v hv
    exact CE.rest_ok n _ _ (by omega) p1 p2 p3
   rw[Ou h hk,h.tgt_fm hk]
   cases β with
   | true =>
    refine⟨sY _ q5 fun v hv=>(hi v (q7 v hv)).1,?_⟩
    rw[if_pos rfl,if_pos rfl,bF]
    exact DJ _ fun v hv=>(hi v (q7 v hv)).2
   | false =>
    refine⟨h.ok_fm hk fun v hv=>(hi v hv).1,?_⟩
    have e:=h.src_fm hk (b:=α) (g:=fun v=>rest r (f v) (g v))
    refine e.trans ?_
    rw[if_neg (by simp)]
    exact DJ _ fun v hv=>(hi v (Hp.2 hv)).2
end
end Go.Dw
end
section
namespace Go.Dw
section
variable {r:List A2} (h:CE r)
include h
theorem CE.uni_ok:∀ (n:Nat)(a b:A0),As a+As b<=n->GY r a->GY r b->Af r A2.left b=Af r A2.left a->GY r (Hl r a b)/\Af r A2.left (Hl r a b)=Af r A2.left a
 | 0,a,b,hn,_,_,_=>by have:=CK a;omega
 | n+1,a,b,hn,ha,hb,hs=>by
  rcases h.shapes ha hb hs with ⟨a0,b0,hbe,hm⟩|⟨k,α,β,f,g,hk,rfl,rfl,hαβ,hp⟩
  ·have hl:b.args.length=a.args.length:=by have:=congrArg List.length hm;simpa using this
   have e:Hl r a b=.mk 0 a.name a.var (List.zipWith (Hl r) a.args b.args):=by
    rw[Pz,if_neg (by omega),if_neg (by omega)]
   have hi:∀ k,k<a.args.length->GY r (Hl r (a.args.getD k default) (b.args.getD k default))/\Af r A2.left (Hl r (a.args.getD k default) (b.args.getD k default))=Af r A2.left (a.args.getD k default):=fun k hk=>by
    have h1:=A4 hk
    have h2:=A4 (l:=b.args) (k:=k) (by omega)
    have:=Bp h1
    have:=Bp h2
    refine CE.uni_ok n _ _ (by omega) (ha.arg h1) (hb.arg h2) ?_
    have e:=congrArg (fun l=>l.getD k default) hm
    have ea:(a.args.map (Af r A2.left)).getD k default=Af r A2.left (a.args.getD k default):=by simp[List.getD_eq_getElem?_getD,hk]
    have eb:(b.args.map (Af r A2.left)).getD k default=Af r A2.left (b.args.getD k default):=by simp[List.getD_eq_getElem?_getD,show k<b.args.length by omega]
    rw[<-ea,<-eb]
    exact e
   have hz:∀ k,k<a.args.length->(List.zipWith (Hl r) a.args b.args)[k]?=some (Hl r (a.args.getD k default) (b.args.getD k default)):=fun k hk=>by
    have ea:a.args[k]?=some (a.args.getD k default):=by simp[List.getD_eq_getElem?_getD,hk]
    have eb:b.args[k]?=some (b.args.getD k default):=by simp[List.getD_eq_getElem?_getD,show k<b.args.length by omega]
    rw[List.getElem?_zipWith,ea,eb]
   have hzl:(List.zipWith (Hl r) a.args b.args).length=a.args.length:=by rw[List.length_zipWith];omega
   rw[e]
   refine⟨fP ha a0 hzl fun x hx=>?_,?_⟩
   ·obtain⟨k,hk,rfl⟩:=List.getElem_of_mem hx
    have h1:=hz k (by omega)
    rw[List.getElem?_eq_getElem hk]at h1
    injection h1 with h1
    rw[h1];exact (hi k (by omega)).1
   ·rw[De,if_pos (show (A0.mk 0 a.name a.var (List.zipWith (Hl r) a.args b.args)).rule=0 from rfl),De,if_pos a0]
    congr 1
    refine List.ext_getElem? fun k=>?_
    by_cases hk:k<a.args.length
    ·have ea:a.args[k]?=some (a.args.getD k default):=by simp[List.getD_eq_getElem?_getD,hk]
     rw[List.getElem?_map,List.getElem?_map,ea]
     have e2:(A0.mk 0 a.name a.var (List.zipWith (Hl r) a.args b.args)).args=List.zipWith (Hl r) a.args b.args:=rfl
     rw[e2,hz k hk]
     exact congrArg some (hi k hk).2
    ·rw[List.getElem?_eq_none (by rw[List.length_map];show (List.zipWith (Hl r) a.args b.args).length<=k;omega),List.getElem?_eq_none (by rw[List.length_map];omega)]
  ·obtain⟨q1,q2,q3,q4,q5,q6,q7⟩:=h.left hk
   have hi:∀ v∈Da r k,GY r (Hl r (f v) (g v))/\Af r A2.left (Hl r (f v) (g v))=Af r A2.left (f v):=fun v hv=>by
    obtain⟨p1,p2,p3,p4⟩:=hp v hv
    exact CE.uni_ok n _ _ (by omega) p1 p2 p3
   rw[Xk h hk]
   refine⟨h.ok_fm hk fun v hv=>(hi v hv).1,?_⟩
   rw[h.src_fm hk,h.src_fm hk]
   exact DJ _ fun v hv=>(hi v (Hp.2 hv)).2
end
end Go.Dw
end
namespace Go.Dw
def RQ (σ:EE)(L:Term):List A9->Nat
 | []=>0
 | v::vs=>(if Cz v L then size (σ v) else 0)+RQ σ L vs
def Rx (σ:EE)(l:List Term):List A9->Nat
 | []=>0
 | v::vs=>(if EQ v l then size (σ v) else 0)+Rx σ l vs
theorem hY (σ:EE)(a:Term)(l:List Term)(vs:List A9):Rx σ (a::l) vs<=RQ σ a vs+Rx σ l vs:=by
 induction vs with
 | nil=>simp[Rx,RQ]
 | cons v vs ih =>
  simp only[Rx,RQ,EQ,Bool.or_eq_true]
  by_cases h1:Cz v a=true<;>by_cases h2:EQ v l=true<;>simp[h1,h2]<;>omega
theorem gf (σ:EE)(n:A9):∀ vs:List A9,vs.Nodup->RQ σ (.mk n true []) vs<=size (σ n)
 | [],_=>by simp[RQ]
 | v::vs,h=>by
  obtain⟨h1,h2⟩:=List.nodup_cons.1 h
  have ih:=gf σ n vs h2
  simp only[RQ]
  by_cases he:n=v
  ·subst he
   have h0:∀ ws:List A9,n∉ws->RQ σ (.mk n true []) ws=0:=by
    intro ws
    induction ws with
    | nil=>intro _;rfl
    | cons w ws ihw =>
     intro hw
     simp only[List.mem_cons,not_or]at hw
     simp only[RQ,ihw hw.2,Cz,EQ,Bool.or_false,Bool.true_and,decide_eq_true_eq]
     rw[if_neg hw.1]
   rw[h0 vs h1]
   split<;>omega
  ·have:Cz v (.mk n true [])=false:=by simp[Cz,EQ,he]
   rw[this]
   simp only[Bool.false_eq_true,if_false,Nat.zero_add]
   exact ih
mutual
theorem kr (σ:EE)(vs:List A9)(hn:vs.Nodup):∀ L:Term,vfl L=true->RQ σ L vs<=size (app σ L)/\(L.var=false->RQ σ L vs<size (app σ L))
 | .mk n true l,hs=>by
  have ha:l=[]:=(Kx.1 hs).1 rfl
  subst ha
  refine⟨?_,fun h=>by cases h⟩
  rw[PH]
  exact gf σ n vs hn
 | .mk n false l,hs=>by
  have h:=dW σ vs hn l (Kx.1 hs).2
  have e:∀ ws,RQ σ (.mk n false l) ws=Rx σ l ws:=by
   intro ws
   induction ws with
   | nil=>rfl
   | cons w ws ih=>simp only[RQ,Rx,Cz,Bool.false_and,Bool.false_or,ih]
  rw[e]
  have hi:size (app σ (.mk n false l))=1+Ac (l.map (app σ)):=by
   rw[PH];rfl
  rw[hi]
  exact⟨by omega,fun _=>by omega⟩
theorem dW (σ:EE)(vs:List A9)(hn:vs.Nodup):∀ l:List Term,(∀ a∈l,vfl a=true)->Rx σ l vs<=Ac (l.map (app σ))
 | [],_=>by
  have:∀ ws,Rx σ [] ws=0:=by
   intro ws
   induction ws with
   | nil=>rfl
   | cons w ws ih=>simp[Rx,EQ,ih]
  rw[this];exact Nat.zero_le _
 | a::l,hs=>by
  have h1:=hY σ a l vs
  have h2:=(kr σ vs hn a (hs a (by simp))).1
  have h3:=dW σ vs hn l fun b hb=>hs b (by simp[hb])
  simp only[List.map_cons,Ac];omega
end
theorem dl (f:EE)(L:Term):∀ vs:List A9,(∀ v∈vs,Cz v L=true)->RQ f L vs=Ac (vs.map f)
 | [],_=>rfl
 | v::vs,h=>by
  simp only[RQ,List.map_cons,Ac]
  rw[if_pos (h v (by simp)),dl f L vs fun w hw=>h w (by simp[hw])]
theorem Rw {F:A0->Term}:∀ {l:List A0},(∀ a∈l,As a<=size (F a))->Bv l<=Ac (l.map F)
 | [],_=>Nat.le_refl _
 | a::l,h=>by
  have h1:=h a (by simp)
  have h2:=Rw (l:=l) fun x hx=>h x (by simp[hx])
  simp only[Bv,List.map_cons,Ac]
  omega
theorem CE.size_le {r:List A2}(h:CE r):∀ (n:Nat)(m:A0),As m<=n->GY r m->As m<=size (Af r A2.left m)
 | 0,m,hn,_=>by have:=CK m;omega
 | n+1,m,hn,hm=>by
  have ih:Bv m.args<=Ac (m.args.map (Af r A2.left)):=Rw fun a ha=>h.size_le n a (by have:=Bp ha;omega) (hm.arg ha)
  have hsz:=AQ m
  by_cases h0:0<m.rule
  ·obtain⟨k,hk,hkr,hmk,hlen⟩:=Wd hm h0
   obtain⟨q1,q2,q3,q4,q5,q6,q7⟩:=h.left hk
   have e:Af r A2.left m=app (fun v=>Af r A2.left (Wm (Da r k) m.args v)) (Gk r k):=(congrArg (Af r A2.left) hmk).trans (QQ fun v hv=>Hp.2 hv)
   have h1:=(kr (fun v=>Af r A2.left (Wm (Da r k) m.args v)) (Da r k) (KD _) (Gk r k) q2).2 q1
   rw[dl _ _ _ fun v hv=>Hp.1 hv]at h1
   have e2:(Da r k).map (fun v=>Af r A2.left (Wm (Da r k) m.args v))=m.args.map (Af r A2.left):=by
    have e3:m.args=(Da r k).map (Wm (Da r k) m.args):=congrArg A0.args hmk
    conv=>rhs;rw[e3]
    rw[List.map_map];rfl
   rw[e2]at h1
   rw[e];omega
  ·have m0:m.rule=0:=by have:=hm.rule0.1;omega
   rw[De,if_pos m0]
   simp only[size]
   omega
theorem eL {r:List A2}{a b:A0}(h:FL r a b=0):Jw r=0/\Gu r a=0/\Gu r b=0/\LN r a=LN r b:=by
 unfold FL at h
 split at h
 ·rename_i hc;exact absurd h hc
 ·rename_i h1
  split at h
  ·rename_i hc;exact absurd h hc
  ·rename_i h2
   split at h
   ·rename_i hc;exact absurd h hc
   ·rename_i h3
    split at h
    ·rename_i h4
     exact⟨Classical.not_not.1 h1,Classical.not_not.1 h2,Classical.not_not.1 h3,h4⟩
    ·cases h
theorem QY {r:List A2}{a b:A0}(h:FL r a b=0):CE r/\GY r a/\GY r b/\Af r A2.left b=Af r A2.left a/\BO (Af r A2.left a)=true/\BO (Af r A2.right b)=true/\BO (Af r A2.right a)=true/\r.length<=64/\∀ k,k<r.length->size (Gk r k)<2^38/\size (YC r k)<2^38:=by
 obtain⟨h1,h2,h3,h4⟩:=eL h
 obtain⟨a1,a2,a3,a4,a5⟩:=M0 h2
 obtain⟨b1,b2,b3,b4,b5⟩:=M0 h3
 have hr:=eG h1
 have hg:=HJ hr.2
 refine⟨eW hr.1,(FC a1).2.1,(FC b1).2.1,by rw[<-a2,<-b2,h4],a4,b5,a5,hg.2,fun k hk=>?_⟩
 have hx:=hg.1 _ (A4 hk)
 have:=hx.l.sz
 have:=hx.r.sz
 exact⟨by unfold Gk;omega,by unfold YC;omega⟩
noncomputable def yg (r:List A2)(a b:A0):V:=if FL r a b≠0 then PZ none (FL r a b) else eo (rest r a b)
noncomputable def yp (r:List A2)(a b:A0):V:=if FL r a b≠0 then PZ none (FL r a b) else eo (Hl r a b)
theorem Wa (m:A0):eo m=PZ (if M8 m then some m else none) (if M8 m then 0 else 3):=by unfold eo;split<;>rfl
theorem GM {r:List A2}{a b:A0}(hr:KZ r<2^38)(ha:mb a<2^38)(hb:mb b<2^38):PF Dv [Ak r,Ar a,Ar b] (yg r a b):=by
 have h0:=OO hr ha hb
 unfold yg
 refine Ab Ec.ok rfl ?_
 push_cast
 refine .of h0 ?_
 by_cases hp:FL r a b=0
 ·obtain⟨g1,g2,g3,g4,g5,g6,g7,g8,g9⟩:=QY hp
  have h1:=Kc g1 g8 g9 _ a b (Nat.le_refl _) g2 g3 g4
  have hk:=g1.rest_ok _ a b (Nat.le_refl _) g2 g3 g4
  have h2:=Vq (rest r a b) (by
   have:=g1.size_le _ _ (Nat.le_refl _) hk.1
   rw[hk.2]at this
   have:size (Af r A2.right b)<=4000:=by
    unfold BO at g6
    simp only[Bool.and_eq_true,decide_eq_true_eq]at g6
    exact g6.1
   omega)
  rw[if_neg (by simp[hp]),Wa]
  rw[Wa]at h2
  push_cast[hp]
  refine .of h1 ?_
  push_cast
  refine .of h2 ?_
  split
  ·push_cast[PZ]
   exact A1 (by push_cast[Ec.rs])
  ·push_cast[PZ]
   exact A1 (by push_cast[Ec.rs])
 ·rw[if_pos hp]
  push_cast[hp]
  exact A1 (by push_cast[Ec.rs,PZ];rfl)
theorem U7 {r:List A2}{a b:A0}(hr:KZ r<2^38)(ha:mb a<2^38)(hb:mb b<2^38):PF J5 [Ak r,Ar a,Ar b] (yp r a b):=by
 have h0:=OO hr ha hb
 unfold yp
 refine Ab Gw.ok rfl ?_
 push_cast
 refine .of h0 ?_
 by_cases hp:FL r a b=0
 ·obtain⟨g1,g2,g3,g4,g5,g6,g7,g8,g9⟩:=QY hp
  have h1:=Jn g1 g8 g9 _ a b (Nat.le_refl _) g2 g3 g4
  have hk:=g1.uni_ok _ a b (Nat.le_refl _) g2 g3 g4
  have h2:=Vq (Hl r a b) (by
   have:=g1.size_le _ _ (Nat.le_refl _) hk.1
   rw[hk.2]at this
   have:size (Af r A2.left a)<=4000:=by
    unfold BO at g5
    simp only[Bool.and_eq_true,decide_eq_true_eq]at g5
    exact g5.1
   omega)
  rw[if_neg (by simp[hp]),Wa]
  rw[Wa]at h2
  push_cast[hp]
  refine .of h1 ?_
  push_cast
  refine .of h2 ?_
  split
  ·push_cast[PZ]
   exact A1 (by push_cast[Gw.rs])
  ·push_cast[PZ]
   exact A1 (by push_cast[Gw.rs])
 ·rw[if_pos hp]
  push_cast[hp]
  exact A1 (by push_cast[Gw.rs,PZ];rfl)
theorem jQ {α β γ:Type}[Inhabited α][Inhabited β]{F G:α->β->γ}:∀ {l:List α} {m:List β},m.length=l.length->(∀ k,k<l.length->F (l.getD k default) (m.getD k default)=G (l.getD k default) (m.getD k default))->List.zipWith F l m=List.zipWith G l m
 | [],_,_,_=>by simp
 | _::_,[],hl,_=>by simp at hl
 | a::l,b::m,hl,h=>by
  have h0:F a b=G a b:=h 0 (by simp)
  have ih:=jQ (F:=F) (G:=G) (l:=l) (m:=m) (by simpa using hl) fun k hk=>h (k+1) (by simpa using hk)
  simp only[List.zipWith_cons_cons]
  rw[ih,h0]
theorem aR {α β:Type}[Inhabited α][Inhabited β]{F:α->β}{l m:List α}(h:l.map F=m.map F){k:Nat}(hk:k<m.length):F (l.getD k default)=F (m.getD k default):=by
 have hl:l.length=m.length:=by have:=congrArg List.length h;simpa using this
 have e:=congrArg (fun l=>l.getD k default) h
 have ea:(l.map F).getD k default=F (l.getD k default):=by simp[List.getD_eq_getElem?_getD,show k<l.length by omega]
 have eb:(m.map F).getD k default=F (m.getD k default):=by simp[List.getD_eq_getElem?_getD,hk]
 rw[<-ea,<-eb];exact e
end Go.Dw
section
namespace Go.Dw
section
variable {r:List A2} (h:CE r)
include h
omit h in
theorem AcQ {r:List A2}{a b:A0}(ha:a.rule=0)(hb:b.rule=0):rest r a b=.mk 0 a.name a.var (List.zipWith (rest r) a.args b.args):=by
 rw[Oh,if_neg (by omega),if_neg (by omega)]
end
end Go.Dw
end
namespace Go.Dw
noncomputable def Px (r:List A2)(a b:A0):A0×Int:=if FL r a b≠0 then (zM,FL r a b) else if M8 (rest r a b)=true then (rest r a b,0) else (zM,3)
noncomputable def U6 (r:List A2)(a b:A0):A0×Int:=if FL r a b≠0 then (zM,FL r a b) else if M8 (Hl r a b)=true then (Hl r a b,0) else (zM,3)
theorem gI (r:List A2)(a b:A0):yg r a b=.tup [Ar (Px r a b).1,.int .i64 (Px r a b).2]:=by
 unfold yg Px eo
 split
 ·rfl
 ·split<;>rfl
theorem Ab3 (r:List A2)(a b:A0):yp r a b=.tup [Ar (U6 r a b).1,.int .i64 (U6 r a b).2]:=by
 unfold yp U6 eo
 split
 ·rfl
 ·split<;>rfl
theorem kf {r:List A2}{a b:A0}(h:(Px r a b).2=0):FL r a b=0/\M8 (rest r a b)=true/\(Px r a b).1=rest r a b:=by
 unfold Px at h ⊢
 split at h
 ·rename_i hc;exact absurd h hc
 ·rename_i hc
  rw[if_neg hc]
  split at h
  ·rename_i h2;rw[if_pos h2];exact⟨Classical.not_not.1 hc,h2,rfl⟩
  ·cases h
theorem jR {r:List A2}{a b:A0}(h:(U6 r a b).2=0):FL r a b=0/\M8 (Hl r a b)=true/\(U6 r a b).1=Hl r a b:=by
 unfold U6 at h ⊢
 split at h
 ·rename_i hc;exact absurd h hc
 ·rename_i hc
  rw[if_neg hc]
  split at h
  ·rename_i h2;rw[if_pos h2];exact⟨Classical.not_not.1 hc,h2,rfl⟩
  ·cases h
theorem lj {m:A0}(h:M8 m=true):As m<=4000/\Bd m<=200:=by
 unfold M8 at h
 simpa using h
theorem JZ {l:List A0}{D:Nat}(h:∀ a∈l,Bd a<=D):AY l<=D:=by
 induction l with
 | nil=>exact Nat.zero_le _
 | cons a l ih =>
  have:=h a (by simp)
  have:=ih fun x hx=>h x (by simp[hx])
  simp only[AY];omega
theorem fo {g:Cq}{M:Nat}(t:Term):(∀ v,Cz v t=true->Bd (g v)<=M)->Bd (pl g t)<=depth t+M:=by
 induction t using Ag with
 | h t ih =>
 intro hg
 cases hv:t.var with
 | true=>rw[Ja hv];have:=hg _ (AE.2 (.inl ⟨hv,rfl⟩));omega
 | false =>
  rw[IE hv,El]
  have h1:=Fg t
  have:AY (t.args.map (pl g))<=AC t.args+M:=by
   refine JZ fun x hx=>?_
   obtain⟨a,ha,rfl⟩:=List.mem_map.1 hx
   have:=ih a ha fun v hv=>hg v (AE.2 (.inr ⟨a,ha,hv⟩))
   have:=Ld ha
   omega
  show AY (t.args.map (pl g))+1<=_
  omega
theorem SZ {F:A0->A0->A0}{x:A0}:∀ {l m:List A0},x∈List.zipWith F l m->∃ a∈l,∃ b∈m,x=F a b
 | [],_,h=>by simp at h
 | _::_,[],h=>by simp at h
 | a::l,b::m,h=>by
  rw[List.zipWith_cons_cons]at h
  rcases List.mem_cons.1 h with rfl | h
  ·exact⟨a,by simp,b,by simp,rfl⟩
  ·obtain⟨c,hc,d,hd,e⟩:=SZ h
   exact⟨c,by simp[hc],d,by simp[hd],e⟩
theorem NT {r:List A2}{D:Nat}(hD:∀ m:A0,depth (Au r m).right+1<=D):∀ (n:Nat)(a b:A0),As a+As b<=n->Bd (rest r a b)<=D*n
 | 0,a,b,hn=>by have:=CK a;omega
 | n+1,a,b,hn=>by
  have ha:=CK a
  have hb:=CK b
  have hD1:=hD a
  have hn1:1<=n:=by omega
  have hDn:D<=D*n:=Nat.le_mul_of_pos_right D hn1
  have hs:D*(n+1)=D*n+D:=Nat.mul_succ D n
  rw[Oh]
  split
  ·rw[Nh]
   refine Nat.le_trans (fo (M:=D*n) _ fun v hv=>?_) (by have:=hD b;omega)
   unfold Wm
   by_cases hi:Mu v (AA [(Au r b).left])<(List.zipWith (rest r) (if 0<a.rule then a.args else FG (AA [(Au r b).left]) (Au r b).left a) b.args).length
   ·obtain⟨x,hx,y,hy,e⟩:=SZ (A4 (l:=List.zipWith (rest r) (if 0<a.rule then a.args else FG (AA [(Au r b).left]) (Au r b).left a) b.args) hi)
    rw[e]
    refine NT hD n x y ?_
    have:=Bp hy
    split at hx
    ·have:=Bp hx;omega
    ·have:=FE hx;omega
   ·rw[List.getD_eq_getElem?_getD,List.getElem?_eq_none (by omega)]
    have:Bd (Option.getD none default:A0)=1:=rfl
    omega
  ·split
   ·rw[El]
    have:AY (List.zipWith (rest r) a.args (FG (AA [(Au r a).left]) (Au r a).left b))<=D*n:=JZ fun z hz=>by
     obtain⟨x,hx,y,hy,rfl⟩:=SZ hz
     have:=Bp hx
     have:=FE hy
     exact NT hD n x y (by omega)
    show AY (List.zipWith (rest r) a.args (FG (AA [(Au r a).left]) (Au r a).left b))+1<=_
    omega
   ·rw[El]
    have:AY (List.zipWith (rest r) a.args b.args)<=D*n:=JZ fun z hz=>by
     obtain⟨x,hx,y,hy,rfl⟩:=SZ hz
     have:=Bp hx
     have:=Bp hy
     exact NT hD n x y (by omega)
    show AY (List.zipWith (rest r) a.args b.args)+1<=_
    omega
def cN (m:A0):List V:=cM m++[.int .i64 ((cap (As m):Nat):Int),.int .i64 ((Bd m:Nat):Int)]
def PX (m:A0):V:=.agg (cN m)
abbrev V0 (l:List A0):V:=DI cN 6 l
theorem qz (t:A0):Kt (PX t)=some (cN t):=rfl
theorem AaT (t:A0):(cN t).length=6:=rfl
theorem AdP (t:A0):(cN t)[4]?=some (.int .i64 ((cap (As t):Nat):Int)):=rfl
theorem Ad2 (t:A0):(cN t)[5]?=some (.int .i64 ((Bd t:Nat):Int)):=rfl
theorem zD (t:A0):sub 0 6 (cN t)=cN t:=rfl
theorem xZ (t:A0):sub 0 4 (cN t)=cM t:=rfl
theorem lX (t:A0):V.agg (cN t)=PX t:=rfl
theorem kJ {σ:Nat->Option Nat}(t:A0):AR σ (cN t)=cN t:=rfl
theorem rm {σ:Nat->Option Nat}(t:A0):ren σ (PX t)=PX t:=by unfold PX;rw[Gz,kJ]
theorem zU (t:A0)(a b c d e f:V):put 0 (cN t) [a,b,c,d,e,f]=cN t:=rfl
attribute [push_cast] zU qz AaT AdP Ad2 zD xZ lX rm kJ
theorem RG (m:A0)(l:List A0)(hl:l.length<2^40)(hd:∀ a∈l,Bd a<2^50):PF J6 [Ar m,V0 l] (PX (.mk m.rule m.name m.var l)):=by
 have hD:=JZ (l:=l) (D:=2^50) fun a ha=>Nat.le_of_lt (hd a ha)
 refine Ab Pi.ok rfl ?_
 push_cast
 refine Ad (n:=l.length) (R:=fun k=>Pi.L3 (.ptr 0 0) (.ptr 1 0) (V0 l) (.int .i64 l.length) (.int .i64 k) 0
  [.cells Ax [.int .i64 0,.str [],.bool false,.sl 4 [],.int .i64 0,.int .i64 0],.cells Ax [.int .i64 m.rule,.str m.name,.bool m.var,Bf cM 2 4 (l.take k),.int .i64 ((cap (1+Bv (l.take k)):Nat):Int),.int .i64 ((AY (l.take k):Nat):Int)],.arr A7 4 k]
  (Bx 0 Pi.rs fun x' H'=>x'=PX (.mk m.rule m.name m.var l)/\H'=[])) ?_ ?_ 0 (by omega)
 ·intro k hk ih
  have hm:=A4 hk
  have hmd:=hd _ hm
  have hlt:(l.take k).length=k:=by simp;omega
  have h1:=J4 l k hk
  have h2:=IO l k hk
  have hDk:AY (l.take k)<=2^50:=JZ fun a ha=>Nat.le_of_lt (hd a (List.mem_of_mem_take ha))
  rw[h1,h2,Aa hk,<-Nat.add_assoc,<-Xd]at ih
  refine A8.2 ?_
  have c1:=TU (1+Bv (l.take k))
  have c2:=TU (As (l.getD k default))
  have hw:=Bs (x:=((cap (1+Bv (l.take k)):Nat):Int)+((cap (As (l.getD k default)):Nat):Int)) (by omega) (by omega)
  push_cast[BT hk,hlt,CV (show k<2^62 by omega),hw]
  push_cast at ih
  exact⟨by unfold Ah;omega,ih⟩
 ·refine A8.2 ?_
  have hw:IntKind.i64.wrap (((AY l:Nat):Int)+1)=((AY l+1:Nat):Int):=by rw[Bs (by omega) (by omega)];omega
  push_cast[B8 (Nat.le_refl _),List.take_length,hw]
  refine A1 ?_
  push_cast[Pi.rs,hw]
  unfold PX cN
  rw[Tm,AQ,El]
  push_cast
  exact⟨rfl,rfl,rfl,rfl,rfl,rfl⟩
theorem iD (vars:List A9)(xs:List A0)(hv:vars.length<2^40)(hl:xs.length=vars.length)(M:Nat)(hM:∀ x∈xs,Bd x<=M)(hMM:M<2^45) :
  ∀ t:Term,size t<2^39->vfl t=true->(∀ v,Cz v t=true->v∈vars)->PF OJ [Ap t,Bo vars,V0 xs] (PX (Fi vars xs t)):=by
 intro t
 induction t using Ag with
 | h t ih =>
 intro hz hf ho
 rw[Ud]
 have hst:=AJ t
 have hll:=Aj t.args
 refine Ab K8.ok rfl ?_
 cases hv2:t.var with
 | true =>
  rw[if_pos rfl]
  have hmem:t.name∈vars:=ho _ (AE.2 (.inl ⟨hv2,rfl⟩))
  obtain⟨i1,i2,i3⟩:=Ff hmem
  push_cast[hv2]
  refine Ad (n:=vars.length) (R:=fun k=>(∀ j,j<k->(fun x=>decide (t.name=x)) (vars.getD j default)=false)->K8.L7 (Bo vars) (V0 xs) (.ro (cT t) 0) (.ptr 0 0) (Bo vars) (.int .i64 vars.length) (.int .i64 k) 0
   [.cells Ax [.int .i64 0,.str [],.bool false,.sl 4 [],.int .i64 0,.int .i64 0]] (Bx 0 K8.rs fun x' H'=>x'=PX (xs.getD (Mu t.name vars) default)/\H'=[])) ?_ ?_ 0 (by omega) (fun j hj=>by omega)
  ·intro k hk ih2 hq
   refine A8.2 ?_
   generalize hx:vars.getD k default=s
   by_cases h:s=t.name
   ·have hi:=GF (p:=fun x=>decide (t.name=x)) hk (by show decide (t.name=vars.getD k default)=true;rw[hx,h];simp) hq
    have hk2:Mu t.name vars=k:=by unfold Mu;rw[hi];simp
    push_cast[BT hk,hx,eq_true h]
    exact⟨by omega,A1 (by push_cast[K8.rs,hk2])⟩
   ·push_cast[BT hk,hx,eq_false h,CV (show k<2^62 by omega)]
    exact ih2 fun j hj=>by
     rcases Nat.lt_succ_iff_lt_or_eq.1 hj with hj | rfl
     ·exact hq j hj
     ·rw[hx];simpa using fun e=>h e.symm
  ·intro hq
   exfalso
   have:=hq _ i2
   rw[i3]at this
   simp at this
 | false =>
  rw[if_neg (by simp)]
  push_cast[hv2]
  refine Ad (n:=t.args.length) (R:=fun k=>K8.L3 (Bo vars) (V0 xs) (.ro (cT t) 0) (.ptr 0 0) (Bf cN 1 6 ((t.args.take k).map (Fi vars xs))) (Bg t.args) (.int .i64 t.args.length) (.int .i64 k) 0
   [.cells Ax [.int .i64 0,.str [],.bool false,.sl 4 [],.int .i64 0,.int .i64 0],.arr Ax 6 k] (Bx 0 K8.rs fun x' H'=>x'=PX (A0.mk 0 t.name false (List.map (Fi vars xs) t.args))/\H'=[])) ?_ ?_ 0 (by omega)
  ·intro k hk ih2
   have hm:=A4 hk
   have hm2:=Bt hm
   have hlen:((t.args.take k).map (Fi vars xs)).length=k:=by simp;omega
   rw[Aa hk,List.map_append,List.map_singleton]at ih2
   refine A8.2 ?_
   push_cast[BT hk]
   refine .of (ih _ hm (by omega) (BJ hf hm) fun v hv=>ho v (AE.2 (.inr ⟨_,hm,hv⟩))) ?_
   push_cast[hlen,CV (show k<2^62 by omega)]
   exact⟨by unfold Ah;omega,ih2⟩
  ·have hd:∀ a∈t.args.map (Fi vars xs),Bd a<2^50:=fun a ha=>by
    obtain⟨b,hb,rfl⟩:=List.mem_map.1 ha
    have h1:=Bt hb
    have h2:=GX b
    rw[Nh]
    have h3:=fo (g:=Wm vars xs) (M:=M) b fun v hv=>hM _ (Wn hl (ho v (AE.2 (.inr ⟨_,hb,hv⟩))))
    omega
   have hw:=RG (.mk 0 t.name false []) (t.args.map (Fi vars xs)) (by simp;omega) hd
   refine A8.2 ?_
   push_cast[B8 (Nat.le_refl _),List.take_length]
   refine .of hw ?_
   push_cast
   exact A1 (by push_cast[K8.rs];rfl)
def WI (vars:List A9)(g:Cq)(p:A9->Bool)(l:List A0):List A0:=(List.range l.length).map fun k=>if p (vars.getD k default) then g (vars.getD k default) else l.getD k default
theorem Ms {vars:List A9}{g:Cq}{p:A9->Bool}{l:List A0}:(WI vars g p l).length=l.length:=by simp[WI]
theorem QO {vars:List A9}{g:Cq}{p:A9->Bool}{l:List A0}{k:Nat}(hk:k<l.length):(WI vars g p l)[k]?=some (if p (vars.getD k default) then g (vars.getD k default) else l.getD k default):=by
 unfold WI;rw[List.getElem?_map,List.getElem?_range hk];rfl
theorem qE {vars:List A9}{g:Cq}{p:A9->Bool}{l:List A0}{k:Nat}(hk:k<l.length):(WI vars g p l).getD k default=if p (vars.getD k default) then g (vars.getD k default) else l.getD k default:=by
 rw[List.getD_eq_getElem?_getD,QO hk];rfl
theorem pp {vars:List A9}{g:Cq}{p:A9->Bool}(hp:∀ v,p v=false)(l:List A0):WI vars g p l=l:=by
 apply List.ext_getElem? fun k=>?_
 by_cases hk:k<l.length
 ·rw[QO hk,hp];simp[List.getD_eq_getElem?_getD,hk]
 ·rw[List.getElem?_eq_none (by rw[Ms];omega),List.getElem?_eq_none (by omega)]
theorem xS {vars:List A9}{g:Cq}{p q:A9->Bool}{l:List A0}:WI vars g p (WI vars g q l)=WI vars g (fun v=>q v||p v) l:=by
 apply List.ext_getElem? fun k=>?_
 by_cases hk:k<l.length
 ·rw[QO (by rw[Ms];exact hk),QO hk,qE hk]
  cases p (vars.getD k default)<;>cases q (vars.getD k default)<;>simp
 ·rw[List.getElem?_eq_none (by rw[Ms,Ms];omega),List.getElem?_eq_none (by rw[Ms];omega)]
theorem Ub {vars:List A9}{g:Cq}{p q:A9->Bool}{l:List A0}(h:∀ v,p v=q v):WI vars g p l=WI vars g q l:=by
 rw[show p=q from funext h]
theorem xr {vars:List A9}(hn:vars.Nodup){g:Cq}{v:A9}(hv:v∈vars){l:List A0}(hl:l.length=vars.length):WI vars g (fun w=>decide (v=w)) l=l.set (Mu v vars) (g v):=by
 obtain⟨i1,i2,i3⟩:=Ff hv
 apply List.ext_getElem? fun k=>?_
 by_cases hk:k<l.length
 ·rw[QO hk,List.getElem?_set]
  by_cases he:Mu v vars=k
  ·subst he
   rw[i3];simp[hk]
  ·have:v≠vars.getD k default:=fun e=>he (by rw[e];exact dO hn (by omega))
   have hd:decide (v=vars.getD k default)=false:=decide_eq_false this
   rw[if_neg he]
   simp only[hd]
   simp[List.getD_eq_getElem?_getD,hk]
 ·rw[List.getElem?_eq_none (by rw[Ms];omega),List.getElem?_eq_none (by rw[List.length_set];omega)]
theorem vT {vars:List A9}{g:Cq}{p:A9->Bool}(hp:∀ v∈vars,p v=true){l:List A0}(hl:l.length=vars.length):WI vars g p l=vars.map g:=by
 apply List.ext_getElem? fun k=>?_
 by_cases hk:k<l.length
 ·have hk2:k<vars.length:=by omega
  rw[QO hk,hp _ (A4 hk2),List.getElem?_map]
  simp[List.getD_eq_getElem?_getD,hk2]
 ·rw[List.getElem?_eq_none (by rw[Ms];omega),List.getElem?_eq_none (by simp;omega)]
theorem Zu (v:A9):∀ a b:List Term,EQ v (a++b)=(EQ v a||EQ v b)
 | [],b=>by simp[EQ]
 | x::a,b=>by simp only[List.cons_append,EQ,Zu v a b,Bool.or_assoc]
abbrev mRo (l:List A0):Ob:=.row A7 4 (l.map cM)
abbrev Ow (l:List A0):List Ob:=[mRo l]
theorem ak (l:List A0):IU 1 (Ow l):=⟨rfl,by
 show [A5 (AM 1) (mRo l)]=_
 push_cast[Ce]⟩
theorem qY {l:List A0}{i:Nat}(hi:i<l.length)(m:A0):(l.map cM).set i (put 0 (cM m) ((l.map cM).getD i []))=(l.set i m).map cM:=by
 have e:(l.map cM).getD i []=cM (l.getD i default):=by simp[List.getD_eq_getElem?_getD,hi]
 rw[e,List.map_set];rfl
theorem dI (vars:List A9)(hn:vars.Nodup)(hvl:vars.length<2^40)(g:Cq):∀ t:Term,size t<2^39->vfl t=true->(∀ v,Cz v t=true->v∈vars)->∀ l:List A0,l.length=vars.length ->
  Spec prog MF [Ap t,Ar (pl g t),Bo vars,.rw 0 4 l.length] (Ow l) (fun x' H'=>x'=.bool true/\H'=Ow (WI vars g (fun v=>Cz v t) l)):=by
 intro t
 induction t using Ag with
 | h t ih =>
 intro hz hf ho l hl
 have hst:=AJ t
 have hll:=Aj t.args
 refine AK mixed KT.ok rfl ?_
 cases hv:t.var with
 | true =>
  have hmem:t.name∈vars:=ho _ (AE.2 (.inl ⟨hv,rfl⟩))
  obtain⟨i1,i2,i3⟩:=Ff hmem
  have hw:WI vars g (fun v=>Cz v t) l=l.set (Mu t.name vars) (g t.name):=by
   rw[<-xr hn hmem hl]
   exact Ub fun v=>by
    by_cases e:t.name=v
    ·subst e;rw[(ME hf hv).2 rfl];simp
    ·simp only[decide_eq_false e]
     cases ho2:Cz v t with
     | false=>rfl
     | true=>exact absurd ((ME hf hv).1 ho2) e
  rw[hw,Ja hv]
  have hidx:=Vb vars t.name (by omega)
  rw[i1]at hidx
  push_cast[hv]
  refine .of hidx ?_
  push_cast[List.length_map,qY (l:=l) (i:=Mu t.name vars) (by omega),hl]
  exact⟨by omega,i2,An (H:=Ow (l.set (Mu t.name vars) (g t.name))) (J:=[]) (ak _) rfl ⟨by push_cast[KT.rs],rfl⟩⟩
 | false =>
  rw[IE hv]
  have e1:(A0.mk 0 t.name false (t.args.map (pl g))).rule=0:=rfl
  have e2:(A0.mk 0 t.name false (t.args.map (pl g))).name=t.name:=rfl
  have e3:(A0.mk 0 t.name false (t.args.map (pl g))).var=false:=rfl
  have e4:(A0.mk 0 t.name false (t.args.map (pl g))).args=t.args.map (pl g):=rfl
  push_cast[hv,e1,e2,e3,e4,List.length_map,Ce]
  refine Ad (n:=t.args.length) (R:=fun k=>∀ l2:List A0,l2=WI vars g (fun v=>EQ v (t.args.take k)) l->KT.L3 (Bo vars) (.rw 0 4 l.length) (.ro (cT t) 0) (.ro (cM (A0.mk 0 t.name false (t.args.map (pl g)))) 0) (.int .i64 t.args.length) (.int .i64 k) 1 (Ow l2) (Bx 1 KT.rs fun x' H'=>x'=.bool true/\H'=Ow (WI vars g (fun v=>Cz v t) l))) ?_ ?_ 0 (by omega) l (pp (fun v=>rfl) l).symm
  ·intro k hk ih2 l2 hl2
   have hm:=A4 hk
   have hm2:=Bt hm
   have hl3:l2.length=l.length:=by rw[hl2];exact Ms
   have hcall:=ih _ hm (by omega) (BJ hf hm) (fun v hv=>ho v (AE.2 (.inr ⟨_,hm,hv⟩))) l2 (by omega)
   rw[hl3]at hcall
   refine A8.2 ?_
   have e5:(t.args.map (pl g)).getD k default=pl g (t.args.getD k default):=by simp[List.getD_eq_getElem?_getD,hk]
   push_cast[BT hk,e4,List.length_map,e5]
   have h0:Ay [0] 0=some 0:=rfl
   refine By.some [0] (by simp) (by simp) (R:=fun x' H'=>x'=.bool true/\H'=Ow (WI vars g (fun v=>Cz v (t.args.getD k default)) l2)) ?_ ?_
   ·have e:give [0] (Ow l2)=Ow l2:=by
     show [A5 (Ay [0]) (mRo l2)]=_
     push_cast[Ce]
    push_cast[h0,hl3]
    push_cast at e
    rw[e]
    exact hcall
   rintro x' H' ⟨rfl,rfl⟩ _
   have e:takeB [0] (Ow l2) (Ow (WI vars g (fun v=>Cz v (t.args.getD k default)) l2))=Ow (WI vars g (fun v=>Cz v (t.args.getD k default)) l2):=by
    show [A5 (BY [0] 1) (mRo (WI vars g (fun v=>Cz v (t.args.getD k default)) l2))]=_
    push_cast[Ce]
   push_cast at e
   rw[e]
   have this:=ih2 (WI vars g (fun v=>Cz v (t.args.getD k default)) l2) (by
    rw[hl2,xS,Aa hk]
    refine (Ub fun v=>?_).symm
    show EQ v (t.args.take k++[t.args.getD k default])=_
    rw[Zu]
    simp[EQ])
   push_cast[CV (show k<2^62 by omega),Ce]
   push_cast at this
   exact this
  ·intro l2 hl2
   refine A8.2 ?_
   push_cast[B8 (Nat.le_refl _)]
   have e:l2=WI vars g (fun v=>Cz v t) l:=by
    rw[hl2,List.take_length]
    exact Ub fun v=>by rw[UA,hv];simp
   subst e
   exact An (H:=Ow _) (J:=[]) (ak _) rfl ⟨by push_cast[KT.rs],rfl⟩
theorem Q0 {x:A2}(hx:vfl x.left=true)(hs:tb x.left<2^38)(g:Cq):PF EW [JW x,Ar (pl g x.left)] (.tup [CB ((AA [x.left]).map g),.bool true]):=by
 have hvs:=M2 x (by omega)
 have hz:=AS x.left
 have hvl:(AA [x.left]).length<2^38:=by have:=Fk [x.left];simp only[Ac]at this;omega
 have hm:=dI (AA [x.left]) (KD _) (by omega) g x.left (by omega) hx (fun v hv=>(DQ v _).2 hv) (List.replicate (AA [x.left]).length zM) (by simp)
 rw[vT (fun v hv=>(DQ v _).1 hv) (by simp),List.length_replicate]at hm
 generalize AA [x.left]=vars at *
 refine Ab Ul.ok rfl ?_
 push_cast
 refine .of hvs ?_
 have hz0:List.replicate vars.length [V.int IntKind.i64 0,V.str [],V.bool false,V.sl 4 []]=(List.replicate vars.length zM).map cM:=by rw[List.map_replicate];rfl
 have h0:Ay [0] 0=some 0:=rfl
 push_cast[hz0]
 refine⟨⟨by unfold Ah;omega,by unfold Ah;omega⟩,?_⟩
 refine By.some [0] (by simp) (by simp) (R:=fun x' H'=>x'=.bool true/\H'=Ow (vars.map g)) ?_ ?_
 ·have e:give [0] (Ow (List.replicate vars.length zM))=Ow (List.replicate vars.length zM):=by
   show [A5 (Ay [0]) (mRo (List.replicate vars.length zM))]=_
   push_cast[Ce]
  push_cast[h0]
  push_cast at e
  rw[e]
  exact hm
 rintro x' H' ⟨rfl,rfl⟩ _
 have e:takeB [0] (Ow (List.replicate vars.length zM)) (Ow (vars.map g))=Ow (vars.map g):=by
  show [A5 (BY [0] 1) (mRo (vars.map g))]=_
  push_cast[Ce]
 push_cast at e
 rw[e]
 push_cast[Ce]
 have e2:V.sl 4 ((vars.map g).map cM)=CB (vars.map g):=rfl
 rw[e2]
 exact⟨by simp,A1 (by push_cast[Ul.rs])⟩
end Go.Dw
section
namespace Go.Dw
theorem P1 {r:List A2}{F:A0->A0->A0}(a b:List A0)(hla:a.length<=b.length)(hl:a.length<2^38)
  (h:∀ k,k<a.length->PF DU [Ak r,Ar (a.getD k default),Ar (b.getD k default)] (PX (F (a.getD k default) (b.getD k default)))) :
  PF Fs [Ak r,CB a,CB b] (V0 (List.zipWith F a b)):=by
 have hZl:(List.zipWith F a b).length=a.length:=by rw[List.length_zipWith];omega
 refine Ab GR.ok rfl ?_
 push_cast
 refine Ad (n:=a.length) (R:=fun k=>GR.L3 (Ak r) (CB a) (CB b) (Bf cN 0 6 ((List.zipWith F a b).take k)) (.int .i64 a.length) (.int .i64 k) 0 [.arr Ax 6 k] (Bx 0 GR.rs fun x' H'=>x'=V0 (List.zipWith F a b)/\H'=[])) ?_ ?_ 0 (by omega)
 ·intro k hk ih
  have hkb:k<b.length:=by omega
  have hcall:=h k hk
  have hge:(List.zipWith F a b).getD k default=F (a.getD k default) (b.getD k default):=by
   have e1:(List.zipWith F a b)[k]?=some (F (a.getD k default) (b.getD k default)):=by
    have ea:a[k]?=some (a.getD k default):=by simp[List.getD_eq_getElem?_getD,hk]
    have eb:b[k]?=some (b.getD k default):=by simp[List.getD_eq_getElem?_getD,hkb]
    rw[List.getElem?_zipWith,ea,eb]
   rw[List.getD_eq_getElem?_getD,e1];rfl
  have hlen:((List.zipWith F a b).take k).length=k:=by simp;omega
  rw[Aa (show k<(List.zipWith F a b).length by omega),hge]at ih
  refine A8.2 ?_
  push_cast[BT hk,BT hkb]
  refine .of hcall ?_
  push_cast[hlen,CV (show k<2^62 by omega)]
  push_cast at ih
  exact⟨by unfold Ah;omega,ih⟩
 ·refine A8.2 ?_
  have e:(List.zipWith F a b).take a.length=List.zipWith F a b:=List.take_of_length_le (by omega)
  push_cast[B8 (Nat.le_refl _),e]
  exact A1 (by push_cast[GR.rs])
section
variable {r:List A2} (h:CE r)
include h
theorem CE.r18_residual_s (hrl:r.length<=64)(hsz:∀ k,k<r.length->tb (Gk r k)<2^38/\size (YC r k)<2^38)(hD:∀ m:A0,depth (Au r m).right+1<=4001):∀ (n:Nat),n<=2^20->∀ (a b:A0),As a+As b<=n->GY r a->GY r b->Af r A2.left b=Af r A2.left a ->
  PF DU [Ak r,Ar a,Ar b] (PX (rest r a b))
 | 0,_,a,b,hn,_,_,_=>by have:=CK a;omega
 | n+1,hn2,a,b,hn,ha,hb,hs=>by
  have hdep:∀ x y:A0,As x+As y<=n+1->Bd (rest r x y)<=4001*2^20:=fun x y hxy=>by
   have h1:=NT hD (n+1) x y hxy
   have h2:=Nat.mul_le_mul_left 4001 hn2
   omega
  rcases h.shapes ha hb hs with ⟨a0,b0,hbe,hm⟩|⟨k,α,β,f,g,hk,rfl,rfl,hαβ,hp⟩
  ·have hl:b.args.length=a.args.length:=by have:=congrArg List.length hm;simpa using this
   have hal:a.args.length<2^38:=by
    have:=AV a.args
    have:=AQ a
    omega
   have hres:=P1 (r:=r) (F:=rest r) a.args b.args (by omega) hal fun k hk=>by
    have h1:=A4 hk
    have h2:=A4 (l:=b.args) (k:=k) (by omega)
    have:=Bp h1
    have:=Bp h2
    exact CE.r18_residual_s hrl hsz hD n (by omega) _ _ (by omega) (ha.arg h1) (hb.arg h2) (aR hm hk)
   have hwith:=RG a (List.zipWith (rest r) a.args b.args) (by rw[List.length_zipWith];omega) fun z hz=>by
    obtain⟨x,hx,y,hy,rfl⟩:=SZ hz
    have:=Bp hx
    have:=Bp hy
    have:=hdep x y (by omega)
    omega
   rw[AcQ a0 b0]
   rw[a0]at hwith
   refine Ab Ed.ok rfl ?_
   push_cast[a0,b0]
   refine .of hres ?_
   push_cast
   refine .of hwith ?_
   push_cast
   exact A1 (by push_cast[Ed.rs])
  ·obtain⟨q1,q2,q3,q4,q5,q6,q7⟩:=h.left hk
   obtain⟨s1,s2⟩:=hsz k hk
   have hF:∀ v,v∈Da r k->PF DU [Ak r,Ar (f v),Ar (g v)] (PX (rest r (f v) (g v))):=fun v hv=>by
    obtain⟨p1,p2,p3,p4⟩:=hp v hv
    exact CE.r18_residual_s hrl hsz hD n (by omega) _ _ (by omega) p1 p2 p3
   have hst:=AS (Gk r k)
   have hvl:(Da r k).length<2^38:=by have:=Fk [Gk r k];simp only[Ac]at this;unfold Da;omega
   have hres:=P1 (r:=r) (F:=rest r) ((Da r k).map f) ((Da r k).map g) (by simp) (by simpa using hvl) fun j hj=>by
    rw[List.length_map]at hj
    have e:∀ f:Cq,((Da r k).map f).getD j default=f ((Da r k).getD j default):=fun f=>by simp[List.getD_eq_getElem?_getD,hj]
    rw[e,e]
    exact hF _ (A4 hj)
   rw[IL]at hres
   have hd1:∀ z∈(Da r k).map (fun v=>rest r (f v) (g v)),Bd z<=4001*2^20:=fun z hz=>by
    obtain⟨v,hv,rfl⟩:=List.mem_map.1 hz
    obtain⟨p1,p2,p3,p4⟩:=hp v hv
    exact hdep _ _ (by omega)
   have hkw:IntKind.i64.wrap ((k:Int)+1-1)=k:=by
    rw[Int.add_sub_cancel];exact Bs (by omega) (by omega)
   have h0:((k:Int)+1=0)=False:=by simp;omega
   have h1:(0:Int)<k+1:=by omega
   have hlr:(r.getD k default).left=Gk r k:=rfl
   have hrr:(r.getD k default).right=YC r k:=rfl
   have hv1:=M2 (r.getD k default) (by rw[hlr];omega)
   rw[hlr]at hv1
   have hv1:PF Gb [JW (r.getD k default)] (Bo (Da r k)):=hv1
   rw[Ou h hk]
   cases β with
   | true =>
    have hfill:=iD (Da r k) ((Da r k).map fun v=>rest r (f v) (g v)) (by omega) (by simp) (4001*2^20) hd1 (by omega) (YC r k) (by omega) q6 fun v hv=>q7 v hv
    have e:Fi (Da r k) ((Da r k).map fun v=>rest r (f v) (g v)) (YC r k)=pl (fun v=>rest r (f v) (g v)) (YC r k):=by
     rw[Nh]
     exact Ni _ fun v hv=>SH _ (q7 v hv)
    rw[e]at hfill
    rw[if_pos rfl]
    have eb:fm r k true g=ru r k g:=rfl
    have hlt:(k:Int)<r.length:=by omega
    refine Ab Ed.ok rfl ?_
    cases α with
    | true =>
     have ea:fm r k true f=ru r k f:=rfl
     push_cast[ea,eb,DY,CU,h0,h1,hkw]
     refine⟨hlt,.of hv1 ?_⟩
     push_cast[CU]
     refine .of hres ?_
     push_cast[hrr]
     refine .of hfill ?_
     push_cast
     exact A1 (by push_cast[Ed.rs])
    | false =>
     have ea:fm r k false f=pl f (Gk r k):=rfl
     have hr0:(pl f (Gk r k)).rule=0:=JQ q1
     have hmat:PF EW [JW (r.getD k default),Ar (pl f (Gk r k))] (.tup [CB ((Da r k).map f),.bool true]):=Q0 (x:=r.getD k default) q2 s1 f
     push_cast[ea,eb,DY,CU,h0,h1,hkw,hr0]
     refine⟨hlt,.of hmat ?_⟩
     push_cast
     refine .of hv1 ?_
     push_cast[CU]
     refine .of hres ?_
     push_cast[hrr]
     refine .of hfill ?_
     push_cast
     exact A1 (by push_cast[Ed.rs])
   | false =>
    have hα:α=true:=by simpa using hαβ
    subst hα
    rw[if_neg (by simp)]
    have ea:fm r k true f=ru r k f:=rfl
    have eb:fm r k false g=pl g (Gk r k):=rfl
    have hr0:(pl g (Gk r k)).rule=0:=JQ q1
    have hlt:(k:Int)<r.length:=by omega
    have hmat:PF EW [JW (r.getD k default),Ar (pl g (Gk r k))] (.tup [CB ((Da r k).map g),.bool true]):=Q0 (x:=r.getD k default) q2 s1 g
    have hwith:=RG (ru r k f) ((Da r k).map fun v=>rest r (f v) (g v)) (by simp;omega) fun z hz=>by have:=hd1 z hz;omega
    have hwith:PF J6 [Ar (ru r k f),V0 ((Da r k).map fun v=>rest r (f v) (g v))] (PX (fm r k true fun v=>rest r (f v) (g v))):=hwith
    have h00:¬ (0:Int)<0:=by omega
    refine Ab Ed.ok rfl ?_
    push_cast[ea,eb,DY,CU,h0,h1,hkw,hr0]
    refine⟨hlt,.of hmat ?_⟩
    push_cast[CU]
    refine .of hres ?_
    push_cast
    refine .of hwith ?_
    push_cast
    exact A1 (by push_cast[Ed.rs])
end
end Go.Dw
end
section
namespace Go.Dw
theorem fY (m:A0):PF Q3 [PX m] (.bool (M8 m)):=by
 have hc:(((cap (As m):Nat):Int)<=4000)=(As m<=4000):=propext (by unfold cap;split<;>constructor<;>intro h<;>omega)
 have hd:(((Bd m:Nat):Int)<=200)=(Bd m<=200):=propext (by omega)
 refine Ab QU.ok rfl ?_
 unfold M8
 by_cases h:As m<=4000
 ·push_cast[hc,hd,h]
  exact A1 (by push_cast[QU.rs])
 ·push_cast[hc,hd,h]
  exact A1 (by push_cast[QU.rs])
theorem bl {r:List A2}{a b:A0}(h:PF DU [Ak r,Ar a,Ar b] (PX (rest r a b))) :
  PF Ov [Ak r,Ar a,Ar b] (.tup [Ar (if M8 (rest r a b) then rest r a b else zM),.bool (M8 (rest r a b))]):=by
 have hs:=fY (rest r a b)
 refine Ab Oi.ok rfl ?_
 push_cast
 refine .of h ?_
 push_cast
 refine .of hs ?_
 cases hf:M8 (rest r a b)with
 | true =>
  push_cast
  exact A1 (by push_cast[Oi.rs])
 | false =>
  push_cast
  exact A1 (by push_cast[Oi.rs];rfl)
section
variable {r:List A2} (h:CE r)
include h
theorem CE.uni_comm:∀ (n:Nat)(a b:A0),As a+As b<=n->GY r a->GY r b->Af r A2.left b=Af r A2.left a->Hl r a b=Hl r b a
 | 0,a,b,hn,_,_,_=>by have:=CK a;omega
 | n+1,a,b,hn,ha,hb,hs=>by
  rcases h.shapes ha hb hs with ⟨a0,b0,hbe,hm⟩|⟨k,α,β,f,g,hk,rfl,rfl,hαβ,hp⟩
  ·have hl:b.args.length=a.args.length:=by have:=congrArg List.length hm;simpa using this
   have e1:Hl r a b=.mk 0 a.name a.var (List.zipWith (Hl r) a.args b.args):=by
    rw[Pz,if_neg (by omega),if_neg (by omega)]
   have e2:Hl r b a=.mk 0 b.name b.var (List.zipWith (Hl r) b.args a.args):=by
    rw[Pz,if_neg (by omega),if_neg (by omega)]
   have en:b.name=a.name:=by have:=congrArg A0.name hbe;exact this
   have ev:b.var=a.var:=by have:=congrArg A0.var hbe;exact this
   have e4:List.zipWith (Hl r) b.args a.args=List.zipWith (fun x y=>Hl r y x) a.args b.args:=List.zipWith_comm ..
   have e3:=jQ (F:=Hl r) (G:=fun x y=>Hl r y x) hl fun k hk=>by
    have h1:=A4 hk
    have h2:=A4 (l:=b.args) (k:=k) (by omega)
    have:=Bp h1
    have:=Bp h2
    exact CE.uni_comm n (a.args.getD k default) (b.args.getD k default) (by omega) (ha.arg h1) (hb.arg h2) (aR hm hk)
   rw[e1,e2,en,ev,e4,e3]
  ·have hi:∀ v∈Da r k,Hl r (f v) (g v)=Hl r (g v) (f v):=fun v hv=>by
    obtain⟨p1,p2,p3,p4⟩:=hp v hv
    exact CE.uni_comm n (f v) (g v) (by omega) p1 p2 p3
   rw[Xk h hk,Xk h hk,Bool.or_comm]
   exact tg hi
end
abbrev unG (a b:A0)(l:List A0):List Ob :=
 [.cells A7 (cM a),.cells A7 (cM b),.cells A7 [.int .i64 0,.str [],.bool false,.sl 4 []],.cells A7 [.int .i64 a.rule,.str a.name,.bool a.var,Bf cM 4 4 l],.arr A7 4 l.length]
theorem Xs {r:List A2}{F:A0->A0->A0}(a b:A0)(B:List A0)(hla:a.args.length<=B.length)(hl:a.args.length<2^38)
  (h:∀ k,k<a.args.length->PF F4 [Ak r,Ar (a.args.getD k default),Ar (B.getD k default)] (Ar (F (a.args.getD k default) (B.getD k default)))) :
  E7.L3 (Ak r) (.ptr 0 0) (.ptr 2 0) (CB B) (.ptr 3 0) (.int .i64 a.args.length) (.int .i64 0) 0 (unG a b []) (Bx 0 E7.rs fun x' H'=>x'=Ar (.mk a.rule a.name a.var (List.zipWith F a.args B))/\H'=[]):=by
 have hZl:(List.zipWith F a.args B).length=a.args.length:=by rw[List.length_zipWith];omega
 refine Ad (n:=a.args.length) (R:=fun k=>E7.L3 (Ak r) (.ptr 0 0) (.ptr 2 0) (CB B) (.ptr 3 0) (.int .i64 a.args.length) (.int .i64 k) 0 (unG a b ((List.zipWith F a.args B).take k)) (Bx 0 E7.rs fun x' H'=>x'=Ar (.mk a.rule a.name a.var (List.zipWith F a.args B))/\H'=[])) ?_ ?_ 0 (by omega)
 ·intro k hk ih
  have hkb:k<B.length:=by omega
  have hcall:=h k hk
  have hge:(List.zipWith F a.args B).getD k default=F (a.args.getD k default) (B.getD k default):=by
   have e1:(List.zipWith F a.args B)[k]?=some (F (a.args.getD k default) (B.getD k default)):=by
    have ea:a.args[k]?=some (a.args.getD k default):=by simp[List.getD_eq_getElem?_getD,hk]
    have eb:B[k]?=some (B.getD k default):=by simp[List.getD_eq_getElem?_getD,hkb]
    rw[List.getElem?_zipWith,ea,eb]
   rw[List.getD_eq_getElem?_getD,e1];rfl
  have hlen:((List.zipWith F a.args B).take k).length=k:=by simp;omega
  rw[Aa (show k<(List.zipWith F a.args B).length by omega),hge]at ih
  simp only[unG,List.length_append,List.length_singleton,hlen]at ih ⊢
  refine A8.2 ?_
  push_cast[BT hk,BT hkb]
  refine .of hcall ?_
  push_cast[hlen,CV (show k<2^62 by omega)]
  push_cast at ih
  exact⟨by unfold Ah;omega,ih⟩
 ·have e:(List.zipWith F a.args B).take a.args.length=List.zipWith F a.args B:=List.take_of_length_le (by omega)
  rw[e]
  refine A8.2 ?_
  push_cast[B8 (Nat.le_refl _)]
  refine A1 ?_
  push_cast[E7.rs,sj]
  try rfl
end Go.Dw
end
section
namespace Go.Dw
section
variable {r:List A2} (h:CE r)
include h
theorem CE.r18_union_s (hrl:r.length<=64)(hsz:∀ k,k<r.length->tb (Gk r k)<2^38):∀ (n:Nat),n<=2^20->∀ (a b:A0),As a+As b<=n->GY r a->GY r b->Af r A2.left b=Af r A2.left a ->
  PF F4 [Ak r,Ar a,Ar b] (Ar (Hl r a b))
 | 0,_,a,b,hn,_,_,_=>by have:=CK a;omega
 | n+1,hn2,a,b,hn,ha,hb,hs=>by
  rcases h.shapes ha hb hs with ⟨a0,b0,hbe,hm⟩|⟨k,α,β,f,g,hk,rfl,rfl,hαβ,hp⟩
  ·have hl:b.args.length=a.args.length:=by have:=congrArg List.length hm;simpa using this
   have hal:a.args.length<2^38:=by
    have:=AV a.args
    have:=AQ a
    omega
   have hloop:=Xs (r:=r) (F:=Hl r) a b b.args (by omega) hal fun k hk=>by
    have h1:=A4 hk
    have h2:=A4 (l:=b.args) (k:=k) (by omega)
    have:=Bp h1
    have:=Bp h2
    exact CE.r18_union_s hrl hsz n (by omega) _ _ (by omega) (ha.arg h1) (hb.arg h2) (aR hm hk)
   have e:Hl r a b=.mk a.rule a.name a.var (List.zipWith (Hl r) a.args b.args):=by
    rw[Pz,if_neg (by omega),if_neg (by omega),a0]
   rw[e]
   refine Ab E7.ok rfl ?_
   generalize (Bx 0 E7.rs fun x' H'=>x'=Ar (A0.mk a.rule a.name a.var (List.zipWith (Hl r) a.args b.args))/\H'=[])=Q at *
   simp only[unG,a0]at hloop
   push_cast[a0,b0]
   exact hloop
  ·obtain⟨q1,q2,q3,q4,q5,q6,q7⟩:=h.left hk
   have s1:=hsz k hk
   have hst:=AS (Gk r k)
   have hvl:(Da r k).length<2^38:=by have:=Fk [Gk r k];simp only[Ac]at this;unfold Da;omega
   have hget:∀ (f:Cq)(j:Nat),j<(Da r k).length->((Da r k).map f).getD j default=f ((Da r k).getD j default):=fun f j hj=>by simp[List.getD_eq_getElem?_getD,hj]
   have hkw:IntKind.i64.wrap ((k:Int)+1-1)=k:=by
    rw[Int.add_sub_cancel];exact Bs (by omega) (by omega)
   have h0:((k:Int)+1=0)=False:=by simp;omega
   have h1:(0:Int)<k+1:=by omega
   have hlt:(k:Int)<r.length:=by omega
   have hloop:∀ (f g:Cq)(b:A0),(∀ v∈Da r k,PF F4 [Ak r,Ar (f v),Ar (g v)] (Ar (Hl r (f v) (g v)))) ->
     E7.L3 (Ak r) (.ptr 0 0) (.ptr 2 0) (CB ((Da r k).map g)) (.ptr 3 0) (.int .i64 ((Da r k).length:Nat)) (.int .i64 0) 0 (unG (ru r k f) b []) (Bx 0 E7.rs fun x' H'=>x'=Ar (ru r k fun v=>Hl r (f v) (g v))/\H'=[]):=fun f g b hF=>by
    have e:=Xs (r:=r) (F:=Hl r) (ru r k f) b ((Da r k).map g) (by rw[CU];simp) (by rw[CU];simpa using hvl) fun j hj=>by
     rw[CU,List.length_map]at hj
     rw[CU,hget _ _ hj,hget _ _ hj]
     exact hF _ (A4 hj)
    rw[CU,List.length_map,IL]at e
    exact e
   have hF:∀ v,v∈Da r k->PF F4 [Ak r,Ar (f v),Ar (g v)] (Ar (Hl r (f v) (g v))):=fun v hv=>by
    obtain⟨p1,p2,p3,p4⟩:=hp v hv
    exact CE.r18_union_s hrl hsz n (by omega) _ _ (by omega) p1 p2 p3
   have hG:∀ v,v∈Da r k->PF F4 [Ak r,Ar (g v),Ar (f v)] (Ar (Hl r (g v) (f v))):=fun v hv=>by
    obtain⟨p1,p2,p3,p4⟩:=hp v hv
    exact CE.r18_union_s hrl hsz n (by omega) _ _ (by omega) p2 p1 p3.symm
   have hcm:∀ v∈Da r k,Hl r (g v) (f v)=Hl r (f v) (g v):=fun v hv=>by
    obtain⟨p1,p2,p3,p4⟩:=hp v hv
    exact (h.uni_comm _ _ _ (Nat.le_refl _) p1 p2 p3).symm
   rw[Xk h hk]
   have ea:∀ f,fm r k true f=ru r k f:=fun _=>rfl
   have eb:∀ f,fm r k false f=pl f (Gk r k):=fun _=>rfl
   have hr0:∀ f,(pl f (Gk r k)).rule=0:=fun f=>JQ q1
   have hmat:∀ f,PF EW [JW (r.getD k default),Ar (pl f (Gk r k))] (.tup [CB ((Da r k).map f),.bool true]):=fun f=>Q0 (x:=r.getD k default) q2 s1 f
   have n1:∀ f,(ru r k f).name=[]:=fun _=>rfl
   have n2:∀ f,(ru r k f).var=false:=fun _=>rfl
   cases α with
   | true =>
    have e:=hloop f g (fm r k β g) hF
    simp only[unG,DY,n1,n2]at e
    refine Ab E7.ok rfl ?_
    cases β with
    | true =>
     push_cast[ea,eb,DY,CU,h0,h1,hkw,n1,n2,List.length_map]
     exact e
    | false =>
     push_cast[ea,eb,DY,CU,h0,h1,hkw,hr0]
     refine⟨hlt,.of (hmat g) ?_⟩
     push_cast[DY,CU,n1,n2,List.length_map]
     exact e
   | false =>
    have hβ:β=true:=by simpa using hαβ
    subst hβ
    have e:=hloop g f (pl f (Gk r k)) hG
    rw[gv hcm]at e
    simp only[unG,DY,n1,n2]at e
    refine Ab E7.ok rfl ?_
    push_cast[ea,eb,DY,CU,h0,h1,hkw,hr0]
    refine⟨hlt,.of (hmat f) ?_⟩
    push_cast[DY,CU,n1,n2,List.length_map]
    exact e
end
theorem ZH {r:List A2}{a b:A0}(h:FL r a b=0):(∀ k,k<r.length->tb (Gk r k)<2^38/\size (YC r k)<2^38)/\(∀ m:A0,depth (Au r m).right+1<=4001)/\As a+As b<=2^20:=by
 obtain⟨h1,h2,h3,h4⟩:=eL h
 obtain⟨a1,a2,a3,a4,a5⟩:=M0 h2
 obtain⟨b1,b2,b3,b4,b5⟩:=M0 h3
 have hg:=HJ (eG h1).2
 refine⟨fun k hk=>?_,fun m=>?_,?_⟩
 ·have hx:=hg.1 _ (A4 hk)
  have:=hx.l.tb
  have:=hx.r.sz
  exact⟨by unfold Gk;omega,by unfold YC;omega⟩
 ·unfold Au
  by_cases hi:(m.rule-1).toNat<r.length
  ·have hx:=hg.1 _ (A4 (l:=r) hi)
   have:=hx.r.sz
   have:=GX (r.getD (m.rule-1).toNat default).right
   omega
  ·rw[List.getD_eq_getElem?_getD,List.getElem?_eq_none (by omega)]
   decide
 ·have:=(FC a1).2.2.1
  have:=(FC b1).2.2.1
  omega
theorem WH {r:List A2}{a b:A0}(hr:KZ r<2^28)(ha:mb a<2^28)(hb:mb b<2^28):PF LF [Ak r,Ar a,Ar b] (.tup [Ar (Px r a b).1,.int .i64 (Px r a b).2]):=by
 have h0:=P4 hr ha hb
 unfold Px
 refine Ab Ii.ok rfl ?_
 push_cast
 refine .of h0 ?_
 by_cases hp:FL r a b=0
 ·obtain⟨g1,g2,g3,g4,g5,g6,g7,g8,g9⟩:=QY hp
  obtain⟨m1,m2,m3⟩:=ZH hp
  have h1:=bl (g1.r18_residual_s g8 m1 m2 _ m3 a b (Nat.le_refl _) g2 g3 g4)
  rw[if_neg (by simp[hp])]
  push_cast[hp]
  refine .of h1 ?_
  cases hf:M8 (rest r a b)with
  | true =>
   push_cast
   exact A1 (by push_cast[Ii.rs])
  | false =>
   push_cast
   exact A1 (by push_cast[Ii.rs];rfl)
 ·rw[if_pos hp]
  push_cast[hp]
  exact A1 (by push_cast[Ii.rs];rfl)
theorem dB {r:List A2}{a b:A0}(hr:KZ r<2^28)(ha:mb a<2^28)(hb:mb b<2^28):PF PM [Ak r,Ar a,Ar b] (.tup [Ar (U6 r a b).1,.int .i64 (U6 r a b).2]):=by
 have h0:=P4 hr ha hb
 unfold U6
 refine Ab ND.ok rfl ?_
 push_cast
 refine .of h0 ?_
 by_cases hp:FL r a b=0
 ·obtain⟨g1,g2,g3,g4,g5,g6,g7,g8,g9⟩:=QY hp
  obtain⟨m1,m2,m3⟩:=ZH hp
  have h1:=g1.r18_union_s g8 (fun k hk=>(m1 k hk).1) _ m3 a b (Nat.le_refl _) g2 g3 g4
  have hk:=g1.uni_ok _ a b (Nat.le_refl _) g2 g3 g4
  have h2:=Vy (Hl r a b) (by
   have:=g1.size_le _ _ (Nat.le_refl _) hk.1
   rw[hk.2]at this
   have:=Zf g5
   omega)
  rw[if_neg (by simp[hp])]
  push_cast[hp]
  refine .of h1 ?_
  push_cast
  refine .of h2 ?_
  cases hf:M8 (Hl r a b)with
  | true =>
   push_cast
   exact A1 (by push_cast[ND.rs])
  | false =>
   push_cast
   exact A1 (by push_cast[ND.rs];rfl)
 ·rw[if_pos hp]
  push_cast[hp]
  exact A1 (by push_cast[ND.rs];rfl)
end Go.Dw
end
namespace Go.Dw
theorem hJ {a b:Term}(ha:a.var=false)(hb:b.var=false)(hn:a.name≠b.name):EP a b=([],false,0):=by
 have h:AF (AZ 1) [] [a] [b]=some ([],false):=by
  simp only[AF,AZ,DR,ha,hb,Bool.false_eq_true,if_false]
  rw[if_pos (.inl hn)]
 unfold EP K0
 rw[Nr h,if_pos rfl]
theorem UX {a b:A2}{pos:List Int}{sub:Term}(h1:sub.var=false)(h2:b.left.var=false)(h3:sub.name≠b.left.name):DV a b pos sub=(false,0):=by
 unfold DV;rw[hJ h1 h2 h3,if_pos rfl]
theorem fA {r:List A2}{i j:Nat}{a:A2}{pos:List Int}{sub:Term}(h:DV a (Ch [121] (r.getD j default)) pos sub=(false,0)):Kq r i a pos sub [] j=([],0):=by
 unfold Kq
 split
 ·rfl
 ·rw[h];rfl
theorem Xa {r:List A2}{i:Nat}{a:A2}{sub:Term}:Kq r i a [] sub [] i=([],0):=by
 unfold Kq
 rw[if_pos ⟨rfl,rfl⟩]
def vX8:Term:=.mk [120] true []
def tA8:Term:=.mk [97] false []
def tB8:Term:=.mk [98] false []
def E1:List A2:=[⟨.mk [102] false [vX8],.mk [103] false [vX8,vX8]⟩,⟨tA8,tB8⟩]
def mA8:A0:=.mk 0 [97] false []
def pG:A0:=.mk 2 [] false []
def um:A0:=.mk 1 [] false [mA8]
def xg:A0:=.mk 0 [102] false [pG]
theorem ze (pre:A9):∃ w,(Ch pre (E1.getD 0 default)).left=.mk [102] false [.mk w true []]:=⟨_,rfl⟩
theorem sm (pre:A9):(Ch pre (E1.getD 1 default)).left=.mk [97] false []:=rfl
theorem WE:List.range E1.length=[0,1]:=rfl
theorem Aay:LR E1 [] 0=([],0):=by
 unfold LR
 obtain⟨w,hw⟩:=ze [120]
 rw[hw]
 have hv:Aq (.mk [102] false [.mk w true []]) []=[([],.mk [102] false [.mk w true []]),([0],.mk w true [])]:=rfl
 rw[hv]
 have h1:Ku E1 0 (Ch [120] (E1.getD 0 default)) [] ([],.mk [102] false [.mk w true []])=([],0):=by
  unfold Ku
  rw[if_neg (by simp[Term.var]),WE]
  have e:Kq E1 0 (Ch [120] (E1.getD 0 default)) [] (.mk [102] false [.mk w true []]) [] 1=([],0):=fA (UX rfl (by rw[sm];rfl) (by rw[sm];show ([102]:A9)≠[97];decide))
  rw[Bz Xa,Bz e];rfl
 have h2:Ku E1 0 (Ch [120] (E1.getD 0 default)) [] ([0],.mk w true [])=([],0):=by
  unfold Ku
  exact if_pos rfl
 rw[Bz h1,Bz h2];rfl
theorem zV:LR E1 [] 1=([],0):=by
 unfold LR
 rw[sm]
 have hv:Aq (.mk [97] false []) []=[([],.mk [97] false [])]:=rfl
 rw[hv]
 have h1:Ku E1 1 (Ch [120] (E1.getD 1 default)) [] ([],.mk [97] false [])=([],0):=by
  unfold Ku
  rw[if_neg (by simp[Term.var]),WE]
  obtain⟨w,hw⟩:=ze [121]
  have e:Kq E1 1 (Ch [120] (E1.getD 1 default)) [] (.mk [97] false []) [] 0=([],0):=fA (UX rfl (by rw[hw];rfl) (by rw[hw];show ([97]:A9)≠[102];decide))
  rw[Bz e,Bz Xa];rfl
 rw[Bz h1];rfl
theorem zX:OA E1=([],0):=by
 unfold OA
 rw[WE,Bz Aay,Bz zV];rfl
theorem AaS:Am E1=0:=by decide +kernel
theorem fQ:ES E1=(true,0):=by
 unfold ES
 rw[if_neg (by rw[AaS];simp),zX,if_neg (by simp)]
 have:(E1.all fun x=>PY x.left)=true:=by decide +kernel
 rw[this];rfl
theorem dN:Jw E1=0:=by
 unfold Jw
 rw[fQ];rfl
theorem jP:CE E1:=eW fQ
theorem ue:Da E1 0=[[120]]:=by
 unfold Da Gk AA
 have:HZ [] [(E1.getD 0 default).left]=[[120]]:=by decide
 rw[this]
 unfold Proofs.sortS
 exact List.mergeSort_of_pairwise (by decide)
theorem qQ:Da E1 1=[]:=by
 unfold Da Gk AA
 have:HZ [] [(E1.getD 1 default).left]=[]:=by decide
 rw[this]
 unfold Proofs.sortS
 exact List.mergeSort_of_pairwise (by decide)
theorem ra:um=fm E1 0 true fun _=>mA8:=by
 show um=ru E1 0 _
 unfold ru;rw[ue];rfl
theorem rt:xg=fm E1 0 false fun _=>pG:=rfl
theorem zm:mA8=fm E1 1 false fun _=>zM:=rfl
theorem yK:pG=fm E1 1 true fun _=>zM:=by
 show pG=ru E1 1 _
 unfold ru;rw[qQ];rfl
theorem wj:rest E1 mA8 pG=.mk 0 [98] false []:=by
 rw[zm,yK,Ou jP (by decide),if_pos rfl];rfl
theorem yn:rest E1 pG mA8=pG:=by
 conv=>lhs;rw[zm,yK,Ou jP (by decide),if_neg (by simp)]
 show ru E1 1 _=_
 unfold ru;rw[qQ];rfl
theorem Abc:rest E1 um xg=.mk 1 [] false [.mk 0 [98] false []]:=by
 rw[ra,rt,Ou jP (by decide),if_neg (by simp)]
 show ru E1 0 _=_
 unfold ru;rw[ue,List.map_singleton,wj];rfl
theorem Aa5:rest E1 xg um=.mk 0 [103] false [pG,pG]:=by
 rw[ra,rt,Ou jP (by decide),if_pos rfl,yn];rfl
theorem ZG:Gu E1 um=0/\Gu E1 xg=0/\LN E1 um=LN E1 xg:=by decide +kernel
theorem AcO:Px E1 um xg=(.mk 1 [] false [.mk 0 [98] false []],0):=by
 unfold Px FL
 rw[dN,ZG.1,ZG.2.1,ZG.2.2,if_neg (by simp),Abc];rfl
theorem AdB:Px E1 xg um=(.mk 0 [103] false [pG,pG],0):=by
 unfold Px FL
 rw[dN,ZG.1,ZG.2.1,ZG.2.2,if_neg (by simp),Aa5];rfl
theorem Ss:PF Kv [] (Ak E1):=by
 refine Ab RI.ok rfl ?_
 push_cast
 exact A1 (by push_cast[RI.rs];rfl)
theorem wl:PF PR [] (.bool true):=by
 have h1:=GM (r:=E1) (a:=um) (b:=xg) (by decide) (by decide) (by decide)
 have h2:=GM (r:=E1) (a:=xg) (b:=um) (by decide) (by decide) (by decide)
 rw[gI,AcO]at h1
 rw[gI,AdB]at h2
 refine Ab UM.ok rfl ?_
 push_cast
 refine .of Ss ?_
 push_cast
 refine .of h1 ?_
 push_cast
 refine .of Ss ?_
 push_cast
 refine .of h2 ?_
 push_cast
 refine .of (JK _ (by decide)) ?_
 push_cast
 refine .of (JK _ (by decide)) ?_
 push_cast
 exact A1 (by push_cast[UM.rs])
theorem wP (r:List A2)(a b:A0):As (Px r a b).1<2^40:=by
 by_cases h:(Px r a b).2=0
 ·have:=(lj (kf h).2.1).1
  rw[(kf h).2.2];omega
 ·have:(Px r a b).1=zM:=by
   unfold Px at h ⊢
   split
   ·rfl
   ·split
    ·rename_i h1 h2;rw[if_neg h1,if_pos h2]at h;exact absurd rfl h
    ·rfl
  rw[this];decide
theorem vj (r:List A2)(a b:A0):As (U6 r a b).1<2^40:=by
 by_cases h:(U6 r a b).2=0
 ·have:=(lj (jR h).2.1).1
  rw[(jR h).2.2];omega
 ·have:(U6 r a b).1=zM:=by
   unfold U6 at h ⊢
   split
   ·rfl
   ·split
    ·rename_i h1 h2;rw[if_neg h1,if_pos h2]at h;exact absurd rfl h
    ·rfl
  rw[this];decide
theorem Tl {r:List A2}{a b:A0}(hr:KZ r<2^28)(ha:mb a<2^28)(hb:mb b<2^28) :
  ga prog J0 [Ak r,Ar a,Ar b] [] (fun x' H'=>x'=.bool true/\H'=[]):=by
 have h1:=GM (r:=r) (a:=a) (b:=b) (by omega) (by omega) (by omega)
 have h2:=U7 (r:=r) (a:=a) (b:=b) (by omega) (by omega) (by omega)
 rw[gI]at h1
 rw[Ab3]at h2
 have h3:=WH (r:=r) (a:=a) (b:=b) hr ha hb
 have h4:=dB (r:=r) (a:=a) (b:=b) hr ha hb
 refine OK mixed GL.ok rfl ?_
 push_cast
 refine .of h1 ?_
 push_cast
 refine .of h2 ?_
 push_cast
 refine .of h3 ?_
 push_cast
 refine .of h4 ?_
 push_cast
 refine .of (JK _ (wP r a b)) ?_
 push_cast
 refine .of (JK _ (vj r a b)) ?_
 push_cast
 refine .of wl ?_
 push_cast
 exact A1 (by push_cast[GL.rs])
end Go.Dw
