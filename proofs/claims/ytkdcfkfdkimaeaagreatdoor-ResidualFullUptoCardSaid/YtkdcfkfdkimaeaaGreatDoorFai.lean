/-
  Contracts and lemmas for ResidualFull: part i of 11.
-/
import Derived.Test.YtkdcfkfdkimaeaaGreatDoorFah
import Derived.Test.YtkdcfkfdkimaeaaGreatDoorFag
import Derived.WalkKit
import Derived.Laws.MathBits
import Derived.Test.YtkdcfkfdkimaeaaGreatDoorFad
import Derived.Test.YtkdcfkfdkimaeaaGreatDoorFae
import Derived.Test.YtkdcfkfdkimaeaaGreatDoorFaf
set_option linter.unusedVariables false
set_option linter.unusedSimpArgs false
set_option maxRecDepth 100000
namespace Go.Dw
theorem ff {x:A3}(h:IM x):PF Qb [Oh x] (C7 (AG [] x.left)):=by
 have hF:=Vw x.left [] (by have:=h.l.sz;simp;omega)
 refine Ad U9.ok rfl ?_
 push_cast
 refine .of hF ?_
 push_cast
 exact A0 (by push_cast[U9.rs])
theorem Qt {l:List A9}(h:l.length<=4000)(pre:A9):(RJ l pre).length<2^62:=by
 have h1:=fU (l:=CE l) (F:=fun v=>IV pre v 0 l) (m:=l.length) fun v=>TK pre v l 0
 have h2:(CE l).length<=l.length:=by have:=Il l [];simpa[CE]using this
 have h3:(CE l).length*l.length<=4000*4000:=Nat.mul_le_mul (by omega) h
 show ((CE l).flatMap fun v=>IV pre v 0 l).length<2^62
 omega
theorem XL {t:Term}(h:C3 t):(AG [] t).length<=4000:=by have:=Ql t [];have:=h.sz;simp only[List.length_nil]at *;omega
theorem Ze:∀ (t:Term),short t=true->∀ l:List A9,(∀ v∈l,v.length<=24)->∀ v∈AG l t,v.length<=24:=by
 intro t
 induction t using Ah with
 | h t ih =>
 intro ht l hl v hv
 rw[Lc]at hv
 obtain⟨h1,h2,h3⟩:=C0.1 ht
 split at hv
 ·split at hv
  ·exact hl v hv
  ·rcases List.mem_append.1 hv with hv | hv
   ·exact hl v hv
   ·rw[List.mem_singleton.1 hv];exact h1
 ·have key:∀ (ar:List Term)(l:List A9),(∀ a∈ar,a∈t.args)->(∀ v∈l,v.length<=24)->∀ v∈BQ l ar,v.length<=24:=by
   intro ar
   induction ar with
   | nil=>intro l _ hl;exact hl
   | cons a ar ihl =>
    intro l hsub hl
    exact ihl _ (fun b hb=>hsub b (by simp[hb])) (ih a (hsub a (by simp)) (h3 a (hsub a (by simp))) l hl)
  exact key t.args l (fun _ h=>h) hl v hv
theorem SX {t:Term}(h:short t=true):∀ v∈AG [] t,v.length<=24:=Ze t h [] (fun v hv=>by cases hv)
theorem RA {x:A3}(h:IM x){pre:A9}(hp:pre.length=1):PF JA [Oh x,.str pre] (Oh (Cn pre x)):=by
 have hN:=ff h
 have hl:=XL h.l
 have hs:=(HO x.left []).2 h.l.vf
 have hn:=SX h.l.sh
 have hR:=PB (AG [] x.left) pre (by omega) (fun v hv=>by have:=hn v hv;omega) (by omega)
 have hA1:=Fp (RJ (AG [] x.left) pre) (Qt hl pre) x.left (by have:=h.l.sz;omega)
 have hA2:=Fp (RJ (AG [] x.left) pre) (Qt hl pre) x.right (by have:=h.r.sz;omega)
 rw[Us]at hA1 hA2
 refine Ad PG.ok rfl ?_
 push_cast
 refine .of hN ?_
 push_cast
 refine .of hR ?_
 push_cast
 refine .of hA1 ?_
 push_cast
 refine .of hA2 ?_
 push_cast
 exact A0 (by push_cast[PG.rs,Cn];rfl)
theorem hJ (t:Term)(h:size t<2^62):PF Qe [An t] (.bool (BU t)):=by
 have h1:=Sr t h
 have h2:=PS t h
 refine Ad NF.ok rfl ?_
 push_cast
 refine .of h1 ?_
 by_cases c1:size t<=4000
 ·have i1:((size t:Int)<=4000)=True:=eq_true (by omega)
  push_cast[i1]
  refine .of h2 ?_
  by_cases c2:depth t<=200
  ·have i2:((depth t:Int)<=200)=True:=eq_true (by omega)
   push_cast[i2]
   exact A0 (by push_cast[NF.rs,BU,c1,c2])
  ·have i2:((depth t:Int)<=200)=False:=eq_false (by omega)
   push_cast[i2]
   exact A0 (by push_cast[NF.rs,BU,c1,c2])
 ·have i1:((size t:Int)<=4000)=False:=eq_false (by omega)
  push_cast[i1]
  exact A0 (by push_cast[NF.rs,BU,c1])
theorem C3.arg {t a:Term}(h:C3 t)(ha:a∈t.args):C3 a:=by
 have h1:=Aq t
 have h2:=B4 ha
 have h3:=EL t
 have h4:=NC ha
 have h5:=h.sz
 have h6:=h.dp
 exact⟨(C0.1 h.sh).2.2 a ha,by omega,by omega⟩
theorem C3.sub:∀ (p:List Int) {t x:Term},C3 t->Bt t p=some x->C3 x
 | [],t,x,h,hx=>by simp only[Bt,Option.some.injEq]at hx;subst hx;exact h
 | i::p,t,x,h,hx=>by
  simp only[Bt]at hx
  split at hx
  ·rename_i hi
   exact C3.sub p (h.arg (A4 (by omega))) hx
  ·cases hx
noncomputable def ovR (a b:A3)(i j:Nat)(pos:List Int)(sub:Term):FM :=
 if (E8 a b pos sub).1 then
  let s:=(F5 sub b.left).1
  let v:=RJ (AG [] (Aw s a.left)) [120]
  ⟨i,j,pos,Aw v (Aw s a.left),Aw v (Aw s a.right),Aw v (ID (Aw s a.left) pos (Aw s b.right))⟩
 else Ac7
theorem tz {r:List A3}(hr:∀ x∈r,IM x)(hl:r.length<=64){i j:Nat}(hi:i<r.length)(hj:j<r.length){pos:List Int}(hpos:pos.length<2^20){sub:Term}(hsub:Bt (Cn [120] (r.getD i default)).left pos=some sub) :
  PF Xs [As r,.int .i64 i,.int .i64 j,D0 pos] (.tup [aj (ovR (Cn [120] (r.getD i default)) (Cn [121] (r.getD j default)) i j pos sub),.bool (E8 (Cn [120] (r.getD i default)) (Cn [121] (r.getD j default)) pos sub).1,.int .i64 (E8 (Cn [120] (r.getD i default)) (Cn [121] (r.getD j default)) pos sub).2]):=by
 have hxi:=hr _ (A4 hi)
 have hxj:=hr _ (A4 hj)
 have hA:=RA hxi (pre:=[120]) rfl
 have hB:=RA hxj (pre:=[121]) rfl
 have ha:=Ld (pre:=[120]) rfl hxi
 have hb:=Ld (pre:=[121]) rfl hxj
 generalize Cn [120] (r.getD i default)=a at *
 generalize Cn [121] (r.getD j default)=b at *
 have hAt:=Xc a.left pos (by omega) (by have:=ha.l.sz;omega)
 rw[hsub]at hAt
 have hgs:C3 sub:=C3.sub pos ha.l hsub
 have hU:=XZ hgs hb.l
 have hE:=S5 sub b.left
 have hO:=gS hgs hb.l
 unfold ovR E8
 generalize hu:F5 sub b.left=u at hU hE hO
 obtain⟨s,ok,e⟩:=u
 simp only at hE hO
 refine Ad Ow.ok rfl ?_
 push_cast[BB hi,BB hj]
 refine .of hA ?_
 push_cast[BB hi,BB hj]
 refine .of hB ?_
 push_cast
 refine⟨?_,?_⟩
 all_goals
  refine .of hAt ?_
  push_cast[LU]
  refine .of hU ?_
  cases ok with
  | false =>
   simp only[if_true,Bool.false_eq_true,if_false]
   rcases hE with rfl | ⟨rfl,_⟩
   ·push_cast[IZ]
    exact A0 (by push_cast[Ow.rs];rfl)
   ·push_cast[IZ]
    exact A0 (by push_cast[Ow.rs];rfl)
  | true =>
   obtain⟨hs,rfl,_⟩:=hO rfl
   have hsl:=hs.len
   have hF1:=Q2 s (by omega) hs.bb a.left (by have:=ha.l.tb;omega)
   have hF2:=Q2 s (by omega) hs.bb a.right (by have:=ha.r.tb;omega)
   have hF3:=Q2 s (by omega) hs.bb b.right (by have:=hb.r.tb;omega)
   have hP1:=Fp s (by omega) a.left (by have:=ha.l.sz;omega)
   have hP2:=Fp s (by omega) a.right (by have:=ha.r.sz;omega)
   have hP3:=Fp s (by omega) b.right (by have:=hb.r.sz;omega)
   have hss:∀ x∈s,short x.term=true:=fun x hx=>(hs.sh x hx).1
   have hsb:=Ny (σ:=s) pos a.left sub ha.l.sh hsub
   have hshp:=ju hss a.left ha.l.sh
   simp only[Bool.true_eq_false,if_false]
   clear hU hE hO hu
   cases f1:BU (Aw s a.left)with
   | false =>
    rw[f1]at hF1
    simp only[Bool.false_and,if_true,Bool.false_eq_true,if_false]
    push_cast[IZ]
    refine .of hF1 ?_
    push_cast
    exact A0 (by push_cast[Ow.rs];rfl)
   | true =>
    rw[f1]at hF1
    cases f2:BU (Aw s a.right)with
    | false =>
     rw[f2]at hF2
     simp only[Bool.false_and,Bool.and_false,if_true,Bool.false_eq_true,if_false]
     push_cast[IZ]
     refine .of hF1 ?_
     push_cast
     refine .of hF2 ?_
     push_cast
     exact A0 (by push_cast[Ow.rs];rfl)
    | true =>
     rw[f2]at hF2
     cases f3:BU (Aw s b.right)with
     | false =>
      rw[f3]at hF3
      simp only[Bool.and_false,if_true,Bool.false_eq_true,if_false]
      push_cast[IZ]
      refine .of hF1 ?_
      push_cast
      refine .of hF2 ?_
      push_cast
      refine .of hF3 ?_
      push_cast
      exact A0 (by push_cast[Ow.rs];rfl)
     | true =>
      rw[f3]at hF3
      have z1:size (Aw s a.left)<=4000:=by unfold BU at f1;simp at f1;exact f1.1
      have z2:size (Aw s a.right)<=4000:=by unfold BU at f2;simp at f2;exact f2.1
      have z3:size (Aw s b.right)<=4000:=by unfold BU at f3;simp at f3;exact f3.1
      have hPut:=oc pos (Aw s a.left) (Aw s b.right) (Aw s sub) hshp hsb (by omega) (by omega)
      have z4:=UK pos (Aw s a.left) (Aw s b.right)
      have hSm:=hJ (ID (Aw s a.left) pos (Aw s b.right)) (by omega)
      simp only[Bool.and_self,Bool.true_eq_false,if_false]
      push_cast[IZ]
      refine .of hF1 ?_
      push_cast
      refine .of hF2 ?_
      push_cast
      refine .of hF3 ?_
      push_cast
      refine .of hP1 ?_
      push_cast
      refine .of hP3 ?_
      push_cast
      refine .of hPut ?_
      push_cast
      refine .of hSm ?_
      cases f4:BU (ID (Aw s a.left) pos (Aw s b.right))with
      | false =>
       push_cast
       exact A0 (by push_cast[Ow.rs];rfl)
      | true =>
       have hgp:C3 (Aw s a.left):=⟨hshp,z1,by unfold BU at f1;simp at f1;exact f1.2⟩
       have hl4:=XL hgp
       have hFi:=Vw (Aw s a.left) [] (by simp;omega)
       have hRe:=PB (AG [] (Aw s a.left)) [120] (by omega) (fun v hv=>by
        have:=SX hgp.sh v hv;omega) (by simp)
       have hQ1:=Fp (RJ (AG [] (Aw s a.left)) [120]) (Qt hl4 _) (Aw s a.left) (by omega)
       have hQ2:=Fp (RJ (AG [] (Aw s a.left)) [120]) (Qt hl4 _) (Aw s a.right) (by omega)
       have hQ3:=Fp (RJ (AG [] (Aw s a.left)) [120]) (Qt hl4 _) (ID (Aw s a.left) pos (Aw s b.right)) (by omega)
       push_cast
       refine .of hFi ?_
       push_cast
       refine .of hRe ?_
       push_cast
       refine .of hQ1 ?_
       push_cast
       refine .of hP2 ?_
       push_cast
       refine .of hQ2 ?_
       push_cast
       refine .of hQ3 ?_
       push_cast
       exact A0 (by push_cast[Ow.rs];rfl)
def BE {α:Type}(F:List FM->α->List FM×Int):List FM->List α->List FM×Int
 | out,[]=>(out,0)
 | out,x::l=>if (F out x).2≠0 then ([],(F out x).2) else BE F (F out x).1 l
theorem BA {α:Type}{F:List FM->α->List FM×Int}{out o:List FM}{x:α}{l:List α}(h:F out x=(o,0)):BE F out (x::l)=BE F o l:=by simp[BE,h]
theorem FT {α:Type}{F:List FM->α->List FM×Int}{out:List FM}{x:α}{l:List α}{o:List FM}{e:Int}(h:F out x=(o,e))(he:e≠0):BE F out (x::l)=([],e):=by simp[BE,h,he]
noncomputable def Kx (r:List A3)(i:Nat)(a:A3)(pos:List Int)(sub:Term)(out:List FM)(j:Nat):List FM×Int :=
 if i=j/\pos=[] then (out,0)
 else if (E8 a (Cn [121] (r.getD j default)) pos sub).2≠0 then ([],(E8 a (Cn [121] (r.getD j default)) pos sub).2)
 else if (E8 a (Cn [121] (r.getD j default)) pos sub).1 then
  (if 4096<out.length+1 then ([],3) else (out++[{ ovO a (Cn [121] (r.getD j default)) pos sub with outer:=i,inner:=j }],0))
 else (if 4096<out.length then ([],3) else (out,0))
noncomputable def Ky (r:List A3)(i:Nat)(a:A3)(out:List FM)(x:List Int×Term):List FM×Int :=
 if x.2.var then (out,0) else BE (Kx r i a x.1 x.2) out (List.range r.length)
noncomputable def LJ (r:List A3)(out:List FM)(i:Nat):List FM×Int :=
 BE (Ky r i (Cn [120] (r.getD i default))) out (Ab (Cn [120] (r.getD i default)).left [])
noncomputable def O6 (r:List A3):List FM×Int:=BE (LJ r) [] (List.range r.length)
abbrev oH1 (out:List FM)(o:V)(e:Int):List Ob:=[.cells Fl [o],.cells Wl [.int .i64 e],.cells Fl [B8 Wq 3 12 out],.arr DY 12 out.length]
abbrev pA (out:List FM)(o:V)(e:Int)(a:A3)(nm:NM):List Ob:=oH1 out o e++[.dead,.cells Ch (cR a),.map (Bp V.str nm),.cells Bi [.map 6]]
theorem wH (o:FM):(Wq o).length=12:=rfl
theorem yp (o:FM):sub 0 12 (Wq o)=Wq o:=rfl
theorem nY (o:FM):Kz (aj o)=some (Wq o):=rfl
theorem iC (o:FM):V.agg (Wq o)=aj o:=rfl
theorem uw {σ:Nat->Option Nat}(o:FM):AN σ (Wq o)=Wq o:=rfl
theorem tQ (o:FM)(i:Int):put 0 [V.int .i64 i] (Wq o)=Wq { o with outer:=i }:=rfl
theorem pT (o:FM)(i:Int):put 1 [V.int .i64 i] (Wq o)=Wq { o with inner:=i }:=rfl
theorem tX (o:FM):put 0 (Wq o) [.int .i64 0,.int .i64 0,.sl 1 [],.str [],.bool false,.sl 3 [],.str [],.bool false,.sl 3 [],.str [],.bool false,.sl 3 []]=Wq o:=rfl
attribute [push_cast] tQ pT tX
attribute [push_cast] wH yp nY iC uw mX
theorem aF (a b:A3)(pos:List Int)(sub:Term):(E8 a b pos sub).2≠0->(E8 a b pos sub).1=false/\(E8 a b pos sub).2=3:=by
 intro h
 have hE:=S5 sub b.left
 unfold E8 at h ⊢
 split at h
 ·rename_i c
  rw[if_pos c]
  rcases hE with e | ⟨e,_⟩
  ·exact absurd e h
  ·exact⟨rfl,e⟩
 ·rename_i c
  rw[if_neg c]
  split at h
  ·rename_i c2
   rw[if_pos c2];exact⟨rfl,rfl⟩
  ·rename_i c2
   rw[if_neg c2]
   split at h
   ·rename_i c3
    rw[if_pos c3];exact⟨rfl,rfl⟩
   ·exact absurd rfl h
theorem oi {r:List A3}(hr:∀ x∈r,IM x)(hrl:r.length<=64){i:Nat}(hi:i<r.length){a:A3}(ha:IM a){pos:List Int}(hpos:pos.length<2^20){sub:Term}(hs:C3 sub){nm:NM}
  {Q:X->T->List Ob->Prop} (L:Ob) (hL:A6 (AI 10) L=L) (S:List FM×Int)
  (out0:List FM) (h0:out0.length<=4096) (hS:BE (Kx r i a pos sub) out0 (List.range r.length)=S)
  (kOk:∀ out,S=(out,0)->out.length<=4096->∀ T,Q .fall T (pA out (.sl 12 []) 0 a nm++[L,.dead]))
  (kBad:∀ out e,S.2=e->e≠0->∀ T J,Q .ret T (pA out (.sl 12 []) e a nm++(L::J))) :
  Cv.L7 (.ptr 0 0) (.ptr 1 0) (.ptr 2 0) (.ro [.int .i64 i] 0) (.ptr 5 0) (D0 pos) (.ro (cT sub) 0) (As r) (.int .i64 r.length) (.int .i64 0) 9 (pA out0 (.sl 12 []) 0 a nm++[L,.dead]) Q:=by
 refine Ae (n:=r.length) (R:=fun j=>∀ out:List FM,out.length<=4096->BE (Kx r i a pos sub) out ((List.range r.length).drop j)=S->Cv.L7 (.ptr 0 0) (.ptr 1 0) (.ptr 2 0) (.ro [.int .i64 i] 0) (.ptr 5 0) (D0 pos) (.ro (cT sub) 0) (As r) (.int .i64 r.length) (.int .i64 j) 9 (pA out (.sl 12 []) 0 a nm++[L,.dead]) Q) ?_ ?_ 0 (by omega) out0 h0 hS
 ·intro j hj ih out hol he
  have hx:=hr _ (A4 hj)
  have hjr:j<(List.range r.length).length:=by simpa using hj
  have hgj:(List.range r.length).getD j default=j:=by simp[List.getD_eq_getElem?_getD,hj]
  rw[Ag hjr,hgj]at he
  have hI:=VR (r.getD j default) (by have:=hx.l.sz;have:=hx.r.sz;omega)
  rw[ZL (pre:=[121]) (by simp) hx.l.vf hx.r.vf hx.v]at hI
  have hb:=Ld (pre:=[121]) rfl hx
  have hO:=Z6 ha hb hpos hs
  have hErr:=aF a (Cn [121] (r.getD j default)) pos sub
  have hst:Kx r i a pos sub out j=Kx r i a pos sub out j:=rfl
  conv at hst=>rhs;unfold Kx
  have hl9:∀ k:Nat,AI 9 k=if k<9 then some k else none:=fun _=>rfl
  refine A7.2 ?_
  by_cases hc:i=j/\pos=[]
  ·rw[if_pos hc]at hst
   rw[BA hst]at he
   have:=ih out hol he
   obtain⟨c1,c2⟩:=hc
   have i1:((i:Int)=(j:Int))=True:=eq_true (by omega)
   have i2:((pos.length:Int)=0)=True:=eq_true (by rw[c2];rfl)
   push_cast[BB hj,hL,i1,i2,Co (show j<2^62 by omega)]
   push_cast at this
   exact this
  ·rw[if_neg hc]at hst
   have go:∀ T:T,True:=fun _=>trivial
   generalize Cn [121] (r.getD j default)=b at hI hb hO hErr hst
   generalize hoo:ovO a b pos sub=o at hO hst
   generalize hov:E8 a b pos sub=v at hO hErr hst
   obtain⟨ok,e⟩:=v
   simp only at hErr hst
   by_cases hi1:i=j
   ·have hp:pos≠[]:=fun h=>hc ⟨hi1,h⟩
    have i1:((i:Int)=(j:Int))=True:=eq_true (by omega)
    have i2:((pos.length:Int)=0)=False:=eq_false (by have:=List.length_pos_iff.2 hp;omega)
    push_cast[BB hj,i1,i2]
    refine .of hI ?_
    push_cast
    refine .of hO ?_
    have hroom:(out.length+1)*184<=Ai:=by unfold Ai;omega
    by_cases he0:e=0
    ·subst he0
     rw[if_neg (by simp)]at hst
     cases ok with
     | true =>
      rw[if_pos rfl]at hst
      by_cases h4:4096<out.length+1
      ·rw[if_pos h4]at hst
       rw[FT hst (by omega)]at he
       have i4:((4096:Int)<(out.length:Int)+1)=True:=eq_true (by omega)
       push_cast[hroom,i4,List.length_append,List.length_singleton]
       have hl3:out.length+1=(out++[({ o with outer:=(i:Int),inner:=(j:Int) }:FM)]).length:=by simp
       rw[hl3]
       exact kBad (out++[_]) 3 (by rw[<-he]) (by omega) _ _
      ·rw[if_neg h4]at hst
       rw[BA hst]at he
       have i4:((4096:Int)<(out.length:Int)+1)=False:=eq_false (by omega)
       have:=ih _ (by simp;omega) he
       push_cast[hroom,i4,hL,List.length_append,List.length_singleton,Co (show j<2^62 by omega)]
       push_cast[List.length_append,List.length_singleton]at this
       exact this
     | false =>
      rw[if_neg (by simp),if_neg (by omega)]at hst
      rw[BA hst]at he
      have i4:((4096:Int)<(out.length:Int))=False:=eq_false (by omega)
      have:=ih _ hol he
      push_cast[i4,hL,Co (show j<2^62 by omega)]
      push_cast at this
      exact this
    ·rw[if_pos he0]at hst
     rw[FT hst he0]at he
     have i3:(e=0)=False:=eq_false he0
     push_cast[i3]
     exact kBad out e (by rw[<-he]) he0 _ _
   ·have i1:((i:Int)=(j:Int))=False:=eq_false (by omega)
    push_cast[BB hj,i1]
    refine .of hI ?_
    push_cast
    refine .of hO ?_
    have hroom:(out.length+1)*184<=Ai:=by unfold Ai;omega
    by_cases he0:e=0
    ·subst he0
     rw[if_neg (by simp)]at hst
     cases ok with
     | true =>
      rw[if_pos rfl]at hst
      by_cases h4:4096<out.length+1
      ·rw[if_pos h4]at hst
       rw[FT hst (by omega)]at he
       have i4:((4096:Int)<(out.length:Int)+1)=True:=eq_true (by omega)
       push_cast[hroom,i4,List.length_append,List.length_singleton]
       have hl3:out.length+1=(out++[({ o with outer:=(i:Int),inner:=(j:Int) }:FM)]).length:=by simp
       rw[hl3]
       exact kBad (out++[_]) 3 (by rw[<-he]) (by omega) _ _
      ·rw[if_neg h4]at hst
       rw[BA hst]at he
       have i4:((4096:Int)<(out.length:Int)+1)=False:=eq_false (by omega)
       have:=ih _ (by simp;omega) he
       push_cast[hroom,i4,hL,List.length_append,List.length_singleton,Co (show j<2^62 by omega)]
       push_cast[List.length_append,List.length_singleton]at this
       exact this
     | false =>
      rw[if_neg (by simp),if_neg (by omega)]at hst
      rw[BA hst]at he
      have i4:((4096:Int)<(out.length:Int))=False:=eq_false (by omega)
      have:=ih _ hol he
      push_cast[i4,hL,Co (show j<2^62 by omega)]
      push_cast at this
      exact this
    ·rw[if_pos he0]at hst
     rw[FT hst he0]at he
     have i3:(e=0)=False:=eq_false he0
     push_cast[i3]
     exact kBad out e (by rw[<-he]) he0 _ _
 ·intro out hol he
  have e1:(List.range r.length).drop r.length=[]:=by rw[List.drop_eq_nil_of_le];simp
  rw[e1]at he
  simp only[BE]at he
  refine A7.2 ?_
  push_cast[AZ (Nat.le_refl _)]
  have:=kOk out he.symm hol
  exact this _
theorem kC (out:List FM)(e:Int)(a:A3)(nm:NM):I4 8 (pA out (.sl 12 []) e a nm):=⟨rfl,by
 show [A6 (AI 8) (.cells Fl [.sl 12 []]),A6 (AI 8) (.cells Wl [.int .i64 e]),A6 (AI 8) (.cells Fl [B8 Wq 3 12 out]),A6 (AI 8) (.arr DY 12 out.length),A6 (AI 8) .dead,A6 (AI 8) (.cells Ch (cR a)),A6 (AI 8) (.map (Bp V.str nm)),A6 (AI 8) (.cells Bi [.map 6])]=_
 have h3:AI 8 3=some 3:=rfl
 have h6:AI 8 6=some 6:=rfl
 push_cast[h3,h6]⟩
theorem jo (out:List FM)(e:Int)(a:A3)(nm:NM)(J:List Ob):cut 8 (pA out (.sl 12 []) e a nm++J)=pA out (.sl 12 []) e a nm:=by
 show [A6 (AI 9) (.cells Fl [.sl 12 []]),A6 (AI 9) (.cells Wl [.int .i64 e]),A6 (AI 9) (.cells Fl [B8 Wq 3 12 out]),A6 (AI 9) (.arr DY 12 out.length),A6 (AI 9) .dead,A6 (AI 9) (.cells Ch (cR a)),A6 (AI 9) (.map (Bp V.str nm)),A6 (AI 9) (.cells Bi [.map 6])]=_
 have h3:AI 9 3=some 3:=rfl
 have h6:AI 9 6=some 6:=rfl
 push_cast[h3,h6]
theorem WX {t:Term}(ht:C3 t){x:List Int×Term}(hx:x∈Ab t []):C3 x.2/\x.1.length<2^20/\Bt t x.1=some x.2:=by
 have h1:=Lz t [] x hx
 obtain⟨p,hp,h2⟩:=h1
 rw[List.nil_append]at hp
 rw[<-hp]at h2
 have h3:=(I0 t [] x hx).2
 have:=ht.sz
 exact⟨C3.sub _ ht h2,by simp only[List.length_nil]at h3;omega,h2⟩
theorem AbJ {r:List A3}(hr:∀ x∈r,IM x)(hrl:r.length<=64){i:Nat}(hi:i<r.length){a:A3}(ha:IM a){nm:NM}(S:List FM×Int)(out0:List FM)(h0:out0.length<=4096)
  (hS:BE (Ky r i a) out0 (Ab a.left [])=S) (T:T) (Ks:List K) {Q:X->Dw.T->List Ob->Prop}
  (t34:lk T 34=.fn (.func C6) [] [.ro (cT a.left) 0]) (t1:lk T 1=.ro [As r] 0) (t2:lk T 2=.ptr 0 0) (t3:lk T 3=.ptr 1 0) (t4:lk T 4=.ptr 2 0) (t5:lk T 5=.ro [.int .i64 i] 0) (t6:lk T 6=.ptr 5 0)
  (hT8:(T.map fun p=>(p.1,ren (AI 8) p.2))=T) (hT10:(T.map fun p=>(p.1,ren (AI 10) p.2))=T)
  (kOk:∀ out,S=(out,0)->out.length<=4096->Ax prog Cv.nd 0 Ks T (pA out (.sl 12 []) 0 a nm++[.dead]) Q)
  (kBad:∀ out e,S.2=e->e≠0->Ax prog Cv.nd 0 (.c (dZ .ret)::Ks) T (pA out (.sl 12 []) e a nm++[.dead]) Q) :
  Ax prog Cv.nd 0 (.c (.rf (.s 34) [35,36] (.seq (.reg [.mv 8 (.s 35)]) (.reg [.al 9 A2 [.str [],.bool false,.sl 3 []],.sf 9 3 (.s 36)])) (.m 9))::Ks) T (pA out0 (.sl 12 []) 0 a nm) Q:=by
 refine Ax.rf C6 [] [.ro (cT a.left) 0] ((Ab a.left []).map EO) (fun j H1=>∃ out,H1=pA out (.sl 12 []) 0 a nm/\out.length<=4096/\BE (Ky r i a) out ((Ab a.left []).drop j)=S) (fun e H1=>e=.ret/\∃ out e',S.2=e'/\e'≠0/\H1=pA out (.sl 12 []) e' a nm) t34 (E4 a.left (by have:=ha.l.sz;omega)) ?_ ⟨out0,rfl,h0,hS⟩ hT8 ?_ ?_ ?_ ?_ ?_
 ·intro it hit
  obtain⟨x,_,rfl⟩:=List.mem_map.1 hit
  rfl
 ·rintro j H1 ⟨out,rfl,_⟩
  exact kC out 0 a nm
 ·rintro e H1 ⟨_,out,e',_,_,rfl⟩
  exact kC out e' a nm
 ·rintro lo rr j it H1 hit ⟨out,rfl,hol,hq⟩
  rw[List.getElem?_map]at hit
  cases hx:(Ab a.left [])[j]? with
  | none=>rw[hx]at hit;cases hit
  | some x =>
  rw[hx]at hit
  have hit:it=EO x:=by simpa using hit.symm
  subst hit
  have hj:j<(Ab a.left []).length:=(List.getElem?_eq_some_iff.1 hx).1
  have hxj:(Ab a.left []).getD j default=x:=by rw[List.getD_eq_getElem?_getD,hx];rfl
  have hxm:x∈Ab a.left []:=hxj▸A4 hj
  obtain⟨hg,hpl,hsb⟩:=WX ha.l hxm
  rw[Ag hj,hxj]at hq
  have hL:A6 (AI 10) (.lp lo .busy rr T)=.lp lo .busy rr T:=by push_cast[hT10]
  have hst:Ky r i a out x=Ky r i a out x:=rfl
  conv at hst=>rhs;unfold Ky
  push_cast[MF,EO]
  refine A7.2 ?_
  cases hv:x.2.var with
  | true =>
   rw[hv,if_pos rfl]at hst
   rw[BA hst]at hq
   push_cast[hv,t1,t2,t3,t4,t5,t6]
   exact⟨rfl,out,jo out 0 a nm [.lp lo .busy rr T,.dead],hol,hq⟩
  | false =>
   rw[hv,if_neg (by simp)]at hst
   push_cast[hv,t1,t2,t3,t4,t5,t6,hT10]
   refine oi hr hrl hi ha hpl hg (.lp lo .busy rr T) hL _ out hol rfl ?_ ?_
   ·intro out' h1 h2 T'
    rw[h1]at hst
    rw[BA hst]at hq
    exact⟨rfl,out',jo out' 0 a nm [.lp lo .busy rr T,.dead],h2,hq⟩
   ·intro out' e' h1 h2 T' J
    generalize BE (Kx r i a x.1 x.2) out (List.range r.length)=S2 at hst h1
    obtain⟨o2,e2⟩:=S2
    have h1:e2=e':=h1
    subst h1
    rw[FT hst h2]at hq
    exact⟨rfl,rfl,out',e2,by rw[<-hq],h2,jo out' e2 a nm (.lp lo .busy rr T::J)⟩
 ·rintro H1 ⟨out,rfl,hol,hq⟩
  rw[List.length_map,Ar]at hq
  exact kOk out hq.symm hol
 ·rintro e H1 ⟨rfl,out,e',h1,h2,rfl⟩
  exact kBad out e' h1 h2
abbrev MW (l:List FM):V:=Dp Wq 12 l
abbrev p6 (out:List FM)(x:A3):List Ob:=oH1 out (.sl 12 []) 0++[.dead,.cells Ch (cR x)]
theorem et (z:Term):AN (Ay [6,7]) [An z,V.ptr 7 0]=[An z,V.ptr 1 0]:=by
 have q5:Ay [6,7] 7=some 1:=rfl
 push_cast[q5]
theorem YW {r:List A3}(hr:∀ x∈r,IM x)(hrl:r.length<=64):PF N9 [As r] (.tup [MW (O6 r).1,.int .i64 (O6 r).2]):=by
 refine Ad Cv.ok rfl ?_
 push_cast
 refine Ae (n:=r.length) (R:=fun k=>∀ (out:List FM),out.length<=4096->BE (LJ r) out ((List.range r.length).drop k)=O6 r->Cv.L11 (.ro [As r] 0) (.ptr 0 0) (.ptr 1 0) (.ptr 2 0) .any .any (As r) (.int .i64 r.length) (.int .i64 k) 0 (oH1 out (.sl 12 []) 0) (BH 0 Cv.rs fun x' H'=>x'=.tup [MW (O6 r).1,.int .i64 (O6 r).2]/\H'=[])) ?_ ?_ 0 (by omega) [] (by simp) rfl
 ·intro k hk ih out hol he
  have hx:=hr _ (A4 hk)
  have hkr:k<(List.range r.length).length:=by simpa using hk
  have hgk:(List.range r.length).getD k default=k:=by simp[List.getD_eq_getElem?_getD,hk]
  rw[Ag hkr,hgk]at he
  have hst:LJ r out k=LJ r out k:=rfl
  conv at hst=>rhs;unfold LJ
  have hRR:=ZL (pre:=[120]) (by simp) hx.l.vf hx.r.vf hx.v
  have hg:=Ld (pre:=[120]) rfl hx
  generalize hxx:r.getD k default=x at hx hRR hg hst
  have hN1:=Ez [] x.left (by have:=hx.l.sz;simp;omega)
  have hN2:=Ez (Hd [120] [] x.left).1 x.right (by have:=Nz [120] x.left [];have:=hx.l.sz;have:=hx.r.sz;simp only[List.length_nil]at *;omega)
  unfold qC at hRR
  generalize Hd [120] [] x.left=u at hN1 hN2 hRR
  generalize Hd [120] u.1 x.right=w at hN2 hRR
  have hcR:cR ⟨u.2,w.2⟩=cR (Cn [120] x):=by rw[hRR]
  generalize Cn [120] x=a at hcR hg hst
  have hW:=Gw a.left
  refine A7.2 ?_
  simp only[Cv.nd]
  generalize hC:C.n 10=c10
  push_cast[BB hk]
  subst hC
  rw[pQ]
  simp only[Cv.nd]
  generalize hR:C.rf (O.s 34) [35,36] ((C.reg [S.mv 8 (O.s 35)]).seq (C.reg [S.al 9 A2 [V.str [],V.bool false,V.sl 3 []],S.sf 9 3 (O.s 36)])) (C.m 9)=cRf
  have hz:∀ x:A3,put 0 (cR x) [V.str [],V.bool false,V.sl 3 [],V.str [],V.bool false,V.sl 3 []]=cR x:=fun _=>rfl
  have hz2:∀ y:A3,put 0 (cT u.2++cT w.2) (cR y)=cR a:=fun _=>by rw[<-hcR];rfl
  push_cast[BB hk,hxx]
  refine aa _ ?_
  push_cast[hz]
  refine⟨?_,?_,?_⟩
  all_goals
   refine FK (p6 out x) [] (et x.left) (AT▸hN1) ?_
   push_cast[hz]
   refine FK (p6 out x) [] (et x.right) (AT▸hN2) ?_
   push_cast[hz,hz2]
   refine .of hW ?_
   push_cast
   subst hR
   refine AbJ hr hrl hk hg (nm:=w.1) _ out hol rfl _ _ rfl rfl rfl rfl rfl rfl rfl (by push_cast;rfl) (by push_cast;rfl) ?_ ?_
   ·intro out' h1 h2
    rw[h1]at hst
    rw[BA hst]at he
    have this:=ih out' h2 he
    push_cast[Co (show k<2^62 by omega)]
    push_cast at this
    exact this
   ·intro out' e' h1 h2
    generalize BE (Ky r k a) out (Ab a.left [])=S2 at hst h1
    obtain⟨o2,e2⟩:=S2
    have h1:e2=e':=h1
    subst h1
    rw[FT hst h2]at he
    rw[<-he]
    push_cast[dZ]
    exact A0 (by push_cast[Cv.rs];rfl)
 ·intro out hol he
  have e1:(List.range r.length).drop r.length=[]:=by rw[List.drop_eq_nil_of_le];simp
  rw[e1]at he
  simp only[BE]at he
  refine A7.2 ?_
  push_cast[AZ (Nat.le_refl _)]
  rw[<-he]
  exact A0 (by push_cast[Cv.rs])
noncomputable def HA (r:List A3)(i:Nat)(p:List Int)(x:Term)(out:List FM)(j:Nat):List FM×Int :=
 if x.var=true\/(i=j/\p=[]) then (out,0)
 else if (E8 (Cn [120] (r.getD i default)) (Cn [121] (r.getD j default)) p (app (Nh [120] (AG [] (r.getD i default).left)) x)).2≠0 then ([],(E8 (Cn [120] (r.getD i default)) (Cn [121] (r.getD j default)) p (app (Nh [120] (AG [] (r.getD i default).left)) x)).2)
 else if (E8 (Cn [120] (r.getD i default)) (Cn [121] (r.getD j default)) p (app (Nh [120] (AG [] (r.getD i default).left)) x)).1 then (out++[ovR (Cn [120] (r.getD i default)) (Cn [121] (r.getD j default)) i j p (app (Nh [120] (AG [] (r.getD i default).left)) x)],0)
 else (out,0)
noncomputable def PZ (r:List A3)(i:Nat)(out:List FM)(x:List Int×Term):List FM×Int:=BE (HA r i x.1 x.2) out (List.range r.length)
noncomputable def Ii (r:List A3)(out:List FM)(i:Nat):List FM×Int:=BE (PZ r i) out (Ab (r.getD i default).left [])
noncomputable def P9 (r:List A3):List FM×Int :=
 if (BE (Ii r) [] (List.range r.length)).2≠0 then ([],(BE (Ii r) [] (List.range r.length)).2)
 else if 4096<(BE (Ii r) [] (List.range r.length)).1.length then ([],3) else ((BE (Ii r) [] (List.range r.length)).1,0)
abbrev lH (out:List FM):Ob:=.arr DY 12 out.length
theorem mi {x:A3}(hx:IM x){p:List Int}{y:Term}(h:Bt x.left p=some y):Bt (Cn [120] x).left p=some (app (Nh [120] (AG [] x.left)) y):=by
 have h1:=Ny (σ:=RJ (AG [] x.left) [120]) p x.left y hx.l.sh h
 rw[Us,Us]at h1
 exact h1
theorem iU {r:List A3}(hr:∀ x∈r,IM x)(hrl:r.length<=64){i:Nat}(hi:i<r.length){p:List Int}(hp:p.length<2^20){x:Term}(hsx:Bt (r.getD i default).left p=some x){P:List (List Int)}{k:Nat}(hk:k<2^40){R:V}
  (S:List FM×Int) (out0:List FM) (m:Nat) (h0:out0.length<=m) (hm:m<2^30) (hS:BE (HA r i p x) out0 (List.range r.length)=S)
  (kOk:∀ out,S=(out,0)->out.length<=m+64->D5.L10 (As r) (B8 Wq 0 12 out) (.int .i64 i) (.int .i64 r.length) (.int .i64 i) (JZ P) (.int .i64 P.length) (.int .i64 (k+1:Nat)) 0 [lH out] (BH 0 D5.rs fun x' H'=>x'=R/\H'=[]))
  (kBad:∀ e,S.2=e->e≠0->R=.tup [MW [],.int .i64 e]) :
  D5.L8 (As r) (B8 Wq 0 12 out0) (.int .i64 i) (D0 p) (.ro (cT x) 0) (.int .i64 r.length) (.int .i64 i) (JZ P) (.int .i64 P.length) (.int .i64 k) (.int .i64 r.length) (.int .i64 0) 0 [lH out0,.dead] (BH 0 D5.rs fun x' H'=>x'=R/\H'=[]):=by
 refine Ae (n:=r.length) (R:=fun j=>∀ out:List FM,out.length<=m+j->BE (HA r i p x) out ((List.range r.length).drop j)=S->D5.L8 (As r) (B8 Wq 0 12 out) (.int .i64 i) (D0 p) (.ro (cT x) 0) (.int .i64 r.length) (.int .i64 i) (JZ P) (.int .i64 P.length) (.int .i64 k) (.int .i64 r.length) (.int .i64 j) 0 [lH out,.dead] (BH 0 D5.rs fun x' H'=>x'=R/\H'=[])) ?_ ?_ 0 (by omega) out0 (by omega) hS
 ·intro j hj ih out hol he
  have hjr:j<(List.range r.length).length:=by simpa using hj
  have hgj:(List.range r.length).getD j default=j:=by simp[List.getD_eq_getElem?_getD,hj]
  rw[Ag hjr,hgj]at he
  have hO:=tz hr hrl hi hj hp (mi (hr _ (A4 hi)) hsx)
  have hst:HA r i p x out j=HA r i p x out j:=rfl
  conv at hst=>rhs;unfold HA
  generalize hov:E8 (Cn [120] (r.getD i default)) (Cn [121] (r.getD j default)) p (app (Nh [120] (AG [] (r.getD i default).left)) x)=v at hO hst
  generalize ovR (Cn [120] (r.getD i default)) (Cn [121] (r.getD j default)) i j p (app (Nh [120] (AG [] (r.getD i default).left)) x)=o at hO hst
  obtain⟨ok,e⟩:=v
  simp only at hst
  refine A7.2 ?_
  cases hv:x.var with
  | true =>
   rw[hv,if_pos (.inl rfl)]at hst
   rw[BA hst]at he
   have this:=ih out (by omega) he
   push_cast[BB hj,hv,Co (show j<2^62 by omega)]
   push_cast at this
   exact this
  | false =>
   by_cases hc:i=j/\p=[]
   ·rw[if_pos (.inr hc)]at hst
    rw[BA hst]at he
    have this:=ih out (by omega) he
    obtain⟨c1,c2⟩:=hc
    have i1:((i:Int)=(j:Int))=True:=eq_true (by omega)
    have i2:((p.length:Int)=0)=True:=eq_true (by rw[c2];rfl)
    push_cast[BB hj,hv,i1,i2,Co (show j<2^62 by omega)]
    push_cast at this
    exact this
   ·rw[if_neg (by rw[hv];simp only[Bool.false_eq_true,false_or];exact hc)]at hst
    have hroom:(out.length+1)*184<=Ai:=by unfold Ai;omega
    by_cases hi1:i=j
    ·have hpn:p≠[]:=fun h=>hc ⟨hi1,h⟩
     have i1:((i:Int)=(j:Int))=True:=eq_true (by omega)
     have i2:((p.length:Int)=0)=False:=eq_false (by have:=List.length_pos_iff.2 hpn;omega)
     push_cast[BB hj,hv,i1,i2]
     refine .of hO ?_
     by_cases he0:e=0
     ·subst he0
      rw[if_neg (by simp)]at hst
      cases ok with
      | true =>
       rw[if_pos rfl]at hst
       rw[BA hst]at he
       have this:=ih _ (by simp;omega) he
       push_cast[hroom,Co (show j<2^62 by omega)]
       have hl3:out.length+1=(out++[o]).length:=by simp
       rw[hl3]
       push_cast at this
       exact this
      | false =>
       rw[if_neg (by simp)]at hst
       rw[BA hst]at he
       have this:=ih _ (by omega) he
       push_cast[Co (show j<2^62 by omega)]
       push_cast at this
       exact this
     ·rw[if_pos he0]at hst
      rw[FT hst he0]at he
      have i3:(e=0)=False:=eq_false he0
      push_cast[i3]
      rw[kBad e (by rw[<-he]) he0]
      exact A0 (by push_cast[D5.rs];rfl)
    ·have i1:((i:Int)=(j:Int))=False:=eq_false (by omega)
     push_cast[BB hj,hv,i1]
     refine .of hO ?_
     by_cases he0:e=0
     ·subst he0
      rw[if_neg (by simp)]at hst
      cases ok with
      | true =>
       rw[if_pos rfl]at hst
       rw[BA hst]at he
       have this:=ih _ (by simp;omega) he
       push_cast[hroom,Co (show j<2^62 by omega)]
       have hl3:out.length+1=(out++[o]).length:=by simp
       rw[hl3]
       push_cast at this
       exact this
      | false =>
       rw[if_neg (by simp)]at hst
       rw[BA hst]at he
       have this:=ih _ (by omega) he
       push_cast[Co (show j<2^62 by omega)]
       push_cast at this
       exact this
     ·rw[if_pos he0]at hst
      rw[FT hst he0]at he
      have i3:(e=0)=False:=eq_false he0
      push_cast[i3]
      rw[kBad e (by rw[<-he]) he0]
      exact A0 (by push_cast[D5.rs];rfl)
 ·intro out hol he
  have e1:(List.range r.length).drop r.length=[]:=by rw[List.drop_eq_nil_of_le];simp
  rw[e1]at he
  simp only[BE]at he
  have this:=kOk out he.symm (by omega)
  refine A7.2 ?_
  push_cast[AZ (Nat.le_refl _),Co (show k<2^62 by omega)]
  push_cast at this
  exact this
theorem ka {r:List A3}(hr:∀ x∈r,IM x)(hrl:r.length<=64):PF RX [As r] (.tup [MW (P9 r).1,.int .i64 (P9 r).2]):=by
 generalize hR:V.tup [MW (P9 r).1,.int .i64 (P9 r).2]=R
 generalize hSS:BE (Ii r) [] (List.range r.length)=SS
 have hRS:R=if SS.2≠0 then .tup [MW [],.int .i64 SS.2] else if 4096<SS.1.length then .tup [MW [],.int .i64 3] else .tup [MW SS.1,.int .i64 0]:=by
  rw[<-hR]
  unfold P9
  rw[hSS]
  split
  ·rfl
  ·split<;>rfl
 refine Ad D5.ok rfl ?_
 push_cast
 refine Ae (n:=r.length) (R:=fun i=>∀ out:List FM,out.length<=i*(4000*64)->BE (Ii r) out ((List.range r.length).drop i)=SS->D5.L12 (As r) (B8 Wq 0 12 out) (.int .i64 r.length) (.int .i64 i) 0 [lH out] (BH 0 D5.rs fun x' H'=>x'=R/\H'=[])) ?_ ?_ 0 (by omega) [] (by simp) hSS
 ·intro i hi ih out hol he
  have hx:=hr _ (A4 hi)
  have hir:i<(List.range r.length).length:=by simpa using hi
  have hgi:(List.range r.length).getD i default=i:=by simp[List.getD_eq_getElem?_getD,hi]
  rw[Ag hir,hgi]at he
  have hst:Ii r out i=Ii r out i:=rfl
  conv at hst=>rhs;unfold Ii
  have hPs:=Pc (r.getD i default).left (by have:=hx.l.sz;omega)
  have hvl:(Ab (r.getD i default).left []).length=size (r.getD i default).left:=FV _ _
  have hpl:(DZ (r.getD i default).left).length=size (r.getD i default).left:=by
   have:=congrArg List.length (Jh (r.getD i default).left [])
   simp only[List.length_map]at this
   omega
  have hsz:=hx.l.sz
  have mid:D5.L10 (As r) (B8 Wq 0 12 out) (.int .i64 i) (.int .i64 r.length) (.int .i64 i) (JZ (DZ (r.getD i default).left)) (.int .i64 (DZ (r.getD i default).left).length) (.int .i64 (0:Nat)) 0 [lH out] (BH 0 D5.rs fun x' H'=>x'=R/\H'=[]):=by
   refine Ae (n:=(DZ (r.getD i default).left).length) (R:=fun k=>∀ o2:List FM,o2.length<=out.length+k*64->BE (PZ r i) o2 ((Ab (r.getD i default).left []).drop k)=BE (PZ r i) out (Ab (r.getD i default).left [])->D5.L10 (As r) (B8 Wq 0 12 o2) (.int .i64 i) (.int .i64 r.length) (.int .i64 i) (JZ (DZ (r.getD i default).left)) (.int .i64 (DZ (r.getD i default).left).length) (.int .i64 k) 0 [lH o2] (BH 0 D5.rs fun x' H'=>x'=R/\H'=[])) ?_ ?_ 0 (by omega) out (by omega) rfl
   ·intro k hk ih2 o2 ho2 he2
    obtain⟨v1,v2⟩:=Zs (r.getD i default).left hk
    have hkv:k<(Ab (r.getD i default).left []).length:=by omega
    rw[Ag hkv]at he2
    have hg:=WX hx.l (A4 hkv)
    rw[v2]at hg
    have hAt:=Xc (r.getD i default).left ((DZ (r.getD i default).left).getD k default) (by omega) (by omega)
    rw[v1]at hAt
    have hst2:PZ r i o2 ((Ab (r.getD i default).left []).getD k default)=BE (HA r i ((DZ (r.getD i default).left).getD k default) ((Ab (r.getD i default).left []).getD k default).2) o2 (List.range r.length):=by unfold PZ;rw[v2]
    generalize (Ab (r.getD i default).left []).getD k default=y at he2 hst2 hAt v1 hg
    generalize hpp:(DZ (r.getD i default).left).getD k default=p at hst2 hAt v1 hg
    have hin:=iU hr hrl hi hg.2.1 v1 (P:=DZ (r.getD i default).left) (k:=k) (by omega) (R:=R) _ o2 (out.length+k*64) ho2 (by have:=Nat.mul_le_mul_right (4000*64) (show i<=64 by omega);omega) rfl
     (fun o3 h1 h2=>by
      rw[h1]at hst2
      rw[BA hst2]at he2
      exact ih2 o3 (by omega) he2)
     (fun e h1 h2=>by
      generalize BE (HA r i p y.2) o2 (List.range r.length)=S2 at hst2 h1
      obtain⟨o4,e2⟩:=S2
      have h1:e2=e:=h1
      subst h1
      rw[FT hst2 h2]at he2
      rw[<-he2]at hst
      rw[FT hst h2]at he
      rw[hRS,<-he,if_pos h2])
    refine A7.2 ?_
    push_cast[BB hk,BB hi,hpp]
    refine .of hAt ?_
    push_cast[LU]
    push_cast at hin
    exact hin
   ·intro o2 ho2 he2
    have e1:(Ab (r.getD i default).left []).drop (DZ (r.getD i default).left).length=[]:=by rw[List.drop_eq_nil_of_le];omega
    rw[e1]at he2
    simp only[BE]at he2
    rw[<-he2]at hst
    rw[BA hst]at he
    have this:=ih o2 (by rw[Nat.succ_mul];have:=Nat.mul_le_mul_right 64 (show (DZ (r.getD i default).left).length<=4000 by omega);omega) he
    refine A7.2 ?_
    push_cast[AZ (Nat.le_refl _),Co (show i<2^62 by omega)]
    push_cast at this
    exact this
  refine A7.2 ?_
  push_cast[BB hi]
  refine .of hPs ?_
  push_cast
  push_cast at mid
  exact mid
 ·intro out hol he
  have e1:(List.range r.length).drop r.length=[]:=by rw[List.drop_eq_nil_of_le];simp
  rw[e1]at he
  simp only[BE]at he
  rw[<-he]at hRS
  rw[if_neg (by simp)]at hRS
  refine A7.2 ?_
  by_cases h4:4096<out.length
  ·have i4:((4096:Int)<(out.length:Int))=True:=eq_true (by omega)
   push_cast[AZ (Nat.le_refl _),i4]
   rw[hRS,if_pos h4]
   exact A0 (by push_cast[D5.rs];rfl)
  ·have i4:((4096:Int)<(out.length:Int))=False:=eq_false (by omega)
   push_cast[AZ (Nat.le_refl _),i4]
   rw[hRS,if_neg h4]
   exact A0 (by push_cast[D5.rs])
def ti (P R:List FM×Int):Prop:=(P.2=0/\R.2=0/\P.1.length=R.1.length/\P.1.length<=4096)\/(P.2=3/\(R.2=3\/(R.2=0/\4096<R.1.length)))
def mz {β:Type}(G:List FM->β->List FM×Int)(l:List β):Prop:=∀ o,∀ y∈l,(G o y).2=3\/((G o y).2=0/\o.length<=(G o y).1.length)
theorem No {β:Type}{G:List FM->β->List FM×Int}:∀ (l:List β)(o:List FM),mz G l->(BE G o l).2=3\/((BE G o l).2=0/\o.length<=(BE G o l).1.length)
 | [],o,_=>.inr ⟨rfl,Nat.le_refl _⟩
 | y::l,o,h=>by
  simp only[BE]
  rcases h o y (by simp)with h1 | ⟨h1,h2⟩
  ·rw[if_pos (by rw[h1];decide)];exact .inl h1
  ·rw[if_neg (by rw[h1];decide)]
   rcases No l (G o y).1 fun o z hz=>h o z (by simp[hz])with h3 | ⟨h3,h4⟩
   ·exact .inl h3
   ·exact .inr ⟨h3,by omega⟩
theorem Tr {α β:Type}{F:List FM->α->List FM×Int}{G:List FM->β->List FM×Int}{f:β->α}:∀ (l:List β)(o o':List FM),mz G l->(∀ o o',∀ y∈l,o.length=o'.length->o.length<=4096->ti (F o (f y)) (G o' y))->o.length=o'.length->o.length<=4096->ti (BE F o (l.map f)) (BE G o' l)
 | [],o,o',_,_,h1,h2=>.inl ⟨rfl,rfl,h1,h2⟩
 | y::l,o,o',hm,hs,h1,h2=>by
  simp only[List.map_cons,BE]
  rcases hs o o' y (by simp) h1 h2 with ⟨a1,a2,a3,a4⟩|⟨a1,a2⟩
  ·rw[if_neg (by rw[a1];decide),if_neg (by rw[a2];decide)]
   exact Tr l _ _ (fun o z hz=>hm o z (by simp[hz])) (fun o o' z hz=>hs o o' z (by simp[hz])) a3 a4
  ·rw[if_pos (by rw[a1];decide)]
   refine .inr ⟨a1,?_⟩
   rcases a2 with a2 | ⟨a2,a3⟩
   ·rw[if_pos (by rw[a2];decide)];exact .inl a2
   ·rw[if_neg (by rw[a2];decide)]
    rcases No l (G o' y).1 fun o z hz=>hm o z (by simp[hz])with h3 | ⟨h3,h4⟩
    ·exact .inl h3
    ·exact .inr ⟨h3,by omega⟩
theorem Ss (a b:A3)(pos:List Int)(sub:Term):(E8 a b pos sub).2=0\/(E8 a b pos sub).2=3:=by
 by_cases h:(E8 a b pos sub).2=0
 ·exact .inl h
 ·exact .inr (aF a b pos sub h).2
theorem Q5 (r:List A3)(i:Nat)(p:List Int)(x:Term)(l:List Nat):mz (HA r i p x) l:=fun o j _=>by
 unfold HA
 split
 ·exact .inr ⟨rfl,Nat.le_refl _⟩
 ·split
  ·rename_i h
   rcases Ss (Cn [120] (r.getD i default)) (Cn [121] (r.getD j default)) p (app (Nh [120] (AG [] (r.getD i default).left)) x)with h2 | h2
   ·exact absurd h2 h
   ·exact .inl h2
  ·split
   ·exact .inr ⟨rfl,by simp⟩
   ·exact .inr ⟨rfl,Nat.le_refl _⟩
theorem PI (r:List A3)(i:Nat)(l:List (List Int×Term)):mz (PZ r i) l:=fun o y _=>No _ _ (Q5 r i y.1 y.2 _)
theorem Vx (r:List A3)(l:List Nat):mz (Ii r) l:=fun o i _=>No _ _ (PI r i _)
theorem qe (r:List A3)(i:Nat)(p:List Int)(x:Term)(hx:x.var=false)(o o':List FM)(j:Nat)(h1:o.length=o'.length)(h2:o.length<=4096) :
  ti (Kx r i (Cn [120] (r.getD i default)) p (app (Nh [120] (AG [] (r.getD i default).left)) x) o j) (HA r i p x o' j):=by
 unfold Kx HA
 have he:=Ss (Cn [120] (r.getD i default)) (Cn [121] (r.getD j default)) p (app (Nh [120] (AG [] (r.getD i default).left)) x)
 generalize E8 (Cn [120] (r.getD i default)) (Cn [121] (r.getD j default)) p (app (Nh [120] (AG [] (r.getD i default).left)) x)=v at he ⊢
 obtain⟨ok,e⟩:=v
 simp only at he ⊢
 by_cases hc:i=j/\p=[]
 ·rw[if_pos hc,if_pos (.inr hc)]
  exact .inl ⟨rfl,rfl,h1,h2⟩
 ·have c2:¬ (x.var=true\/(i=j/\p=[])):=by rw[hx];simp only[Bool.false_eq_true,false_or];exact hc
  rw[if_neg hc,if_neg c2]
  rcases he with rfl | rfl
  ·simp only[ne_eq,not_true_eq_false,if_false]
   cases ok with
   | true =>
    simp only[if_true]
    by_cases h4:4096<o.length+1
    ·rw[if_pos h4]
     exact .inr ⟨rfl,.inr ⟨rfl,by simp;omega⟩⟩
    ·rw[if_neg h4]
     exact .inl ⟨rfl,rfl,by simp;omega,by simp;omega⟩
   | false =>
    simp only[Bool.false_eq_true,if_false]
    rw[if_neg (by omega)]
    exact .inl ⟨rfl,rfl,h1,h2⟩
  ·have c3:(3:Int)≠0:=by decide
   rw[if_pos c3,if_pos c3]
   exact .inr ⟨rfl,.inl rfl⟩
theorem ZS {β:Type}{G:List FM->β->List FM×Int}{o:List FM}:∀ l:List β,(∀ y∈l,G o y=(o,0))->BE G o l=(o,0)
 | [],_=>rfl
 | y::l,h=>by rw[BA (h y (by simp))];exact ZS l fun z hz=>h z (by simp[hz])
theorem mw (r:List A3)(i:Nat)(o o':List FM)(y:List Int×Term)(h1:o.length=o'.length)(h2:o.length<=4096) :
  ti (Ky r i (Cn [120] (r.getD i default)) o (y.1,app (Nh [120] (AG [] (r.getD i default).left)) y.2)) (PZ r i o' y):=by
 unfold Ky PZ
 cases hv:y.2.var with
 | true =>
  have hv2:(app (Nh [120] (AG [] (r.getD i default).left)) y.2).var=true:=by rw[Av hv];rfl
  rw[if_pos hv2,ZS _ fun j _=>by unfold HA;rw[if_pos (.inl hv)]]
  exact .inl ⟨rfl,rfl,h1,h2⟩
 | false =>
  have hv2:(app (Nh [120] (AG [] (r.getD i default).left)) y.2).var=false:=by rw[B7 hv];rfl
  have hv3:¬ (((y.1,app (Nh [120] (AG [] (r.getD i default).left)) y.2):List Int×Term).2.var=true):=by
   show ¬ ((app (Nh [120] (AG [] (r.getD i default).left)) y.2).var=true)
   rw[hv2];simp
  rw[if_neg hv3]
  have:=Tr (F:=Kx r i (Cn [120] (r.getD i default)) y.1 (app (Nh [120] (AG [] (r.getD i default).left)) y.2)) (G:=HA r i y.1 y.2) (f:=id) (List.range r.length) o o' (Q5 r i y.1 y.2 _) (fun o o' j _ h1 h2=>qe r i y.1 y.2 hv o o' j h1 h2) h1 h2
  rw[List.map_id]at this
  exact this
theorem ph {f:EQ}(hf:∀ v,∃ w,f v=C2 w)(t:Term):∀ p:List Int,vfl t=true->Ab (app f t) p=(Ab t p).map fun x=>(x.1,app f x.2):=by
 induction t using Ah with
 | h t ih =>
 intro p ht
 rw[Hq (app f t),Hq t]
 cases hv:t.var with
 | true =>
  obtain⟨w,hw⟩:=hf t.name
  have h0:t.args=[]:=(KE.1 ht).1 hv
  have h1:(app f t).args=[]:=by rw[Av hv,hw];rfl
  rw[h0,h1]
  rfl
 | false =>
  have h1:(app f t).args=t.args.map (app f):=by rw[B7 hv];rfl
  rw[h1]
  have key:∀ (l:List Term)(i:Nat),(∀ a∈l,a∈t.args)->Bb (l.map (app f)) p i=(Bb l p i).map fun x=>(x.1,app f x.2):=by
   intro l
   induction l with
   | nil=>intro i _;rfl
   | cons a l ihl =>
    intro i hl
    simp only[List.map_cons,Bb,List.map_append]
    rw[ih a (hl a (by simp)) _ (BR ht (hl a (by simp))),ihl (i+1) fun b hb=>hl b (by simp[hb])]
  rw[key t.args 0 fun _ h=>h]
  rfl
theorem Rm {r:List A3}(hr:∀ x∈r,IM x):(O6 r).2=(P9 r).2/\((O6 r).2=0->(O6 r).1.length=(P9 r).1.length):=by
 have h:=Tr (F:=LJ r) (G:=Ii r) (f:=id) (List.range r.length) [] [] (Vx r _) (fun o o' i hi h1 h2=>by
  have hi:i<r.length:=List.mem_range.1 hi
  have hx:=hr _ (A4 hi)
  unfold LJ Ii
  have hv:=ph (f:=Nh [120] (AG [] (r.getD i default).left)) (fun v=>⟨_,rfl⟩) (r.getD i default).left [] hx.l.vf
  show ti (BE (Ky r i (Cn [120] (r.getD i default))) o (Ab (app (Nh [120] (AG [] (r.getD i default).left)) (r.getD i default).left) [])) _
  rw[hv]
  exact Tr (f:=fun x:List Int×Term=>(x.1,app (Nh [120] (AG [] (r.getD i default).left)) x.2)) _ o o' (PI r i _) (fun o o' y _ h1 h2=>mw r i o o' y h1 h2) h1 h2) rfl (by simp)
 rw[List.map_id]at h
 unfold P9
 show (BE (LJ r) [] (List.range r.length)).2=_/\((BE (LJ r) [] (List.range r.length)).2=0->(BE (LJ r) [] (List.range r.length)).1.length=_)
 generalize BE (LJ r) [] (List.range r.length)=P at h ⊢
 generalize BE (Ii r) [] (List.range r.length)=R at h ⊢
 rcases h with ⟨a1,a2,a3,a4⟩|⟨a1,a2⟩
 ·rw[if_neg (by rw[a2];decide),if_neg (by omega)]
  exact⟨a1,fun _=>a3⟩
 ·rcases a2 with a2 | ⟨a2,a3⟩
  ·rw[if_pos (by rw[a2];decide)]
   exact⟨by rw[a1,a2],fun h=>by rw[a1]at h;cases h⟩
  ·rw[if_neg (by rw[a2];decide),if_pos a3]
   exact⟨a1,fun h=>by rw[a1]at h;cases h⟩
theorem dh (t:Term)(v:A9)(hs:size t<2^61):PF KI [An t,.str v] (.int .i64 (Dh v t)):=by
 induction t using Ah with
 | h t ih =>
 have hst:=Aq t
 have hla:=Ap t.args
 have hcl:=QM v t.args
 refine Ad Hz.ok rfl ?_
 have loop:∀ c0:Nat,c0<=1->Dh v t=c0+BY v t.args->Hz.L3 (.str v) (.int .i64 c0) (Bk t.args) (.int .i64 t.args.length) (.int .i64 (0:Nat)) 0 [] (BH 0 Hz.rs fun x' H'=>x'=.int .i64 (Dh v t)/\H'=[]):=by
  intro c0 hc0 he
  refine Ae (n:=t.args.length) (R:=fun k=>∀ c:Nat,c=c0+BY v (t.args.take k)->Hz.L3 (.str v) (.int .i64 c) (Bk t.args) (.int .i64 t.args.length) (.int .i64 k) 0 [] (BH 0 Hz.rs fun x' H'=>x'=.int .i64 (Dh v t)/\H'=[])) ?_ ?_ 0 (by omega) c0 (by simp[BY])
  ·intro k hk ih2 c hc
   have hm:=A4 hk
   have hsm:=B4 hm
   have htk:=Px v t.args (k+1)
   rw[Aa hk,JH]at htk
   simp only[BY]at htk
   have hcall:=ih _ hm (by omega)
   have this:=ih2 (c+Dh v (t.args.getD k default)) (by rw[Aa hk,JH];simp only[BY];omega)
   generalize Dh v (t.args.getD k default)=d at hcall this htk
   have hw1:IntKind.i64.wrap ((c:Int)+(d:Int))=(c:Int)+d:=Cr (by omega) (by omega)
   refine A7.2 ?_
   push_cast[BB hk]
   refine .of hcall ?_
   push_cast[hw1,Co (show k<2^62 by omega)]
   push_cast at this
   exact this
  ·intro c hc
   rw[List.take_length]at hc
   refine A7.2 ?_
   push_cast[AZ (Nat.le_refl _)]
   rw[he,<-hc]
   exact A0 (by push_cast[Hz.rs])
 cases hv:t.var with
 | false =>
  have:=loop 0 (by omega) (by rw[M7,hv];simp)
  push_cast[hv]
  push_cast at this
  exact this
 | true =>
  by_cases hn:t.name=v
  ·have:=loop 1 (by omega) (by rw[M7,hv];simp[hn])
   push_cast[hv,hn,Co (show 0<2^62 by omega)]
   push_cast at this
   exact this
  ·have:=loop 0 (by omega) (by rw[M7,hv];simp[hn])
   push_cast[hv,hn]
   push_cast at this
   exact this
def Pt (t:Term):Bool:=!((DT t).any fun v=>decide (1<Dh v t))
theorem ZB {t:Term}(h:C3 t):(DT t).length<=4000:=by
 have h1:=II t []
 have:=h.sz
 have e:DT t=DD [] t:=rfl
 rw[e];simp only[List.length_nil]at h1;omega
theorem U7 {t:Term}(h:C3 t):PF Ja [An t] (.bool (Pt t)):=by
 have hsz:=h.sz
 have hV:=DS [t] (by simp[Af];omega)
 rw[<-XE]at hV
 have hC:=Dx (p:=fun v=>decide (1<Dh v t)) (g:=HI) (caps:=[.ro (cT t) 0]) (fun _=>by push_cast) (DT t) (by have:=ZB h;omega) fun v hv=>by
  refine Ad Jr.ok rfl ?_
  push_cast
  refine .of (dh t v (by omega)) ?_
  push_cast
  have hq:decide ((1:Int)<(Dh v t:Int))=decide (1<Dh v t):=decide_eq_decide.2 ⟨fun h=>by omega,fun h=>by omega⟩
  exact A0 (by push_cast[Jr.rs];rw[hq])
 refine Ad Lu.ok rfl ?_
 push_cast
 refine .of hV ?_
 push_cast
 refine .of hC ?_
 push_cast
 exact A0 (by push_cast[Lu.rs,Pt])
theorem Xi {r:List A3}(hr:∀ x∈r,IM x)(hl:r.length<=64):PF Ly [As r] (.bool (r.all fun x=>Pt x.left)):=by
 have hC:=Ei (p:=fun x=>!Pt x.left) (g:=Jm) (caps:=[]) (fun _=>rfl) r (by omega) fun x hx=>by
  refine Ad LI.ok rfl ?_
  push_cast
  refine .of (U7 (hr x hx).l) ?_
  push_cast
  exact A0 (by push_cast[LI.rs])
 refine Ad OJ.ok rfl ?_
 push_cast
 refine .of hC ?_
 push_cast
 refine A0 ?_
 push_cast[OJ.rs]
 congr 1
 rw[List.all_eq_not_any_not]
theorem di {t:Term}(h:C3 t):PF OO [An t] (.bool (Pt t)):=by
 have hsz:=h.sz
 have hV:=XO t (by have:=h.tb;omega)
 have hvl:=ZB h
 refine Ad Ji.ok rfl ?_
 push_cast
 refine .of hV ?_
 push_cast
 refine Ae (n:=(DT t).length) (R:=fun k=>((DT t).drop k).any (fun v=>decide (1<Dh v t))=(DT t).any (fun v=>decide (1<Dh v t))->Ji.L3 (.ro (cT t) 0) (C7 (DT t)) (.int .i64 (DT t).length) (.int .i64 k) 0 [] (BH 0 Ji.rs fun x' H'=>x'=.bool (Pt t)/\H'=[])) ?_ ?_ 0 (by omega) rfl
 ·intro k hk ih he
  rw[Ag hk]at he
  simp only[List.any_cons]at he
  have hc:=VD t ((DT t).getD k default) (by omega)
  refine A7.2 ?_
  generalize hv:(DT t).getD k default=v at he hc
  by_cases h1:1<Dh v t
  ·have i1:((1:Int)<(Dh v t:Int))=True:=eq_true (by omega)
   have hq:Pt t=false:=by unfold Pt;rw[<-he];simp[h1]
   rw[hq]
   push_cast[BB hk,hv]
   refine .of hc ?_
   push_cast[i1]
   exact A0 (by push_cast[Ji.rs])
  ·have i1:((1:Int)<(Dh v t:Int))=False:=eq_false (by omega)
   have this:=ih (by rw[<-he];simp[h1])
   push_cast[BB hk,hv]
   refine .of hc ?_
   push_cast[i1,Co (show k<2^62 by omega)]
   push_cast at this
   exact this
 ·intro he
  rw[Ar]at he
  refine A7.2 ?_
  push_cast[AZ (Nat.le_refl _)]
  refine A0 ?_
  push_cast[Ji.rs]
  unfold Pt
  rw[<-he];rfl
theorem Uj {r:List A3}(hr:∀ x∈r,IM x)(hl:r.length<=64):PF Jb [As r] (.bool (r.all fun x=>Pt x.left)):=by
 refine Ad Fc.ok rfl ?_
 push_cast
 refine Ae (n:=r.length) (R:=fun k=>((r.drop k).all fun x=>Pt x.left)=(r.all fun x=>Pt x.left)->Fc.L3 (As r) (.int .i64 r.length) (.int .i64 k) 0 [] (BH 0 Fc.rs fun x' H'=>x'=.bool (r.all fun x=>Pt x.left)/\H'=[])) ?_ ?_ 0 (by omega) rfl
 ·intro k hk ih he
  have hx:=hr _ (A4 hk)
  rw[Ag hk]at he
  simp only[List.all_cons]at he
  refine A7.2 ?_
  generalize hxx:r.getD k default=x at hx he
  have hc:=di hx.l
  cases h1:Pt x.left with
  | false =>
   rw[h1]at hc he
   rw[<-he]
   push_cast[BB hk,hxx]
   refine .of hc ?_
   push_cast
   exact A0 (by push_cast[Fc.rs])
  | true =>
   rw[h1]at hc he
   have this:=ih (by rw[<-he];simp)
   push_cast[BB hk,hxx]
   refine .of hc ?_
   push_cast[Co (show k<2^62 by omega)]
   push_cast at this
   exact this
 ·intro he
  rw[Ar]at he
  refine A7.2 ?_
  push_cast[AZ (Nat.le_refl _)]
  refine A0 ?_
  push_cast[Fc.rs]
  rw[<-he];rfl
theorem Gp {r:List A3}(h:Ao r=0):(∀ x∈r,IM x)/\r.length<=64:=by
 refine⟨fun x hx=>?_,?_⟩
 ·obtain⟨h1,h2⟩:=Ml h x hx
  exact⟨C3.of_check h1,C3.of_check h2,fun v hv=>(E5 v x.left).1 (Oy h x hx v hv)⟩
 ·have h1:Bu r=0:=by
   unfold Ao at h
   split at h
   ·rename_i hc;exact absurd h hc
   ·rename_i hc;simpa using hc
  unfold Bu at h1
  split at h1
  ·cases h1
  ·omega
noncomputable def F6 (r:List A3):Bool×Int :=
 if Ao r≠0 then (false,Ao r) else if (O6 r).2≠0 then (false,(O6 r).2) else (decide ((O6 r).1.length=0)&&r.all fun x=>Pt x.left,0)
theorem Qq {r:List A3}(hs:Mg r<2^38):PF Gr [As r] (.tup [.bool (F6 r).1,.int .i64 (F6 r).2]):=by
 have hC:=Lt r hs
 have hList:PF LZ [As r] (if Ao r≠0 then .tup [MW [],.int .i64 (Ao r)] else .tup [MW (O6 r).1,.int .i64 (O6 r).2]):=by
  refine Ad KT.ok rfl ?_
  push_cast
  refine .of hC ?_
  by_cases h0:Ao r=0
  ·obtain⟨h1,h2⟩:=Gp h0
   rw[if_neg (by simpa using h0)]
   push_cast[h0]
   refine .of (YW h1 h2) ?_
   push_cast
   exact A0 (by push_cast[KT.rs])
  ·rw[if_pos h0]
   push_cast[h0]
   exact A0 (by push_cast[KT.rs];rfl)
 refine Ad Db.ok rfl ?_
 unfold F6
 push_cast
 refine .of hList ?_
 by_cases h0:Ao r=0
 ·obtain⟨h1,h2⟩:=Gp h0
  rw[if_neg (by simpa using h0),if_neg (by simpa using h0)]
  have hL:=Xi h1 h2
  generalize O6 r=A
  obtain⟨l,e⟩:=A
  simp only
  by_cases he:e=0
  ·subst he
   simp only[ne_eq,not_true_eq_false,if_false]
   by_cases hl:l.length=0
   ·have i1:((l.length:Int)=0)=True:=eq_true (by omega)
    push_cast[i1]
    refine .of hL ?_
    push_cast
    exact A0 (by push_cast[Db.rs,hl])
   ·have i1:((l.length:Int)=0)=False:=eq_false (by omega)
    push_cast[i1]
    exact A0 (by push_cast[Db.rs,hl])
  ·have i1:(e=0)=False:=eq_false he
   rw[if_pos he]
   push_cast[i1]
   exact A0 (by push_cast[Db.rs])
 ·rw[if_pos h0,if_pos h0]
  have i1:(Ao r=0)=False:=eq_false h0
  push_cast[i1]
  exact A0 (by push_cast[Db.rs])
theorem UB {r:List A3}(hs:Mg r<2^38):PF Jl [As r] (.tup [.bool (F6 r).1,.int .i64 (F6 r).2]):=by
 have hC:=Tv r hs
 refine Ad F7.ok rfl ?_
 unfold F6
 push_cast
 refine .of hC ?_
 by_cases h0:Ao r=0
 ·obtain⟨h1,h2⟩:=Gp h0
  rw[if_neg (by simpa using h0)]
  have hL:=Uj h1 h2
  have hLi:=ka h1 h2
  obtain⟨s1,s2⟩:=Rm h1
  rw[s1]at s2 ⊢
  generalize O6 r=P at s2 ⊢
  generalize P9 r=A at hLi s2 ⊢
  obtain⟨l,e⟩:=A
  simp only at s2 ⊢
  push_cast[h0]
  refine .of hLi ?_
  by_cases he:e=0
  ·subst he
   have hl2:=s2 rfl
   rw[hl2]
   simp only[ne_eq,not_true_eq_false,if_false]
   by_cases hl:l.length=0
   ·have i1:((l.length:Int)=0)=True:=eq_true (by omega)
    push_cast[i1]
    refine .of hL ?_
    push_cast
    exact A0 (by push_cast[F7.rs,hl])
   ·have i1:((l.length:Int)=0)=False:=eq_false (by omega)
    push_cast[i1]
    exact A0 (by push_cast[F7.rs,hl])
  ·have i1:(e=0)=False:=eq_false he
   rw[if_pos he]
   push_cast[i1]
   exact A0 (by push_cast[F7.rs])
 ·rw[if_pos h0]
  have i1:(Ao r=0)=False:=eq_false h0
  push_cast[i1]
  exact A0 (by push_cast[F7.rs])
noncomputable def Fy (r:List A3):Int:=if (F6 r).2≠0 then (F6 r).2 else if (F6 r).1 then 0 else 2
theorem Nu {r:List A3}(hs:Mg r<2^38):PF GT [As r] (.int .i64 (Fy r)):=by
 have hO:=Qq hs
 refine Ad Gx.ok rfl ?_
 unfold Fy
 push_cast
 refine .of hO ?_
 generalize F6 r=v
 obtain⟨ok,e⟩:=v
 simp only
 by_cases he:e=0
 ·subst he
  cases ok
  ·push_cast
   exact A0 (by push_cast[Gx.rs])
  ·push_cast
   exact A0 (by push_cast[Gx.rs])
 ·have i1:(e=0)=False:=eq_false he
  push_cast[i1]
  exact A0 (by push_cast[Gx.rs])
theorem Tl {r:List A3}(hs:Mg r<2^38):PF IN [As r] (.int .i64 (Fy r)):=by
 have hO:=UB hs
 refine Ad FO.ok rfl ?_
 unfold Fy
 push_cast
 refine .of hO ?_
 generalize F6 r=v
 obtain⟨ok,e⟩:=v
 simp only
 by_cases he:e=0
 ·subst he
  cases ok
  ·push_cast
   exact A0 (by push_cast[FO.rs])
  ·push_cast
   exact A0 (by push_cast[FO.rs])
 ·have i1:(e=0)=False:=eq_false he
  push_cast[i1]
  exact A0 (by push_cast[FO.rs])
theorem Qg {r:List A3}(h:Fy r=0):F6 r=(true,0)/\Ao r=0:=by
 have h1:F6 r=(true,0):=by
  unfold Fy at h
  split at h
  ·rename_i hc;exact absurd h hc
  ·rename_i hc
   split at h
   ·rename_i h2
    have h3:(F6 r).2=0:=by simpa using hc
    exact Prod.ext h2 h3
   ·cases h
 refine⟨h1,?_⟩
 unfold F6 at h1
 by_cases hc:Ao r=0
 ·exact hc
 ·rw[if_pos hc]at h1
  exact absurd (congrArg Prod.fst h1) (by simp)
def K7 (r:List A3)(m:A1):Int:=if (MX r A3.left m).2≠0 then (MX r A3.left m).2 else (MX r A3.right m).2
def Qx (r:List A3)(m:A1):Term:=(MX r A3.left m).1.getD yN
def xk (r:List A3)(m:A1):Term:=if (MX r A3.left m).2≠0 then Qx r m else (MX r A3.right m).1.getD yN
theorem jU (o:Option Term)(e:Int):I2 o e=.tup [An (o.getD yN),.int .i64 e]:=by cases o<;>rfl
theorem P0 {r:List A3}{m:A1}(hr:Mg r<2^38)(hm:mb m<2^38):PF Hw [As r,Be m] (.tup [An (Qx r m),An (xk r m),.int .i64 (K7 r m)]):=by
 have h1:=WH r m hr hm
 have h2:=Y8 r m hr hm
 rw[jU]at h1 h2
 unfold Qx xk K7
 unfold Qx
 generalize MX r A3.left m=A at *
 generalize MX r A3.right m=B at *
 obtain⟨o1,e1⟩:=A
 obtain⟨o2,e2⟩:=B
 refine Ad Jz.ok rfl ?_
 push_cast
 refine .of h1 ?_
 simp only
 by_cases he:e1=0
 ·subst he
  push_cast
  refine .of h2 ?_
  push_cast
  exact A0 (by push_cast[Jz.rs])
 ·have i1:(e1=0)=False:=eq_false he
  push_cast[i1]
  exact A0 (by push_cast[Jz.rs])
noncomputable def Pe (r:List A3)(a b:A1):Int :=
 if Fy r≠0 then Fy r else if K7 r a≠0 then K7 r a else if K7 r b≠0 then K7 r b else if Qx r a=Qx r b then 0 else 9
theorem WM {r:List A3}{m:A1}(h:K7 r m=0):LF r m=0/\Qx r m=Az r A3.left m/\xk r m=Az r A3.right m/\BU (Az r A3.left m)=true/\BU (Az r A3.right m)=true:=by
 unfold K7 at h
 split at h
 ·rename_i hc;exact absurd h hc
 ·rename_i hc
  have hc:(MX r A3.left m).2=0:=by simpa using hc
  obtain⟨a1,a2,a3⟩:=aq hc
  obtain⟨b1,b2,b3⟩:=aq h
  refine⟨a1,?_,?_,a2,b2⟩
  ·unfold Qx;rw[a3];rfl
  ·unfold xk;rw[if_neg (by simpa using hc),b3];rfl
theorem VS {r:List A3}{a b:A1}(hr:Mg r<2^38)(ha:mb a<2^38)(hb:mb b<2^38):PF Kq [As r,Be a,Be b] (.int .i64 (Pe r a b)):=by
 have h0:=Nu hr
 have h1:=P0 hr ha
 have h2:=P0 hr hb
 have hz:K7 r a=0->size (Qx r a)<2^62:=fun h=>by
  obtain⟨_,e,_,f,_⟩:=WM h
  rw[e]
  unfold BU at f
  simp at f
  omega
 unfold Pe
 refine Ad EH.ok rfl ?_
 push_cast
 refine .of h0 ?_
 generalize Fy r=e0
 by_cases c0:e0=0
 ·subst c0
  simp only[ne_eq,not_true_eq_false,if_false]
  push_cast
  refine .of h1 ?_
  by_cases c1:K7 r a=0
  ·have hz:=hz c1
   rw[if_neg (by simpa using c1)]
   push_cast[c1]
   refine .of h2 ?_
   by_cases c2:K7 r b=0
   ·rw[if_neg (by simpa using c2)]
    push_cast[c2]
    refine .of (T7 (Qx r a) (Qx r b) hz) ?_
    by_cases c3:Qx r a=Qx r b
    ·rw[if_pos c3]
     push_cast[c3]
     exact A0 (by push_cast[EH.rs])
    ·rw[if_neg c3]
     push_cast[c3]
     exact A0 (by push_cast[EH.rs])
   ·rw[if_pos c2]
    have i2:(K7 r b=0)=False:=eq_false c2
    push_cast[i2]
    exact A0 (by push_cast[EH.rs])
  ·rw[if_pos c1]
   have i1:(K7 r a=0)=False:=eq_false c1
   push_cast[i1]
   exact A0 (by push_cast[EH.rs])
 ·rw[if_pos c0]
  have i0:(e0=0)=False:=eq_false c0
  push_cast[i0]
  exact A0 (by push_cast[EH.rs])
end Go.Dw
section
namespace Go.Dw
theorem dS (r:List A3)(l:List BZ)(bad:Bool):I4 1 (Nt r l bad):=⟨rfl,rfl⟩
section
variable {N:Nat->C} {B:Nat} {s:List K} {t:T} {Q:X->T->List Ob->Prop}
theorem Lg {d:Option Nat}{L:List S}{f:Nat}{vs vs':List V}{r:List A3}{l:List BZ}{bad bad':Bool}{x:V}{J:List Ob}(hvs:AN (AI 1) vs=vs')(hx:∀ σ,ren σ x=x)
  (hs:Spec prog f vs' (Nt r l bad) fun x' H'=>x'=x/\H'=Nt r l bad') (k:Ax prog N B (.r L::s) (Fd d x t) (Nt r l bad'++J) Q):Bl prog N B d L s t Q (.func f) vs (Nt r l bad++J):=by
 refine Ym (dS r l bad) hvs (AT▸hs) ?_ ?_
 ·rintro x' H' ⟨_,rfl⟩;exact dS r l bad'
 ·rintro x' H' ⟨rfl,rfl⟩
  rw[hx];exact k
end
theorem U6 (o:Option BZ)(σ:Nat->Option Nat):ren σ (J0 o)=J0 o:=by cases o<;>rfl
set_option maxHeartbeats 4000000 in
theorem VQ (r:List A3)(l:List BZ)(hr:Mg r<2^28)(hc:Ao r=0)(hl:l.length<2^40)(hp:∀ s∈l,s.pos.length<2^40):∀ (n:Nat)(t:Term)(pos:List Int)(bad:Bool),size t<=n->size t<2^20->pos.length+size t<2^30->XD r l t pos ->
  Spec prog Aj [.ptr 0 0,An t,D0 pos] (Nt r l bad) fun x H'=>x=Be (AQ r l n t pos).1/\H'=Nt r l (bad||(AQ r l n t pos).2):=by
 intro n
 induction n with
 | zero=>intro t pos bad hn;have:=Qn t;omega
 | succ n ihn =>
 intro t pos bad hn hz hpl hm
 have hst:=Aq t
 have hll:=Ap t.args
 have hA:=SY r l bad pos (by omega) (fun s hs=>by have:=hp s hs;omega)
 refine AC mixed YR.ok rfl ?_
 generalize hres:AQ r l (n+1) t pos=res
 unfold Nt
 push_cast
 refine Lg (r:=r) (l:=l) (bad:=bad) (bad':=bad) (J:=[_,_]) (x:=J0 (VJ l pos)) (vs':=[.ptr 0 0,D0 pos]) (by rfl) (U6 _) hA ?_
 simp only[AQ]at hres
 cases ha:VJ l pos with
 | none =>
  rw[ha]at hres
  dsimp only at hres
  unfold Nt
  push_cast[J0,List.cons_append,List.nil_append]
  have h9:=Ae (n:=t.args.length) (R:=fun k=>YR.L14 (.ptr 1 0) (.ro [D0 pos] 0) (.ptr 2 0) (.ptr 4 0) (Bk t.args) (.int .i64 t.args.length) (.int .i64 k) 1 [.cells AW [As r,Cq l,.bool (bad||(List.range k).any fun i=>(AQ r l n (t.args.getD i default) (pos++[(i:Int)])).2)],.cells Ew [.ptr 0 0],.cells A8 [.int .i64 0,.str [],.bool false,.sl 4 []],.dead,.cells A8 [.int .i64 0,.str t.name,.bool t.var,B8 cM 5 4 ((List.range k).map fun i=>(AQ r l n (t.args.getD i default) (pos++[(i:Int)])).1)],.arr A8 4 k] (BH 1 YR.rs fun x H'=>x=Be res.1/\H'=[.cells AW [As r,Cq l,.bool (bad||res.2)]])) ?_ ?_ 0 (by omega)
  ·simp only[List.range_zero,List.any_nil,Bool.or_false,List.map_nil]at h9
   exact h9
  ·intro k hk ih
   have hmem:=A4 hk
   have hsz:=B4 hmem
   have hsub:Bt t [(k:Int)]=some (t.args.getD k default):=by
    simp only[Bt];rw[if_pos (by omega),Int.toNat_natCast]
   have hmk:=hm.sub hsub
   have hlen:((List.range k).map fun i=>(AQ r l n (t.args.getD i default) (pos++[(i:Int)])).1).length=k:=by simp
   rw[List.range_succ,List.any_append,List.map_append,<-Bool.or_assoc]at ih
   simp only[List.any_cons,List.any_nil,Bool.or_false,List.map_cons,List.map_nil]at ih
   generalize ((List.range k).map fun i=>(AQ r l n (t.args.getD i default) (pos++[(i:Int)])).1)=ms at ih hlen ⊢
   generalize (bad||(List.range k).any fun i=>(AQ r l n (t.args.getD i default) (pos++[(i:Int)])).2)=bk at ih ⊢
   have hI:=ihn (t.args.getD k default) (pos++[(k:Int)]) bk (by omega) (by omega) (by rw[List.length_append,List.length_singleton];omega) hmk
   refine A7.2 ?_
   push_cast[BB hk]
   generalize hbb:AQ r l n (t.args.getD k default) (pos++[(k:Int)])=bb at ih hI
   repeat' (refine And.intro ?_ ?_)
   all_goals
    refine NR (HM pos (by omega)) ?_
    push_cast
    refine⟨by unfold Ai;omega,?_⟩
   repeat' (refine And.intro ?_ ?_)
   all_goals
    refine Lg (r:=r) (l:=l) (bad:=bk) (bad':=bk||bb.2) (J:=[_,_,_,_,_,_,_]) (x:=Be bb.1) (vs':=[.ptr 0 0,An (t.args.getD k default),D0 (pos++[(k:Int)])]) ?_ (fun _=>PY _) hI ?_
   all_goals first
    | (push_cast;rw[tl];done)
    | skip
   all_goals
    unfold Nt
    push_cast[List.cons_append,List.nil_append,hlen,Co (show k<2^62 by omega)]
    refine⟨by unfold Ai;omega,?_⟩
    exact ih
  ·refine A7.2 ?_
   push_cast[AZ (Nat.le_refl _)]
   rw[<-hres]
   dsimp only
   generalize ((List.range t.args.length).map fun i=>(AQ r l n (t.args.getD i default) (pos++[(i:Int)])).1)=ms
   generalize ((List.range t.args.length).any fun i=>(AQ r l n (t.args.getD i default) (pos++[(i:Int)])).2)=bk
   exact Am (x:=.agg [.int .i64 0,.str t.name,.bool t.var,B8 cM 5 4 ms]) (H:=[.cells AW [As r,Cq l,.bool (bad||bk)]]) (J:=[_,_,_,_,_]) ⟨rfl,rfl⟩ (by push_cast[YR.rs]) ⟨by push_cast[ZC],rfl⟩
 | some s =>
  rw[ha]at hres
  dsimp only at hres
  unfold Nt
  push_cast[J0,List.cons_append,List.nil_append]
  obtain⟨e1,e2,e3,e4,e5,e6,e7,e8⟩:=hm.vars hc ha
  have hsx:=Gc e2
  have hszl:size (AP r s)<2^28:=by
   unfold AP
   have:=Bc (r.getD s.rule.toNat default).left
   omega
  refine⟨⟨e3,e4⟩,?_⟩
  rw[<-e1]
  refine .of (Gw _) ?_
  push_cast
  have hss:=I0 (AP r s) []
  have hov:∀ k,(bad||((Ab (AP r s) []).take k).any (P2 l pos))=(bad||((Ab (AP r s) []).take k).any (P2 l pos)):=fun _=>rfl
  refine Ax.rf C6 [] [.ro (cT (AP r s)) 0] ((Ab (AP r s) []).map EO) (fun j H1=>H1=[.cells AW [As r,Cq l,.bool (bad||((Ab (AP r s) []).take j).any (P2 l pos))],.cells Ew [.ptr 0 0],.cells A8 [.int .i64 0,.str [],.bool false,.sl 4 []],.dead,.dead]) (fun _ _=>False) rfl (E4 (AP r s) (by omega)) ?_ (by rw[List.take_zero,List.any_nil,Bool.or_false]) ?_ ?_ (fun _ _ h=>h.elim) ?_ ?_ (fun _ _ h=>h.elim)
  ·intro it hit
   obtain⟨x,_,rfl⟩:=List.mem_map.1 hit
   rfl
  ·push_cast
  ·rintro j H1 rfl
   refine⟨rfl,?_⟩
   push_cast
  ·rintro lo rr j it H1 hit rfl
   rw[List.getElem?_map]at hit
   cases hx:(Ab (AP r s) [])[j]? with
   | none=>rw[hx]at hit;cases hit
   | some x =>
   rw[hx]at hit
   have hit:it=EO x:=by simpa using hit.symm
   subst hit
   have hj:j<(Ab (AP r s) []).length:=(List.getElem?_eq_some_iff.1 hx).1
   have hxj:(Ab (AP r s) [])[j]=x:=(List.getElem?_eq_some_iff.1 hx).2
   have htk:(Ab (AP r s) []).take (j+1)=(Ab (AP r s) []).take j++[x]:=by rw[List.take_succ_eq_append_getElem hj,hxj]
   have hxl:=(hss x (List.mem_of_getElem? hx)).2
   have hsn:(bad||((Ab (AP r s) []).take (j+1)).any (P2 l pos))=((bad||((Ab (AP r s) []).take j).any (P2 l pos))||P2 l pos x):=by
    rw[htk,List.any_append,<-Bool.or_assoc];simp
   generalize (bad||((Ab (AP r s) []).take j).any (P2 l pos))=bk at hsn ⊢
   push_cast[MF,EO]
   refine A7.2 ?_
   push_cast
   refine .of (mg pos x.1 (by simp at hxl;omega)) ?_
   push_cast
   have hA2:=SY r l bk (pos++x.1) (by omega) (fun s hs=>by have:=hp s hs;omega)
   have hx1:P2 l pos x=((VJ l (pos++x.1)).isSome&&(!x.2.var&&decide (0<x.1.length))):=rfl
   refine⟨?_,?_⟩
   ·refine Lg (r:=r) (l:=l) (bad:=bk) (bad':=bk) (J:=[_,_,_,_,_,_]) (x:=J0 (VJ l (pos++x.1))) (vs':=[.ptr 0 0,D0 (pos++x.1)]) (by rfl) (U6 _) hA2 ?_
    unfold Nt
    cases hat:VJ l (pos++x.1)with
    | none =>
     rw[hat]at hx1
     simp only[Option.isSome_none,Bool.false_and]at hx1
     rw[hx1,Bool.or_false]at hsn
     push_cast[J0,List.cons_append,List.nil_append]
     refine⟨rfl,?_⟩
     push_cast[cut,hsn]
    | some s2 =>
     rw[hat]at hx1
     simp only[Option.isSome_some,Bool.true_and]at hx1
     cases hv:x.2.var with
     | true =>
      rw[hv]at hx1
      simp only[Bool.not_true,Bool.false_and]at hx1
      rw[hx1,Bool.or_false]at hsn
      push_cast[J0,List.cons_append,List.nil_append,hv]
      refine⟨rfl,?_⟩
      push_cast[cut,hsn]
     | false =>
      rw[hv]at hx1
      simp only[Bool.not_false,Bool.true_and]at hx1
      by_cases hx0:0<x.1.length
      ·have hxi:((0:Int)<(x.1.length:Int))=True:=eq_true (by omega)
       rw[hx1,decide_eq_true hx0,Bool.or_true]at hsn
       push_cast[J0,List.cons_append,List.nil_append,hv,hxi]
       refine⟨rfl,?_⟩
       push_cast[cut,hsn]
      ·have hxi:((0:Int)<(x.1.length:Int))=False:=eq_false (by omega)
       rw[hx1,decide_eq_false hx0,Bool.or_false]at hsn
       push_cast[J0,List.cons_append,List.nil_append,hv,hxi]
       refine⟨rfl,?_⟩
       push_cast[cut,hsn]
   ·refine Lg (r:=r) (l:=l) (bad:=bk) (bad':=bk) (J:=[_,_,_,_,_,_,_]) (x:=J0 (VJ l (pos++x.1))) (vs':=[.ptr 0 0,D0 (pos++x.1)]) (by rfl) (U6 _) hA2 ?_
    unfold Nt
    cases hat:VJ l (pos++x.1)with
    | none =>
     rw[hat]at hx1
     simp only[Option.isSome_none,Bool.false_and]at hx1
     rw[hx1,Bool.or_false]at hsn
     push_cast[J0,List.cons_append,List.nil_append]
     refine⟨rfl,?_⟩
     push_cast[cut,hsn]
    | some s2 =>
     rw[hat]at hx1
     simp only[Option.isSome_some,Bool.true_and]at hx1
     cases hv:x.2.var with
     | true =>
      rw[hv]at hx1
      simp only[Bool.not_true,Bool.false_and]at hx1
      rw[hx1,Bool.or_false]at hsn
      push_cast[J0,List.cons_append,List.nil_append,hv]
      refine⟨rfl,?_⟩
      push_cast[cut,hsn]
     | false =>
      rw[hv]at hx1
      simp only[Bool.not_false,Bool.true_and]at hx1
      by_cases hx0:0<x.1.length
      ·have hxi:((0:Int)<(x.1.length:Int))=True:=eq_true (by omega)
       rw[hx1,decide_eq_true hx0,Bool.or_true]at hsn
       push_cast[J0,List.cons_append,List.nil_append,hv,hxi]
       refine⟨rfl,?_⟩
       push_cast[cut,hsn]
      ·have hxi:((0:Int)<(x.1.length:Int))=False:=eq_false (by omega)
       rw[hx1,decide_eq_false hx0,Bool.or_false]at hsn
       push_cast[J0,List.cons_append,List.nil_append,hv,hxi]
       refine⟨rfl,?_⟩
       push_cast[cut,hsn]
  ·rintro H1 rfl
   have htl:(Ab (AP r s) []).take ((Ab (AP r s) []).map EO).length=Ab (AP r s) []:=by rw[List.length_map,List.take_length]
   rw[htl]
   have hw:IntKind.i64.wrap (s.rule+1)=s.rule+1:=Cr (by have:=By r;omega) (by have:=By r;omega)
   push_cast[hw]
   refine .of (DS [AP r s] (by simp[Af];omega)) ?_
   push_cast
   have hvl:=HF [AP r s]
   have hsl:Af [AP r s]=size (AP r s):=by simp[Af]
   generalize hb0:(bad||(Ab (AP r s) []).any (P2 l pos))=b0
   generalize hL:AP r s=L at *
   have hbs:∀ (v:A9)(p:List Int),p∈FJ L v->Bt t p=some (Ej t p)/\size (Ej t p)<=n/\size (Ej t p)<2^20/\(pos++p).length+size (Ej t p)<2^30/\XD r l (Ej t p) (pos++p)/\p.length<2^30:=fun v p hpo=>by
    obtain⟨g1,g2,g3⟩:=e8 v p hpo
    have h1:=kK g1 g2
    have h2:=dO p t _ g2
    rw[g3]
    exact⟨g2,by omega,by omega,by rw[List.length_append];omega,hm.sub g2,by omega⟩
   have h9:=Ae (n:=(AD [L]).length) (R:=fun k=>YR.L7 (.ptr 1 0) (.ro (cT t) 0) (.ro [D0 pos] 0) (.ptr 2 0) (.ro (cT L) 0) (.ptr 6 0) (C7 (AD [L])) (.int .i64 (AD [L]).length) (.int .i64 k) 1 [.cells AW [As r,Cq l,.bool (b0||((AD [L]).take k).any fun v=>iI ((FJ L v).map fun p=>AQ r l n (Ej t p) (pos++p)))],.cells Ew [.ptr 0 0],.cells A8 [.int .i64 0,.str [],.bool false,.sl 4 []],.dead,.dead,.dead,.cells A8 [.int .i64 (s.rule+1),.str [],.bool false,B8 cM 7 4 (((AD [L]).take k).map fun v=>VU ((FJ L v).map fun p=>AQ r l n (Ej t p) (pos++p)))],.arr A8 4 k] (BH 1 YR.rs fun x H'=>x=Be res.1/\H'=[.cells AW [As r,Cq l,.bool (bad||res.2)]])) ?_ ?_ 0 (by omega)
   ·simp only[List.take_zero,List.any_nil,Bool.or_false,List.map_nil]at h9
    exact h9
   ·intro k hk ih
    have hlen:(((AD [L]).take k).map fun v=>VU ((FJ L v).map fun p=>AQ r l n (Ej t p) (pos++p))).length=k:=by simp;omega
    rw[Aa hk,List.any_append,List.map_append,<-Bool.or_assoc]at ih
    simp only[List.any_cons,List.any_nil,Bool.or_false,List.map_cons,List.map_nil]at ih
    generalize (((AD [L]).take k).map fun v=>VU ((FJ L v).map fun p=>AQ r l n (Ej t p) (pos++p)))=ms at ih hlen ⊢
    generalize (b0||((AD [L]).take k).any fun v=>iI ((FJ L v).map fun p=>AQ r l n (Ej t p) (pos++p)))=bk at ih ⊢
    refine A7.2 ?_
    generalize hv:(AD [L]).getD k default=v at ih
    push_cast[BB hk,hv]
    refine .of (Rh L v (by omega)) ?_
    push_cast
    have hbs:=hbs v
    have hpl2:(FJ L v).length<=2^30:=by
     have h1:=eB v (Ab L [])
     rw[FV]at h1
     unfold FJ;omega
    generalize FJ L v=ps at hbs ih hpl2
    have hbd:∀ j,j<ps.length->(ps.map fun p=>AQ r l n (Ej t p) (pos++p)).getD j (zM,false)=AQ r l n (Ej t (ps.getD j default)) (pos++ps.getD j default):=fun j hj=>by simp[List.getD_eq_getElem?_getD,hj]
    have hB:iI (ps.map fun p=>AQ r l n (Ej t p) (pos++p))=ps.any fun p=>(AQ r l n (Ej t p) (pos++p)).2||!decide (VU (ps.map fun p=>AQ r l n (Ej t p) (pos++p))=(AQ r l n (Ej t p) (pos++p)).1):=by
     unfold iI;rw[List.any_map];rfl
    rw[hB]at ih
    generalize hF:VU (ps.map fun p=>AQ r l n (Ej t p) (pos++p))=F at ih
    have hF0:ps=[]->F=zM:=by rintro rfl;exact hF.symm
    have hF1:0<ps.length->F=(AQ r l n (Ej t (ps.getD 0 default)) (pos++ps.getD 0 default)).1:=fun h=>by rw[<-hbd 0 h];exact hF.symm
    have hFz:0<ps.length->AV F<2^20:=fun h=>by
     obtain⟨b1,b2,b3,b4,b5,b6⟩:=hbs _ (A4 h)
     have hSz:=(JY hc n _ _ b2 b5).1
     rw[<-hF1 h]at hSz
     omega
    have h8:=Ae (n:=ps.length) (R:=fun j=>YR.L5 (.ptr 1 0) (.ro (cT t) 0) (.ro [D0 pos] 0) (.ptr 2 0) (.ro (cT L) 0) (.ptr 6 0) (.ptr 8 0) (C7 (AD [L])) (.int .i64 (AD [L]).length) (.int .i64 k) (JZ ps) (.int .i64 ps.length) (.int .i64 j) 1 [.cells AW [As r,Cq l,.bool (bk||(ps.take j).any fun p=>(AQ r l n (Ej t p) (pos++p)).2||!decide (F=(AQ r l n (Ej t p) (pos++p)).1))],.cells Ew [.ptr 0 0],.cells A8 [.int .i64 0,.str [],.bool false,.sl 4 []],.dead,.dead,.dead,.cells A8 [.int .i64 (s.rule+1),.str [],.bool false,B8 cM 7 4 ms],.arr A8 4 k,.cells A8 (cM (if j=0 then zM else F))] (BH 1 YR.rs fun x H'=>x=Be res.1/\H'=[.cells AW [As r,Cq l,.bool (bad||res.2)]])) ?_ ?_ 0 (by omega)
    ·simp only[List.take_zero,List.any_nil,Bool.or_false,if_true]at h8
     exact h8
    ·intro j hj ihj
     rw[Aa hj,List.any_append,<-Bool.or_assoc]at ihj
     simp only[List.any_cons,List.any_nil,Bool.or_false]at ihj
     rw[if_neg (by omega)]at ihj
     have hFz:=hFz (by omega)
     obtain⟨b1,b2,b3,b4,b5,b6⟩:=hbs _ (A4 hj)
     have hF1:=fun h:j=0=>(by subst h;exact hF1 hj:F=(AQ r l n (Ej t (ps.getD j default)) (pos++ps.getD j default)).1)
     generalize (bk||(ps.take j).any fun p=>(AQ r l n (Ej t p) (pos++p)).2||!decide (F=(AQ r l n (Ej t p) (pos++p)).1))=bj at ihj ⊢
     refine A7.2 ?_
     generalize hq:ps.getD j default=q at *
     have hI:=ihn (Ej t q) (pos++q) bj b2 b3 b4 b5
     have hSz:=(JY hc n (Ej t q) (pos++q) b2 b5).1
     generalize AQ r l n (Ej t q) (pos++q)=bb at ihj hI hSz hF1
     push_cast[BB hj,hq]
     refine .of (il t q (by omega)) ?_
     rw[b1]
     push_cast[LU]
     refine .of (mg pos q (by rw[List.length_append]at b4;omega)) ?_
     push_cast
     refine⟨?_,?_⟩
     ·refine Lg (r:=r) (l:=l) (bad:=bj) (bad':=bj||bb.2) (J:=[_,_,_,_,_,_,_,_,_]) (x:=Be bb.1) (vs':=[.ptr 0 0,An (Ej t q),D0 (pos++q)]) (by rfl) (fun _=>PY _) hI ?_
      unfold Nt
      by_cases hj0:j=0
      ·have hFe:=hF1 hj0
       have hge:((0:Int)<(j:Int))=False:=eq_false (by omega)
       have hje:((j:Int)=0)=True:=eq_true (by omega)
       rw[hFe,decide_eq_true (rfl:bb.1=bb.1),Bool.not_true,Bool.or_false]at ihj
       push_cast[List.cons_append,List.nil_append,hge,hje,Co (show j<2^62 by omega)]
       exact ihj
      ·have hge:((0:Int)<(j:Int))=True:=eq_true (by omega)
       have hje:((j:Int)=0)=False:=eq_false (by omega)
       rw[if_neg hj0]
       push_cast[List.cons_append,List.nil_append,hge]
       refine .of (Ru F bb.1 (by omega)) ?_
       by_cases hFe:F=bb.1
       ·rw[decide_eq_true hFe,Bool.not_true,Bool.or_false]at ihj
        push_cast[eq_true hFe,hje,Co (show j<2^62 by omega)]
        exact ihj
       ·rw[decide_eq_false hFe,Bool.not_false,Bool.or_true,Bool.or_true]at ihj
        push_cast[eq_false hFe,hje,Co (show j<2^62 by omega)]
        exact ihj
     ·refine Lg (r:=r) (l:=l) (bad:=bj) (bad':=bj||bb.2) (J:=[_,_,_,_,_,_,_,_,_,_]) (x:=Be bb.1) (vs':=[.ptr 0 0,An (Ej t q),D0 (pos++q)]) (by rfl) (fun _=>PY _) hI ?_
      unfold Nt
      by_cases hj0:j=0
      ·have hFe:=hF1 hj0
       have hge:((0:Int)<(j:Int))=False:=eq_false (by omega)
       have hje:((j:Int)=0)=True:=eq_true (by omega)
       rw[hFe,decide_eq_true (rfl:bb.1=bb.1),Bool.not_true,Bool.or_false]at ihj
       push_cast[List.cons_append,List.nil_append,hge,hje,Co (show j<2^62 by omega)]
       exact ihj
      ·have hge:((0:Int)<(j:Int))=True:=eq_true (by omega)
       have hje:((j:Int)=0)=False:=eq_false (by omega)
       rw[if_neg hj0]
       push_cast[List.cons_append,List.nil_append,hge]
       refine .of (Ru F bb.1 (by omega)) ?_
       by_cases hFe:F=bb.1
       ·rw[decide_eq_true hFe,Bool.not_true,Bool.or_false]at ihj
        push_cast[eq_true hFe,hje,Co (show j<2^62 by omega)]
        exact ihj
       ·rw[decide_eq_false hFe,Bool.not_false,Bool.or_true,Bool.or_true]at ihj
        push_cast[eq_false hFe,hje,Co (show j<2^62 by omega)]
        exact ihj
    ·refine A7.2 ?_
     push_cast[AZ (Nat.le_refl _),List.take_length,hlen,Co (show k<2^62 by omega)]
     have hFe:(if ps.length=0 then zM else F)=F:=by
      split
      ·rename_i h;exact (hF0 (List.length_eq_zero_iff.1 h)).symm
      ·rfl
     rw[hFe]
     refine⟨by unfold Ai;omega,?_⟩
     exact ih
   ·refine A7.2 ?_
    push_cast[AZ (Nat.le_refl _),List.take_length]
    rw[<-hres]
    dsimp only
    rw[<-Bool.or_assoc,hb0]
    generalize ((AD [L]).map fun v=>VU ((FJ L v).map fun p=>AQ r l n (Ej t p) (pos++p)))=ms
    generalize ((AD [L]).any fun v=>iI ((FJ L v).map fun p=>AQ r l n (Ej t p) (pos++p)))=bk
    exact Am (x:=.agg [.int .i64 (s.rule+1),.str [],.bool false,B8 cM 7 4 ms]) (H:=[.cells AW [As r,Cq l,.bool (b0||bk)]]) (J:=[_,_,_,_,_,_,_]) ⟨rfl,rfl⟩ (by push_cast[YR.rs]) ⟨by push_cast[ZC],rfl⟩
end Go.Dw
end
namespace Go.Dw
theorem XT (x s:BZ)(hx:x.pos.length<2^62):PF Iv [Rr x,.ro (Pi s) 0] (.bool (decide (x.pos=s.pos))):=by
 refine Ad O3.ok rfl ?_
 push_cast
 refine .of (Md x.pos s.pos hx) ?_
 push_cast
 exact A0 (by push_cast[O3.rs])
def fl (l:List BZ):Bool:=(List.range l.length).any fun i=>(l.take i).any fun x=>decide (x.pos=(l.getD i default).pos)
def OZ (r:List A3)(t:Term)(l:List BZ):Option A1×Int :=
 if (fl l||(AQ r l (size t) t []).2)=true then (none,9) else (some (AQ r l (size t) t []).1,0)
theorem bI (r:List A3)(t:Term)(l:List BZ)(hr:Mg r<2^28)(hc:Ao r=0)(hl:l.length<=4096)(hp:∀ s∈l,s.pos.length<2^40)(hf:BU t=true)(hm:XD r l t []) :
  PF Oq [As r,An t,Cq l] (J1 (OZ r t l).1 (OZ r t l).2):=by
 have hz:=Jj hf
 have hB:=VQ r l hr hc (by omega) hp (size t) t [] (fl l) (Nat.le_refl _) (by omega) (by simp;omega) hm
 obtain⟨s1,s2⟩:=JY hc (size t) t [] (Nat.le_refl _) hm
 have hfm:iL (AQ r l (size t) t []).1=true:=by
  unfold BU at hf
  unfold iL
  rw[Bool.and_eq_true,decide_eq_true_eq,decide_eq_true_eq]at hf ⊢
  omega
 have hFt:=V0 (AQ r l (size t) t []).1 (by omega)
 unfold ir at hFt
 rw[hfm,if_pos rfl]at hFt
 unfold OZ
 generalize AQ r l (size t) t []=bb at hB hFt ⊢
 generalize hres:(if (fl l||bb.2)=true then (none,9) else (some bb.1,0):Option A1×Int)=res
 refine Ad J5.ok rfl ?_
 push_cast
 have h9:=Ae (n:=l.length) (R:=fun k=>J5.L4 (Cq l) (.ro (cT t) 0) (.ptr 0 0) (.ptr 1 0) (Cq l) (.int .i64 l.length) (.int .i64 k) 0 [.cells A8 [.int .i64 0,.str [],.bool false,.sl 4 []],.cells AW [As r,Cq l,.bool ((List.range k).any fun i=>(l.take i).any fun x=>decide (x.pos=(l.getD i default).pos))]] (BH 0 J5.rs fun x' H'=>x'=J1 res.1 res.2/\H'=[])) ?_ ?_ 0 (by omega)
 ·simp only[List.range_zero,List.any_nil]at h9
  exact h9
 ·intro k hk ih
  rw[List.range_succ,List.any_append]at ih
  simp only[List.any_cons,List.any_nil,Bool.or_false]at ih
  generalize ((List.range k).any fun i=>(l.take i).any fun x=>decide (x.pos=(l.getD i default).pos))=bk at ih ⊢
  have hC:=I5 (p:=fun x=>decide (x.pos=(l.getD k default).pos)) (g:=Iv) (caps:=[.ro (Pi (l.getD k default)) 0]) (fun _=>rfl) (l.take k) (by rw[List.length_take];omega) (fun a ha=>XT a _ (by have:=hp a (List.mem_of_mem_take ha);omega))
  refine A7.2 ?_
  generalize hs:l.getD k default=s at ih hC
  push_cast[BB hk,hs,Nat.sub_zero,List.drop_zero]
  refine⟨⟨by omega,by omega⟩,?_⟩
  refine .of hC ?_
  cases hb:(l.take k).any fun x=>decide (x.pos=s.pos)with
  | true =>
   rw[hb,Bool.or_true]at ih
   push_cast[Co (show k<2^62 by omega)]
   exact ih
  | false =>
   rw[hb,Bool.or_false]at ih
   push_cast[Co (show k<2^62 by omega)]
   exact ih
 ·refine A7.2 ?_
  push_cast[AZ (Nat.le_refl _)]
  change Bl _ _ _ _ _ _ _ _ _ _ [_,.cells AW [As r,Cq l,.bool (fl l)]]
  refine Bl.some [1] (by simp) (by simp) (R:=fun x' H'=>x'=Be bb.1/\H'=Nt r l (fl l||bb.2)) ?_ ?_
  ·exact AT▸hB
  ·rintro x' H' ⟨rfl,rfl⟩ _
   have ht:∀ a b c:Ob,takeB [1] [a,b] [c]=[a,A6 (BG [1] 2) c]:=fun _ _ _=>rfl
   unfold Nt
   rw[ht,PY]
   cases hbb:(fl l||bb.2)with
   | true =>
    rw[hbb,if_pos rfl]at hres
    push_cast
    rw[<-hres]
    exact A0 (by push_cast[J5.rs];rfl)
   | false =>
    rw[hbb,if_neg (by simp)]at hres
    unfold J1 at hFt
    push_cast
    refine .of hFt ?_
    push_cast
    rw[<-hres]
    exact A0 (by push_cast[J5.rs];rfl)
theorem Xz {x:List Int×Term}:∀ (l:List Term)(q:List Int)(i k:Nat),k<l.length->x∈Ab (l.getD k default) (q++[((i+k:Nat):Int)])->x∈Bb l q i
 | [],q,i,k,hk,_=>by simp at hk
 | a::l,q,i,0,_,h=>by simp only[Bb,List.mem_append];exact .inl h
 | a::l,q,i,k+1,hk,h=>by
  simp only[Bb,List.mem_append]
  exact .inr (Xz l q (i+1) k (by simpa using hk) (by rw[show i+1+k=i+(k+1) by omega];exact h))
theorem U5:∀ (p:List Int)(t x:Term)(q:List Int),Bt t p=some x->(q++p,x)∈Ab t q
 | [],t,x,q,h=>by cases h;rw[Hq,List.append_nil];simp
 | i::p,t,x,q,h=>by
  simp only[Bt]at h
  split at h
  ·rename_i hi
   have ih:=U5 p _ x (q++[i]) h
   rw[Hq]
   refine List.mem_cons_of_mem _ (Xz t.args q 0 i.toNat (by omega) ?_)
   rw[show ((0+i.toNat:Nat):Int)=i by omega]
   simpa using ih
  ·cases h
def oS (t:Term):Prop:=∀ v,Dh v t<=1
structure DG (r:List A3):Prop where
 sys:Ao r=0
 lin:∀ x∈r,oS x.left
 nov:∀ i j,i<r.length->j<r.length->∀ p y,Bt (r.getD i default).left p=some y->y.var=false->¬ (i=j/\p=[])->∀ f g:EQ,app f y≠app g (r.getD j default).left
abbrev F4:=A9->A1
mutual
def pl (g:F4):Term->A1
 | .mk n v l=>if v then g n else .mk 0 n false (pls g l)
def pls (g:F4):List Term->List A1
 | []=>[]
 | a::l=>pl g a::pls g l
end
theorem wn (g:F4)(l:List Term):pls g l=l.map (pl g):=by induction l with | nil=>rfl | cons a l ih=>simp[pls,ih]
theorem eM (g:F4)(t:Term):pl g t=if t.var then g t.name else .mk 0 t.name false (t.args.map (pl g)):=by
 cases t with | mk n v l=>simp only[pl,wn,Term.var,Term.name,Term.args];rfl
theorem Pq {g:F4}{t:Term}(h:t.var=true):pl g t=g t.name:=by rw[eM,if_pos h]
theorem NV {g:F4}{t:Term}(h:t.var=false):pl g t=.mk 0 t.name false (t.args.map (pl g)):=by rw[eM,if_neg (by simp[h])]
theorem Sz {f g:F4}(t:Term):(∀ v,CX v t=true->f v=g v)->pl f t=pl g t:=by
 induction t using Ah with
 | h t ih =>
 intro h
 rw[eM,eM]
 split
 ·rename_i hv;exact h _ (AO.2 (.inl ⟨hv,rfl⟩))
 ·congr 1
  exact List.map_congr_left fun a ha=>ih a ha fun v hv=>h v (AO.2 (.inr ⟨a,ha,hv⟩))
def YP {α:Type}[Inhabited α](vars:List A9)(xs:List α):A9->α:=fun n=>xs.getD (XM n vars) default
theorem aY (vars:List A9)(xs:List A1)(t:Term):Kj vars xs t=pl (YP vars xs) t:=by
 induction t using Ah with
 | h t ih =>
 rw[aD,eM]
 split
 ·rfl
 ·congr 1
  exact List.map_congr_left fun a ha=>ih a ha
theorem ZU (vars:List A9)(xs:List Term)(t:Term):NA vars xs t=app (YP vars xs) t:=by
 induction t using Ah with
 | h t ih =>
 rw[Yq,PQ]
 split
 ·rfl
 ·congr 1
  exact List.map_congr_left fun a ha=>ih a ha
theorem yw {α β:Type}[Inhabited α][Inhabited β]{vars:List A9}{xs:List α}{f:α->β}(hl:xs.length=vars.length){n:A9}(hn:n∈vars):YP vars (xs.map f) n=f (YP vars xs n):=by
 obtain⟨h1,h2,h3⟩:=KK hn
 unfold YP
 simp[List.getD_eq_getElem?_getD,show XM n vars<xs.length by omega]
theorem Yx {α:Type}[Inhabited α]{vars:List A9}(f:A9->α){n:A9}(hn:n∈vars):YP vars (vars.map f) n=f n:=by
 obtain⟨h1,h2,h3⟩:=KK hn
 unfold YP
 rw[List.getD_eq_getElem?_getD,List.getElem?_map,List.getElem?_eq_getElem h2]
 rw[List.getD_eq_getElem?_getD,List.getElem?_eq_getElem h2]at h3
 exact congrArg f h3
theorem yX {α:Type}[Inhabited α]{vars:List A9}(hn:vars.Nodup){xs:List α}{i:Nat}(hi:i<vars.length):YP vars xs (vars.getD i default)=xs.getD i default:=by
 unfold YP;rw[qt hn hi]
theorem bM {α:Type}[Inhabited α]{vars:List A9}{xs:List α}(hl:xs.length=vars.length){n:A9}(hn:n∈vars):YP vars xs n∈xs:=by
 obtain⟨h1,h2,h3⟩:=KK hn
 exact A4 (by omega)
theorem da {r:List A3}{f:A3->Term}{g:F4}(t:Term):Az r f (pl g t)=app (fun v=>Az r f (g v)) t:=by
 induction t using Ah with
 | h t ih =>
 cases hv:t.var with
 | true=>rw[Pq hv,Av hv]
 | false =>
  rw[NV hv,B7 hv,FL,if_pos (by rfl)]
  simp only[A1.name,A1.var,A1.args,List.map_map]
  congr 1
  exact List.map_congr_left fun a ha=>ih a ha
theorem mD {r:List A3}{f:A3->Term}(hv:∀ x∈r,∀ v,CX v (f x)=true->v∈AD [x.left]){m:A1}(hm:Kc r m)(h0:0<m.rule):Az r f m=app (fun v=>Az r f (YP (AD [(C8 r m).left]) m.args v)) (f (C8 r m)):=by
 obtain⟨k1,k2,k3,k4,k5,k6⟩:=hm.rule (by omega)
 rw[FL,if_neg (by omega),ZU]
 exact DW _ fun v h=>yw k4 (hv _ k3 v h)
theorem yZ {f g:EQ}(t:Term):app f t=app g t->∀ v,CX v t=true->vfl t=true->f v=g v:=by
 induction t using Ah with
 | h t ih =>
 intro h v ho ht
 cases hv:t.var with
 | true=>rw[Av hv,Av hv]at h;rw[<-(JG ht hv).1 ho];exact h
 | false =>
  rw[B7 hv,B7 hv]at h
  injection h with _ _ h
  obtain⟨a,ha,h1⟩:=(KM hv).1 ho
  exact ih a ha (List.map_inj_left.1 h a ha) v h1 (BR ht ha)
theorem XX {v:A9}{t:Term}:CX v t=true↔0<Dh v t:=by
 have:=UM v t
 cases h:CX v t with
 | true=>rw[h]at this;simp only[Bool.not_true,decide_eq_false_iff_not]at this;simp;omega
 | false=>rw[h]at this;simp only[Bool.not_false,decide_eq_true_eq]at this;simp[this]
theorem Yd {v:A9}{l:List Term}{a:Term}(h:a∈l):Dh v a<=BY v l:=by
 induction l with
 | nil=>cases h
 | cons x l ih =>
  simp only[BY]
  rcases List.mem_cons.1 h with rfl | h
  ·omega
  ·have:=ih h;omega
theorem oS.arg {t a:Term}(h:oS t)(ha:a∈t.args):oS a:=fun v=>by
 have h1:=h v
 rw[M7]at h1
 have:=Yd (v:=v) ha
 omega
theorem Kc.rule0 {r:List A3}{m:A1}(hm:Kc r m):0<=m.rule/\m.rule<=r.length:=by
 have h1:=J4 hm.rg
 unfold EY at h1
 rw[Bool.and_eq_true,decide_eq_true_eq,decide_eq_true_eq]at h1
 exact h1
theorem kL {t:Term}{i:Nat}(hi:i<t.args.length):Bt t [(i:Int)]=some (t.args.getD i default):=by
 show (if 0<=(i:Int)/\(i:Int)<(t.args.length:Int) then Bt (t.args.getD (i:Int).toNat default) [] else none)=_
 rw[if_pos (by omega),Int.toNat_natCast];rfl
theorem oG {r:List A3}(h:DG r){i:Nat}(hi:i<r.length)(L:Term):∀ (p:List Int)(b:A1)(f:EQ),Bt (r.getD i default).left p=some L->Kc r b->(p=[]->b.rule=0)->oS L->vfl L=true->Az r A3.left b=app f L ->
  ∃ g:F4,b=pl g L/\∀ v,CX v L=true->Kc r (g v)/\Az r A3.left (g v)=f v/\AV (g v)<=AV b:=by
 induction L using Ah with
 | h L ih =>
 intro p b f hp hb hr hl hf hs
 cases hv:L.var with
 | true =>
  refine⟨fun _=>b,by rw[Pq hv],fun v ho=>⟨hb,?_,Nat.le_refl _⟩⟩
  rw[Av hv]at hs
  rw[hs,(JG hf hv).1 ho]
 | false =>
  have h0:b.rule=0:=by
   rcases Classical.em (b.rule=0)with h0 | h0
   ·exact h0
   ·exfalso
    have hpos:=hb.rule_pos h0
    obtain⟨k1,k2,k3,k4,k5,k6⟩:=hb.rule h0
    rw[mD (fun x _=>Vq x) hb hpos]at hs
    exact h.nov i (b.rule-1).toNat hi (by omega) p L hp hv (fun e=>h0 (hr e.2)) _ _ hs.symm
  rw[FL,if_pos h0,B7 hv]at hs
  injection hs with e1 e2 e3
  have key:∀ (l:List Term)(bs:List A1),(∀ a∈l,a∈L.args)->(∀ x∈bs,x∈b.args)->(∀ v,BY v l<=1)->bs.map (Az r A3.left)=l.map (app f) ->
    ∃ g:F4,bs=l.map (pl g)/\∀ v,ER v l=true->Kc r (g v)/\Az r A3.left (g v)=f v/\AV (g v)<=AV b:=by
   intro l
   induction l with
   | nil =>
    intro bs _ _ _ he
    have:bs=[]:=by simpa using he
    subst this
    exact⟨fun _=>zM,rfl,fun v ho=>by simp[ER]at ho⟩
   | cons a l ihl =>
    intro bs hal hbl hc he
    cases bs with
    | nil=>simp at he
    | cons x bs =>
     simp only[List.map_cons,List.cons.injEq]at he
     have haL:=hal a (by simp)
     obtain⟨k,hk,hka⟩:=List.getElem_of_mem haL
     have hsub:Bt (r.getD i default).left (p++[(k:Int)])=some a:=by
      rw[NL,hp]
      show Bt L [(k:Int)]=_
      rw[kL hk,List.getD_eq_getElem?_getD,List.getElem?_eq_getElem hk,hka];rfl
     have hxb:=hbl x (by simp)
     have hms:=DU hxb
     have hmb:=Bj b
     obtain⟨g1,h1,h2⟩:=ih a haL (p++[(k:Int)]) x f hsub (hb.arg hxb) (fun e=>by simp at e) (hl.arg haL) (BR hf haL) he.1
     obtain⟨g2,h3,h4⟩:=ihl bs (fun y hy=>hal y (by simp[hy])) (fun y hy=>hbl y (by simp[hy])) (fun v=>by have:=hc v;simp only[BY]at this;omega) he.2
     refine⟨fun v=>if CX v a=true then g1 v else g2 v,?_,fun v ho=>?_⟩
     ·rw[List.map_cons]
      congr 1
      ·rw[h1];exact Sz a fun v hv=>(if_pos hv).symm
      ·rw[h3]
       refine List.map_congr_left fun c hc'=>Sz c fun v hv=>?_
       have h5:=hc v
       simp only[BY]at h5
       have h6:=Yd (v:=v) hc'
       have h7:=XX.1 hv
       exact (if_neg fun e=>by have:=XX.1 e;omega).symm
     ·by_cases c:CX v a=true
      ·dsimp only;rw[if_pos c]
       obtain⟨q1,q2,q3⟩:=h2 v c
       exact⟨q1,q2,by omega⟩
      ·dsimp only;rw[if_neg c]
       simp only[ER,Bool.or_eq_true]at ho
       exact h4 v (ho.resolve_left c)
  obtain⟨g,h1,h2⟩:=key L.args b.args (fun a ha=>ha) (fun x hx=>hx) (fun v=>by have:=hl v;rw[M7]at this;omega) e3
  refine⟨g,?_,fun v ho=>h2 v ?_⟩
  ·rw[NV hv,<-h1,<-e1,<-e2,<-h0];exact b.eta.symm
  ·rw[U3,hv]at ho;simpa using ho
theorem So:∀ (l:List Term)(i:Nat)(p:List Int),p∈GE l i->∃ (k:Nat) (q:List Int),p=((i+k:Nat):Int)::q/\k<l.length/\q∈DZ (l.getD k default)
 | [],_,_,h=>by cases h
 | a::l,i,p,h=>by
  simp only[GE,List.mem_append,List.mem_map]at h
  rcases h with ⟨q,hq,rfl⟩ | h
  ·exact⟨0,q,rfl,by simp,hq⟩
  ·obtain⟨k,q,h1,h2,h3⟩:=So l (i+1) p h
   exact⟨k+1,q,by rw[h1];congr 2;omega,by simpa using h2,by simpa using h3⟩
mutual
theorem YK:∀ t:Term,(DZ t).Nodup
 | .mk n v l=>by
  simp only[DZ]
  refine List.nodup_cons.2 ⟨fun h=>?_,Vv l 0⟩
  obtain⟨k,q,h1,_⟩:=So l 0 [] h
  cases h1
theorem Vv:∀ (l:List Term)(i:Nat),(GE l i).Nodup
 | [],_=>List.nodup_nil
 | a::l,i=>by
  simp only[GE]
  refine List.nodup_append.2 ⟨?_,Vv l (i+1),fun p hp q hq e=>?_⟩
  ·have:=YK a
   rw[List.Nodup,List.pairwise_map]
   exact this.imp fun h e=>h (by injection e)
  ·obtain⟨p',_,rfl⟩:=List.mem_map.1 hp
   obtain⟨k,q',h1,_⟩:=So l (i+1) q hq
   rw[h1]at e
   injection e with e _
   omega
end
theorem tS {r:List A3}{k:Int}{ms:List A1}(h0:0<=k)(h1:k<r.length)(hl:ms.length=(AD [(r.getD k.toNat default).left]).length)(h:∀ a∈ms,Kc r a):Kc r (.mk (k+1) [] false ms):=by
 constructor
 ·rw[Hu,Bool.and_eq_true]
  refine⟨?_,List.all_eq_true.2 fun a ha=>(h a ha).rg⟩
  unfold EY
  rw[Bool.and_eq_true,decide_eq_true_eq,decide_eq_true_eq]
  show 0<=k+1/\k+1<=(r.length:Int)
  omega
 ·rw[Hu,Bool.and_eq_true]
  refine⟨?_,List.all_eq_true.2 fun a ha=>(h a ha).fm⟩
  unfold Gb
  have hk:(A1.mk (k+1) [] false ms).rule=k+1:=rfl
  rw[hk,if_pos (by omega)]
  have hru:C8 r (.mk (k+1) [] false ms)=r.getD k.toNat default:=by unfold C8;rw[hk,show k+1-1=k by omega]
  rw[hru]
  simp[A1.name,A1.var,A1.args,hl]
theorem gO:∀ (p:List Int)(t y:Term),Bt t p=some y->y.var=true->CX y.name t=true
 | [],t,y,h,hv=>by cases h;rw[U3,hv];simp
 | i::p,t,y,h,hv=>by
  simp only[Bt]at h
  split at h
  ·rename_i hi
   have h1:=gO p _ y h hv
   rw[U3,fp (A4 (by omega)) h1];simp
  ·cases h
end Go.Dw
section
namespace Go.Dw
def Ec (r:List A3)(k:Nat):Term:=(r.getD k default).left
def mh (r:List A3)(k:Nat):Term:=(r.getD k default).right
def Gl (r:List A3)(k:Nat):List A9:=AD [Ec r k]
def ru (r:List A3)(k:Nat)(g:F4):A1:=.mk ((k:Int)+1) [] false ((Gl r k).map g)
def fm (r:List A3)(k:Nat)(b:Bool)(g:F4):A1:=if b then ru r k g else pl g (Ec r k)
theorem FD {r:List A3}{k:Nat}{v:A9}:v∈Gl r k↔CX v (Ec r k)=true:=E5 v (Ec r k)
theorem Uy (r:List A3)(k:Nat)(g:F4):C8 r (ru r k g)=r.getD k default:=by
 unfold C8 ru
 show r.getD ((k:Int)+1-1).toNat default=_
 rw[show (k:Int)+1-1=k by omega,Int.toNat_natCast]
theorem SW (r:List A3)(k:Nat)(g:F4):(ru r k g).rule=(k:Int)+1:=rfl
theorem Wd (r:List A3)(k:Nat)(g:F4):(ru r k g).args=(Gl r k).map g:=rfl
section
variable {r:List A3} (h:DG r)
include h
theorem DG.left {k:Nat}(hk:k<r.length):(Ec r k).var=false/\vfl (Ec r k)=true/\oS (Ec r k)/\CI (Ec r k)=true/\CI (mh r k)=true/\vfl (mh r k)=true/\∀ v,CX v (mh r k)=true->v∈Gl r k:=by
 have hm:=A4 (l:=r) hk
 have h1:=Ml h.sys _ hm
 exact⟨M5 h.sys _ hm,Uq _ (EZ h.sys _ hm).1.1,h.lin _ hm,(FW.1 h1.1).1,(FW.1 h1.2).1,Uq _ (EZ h.sys _ hm).2.1,Oy h.sys _ hm⟩
omit h in
theorem wA {r:List A3}{n:A9}{ms:List A1}(hn:CJ n true=true)(hl:ms.length<=8)(ha:∀ a∈ms,Kc r a):Kc r (.mk 0 n false ms):=by
 constructor
 ·rw[Hu,Bool.and_eq_true]
  exact⟨by simp[EY,A1.rule],List.all_eq_true.2 fun a h=>(ha a h).rg⟩
 ·rw[Hu,Bool.and_eq_true]
  exact⟨by simp[Gb,A1.rule,A1.var,A1.name,A1.args,hn,hl],List.all_eq_true.2 fun a h=>(ha a h).fm⟩
omit h in
theorem qy {r:List A3}{g:F4}(t:Term):CI t=true->(∀ v,CX v t=true->Kc r (g v))->Kc r (pl g t):=by
 induction t using Ah with
 | h t ih =>
 intro ht hg
 obtain⟨h1,h2⟩:=S9.1 ht
 cases hv:t.var with
 | true=>rw[Pq hv];exact hg _ (AO.2 (.inl ⟨hv,rfl⟩))
 | false =>
  rw[hv]at h1
  simp only[cO,Bool.false_eq_true,if_false,Bool.and_eq_true,decide_eq_true_eq]at h1
  rw[NV hv]
  refine wA h1.2 (by simp;omega) fun c hc=>?_
  obtain⟨a,ha,rfl⟩:=List.mem_map.1 hc
  exact ih a ha (h2 a ha) fun v hv=>hg v (AO.2 (.inr ⟨a,ha,hv⟩))
omit h in
theorem sN {r:List A3}{k:Nat}(hk:k<r.length){g:F4}(hg:∀ v∈Gl r k,Kc r (g v)):Kc r (ru r k g):=by
 refine tS (by omega) (by omega) ?_ fun a ha=>?_
 ·rw[List.length_map];unfold Gl Ec;rw[Int.toNat_natCast]
 ·obtain⟨v,hv,rfl⟩:=List.mem_map.1 ha
  exact hg v hv
theorem DG.ok_fm {k:Nat}(hk:k<r.length){b:Bool}{g:F4}(hg:∀ v∈Gl r k,Kc r (g v)):Kc r (fm r k b g):=by
 cases b with
 | true=>exact sN hk hg
 | false=>exact qy _ (h.left hk).2.2.2.1 fun v hv=>hg v (FD.2 hv)
omit h in
theorem Ok {r:List A3}{F:A3->Term}{k:Nat}{g:F4}(hv:∀ v,CX v (F (r.getD k default))=true->v∈Gl r k):Az r F (ru r k g)=app (fun v=>Az r F (g v)) (F (r.getD k default)):=by
 rw[FL,if_neg (by rw[SW];omega),Uy,ZU,Wd]
 refine DW _ fun v ho=>?_
 show YP (Gl r k) _ v=_
 rw[List.map_map,Yx _ (hv v ho)];rfl
theorem DG.src_fm {k:Nat}(hk:k<r.length){b:Bool}{g:F4}:Az r A3.left (fm r k b g)=app (fun v=>Az r A3.left (g v)) (Ec r k):=by
 have hSys:=h.sys
 cases b with
 | true=>exact Ok fun v hv=>FD.2 hv
 | false=>exact da _
theorem DG.tgt_fm {k:Nat}(hk:k<r.length){b:Bool}{g:F4}:Az r A3.right (fm r k b g)=app (fun v=>Az r A3.right (g v)) (if b then mh r k else Ec r k):=by
 cases b with
 | true=>exact Ok (h.left hk).2.2.2.2.2.2
 | false=>exact da _
omit h in
theorem Wc {r:List A3}{a:A1}(ha:Kc r a)(h0:0<a.rule):∃ k,k<r.length/\a.rule=(k:Int)+1/\a=ru r k (YP (Gl r k) a.args)/\a.args.length=(Gl r k).length:=by
 obtain⟨k1,k2,k3,k4,k5,k6⟩:=ha.rule (by omega)
 have hvs:Gl r (a.rule-1).toNat=AD [(C8 r a).left]:=rfl
 refine⟨(a.rule-1).toNat,by omega,by omega,?_,by rw[hvs];exact k4⟩
 have hmap:(Gl r (a.rule-1).toNat).map (YP (Gl r (a.rule-1).toNat) a.args)=a.args:=by
  apply List.ext_getElem (by rw[List.length_map,hvs];omega)
  intro i h1 h2
  rw[List.getElem_map]
  have hi:i<(Gl r (a.rule-1).toNat).length:=by simpa using h1
  have:=yX (vars:=Gl r (a.rule-1).toNat) (IE _) (xs:=a.args) hi
  rw[List.getD_eq_getElem?_getD,List.getElem?_eq_getElem hi,List.getD_eq_getElem?_getD,List.getElem?_eq_getElem h2]at this
  exact this
 unfold ru
 rw[hmap,<-k5,<-k6,show (((a.rule-1).toNat:Nat):Int)+1=a.rule by omega]
 exact a.eta.symm
theorem DG.form {a b:A1}(ha:Kc r a)(hb:Kc r b){k:Nat}(hk:k<r.length){f:F4}(hf:a=ru r k f)(hs:Az r A3.left b=Az r A3.left a) :
  ∃ (β:Bool) (g:F4),b=fm r k β g/\(β=true↔0<b.rule)/\∀ v∈Gl r k,Kc r (g v)/\Az r A3.left (g v)=Az r A3.left (f v)/\AV (g v)<=AV b:=by
 have hsa:Az r A3.left a=app (fun v=>Az r A3.left (f v)) (Ec r k):=(congrArg (Az r A3.left) hf).trans (Ok fun v hv=>FD.2 hv)
 obtain⟨q1,q2,q3,q4,q5,q6⟩:=h.left hk
 by_cases h0:0<b.rule
 ·obtain⟨j,hj,hjr,hbj,hlen⟩:=Wc hb h0
  have hjk:k=j:=by
   rcases Classical.em (k=j)with e | e
   ·exact e
   ·exfalso
    have hsb:Az r A3.left b=app (fun v=>Az r A3.left (YP (Gl r j) b.args v)) (Ec r j):=(congrArg (Az r A3.left) hbj).trans (Ok fun v hv=>FD.2 hv)
    exact h.nov k j hk hj [] (Ec r k) rfl q1 (fun e2=>e e2.1) _ _ (hsa.symm.trans (hs.symm.trans hsb))
  subst hjk
  refine⟨true,YP (Gl r k) b.args,hbj,by simp[h0],fun v hv=>?_⟩
  have hm:=bM hlen hv
  refine⟨hb.arg hm,?_,Nat.le_of_lt (by have:=DU hm;have:=Bj b;omega)⟩
  have hsb:Az r A3.left b=app (fun v=>Az r A3.left (YP (Gl r k) b.args v)) (Ec r k):=(congrArg (Az r A3.left) hbj).trans (Ok fun v hv=>FD.2 hv)
  exact yZ (Ec r k) (hsb.symm.trans (hs.trans hsa)) v (FD.1 hv) q2
 ·have h0':b.rule=0:=by have:=hb.rule0.1;omega
  obtain⟨g,h1,h2⟩:=oG h hk (Ec r k) [] b _ rfl hb (fun _=>h0') q3 q2 (hs.trans hsa)
  exact⟨false,g,h1,by simp[h0],fun v hv=>h2 v (FD.1 hv)⟩
omit h in
theorem od {r:List A3}{a b:A1}(ha:a.rule=0)(hb:b.rule=0)(hs:Az r A3.left b=Az r A3.left a):b=.mk 0 a.name a.var b.args/\b.args.map (Az r A3.left)=a.args.map (Az r A3.left):=by
 rw[FL,if_pos hb,FL,if_pos ha]at hs
 injection hs with e1 e2 e3
 refine⟨?_,e3⟩
 rw[<-e1,<-e2,<-hb];exact b.eta.symm
end
def QE (vars:List A9)(L:Term)(b:A1):List A1:=vars.map fun v=>WC b ((FJ L v).getD 0 [])
theorem KV (m:A1):0<AV m:=by have:=Bj m;omega
theorem Xu:∀ (p:List Int)(m:A1),AV (WC m p)<=AV m
 | [],m=>Nat.le_refl _
 | i::p,m=>by
  show AV (WC (m.args.getD i.toNat default) p)<=_
  have h1:=Xu p (m.args.getD i.toNat default)
  by_cases hi:i.toNat<m.args.length
  ·have h2:=DU (A4 hi)
   have h3:=Bj m
   omega
  ·have e:m.args.getD i.toNat default=default:=by simp[List.getD_eq_getElem?_getD,show m.args.length<=i.toNat by omega]
   rw[e]at h1 ⊢
   have e2:AV (default:A1)=1:=rfl
   have:=KV m
   omega
theorem kF {g:F4}:∀ (p:List Int)(L y:Term),vfl L=true->Bt L p=some y->WC (pl g L) p=pl g y
 | [],L,y,_,h=>by cases h;rfl
 | i::p,L,y,hf,h=>by
  simp only[Bt]at h
  split at h
  ·rename_i hi
   have hv:L.var=false:=by
    cases hv:L.var with
    | false=>rfl
    | true=>rw[(KE.1 hf).1 hv]at hi;simp at hi;omega
   have hk:i.toNat<L.args.length:=by omega
   rw[NV hv]
   show WC ((L.args.map (pl g)).getD i.toNat default) p=_
   have e:(L.args.map (pl g)).getD i.toNat default=pl g (L.args.getD i.toNat default):=by simp[List.getD_eq_getElem?_getD,hk]
   rw[e]
   exact kF p _ y (BR hf (A4 hk)) h
  ·cases h
theorem eZ {L:Term}(hf:vfl L=true)(g:F4):QE (AD [L]) L (pl g L)=(AD [L]).map g:=by
 refine List.map_congr_left fun v hv=>?_
 have hne:FJ L v≠[]:=by rw[cF];exact NJ v _ ((E5 _ _).1 hv)
 generalize hps:FJ L v=ps at hne
 cases ps with
 | nil=>exact absurd rfl hne
 | cons p ps =>
  obtain⟨y,h1,h2,h3⟩:=cJ (show p∈FJ L v by rw[hps];simp)
  show WC _ p=_
  rw[kF p L y hf h1,Pq h2,h3]
def Tp (r:List A3):Nat->A1->A1->A1
 | 0,_,_=>zM
 | n+1,a,b =>
  if 0<b.rule then Kj (AD [(C8 r b).left]) (List.zipWith (Tp r n) (if 0<a.rule then a.args else QE (AD [(C8 r b).left]) (C8 r b).left a) b.args) (C8 r b).right
  else if 0<a.rule then .mk a.rule [] false (List.zipWith (Tp r n) a.args (QE (AD [(C8 r a).left]) (C8 r a).left b))
  else .mk 0 a.name a.var (List.zipWith (Tp r n) a.args b.args)
theorem Jt {α β γ:Type}{f g:α->β->γ}:∀ {l:List α} {m:List β},(∀ x∈l,∀ y∈m,f x y=g x y)->List.zipWith f l m=List.zipWith g l m
 | [],_,_=>by simp
 | _::_,[],_=>by simp
 | a::l,b::m,h=>by
  simp only[List.zipWith_cons_cons]
  rw[h a (by simp) b (by simp),Jt fun x hx y hy=>h x (by simp[hx]) y (by simp[hy])]
theorem SA {α β γ δ:Type}{f:β->γ->δ}{g:α->β}{k:α->γ}(l:List α):List.zipWith f (l.map g) (l.map k)=l.map fun x=>f (g x) (k x):=by
 induction l with
 | nil=>rfl
 | cons a l ih=>simp[ih]
theorem R3 {vars:List A9}{L:Term}{a x:A1}(h:x∈QE vars L a):AV x<=AV a:=by
 obtain⟨v,_,rfl⟩:=List.mem_map.1 h
 exact Xu _ _
theorem HE {a x:A1}(h:x∈a.args):AV x<AV a:=by have:=DU h;have:=Bj a;omega
theorem HD (r:List A3):∀ (n m:Nat)(a b:A1),AV a+AV b<=n->AV a+AV b<=m->Tp r n a b=Tp r m a b
 | 0,_,a,b,h,_=>by have:=KV a;omega
 | _+1,0,a,b,_,h=>by have:=KV a;omega
 | n+1,m+1,a,b,h1,h2=>by
  simp only[Tp]
  split
  ·congr 1
   refine Jt fun x hx y hy=>HD r n m x y ?_ ?_ <;>
   ·have:=HE hy
    split at hx
    ·have:=HE hx;omega
    ·have:=R3 hx;omega
  ·split
   ·congr 1
    refine Jt fun x hx y hy=>HD r n m x y ?_ ?_ <;>
    ·have:=HE hx
     have:=R3 hy;omega
   ·congr 1
    refine Jt fun x hx y hy=>HD r n m x y ?_ ?_ <;>
    ·have:=HE hx
     have:=HE hy;omega
def rest (r:List A3)(a b:A1):A1:=Tp r (AV a+AV b) a b
theorem SI (r:List A3)(a b:A1):rest r a b =
  if 0<b.rule then Kj (AD [(C8 r b).left]) (List.zipWith (rest r) (if 0<a.rule then a.args else QE (AD [(C8 r b).left]) (C8 r b).left a) b.args) (C8 r b).right
  else if 0<a.rule then .mk a.rule [] false (List.zipWith (rest r) a.args (QE (AD [(C8 r a).left]) (C8 r a).left b))
  else .mk 0 a.name a.var (List.zipWith (rest r) a.args b.args):=by
 have e:rest r a b=Tp r (AV a+AV b+1) a b:=HD r _ _ a b (Nat.le_refl _) (by omega)
 rw[e]
 simp only[Tp]
 split
 ·congr 1
  refine Jt fun x hx y hy=>HD r _ _ x y ?_ (Nat.le_refl _)
  have:=HE hy
  split at hx
  ·have:=HE hx;omega
  ·have:=R3 hx;omega
 ·split
  ·congr 1
   refine Jt fun x hx y hy=>HD r _ _ x y ?_ (Nat.le_refl _)
   have:=HE hx
   have:=R3 hy;omega
  ·congr 1
   refine Jt fun x hx y hy=>HD r _ _ x y ?_ (Nat.le_refl _)
   have:=HE hx
   have:=HE hy;omega
theorem ny (r:List A3)(n:A9)(v:Bool)(la lb:List A1)(n':A9)(v':Bool):rest r (.mk 0 n v la) (.mk 0 n' v' lb)=.mk 0 n v (List.zipWith (rest r) la lb):=by
 rw[SI,if_neg (by simp[A1.rule]),if_neg (by simp[A1.rule])];rfl
theorem zg (r:List A3)(f g:F4)(t:Term):rest r (pl f t) (pl g t)=pl (fun v=>rest r (f v) (g v)) t:=by
 induction t using Ah with
 | h t ih =>
 cases hv:t.var with
 | true=>rw[Pq hv,Pq hv,Pq hv]
 | false =>
  rw[NV hv,NV hv,NV hv,ny,SA]
  congr 1
  exact List.map_congr_left fun a ha=>ih a ha
theorem SJ {g:F4}{t:Term}(h:t.var=false):(pl g t).rule=0:=by rw[NV h];rfl
theorem QT {r:List A3}(h:DG r){k:Nat}(hk:k<r.length)(α β:Bool)(f g:F4):rest r (fm r k α f) (fm r k β g)=if β then pl (fun v=>rest r (f v) (g v)) (mh r k) else fm r k α (fun v=>rest r (f v) (g v)):=by
 obtain⟨q1,q2,q3,q4,q5,q6,q7⟩:=h.left hk
 cases β with
 | true =>
  have hb:fm r k true g=ru r k g:=rfl
  rw[hb,SI,if_pos (by rw[SW];omega),Uy,Wd]
  have hx:(if 0<(fm r k α f).rule then (fm r k α f).args else QE (AD [(r.getD k default).left]) (r.getD k default).left (fm r k α f))=(Gl r k).map f:=by
   cases α with
   | true=>exact if_pos (by show 0<(ru r k f).rule;rw[SW];omega)
   | false =>
    rw[if_neg (by show ¬ 0<(pl f (Ec r k)).rule;rw[SJ q1];omega)]
    exact eZ q2 f
  rw[hx,SA,aY]
  exact Sz _ fun v hv=>Yx _ (q7 v hv)
 | false =>
  cases α with
  | false=>exact zg r f g _
  | true =>
   have ha:fm r k true f=ru r k f:=rfl
   have hb:fm r k false g=pl g (Ec r k):=rfl
   rw[ha,hb,SI,if_neg (by rw[SJ q1];omega),if_pos (by rw[SW];omega),Uy,Wd]
   have:QE (AD [(r.getD k default).left]) (r.getD k default).left (pl g (Ec r k))=(Gl r k).map g:=eZ q2 g
   rw[this,SA];rfl
end Go.Dw
end
section
namespace Go.Dw
theorem SR {β:Type}{G:List FM->β->List FM×Int}:∀ (l:List β),mz G l->BE G [] l=([],0)->∀ y∈l,G [] y=([],0)
 | [],_,_,y,hy=>by cases hy
 | z::l,hm,h,y,hy=>by
  simp only[BE]at h
  rcases hm [] z (by simp)with h1 | ⟨h1,h2⟩
  ·rw[if_pos (by rw[h1];decide)]at h
   have:=congrArg Prod.snd h
   simp only at this
   rw[h1]at this;cases this
  ·rw[if_neg (by rw[h1];decide)]at h
   have h3:(G [] z).1=[]:=by
    rcases No l (G [] z).1 fun o w hw=>hm o w (by simp[hw])with h4 | ⟨h4,h5⟩
    ·rw[h]at h4;cases h4
    ·rw[h]at h5
     exact List.length_eq_zero_iff.1 (by simpa using h5)
   have h4:G [] z=([],0):=Prod.ext h3 h1
   rw[h3]at h
   rcases List.mem_cons.1 hy with rfl | hy
   ·exact h4
   ·exact SR l (fun o w hw=>hm o w (by simp[hw])) h y hy
theorem wq {r:List A3}(h:(P9 r).2=0)(h0:(P9 r).1.length=0){i j:Nat}(hi:i<r.length)(hj:j<r.length){p:List Int}{y:Term}(hy:(p,y)∈Ab (r.getD i default).left [])(hv:y.var=false)(hne:¬ (i=j/\p=[])) :
  E8 (Cn [120] (r.getD i default)) (Cn [121] (r.getD j default)) p (app (Nh [120] (AG [] (r.getD i default).left)) y)=(false,0):=by
 have hS:BE (Ii r) [] (List.range r.length)=([],0):=by
  unfold P9 at h h0
  split at h
  ·rename_i hc;exact absurd h hc
  ·rename_i hc
   rw[if_neg hc]at h0
   split at h
   ·cases h
   ·rename_i hc2
    rw[if_neg hc2]at h0
    exact Prod.ext (List.length_eq_zero_iff.1 h0) (by simpa using hc)
 have h1:=SR _ (Vx r _) hS i (List.mem_range.2 hi)
 have h2:=SR _ (PI r i _) h1 (p,y) hy
 have h3:=SR _ (Q5 r i p y _) h2 j (List.mem_range.2 hj)
 unfold HA at h3
 rw[if_neg (by rw[hv];simp only[Bool.false_eq_true,false_or];exact hne)]at h3
 have he:=Ss (Cn [120] (r.getD i default)) (Cn [121] (r.getD j default)) p (app (Nh [120] (AG [] (r.getD i default).left)) y)
 generalize E8 (Cn [120] (r.getD i default)) (Cn [121] (r.getD j default)) p (app (Nh [120] (AG [] (r.getD i default).left)) y)=v at h3 he ⊢
 obtain⟨ok,e⟩:=v
 simp only at h3 he
 rcases he with rfl | rfl
 ·cases ok with
  | false=>rfl
  | true=>simp at h3
 ·simp at h3
theorem oo {a b:A3}{pos:List Int}{sub:Term}(hs:C3 sub)(hb:C3 b.left){θ:EQ}(h:app θ sub=app θ b.left):E8 a b pos sub≠(false,0):=by
 obtain⟨_,_,_,_,hm⟩:=aT (Vs:=vs2 sub b.left) (l:=[sub]) (m:=[b.left]) (fun z hz=>by rw[List.mem_singleton.1 hz];exact⟨hs.vf,fun w hw=>KP.2 (.inl hw)⟩) (fun z hz=>by rw[List.mem_singleton.1 hz];exact⟨hb.vf,fun w hw=>KP.2 (.inr hw)⟩) rfl
 have h1:=(hm θ (by simp[h])).1
 have h2:(F5 sub b.left).2.1=false->(F5 sub b.left).2.2=3:=by
  unfold F5 Ka
  rw[h1]
  simp only[Bool.true_eq_false,if_false]
  split
  ·intro _;rfl
  ·intro hc;cases hc
 intro he
 unfold E8 at he
 split at he
 ·rename_i hc
  have:=congrArg Prod.snd he
  simp only at this
  rw[h2 hc]at this;cases this
 ·split at he
  ·cases he
  ·split at he
   ·cases he
   ·cases he
theorem aB {a b:Nat}(ha:a<10)(hb:b<10)(h:UInt8.ofNat (48+a)=UInt8.ofNat (48+b)):a=b:=by
 have:=congrArg UInt8.toNat h
 simp only[UInt8.toNat_ofNat']at this
 omega
theorem uP (n:Nat):IS n≠[]:=by
 unfold IS Lib.decDigits
 split<;>simp
theorem xS:∀ (m n:Nat),IS m=IS n->m=n:=by
 intro m
 induction m using Nat.strongRecOn with
 | ind m ih =>
 intro n h
 have hd:∀ k:Nat,IS k=if k<10 then [UInt8.ofNat (48+k)] else IS (k / 10)++[UInt8.ofNat (48+k % 10)]:=fun k=>by
  unfold IS
  conv=>lhs;unfold Lib.decDigits
  split<;>rfl
 rw[hd m,hd n]at h
 by_cases hm:m<10
 ·rw[if_pos hm]at h
  by_cases hn:n<10
  ·rw[if_pos hn]at h
   injection h with h _
   exact aB hm hn h
  ·rw[if_neg hn]at h
   have:=congrArg List.length h
   simp only[List.length_append,List.length_singleton]at this
   have h2:=List.length_pos_iff.2 (uP (n / 10))
   omega
 ·rw[if_neg hm]at h
  by_cases hn:n<10
  ·rw[if_pos hn]at h
   have:=congrArg List.length h
   simp only[List.length_append,List.length_singleton]at this
   have h2:=List.length_pos_iff.2 (uP (m / 10))
   omega
  ·rw[if_neg hn]at h
   obtain⟨h1,h2⟩:=List.append_inj' h (by simp)
   injection h2 with h2 _
   have e1:=ih (m / 10) (by omega) (n / 10) h1
   have e2:=aB (a:=m % 10) (b:=n % 10) (by omega) (by omega) h2
   omega
theorem fV {l:List A9}{u v:A9}{j:Nat}(h1:Fa l u=some j)(h2:Fa l v=some j):u=v:=by
 induction l generalizing j with
 | nil=>cases h1
 | cons x l ih =>
  simp only[Fa]at h1 h2
  by_cases e1:x=u
  ·rw[if_pos e1]at h1
   cases h1
   by_cases e2:x=v
   ·exact e1.symm.trans e2
   ·rw[if_neg e2]at h2
    cases hq:Fa l v with
    | none=>rw[hq]at h2;cases h2
    | some i=>rw[hq]at h2;cases h2
  ·rw[if_neg e1]at h1
   by_cases e2:x=v
   ·rw[if_pos e2]at h2
    cases h2
    cases hq:Fa l u with
    | none=>rw[hq]at h1;cases h1
    | some i=>rw[hq]at h1;cases h1
   ·rw[if_neg e2]at h2
    cases hq:Fa l u with
    | none=>rw[hq]at h1;cases h1
    | some i =>
     cases hq2:Fa l v with
     | none=>rw[hq2]at h2;cases h2
     | some k =>
      rw[hq]at h1
      rw[hq2]at h2
      simp only[Option.map_some,Option.some.injEq]at h1 h2
      have:i=k:=by omega
      subst this
      exact ih hq hq2
def pn (pre:A9)(l:List A9)(v:A9):Option A9:=(Fa l v).map fun j=>pre++IS j
theorem dq {c d:UInt8}{l m:List A9}{u v:A9}{w:A9}(h1:pn [c] l u=some w)(h2:pn [d] m v=some w):c=d/\∃ j,Fa l u=some j/\Fa m v=some j:=by
 unfold pn at h1 h2
 cases hq:Fa l u with
 | none=>rw[hq]at h1;cases h1
 | some i =>
  cases hq2:Fa m v with
  | none=>rw[hq2]at h2;cases h2
  | some k =>
   rw[hq]at h1
   rw[hq2]at h2
   simp only[Option.map_some,Option.some.injEq]at h1 h2
   rw[<-h2]at h1
   simp only[List.cons_append,List.nil_append,List.cons.injEq]at h1
   refine⟨h1.1,i,rfl,?_⟩
   rw[xS i k h1.2]
open Classical in
noncomputable def TB (l m:List A9)(f g:EQ):EQ:=fun w =>
 if h:∃ u,pn [120] l u=some w then f h.choose else if h:∃ u,pn [121] m u=some w then g h.choose else C2 w
theorem vK {l m:List A9}{f g:EQ}{v:A9}(hv:v∈l):app (TB l m f g) (Nh [120] l v)=f v:=by
 unfold Nh
 cases hq:Fa l v with
 | none=>exact absurd hv (Le.1 hq)
 | some j =>
  have hn:pn [120] l v=some ([120]++IS j):=by unfold pn;rw[hq];rfl
  rw[Av (t:=C2 ([120]++IS j)) rfl]
  show TB l m f g ([120]++IS j)=f v
  unfold TB
  have h:∃ u,pn [120] l u=some ([120]++IS j):=⟨v,hn⟩
  rw[dif_pos h]
  obtain⟨_,i,h1,h2⟩:=dq h.choose_spec hn
  rw[fV h1 h2]
theorem yJ {l m:List A9}{f g:EQ}{v:A9}(hv:v∈m):app (TB l m f g) (Nh [121] m v)=g v:=by
 unfold Nh
 cases hq:Fa m v with
 | none=>exact absurd hv (Le.1 hq)
 | some j =>
  have hn:pn [121] m v=some ([121]++IS j):=by unfold pn;rw[hq];rfl
  rw[Av (t:=C2 ([121]++IS j)) rfl]
  show TB l m f g ([121]++IS j)=g v
  unfold TB
  have hno:¬ ∃ u,pn [120] l u=some ([121]++IS j):=fun ⟨u,hu⟩=>by
   have:=(dq hu hn).1
   exact absurd this (by decide)
  have h:∃ u,pn [121] m u=some ([121]++IS j):=⟨v,hn⟩
  rw[dif_neg hno,dif_pos h]
  obtain⟨_,i,h1,h2⟩:=dq h.choose_spec hn
  rw[fV h1 h2]
theorem V8 {v:A9}:∀ l:List Term,(∀ a∈l,0<Dh v a->CX v a=true)->0<BY v l->∃ a∈l,CX v a=true
 | [],_,h=>by simp[BY]at h
 | a::l,hs,h=>by
  simp only[BY]at h
  by_cases ha:0<Dh v a
  ·exact⟨a,by simp,hs a (by simp) ha⟩
  ·obtain⟨b,hb,ho⟩:=V8 l (fun b hb=>hs b (by simp[hb])) (by omega)
   exact⟨b,by simp[hb],ho⟩
theorem iJ {v:A9}(t:Term):0<Dh v t->CX v t=true:=by
 induction t using Ah with
 | h t ih =>
 intro h
 rw[M7]at h
 by_cases hc:(t.var&&decide (t.name=v))=true
 ·rw[Bool.and_eq_true,decide_eq_true_eq]at hc
  exact AO.2 (.inl hc)
 ·rw[if_neg hc]at h
  obtain⟨a,ha,ho⟩:=V8 t.args ih (by omega)
  exact AO.2 (.inr ⟨a,ha,ho⟩)
theorem ZG {v:A9}:∀ (p:List Int)(t y:Term),Bt t p=some y->CX v y=true->CX v t=true
 | [],t,y,h,ho=>by simp only[Bt,Option.some.injEq]at h;subst h;exact ho
 | i::p,t,y,h,ho=>by
  simp only[Bt]at h
  split at h
  ·rename_i hi
   exact AO.2 (.inr ⟨_,A4 (by omega),ZG p _ y h ho⟩)
  ·cases h
theorem PA {r:List A3}(h:F6 r=(true,0)):DG r:=by
 have hsys:Ao r=0:=by
  unfold F6 at h
  by_cases hc:Ao r=0
  ·exact hc
  ·rw[if_pos hc]at h
   exact absurd (congrArg Prod.fst h) (by simp)
 obtain⟨hg,hrl⟩:=Gp hsys
 unfold F6 at h
 rw[if_neg (by simpa using hsys)]at h
 obtain⟨s1,s2⟩:=Rm hg
 have ha:(O6 r).2=0:=by
  by_cases hc:(O6 r).2=0
  ·exact hc
  ·rw[if_pos hc]at h
   exact absurd (congrArg Prod.fst h) (by simp)
 rw[if_neg (by simpa using ha)]at h
 have h:=congrArg Prod.fst h
 simp only[Bool.and_eq_true,decide_eq_true_eq,List.all_eq_true]at h
 obtain⟨h0,hlin⟩:=h
 refine⟨hsys,fun x hx v=>?_,fun i j hi hj p y hy hv hne f g he=>?_⟩
 ·have hb:=hlin x hx
  by_cases hc:Dh v x.left<=1
  ·exact hc
  ·exfalso
   have ho:=iJ x.left (v:=v) (by omega)
   unfold Pt at hb
   rw[Bool.not_eq_true']at hb
   rw[List.any_eq_false]at hb
   have:=hb v ((FA v x.left []).2 (.inr ho))
   simp only[decide_eq_true_eq]at this
   omega
 ·have hxi:=hg _ (A4 hi)
  have hxj:=hg _ (A4 hj)
  have hvis:(p,y)∈Ab (r.getD i default).left []:=by
   have:=U5 p (r.getD i default).left y [] hy
   simpa using this
  have hno:=wq (s1▸ha) (by rw[<-s2 ha];exact h0) hi hj hvis hv hne
  have hsub:=mi hxi hy
  have hgi:=Ld (pre:=[120]) rfl hxi
  have hgj:=Ld (pre:=[121]) rfl hxj
  refine oo (a:=Cn [120] (r.getD i default)) (b:=Cn [121] (r.getD j default)) (pos:=p) (C3.sub p hgi.l hsub) hgj.l (θ:=TB (AG [] (r.getD i default).left) (AG [] (r.getD j default).left) f g) ?_ hno
  have e1:app (TB (AG [] (r.getD i default).left) (AG [] (r.getD j default).left) f g) (app (Nh [120] (AG [] (r.getD i default).left)) y)=app f y:=by
   rw[Og]
   refine DW y fun v hvo=>vK ?_
   exact (HO (r.getD i default).left []).2 hxi.l.vf v (ZG p _ y hy hvo)
  have e2:app (TB (AG [] (r.getD i default).left) (AG [] (r.getD j default).left) f g) (Cn [121] (r.getD j default)).left=app g (r.getD j default).left:=by
   show app _ (app (Nh [121] (AG [] (r.getD j default).left)) (r.getD j default).left)=_
   rw[Og]
   exact DW _ fun v hvo=>yJ ((HO (r.getD j default).left []).2 hxj.l.vf v hvo)
  rw[e1,e2,he]
end Go.Dw
end
namespace Go.Dw
theorem zd {n k:Nat}{Z:List A1}(hk:k<n)(hZ:n<=Z.length):(Z.take k++List.replicate (n-k) zM).set k (Z.getD k default)=Z.take (k+1)++List.replicate (n-(k+1)) zM:=by
 have h1:(Z.take k).length=k:=by simp;omega
 rw[List.set_append,if_neg (by omega),h1,Nat.sub_self]
 obtain⟨m,hm⟩:∃ m,n-k=m+1:=⟨n-k-1,by omega⟩
 have h2:n-(k+1)=m:=by omega
 rw[hm,h2,List.replicate_succ,List.set_cons_zero,Aa (by omega),List.append_assoc];rfl
theorem LA {F:A1->A1->A1}{g:Nat}{caps:List V}(hc:∀ σ,AN σ caps=caps)(a b:List A1)(hla:a.length<=b.length)(hl:a.length<2^38)(h:∀ k,k<a.length->PF g (Be (a.getD k default)::Be (b.getD k default)::caps) (Be (F (a.getD k default) (b.getD k default)))) :
  PF M3 [Fk a,Fk b,.fn (.func g) [] caps] (Fk (List.zipWith F a b)):=by
 have hz:∀ τ,List.map (AN τ) (List.replicate a.length [V.int IntKind.i64 0,V.str [],V.bool false,V.sl 4 []])=(List.replicate a.length zM).map cM:=fun τ=>by
  rw[List.map_replicate,List.map_replicate];rfl
 have hz0:List.replicate a.length [V.int IntKind.i64 0,V.str [],V.bool false,V.sl 4 []]=(List.replicate a.length zM).map cM:=by rw[List.map_replicate];rfl
 have m1:a.length<=Ai:=by unfold Ai;omega
 have m2:a.length*56<=Ai:=by unfold Ai;omega
 have hZl:(List.zipWith F a b).length=a.length:=by rw[List.length_zipWith];omega
 refine Ad IJ.ok rfl ?_
 push_cast[hc,hz,hz0,m1,m2,F2]
 refine Ae (n:=a.length) (R:=fun k=>IJ.L3 (Fk a) (Fk b) (.fn (.func g) [] caps) (.rw 0 4 a.length) (.int .i64 a.length) (.int .i64 k) 0 [.row A8 4 (((List.zipWith F a b).take k++List.replicate (a.length-k) zM).map cM)] (BH 0 IJ.rs fun x' H'=>x'=Fk (List.zipWith F a b)/\H'=[])) ?_ ?_ 0 (by omega)
 ·intro k hk ih
  have hkb:k<b.length:=by omega
  have hcall:=h k hk
  have hge:(List.zipWith F a b).getD k default=F (a.getD k default) (b.getD k default):=by
   have e1:(List.zipWith F a b)[k]?=some (F (a.getD k default) (b.getD k default)):=by
    have ea:a[k]?=some (a.getD k default):=by simp[List.getD_eq_getElem?_getD,hk]
    have eb:b[k]?=some (b.getD k default):=by simp[List.getD_eq_getElem?_getD,hkb]
    rw[List.getElem?_zipWith,ea,eb]
   rw[List.getD_eq_getElem?_getD,e1];rfl
  have hset:=zd (n:=a.length) (k:=k) (Z:=List.zipWith F a b) hk (by omega)
  rw[<-hset,hge]at ih
  have hlen:((List.zipWith F a b).take k++List.replicate (a.length-k) zM).length=a.length:=by simp;omega
  generalize (List.zipWith F a b).take k++List.replicate (a.length-k) zM=L at ih hlen
  generalize F (a.getD k default) (b.getD k default)=y at hcall ih
  have hset2:(L.map cM).set k (put 0 (cM y) ((L.map cM).getD k []))=(L.set k y).map cM:=by
   have e:(L.map cM).getD k []=cM (L.getD k default):=by simp[List.getD_eq_getElem?_getD,hlen,hk]
   rw[e,List.map_set];rfl
  have hg1:(L.map cM)[k]?=some (cM (L.getD k default)):=by simp[List.getD_eq_getElem?_getD,hlen,hk]
  refine A7.2 ?_
  push_cast[BB hk,BB hkb,hc]
  refine .of hcall ?_
  push_cast[hset2,hg1,hc,F2,List.length_map,hlen,BB hk,Co (show k<2^62 by omega)]
  push_cast at ih
  first | exact ih | exact⟨by omega,ih⟩
 ·refine A7.2 ?_
  have hfin:((List.zipWith F a b).take a.length++List.replicate (a.length-a.length) zM)=List.zipWith F a b:=by
   rw[List.take_of_length_le (by omega),Nat.sub_self,List.replicate_zero,List.append_nil]
  rw[hfin]
  push_cast[AZ (Nat.le_refl _),List.length_map,hZl,F2]
  exact A0 (by push_cast[IJ.rs,F2];rfl)
def qJ (n:Nat)(out:List A1):List Ob:=[.dead,.row A8 4 (out.map cM),.cells R6 [.rw 1 4 n]]
theorem uV (n:Nat)(out:List A1):I4 3 (qJ n out):=⟨rfl,by
 show [A6 (AI 3) .dead,A6 (AI 3) (.row A8 4 (out.map cM)),A6 (AI 3) (.cells R6 [.rw 1 4 n])]=_
 have h3:AI 3 1=some 1:=rfl
 push_cast[h3,F2,List.map_map];rfl⟩
theorem lF (n:Nat)(out:List A1)(J:List Ob):cut 3 (qJ n out++J)=qJ n out:=by
 show [A6 (AI 4) .dead,A6 (AI 4) (.row A8 4 (out.map cM)),A6 (AI 4) (.cells R6 [.rw 1 4 n])]=_
 have h3:AI 4 1=some 1:=rfl
 push_cast[h3,F2];rfl
def qM (L:Term)(g:F4)(vars:List A9)(j:Nat)(out:List A1):Prop :=
 out.length=vars.length/\∀ k,k<vars.length->(∃ x∈(Ab L []).take j,x.2.var=true/\x.2.name=vars.getD k default)->out.getD k default=g (vars.getD k default)
theorem qY {L:Term}{g:F4}{vars:List A9}{j:Nat}{out:List A1}(h:qM L g vars j out)(hj:j<(Ab L []).length)(hv:((Ab L []).getD j default).2.var=false):qM L g vars (j+1) out:=by
 refine⟨h.1,fun k hk hx=>h.2 k hk ?_⟩
 obtain⟨x,hx,h1,h2⟩:=hx
 rw[Aa hj,List.mem_append,List.mem_singleton]at hx
 rcases hx with hx | rfl
 ·exact⟨x,hx,h1,h2⟩
 ·rw[hv]at h1;cases h1
theorem sV {L:Term}{g:F4}{vars:List A9}{j:Nat}{out:List A1}(hnd:vars.Nodup)(h:qM L g vars j out)(hj:j<(Ab L []).length){x:List Int×Term}(hx0:(Ab L []).getD j default=x){i:Nat}(hi:i<vars.length)(hn:vars.getD i default=x.2.name):qM L g vars (j+1) (out.set i (g x.2.name)):=by
 refine⟨by rw[List.length_set,h.1],fun k hk hx=>?_⟩
 obtain⟨y,hy,h1,h2⟩:=hx
 by_cases hik:i=k
 ·subst hik
  rw[hn]
  simp[List.getD_eq_getElem?_getD,h.1,hi]
 ·have e:(out.set i (g x.2.name)).getD k default=out.getD k default:=by simp[List.getD_eq_getElem?_getD,hik]
  rw[e]
  refine h.2 k hk ?_
  rw[Aa hj,List.mem_append,List.mem_singleton]at hy
  rcases hy with hy | rfl
  ·exact⟨y,hy,h1,h2⟩
  ·exact absurd (by
    have e1:vars[i]?=vars[k]?:=by
     rw[hx0]at h2
     have a1:vars[i]?=some (vars.getD i default):=by simp[List.getD_eq_getElem?_getD,hi]
     have a2:vars[k]?=some (vars.getD k default):=by simp[List.getD_eq_getElem?_getD,hk]
     rw[a1,a2,hn,h2]
    exact (List.getElem?_inj hi hnd).1 e1) hik
theorem xZ {y z:Term}{i:Int}{p:List Int}(hf:vfl y=true)(h:Bt y (i::p)=some z):y.var=false/\0<=i/\i.toNat<y.args.length/\Bt (y.args.getD i.toNat default) p=some z:=by
 simp only[Bt]at h
 split at h
 ·rename_i hi
  have hv:y.var=false:=by
   cases hv:y.var with
   | false=>rfl
   | true=>rw[(KE.1 hf).1 hv]at hi;simp at hi;omega
  exact⟨hv,by omega,by omega,h⟩
 ·cases h
theorem iQ {vars:List A9}{g:F4}{x:List Int×Term}(O:Ob)(hO:A6 (AI 6) O=O)(out:List A1)(hol:out.length=vars.length)(hvl:vars.length<2^38)(y0:Term)(hy0:vfl y0=true)(hsub:Bt y0 x.1=some x.2)(hv:x.2.var=true)(hm:x.2.name∈vars)(hpl:x.1.length<2^38)(Q:X->T->List Ob->Prop)
  (hq:∀ T J,Q .fall T (qJ vars.length (out.set (XM x.2.name vars) (g x.2.name))++O::J)) :
  GH.L3 (.ro [C7 vars] 0) (.ptr 2 0) (.ro (cT x.2) 0) (.ptr 5 0) (D0 x.1) (.int .i64 x.1.length) (.int .i64 0) 4 (qJ vars.length out++[O,.dead,.cells A8 (cM (pl g y0))]) Q:=by
 refine Ae (n:=x.1.length) (R:=fun k=>∀ y,vfl y=true->Bt y (x.1.drop k)=some x.2->GH.L3 (.ro [C7 vars] 0) (.ptr 2 0) (.ro (cT x.2) 0) (.ptr 5 0) (D0 x.1) (.int .i64 x.1.length) (.int .i64 k) 4 (qJ vars.length out++[O,.dead,.cells A8 (cM (pl g y))]) Q) ?_ ?_ 0 (Nat.zero_le _) y0 hy0 (by rw[List.drop_zero];exact hsub)
 ·intro k hk ih y hy hs
  rw[Ag hk]at hs
  obtain⟨h1,h2,h3,h4⟩:=xZ hy hs
  have ih:=ih _ (BR hy (A4 h3)) h4
  simp only[qJ,List.cons_append,List.nil_append]at ih ⊢
  refine A7.2 ?_
  have e:((y.args.map (pl g)).getD (x.1.getD k default).toNat default)=pl g (y.args.getD (x.1.getD k default).toNat default):=by
   generalize (x.1.getD k default).toNat=i at h3
   simp[List.getD_eq_getElem?_getD,h3]
  have e2:(A1.mk 0 y.name false (y.args.map (pl g))).args=y.args.map (pl g):=rfl
  push_cast[BB hk,NV h1,hO,F2,e2,e,List.length_map,Co (show k<2^62 by omega)]
  exact⟨⟨by omega,by omega⟩,ih⟩
 ·intro y hy hs
  rw[List.drop_length]at hs
  have hs:y=x.2:=by simpa[Bt]using hs
  subst hs
  have hix:=Fv vars x.2.name (by omega)
  obtain⟨i1,i2,i3⟩:=KK hm
  rw[i1]at hix
  simp only[qJ,List.cons_append,List.nil_append]
  refine A7.2 ?_
  push_cast[AZ (Nat.le_refl _),hO]
  refine .of hix ?_
  have hset:(out.map cM).set (XM x.2.name vars) (put 0 (cM (g x.2.name)) ((out.map cM).getD (XM x.2.name vars) []))=(out.set (XM x.2.name vars) (g x.2.name)).map cM:=by
   have e:(out.map cM).getD (XM x.2.name vars) []=cM (out.getD (XM x.2.name vars) default):=by simp[List.getD_eq_getElem?_getD,hol,i2]
   rw[e,List.map_set];rfl
  push_cast[hO,Pq hv,hset,F2,List.length_map,hol]
  exact⟨by omega,i2,hq _ [_,_]⟩
theorem Uw {L:Term}(hL:vfl L=true)(hs:size L<2^38)(g:F4):PF J9 [An L,Be (pl g L)] (Fk ((AD [L]).map g)):=by
 have hvs:=DS [L] (by simp only[Af];omega)
 have hw:=Gw L
 have hvl:(AD [L]).length<2^38:=by have:=HF [L];simp only[Af]at this;omega
 have hnd:=IE L
 generalize hvars:AD [L]=vars at hvs hvl hnd
 have hz:∀ τ,List.map (AN τ) (List.replicate vars.length [V.int IntKind.i64 0,V.str [],V.bool false,V.sl 4 []])=(List.replicate vars.length zM).map cM:=fun τ=>by
  rw[List.map_replicate,List.map_replicate];rfl
 have hz0:List.replicate vars.length [V.int IntKind.i64 0,V.str [],V.bool false,V.sl 4 []]=(List.replicate vars.length zM).map cM:=by rw[List.map_replicate];rfl
 have m1:vars.length<=Ai:=by unfold Ai;omega
 have m2:vars.length*56<=Ai:=by unfold Ai;omega
 refine Ad GH.ok rfl ?_
 push_cast
 refine .of hvs ?_
 push_cast[hz,hz0,m1,m2,F2]
 refine .of hw ?_
 push_cast[hz,hz0,F2]
 refine Ax.rf C6 [] [.ro (cT L) 0] ((Ab L []).map EO) (fun j H1=>∃ out,H1=qJ vars.length out/\qM L g vars j out) (fun _ _=>False) rfl (E4 L (by omega)) ?_ ⟨List.replicate vars.length zM,rfl,by simp,fun k hk hx=>by simp at hx⟩ ?_ ?_ ?_ ?_ ?_ ?_
 ·intro it hit
  obtain⟨x,_,rfl⟩:=List.mem_map.1 hit
  rfl
 ·push_cast
 ·rintro j H1 ⟨out,rfl,_⟩
  exact uV _ out
 ·rintro e H1 h
  exact h.elim
 ·rintro lo rr j it H1 hit ⟨out,rfl,hI⟩
  rw[List.getElem?_map]at hit
  cases hx:(Ab L [])[j]? with
  | none=>rw[hx]at hit;cases hit
  | some x =>
  rw[hx]at hit
  have hit:it=EO x:=by simpa using hit.symm
  subst hit
  have hj:j<(Ab L []).length:=(List.getElem?_eq_some_iff.1 hx).1
  have hxj:(Ab L []).getD j default=x:=by rw[List.getD_eq_getElem?_getD,hx];rfl
  have hxm:x∈Ab L []:=hxj▸A4 hj
  push_cast[MF,EO,qJ]
  refine A7.2 ?_
  cases hv:x.2.var with
  | false =>
   push_cast[hv]
   refine⟨rfl,out,lF _ out _,qY hI hj (by rw[hxj];exact hv)⟩
  | true =>
   push_cast[hv]
   have hv1:=Lz L [] x hxm
   obtain⟨p,hp,h2⟩:=hv1
   rw[List.nil_append]at hp
   rw[<-hp]at h2
   have h3:=(I0 L [] x hxm).2
   have hm:x.2.name∈vars:=by
    rw[<-hvars,E5]
    exact gO _ _ _ h2 hv
   obtain⟨i1,i2,i3⟩:=KK hm
   rw[F2]
   refine iQ (vars:=vars) (g:=g) (x:=x) (.lp lo .busy rr _) ?_ out hI.1 hvl L hL h2 hv hm (by simp only[List.length_nil]at h3;omega) _ ?_
   ·push_cast
   ·intro T J
    exact⟨rfl,_,lF _ _ (_::J),sV hnd hI hj hxj i2 i3⟩
 ·rintro H1 ⟨out,rfl,hI⟩
  have hout:out=vars.map g:=by
   refine List.ext_getElem? fun k=>?_
   by_cases hk:k<vars.length
   ·have e:=hI.2 k hk (by
     rw[List.length_map,List.take_length]
     have hm:vars.getD k default∈AD [L]:=by rw[hvars];exact A4 hk
     have hne:FJ L (vars.getD k default)≠[]:=by rw[cF];exact NJ _ _ ((E5 _ _).1 hm)
     unfold FJ JX at hne
     obtain⟨x,hx⟩:=List.exists_mem_of_ne_nil _ (fun h=>hne (by rw[h];rfl):((Ab L []).filter (xw (vars.getD k default)))≠[])
     obtain⟨h1,h2⟩:=List.mem_filter.1 hx
     simp only[xw,Bool.and_eq_true,decide_eq_true_eq]at h2
     exact⟨x,h1,by first | exact h2 | exact⟨h2.1,h2.2.symm⟩⟩)
    have e1:out[k]?=some (out.getD k default):=by simp[List.getD_eq_getElem?_getD,hI.1,hk]
    have e2:(vars.map g)[k]?=some (g (vars.getD k default)):=by simp[List.getD_eq_getElem?_getD,hk]
    rw[e1,e2,e]
   ·rw[List.getElem?_eq_none (by have:=hI.1;omega),List.getElem?_eq_none (by rw[List.length_map];omega)]
  subst hout
  push_cast[qJ,F2]
  refine⟨by rw[List.length_map,List.length_map],A0 ?_⟩
  push_cast[GH.rs,F2]
  rfl
 ·rintro e H1 h
  exact h.elim
theorem Nm (r:List A3)(m:A1)(hm:m.rule=0):PF Fz [Be m,.ro [.int .i64 0] 0,.ro [As r] 0] (Fk m.args):=by
 refine Ad DV.ok rfl ?_
 push_cast[hm]
 refine A0 ?_
 push_cast[DV.rs]
theorem Nl {r:List A3}{k:Nat}(hk:k<r.length)(hkl:k<2^40)(hv:(Ec r k).var=false)(hf:vfl (Ec r k)=true)(hs:size (Ec r k)<2^38)(β:Bool)(g:F4):PF Fz [Be (fm r k β g),.ro [.int .i64 (k+1)] 0,.ro [As r] 0] (Fk ((Gl r k).map g)):=by
 refine Ad DV.ok rfl ?_
 cases β with
 | true =>
  have e:fm r k true g=ru r k g:=rfl
  have h1:(0:Int)<k+1:=by omega
  push_cast[e,SW,Wd,h1]
  refine A0 ?_
  push_cast[DV.rs]
 | false =>
  have e:fm r k false g=pl g (Ec r k):=rfl
  have hu:=Uw hf hs g
  have h0:(pl g (Ec r k)).rule=0:=SJ hv
  have h1:((k:Int)+1=0)=False:=by simp;omega
  have hw:IntKind.i64.wrap ((k:Int)+1-1)=k:=by
   rw[Int.add_sub_cancel];exact Cr (by omega) (by omega)
  push_cast[e,h0,h1,hw]
  refine⟨by omega,.of hu ?_⟩
  push_cast
  refine A0 ?_
  push_cast[DV.rs]
  rfl
theorem RY (r:List A3)(a b:A1)(ha:a.rule=0)(hb:b.rule=0):PF GX [As r,Be a,Be b] (.tup [.int .i64 0,Fk a.args,Fk b.args]):=by
 refine Ad Gt.ok rfl ?_
 push_cast[ha,hb]
 refine .of (Nm r a ha) ?_
 push_cast
 refine .of (Nm r b hb) ?_
 push_cast
 refine A0 ?_
 push_cast[Gt.rs]
theorem Me {r:List A3}{k:Nat}(hk:k<r.length)(hkl:k<2^40)(hv:(Ec r k).var=false)(hf:vfl (Ec r k)=true)(hs:size (Ec r k)<2^38)(β γ:Bool)(f g:F4)(hβ:β=true\/γ=true):PF GX [As r,Be (fm r k β f),Be (fm r k γ g)] (.tup [.int .i64 (k+1),Fk ((Gl r k).map f),Fk ((Gl r k).map g)]):=by
 have c1:=Nl hk hkl hv hf hs β f
 have c2:=Nl hk hkl hv hf hs γ g
 have hr:∀ (δ:Bool)(f:F4),(fm r k δ f).rule=if δ then (k:Int)+1 else 0:=fun δ f=>by
  cases δ with
  | true=>rfl
  | false=>exact SJ hv
 have hm:(if (fm r k β f).rule<(fm r k γ g).rule then (fm r k γ g).rule else (fm r k β f).rule)=(k:Int)+1:=by
  rw[hr,hr]
  rcases hβ with rfl | rfl
  ·cases γ<;>simp<;>omega
  ·cases β<;>simp<;>omega
 refine Ad Gt.ok rfl ?_
 push_cast[hm]
 refine .of c1 ?_
 push_cast
 refine .of c2 ?_
 push_cast
 refine A0 ?_
 push_cast[Gt.rs]
theorem IB {r:List A3}{a b y:A1}(h:PF Bw [As r,Be a,Be b] (Be y)):PF Ds [Be a,Be b,.ro [As r] 0] (Be y):=by
 refine Ad Kk.ok rfl ?_
 push_cast
 refine .of h ?_
 push_cast
 refine A0 ?_
 push_cast[Kk.rs]
theorem VE {r:List A3}{a b:A1}(ha:a.rule=0)(hb:b.rule=0)(hl:a.args.length<=b.args.length)(hl2:a.args.length<2^38)(F:A1->A1->A1)
  (hF:∀ k,k<a.args.length->PF Bw [As r,Be (a.args.getD k default),Be (b.args.getD k default)] (Be (F (a.args.getD k default) (b.args.getD k default)))) :
  PF Bw [As r,Be a,Be b] (Be (.mk 0 a.name a.var (List.zipWith F a.args b.args))):=by
 have hz:=LA (F:=F) (g:=Ds) (caps:=[.ro [As r] 0]) (fun σ=>by push_cast) a.args b.args hl hl2 (fun k hk=>IB (hF k hk))
 refine Ad EK.ok rfl ?_
 push_cast
 refine .of (RY r a b ha hb) ?_
 push_cast
 refine .of hz ?_
 push_cast
 refine A0 ?_
 push_cast[EK.rs]
 first | rfl | (rw[Be,gp];rfl) | (simp only[Be,cM];rfl)
theorem VI {r:List A3}{k:Nat}(hk:k<r.length)(hkl:k<2^40)(hv:(Ec r k).var=false)(hf:vfl (Ec r k)=true)(hs:size (Ec r k)<2^38)(f g:F4)(F:A1->A1->A1)
  (hF:∀ v,v∈Gl r k->PF Bw [As r,Be (f v),Be (g v)] (Be (F (f v) (g v)))) :
  PF Bw [As r,Be (fm r k true f),Be (fm r k false g)] (Be (.mk (k+1) [] false (List.zipWith F ((Gl r k).map f) ((Gl r k).map g)))):=by
 have hvl:(Gl r k).length<2^38:=by have:=HF [Ec r k];simp only[Af]at this;unfold Gl;omega
 have hz:=LA (F:=F) (g:=Ds) (caps:=[.ro [As r] 0]) (fun σ=>by push_cast) ((Gl r k).map f) ((Gl r k).map g) (by simp) (by simpa using hvl) (fun j hj=>by
  rw[List.length_map]at hj
  have e:∀ f:F4,((Gl r k).map f).getD j default=f ((Gl r k).getD j default):=fun f=>by simp[List.getD_eq_getElem?_getD,hj]
  rw[e,e]
  exact IB (hF _ (A4 hj)))
 refine Ad EK.ok rfl ?_
 push_cast
 refine .of (Me hk hkl hv hf hs true false f g (.inl rfl)) ?_
 push_cast
 refine .of hz ?_
 have e0:(fm r k false g).rule=0:=SJ hv
 have h1:((k:Int)+1=0)=False:=by simp;omega
 push_cast[e0,h1]
 refine A0 ?_
 push_cast[EK.rs]
 first | rfl | (rw[Be,gp];rfl) | (simp only[Be,cM];rfl)
theorem VF {r:List A3}{k:Nat}(hk:k<r.length)(hkl:k<2^40)(hv:(Ec r k).var=false)(hf:vfl (Ec r k)=true)(hs:size (Ec r k)<2^38)(hs2:size (mh r k)<2^40)(ho:∀ v,CX v (mh r k)=true->v∈Gl r k)(β:Bool)(f g:F4)(F:A1->A1->A1)
  (hF:∀ v,v∈Gl r k->PF Bw [As r,Be (f v),Be (g v)] (Be (F (f v) (g v)))) :
  PF Bw [As r,Be (fm r k β f),Be (fm r k true g)] (Be (Kj (Gl r k) (List.zipWith F ((Gl r k).map f) ((Gl r k).map g)) (mh r k))):=by
 have hvl:(Gl r k).length<2^38:=by have:=HF [Ec r k];simp only[Af]at this;unfold Gl;omega
 have hz:=LA (F:=F) (g:=Ds) (caps:=[.ro [As r] 0]) (fun σ=>by push_cast) ((Gl r k).map f) ((Gl r k).map g) (by simp) (by simpa using hvl) (fun j hj=>by
  rw[List.length_map]at hj
  have e:∀ f:F4,((Gl r k).map f).getD j default=f ((Gl r k).getD j default):=fun f=>by simp[List.getD_eq_getElem?_getD,hj]
  rw[e,e]
  exact IB (hF _ (A4 hj)))
 have hvs:=DS [Ec r k] (by simp only[Af];omega)
 have hp:=de (Gl r k) (List.zipWith F ((Gl r k).map f) ((Gl r k).map g)) (by simp) (by omega) (mh r k) hs2 ho
 refine Ad EK.ok rfl ?_
 push_cast
 refine .of (Me hk hkl hv hf hs β true f g (.inr rfl)) ?_
 push_cast
 refine .of hz ?_
 have e0:(fm r k true g).rule=(k:Int)+1:=rfl
 have h1:((k:Int)+1=0)=False:=by simp;omega
 have hw:IntKind.i64.wrap ((k:Int)+1-1)=k:=by
  rw[Int.add_sub_cancel];exact Cr (by omega) (by omega)
 push_cast[e0,h1,hw]
 refine⟨by omega,by omega,.of hvs ?_⟩
 push_cast
 refine .of hp ?_
 push_cast
 refine A0 ?_
 push_cast[EK.rs]
end Go.Dw
section
namespace Go.Dw
section
variable {r:List A3} (h:DG r)
include h
theorem DG.shapes {a b:A1}(ha:Kc r a)(hb:Kc r b)(hs:Az r A3.left b=Az r A3.left a) :
  (a.rule=0/\b.rule=0/\b=.mk 0 a.name a.var b.args/\b.args.map (Az r A3.left)=a.args.map (Az r A3.left)) \/
  ∃ (k:Nat) (α β:Bool) (f g:F4),k<r.length/\a=fm r k α f/\b=fm r k β g/\(α=true\/β=true)/\∀ v∈Gl r k,Kc r (f v)/\Kc r (g v)/\Az r A3.left (g v)=Az r A3.left (f v)/\AV (f v)+AV (g v)<AV a+AV b:=by
 by_cases h0:0<a.rule
 ·obtain⟨k,hk,hkr,hak,hlen⟩:=Wc ha h0
  obtain⟨β,g,h1,h2,h3⟩:=h.form ha hb hk hak hs
  refine .inr ⟨k,true,β,_,g,hk,hak,h1,.inl rfl,fun v hv=>?_⟩
  have hm:=bM hlen hv
  obtain⟨q1,q2,q3⟩:=h3 v hv
  have:=DU hm
  have:=Bj a
  exact⟨ha.arg hm,q1,q2,by omega⟩
 ·have ha0:a.rule=0:=by have:=ha.rule0.1;omega
  by_cases h1:0<b.rule
  ·obtain⟨k,hk,hkr,hbk,hlen⟩:=Wc hb h1
   obtain⟨α,f,h1,h2,h3⟩:=h.form hb ha hk hbk hs.symm
   refine .inr ⟨k,α,true,f,_,hk,h1,hbk,.inr rfl,fun v hv=>?_⟩
   have hm:=bM hlen hv
   obtain⟨q1,q2,q3⟩:=h3 v hv
   have:=DU hm
   have:=Bj b
   exact⟨q1,hb.arg hm,q2.symm,by omega⟩
  ·have hb0:b.rule=0:=by have:=hb.rule0.1;omega
   obtain⟨q1,q2⟩:=od ha0 hb0 hs
   exact .inl ⟨ha0,hb0,q1,q2⟩
theorem Ke (hrl:r.length<=64)(hsz:∀ k,k<r.length->size (Ec r k)<2^38/\size (mh r k)<2^38):∀ (n:Nat)(a b:A1),AV a+AV b<=n->Kc r a->Kc r b->Az r A3.left b=Az r A3.left a->PF Bw [As r,Be a,Be b] (Be (rest r a b))
 | 0,a,b,hn,_,_,_=>by have:=KV a;omega
 | n+1,a,b,hn,ha,hb,hs=>by
  rcases h.shapes ha hb hs with ⟨a0,b0,hbe,hm⟩|⟨k,α,β,f,g,hk,rfl,rfl,hαβ,hp⟩
  ·have hl:b.args.length=a.args.length:=by have:=congrArg List.length hm;simpa using this
   have e:rest r a b=.mk 0 a.name a.var (List.zipWith (rest r) a.args b.args):=by
    rw[SI,if_neg (by omega),if_neg (by omega)]
   rw[e]
   refine VE a0 b0 (by omega) ?_ (rest r) fun k hk=>?_
   ·have hf:=J4 ha.fm
    unfold Gb at hf
    rw[if_neg (by omega)]at hf
    split at hf
    ·simp only[Bool.and_eq_true,decide_eq_true_eq]at hf;omega
    ·simp only[Bool.and_eq_true,decide_eq_true_eq]at hf;omega
   ·have h1:=A4 hk
    have h2:=A4 (l:=b.args) (k:=k) (by omega)
    have:=HE h1
    have:=HE h2
    refine Ke hrl hsz n _ _ (by omega) (ha.arg h1) (hb.arg h2) ?_
    have e:=congrArg (fun l=>l.getD k default) hm
    have ea:(a.args.map (Az r A3.left)).getD k default=Az r A3.left (a.args.getD k default):=by simp[List.getD_eq_getElem?_getD,hk]
    have eb:(b.args.map (Az r A3.left)).getD k default=Az r A3.left (b.args.getD k default):=by simp[List.getD_eq_getElem?_getD,show k<b.args.length by omega]
    rw[<-ea,<-eb]
    exact e
  ·obtain⟨q1,q2,q3,q4,q5,q6,q7⟩:=h.left hk
   obtain⟨s1,s2⟩:=hsz k hk
   have hF:∀ v,v∈Gl r k->PF Bw [As r,Be (f v),Be (g v)] (Be (rest r (f v) (g v))):=fun v hv=>by
    obtain⟨p1,p2,p3,p4⟩:=hp v hv
    exact Ke hrl hsz n _ _ (by omega) p1 p2 p3
   rw[QT h hk]
   cases β with
   | true =>
    have:=VF hk (by omega) q1 q2 s1 (by omega) q7 α f g (rest r) hF
    rw[SA,aY]at this
    rw[if_pos rfl]
    have e:pl (YP (Gl r k) (List.map (fun x=>rest r (f x) (g x)) (Gl r k))) (mh r k)=pl (fun v=>rest r (f v) (g v)) (mh r k):=Sz _ fun v hv=>Yx _ (q7 v hv)
    rw[e]at this
    exact this
   | false =>
    have hα:α=true:=by simpa using hαβ
    subst hα
    have:=VI hk (by omega) q1 q2 s1 f g (rest r) hF
    rw[SA]at this
    exact this
end
end Go.Dw
end
section
namespace Go.Dw
theorem rI {r:List A3}{a:A1}(ha:Kc r a)(h0:a.rule=0){l:List A1}(hl:l.length=a.args.length)(h:∀ x∈l,Kc r x):Kc r (.mk 0 a.name a.var l):=by
 refine⟨?_,?_⟩
 ·rw[Hu,Bool.and_eq_true,List.all_eq_true]
  exact⟨by simp[EY,A1.rule],fun x hx=>(h x hx).rg⟩
 ·rw[Hu,Bool.and_eq_true,List.all_eq_true]
  refine⟨?_,fun x hx=>(h x hx).fm⟩
  have hf:=J4 ha.fm
  cases a with
  | mk k n v l0 =>
   have h0:k=0:=h0
   subst h0
   have hl:l.length=l0.length:=hl
   unfold Gb at hf ⊢
   simp only[A1.rule,A1.var,A1.args,A1.name,hl]at hf ⊢
   exact hf
section
variable {r:List A3} (h:DG r)
include h
theorem DG.rest_ok:∀ (n:Nat)(a b:A1),AV a+AV b<=n->Kc r a->Kc r b->Az r A3.left b=Az r A3.left a->Kc r (rest r a b)/\Az r A3.left (rest r a b)=Az r A3.right b
 | 0,a,b,hn,_,_,_=>by have:=KV a;omega
 | n+1,a,b,hn,ha,hb,hs=>by
  rcases h.shapes ha hb hs with ⟨a0,b0,hbe,hm⟩|⟨k,α,β,f,g,hk,rfl,rfl,hαβ,hp⟩
  ·have hl:b.args.length=a.args.length:=by have:=congrArg List.length hm;simpa using this
   have e:rest r a b=.mk 0 a.name a.var (List.zipWith (rest r) a.args b.args):=by
    rw[SI,if_neg (by omega),if_neg (by omega)]
   have hi:∀ k,k<a.args.length->Kc r (rest r (a.args.getD k default) (b.args.getD k default))/\Az r A3.left (rest r (a.args.getD k default) (b.args.getD k default))=Az r A3.right (b.args.getD k default):=fun k hk=>by
    have h1:=A4 hk
    have h2:=A4 (l:=b.args) (k:=k) (by omega)
    have:=HE h1
    have:=HE h2
    refine DG.rest_ok n _ _ (by omega) (ha.arg h1) (hb.arg h2) ?_
    have e:=congrArg (fun l=>l.getD k default) hm
    have ea:(a.args.map (Az r A3.left)).getD k default=Az r A3.left (a.args.getD k default):=by simp[List.getD_eq_getElem?_getD,hk]
    have eb:(b.args.map (Az r A3.left)).getD k default=Az r A3.left (b.args.getD k default):=by simp[List.getD_eq_getElem?_getD,show k<b.args.length by omega]
    rw[<-ea,<-eb]
    exact e
   have hz:∀ k,k<a.args.length->(List.zipWith (rest r) a.args b.args)[k]?=some (rest r (a.args.getD k default) (b.args.getD k default)):=fun k hk=>by
    have ea:a.args[k]?=some (a.args.getD k default):=by simp[List.getD_eq_getElem?_getD,hk]
    have eb:b.args[k]?=some (b.args.getD k default):=by simp[List.getD_eq_getElem?_getD,show k<b.args.length by omega]
    rw[List.getElem?_zipWith,ea,eb]
   have hzl:(List.zipWith (rest r) a.args b.args).length=a.args.length:=by rw[List.length_zipWith];omega
   rw[e]
   refine⟨rI ha a0 hzl fun x hx=>?_,?_⟩
   ·obtain⟨k,hk,rfl⟩:=List.getElem_of_mem hx
    have h1:=hz k (by omega)
    rw[List.getElem?_eq_getElem hk]at h1
    injection h1 with h1
    rw[h1];exact (hi k (by omega)).1
   ·rw[FL,if_pos (show (A1.mk 0 a.name a.var (List.zipWith (rest r) a.args b.args)).rule=0 from rfl),FL,if_pos b0]
    have en:b.name=a.name:=by have:=congrArg A1.name hbe;exact this
    have ev:b.var=a.var:=by have:=congrArg A1.var hbe;exact this
    rw[en,ev]
    congr 1
    refine List.ext_getElem? fun k=>?_
    by_cases hk:k<a.args.length
    ·have eb:b.args[k]?=some (b.args.getD k default):=by simp[List.getD_eq_getElem?_getD,show k<b.args.length by omega]
     rw[List.getElem?_map,List.getElem?_map,eb]
     have e2:(A1.mk 0 a.name a.var (List.zipWith (rest r) a.args b.args)).args=List.zipWith (rest r) a.args b.args:=rfl
     rw[e2,hz k hk]
     exact congrArg some (hi k hk).2
    ·rw[List.getElem?_eq_none (by rw[List.length_map];show (List.zipWith (rest r) a.args b.args).length<=k;omega),List.getElem?_eq_none (by rw[List.length_map];omega)]
  ·obtain⟨q1,q2,q3,q4,q5,q6,q7⟩:=h.left hk
   have hi:∀ v∈Gl r k,Kc r (rest r (f v) (g v))/\Az r A3.left (rest r (f v) (g v))=Az r A3.right (g v):=fun v hv=>by
    obtain⟨p1,p2,p3,p4⟩:=hp v hv
    exact DG.rest_ok n _ _ (by omega) p1 p2 p3
   rw[QT h hk,h.tgt_fm hk]
   cases β with
   | true =>
    refine⟨qy _ q5 fun v hv=>(hi v (q7 v hv)).1,?_⟩
    rw[if_pos rfl,if_pos rfl,da]
    exact DW _ fun v hv=>(hi v (q7 v hv)).2
   | false =>
    refine⟨h.ok_fm hk fun v hv=>(hi v hv).1,?_⟩
    have e:=h.src_fm hk (b:=α) (g:=fun v=>rest r (f v) (g v))
    refine e.trans ?_
    rw[if_neg (by simp)]
    exact DW _ fun v hv=>(hi v (FD.2 hv)).2
end
end Go.Dw
end
namespace Go.Dw
def Qr (σ:EQ)(L:Term):List A9->Nat
 | []=>0
 | v::vs=>(if CX v L then size (σ v) else 0)+Qr σ L vs
def Rz (σ:EQ)(l:List Term):List A9->Nat
 | []=>0
 | v::vs=>(if ER v l then size (σ v) else 0)+Rz σ l vs
theorem jE (σ:EQ)(a:Term)(l:List Term)(vs:List A9):Rz σ (a::l) vs<=Qr σ a vs+Rz σ l vs:=by
 induction vs with
 | nil=>simp[Rz,Qr]
 | cons v vs ih =>
  simp only[Rz,Qr,ER,Bool.or_eq_true]
  by_cases h1:CX v a=true<;>by_cases h2:ER v l=true<;>simp[h1,h2]<;>omega
theorem fX (σ:EQ)(n:A9):∀ vs:List A9,vs.Nodup->Qr σ (.mk n true []) vs<=size (σ n)
 | [],_=>by simp[Qr]
 | v::vs,h=>by
  obtain⟨h1,h2⟩:=List.nodup_cons.1 h
  have ih:=fX σ n vs h2
  simp only[Qr]
  by_cases he:n=v
  ·subst he
   have h0:∀ ws:List A9,n∉ws->Qr σ (.mk n true []) ws=0:=by
    intro ws
    induction ws with
    | nil=>intro _;rfl
    | cons w ws ihw =>
     intro hw
     simp only[List.mem_cons,not_or]at hw
     simp only[Qr,ihw hw.2,CX,ER,Bool.or_false,Bool.true_and,decide_eq_true_eq]
     rw[if_neg hw.1]
   rw[h0 vs h1]
   split<;>omega
  ·have:CX v (.mk n true [])=false:=by simp[CX,ER,he]
   rw[this]
   simp only[Bool.false_eq_true,if_false,Nat.zero_add]
   exact ih
mutual
theorem bG (σ:EQ)(vs:List A9)(hn:vs.Nodup):∀ L:Term,vfl L=true->Qr σ L vs<=size (app σ L)/\(L.var=false->Qr σ L vs<size (app σ L))
 | .mk n true l,hs=>by
  have ha:l=[]:=(KE.1 hs).1 rfl
  subst ha
  refine⟨?_,fun h=>by cases h⟩
  rw[PQ]
  exact fX σ n vs hn
 | .mk n false l,hs=>by
  have h:=eJ σ vs hn l (KE.1 hs).2
  have e:∀ ws,Qr σ (.mk n false l) ws=Rz σ l ws:=by
   intro ws
   induction ws with
   | nil=>rfl
   | cons w ws ih=>simp only[Qr,Rz,CX,Bool.false_and,Bool.false_or,ih]
  rw[e]
  have hi:size (app σ (.mk n false l))=1+Af (l.map (app σ)):=by
   rw[PQ];rfl
  rw[hi]
  exact⟨by omega,fun _=>by omega⟩
theorem eJ (σ:EQ)(vs:List A9)(hn:vs.Nodup):∀ l:List Term,(∀ a∈l,vfl a=true)->Rz σ l vs<=Af (l.map (app σ))
 | [],_=>by
  have:∀ ws,Rz σ [] ws=0:=by
   intro ws
   induction ws with
   | nil=>rfl
   | cons w ws ih=>simp[Rz,ER,ih]
  rw[this];exact Nat.zero_le _
 | a::l,hs=>by
  have h1:=jE σ a l vs
  have h2:=(bG σ vs hn a (hs a (by simp))).1
  have h3:=eJ σ vs hn l fun b hb=>hs b (by simp[hb])
  simp only[List.map_cons,Af];omega
end
theorem fD (f:EQ)(L:Term):∀ vs:List A9,(∀ v∈vs,CX v L=true)->Qr f L vs=Af (vs.map f)
 | [],_=>rfl
 | v::vs,h=>by
  simp only[Qr,List.map_cons,Af]
  rw[if_pos (h v (by simp)),fD f L vs fun w hw=>h w (by simp[hw])]
theorem Rk {F:A1->Term}:∀ {l:List A1},(∀ a∈l,AV a<=size (F a))->Bm l<=Af (l.map F)
 | [],_=>Nat.le_refl _
 | a::l,h=>by
  have h1:=h a (by simp)
  have h2:=Rk (l:=l) fun x hx=>h x (by simp[hx])
  simp only[Bm,List.map_cons,Af]
  omega
theorem DG.size_le {r:List A3}(h:DG r):∀ (n:Nat)(m:A1),AV m<=n->Kc r m->AV m<=size (Az r A3.left m)
 | 0,m,hn,_=>by have:=KV m;omega
 | n+1,m,hn,hm=>by
  have ih:Bm m.args<=Af (m.args.map (Az r A3.left)):=Rk fun a ha=>h.size_le n a (by have:=HE ha;omega) (hm.arg ha)
  have hsz:=Bj m
  by_cases h0:0<m.rule
  ·obtain⟨k,hk,hkr,hmk,hlen⟩:=Wc hm h0
   obtain⟨q1,q2,q3,q4,q5,q6,q7⟩:=h.left hk
   have e:Az r A3.left m=app (fun v=>Az r A3.left (YP (Gl r k) m.args v)) (Ec r k):=(congrArg (Az r A3.left) hmk).trans (Ok fun v hv=>FD.2 hv)
   have h1:=(bG (fun v=>Az r A3.left (YP (Gl r k) m.args v)) (Gl r k) (IE _) (Ec r k) q2).2 q1
   rw[fD _ _ _ fun v hv=>FD.1 hv]at h1
   have e2:(Gl r k).map (fun v=>Az r A3.left (YP (Gl r k) m.args v))=m.args.map (Az r A3.left):=by
    have e3:m.args=(Gl r k).map (YP (Gl r k) m.args):=congrArg A1.args hmk
    conv=>rhs;rw[e3]
    rw[List.map_map];rfl
   rw[e2]at h1
   rw[e];omega
  ·have m0:m.rule=0:=by have:=hm.rule0.1;omega
   rw[FL,if_pos m0]
   simp only[size]
   omega
theorem qa {r:List A3}{a b:A1}(h:Pe r a b=0):Fy r=0/\K7 r a=0/\K7 r b=0/\Qx r a=Qx r b:=by
 unfold Pe at h
 split at h
 ·rename_i hc;exact absurd h hc
 ·rename_i h1
  split at h
  ·rename_i hc;exact absurd h hc
  ·rename_i h2
   split at h
   ·rename_i hc;exact absurd h hc
   ·rename_i h3
    split at h
    ·rename_i h4
     exact⟨Classical.not_not.1 h1,Classical.not_not.1 h2,Classical.not_not.1 h3,h4⟩
    ·cases h
theorem nL {r:List A3}{a b:A1}(h:Pe r a b=0):DG r/\Kc r a/\Kc r b/\Az r A3.left b=Az r A3.left a/\BU (Az r A3.left a)=true/\BU (Az r A3.right b)=true/\BU (Az r A3.right a)=true/\r.length<=64/\∀ k,k<r.length->size (Ec r k)<2^38/\size (mh r k)<2^38:=by
 obtain⟨h1,h2,h3,h4⟩:=qa h
 obtain⟨a1,a2,a3,a4,a5⟩:=WM h2
 obtain⟨b1,b2,b3,b4,b5⟩:=WM h3
 have hr:=Qg h1
 have hg:=Gp hr.2
 refine⟨PA hr.1,(Uk a1).2.1,(Uk b1).2.1,by rw[<-a2,<-b2,h4],a4,b5,a5,hg.2,fun k hk=>?_⟩
 have hx:=hg.1 _ (A4 hk)
 have:=hx.l.sz
 have:=hx.r.sz
 exact⟨by unfold Ec;omega,by unfold mh;omega⟩
noncomputable def vP (r:List A3)(a b:A1):V:=if Pe r a b≠0 then J1 none (Pe r a b) else ir (rest r a b)
theorem kQ (m:A1):ir m=J1 (if iL m then some m else none) (if iL m then 0 else 3):=by unfold ir;split<;>rfl
theorem Kv {r:List A3}{a b:A1}(hr:Mg r<2^38)(ha:mb a<2^38)(hb:mb b<2^38):PF EV [As r,Be a,Be b] (vP r a b):=by
 have h0:=VS hr ha hb
 unfold vP
 refine Ad Ex.ok rfl ?_
 push_cast
 refine .of h0 ?_
 by_cases hp:Pe r a b=0
 ·obtain⟨g1,g2,g3,g4,g5,g6,g7,g8,g9⟩:=nL hp
  have h1:=Ke g1 g8 g9 _ a b (Nat.le_refl _) g2 g3 g4
  have hk:=g1.rest_ok _ a b (Nat.le_refl _) g2 g3 g4
  have h2:=V0 (rest r a b) (by
   have:=g1.size_le _ _ (Nat.le_refl _) hk.1
   rw[hk.2]at this
   have:size (Az r A3.right b)<=4000:=by
    unfold BU at g6
    simp only[Bool.and_eq_true,decide_eq_true_eq]at g6
    exact g6.1
   omega)
  rw[if_neg (by simp[hp]),kQ]
  rw[kQ]at h2
  push_cast[hp]
  refine .of h1 ?_
  push_cast
  refine .of h2 ?_
  split
  ·push_cast[J1]
   exact A0 (by push_cast[Ex.rs])
  ·push_cast[J1]
   exact A0 (by push_cast[Ex.rs])
 ·rw[if_pos hp]
  push_cast[hp]
  exact A0 (by push_cast[Ex.rs,J1];rfl)
theorem pk {r:List A3}{F:A3->Term}(n:A9)(v:Bool)(l:List A1):Az r F (.mk 0 n v l)=.mk n v (l.map (Az r F)):=by
 rw[FL,if_pos (show (A1.mk 0 n v l).rule=0 from rfl)];rfl
theorem Ad3 {r:List A3}(m:A1):Kc r m->mb m<=25*AV m:=by
 induction m using Ek with
 | h m ih =>
 intro hm
 have h1:=Wj m
 have h2:=Bj m
 have h3:∀ l:List A1,(∀ a∈l,a∈m.args)->uE l<=25*Bm l:=by
  intro l
  induction l with
  | nil=>intro _;simp[uE,Bm]
  | cons a l ihl =>
   intro hl
   have:=ih a (hl a (by simp)) (hm.arg (hl a (by simp)))
   have:=ihl fun x hx=>hl x (by simp[hx])
   simp only[uE,Bm];omega
 have h4:=h3 m.args fun a ha=>ha
 have h5:m.name.length<=24:=by
  have hf:=J4 hm.fm
  unfold Gb at hf
  split at hf
  ·rw[Bool.and_eq_true,decide_eq_true_eq]at hf
   rw[hf.1];simp
  ·split at hf
   ·simp only[Bool.and_eq_true,CJ,decide_eq_true_eq]at hf;exact hf.2.1
   ·simp only[Bool.and_eq_true,CJ,decide_eq_true_eq]at hf;exact hf.2.1
 omega
noncomputable def iN (r:List A3)(a b:A1):A1×Int:=if Pe r a b≠0 then (zM,Pe r a b) else if iL (rest r a b)=true then (rest r a b,0) else (zM,3)
theorem qS (r:List A3)(a b:A1):vP r a b=.tup [Be (iN r a b).1,.int .i64 (iN r a b).2]:=by
 unfold vP iN ir
 split
 ·rfl
 ·split<;>rfl
end Go.Dw
section
namespace Go.Dw
theorem NO (s:List A5)(t:Term):Aw s t=app (Py s) t:=eV s t
def T2 (r:List A3)(k:Nat)(t:Term):Bool:=(AR [] (Ec r k) t).2
def U2 (r:List A3)(t:Term):Option Nat:=(List.range r.length).find? fun k=>T2 r k t
def NX (r:List A3)(k:Nat)(t:Term):EQ:=Py (AR [] (Ec r k) t).1
theorem JS {r:List A3}{k:Nat}{t:Term}(h:T2 r k t=true):app (NX r k t) (Ec r k)=t:=by
 have:=Su h
 rwa [NO]at this
theorem UJ {r:List A3}{t:Term}{k:Nat}(h:U2 r t=some k):k<r.length/\T2 r k t=true:=by
 unfold U2 at h
 exact⟨List.mem_range.1 (List.mem_of_find?_eq_some h),by simpa using List.find?_some h⟩
theorem oT {r:List A3}{t:Term}(h:U2 r t=none):∀ k,k<r.length->T2 r k t=false:=by
 unfold U2 at h
 rw[List.find?_eq_none]at h
 intro k hk
 have:=h k (List.mem_range.2 hk)
 simpa using this
def D8 (r:List A3):Nat->Term->A1
 | 0,_=>zM
 | n+1,t=>match U2 r t with
  | some k=>ru r k (fun v=>D8 r n (NX r k t v))
  | none=>.mk 0 t.name t.var (t.args.map (D8 r n))
section
variable {r:List A3} (h:DG r)
include h
theorem DG.one {i j:Nat}(hi:i<r.length)(hj:j<r.length){t:Term}(h1:T2 r i t=true)(h2:T2 r j t=true):i=j:=by
 rcases Classical.em (i=j)with e | e
 ·exact e
 ·exfalso
  refine h.nov i j hi hj [] (Ec r i) rfl (h.left hi).1 (fun c=>e c.1) (NX r i t) (NX r j t) ?_
  rw[JS h1]
  exact (JS h2).symm
theorem DG.sig_lt {k:Nat}(hk:k<r.length){t:Term}(h1:T2 r k t=true):∀ v∈Gl r k,size (NX r k t v)<size t:=fun v hv=>by
 obtain⟨q1,q2,q3,q4,q5,q6,q7⟩:=h.left hk
 have h2:=(bG (NX r k t) (Gl r k) (IE _) (Ec r k) q2).2 q1
 rw[JS h1]at h2
 have h3:∀ l:List A9,v∈l->(∀ w∈l,CX w (Ec r k)=true)->size (NX r k t v)<=Qr (NX r k t) (Ec r k) l:=by
  intro l
  induction l with
  | nil=>intro hv _;cases hv
  | cons w l ih =>
   intro hv ho
   simp only[Qr]
   rw[if_pos (ho w (by simp))]
   rcases List.mem_cons.1 hv with rfl | hv
   ·omega
   ·have:=ih hv fun x hx=>ho x (by simp[hx])
    omega
 have:=h3 _ hv fun w hw=>FD.1 hw
 omega
theorem DG.full_ok:∀ (n:Nat)(t:Term),size t<=n->CI t=true->Kc r (D8 r n t)/\Az r A3.left (D8 r n t)=t
 | 0,t,hn,_=>by have:=Qn t;omega
 | n+1,t,hn,ht=>by
  have hst:=Aq t
  cases he:U2 r t with
  | some k =>
   obtain⟨hk,h1⟩:=UJ he
   have hi:∀ v∈Gl r k,Kc r (D8 r n (NX r k t v))/\Az r A3.left (D8 r n (NX r k t v))=NX r k t v:=fun v hv=>by
    refine DG.full_ok n _ (by have:=h.sig_lt hk h1 v hv;omega) ?_
    have h2:=JS h1
    have key:∀ L:Term,vfl L=true->CI (app (NX r k t) L)=true->CX v L=true->CI (NX r k t v)=true:=by
     intro L
     induction L using Ah with
     | h L ih =>
      intro hf hL ho
      cases hv2:L.var with
      | true=>rw[Av hv2]at hL;rw[(JG hf hv2).1 ho]at hL;exact hL
      | false =>
       rw[B7 hv2]at hL
       obtain⟨a,ha,hoa⟩:=(KM hv2).1 ho
       exact ih a ha (BR hf ha) ((S9.1 hL).2 _ (List.mem_map.2 ⟨a,ha,rfl⟩)) hoa
    exact key (Ec r k) (h.left hk).2.1 (by rw[h2];exact ht) (FD.1 hv)
   simp only[D8,he]
   refine⟨sN hk fun v hv=>(hi v hv).1,?_⟩
   rw[Ok fun v hv=>FD.2 hv]
   refine Eq.trans (DW _ fun v hv=>(hi v (FD.2 hv)).2) (JS h1)
  | none =>
   obtain⟨f1,f2⟩:=S9.1 ht
   have hi:∀ a∈t.args,Kc r (D8 r n a)/\Az r A3.left (D8 r n a)=a:=fun a ha=>DG.full_ok n a (by have:=B4 ha;omega) (f2 a ha)
   simp only[D8,he]
   refine⟨⟨?_,?_⟩,?_⟩
   ·rw[Hu,Bool.and_eq_true,List.all_eq_true]
    refine⟨by simp[EY,A1.rule],fun x hx=>?_⟩
    obtain⟨a,ha,rfl⟩:=List.mem_map.1 (show x∈t.args.map (D8 r n) from hx)
    exact (hi a ha).1.rg
   ·rw[Hu,Bool.and_eq_true,List.all_eq_true]
    refine⟨?_,fun x hx=>?_⟩
    ·unfold cO at f1
     unfold Gb
     cases hv:t.var with
     | true =>
      rw[hv]at f1
      simp only[A1.rule,A1.var,A1.args,A1.name,if_true,Bool.and_eq_true,decide_eq_true_eq]at f1 ⊢
      simp[f1]
     | false =>
      rw[hv]at f1
      simp only[A1.rule,A1.var,A1.args,A1.name,Bool.false_eq_true,if_false,Bool.and_eq_true,decide_eq_true_eq]at f1 ⊢
      simp[f1]
    ·obtain⟨a,ha,rfl⟩:=List.mem_map.1 (show x∈t.args.map (D8 r n) from hx)
     exact (hi a ha).1.fm
   ·rw[pk,List.map_map]
    have:t.args.map (Az r A3.left∘D8 r n)=t.args:=by
     conv=>rhs;rw[<-List.map_id t.args]
     exact List.map_congr_left fun a ha=>(hi a ha).2
    rw[this];cases t;rfl
end
end Go.Dw
end
namespace Go.Dw
noncomputable def kG (r:List A3)(t:Term):V :=
 if Fy r≠0 then J1 none (Fy r) else if DH t≠0 then J1 none (DH t) else if 4096<(EN r t).length then J1 none 3 else J1 (OZ r t (EN r t)).1 (OZ r t (EN r t)).2
theorem VW {r:List A3}{t:Term}(hr:Mg r<2^28)(ht:tb t<2^28)(hM:Ao r=0->DH t=0->XD r (EN r t) t []/\∀ s∈EN r t,s.pos.length<2^40):PF Ht [As r,An t] (kG r t):=by
 have h0:=Nu (r:=r) (by omega)
 have h1:=Te t (by omega)
 unfold kG
 refine Ad FU.ok rfl ?_
 push_cast
 refine .of h0 ?_
 by_cases hq:Fy r=0
 ·push_cast[hq]
  refine .of h1 ?_
  by_cases hc:DH t=0
  ·have hrr:=Qg hq
   have hg:=Gp hrr.2
   have hf:BU t=true:=(FW.1 hc).2
   have hsz:=Jj hf
   obtain⟨m1,m2⟩:=hM hrr.2 hc
   have h2:=YU r t (by have:=hg.2;omega) (fun x hx=>by have:=(hg.1 x hx).l.sz;omega) (by omega) (by
    have:=hg.2
    have:size t*r.length<=4000*64:=Nat.mul_le_mul hsz this
    omega)
   push_cast[hc]
   refine .of h2 ?_
   by_cases hl:4096<(EN r t).length
   ·have hl':(4096:Int)<(EN r t).length:=by omega
    push_cast[hl,hl']
    exact A0 (by push_cast[FU.rs,J1];rfl)
   ·have hl':¬ (4096:Int)<(EN r t).length:=by omega
    have h3:=bI r t (EN r t) hr hrr.2 (by omega) m2 hf m1
    push_cast[hl,hl']
    have e:J1 (OZ r t (EN r t)).1 (OZ r t (EN r t)).2=.tup [Be ((OZ r t (EN r t)).1.getD zM),.int .i64 (OZ r t (EN r t)).2]:=by
     cases (OZ r t (EN r t)).1<;>rfl
    rw[e]at h3 ⊢
    refine .of h3 ?_
    push_cast
    exact A0 (by push_cast[FU.rs])
  ·push_cast[hc]
   exact A0 (by push_cast[FU.rs,J1];rfl)
 ·push_cast[hq]
  exact A0 (by push_cast[FU.rs,J1];rfl)
end Go.Dw
section
namespace Go.Dw
theorem yC {l:List BZ}(h:l.Pairwise fun a b=>a.pos≠b.pos):fl l=false:=by
 unfold fl
 rw[List.any_eq_false]
 intro i hi hx
 have hi:=List.mem_range.1 hi
 obtain⟨x,hx,he⟩:=List.any_eq_true.1 hx
 rw[decide_eq_true_eq]at he
 obtain⟨j,hj,rfl⟩:=List.getElem_of_mem hx
 rw[List.length_take]at hj
 rw[List.getElem_take,List.getD_eq_getElem?_getD,List.getElem?_eq_getElem hi]at he
 exact List.pairwise_iff_getElem.1 h j i (by omega) hi (by omega) he
theorem SQ {r:List A3}{p:List Int}{s:Term}{st:BZ}:∀ n,st∈Wr r p s n↔∃ j,j<n/\st=⟨(j:Int),p⟩/\T2 r j s=true
 | 0=>by simp[Wr]
 | n+1=>by
  have ih:=SQ (r:=r) (p:=p) (s:=s) (st:=st) n
  have hm:T2 r n s=(AR [] (r.getD n default).left s).2:=rfl
  simp only[Wr,List.mem_append,ih,<-hm]
  constructor
  ·rintro (⟨j,h1,h2,h3⟩ | h)
   ·exact⟨j,by omega,h2,h3⟩
   ·split at h
    ·rename_i hc;exact⟨n,by omega,by simpa using h,hc⟩
    ·cases h
  ·rintro ⟨j,h1,h2,h3⟩
   by_cases he:j=n
   ·subst he
    rw[if_pos h3]
    exact .inr (by simp[h2])
   ·exact .inl ⟨j,by omega,h2,h3⟩
theorem Nj {r:List A3}{t:Term}{st:BZ}:st∈EN r t↔∃ x j,Bt t st.pos=some x/\x.var=false/\j<r.length/\st.rule=(j:Int)/\T2 r j x=true:=by
 unfold EN Q4
 rw[List.mem_flatMap]
 constructor
 ·rintro ⟨⟨p,x⟩,h1,h2⟩
  obtain⟨q,h3,h4⟩:=Lz t [] _ h1
  unfold lR at h2
  split at h2
  ·cases h2
  ·rename_i hv
   obtain⟨j,h5,h6,h7⟩:=(SQ _).1 h2
   refine⟨x,j,?_,by simpa using hv,h5,by rw[h6],h7⟩
   rw[h6]
   simp only[List.nil_append]at h3
   show Bt t p=some x
   rw[h3];exact h4
 ·rintro ⟨x,j,h1,h2,h3,h4,h5⟩
  refine⟨(st.pos,x),?_,?_⟩
  ·have:=U5 st.pos t x [] h1
   simpa using this
  ·unfold lR
   rw[if_neg (by simp[h2])]
   refine (SQ _).2 ⟨j,h3,?_,h5⟩
   rw[<-h4]
theorem ZH:∀ (p:List Int)(t x:Term),Bt t p=some x->p.length+size x<=size t
 | [],t,x,h=>by cases h;simp
 | i::p,t,x,h=>by
  simp only[Bt]at h
  split at h
  ·rename_i hi
   have h1:=ZH p _ x h
   have h2:=B4 (A4 (l:=t.args) (k:=i.toNat) (by omega))
   have h3:=Aq t
   simp only[List.length_cons]
   omega
  ·cases h
theorem gW (r:List A3)(t:Term):XD r (EN r t) t []/\∀ s∈EN r t,s.pos.length<=size t:=by
 refine⟨fun s hs q hq=>?_,fun s hs=>?_⟩
 ·obtain⟨x,j,h1,h2,h3,h4,h5⟩:=Nj.1 hs
  have hq:s.pos=q:=hq
  rw[hq]at h1
  refine⟨x,h1,by omega,by omega,?_⟩
  unfold AP
  rw[h4,Int.toNat_natCast]
  exact h5
 ·obtain⟨x,j,h1,h2,h3,h4,h5⟩:=Nj.1 hs
  have:=ZH _ _ _ h1
  omega
section
variable {r:List A3} (h:DG r)
include h
theorem DG.all_dist (t:Term):(EN r t).Pairwise fun a b=>a.pos≠b.pos:=by
 unfold EN Q4
 rw[List.pairwise_flatMap]
 refine⟨fun x hx=>?_,?_⟩
 ·unfold lR
  split
  ·exact List.Pairwise.nil
  ·have key:∀ n,n<=r.length->(Wr r x.1 x.2 n).Pairwise fun a b=>a.pos≠b.pos:=by
    intro n
    induction n with
    | zero=>intro _;exact List.Pairwise.nil
    | succ n ih =>
     intro hn
     simp only[Wr]
     refine List.pairwise_append.2 ⟨ih (by omega),by split<;>simp,fun a ha b hb=>?_⟩
     exfalso
     obtain⟨j,h1,h2,h3⟩:=(SQ n).1 ha
     split at hb
     ·rename_i hc
      have:=h.one (by omega) (by omega) h3 (show T2 r n x.2=true from hc)
      omega
     ·cases hb
   exact key _ (Nat.le_refl _)
 ·have h1:((Ab t []).map Prod.fst).Nodup:=by rw[Jh];simpa using YK t
  rw[List.Nodup,List.pairwise_map]at h1
  refine h1.imp fun {x y} hxy a ha b hb e=>hxy ?_
  have key:∀ (x:List Int×Term)(a:BZ),a∈lR r x.1 x.2->a.pos=x.1:=fun x a ha=>by
   unfold lR at ha
   split at ha
   ·cases ha
   ·obtain⟨j,_,h2,_⟩:=(SQ _).1 ha
    rw[h2]
  rw[<-key x a ha,<-key y b hb,e]
theorem DG.build_full (t:Term):∀ (n:Nat)(u:Term)(pos:List Int),size u<=n->Bt t pos=some u->AQ r (EN r t) n u pos=(D8 r n u,false)
 | 0,u,pos,hn,_=>by have:=Qn u;omega
 | n+1,u,pos,hn,hu=>by
  have hst:=Aq u
  simp only[AQ]
  cases he:U2 r u with
  | none =>
   have hno:VJ (EN r t) pos=none:=by
    rw[fb]
    intro s hs hp
    obtain⟨x,j,h1,h2,h3,h4,h5⟩:=Nj.1 hs
    rw[hp,hu]at h1
    cases h1
    rw[oT he j h3]at h5
    cases h5
   rw[hno]
   dsimp only
   have hi:∀ i,i<u.args.length->AQ r (EN r t) n (u.args.getD i default) (pos++[(i:Int)])=(D8 r n (u.args.getD i default),false):=fun i hk=>by
    refine DG.build_full t n _ _ (by have:=B4 (A4 hk);omega) ?_
    rw[NL,hu]
    exact kL hk
   simp only[D8,he]
   refine Prod.ext ?_ ?_
   ·show A1.mk 0 u.name u.var _=A1.mk 0 u.name u.var _
    congr 1
    refine List.ext_getElem? fun k=>?_
    by_cases hk:k<u.args.length
    ·rw[List.getElem?_map,List.getElem?_map,List.getElem?_range hk]
     have eb:u.args[k]?=some (u.args.getD k default):=by simp[List.getD_eq_getElem?_getD,hk]
     rw[eb]
     simp only[Option.map_some]
     rw[hi k hk]
    ·rw[List.getElem?_eq_none (by simp;omega),List.getElem?_eq_none (by simp;omega)]
   ·show List.any _ _=false
    rw[List.any_eq_false]
    intro i hi2
    rw[hi i (List.mem_range.1 hi2)];simp
  | some k =>
   obtain⟨hk,hmat⟩:=UJ he
   obtain⟨q1,q2,q3,q4,q5,q6,q7⟩:=h.left hk
   have huv:u.var=false:=by
    have:=JS hmat
    rw[B7 q1]at this
    rw[<-this];rfl
   have hmem:(⟨(k:Int),pos⟩:BZ)∈EN r t:=Nj.2 ⟨u,k,hu,huv,hk,rfl,hmat⟩
   have hat:VJ (EN r t) pos=some ⟨(k:Int),pos⟩:=by
    cases ha:VJ (EN r t) pos with
    | none=>exact absurd rfl (fb.1 ha _ hmem)
    | some s =>
     obtain⟨h1,h2⟩:=YH ha
     obtain⟨x,j,h3,h4,h5,h6,h7⟩:=Nj.1 h1
     rw[h2,hu]at h3
     cases h3
     have:=h.one h5 hk h7 hmat
     subst this
     cases s
     simp only at h2 h6
     rw[h2,h6]
   rw[hat]
   dsimp only
   have hL:AP r (⟨(k:Int),pos⟩:BZ)=Ec r k:=by unfold AP Ec;rw[Int.toNat_natCast]
   rw[hL]
   have happ:=JS hmat
   have hocc:∀ v,∀ p∈FJ (Ec r k) v,Bt u p=some (NX r k u v):=fun v p hp=>by
    obtain⟨y,y1,y2,y3⟩:=cJ hp
    have h2:=Ny (σ:=(AR [] (Ec r k) u).1) p (Ec r k) y (EZ h.sys _ (A4 hk)).1.1 y1
    rw[NO,NO,Av y2,y3]at h2
    have happ2:app (Py (AR [] (Ec r k) u).1) (Ec r k)=u:=happ
    rw[happ2]at h2
    exact h2
   have hi:∀ v∈Gl r k,∀ p∈FJ (Ec r k) v,AQ r (EN r t) n (Ej u p) (pos++p)=(D8 r n (NX r k u v),false):=fun v hv p hp=>by
    have h1:=hocc v p hp
    have h2:Ej u p=NX r k u v:=by unfold Ej;rw[h1];rfl
    rw[h2]
    refine DG.build_full t n _ _ (by have:=h.sig_lt hk hmat v hv;omega) ?_
    rw[NL,hu]
    exact h1
   have hvs:AD [Ec r k]=Gl r k:=rfl
   have hmap:∀ v∈Gl r k,(FJ (Ec r k) v).map (fun p=>AQ r (EN r t) n (Ej u p) (pos++p))=(FJ (Ec r k) v).map fun _=>(D8 r n (NX r k u v),false):=fun v hv=>List.map_congr_left fun p hp=>hi v hv p hp
   have hne:∀ v∈Gl r k,FJ (Ec r k) v≠[]:=fun v hv=>by rw[cF];exact NJ v _ (FD.1 hv)
   have hfst:∀ v∈Gl r k,VU ((FJ (Ec r k) v).map fun p=>AQ r (EN r t) n (Ej u p) (pos++p))=D8 r n (NX r k u v):=fun v hv=>by
    rw[hmap v hv]
    have:=hne v hv
    generalize FJ (Ec r k) v=ps at this
    cases ps with
    | nil=>exact absurd rfl this
    | cons p ps=>rfl
   simp only[D8,he]
   refine Prod.ext ?_ ?_
   ·show A1.mk ((k:Int)+1) [] false _=A1.mk ((k:Int)+1) [] false _
    congr 1
    rw[hvs]
    exact List.map_congr_left hfst
   ·show ((Ab (Ec r k) []).any (P2 (EN r t) pos)||_)=false
    rw[Bool.or_eq_false_iff]
    refine⟨?_,?_⟩
    ·rw[List.any_eq_false]
     rintro ⟨q,y⟩ hx hov
     obtain⟨q',e1,e2⟩:=Lz (Ec r k) [] _ hx
     simp only[List.nil_append]at e1 e2
     subst e1
     unfold P2 at hov
     simp only[Bool.and_eq_true,Bool.not_eq_true',decide_eq_true_eq]at hov
     obtain⟨o1,o2,o3⟩:=hov
     cases ha:VJ (EN r t) (pos++q)with
     | none=>rw[ha]at o1;cases o1
     | some s =>
      obtain⟨h1,h2⟩:=YH ha
      obtain⟨x,j,h3,h4,h5,h6,h7⟩:=Nj.1 h1
      rw[h2,NL,hu]at h3
      have h3:Bt u q=some x:=h3
      have h8:=Ny (σ:=(AR [] (Ec r k) u).1) q (Ec r k) y (EZ h.sys _ (A4 hk)).1.1 e2
      rw[NO,NO]at h8
      have h9:Bt u q=some (app (Py (AR [] (Ec r k) u).1) y):=by
       have happ2:app (Py (AR [] (Ec r k) u).1) (Ec r k)=u:=happ
       rw[happ2]at h8
       exact h8
      rw[h9]at h3
      have h3:app (Py (AR [] (Ec r k) u).1) y=x:=Option.some.inj h3
      refine h.nov k j hk h5 q y e2 o2 (fun c=>?_) (Py (AR [] (Ec r k) u).1) (NX r j x) ?_
      ·rw[c.2]at o3;simp at o3
      ·rw[h3];exact (JS h7).symm
    ·rw[hvs,List.any_eq_false]
     intro v hv hbad
     unfold iI at hbad
     rw[hmap v hv]at hbad
     obtain⟨b,hb,hb2⟩:=List.any_eq_true.1 hbad
     obtain⟨p,hp,rfl⟩:=List.mem_map.1 hb
     simp only[Bool.false_or,Bool.not_eq_true',decide_eq_false_iff_not]at hb2
     apply hb2
     generalize FJ (Ec r k) v=ps at hp
     cases ps with
     | nil=>cases hp
     | cons p ps=>rfl
theorem DG.bare_full (t:Term):OZ r t (EN r t)=(some (D8 r (size t) t),0):=by
 unfold OZ
 rw[yC (h.all_dist t),h.build_full t (size t) t [] (Nat.le_refl _) rfl]
 rfl
end
noncomputable def Ip (r:List A3)(t:Term):A1×Int :=
 if Fy r≠0 then (zM,Fy r) else if DH t≠0 then (zM,DH t) else if 4096<(EN r t).length then (zM,3) else (D8 r (size t) t,0)
theorem VH {r:List A3}{t:Term}(hr:Mg r<2^28)(ht:tb t<2^28):PF Ht [As r,An t] (.tup [Be (Ip r t).1,.int .i64 (Ip r t).2]):=by
 have h0:=VW (r:=r) (t:=t) hr ht fun _ hc=>⟨(gW r t).1,fun s hs=>by
  have:=(gW r t).2 s hs
  have:=Jj (FW.1 hc).2
  omega⟩
 have e:kG r t=.tup [Be (Ip r t).1,.int .i64 (Ip r t).2]:=by
  unfold kG Ip
  split
  ·rfl
  ·rename_i hq
   split
   ·rfl
   ·split
    ·rfl
    ·rw[(PA (Qg (Classical.not_not.1 hq)).1).bare_full];rfl
 rwa [e]at h0
end Go.Dw
end
namespace Go.Dw
theorem gZ {r:List A3}{t:Term}(h:(Ip r t).2=0):Fy r=0/\DH t=0/\(Ip r t).1=D8 r (size t) t:=by
 unfold Ip at h ⊢
 split at h
 ·rename_i hc;exact absurd h hc
 ·rename_i hc
  rw[if_neg hc]
  split at h
  ·rename_i h2;exact absurd h h2
  ·rename_i h2
   rw[if_neg h2]
   split at h
   ·cases h
   ·rename_i h3
    rw[if_neg h3]
    exact⟨Classical.not_not.1 hc,Classical.not_not.1 h2,rfl⟩
theorem xC {r:List A3}{t:Term}(h:(Ip r t).2=0):DG r/\Kc r (Ip r t).1/\Az r A3.left (Ip r t).1=t/\mb (Ip r t).1<2^28:=by
 obtain⟨h1,h2,h3⟩:=gZ h
 have ho:=PA (Qg h1).1
 obtain⟨k1,k2⟩:=ho.full_ok (size t) t (Nat.le_refl _) (FW.1 h2).1
 rw[h3]
 have:=Ad3 _ k1
 have h4:=ho.size_le _ _ (Nat.le_refl _) k1
 rw[k2]at h4
 have:=Jj (FW.1 h2).2
 exact⟨ho,k1,k2,by omega⟩
theorem rh:∀ {a b:List A9},SS a->SS b->(∀ v,v∈a↔v∈b)->a=b
 | [],[],_,_,_=>rfl
 | [],y::b,_,_,h=>by have:=(h y).2 (by simp);cases this
 | x::a,[],_,_,h=>by have:=(h x).1 (by simp);cases this
 | x::a,y::b,ha,hb,h=>by
  obtain⟨a1,a2⟩:=List.pairwise_cons.1 ha
  obtain⟨b1,b2⟩:=List.pairwise_cons.1 hb
  have hxy:x=y:=by
   rcases List.mem_cons.1 ((h x).1 (by simp))with e | hx
   ·exact e
   ·rcases List.mem_cons.1 ((h y).2 (by simp))with e | hy
    ·exact e.symm
    ·exact absurd (Lf (b1 x hx) (a1 y hy)) (Cs y)
  subst hxy
  congr 1
  refine rh a2 b2 fun v=>⟨fun hv=>?_,fun hv=>?_⟩
  ·rcases List.mem_cons.1 ((h v).1 (by simp[hv]))with e | hv2
   ·subst e;exact absurd (a1 v hv) (Cs v)
   ·exact hv2
  ·rcases List.mem_cons.1 ((h v).2 (by simp[hv]))with e | hv2
   ·subst e;exact absurd (b1 v hv) (Cs v)
   ·exact hv2
theorem fe (p:Term):∀ (s:List A5)(t:Term),vfl p=true->(AR s p t).2=true->∀ v,(Ac (AR s p t).1 v).isSome=((Ac s v).isSome||CX v p):=by
 induction p using Ah with
 | h p ih =>
 intro s t hf hm v
 rw[J3]at hm ⊢
 cases hv:p.var with
 | true =>
  rw[hv,if_pos rfl]at hm
  rw[if_pos rfl]
  cases hi:Ac s p.name with
  | some x =>
   dsimp only
   cases ho:CX v p with
   | false=>simp
   | true =>
    have:=(JG hf hv).1 ho
    rw[<-this,hi];rfl
  | none =>
   dsimp only
   rw[Dq hi]
   by_cases e:p.name=v
   ·rw[if_pos e,(JG hf hv).2 e];simp
   ·rw[if_neg e]
    cases ho:CX v p with
    | false=>simp
    | true=>exact absurd ((JG hf hv).1 ho) e
 | false =>
  rw[hv,if_neg (by simp)]at hm
  rw[if_neg (by simp)]
  split at hm
  ·cases hm
  ·rename_i hc
   rw[if_neg hc]
   have hl:p.args.length=t.args.length:=by
    rcases Classical.em (p.args.length=t.args.length)with e | e
    ·exact e
    ·exact absurd (.inr (.inr e)) hc
   have key:∀ (l m:List Term)(s:List A5),(∀ a∈l,a∈p.args)->l.length=m.length->(D3 s l m).2=true->(Ac (D3 s l m).1 v).isSome=((Ac s v).isSome||ER v l):=by
    intro l
    induction l with
    | nil=>intro m s _ _ _;simp[D3,ER]
    | cons a l ihl =>
     intro m s hl2 hle hm2
     cases m with
     | nil=>simp at hle
     | cons b m =>
      simp only[D3]at hm2 ⊢
      split at hm2
      ·rename_i h1
       rw[if_pos h1]
       have ha:=hl2 a (by simp)
       rw[ihl m _ (fun x hx=>hl2 x (by simp[hx])) (by simpa using hle) hm2,ih a ha s b (BR hf ha) h1 v]
       simp only[ER,Bool.or_assoc]
      ·cases hm2
   rw[key p.args t.args s (fun _ h=>h) hl hm,U3,hv]
   simp
theorem fw {L t:Term}(hf:vfl L=true)(h:(AR [] L t).2=true):(AR [] L t).1.map A5.term=(AD [L]).map (Py (AR [] L t).1):=by
 have hs:=(aV (M:=size t+1) L [] t List.Pairwise.nil (by simp) (by omega)).sorted
 have hn:=fe L [] t hf h
 generalize (AR [] L t).1=s at hs hn
 have e:s.map A5.name=AD [L]:=by
  rw[<-XE]
  refine rh ?_ (Kp L [] List.Pairwise.nil) fun v=>?_
  ·unfold SS;rw[List.pairwise_map];exact hs
  ·have h1:v∈DT L↔CX v L=true:=by rw[XE];exact E5 v L
   have h2:=hn v
   have h3:(Ac [] v).isSome=false:=rfl
   rw[h3,Bool.false_or]at h2
   show v∈s.map A5.name↔v∈DT L
   rw[h1,<-h2]
   constructor
   ·intro hv
    obtain⟨b,hb,rfl⟩:=List.mem_map.1 hv
    rw[DL hs hb];rfl
   ·intro hv
    obtain⟨x,hx⟩:=Option.isSome_iff_exists.1 hv
    obtain⟨b,hb,h4,_⟩:=Ln hx
    exact List.mem_map.2 ⟨b,hb,h4⟩
 rw[<-e,List.map_map]
 refine List.map_congr_left fun b hb=>?_
 show b.term=Py s b.name
 unfold Py
 rw[DL hs hb];rfl
def cN (m:A1):List V:=cM m++[.int .i64 ((cap (AV m):Nat):Int),.int .i64 ((E2 m:Nat):Int)]
def rW (m:A1):V:=.agg (cN m)
theorem tJ (t:A1):Kz (rW t)=some (cN t):=rfl
theorem AbV (t:A1):(cN t).length=6:=rfl
theorem Aex (t:A1):(cN t)[4]?=some (.int .i64 ((cap (AV t):Nat):Int)):=rfl
theorem Ae2 (t:A1):(cN t)[5]?=some (.int .i64 ((E2 t:Nat):Int)):=rfl
theorem AbA (t:A1):sub 0 6 (cN t)=cN t:=rfl
theorem yu (t:A1):sub 0 4 (cN t)=cM t:=rfl
theorem nG (t:A1):V.agg (cN t)=rW t:=rfl
theorem kW {σ:Nat->Option Nat}(t:A1):AN σ (cN t)=cN t:=rfl
theorem sC {σ:Nat->Option Nat}(t:A1):ren σ (rW t)=rW t:=by unfold rW;rw[GL,kW]
theorem Aa5 (t:A1)(a b c d e f:V):put 0 (cN t) [a,b,c,d,e,f]=cN t:=rfl
attribute [push_cast] Aa5 tJ AbV Aex Ae2 AbA yu nG sC kW
theorem im {a b:Term}(ha:a.var=false)(hb:b.var=false)(hn:a.name≠b.name):F5 a b=([],false,0):=by
 have h:AF (B3 1) [] [a] [b]=some ([],false):=by
  simp only[AF,B3,E7,ha,hb,Bool.false_eq_true,if_false]
  rw[if_pos (.inl hn)]
 unfold F5 Ka
 rw[NT h,if_pos rfl]
theorem Vg {a b:A3}{pos:List Int}{sub:Term}(h1:sub.var=false)(h2:b.left.var=false)(h3:sub.name≠b.left.name):E8 a b pos sub=(false,0):=by
 unfold E8;rw[im h1 h2 h3,if_pos rfl]
theorem dI {r:List A3}{i j:Nat}{a:A3}{pos:List Int}{sub:Term}(h:E8 a (Cn [121] (r.getD j default)) pos sub=(false,0)):Kx r i a pos sub [] j=([],0):=by
 unfold Kx
 split
 ·rfl
 ·rw[h];rfl
theorem WE {r:List A3}{i:Nat}{a:A3}{sub:Term}:Kx r i a [] sub [] i=([],0):=by
 unfold Kx
 rw[if_pos ⟨rfl,rfl⟩]
def vX8:Term:=.mk [120] true []
def tA8:Term:=.mk [97] false []
def tB8:Term:=.mk [98] false []
def Ee:List A3:=[⟨.mk [102] false [vX8],.mk [103] false [vX8,vX8]⟩,⟨tA8,tB8⟩]
def mA8:A1:=.mk 0 [97] false []
def sn:A1:=.mk 2 [] false []
def vo:A1:=.mk 1 [] false [mA8]
def vZ:A1:=.mk 0 [102] false [sn]
theorem zJ (pre:A9):∃ w,(Cn pre (Ee.getD 0 default)).left=.mk [102] false [.mk w true []]:=⟨_,rfl⟩
theorem sk (pre:A9):(Cn pre (Ee.getD 1 default)).left=.mk [97] false []:=rfl
theorem WV:List.range Ee.length=[0,1]:=rfl
theorem Aak:LJ Ee [] 0=([],0):=by
 unfold LJ
 obtain⟨w,hw⟩:=zJ [120]
 rw[hw]
 have hv:Ab (.mk [102] false [.mk w true []]) []=[([],.mk [102] false [.mk w true []]),([0],.mk w true [])]:=rfl
 rw[hv]
 have h1:Ky Ee 0 (Cn [120] (Ee.getD 0 default)) [] ([],.mk [102] false [.mk w true []])=([],0):=by
  unfold Ky
  rw[if_neg (by simp[Term.var]),WV]
  have e:Kx Ee 0 (Cn [120] (Ee.getD 0 default)) [] (.mk [102] false [.mk w true []]) [] 1=([],0):=dI (Vg rfl (by rw[sk];rfl) (by rw[sk];show ([102]:A9)≠[97];decide))
  rw[BA WE,BA e];rfl
 have h2:Ky Ee 0 (Cn [120] (Ee.getD 0 default)) [] ([0],.mk w true [])=([],0):=by
  unfold Ky
  exact if_pos rfl
 rw[BA h1,BA h2];rfl
theorem Abz:LJ Ee [] 1=([],0):=by
 unfold LJ
 rw[sk]
 have hv:Ab (.mk [97] false []) []=[([],.mk [97] false [])]:=rfl
 rw[hv]
 have h1:Ky Ee 1 (Cn [120] (Ee.getD 1 default)) [] ([],.mk [97] false [])=([],0):=by
  unfold Ky
  rw[if_neg (by simp[Term.var]),WV]
  obtain⟨w,hw⟩:=zJ [121]
  have e:Kx Ee 1 (Cn [120] (Ee.getD 1 default)) [] (.mk [97] false []) [] 0=([],0):=dI (Vg rfl (by rw[hw];rfl) (by rw[hw];show ([97]:A9)≠[102];decide))
  rw[BA e,BA WE];rfl
 rw[BA h1];rfl
theorem Ab3:O6 Ee=([],0):=by
 unfold O6
 rw[WV,BA Aak,BA Abz];rfl
theorem Ach:Ao Ee=0:=by decide +kernel
theorem eu:F6 Ee=(true,0):=by
 unfold F6
 rw[if_neg (by rw[Ach];simp),Ab3,if_neg (by simp)]
 have:(Ee.all fun x=>Pt x.left)=true:=by decide +kernel
 rw[this];rfl
theorem gT:Fy Ee=0:=by
 unfold Fy
 rw[eu];rfl
theorem kO:DG Ee:=PA eu
theorem qq:Gl Ee 0=[[120]]:=by
 unfold Gl Ec AD
 have:HV [] [(Ee.getD 0 default).left]=[[120]]:=by decide
 rw[this]
 unfold Proofs.sortS
 exact List.mergeSort_of_pairwise (by decide)
theorem tL:Gl Ee 1=[]:=by
 unfold Gl Ec AD
 have:HV [] [(Ee.getD 1 default).left]=[]:=by decide
 rw[this]
 unfold Proofs.sortS
 exact List.mergeSort_of_pairwise (by decide)
theorem sq:vo=fm Ee 0 true fun _=>mA8:=by
 show vo=ru Ee 0 _
 unfold ru;rw[qq];rfl
theorem rY:vZ=fm Ee 0 false fun _=>sn:=rfl
theorem zQ:mA8=fm Ee 1 false fun _=>zM:=rfl
theorem zB:sn=fm Ee 1 true fun _=>zM:=by
 show sn=ru Ee 1 _
 unfold ru;rw[tL];rfl
theorem yL:rest Ee mA8 sn=.mk 0 [98] false []:=by
 rw[zQ,zB,QT kO (by decide),if_pos rfl];rfl
theorem wc:rest Ee sn mA8=sn:=by
 conv=>lhs;rw[zQ,zB,QT kO (by decide),if_neg (by simp)]
 show ru Ee 1 _=_
 unfold ru;rw[tL];rfl
theorem AbY:rest Ee vo vZ=.mk 1 [] false [.mk 0 [98] false []]:=by
 rw[sq,rY,QT kO (by decide),if_neg (by simp)]
 show ru Ee 0 _=_
 unfold ru;rw[qq,List.map_singleton,yL];rfl
theorem Aat:rest Ee vZ vo=.mk 0 [103] false [sn,sn]:=by
 rw[sq,rY,QT kO (by decide),if_pos rfl,wc];rfl
theorem Zv:K7 Ee vo=0/\K7 Ee vZ=0/\Qx Ee vo=Qx Ee vZ:=by decide +kernel
theorem Adw:iN Ee vo vZ=(.mk 1 [] false [.mk 0 [98] false []],0):=by
 unfold iN Pe
 rw[gT,Zv.1,Zv.2.1,Zv.2.2,if_neg (by simp),AbY];rfl
theorem Ac5:iN Ee vZ vo=(.mk 0 [103] false [sn,sn],0):=by
 unfold iN Pe
 rw[gT,Zv.1,Zv.2.1,Zv.2.2,if_neg (by simp),Aat];rfl
theorem SF:PF KN [] (As Ee):=by
 refine Ad Sw.ok rfl ?_
 push_cast
 exact A0 (by push_cast[Sw.rs];rfl)
theorem wZ:PF Qw [] (.bool true):=by
 have h1:=Kv (r:=Ee) (a:=vo) (b:=vZ) (by decide) (by decide) (by decide)
 have h2:=Kv (r:=Ee) (a:=vZ) (b:=vo) (by decide) (by decide) (by decide)
 rw[qS,Adw]at h1
 rw[qS,Ac5]at h2
 refine Ad Uc.ok rfl ?_
 push_cast
 refine .of SF ?_
 push_cast
 refine .of h1 ?_
 push_cast
 refine .of SF ?_
 push_cast
 refine .of h2 ?_
 push_cast
 refine .of (N5 _ (by decide)) ?_
 push_cast
 refine .of (N5 _ (by decide)) ?_
 push_cast
 exact A0 (by push_cast[Uc.rs])
end Go.Dw
