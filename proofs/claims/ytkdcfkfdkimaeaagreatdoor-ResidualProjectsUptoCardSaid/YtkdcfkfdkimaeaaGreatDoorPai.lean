/-
  Contracts and lemmas for ResidualProjects: part i of 11.
-/
import Derived.WalkKit
import Derived.Laws.MathBits
import Derived.Test.YtkdcfkfdkimaeaaGreatDoorPah
import Derived.Test.YtkdcfkfdkimaeaaGreatDoorPad
import Derived.Test.YtkdcfkfdkimaeaaGreatDoorPae
import Derived.Test.YtkdcfkfdkimaeaaGreatDoorPag
import Derived.Test.YtkdcfkfdkimaeaaGreatDoorPaf
set_option linter.unusedVariables false
set_option linter.unusedSimpArgs false
set_option maxRecDepth 100000
namespace Go.Dw
theorem fI:∀ (p q:List Int)(t:Term),Dm t (p++q)=(Dm t p).bind fun u=>Dm u q
 | [],q,t=>rfl
 | i::p,q,t=>by
  simp only[List.cons_append,Dm]
  split
  ·exact fI p q _
  ·rfl
theorem Xd {σ:List A7}:∀ (p:List Int)(L y:Term),short L=true->Dm L p=some y->Dm (AC σ L) p=some (AC σ y)
 | [],L,y,_,h=>by cases h;rfl
 | i::p,L,y,hs,h=>by
  have h3:=C4.1 hs
  simp only[Dm]at h
  split at h
  ·rename_i hi
   have hk:i.toNat<L.args.length:=by omega
   have hv:L.var=false:=by
    cases hv:L.var with
    | false=>rfl
    | true=>rw[h3.2.1 hv]at hk;simp at hk
   rw[Is,hv,if_neg (by simp)]
   have hl:(L.args.map (AC σ)).length=L.args.length:=List.length_map ..
   show (if 0<=i/\i<((L.args.map (AC σ)).length:Int) then Dm ((L.args.map (AC σ)).getD i.toNat default) p else none)=_
   rw[if_pos (by omega)]
   have e:(L.args.map (AC σ)).getD i.toNat default=AC σ (L.args.getD i.toNat default):=by simp[List.getD_eq_getElem?_getD,hk]
   rw[e]
   exact Xd p _ y (h3.2.2 _ (A4 hk)) h
  ·cases h
theorem yv {t:Term}{v:A9}{p:List Int}(h:p∈Xo t v):∃ y,Dm t p=some y/\y.var=true/\y.name=v:=by
 rw[uF]at h
 obtain⟨h1,h2⟩:=List.mem_filter.1 h
 cases hs:Dm t p with
 | none=>rw[hs]at h2;cases h2
 | some y =>
  rw[hs]at h2
  simp only[Bool.and_eq_true,decide_eq_true_eq]at h2
  exact⟨y,rfl,h2.1,h2.2⟩
theorem eC {x:A2}(h:IL x):PF PP [Kn x] (Bw (AH [] x.left)):=by
 have hF:=Vr x.left [] (by have:=h.l.sz;simp;omega)
 refine Ab UA.ok rfl ?_
 push_cast
 refine .of hF ?_
 push_cast
 exact A1 (by push_cast[UA.rs])
theorem PU {l:List A9}(h:l.length<=4000)(pre:A9):(Sh l pre).length<2^62:=by
 have h1:=ge (l:=CC l) (F:=fun v=>Jf pre v 0 l) (m:=l.length) fun v=>Ta pre v l 0
 have h2:(CC l).length<=l.length:=by have:=J9 l [];simpa[CC]using this
 have h3:(CC l).length*l.length<=4000*4000:=Nat.mul_le_mul (by omega) h
 show ((CC l).flatMap fun v=>Jf pre v 0 l).length<2^62
 omega
theorem XX {t:Term}(h:C9 t):(AH [] t).length<=4000:=by have:=PC t [];have:=h.sz;simp only[List.length_nil]at *;omega
theorem Zi:∀ (t:Term),short t=true->∀ l:List A9,(∀ v∈l,v.length<=24)->∀ v∈AH l t,v.length<=24:=by
 intro t
 induction t using Ai with
 | h t ih =>
 intro ht l hl v hv
 rw[LE]at hv
 obtain⟨h1,h2,h3⟩:=C4.1 ht
 split at hv
 ·split at hv
  ·exact hl v hv
  ·rcases List.mem_append.1 hv with hv | hv
   ·exact hl v hv
   ·rw[List.mem_singleton.1 hv];exact h1
 ·have key:∀ (ar:List Term)(l:List A9),(∀ a∈ar,a∈t.args)->(∀ v∈l,v.length<=24)->∀ v∈BR l ar,v.length<=24:=by
   intro ar
   induction ar with
   | nil=>intro l _ hl;exact hl
   | cons a ar ihl =>
    intro l hsub hl
    exact ihl _ (fun b hb=>hsub b (by simp[hb])) (ih a (hsub a (by simp)) (h3 a (hsub a (by simp))) l hl)
  exact key t.args l (fun _ h=>h) hl v hv
theorem TO {t:Term}(h:short t=true):∀ v∈AH [] t,v.length<=24:=Zi t h [] (fun v hv=>by cases hv)
theorem RK {x:A2}(h:IL x){pre:A9}(hp:pre.length=1):PF JS [Kn x,.str pre] (Kn (Cn pre x)):=by
 have hN:=eC h
 have hl:=XX h.l
 have hs:=(HP x.left []).2 h.l.vf
 have hn:=TO h.l.sh
 have hR:=Qb (AH [] x.left) pre (by omega) (fun v hv=>by have:=hn v hv;omega) (by omega)
 have hA1:=Eu (Sh (AH [] x.left) pre) (PU hl pre) x.left (by have:=h.l.sz;omega)
 have hA2:=Eu (Sh (AH [] x.left) pre) (PU hl pre) x.right (by have:=h.r.sz;omega)
 rw[Us]at hA1 hA2
 refine Ab Qq.ok rfl ?_
 push_cast
 refine .of hN ?_
 push_cast
 refine .of hR ?_
 push_cast
 refine .of hA1 ?_
 push_cast
 refine .of hA2 ?_
 push_cast
 exact A1 (by push_cast[Qq.rs,Cn];rfl)
theorem gf (t:Term)(h:size t<2^62):PF Qa [An t] (.bool (BJ t)):=by
 have h1:=Sn t h
 have h2:=Qw t h
 refine Ab ND.ok rfl ?_
 push_cast
 refine .of h1 ?_
 by_cases c1:size t<=4000
 ·have i1:((size t:Int)<=4000)=True:=eq_true (by omega)
  push_cast[i1]
  refine .of h2 ?_
  by_cases c2:depth t<=200
  ·have i2:((depth t:Int)<=200)=True:=eq_true (by omega)
   push_cast[i2]
   exact A1 (by push_cast[ND.rs,BJ,c1,c2])
  ·have i2:((depth t:Int)<=200)=False:=eq_false (by omega)
   push_cast[i2]
   exact A1 (by push_cast[ND.rs,BJ,c1,c2])
 ·have i1:((size t:Int)<=4000)=False:=eq_false (by omega)
  push_cast[i1]
  exact A1 (by push_cast[ND.rs,BJ,c1])
theorem C9.arg {t a:Term}(h:C9 t)(ha:a∈t.args):C9 a:=by
 have h1:=AJ t
 have h2:=By ha
 have h3:=Fz t
 have h4:=Lu ha
 have h5:=h.sz
 have h6:=h.dp
 exact⟨(C4.1 h.sh).2.2 a ha,by omega,by omega⟩
theorem C9.sub:∀ (p:List Int) {t x:Term},C9 t->Dm t p=some x->C9 x
 | [],t,x,h,hx=>by simp only[Dm,Option.some.injEq]at hx;subst hx;exact h
 | i::p,t,x,h,hx=>by
  simp only[Dm]at hx
  split at hx
  ·rename_i hi
   exact C9.sub p (h.arg (A4 (by omega))) hx
  ·cases hx
noncomputable def ovR (a b:A2)(i j:Nat)(pos:List Int)(sub:Term):FM :=
 if (E0 a b pos sub).1 then
  let s:=(F0 sub b.left).1
  let v:=Sh (AH [] (AC s a.left)) [120]
  ⟨i,j,pos,AC v (AC s a.left),AC v (AC s a.right),AC v (J8 (AC s a.left) pos (AC s b.right))⟩
 else AdG
theorem sG {r:List A2}(hr:∀ x∈r,IL x)(hl:r.length<=64){i j:Nat}(hi:i<r.length)(hj:j<r.length){pos:List Int}(hpos:pos.length<2^20){sub:Term}(hsub:Dm (Cn [120] (r.getD i default)).left pos=some sub) :
  PF Xa [Al r,.int .i64 i,.int .i64 j,I0 pos] (.tup [bc (ovR (Cn [120] (r.getD i default)) (Cn [121] (r.getD j default)) i j pos sub),.bool (E0 (Cn [120] (r.getD i default)) (Cn [121] (r.getD j default)) pos sub).1,.int .i64 (E0 (Cn [120] (r.getD i default)) (Cn [121] (r.getD j default)) pos sub).2]):=by
 have hxi:=hr _ (A4 hi)
 have hxj:=hr _ (A4 hj)
 have hA:=RK hxi (pre:=[120]) rfl
 have hB:=RK hxj (pre:=[121]) rfl
 have ha:=Ly (pre:=[120]) rfl hxi
 have hb:=Ly (pre:=[121]) rfl hxj
 generalize Cn [120] (r.getD i default)=a at *
 generalize Cn [121] (r.getD j default)=b at *
 have hAt:=dX a.left pos (by omega) (by have:=ha.l.sz;omega)
 rw[hsub]at hAt
 have hgs:C9 sub:=C9.sub pos ha.l hsub
 have hU:=Xh hgs hb.l
 have hE:=RW sub b.left
 have hO:=ec hgs hb.l
 unfold ovR E0
 generalize hu:F0 sub b.left=u at hU hE hO
 obtain⟨s,ok,e⟩:=u
 simp only at hE hO
 refine Ab On.ok rfl ?_
 push_cast[BC hi,BC hj]
 refine .of hA ?_
 push_cast[BC hi,BC hj]
 refine .of hB ?_
 push_cast
 refine⟨?_,?_⟩
 all_goals
  refine .of hAt ?_
  push_cast[VD]
  refine .of hU ?_
  cases ok with
  | false =>
   simp only[if_true,Bool.false_eq_true,if_false]
   rcases hE with rfl | ⟨rfl,_⟩
   ·push_cast[Jl]
    exact A1 (by push_cast[On.rs];rfl)
   ·push_cast[Jl]
    exact A1 (by push_cast[On.rs];rfl)
  | true =>
   obtain⟨hs,rfl,_⟩:=hO rfl
   have hsl:=hs.len
   have hF1:=PS s (by omega) hs.bb a.left (by have:=ha.l.tb;omega)
   have hF2:=PS s (by omega) hs.bb a.right (by have:=ha.r.tb;omega)
   have hF3:=PS s (by omega) hs.bb b.right (by have:=hb.r.tb;omega)
   have hP1:=Eu s (by omega) a.left (by have:=ha.l.sz;omega)
   have hP2:=Eu s (by omega) a.right (by have:=ha.r.sz;omega)
   have hP3:=Eu s (by omega) b.right (by have:=hb.r.sz;omega)
   have hss:∀ x∈s,short x.term=true:=fun x hx=>(hs.sh x hx).1
   have hsb:=Xd (σ:=s) pos a.left sub ha.l.sh hsub
   have hshp:=ir hss a.left ha.l.sh
   simp only[Bool.true_eq_false,if_false]
   clear hU hE hO hu
   cases f1:BJ (AC s a.left)with
   | false =>
    rw[f1]at hF1
    simp only[Bool.false_and,if_true,Bool.false_eq_true,if_false]
    push_cast[Jl]
    refine .of hF1 ?_
    push_cast
    exact A1 (by push_cast[On.rs];rfl)
   | true =>
    rw[f1]at hF1
    cases f2:BJ (AC s a.right)with
    | false =>
     rw[f2]at hF2
     simp only[Bool.false_and,Bool.and_false,if_true,Bool.false_eq_true,if_false]
     push_cast[Jl]
     refine .of hF1 ?_
     push_cast
     refine .of hF2 ?_
     push_cast
     exact A1 (by push_cast[On.rs];rfl)
    | true =>
     rw[f2]at hF2
     cases f3:BJ (AC s b.right)with
     | false =>
      rw[f3]at hF3
      simp only[Bool.and_false,if_true,Bool.false_eq_true,if_false]
      push_cast[Jl]
      refine .of hF1 ?_
      push_cast
      refine .of hF2 ?_
      push_cast
      refine .of hF3 ?_
      push_cast
      exact A1 (by push_cast[On.rs];rfl)
     | true =>
      rw[f3]at hF3
      have z1:size (AC s a.left)<=4000:=by unfold BJ at f1;simp at f1;exact f1.1
      have z2:size (AC s a.right)<=4000:=by unfold BJ at f2;simp at f2;exact f2.1
      have z3:size (AC s b.right)<=4000:=by unfold BJ at f3;simp at f3;exact f3.1
      have hPut:=nD pos (AC s a.left) (AC s b.right) (AC s sub) hshp hsb (by omega) (by omega)
      have z4:=UY pos (AC s a.left) (AC s b.right)
      have hSm:=gf (J8 (AC s a.left) pos (AC s b.right)) (by omega)
      simp only[Bool.and_self,Bool.true_eq_false,if_false]
      push_cast[Jl]
      refine .of hF1 ?_
      push_cast
      refine .of hF2 ?_
      push_cast
      refine .of hF3 ?_
      push_cast
      refine .of hP1 ?_
      push_cast
      refine .of hP3 ?_
      push_cast
      refine .of hPut ?_
      push_cast
      refine .of hSm ?_
      cases f4:BJ (J8 (AC s a.left) pos (AC s b.right))with
      | false =>
       push_cast
       exact A1 (by push_cast[On.rs];rfl)
      | true =>
       have hgp:C9 (AC s a.left):=⟨hshp,z1,by unfold BJ at f1;simp at f1;exact f1.2⟩
       have hl4:=XX hgp
       have hFi:=Vr (AC s a.left) [] (by simp;omega)
       have hRe:=Qb (AH [] (AC s a.left)) [120] (by omega) (fun v hv=>by
        have:=TO hgp.sh v hv;omega) (by simp)
       have hQ1:=Eu (Sh (AH [] (AC s a.left)) [120]) (PU hl4 _) (AC s a.left) (by omega)
       have hQ2:=Eu (Sh (AH [] (AC s a.left)) [120]) (PU hl4 _) (AC s a.right) (by omega)
       have hQ3:=Eu (Sh (AH [] (AC s a.left)) [120]) (PU hl4 _) (J8 (AC s a.left) pos (AC s b.right)) (by omega)
       push_cast
       refine .of hFi ?_
       push_cast
       refine .of hRe ?_
       push_cast
       refine .of hQ1 ?_
       push_cast
       refine .of hP2 ?_
       push_cast
       refine .of hQ2 ?_
       push_cast
       refine .of hQ3 ?_
       push_cast
       exact A1 (by push_cast[On.rs];rfl)
def BH {α:Type}(F:List FM->α->List FM×Int):List FM->List α->List FM×Int
 | out,[]=>(out,0)
 | out,x::l=>if (F out x).2≠0 then ([],(F out x).2) else BH F (F out x).1 l
theorem BE {α:Type}{F:List FM->α->List FM×Int}{out o:List FM}{x:α}{l:List α}(h:F out x=(o,0)):BH F out (x::l)=BH F o l:=by simp[BH,h]
theorem FS {α:Type}{F:List FM->α->List FM×Int}{out:List FM}{x:α}{l:List α}{o:List FM}{e:Int}(h:F out x=(o,e))(he:e≠0):BH F out (x::l)=([],e):=by simp[BH,h,he]
noncomputable def KK (r:List A2)(i:Nat)(a:A2)(pos:List Int)(sub:Term)(out:List FM)(j:Nat):List FM×Int :=
 if i=j/\pos=[] then (out,0)
 else if (E0 a (Cn [121] (r.getD j default)) pos sub).2≠0 then ([],(E0 a (Cn [121] (r.getD j default)) pos sub).2)
 else if (E0 a (Cn [121] (r.getD j default)) pos sub).1 then
  (if 4096<out.length+1 then ([],3) else (out++[{ ovO a (Cn [121] (r.getD j default)) pos sub with outer:=i,inner:=j }],0))
 else (if 4096<out.length then ([],3) else (out,0))
noncomputable def KH (r:List A2)(i:Nat)(a:A2)(out:List FM)(x:List Int×Term):List FM×Int :=
 if x.2.var then (out,0) else BH (KK r i a x.1 x.2) out (List.range r.length)
noncomputable def Mq (r:List A2)(out:List FM)(i:Nat):List FM×Int :=
 BH (KH r i (Cn [120] (r.getD i default))) out (Aq (Cn [120] (r.getD i default)).left [])
noncomputable def OB (r:List A2):List FM×Int:=BH (Mq r) [] (List.range r.length)
abbrev oH1 (out:List FM)(o:V)(e:Int):List Ob:=[.cells Fj [o],.cells WH [.int .i64 e],.cells Fj [Bf Wt 3 12 out],.arr DY 12 out.length]
abbrev px (out:List FM)(o:V)(e:Int)(a:A2)(nm:NM):List Ob:=oH1 out o e++[.dead,.cells BY (cR a),.map (Bs V.str nm),.cells Bi [.map 6]]
theorem yB (o:FM):(Wt o).length=12:=rfl
theorem vJ (o:FM):sub 0 12 (Wt o)=Wt o:=rfl
theorem mS (o:FM):KL (bc o)=some (Wt o):=rfl
theorem ka (o:FM):V.agg (Wt o)=bc o:=rfl
theorem tu {σ:Nat->Option Nat}(o:FM):AS σ (Wt o)=Wt o:=rfl
theorem vg (o:FM)(i:Int):put 0 [V.int .i64 i] (Wt o)=Wt { o with outer:=i }:=rfl
theorem qS (o:FM)(i:Int):put 1 [V.int .i64 i] (Wt o)=Wt { o with inner:=i }:=rfl
theorem sm (o:FM):put 0 (Wt o) [.int .i64 0,.int .i64 0,.sl 1 [],.str [],.bool false,.sl 3 [],.str [],.bool false,.sl 3 [],.str [],.bool false,.sl 3 []]=Wt o:=rfl
attribute [push_cast] vg qS sm
attribute [push_cast] yB vJ mS ka tu mY
theorem ZU (a b:A2)(pos:List Int)(sub:Term):(E0 a b pos sub).2≠0->(E0 a b pos sub).1=false/\(E0 a b pos sub).2=3:=by
 intro h
 have hE:=RW sub b.left
 unfold E0 at h ⊢
 split at h
 ·rename_i c
  rw[if_pos c]
  rcases hE with e | ⟨e,_⟩
  ·exact absurd e h
  ·exact⟨rfl,e⟩
 ·rename_i c
  rw[if_neg c]
  split at h
  ·rename_i c2
   rw[if_pos c2];exact⟨rfl,rfl⟩
  ·rename_i c2
   rw[if_neg c2]
   split at h
   ·rename_i c3
    rw[if_pos c3];exact⟨rfl,rfl⟩
   ·exact absurd rfl h
theorem ng {r:List A2}(hr:∀ x∈r,IL x)(hrl:r.length<=64){i:Nat}(hi:i<r.length){a:A2}(ha:IL a){pos:List Int}(hpos:pos.length<2^20){sub:Term}(hs:C9 sub){nm:NM}
  {Q:X->T->List Ob->Prop} (L:Ob) (hL:A6 (AM 10) L=L) (S:List FM×Int)
  (out0:List FM) (h0:out0.length<=4096) (hS:BH (KK r i a pos sub) out0 (List.range r.length)=S)
  (kOk:∀ out,S=(out,0)->out.length<=4096->∀ T,Q .fall T (px out (.sl 12 []) 0 a nm++[L,.dead]))
  (kBad:∀ out e,S.2=e->e≠0->∀ T J,Q .ret T (px out (.sl 12 []) e a nm++(L::J))) :
  Cv.L7 (.ptr 0 0) (.ptr 1 0) (.ptr 2 0) (.ro [.int .i64 i] 0) (.ptr 5 0) (I0 pos) (.ro (cT sub) 0) (Al r) (.int .i64 r.length) (.int .i64 0) 9 (px out0 (.sl 12 []) 0 a nm++[L,.dead]) Q:=by
 refine Ac (n:=r.length) (R:=fun j=>∀ out:List FM,out.length<=4096->BH (KK r i a pos sub) out ((List.range r.length).drop j)=S->Cv.L7 (.ptr 0 0) (.ptr 1 0) (.ptr 2 0) (.ro [.int .i64 i] 0) (.ptr 5 0) (I0 pos) (.ro (cT sub) 0) (Al r) (.int .i64 r.length) (.int .i64 j) 9 (px out (.sl 12 []) 0 a nm++[L,.dead]) Q) ?_ ?_ 0 (by omega) out0 h0 hS
 ·intro j hj ih out hol he
  have hx:=hr _ (A4 hj)
  have hjr:j<(List.range r.length).length:=by simpa using hj
  have hgj:(List.range r.length).getD j default=j:=by simp[List.getD_eq_getElem?_getD,hj]
  rw[Ag hjr,hgj]at he
  have hI:=Wf (r.getD j default) (by have:=hx.l.sz;have:=hx.r.sz;omega)
  rw[bD (pre:=[121]) (by simp) hx.l.vf hx.r.vf hx.v]at hI
  have hb:=Ly (pre:=[121]) rfl hx
  have hO:=Zu ha hb hpos hs
  have hErr:=ZU a (Cn [121] (r.getD j default)) pos sub
  have hst:KK r i a pos sub out j=KK r i a pos sub out j:=rfl
  conv at hst=>rhs;unfold KK
  have hl9:∀ k:Nat,AM 9 k=if k<9 then some k else none:=fun _=>rfl
  refine A5.2 ?_
  by_cases hc:i=j/\pos=[]
  ·rw[if_pos hc]at hst
   rw[BE hst]at he
   have:=ih out hol he
   obtain⟨c1,c2⟩:=hc
   have i1:((i:Int)=(j:Int))=True:=eq_true (by omega)
   have i2:((pos.length:Int)=0)=True:=eq_true (by rw[c2];rfl)
   push_cast[BC hj,hL,i1,i2,CD (show j<2^62 by omega)]
   push_cast at this
   exact this
  ·rw[if_neg hc]at hst
   have go:∀ T:T,True:=fun _=>trivial
   generalize Cn [121] (r.getD j default)=b at hI hb hO hErr hst
   generalize hoo:ovO a b pos sub=o at hO hst
   generalize hov:E0 a b pos sub=v at hO hErr hst
   obtain⟨ok,e⟩:=v
   simp only at hErr hst
   by_cases hi1:i=j
   ·have hp:pos≠[]:=fun h=>hc ⟨hi1,h⟩
    have i1:((i:Int)=(j:Int))=True:=eq_true (by omega)
    have i2:((pos.length:Int)=0)=False:=eq_false (by have:=List.length_pos_iff.2 hp;omega)
    push_cast[BC hj,i1,i2]
    refine .of hI ?_
    push_cast
    refine .of hO ?_
    have hroom:(out.length+1)*184<=Ah:=by unfold Ah;omega
    by_cases he0:e=0
    ·subst he0
     rw[if_neg (by simp)]at hst
     cases ok with
     | true =>
      rw[if_pos rfl]at hst
      by_cases h4:4096<out.length+1
      ·rw[if_pos h4]at hst
       rw[FS hst (by omega)]at he
       have i4:((4096:Int)<(out.length:Int)+1)=True:=eq_true (by omega)
       push_cast[hroom,i4,List.length_append,List.length_singleton]
       have hl3:out.length+1=(out++[({ o with outer:=(i:Int),inner:=(j:Int) }:FM)]).length:=by simp
       rw[hl3]
       exact kBad (out++[_]) 3 (by rw[<-he]) (by omega) _ _
      ·rw[if_neg h4]at hst
       rw[BE hst]at he
       have i4:((4096:Int)<(out.length:Int)+1)=False:=eq_false (by omega)
       have:=ih _ (by simp;omega) he
       push_cast[hroom,i4,hL,List.length_append,List.length_singleton,CD (show j<2^62 by omega)]
       push_cast[List.length_append,List.length_singleton]at this
       exact this
     | false =>
      rw[if_neg (by simp),if_neg (by omega)]at hst
      rw[BE hst]at he
      have i4:((4096:Int)<(out.length:Int))=False:=eq_false (by omega)
      have:=ih _ hol he
      push_cast[i4,hL,CD (show j<2^62 by omega)]
      push_cast at this
      exact this
    ·rw[if_pos he0]at hst
     rw[FS hst he0]at he
     have i3:(e=0)=False:=eq_false he0
     push_cast[i3]
     exact kBad out e (by rw[<-he]) he0 _ _
   ·have i1:((i:Int)=(j:Int))=False:=eq_false (by omega)
    push_cast[BC hj,i1]
    refine .of hI ?_
    push_cast
    refine .of hO ?_
    have hroom:(out.length+1)*184<=Ah:=by unfold Ah;omega
    by_cases he0:e=0
    ·subst he0
     rw[if_neg (by simp)]at hst
     cases ok with
     | true =>
      rw[if_pos rfl]at hst
      by_cases h4:4096<out.length+1
      ·rw[if_pos h4]at hst
       rw[FS hst (by omega)]at he
       have i4:((4096:Int)<(out.length:Int)+1)=True:=eq_true (by omega)
       push_cast[hroom,i4,List.length_append,List.length_singleton]
       have hl3:out.length+1=(out++[({ o with outer:=(i:Int),inner:=(j:Int) }:FM)]).length:=by simp
       rw[hl3]
       exact kBad (out++[_]) 3 (by rw[<-he]) (by omega) _ _
      ·rw[if_neg h4]at hst
       rw[BE hst]at he
       have i4:((4096:Int)<(out.length:Int)+1)=False:=eq_false (by omega)
       have:=ih _ (by simp;omega) he
       push_cast[hroom,i4,hL,List.length_append,List.length_singleton,CD (show j<2^62 by omega)]
       push_cast[List.length_append,List.length_singleton]at this
       exact this
     | false =>
      rw[if_neg (by simp),if_neg (by omega)]at hst
      rw[BE hst]at he
      have i4:((4096:Int)<(out.length:Int))=False:=eq_false (by omega)
      have:=ih _ hol he
      push_cast[i4,hL,CD (show j<2^62 by omega)]
      push_cast at this
      exact this
    ·rw[if_pos he0]at hst
     rw[FS hst he0]at he
     have i3:(e=0)=False:=eq_false he0
     push_cast[i3]
     exact kBad out e (by rw[<-he]) he0 _ _
 ·intro out hol he
  have e1:(List.range r.length).drop r.length=[]:=by rw[List.drop_eq_nil_of_le];simp
  rw[e1]at he
  simp only[BH]at he
  refine A5.2 ?_
  push_cast[AZ (Nat.le_refl _)]
  have:=kOk out he.symm hol
  exact this _
theorem lf (out:List FM)(e:Int)(a:A2)(nm:NM):Je 8 (px out (.sl 12 []) e a nm):=⟨rfl,by
 show [A6 (AM 8) (.cells Fj [.sl 12 []]),A6 (AM 8) (.cells WH [.int .i64 e]),A6 (AM 8) (.cells Fj [Bf Wt 3 12 out]),A6 (AM 8) (.arr DY 12 out.length),A6 (AM 8) .dead,A6 (AM 8) (.cells BY (cR a)),A6 (AM 8) (.map (Bs V.str nm)),A6 (AM 8) (.cells Bi [.map 6])]=_
 have h3:AM 8 3=some 3:=rfl
 have h6:AM 8 6=some 6:=rfl
 push_cast[h3,h6]⟩
theorem iM (out:List FM)(e:Int)(a:A2)(nm:NM)(J:List Ob):cut 8 (px out (.sl 12 []) e a nm++J)=px out (.sl 12 []) e a nm:=by
 show [A6 (AM 9) (.cells Fj [.sl 12 []]),A6 (AM 9) (.cells WH [.int .i64 e]),A6 (AM 9) (.cells Fj [Bf Wt 3 12 out]),A6 (AM 9) (.arr DY 12 out.length),A6 (AM 9) .dead,A6 (AM 9) (.cells BY (cR a)),A6 (AM 9) (.map (Bs V.str nm)),A6 (AM 9) (.cells Bi [.map 6])]=_
 have h3:AM 9 3=some 3:=rfl
 have h6:AM 9 6=some 6:=rfl
 push_cast[h3,h6]
theorem YJ {t:Term}(ht:C9 t){x:List Int×Term}(hx:x∈Aq t []):C9 x.2/\x.1.length<2^20/\Dm t x.1=some x.2:=by
 have h1:=Qy t [] x hx
 obtain⟨p,hp,h2⟩:=h1
 rw[List.nil_append]at hp
 rw[<-hp]at h2
 have h3:=(R7 t [] x hx).2
 have:=ht.sz
 exact⟨C9.sub _ ht h2,by simp only[List.length_nil]at h3;omega,h2⟩
theorem Abf {r:List A2}(hr:∀ x∈r,IL x)(hrl:r.length<=64){i:Nat}(hi:i<r.length){a:A2}(ha:IL a){nm:NM}(S:List FM×Int)(out0:List FM)(h0:out0.length<=4096)
  (hS:BH (KH r i a) out0 (Aq a.left [])=S) (T:T) (Ks:List K) {Q:X->Dw.T->List Ob->Prop}
  (t34:lk T 34=.fn (.func Dh) [] [.ro (cT a.left) 0]) (t1:lk T 1=.ro [Al r] 0) (t2:lk T 2=.ptr 0 0) (t3:lk T 3=.ptr 1 0) (t4:lk T 4=.ptr 2 0) (t5:lk T 5=.ro [.int .i64 i] 0) (t6:lk T 6=.ptr 5 0)
  (hT8:(T.map fun p=>(p.1,ren (AM 8) p.2))=T) (hT10:(T.map fun p=>(p.1,ren (AM 10) p.2))=T)
  (kOk:∀ out,S=(out,0)->out.length<=4096->Ax prog Cv.nd 0 Ks T (px out (.sl 12 []) 0 a nm++[.dead]) Q)
  (kBad:∀ out e,S.2=e->e≠0->Ax prog Cv.nd 0 (.c (eM .ret)::Ks) T (px out (.sl 12 []) e a nm++[.dead]) Q) :
  Ax prog Cv.nd 0 (.c (.rf (.s 34) [35,36] (.seq (.reg [.mv 8 (.s 35)]) (.reg [.al 9 A3 [.str [],.bool false,.sl 3 []],.sf 9 3 (.s 36)])) (.m 9))::Ks) T (px out0 (.sl 12 []) 0 a nm) Q:=by
 refine Ax.rf Dh [] [.ro (cT a.left) 0] ((Aq a.left []).map KI) (fun j H1=>∃ out,H1=px out (.sl 12 []) 0 a nm/\out.length<=4096/\BH (KH r i a) out ((Aq a.left []).drop j)=S) (fun e H1=>e=.ret/\∃ out e',S.2=e'/\e'≠0/\H1=px out (.sl 12 []) e' a nm) t34 (IC a.left (by have:=ha.l.sz;omega)) ?_ ⟨out0,rfl,h0,hS⟩ hT8 ?_ ?_ ?_ ?_ ?_
 ·intro it hit
  obtain⟨x,_,rfl⟩:=List.mem_map.1 hit
  rfl
 ·rintro j H1 ⟨out,rfl,_⟩
  exact lf out 0 a nm
 ·rintro e H1 ⟨_,out,e',_,_,rfl⟩
  exact lf out e' a nm
 ·rintro lo rr j it H1 hit ⟨out,rfl,hol,hq⟩
  rw[List.getElem?_map]at hit
  cases hx:(Aq a.left [])[j]? with
  | none=>rw[hx]at hit;cases hit
  | some x =>
  rw[hx]at hit
  have hit:it=KI x:=by simpa using hit.symm
  subst hit
  have hj:j<(Aq a.left []).length:=(List.getElem?_eq_some_iff.1 hx).1
  have hxj:(Aq a.left []).getD j default=x:=by rw[List.getD_eq_getElem?_getD,hx];rfl
  have hxm:x∈Aq a.left []:=hxj▸A4 hj
  obtain⟨hg,hpl,hsb⟩:=YJ ha.l hxm
  rw[Ag hj,hxj]at hq
  have hL:A6 (AM 10) (.lp lo .busy rr T)=.lp lo .busy rr T:=by push_cast[hT10]
  have hst:KH r i a out x=KH r i a out x:=rfl
  conv at hst=>rhs;unfold KH
  push_cast[Q5,KI]
  refine A5.2 ?_
  cases hv:x.2.var with
  | true =>
   rw[hv,if_pos rfl]at hst
   rw[BE hst]at hq
   push_cast[hv,t1,t2,t3,t4,t5,t6]
   exact⟨rfl,out,iM out 0 a nm [.lp lo .busy rr T,.dead],hol,hq⟩
  | false =>
   rw[hv,if_neg (by simp)]at hst
   push_cast[hv,t1,t2,t3,t4,t5,t6,hT10]
   refine ng hr hrl hi ha hpl hg (.lp lo .busy rr T) hL _ out hol rfl ?_ ?_
   ·intro out' h1 h2 T'
    rw[h1]at hst
    rw[BE hst]at hq
    exact⟨rfl,out',iM out' 0 a nm [.lp lo .busy rr T,.dead],h2,hq⟩
   ·intro out' e' h1 h2 T' J
    generalize BH (KK r i a x.1 x.2) out (List.range r.length)=S2 at hst h1
    obtain⟨o2,e2⟩:=S2
    have h1:e2=e':=h1
    subst h1
    rw[FS hst h2]at hq
    exact⟨rfl,rfl,out',e2,by rw[<-hq],h2,iM out' e2 a nm (.lp lo .busy rr T::J)⟩
 ·rintro H1 ⟨out,rfl,hol,hq⟩
  rw[List.length_map,Ak]at hq
  exact kOk out hq.symm hol
 ·rintro e H1 ⟨rfl,out,e',h1,h2,rfl⟩
  exact kBad out e' h1 h2
abbrev Nr (l:List FM):V:=DT Wt 12 l
abbrev p6 (out:List FM)(x:A2):List Ob:=oH1 out (.sl 12 []) 0++[.dead,.cells BY (cR x)]
theorem ed (z:Term):AS (Az [6,7]) [An z,V.ptr 7 0]=[An z,V.ptr 1 0]:=by
 have q5:Az [6,7] 7=some 1:=rfl
 push_cast[q5]
theorem Zc {r:List A2}(hr:∀ x∈r,IL x)(hrl:r.length<=64):PF Nt [Al r] (.tup [Nr (OB r).1,.int .i64 (OB r).2]):=by
 refine Ab Cv.ok rfl ?_
 push_cast
 refine Ac (n:=r.length) (R:=fun k=>∀ (out:List FM),out.length<=4096->BH (Mq r) out ((List.range r.length).drop k)=OB r->Cv.L11 (.ro [Al r] 0) (.ptr 0 0) (.ptr 1 0) (.ptr 2 0) .any .any (Al r) (.int .i64 r.length) (.int .i64 k) 0 (oH1 out (.sl 12 []) 0) (Bo 0 Cv.rs fun x' H'=>x'=.tup [Nr (OB r).1,.int .i64 (OB r).2]/\H'=[])) ?_ ?_ 0 (by omega) [] (by simp) rfl
 ·intro k hk ih out hol he
  have hx:=hr _ (A4 hk)
  have hkr:k<(List.range r.length).length:=by simpa using hk
  have hgk:(List.range r.length).getD k default=k:=by simp[List.getD_eq_getElem?_getD,hk]
  rw[Ag hkr,hgk]at he
  have hst:Mq r out k=Mq r out k:=rfl
  conv at hst=>rhs;unfold Mq
  have hRR:=bD (pre:=[120]) (by simp) hx.l.vf hx.r.vf hx.v
  have hg:=Ly (pre:=[120]) rfl hx
  generalize hxx:r.getD k default=x at hx hRR hg hst
  have hN1:=Er [] x.left (by have:=hx.l.sz;simp;omega)
  have hN2:=Er (Hy [120] [] x.left).1 x.right (by have:=NL [120] x.left [];have:=hx.l.sz;have:=hx.r.sz;simp only[List.length_nil]at *;omega)
  unfold tY at hRR
  generalize Hy [120] [] x.left=u at hN1 hN2 hRR
  generalize Hy [120] u.1 x.right=w at hN2 hRR
  have hcR:cR ⟨u.2,w.2⟩=cR (Cn [120] x):=by rw[hRR]
  generalize Cn [120] x=a at hcR hg hst
  have hW:=MW a.left
  refine A5.2 ?_
  simp only[Cv.nd]
  generalize hC:C.n 10=c10
  push_cast[BC hk]
  subst hC
  rw[tC]
  simp only[Cv.nd]
  generalize hR:C.rf (O.s 34) [35,36] ((C.reg [S.mv 8 (O.s 35)]).seq (C.reg [S.al 9 A3 [V.str [],V.bool false,V.sl 3 []],S.sf 9 3 (O.s 36)])) (C.m 9)=cRf
  have hz:∀ x:A2,put 0 (cR x) [V.str [],V.bool false,V.sl 3 [],V.str [],V.bool false,V.sl 3 []]=cR x:=fun _=>rfl
  have hz2:∀ y:A2,put 0 (cT u.2++cT w.2) (cR y)=cR a:=fun _=>by rw[<-hcR];rfl
  push_cast[BC hk,hxx]
  refine ZL _ ?_
  push_cast[hz]
  refine⟨?_,?_,?_⟩
  all_goals
   refine FP (p6 out x) [] (ed x.left) (Bj▸hN1) ?_
   push_cast[hz]
   refine FP (p6 out x) [] (ed x.right) (Bj▸hN2) ?_
   push_cast[hz,hz2]
   refine .of hW ?_
   push_cast
   subst hR
   refine Abf hr hrl hk hg (nm:=w.1) _ out hol rfl _ _ rfl rfl rfl rfl rfl rfl rfl (by push_cast;rfl) (by push_cast;rfl) ?_ ?_
   ·intro out' h1 h2
    rw[h1]at hst
    rw[BE hst]at he
    have this:=ih out' h2 he
    push_cast[CD (show k<2^62 by omega)]
    push_cast at this
    exact this
   ·intro out' e' h1 h2
    generalize BH (KH r k a) out (Aq a.left [])=S2 at hst h1
    obtain⟨o2,e2⟩:=S2
    have h1:e2=e':=h1
    subst h1
    rw[FS hst h2]at he
    rw[<-he]
    push_cast[eM]
    exact A1 (by push_cast[Cv.rs];rfl)
 ·intro out hol he
  have e1:(List.range r.length).drop r.length=[]:=by rw[List.drop_eq_nil_of_le];simp
  rw[e1]at he
  simp only[BH]at he
  refine A5.2 ?_
  push_cast[AZ (Nat.le_refl _)]
  rw[<-he]
  exact A1 (by push_cast[Cv.rs])
noncomputable def I1 (r:List A2)(i:Nat)(p:List Int)(x:Term)(out:List FM)(j:Nat):List FM×Int :=
 if x.var=true\/(i=j/\p=[]) then (out,0)
 else if (E0 (Cn [120] (r.getD i default)) (Cn [121] (r.getD j default)) p (app (NK [120] (AH [] (r.getD i default).left)) x)).2≠0 then ([],(E0 (Cn [120] (r.getD i default)) (Cn [121] (r.getD j default)) p (app (NK [120] (AH [] (r.getD i default).left)) x)).2)
 else if (E0 (Cn [120] (r.getD i default)) (Cn [121] (r.getD j default)) p (app (NK [120] (AH [] (r.getD i default).left)) x)).1 then (out++[ovR (Cn [120] (r.getD i default)) (Cn [121] (r.getD j default)) i j p (app (NK [120] (AH [] (r.getD i default).left)) x)],0)
 else (out,0)
noncomputable def QF (r:List A2)(i:Nat)(out:List FM)(x:List Int×Term):List FM×Int:=BH (I1 r i x.1 x.2) out (List.range r.length)
noncomputable def J7 (r:List A2)(out:List FM)(i:Nat):List FM×Int:=BH (QF r i) out (Aq (r.getD i default).left [])
noncomputable def Po (r:List A2):List FM×Int :=
 if (BH (J7 r) [] (List.range r.length)).2≠0 then ([],(BH (J7 r) [] (List.range r.length)).2)
 else if 4096<(BH (J7 r) [] (List.range r.length)).1.length then ([],3) else ((BH (J7 r) [] (List.range r.length)).1,0)
abbrev lH (out:List FM):Ob:=.arr DY 12 out.length
theorem kY {x:A2}(hx:IL x){p:List Int}{y:Term}(h:Dm x.left p=some y):Dm (Cn [120] x).left p=some (app (NK [120] (AH [] x.left)) y):=by
 have h1:=Xd (σ:=Sh (AH [] x.left) [120]) p x.left y hx.l.sh h
 rw[Us,Us]at h1
 exact h1
theorem jY {r:List A2}(hr:∀ x∈r,IL x)(hrl:r.length<=64){i:Nat}(hi:i<r.length){p:List Int}(hp:p.length<2^20){x:Term}(hsx:Dm (r.getD i default).left p=some x){P:List (List Int)}{k:Nat}(hk:k<2^40){R:V}
  (S:List FM×Int) (out0:List FM) (m:Nat) (h0:out0.length<=m) (hm:m<2^30) (hS:BH (I1 r i p x) out0 (List.range r.length)=S)
  (kOk:∀ out,S=(out,0)->out.length<=m+64->D6.L10 (Al r) (Bf Wt 0 12 out) (.int .i64 i) (.int .i64 r.length) (.int .i64 i) (Tw P) (.int .i64 P.length) (.int .i64 (k+1:Nat)) 0 [lH out] (Bo 0 D6.rs fun x' H'=>x'=R/\H'=[]))
  (kBad:∀ e,S.2=e->e≠0->R=.tup [Nr [],.int .i64 e]) :
  D6.L8 (Al r) (Bf Wt 0 12 out0) (.int .i64 i) (I0 p) (.ro (cT x) 0) (.int .i64 r.length) (.int .i64 i) (Tw P) (.int .i64 P.length) (.int .i64 k) (.int .i64 r.length) (.int .i64 0) 0 [lH out0,.dead] (Bo 0 D6.rs fun x' H'=>x'=R/\H'=[]):=by
 refine Ac (n:=r.length) (R:=fun j=>∀ out:List FM,out.length<=m+j->BH (I1 r i p x) out ((List.range r.length).drop j)=S->D6.L8 (Al r) (Bf Wt 0 12 out) (.int .i64 i) (I0 p) (.ro (cT x) 0) (.int .i64 r.length) (.int .i64 i) (Tw P) (.int .i64 P.length) (.int .i64 k) (.int .i64 r.length) (.int .i64 j) 0 [lH out,.dead] (Bo 0 D6.rs fun x' H'=>x'=R/\H'=[])) ?_ ?_ 0 (by omega) out0 (by omega) hS
 ·intro j hj ih out hol he
  have hjr:j<(List.range r.length).length:=by simpa using hj
  have hgj:(List.range r.length).getD j default=j:=by simp[List.getD_eq_getElem?_getD,hj]
  rw[Ag hjr,hgj]at he
  have hO:=sG hr hrl hi hj hp (kY (hr _ (A4 hi)) hsx)
  have hst:I1 r i p x out j=I1 r i p x out j:=rfl
  conv at hst=>rhs;unfold I1
  generalize hov:E0 (Cn [120] (r.getD i default)) (Cn [121] (r.getD j default)) p (app (NK [120] (AH [] (r.getD i default).left)) x)=v at hO hst
  generalize ovR (Cn [120] (r.getD i default)) (Cn [121] (r.getD j default)) i j p (app (NK [120] (AH [] (r.getD i default).left)) x)=o at hO hst
  obtain⟨ok,e⟩:=v
  simp only at hst
  refine A5.2 ?_
  cases hv:x.var with
  | true =>
   rw[hv,if_pos (.inl rfl)]at hst
   rw[BE hst]at he
   have this:=ih out (by omega) he
   push_cast[BC hj,hv,CD (show j<2^62 by omega)]
   push_cast at this
   exact this
  | false =>
   by_cases hc:i=j/\p=[]
   ·rw[if_pos (.inr hc)]at hst
    rw[BE hst]at he
    have this:=ih out (by omega) he
    obtain⟨c1,c2⟩:=hc
    have i1:((i:Int)=(j:Int))=True:=eq_true (by omega)
    have i2:((p.length:Int)=0)=True:=eq_true (by rw[c2];rfl)
    push_cast[BC hj,hv,i1,i2,CD (show j<2^62 by omega)]
    push_cast at this
    exact this
   ·rw[if_neg (by rw[hv];simp only[Bool.false_eq_true,false_or];exact hc)]at hst
    have hroom:(out.length+1)*184<=Ah:=by unfold Ah;omega
    by_cases hi1:i=j
    ·have hpn:p≠[]:=fun h=>hc ⟨hi1,h⟩
     have i1:((i:Int)=(j:Int))=True:=eq_true (by omega)
     have i2:((p.length:Int)=0)=False:=eq_false (by have:=List.length_pos_iff.2 hpn;omega)
     push_cast[BC hj,hv,i1,i2]
     refine .of hO ?_
     by_cases he0:e=0
     ·subst he0
      rw[if_neg (by simp)]at hst
      cases ok with
      | true =>
       rw[if_pos rfl]at hst
       rw[BE hst]at he
       have this:=ih _ (by simp;omega) he
       push_cast[hroom,CD (show j<2^62 by omega)]
       have hl3:out.length+1=(out++[o]).length:=by simp
       rw[hl3]
       push_cast at this
       exact this
      | false =>
       rw[if_neg (by simp)]at hst
       rw[BE hst]at he
       have this:=ih _ (by omega) he
       push_cast[CD (show j<2^62 by omega)]
       push_cast at this
       exact this
     ·rw[if_pos he0]at hst
      rw[FS hst he0]at he
      have i3:(e=0)=False:=eq_false he0
      push_cast[i3]
      rw[kBad e (by rw[<-he]) he0]
      exact A1 (by push_cast[D6.rs];rfl)
    ·have i1:((i:Int)=(j:Int))=False:=eq_false (by omega)
     push_cast[BC hj,hv,i1]
     refine .of hO ?_
     by_cases he0:e=0
     ·subst he0
      rw[if_neg (by simp)]at hst
      cases ok with
      | true =>
       rw[if_pos rfl]at hst
       rw[BE hst]at he
       have this:=ih _ (by simp;omega) he
       push_cast[hroom,CD (show j<2^62 by omega)]
       have hl3:out.length+1=(out++[o]).length:=by simp
       rw[hl3]
       push_cast at this
       exact this
      | false =>
       rw[if_neg (by simp)]at hst
       rw[BE hst]at he
       have this:=ih _ (by omega) he
       push_cast[CD (show j<2^62 by omega)]
       push_cast at this
       exact this
     ·rw[if_pos he0]at hst
      rw[FS hst he0]at he
      have i3:(e=0)=False:=eq_false he0
      push_cast[i3]
      rw[kBad e (by rw[<-he]) he0]
      exact A1 (by push_cast[D6.rs];rfl)
 ·intro out hol he
  have e1:(List.range r.length).drop r.length=[]:=by rw[List.drop_eq_nil_of_le];simp
  rw[e1]at he
  simp only[BH]at he
  have this:=kOk out he.symm (by omega)
  refine A5.2 ?_
  push_cast[AZ (Nat.le_refl _),CD (show k<2^62 by omega)]
  push_cast at this
  exact this
theorem kq {r:List A2}(hr:∀ x∈r,IL x)(hrl:r.length<=64):PF Sp [Al r] (.tup [Nr (Po r).1,.int .i64 (Po r).2]):=by
 generalize hR:V.tup [Nr (Po r).1,.int .i64 (Po r).2]=R
 generalize hSS:BH (J7 r) [] (List.range r.length)=SS
 have hRS:R=if SS.2≠0 then .tup [Nr [],.int .i64 SS.2] else if 4096<SS.1.length then .tup [Nr [],.int .i64 3] else .tup [Nr SS.1,.int .i64 0]:=by
  rw[<-hR]
  unfold Po
  rw[hSS]
  split
  ·rfl
  ·split<;>rfl
 refine Ab D6.ok rfl ?_
 push_cast
 refine Ac (n:=r.length) (R:=fun i=>∀ out:List FM,out.length<=i*(4000*64)->BH (J7 r) out ((List.range r.length).drop i)=SS->D6.L12 (Al r) (Bf Wt 0 12 out) (.int .i64 r.length) (.int .i64 i) 0 [lH out] (Bo 0 D6.rs fun x' H'=>x'=R/\H'=[])) ?_ ?_ 0 (by omega) [] (by simp) hSS
 ·intro i hi ih out hol he
  have hx:=hr _ (A4 hi)
  have hir:i<(List.range r.length).length:=by simpa using hi
  have hgi:(List.range r.length).getD i default=i:=by simp[List.getD_eq_getElem?_getD,hi]
  rw[Ag hir,hgi]at he
  have hst:J7 r out i=J7 r out i:=rfl
  conv at hst=>rhs;unfold J7
  have hPs:=Wi (r.getD i default).left (by have:=hx.l.sz;omega)
  have hvl:(Aq (r.getD i default).left []).length=size (r.getD i default).left:=Nz _ _
  have hpl:(Fp (r.getD i default).left).length=size (r.getD i default).left:=by
   have:=congrArg List.length (Lp (r.getD i default).left [])
   simp only[List.length_map]at this
   omega
  have hsz:=hx.l.sz
  have mid:D6.L10 (Al r) (Bf Wt 0 12 out) (.int .i64 i) (.int .i64 r.length) (.int .i64 i) (Tw (Fp (r.getD i default).left)) (.int .i64 (Fp (r.getD i default).left).length) (.int .i64 (0:Nat)) 0 [lH out] (Bo 0 D6.rs fun x' H'=>x'=R/\H'=[]):=by
   refine Ac (n:=(Fp (r.getD i default).left).length) (R:=fun k=>∀ o2:List FM,o2.length<=out.length+k*64->BH (QF r i) o2 ((Aq (r.getD i default).left []).drop k)=BH (QF r i) out (Aq (r.getD i default).left [])->D6.L10 (Al r) (Bf Wt 0 12 o2) (.int .i64 i) (.int .i64 r.length) (.int .i64 i) (Tw (Fp (r.getD i default).left)) (.int .i64 (Fp (r.getD i default).left).length) (.int .i64 k) 0 [lH o2] (Bo 0 D6.rs fun x' H'=>x'=R/\H'=[])) ?_ ?_ 0 (by omega) out (by omega) rfl
   ·intro k hk ih2 o2 ho2 he2
    obtain⟨v1,v2⟩:=oB (r.getD i default).left hk
    have hkv:k<(Aq (r.getD i default).left []).length:=by omega
    rw[Ag hkv]at he2
    have hg:=YJ hx.l (A4 hkv)
    rw[v2]at hg
    have hAt:=dX (r.getD i default).left ((Fp (r.getD i default).left).getD k default) (by omega) (by omega)
    rw[v1]at hAt
    have hst2:QF r i o2 ((Aq (r.getD i default).left []).getD k default)=BH (I1 r i ((Fp (r.getD i default).left).getD k default) ((Aq (r.getD i default).left []).getD k default).2) o2 (List.range r.length):=by unfold QF;rw[v2]
    generalize (Aq (r.getD i default).left []).getD k default=y at he2 hst2 hAt v1 hg
    generalize hpp:(Fp (r.getD i default).left).getD k default=p at hst2 hAt v1 hg
    have hin:=jY hr hrl hi hg.2.1 v1 (P:=Fp (r.getD i default).left) (k:=k) (by omega) (R:=R) _ o2 (out.length+k*64) ho2 (by have:=Nat.mul_le_mul_right (4000*64) (show i<=64 by omega);omega) rfl
     (fun o3 h1 h2=>by
      rw[h1]at hst2
      rw[BE hst2]at he2
      exact ih2 o3 (by omega) he2)
     (fun e h1 h2=>by
      generalize BH (I1 r i p y.2) o2 (List.range r.length)=S2 at hst2 h1
      obtain⟨o4,e2⟩:=S2
      have h1:e2=e:=h1
      subst h1
      rw[FS hst2 h2]at he2
      rw[<-he2]at hst
      rw[FS hst h2]at he
      rw[hRS,<-he,if_pos h2])
    refine A5.2 ?_
    push_cast[BC hk,BC hi,hpp]
    refine .of hAt ?_
    push_cast[VD]
    push_cast at hin
    exact hin
   ·intro o2 ho2 he2
    have e1:(Aq (r.getD i default).left []).drop (Fp (r.getD i default).left).length=[]:=by rw[List.drop_eq_nil_of_le];omega
    rw[e1]at he2
    simp only[BH]at he2
    rw[<-he2]at hst
    rw[BE hst]at he
    have this:=ih o2 (by rw[Nat.succ_mul];have:=Nat.mul_le_mul_right 64 (show (Fp (r.getD i default).left).length<=4000 by omega);omega) he
    refine A5.2 ?_
    push_cast[AZ (Nat.le_refl _),CD (show i<2^62 by omega)]
    push_cast at this
    exact this
  refine A5.2 ?_
  push_cast[BC hi]
  refine .of hPs ?_
  push_cast
  push_cast at mid
  exact mid
 ·intro out hol he
  have e1:(List.range r.length).drop r.length=[]:=by rw[List.drop_eq_nil_of_le];simp
  rw[e1]at he
  simp only[BH]at he
  rw[<-he]at hRS
  rw[if_neg (by simp)]at hRS
  refine A5.2 ?_
  by_cases h4:4096<out.length
  ·have i4:((4096:Int)<(out.length:Int))=True:=eq_true (by omega)
   push_cast[AZ (Nat.le_refl _),i4]
   rw[hRS,if_pos h4]
   exact A1 (by push_cast[D6.rs];rfl)
  ·have i4:((4096:Int)<(out.length:Int))=False:=eq_false (by omega)
   push_cast[AZ (Nat.le_refl _),i4]
   rw[hRS,if_neg h4]
   exact A1 (by push_cast[D6.rs])
def sH (P R:List FM×Int):Prop:=(P.2=0/\R.2=0/\P.1.length=R.1.length/\P.1.length<=4096)\/(P.2=3/\(R.2=3\/(R.2=0/\4096<R.1.length)))
def oW {β:Type}(G:List FM->β->List FM×Int)(l:List β):Prop:=∀ o,∀ y∈l,(G o y).2=3\/((G o y).2=0/\o.length<=(G o y).1.length)
theorem NJ {β:Type}{G:List FM->β->List FM×Int}:∀ (l:List β)(o:List FM),oW G l->(BH G o l).2=3\/((BH G o l).2=0/\o.length<=(BH G o l).1.length)
 | [],o,_=>.inr ⟨rfl,Nat.le_refl _⟩
 | y::l,o,h=>by
  simp only[BH]
  rcases h o y (by simp)with h1 | ⟨h1,h2⟩
  ·rw[if_pos (by rw[h1];decide)];exact .inl h1
  ·rw[if_neg (by rw[h1];decide)]
   rcases NJ l (G o y).1 fun o z hz=>h o z (by simp[hz])with h3 | ⟨h3,h4⟩
   ·exact .inl h3
   ·exact .inr ⟨h3,by omega⟩
theorem Tc {α β:Type}{F:List FM->α->List FM×Int}{G:List FM->β->List FM×Int}{f:β->α}:∀ (l:List β)(o o':List FM),oW G l->(∀ o o',∀ y∈l,o.length=o'.length->o.length<=4096->sH (F o (f y)) (G o' y))->o.length=o'.length->o.length<=4096->sH (BH F o (l.map f)) (BH G o' l)
 | [],o,o',_,_,h1,h2=>.inl ⟨rfl,rfl,h1,h2⟩
 | y::l,o,o',hm,hs,h1,h2=>by
  simp only[List.map_cons,BH]
  rcases hs o o' y (by simp) h1 h2 with ⟨a1,a2,a3,a4⟩|⟨a1,a2⟩
  ·rw[if_neg (by rw[a1];decide),if_neg (by rw[a2];decide)]
   exact Tc l _ _ (fun o z hz=>hm o z (by simp[hz])) (fun o o' z hz=>hs o o' z (by simp[hz])) a3 a4
  ·rw[if_pos (by rw[a1];decide)]
   refine .inr ⟨a1,?_⟩
   rcases a2 with a2 | ⟨a2,a3⟩
   ·rw[if_pos (by rw[a2];decide)];exact .inl a2
   ·rw[if_neg (by rw[a2];decide)]
    rcases NJ l (G o' y).1 fun o z hz=>hm o z (by simp[hz])with h3 | ⟨h3,h4⟩
    ·exact .inl h3
    ·exact .inr ⟨h3,by omega⟩
theorem Sc (a b:A2)(pos:List Int)(sub:Term):(E0 a b pos sub).2=0\/(E0 a b pos sub).2=3:=by
 by_cases h:(E0 a b pos sub).2=0
 ·exact .inl h
 ·exact .inr (ZU a b pos sub h).2
theorem PJ (r:List A2)(i:Nat)(p:List Int)(x:Term)(l:List Nat):oW (I1 r i p x) l:=fun o j _=>by
 unfold I1
 split
 ·exact .inr ⟨rfl,Nat.le_refl _⟩
 ·split
  ·rename_i h
   rcases Sc (Cn [120] (r.getD i default)) (Cn [121] (r.getD j default)) p (app (NK [120] (AH [] (r.getD i default).left)) x)with h2 | h2
   ·exact absurd h2 h
   ·exact .inl h2
  ·split
   ·exact .inr ⟨rfl,by simp⟩
   ·exact .inr ⟨rfl,Nat.le_refl _⟩
theorem QG (r:List A2)(i:Nat)(l:List (List Int×Term)):oW (QF r i) l:=fun o y _=>NJ _ _ (PJ r i y.1 y.2 _)
theorem VH (r:List A2)(l:List Nat):oW (J7 r) l:=fun o i _=>NJ _ _ (QG r i _)
theorem uz (r:List A2)(i:Nat)(p:List Int)(x:Term)(hx:x.var=false)(o o':List FM)(j:Nat)(h1:o.length=o'.length)(h2:o.length<=4096) :
  sH (KK r i (Cn [120] (r.getD i default)) p (app (NK [120] (AH [] (r.getD i default).left)) x) o j) (I1 r i p x o' j):=by
 unfold KK I1
 have he:=Sc (Cn [120] (r.getD i default)) (Cn [121] (r.getD j default)) p (app (NK [120] (AH [] (r.getD i default).left)) x)
 generalize E0 (Cn [120] (r.getD i default)) (Cn [121] (r.getD j default)) p (app (NK [120] (AH [] (r.getD i default).left)) x)=v at he ⊢
 obtain⟨ok,e⟩:=v
 simp only at he ⊢
 by_cases hc:i=j/\p=[]
 ·rw[if_pos hc,if_pos (.inr hc)]
  exact .inl ⟨rfl,rfl,h1,h2⟩
 ·have c2:¬ (x.var=true\/(i=j/\p=[])):=by rw[hx];simp only[Bool.false_eq_true,false_or];exact hc
  rw[if_neg hc,if_neg c2]
  rcases he with rfl | rfl
  ·simp only[ne_eq,not_true_eq_false,if_false]
   cases ok with
   | true =>
    simp only[if_true]
    by_cases h4:4096<o.length+1
    ·rw[if_pos h4]
     exact .inr ⟨rfl,.inr ⟨rfl,by simp;omega⟩⟩
    ·rw[if_neg h4]
     exact .inl ⟨rfl,rfl,by simp;omega,by simp;omega⟩
   | false =>
    simp only[Bool.false_eq_true,if_false]
    rw[if_neg (by omega)]
    exact .inl ⟨rfl,rfl,h1,h2⟩
  ·have c3:(3:Int)≠0:=by decide
   rw[if_pos c3,if_pos c3]
   exact .inr ⟨rfl,.inl rfl⟩
theorem aN {β:Type}{G:List FM->β->List FM×Int}{o:List FM}:∀ l:List β,(∀ y∈l,G o y=(o,0))->BH G o l=(o,0)
 | [],_=>rfl
 | y::l,h=>by rw[BE (h y (by simp))];exact aN l fun z hz=>h z (by simp[hz])
theorem pg (r:List A2)(i:Nat)(o o':List FM)(y:List Int×Term)(h1:o.length=o'.length)(h2:o.length<=4096) :
  sH (KH r i (Cn [120] (r.getD i default)) o (y.1,app (NK [120] (AH [] (r.getD i default).left)) y.2)) (QF r i o' y):=by
 unfold KH QF
 cases hv:y.2.var with
 | true =>
  have hv2:(app (NK [120] (AH [] (r.getD i default).left)) y.2).var=true:=by rw[Aw hv];rfl
  rw[if_pos hv2,aN _ fun j _=>by unfold I1;rw[if_pos (.inl hv)]]
  exact .inl ⟨rfl,rfl,h1,h2⟩
 | false =>
  have hv2:(app (NK [120] (AH [] (r.getD i default).left)) y.2).var=false:=by rw[Bg hv];rfl
  have hv3:¬ (((y.1,app (NK [120] (AH [] (r.getD i default).left)) y.2):List Int×Term).2.var=true):=by
   show ¬ ((app (NK [120] (AH [] (r.getD i default).left)) y.2).var=true)
   rw[hv2];simp
  rw[if_neg hv3]
  have:=Tc (F:=KK r i (Cn [120] (r.getD i default)) y.1 (app (NK [120] (AH [] (r.getD i default).left)) y.2)) (G:=I1 r i y.1 y.2) (f:=id) (List.range r.length) o o' (PJ r i y.1 y.2 _) (fun o o' j _ h1 h2=>uz r i y.1 y.2 hv o o' j h1 h2) h1 h2
  rw[List.map_id]at this
  exact this
theorem nn {f:EP}(hf:∀ v,∃ w,f v=C6 w)(t:Term):∀ p:List Int,vfl t=true->Aq (app f t) p=(Aq t p).map fun x=>(x.1,app f x.2):=by
 induction t using Ai with
 | h t ih =>
 intro p ht
 rw[Ht (app f t),Ht t]
 cases hv:t.var with
 | true =>
  obtain⟨w,hw⟩:=hf t.name
  have h0:t.args=[]:=(Lm.1 ht).1 hv
  have h1:(app f t).args=[]:=by rw[Aw hv,hw];rfl
  rw[h0,h1]
  rfl
 | false =>
  have h1:(app f t).args=t.args.map (app f):=by rw[Bg hv];rfl
  rw[h1]
  have key:∀ (l:List Term)(i:Nat),(∀ a∈l,a∈t.args)->B9 (l.map (app f)) p i=(B9 l p i).map fun x=>(x.1,app f x.2):=by
   intro l
   induction l with
   | nil=>intro i _;rfl
   | cons a l ihl =>
    intro i hl
    simp only[List.map_cons,B9,List.map_append]
    rw[ih a (hl a (by simp)) _ (BS ht (hl a (by simp))),ihl (i+1) fun b hb=>hl b (by simp[hb])]
  rw[key t.args 0 fun _ h=>h]
  rfl
theorem RQ {r:List A2}(hr:∀ x∈r,IL x):(OB r).2=(Po r).2/\((OB r).2=0->(OB r).1.length=(Po r).1.length):=by
 have h:=Tc (F:=Mq r) (G:=J7 r) (f:=id) (List.range r.length) [] [] (VH r _) (fun o o' i hi h1 h2=>by
  have hi:i<r.length:=List.mem_range.1 hi
  have hx:=hr _ (A4 hi)
  unfold Mq J7
  have hv:=nn (f:=NK [120] (AH [] (r.getD i default).left)) (fun v=>⟨_,rfl⟩) (r.getD i default).left [] hx.l.vf
  show sH (BH (KH r i (Cn [120] (r.getD i default))) o (Aq (app (NK [120] (AH [] (r.getD i default).left)) (r.getD i default).left) [])) _
  rw[hv]
  exact Tc (f:=fun x:List Int×Term=>(x.1,app (NK [120] (AH [] (r.getD i default).left)) x.2)) _ o o' (QG r i _) (fun o o' y _ h1 h2=>pg r i o o' y h1 h2) h1 h2) rfl (by simp)
 rw[List.map_id]at h
 unfold Po
 show (BH (Mq r) [] (List.range r.length)).2=_/\((BH (Mq r) [] (List.range r.length)).2=0->(BH (Mq r) [] (List.range r.length)).1.length=_)
 generalize BH (Mq r) [] (List.range r.length)=P at h ⊢
 generalize BH (J7 r) [] (List.range r.length)=R at h ⊢
 rcases h with ⟨a1,a2,a3,a4⟩|⟨a1,a2⟩
 ·rw[if_neg (by rw[a2];decide),if_neg (by omega)]
  exact⟨a1,fun _=>a3⟩
 ·rcases a2 with a2 | ⟨a2,a3⟩
  ·rw[if_pos (by rw[a2];decide)]
   exact⟨by rw[a1,a2],fun h=>by rw[a1]at h;cases h⟩
  ·rw[if_neg (by rw[a2];decide),if_pos a3]
   exact⟨a1,fun h=>by rw[a1]at h;cases h⟩
theorem dC (t:Term)(v:A9)(hs:size t<2^61):PF La [An t,.str v] (.int .i64 (Dg v t)):=by
 induction t using Ai with
 | h t ih =>
 have hst:=AJ t
 have hla:=Am t.args
 have hcl:=Rb v t.args
 refine Ab HN.ok rfl ?_
 have loop:∀ c0:Nat,c0<=1->Dg v t=c0+C1 v t.args->HN.L3 (.str v) (.int .i64 c0) (Bk t.args) (.int .i64 t.args.length) (.int .i64 (0:Nat)) 0 [] (Bo 0 HN.rs fun x' H'=>x'=.int .i64 (Dg v t)/\H'=[]):=by
  intro c0 hc0 he
  refine Ac (n:=t.args.length) (R:=fun k=>∀ c:Nat,c=c0+C1 v (t.args.take k)->HN.L3 (.str v) (.int .i64 c) (Bk t.args) (.int .i64 t.args.length) (.int .i64 k) 0 [] (Bo 0 HN.rs fun x' H'=>x'=.int .i64 (Dg v t)/\H'=[])) ?_ ?_ 0 (by omega) c0 (by simp[C1])
  ·intro k hk ih2 c hc
   have hm:=A4 hk
   have hsm:=By hm
   have htk:=Q3 v t.args (k+1)
   rw[Aa hk,JY]at htk
   simp only[C1]at htk
   have hcall:=ih _ hm (by omega)
   have this:=ih2 (c+Dg v (t.args.getD k default)) (by rw[Aa hk,JY];simp only[C1];omega)
   generalize Dg v (t.args.getD k default)=d at hcall this htk
   have hw1:IntKind.i64.wrap ((c:Int)+(d:Int))=(c:Int)+d:=Bn (by omega) (by omega)
   refine A5.2 ?_
   push_cast[BC hk]
   refine .of hcall ?_
   push_cast[hw1,CD (show k<2^62 by omega)]
   push_cast at this
   exact this
  ·intro c hc
   rw[List.take_length]at hc
   refine A5.2 ?_
   push_cast[AZ (Nat.le_refl _)]
   rw[he,<-hc]
   exact A1 (by push_cast[HN.rs])
 cases hv:t.var with
 | false =>
  have:=loop 0 (by omega) (by rw[LT,hv];simp)
  push_cast[hv]
  push_cast at this
  exact this
 | true =>
  by_cases hn:t.name=v
  ·have:=loop 1 (by omega) (by rw[LT,hv];simp[hn])
   push_cast[hv,hn,CD (show 0<2^62 by omega)]
   push_cast at this
   exact this
  ·have:=loop 0 (by omega) (by rw[LT,hv];simp[hn])
   push_cast[hv,hn]
   push_cast at this
   exact this
def PM (t:Term):Bool:=!((Ed t).any fun v=>decide (1<Dg v t))
theorem ak {t:Term}(h:C9 t):(Ed t).length<=4000:=by
 have h1:=It t []
 have:=h.sz
 have e:Ed t=DG [] t:=rfl
 rw[e];simp only[List.length_nil]at h1;omega
theorem UK {t:Term}(h:C9 t):PF JB [An t] (.bool (PM t)):=by
 have hsz:=h.sz
 have hV:=EH [t] (by simp[Ae];omega)
 rw[<-eu]at hV
 have hC:=Dr (p:=fun v=>decide (1<Dg v t)) (g:=HV) (caps:=[.ro (cT t) 0]) (fun _=>by push_cast) (Ed t) (by have:=ak h;omega) fun v hv=>by
  refine Ab JF.ok rfl ?_
  push_cast
  refine .of (dC t v (by omega)) ?_
  push_cast
  have hq:decide ((1:Int)<(Dg v t:Int))=decide (1<Dg v t):=decide_eq_decide.2 ⟨fun h=>by omega,fun h=>by omega⟩
  exact A1 (by push_cast[JF.rs];rw[hq])
 refine Ab Me.ok rfl ?_
 push_cast
 refine .of hV ?_
 push_cast
 refine .of hC ?_
 push_cast
 exact A1 (by push_cast[Me.rs,PM])
theorem Xz {r:List A2}(hr:∀ x∈r,IL x)(hl:r.length<=64):PF LK [Al r] (.bool (r.all fun x=>PM x.left)):=by
 have hC:=Ee (p:=fun x=>!PM x.left) (g:=JI) (caps:=[]) (fun _=>rfl) r (by omega) fun x hx=>by
  refine Ab LM.ok rfl ?_
  push_cast
  refine .of (UK (hr x hx).l) ?_
  push_cast
  exact A1 (by push_cast[LM.rs])
 refine Ab OA.ok rfl ?_
 push_cast
 refine .of hC ?_
 push_cast
 refine A1 ?_
 push_cast[OA.rs]
 congr 1
 rw[List.all_eq_not_any_not]
theorem dv {t:Term}(h:C9 t):PF Of [An t] (.bool (PM t)):=by
 have hsz:=h.sz
 have hV:=Sj t (by have:=h.tb;omega)
 have hvl:=ak h
 refine Ab Jo.ok rfl ?_
 push_cast
 refine .of hV ?_
 push_cast
 refine Ac (n:=(Ed t).length) (R:=fun k=>((Ed t).drop k).any (fun v=>decide (1<Dg v t))=(Ed t).any (fun v=>decide (1<Dg v t))->Jo.L3 (.ro (cT t) 0) (Bw (Ed t)) (.int .i64 (Ed t).length) (.int .i64 k) 0 [] (Bo 0 Jo.rs fun x' H'=>x'=.bool (PM t)/\H'=[])) ?_ ?_ 0 (by omega) rfl
 ·intro k hk ih he
  rw[Ag hk]at he
  simp only[List.any_cons]at he
  have hc:=VC t ((Ed t).getD k default) (by omega)
  refine A5.2 ?_
  generalize hv:(Ed t).getD k default=v at he hc
  by_cases h1:1<Dg v t
  ·have i1:((1:Int)<(Dg v t:Int))=True:=eq_true (by omega)
   have hq:PM t=false:=by unfold PM;rw[<-he];simp[h1]
   rw[hq]
   push_cast[BC hk,hv]
   refine .of hc ?_
   push_cast[i1]
   exact A1 (by push_cast[Jo.rs])
  ·have i1:((1:Int)<(Dg v t:Int))=False:=eq_false (by omega)
   have this:=ih (by rw[<-he];simp[h1])
   push_cast[BC hk,hv]
   refine .of hc ?_
   push_cast[i1,CD (show k<2^62 by omega)]
   push_cast at this
   exact this
 ·intro he
  rw[Ak]at he
  refine A5.2 ?_
  push_cast[AZ (Nat.le_refl _)]
  refine A1 ?_
  push_cast[Jo.rs]
  unfold PM
  rw[<-he];rfl
theorem UJ {r:List A2}(hr:∀ x∈r,IL x)(hl:r.length<=64):PF Jy [Al r] (.bool (r.all fun x=>PM x.left)):=by
 refine Ab F2.ok rfl ?_
 push_cast
 refine Ac (n:=r.length) (R:=fun k=>((r.drop k).all fun x=>PM x.left)=(r.all fun x=>PM x.left)->F2.L3 (Al r) (.int .i64 r.length) (.int .i64 k) 0 [] (Bo 0 F2.rs fun x' H'=>x'=.bool (r.all fun x=>PM x.left)/\H'=[])) ?_ ?_ 0 (by omega) rfl
 ·intro k hk ih he
  have hx:=hr _ (A4 hk)
  rw[Ag hk]at he
  simp only[List.all_cons]at he
  refine A5.2 ?_
  generalize hxx:r.getD k default=x at hx he
  have hc:=dv hx.l
  cases h1:PM x.left with
  | false =>
   rw[h1]at hc he
   rw[<-he]
   push_cast[BC hk,hxx]
   refine .of hc ?_
   push_cast
   exact A1 (by push_cast[F2.rs])
  | true =>
   rw[h1]at hc he
   have this:=ih (by rw[<-he];simp)
   push_cast[BC hk,hxx]
   refine .of hc ?_
   push_cast[CD (show k<2^62 by omega)]
   push_cast at this
   exact this
 ·intro he
  rw[Ak]at he
  refine A5.2 ?_
  push_cast[AZ (Nat.le_refl _)]
  refine A1 ?_
  push_cast[F2.rs]
  rw[<-he];rfl
theorem Ic {r:List A2}(h:Ao r=0):(∀ x∈r,IL x)/\r.length<=64:=by
 refine⟨fun x hx=>?_,?_⟩
 ·obtain⟨h1,h2⟩:=MG h x hx
  exact⟨C9.of_check h1,C9.of_check h2,fun v hv=>(E5 v x.left).1 (IH h x hx v hv)⟩
 ·have h1:Bt r=0:=by
   unfold Ao at h
   split at h
   ·rename_i hc;exact absurd h hc
   ·rename_i hc;simpa using hc
  unfold Bt at h1
  split at h1
  ·cases h1
  ·omega
noncomputable def F4 (r:List A2):Bool×Int :=
 if Ao r≠0 then (false,Ao r) else if (OB r).2≠0 then (false,(OB r).2) else (decide ((OB r).1.length=0)&&r.all fun x=>PM x.left,0)
theorem Qd {r:List A2}(hs:KJ r<2^38):PF GL [Al r] (.tup [.bool (F4 r).1,.int .i64 (F4 r).2]):=by
 have hC:=M4 r hs
 have hList:PF M1 [Al r] (if Ao r≠0 then .tup [Nr [],.int .i64 (Ao r)] else .tup [Nr (OB r).1,.int .i64 (OB r).2]):=by
  refine Ab Ln.ok rfl ?_
  push_cast
  refine .of hC ?_
  by_cases h0:Ao r=0
  ·obtain⟨h1,h2⟩:=Ic h0
   rw[if_neg (by simpa using h0)]
   push_cast[h0]
   refine .of (Zc h1 h2) ?_
   push_cast
   exact A1 (by push_cast[Ln.rs])
  ·rw[if_pos h0]
   push_cast[h0]
   exact A1 (by push_cast[Ln.rs];rfl)
 refine Ab D9.ok rfl ?_
 unfold F4
 push_cast
 refine .of hList ?_
 by_cases h0:Ao r=0
 ·obtain⟨h1,h2⟩:=Ic h0
  rw[if_neg (by simpa using h0),if_neg (by simpa using h0)]
  have hL:=Xz h1 h2
  generalize OB r=A
  obtain⟨l,e⟩:=A
  simp only
  by_cases he:e=0
  ·subst he
   simp only[ne_eq,not_true_eq_false,if_false]
   by_cases hl:l.length=0
   ·have i1:((l.length:Int)=0)=True:=eq_true (by omega)
    push_cast[i1]
    refine .of hL ?_
    push_cast
    exact A1 (by push_cast[D9.rs,hl])
   ·have i1:((l.length:Int)=0)=False:=eq_false (by omega)
    push_cast[i1]
    exact A1 (by push_cast[D9.rs,hl])
  ·have i1:(e=0)=False:=eq_false he
   rw[if_pos he]
   push_cast[i1]
   exact A1 (by push_cast[D9.rs])
 ·rw[if_pos h0,if_pos h0]
  have i1:(Ao r=0)=False:=eq_false h0
  push_cast[i1]
  exact A1 (by push_cast[D9.rs])
theorem Vd {r:List A2}(hs:KJ r<2^38):PF Jx [Al r] (.tup [.bool (F4 r).1,.int .i64 (F4 r).2]):=by
 have hC:=MF r hs
 refine Ab F9.ok rfl ?_
 unfold F4
 push_cast
 refine .of hC ?_
 by_cases h0:Ao r=0
 ·obtain⟨h1,h2⟩:=Ic h0
  rw[if_neg (by simpa using h0)]
  have hL:=UJ h1 h2
  have hLi:=kq h1 h2
  obtain⟨s1,s2⟩:=RQ h1
  rw[s1]at s2 ⊢
  generalize OB r=P at s2 ⊢
  generalize Po r=A at hLi s2 ⊢
  obtain⟨l,e⟩:=A
  simp only at s2 ⊢
  push_cast[h0]
  refine .of hLi ?_
  by_cases he:e=0
  ·subst he
   have hl2:=s2 rfl
   rw[hl2]
   simp only[ne_eq,not_true_eq_false,if_false]
   by_cases hl:l.length=0
   ·have i1:((l.length:Int)=0)=True:=eq_true (by omega)
    push_cast[i1]
    refine .of hL ?_
    push_cast
    exact A1 (by push_cast[F9.rs,hl])
   ·have i1:((l.length:Int)=0)=False:=eq_false (by omega)
    push_cast[i1]
    exact A1 (by push_cast[F9.rs,hl])
  ·have i1:(e=0)=False:=eq_false he
   rw[if_pos he]
   push_cast[i1]
   exact A1 (by push_cast[F9.rs])
 ·rw[if_pos h0]
  have i1:(Ao r=0)=False:=eq_false h0
  push_cast[i1]
  exact A1 (by push_cast[F9.rs])
noncomputable def EY (r:List A2):Int:=if (F4 r).2≠0 then (F4 r).2 else if (F4 r).1 then 0 else 2
theorem O5 {r:List A2}(hs:KJ r<2^38):PF GP [Al r] (.int .i64 (EY r)):=by
 have hO:=Qd hs
 refine Ab GK.ok rfl ?_
 unfold EY
 push_cast
 refine .of hO ?_
 generalize F4 r=v
 obtain⟨ok,e⟩:=v
 simp only
 by_cases he:e=0
 ·subst he
  cases ok
  ·push_cast
   exact A1 (by push_cast[GK.rs])
  ·push_cast
   exact A1 (by push_cast[GK.rs])
 ·have i1:(e=0)=False:=eq_false he
  push_cast[i1]
  exact A1 (by push_cast[GK.rs])
theorem U3 {r:List A2}(hs:KJ r<2^38):PF Iu [Al r] (.int .i64 (EY r)):=by
 have hO:=Vd hs
 refine Ab FH.ok rfl ?_
 unfold EY
 push_cast
 refine .of hO ?_
 generalize F4 r=v
 obtain⟨ok,e⟩:=v
 simp only
 by_cases he:e=0
 ·subst he
  cases ok
  ·push_cast
   exact A1 (by push_cast[FH.rs])
  ·push_cast
   exact A1 (by push_cast[FH.rs])
 ·have i1:(e=0)=False:=eq_false he
  push_cast[i1]
  exact A1 (by push_cast[FH.rs])
theorem Y8 {r:List A2}(h:EY r=0):F4 r=(true,0)/\Ao r=0:=by
 have h1:F4 r=(true,0):=by
  unfold EY at h
  split at h
  ·rename_i hc;exact absurd h hc
  ·rename_i hc
   split at h
   ·rename_i h2
    have h3:(F4 r).2=0:=by simpa using hc
    exact Prod.ext h2 h3
   ·cases h
 refine⟨h1,?_⟩
 unfold F4 at h1
 by_cases hc:Ao r=0
 ·exact hc
 ·rw[if_pos hc]at h1
  exact absurd (congrArg Prod.fst h1) (by simp)
def Ec (r:List A2)(m:A0):Int:=if (Ga r A2.left m).2≠0 then (Ga r A2.left m).2 else (Ga r A2.right m).2
def HM (r:List A2)(m:A0):Term:=(Ga r A2.left m).1.getD D5
def Ps (r:List A2)(m:A0):Term:=if (Ga r A2.left m).2≠0 then HM r m else (Ga r A2.right m).1.getD D5
theorem Oi (o:Option Term)(e:Int):Hj o e=.tup [An (o.getD D5),.int .i64 e]:=by cases o<;>rfl
theorem HL {r:List A2}{m:A0}(hr:KJ r<2^38)(hm:mb m<2^38):PF Ej [Al r,AP m] (.tup [An (HM r m),An (Ps r m),.int .i64 (Ec r m)]):=by
 have h1:=XB r m hr hm
 have h2:=XZ r m hr hm
 rw[Oi]at h1 h2
 unfold HM Ps Ec
 unfold HM
 generalize Ga r A2.left m=A at *
 generalize Ga r A2.right m=B at *
 obtain⟨o1,e1⟩:=A
 obtain⟨o2,e2⟩:=B
 refine Ab JV.ok rfl ?_
 push_cast
 refine .of h1 ?_
 simp only
 by_cases he:e1=0
 ·subst he
  push_cast
  refine .of h2 ?_
  push_cast
  exact A1 (by push_cast[JV.rs])
 ·have i1:(e1=0)=False:=eq_false he
  push_cast[i1]
  exact A1 (by push_cast[JV.rs])
noncomputable def Ph (r:List A2)(a b:A0):Int :=
 if EY r≠0 then EY r else if Ec r a≠0 then Ec r a else if Ec r b≠0 then Ec r b else if HM r a=HM r b then 0 else 9
theorem LW {r:List A2}{m:A0}(h:Ec r m=0):FC r m=0/\HM r m=Ad r A2.left m/\Ps r m=Ad r A2.right m/\BJ (Ad r A2.left m)=true/\BJ (Ad r A2.right m)=true:=by
 unfold Ec at h
 split at h
 ·rename_i hc;exact absurd h hc
 ·rename_i hc
  have hc:(Ga r A2.left m).2=0:=by simpa using hc
  obtain⟨a1,a2,a3⟩:=V4 hc
  obtain⟨b1,b2,b3⟩:=V4 h
  refine⟨a1,?_,?_,a2,b2⟩
  ·unfold HM;rw[a3];rfl
  ·unfold Ps;rw[if_neg (by simpa using hc),b3];rfl
theorem Wg {r:List A2}{a b:A0}(hr:KJ r<2^38)(ha:mb a<2^38)(hb:mb b<2^38):PF Ku [Al r,AP a,AP b] (.int .i64 (Ph r a b)):=by
 have h0:=O5 hr
 have h1:=HL hr ha
 have h2:=HL hr hb
 have hz:Ec r a=0->size (HM r a)<2^62:=fun h=>by
  obtain⟨_,e,_,f,_⟩:=LW h
  rw[e]
  unfold BJ at f
  simp at f
  omega
 unfold Ph
 refine Ab EI.ok rfl ?_
 push_cast
 refine .of h0 ?_
 generalize EY r=e0
 by_cases c0:e0=0
 ·subst c0
  simp only[ne_eq,not_true_eq_false,if_false]
  push_cast
  refine .of h1 ?_
  by_cases c1:Ec r a=0
  ·have hz:=hz c1
   rw[if_neg (by simpa using c1)]
   push_cast[c1]
   refine .of h2 ?_
   by_cases c2:Ec r b=0
   ·rw[if_neg (by simpa using c2)]
    push_cast[c2]
    refine .of (Ok (HM r a) (HM r b) hz) ?_
    by_cases c3:HM r a=HM r b
    ·rw[if_pos c3]
     push_cast[c3]
     exact A1 (by push_cast[EI.rs])
    ·rw[if_neg c3]
     push_cast[c3]
     exact A1 (by push_cast[EI.rs])
   ·rw[if_pos c2]
    have i2:(Ec r b=0)=False:=eq_false c2
    push_cast[i2]
    exact A1 (by push_cast[EI.rs])
  ·rw[if_pos c1]
   have i1:(Ec r a=0)=False:=eq_false c1
   push_cast[i1]
   exact A1 (by push_cast[EI.rs])
 ·rw[if_pos c0]
  have i0:(e0=0)=False:=eq_false c0
  push_cast[i0]
  exact A1 (by push_cast[EI.rs])
theorem V5 {r:List A2}{m:A0}(hr:KJ r<2^28)(hm:mb m<2^28):PF JN [Al r,AP m] (.int .i64 (Ec r m)):=by
 have h1:=T0 r m hr hm
 unfold Ec
 refine Ab IQ.ok rfl ?_
 push_cast
 refine .of h1 ?_
 by_cases c1:(Ga r A2.left m).2=0
 ·obtain⟨a1,a2,a3⟩:=V4 c1
  obtain⟨d1,d2,d3,d4⟩:=GY a1
  have h2:=Oe r true hr (IH d1) m d2 (by omega) d4
  rw[Oi,<-QI (f:=sd true) a1]at h2
  have e:Ga r (sd true) m=Ga r A2.right m:=rfl
  rw[e]at h2
  rw[if_neg (by simpa using c1)]
  push_cast[c1]
  refine .of h2 ?_
  push_cast
  exact A1 (by push_cast[IQ.rs])
 ·rw[if_pos c1]
  have i1:((Ga r A2.left m).2=0)=False:=eq_false c1
  push_cast[i1]
  exact A1 (by push_cast[IQ.rs])
theorem Xs {x:List Int×Term}:∀ (l:List Term)(q:List Int)(i k:Nat),k<l.length->x∈Aq (l.getD k default) (q++[((i+k:Nat):Int)])->x∈B9 l q i
 | [],q,i,k,hk,_=>by simp at hk
 | a::l,q,i,0,_,h=>by simp only[B9,List.mem_append];exact .inl h
 | a::l,q,i,k+1,hk,h=>by
  simp only[B9,List.mem_append]
  exact .inr (Xs l q (i+1) k (by simpa using hk) (by rw[show i+1+k=i+(k+1) by omega];exact h))
theorem ah:∀ (p:List Int)(t x:Term)(q:List Int),Dm t p=some x->(q++p,x)∈Aq t q
 | [],t,x,q,h=>by cases h;rw[Ht,List.append_nil];simp
 | i::p,t,x,q,h=>by
  simp only[Dm]at h
  split at h
  ·rename_i hi
   have ih:=ah p _ x (q++[i]) h
   rw[Ht]
   refine List.mem_cons_of_mem _ (Xs t.args q 0 i.toNat (by omega) ?_)
   rw[show ((0+i.toNat:Nat):Int)=i by omega]
   simpa using ih
  ·cases h
def oo (t:Term):Prop:=∀ v,Dg v t<=1
structure Df (r:List A2):Prop where
 sys:Ao r=0
 lin:∀ x∈r,oo x.left
 nov:∀ i j,i<r.length->j<r.length->∀ p y,Dm (r.getD i default).left p=some y->y.var=false->¬ (i=j/\p=[])->∀ f g:EP,app f y≠app g (r.getD j default).left
abbrev CT:=A9->A0
mutual
def pl (g:CT):Term->A0
 | .mk n v l=>if v then g n else .mk 0 n false (pls g l)
def pls (g:CT):List Term->List A0
 | []=>[]
 | a::l=>pl g a::pls g l
end
theorem wx (g:CT)(l:List Term):pls g l=l.map (pl g):=by induction l with | nil=>rfl | cons a l ih=>simp[pls,ih]
theorem fj (g:CT)(t:Term):pl g t=if t.var then g t.name else .mk 0 t.name false (t.args.map (pl g)):=by
 cases t with | mk n v l=>simp only[pl,wx,Term.var,Term.name,Term.args];rfl
theorem Jq {g:CT}{t:Term}(h:t.var=true):pl g t=g t.name:=by rw[fj,if_pos h]
theorem IT {g:CT}{t:Term}(h:t.var=false):pl g t=.mk 0 t.name false (t.args.map (pl g)):=by rw[fj,if_neg (by simp[h])]
theorem Qu {f g:CT}(t:Term):(∀ v,CI v t=true->f v=g v)->pl f t=pl g t:=by
 induction t using Ai with
 | h t ih =>
 intro h
 rw[fj,fj]
 split
 ·rename_i hv;exact h _ (AE.2 (.inl ⟨hv,rfl⟩))
 ·congr 1
  exact List.map_congr_left fun a ha=>ih a ha fun v hv=>h v (AE.2 (.inr ⟨a,ha,hv⟩))
def WA {α:Type}[Inhabited α](vars:List A9)(xs:List α):A9->α:=fun n=>xs.getD (Mu n vars) default
theorem NT (vars:List A9)(xs:List A0)(t:Term):Fo vars xs t=pl (WA vars xs) t:=by
 induction t using Ai with
 | h t ih =>
 rw[Ux,fj]
 split
 ·rfl
 ·congr 1
  exact List.map_congr_left fun a ha=>ih a ha
theorem ZT (vars:List A9)(xs:List Term)(t:Term):D7 vars xs t=app (WA vars xs) t:=by
 induction t using Ai with
 | h t ih =>
 rw[M6,Ql]
 split
 ·rfl
 ·congr 1
  exact List.map_congr_left fun a ha=>ih a ha
theorem wY {α β:Type}[Inhabited α][Inhabited β]{vars:List A9}{xs:List α}{f:α->β}(hl:xs.length=vars.length){n:A9}(hn:n∈vars):WA vars (xs.map f) n=f (WA vars xs n):=by
 obtain⟨h1,h2,h3⟩:=Gc hn
 unfold WA
 simp[List.getD_eq_getElem?_getD,show Mu n vars<xs.length by omega]
theorem Tl {α:Type}[Inhabited α]{vars:List A9}(f:A9->α){n:A9}(hn:n∈vars):WA vars (vars.map f) n=f n:=by
 obtain⟨h1,h2,h3⟩:=Gc hn
 unfold WA
 rw[List.getD_eq_getElem?_getD,List.getElem?_map,List.getElem?_eq_getElem h2]
 rw[List.getD_eq_getElem?_getD,List.getElem?_eq_getElem h2]at h3
 exact congrArg f h3
theorem xK {α:Type}[Inhabited α]{vars:List A9}(hn:vars.Nodup){xs:List α}{i:Nat}(hi:i<vars.length):WA vars xs (vars.getD i default)=xs.getD i default:=by
 unfold WA;rw[gN hn hi]
theorem WE {α:Type}[Inhabited α]{vars:List A9}{xs:List α}(hl:xs.length=vars.length){n:A9}(hn:n∈vars):WA vars xs n∈xs:=by
 obtain⟨h1,h2,h3⟩:=Gc hn
 exact A4 (by omega)
theorem Ws {r:List A2}{f:A2->Term}{g:CT}(t:Term):Ad r f (pl g t)=app (fun v=>Ad r f (g v)) t:=by
 induction t using Ai with
 | h t ih =>
 cases hv:t.var with
 | true=>rw[Jq hv,Aw hv]
 | false =>
  rw[IT hv,Bg hv,DK,if_pos (by rfl)]
  simp only[A0.name,A0.var,A0.args,List.map_map]
  congr 1
  exact List.map_congr_left fun a ha=>ih a ha
theorem mE {r:List A2}{f:A2->Term}(hv:∀ x∈r,∀ v,CI v (f x)=true->v∈AA [x.left]){m:A0}(hm:Hm r m)(h0:0<m.rule):Ad r f m=app (fun v=>Ad r f (WA (AA [(At r m).left]) m.args v)) (f (At r m)):=by
 obtain⟨k1,k2,k3,k4,k5,k6⟩:=hm.rule (by omega)
 rw[DK,if_neg (by omega),ZT]
 exact Du _ fun v h=>wY k4 (hv _ k3 v h)
theorem vZ {f g:EP}(t:Term):app f t=app g t->∀ v,CI v t=true->vfl t=true->f v=g v:=by
 induction t using Ai with
 | h t ih =>
 intro h v ho ht
 cases hv:t.var with
 | true=>rw[Aw hv,Aw hv]at h;rw[<-(MZ ht hv).1 ho];exact h
 | false =>
  rw[Bg hv,Bg hv]at h
  injection h with _ _ h
  obtain⟨a,ha,h1⟩:=(MN hv).1 ho
  exact ih a ha (List.map_inj_left.1 h a ha) v h1 (BS ht ha)
theorem YS {v:A9}{t:Term}:CI v t=true↔0<Dg v t:=by
 have:=V1 v t
 cases h:CI v t with
 | true=>rw[h]at this;simp only[Bool.not_true,decide_eq_false_iff_not]at this;simp;omega
 | false=>rw[h]at this;simp only[Bool.not_false,decide_eq_true_eq]at this;simp[this]
theorem Z1 {v:A9}{l:List Term}{a:Term}(h:a∈l):Dg v a<=C1 v l:=by
 induction l with
 | nil=>cases h
 | cons x l ih =>
  simp only[C1]
  rcases List.mem_cons.1 h with rfl | h
  ·omega
  ·have:=ih h;omega
theorem oo.arg {t a:Term}(h:oo t)(ha:a∈t.args):oo a:=fun v=>by
 have h1:=h v
 rw[LT]at h1
 have:=Z1 (v:=v) ha
 omega
theorem Hm.rule0 {r:List A2}{m:A0}(hm:Hm r m):0<=m.rule/\m.rule<=r.length:=by
 have h1:=F5 hm.rg
 unfold Cb at h1
 rw[Bool.and_eq_true,decide_eq_true_eq,decide_eq_true_eq]at h1
 exact h1
theorem wU {t:Term}{i:Nat}(hi:i<t.args.length):Dm t [(i:Int)]=some (t.args.getD i default):=by
 show (if 0<=(i:Int)/\(i:Int)<(t.args.length:Int) then Dm (t.args.getD (i:Int).toNat default) [] else none)=_
 rw[if_pos (by omega),Int.toNat_natCast];rfl
theorem nB {r:List A2}(h:Df r){i:Nat}(hi:i<r.length)(L:Term):∀ (p:List Int)(b:A0)(f:EP),Dm (r.getD i default).left p=some L->Hm r b->(p=[]->b.rule=0)->oo L->vfl L=true->Ad r A2.left b=app f L ->
  ∃ g:CT,b=pl g L/\∀ v,CI v L=true->Hm r (g v)/\Ad r A2.left (g v)=f v/\As (g v)<=As b:=by
 induction L using Ai with
 | h L ih =>
 intro p b f hp hb hr hl hf hs
 cases hv:L.var with
 | true =>
  refine⟨fun _=>b,by rw[Jq hv],fun v ho=>⟨hb,?_,Nat.le_refl _⟩⟩
  rw[Aw hv]at hs
  rw[hs,(MZ hf hv).1 ho]
 | false =>
  have h0:b.rule=0:=by
   rcases Classical.em (b.rule=0)with h0 | h0
   ·exact h0
   ·exfalso
    have hpos:=hb.rule_pos h0
    obtain⟨k1,k2,k3,k4,k5,k6⟩:=hb.rule h0
    rw[mE (fun x _=>MO x) hb hpos]at hs
    exact h.nov i (b.rule-1).toNat hi (by omega) p L hp hv (fun e=>h0 (hr e.2)) _ _ hs.symm
  rw[DK,if_pos h0,Bg hv]at hs
  injection hs with e1 e2 e3
  have key:∀ (l:List Term)(bs:List A0),(∀ a∈l,a∈L.args)->(∀ x∈bs,x∈b.args)->(∀ v,C1 v l<=1)->bs.map (Ad r A2.left)=l.map (app f) ->
    ∃ g:CT,bs=l.map (pl g)/\∀ v,EW v l=true->Hm r (g v)/\Ad r A2.left (g v)=f v/\As (g v)<=As b:=by
   intro l
   induction l with
   | nil =>
    intro bs _ _ _ he
    have:bs=[]:=by simpa using he
    subst this
    exact⟨fun _=>zM,rfl,fun v ho=>by simp[EW]at ho⟩
   | cons a l ihl =>
    intro bs hal hbl hc he
    cases bs with
    | nil=>simp at he
    | cons x bs =>
     simp only[List.map_cons,List.cons.injEq]at he
     have haL:=hal a (by simp)
     obtain⟨k,hk,hka⟩:=List.getElem_of_mem haL
     have hsub:Dm (r.getD i default).left (p++[(k:Int)])=some a:=by
      rw[fI,hp]
      show Dm L [(k:Int)]=_
      rw[wU hk,List.getD_eq_getElem?_getD,List.getElem?_eq_getElem hk,hka];rfl
     have hxb:=hbl x (by simp)
     have hms:=CP hxb
     have hmb:=AU b
     obtain⟨g1,h1,h2⟩:=ih a haL (p++[(k:Int)]) x f hsub (hb.arg hxb) (fun e=>by simp at e) (hl.arg haL) (BS hf haL) he.1
     obtain⟨g2,h3,h4⟩:=ihl bs (fun y hy=>hal y (by simp[hy])) (fun y hy=>hbl y (by simp[hy])) (fun v=>by have:=hc v;simp only[C1]at this;omega) he.2
     refine⟨fun v=>if CI v a=true then g1 v else g2 v,?_,fun v ho=>?_⟩
     ·rw[List.map_cons]
      congr 1
      ·rw[h1];exact Qu a fun v hv=>(if_pos hv).symm
      ·rw[h3]
       refine List.map_congr_left fun c hc'=>Qu c fun v hv=>?_
       have h5:=hc v
       simp only[C1]at h5
       have h6:=Z1 (v:=v) hc'
       have h7:=YS.1 hv
       exact (if_neg fun e=>by have:=YS.1 e;omega).symm
     ·by_cases c:CI v a=true
      ·dsimp only;rw[if_pos c]
       obtain⟨q1,q2,q3⟩:=h2 v c
       exact⟨q1,q2,by omega⟩
      ·dsimp only;rw[if_neg c]
       simp only[EW,Bool.or_eq_true]at ho
       exact h4 v (ho.resolve_left c)
  obtain⟨g,h1,h2⟩:=key L.args b.args (fun a ha=>ha) (fun x hx=>hx) (fun v=>by have:=hl v;rw[LT]at this;omega) e3
  refine⟨g,?_,fun v ho=>h2 v ?_⟩
  ·rw[IT hv,<-h1,<-e1,<-e2,<-h0];exact b.eta.symm
  ·rw[Uu,hv]at ho;simpa using ho
theorem ry {r:List A2}{k:Int}{ms:List A0}(h0:0<=k)(h1:k<r.length)(hl:ms.length=(AA [(r.getD k.toNat default).left]).length)(h:∀ a∈ms,Hm r a):Hm r (.mk (k+1) [] false ms):=by
 constructor
 ·rw[He,Bool.and_eq_true]
  refine⟨?_,List.all_eq_true.2 fun a ha=>(h a ha).rg⟩
  unfold Cb
  rw[Bool.and_eq_true,decide_eq_true_eq,decide_eq_true_eq]
  show 0<=k+1/\k+1<=(r.length:Int)
  omega
 ·rw[He,Bool.and_eq_true]
  refine⟨?_,List.all_eq_true.2 fun a ha=>(h a ha).fm⟩
  unfold Bv
  have hk:(A0.mk (k+1) [] false ms).rule=k+1:=rfl
  rw[hk,if_pos (by omega)]
  have hru:At r (.mk (k+1) [] false ms)=r.getD k.toNat default:=by unfold At;rw[hk,show k+1-1=k by omega]
  rw[hru]
  simp[A0.name,A0.var,A0.args,hl]
theorem eo:∀ (p:List Int)(t y:Term),Dm t p=some y->y.var=true->CI y.name t=true
 | [],t,y,h,hv=>by cases h;rw[Uu,hv];simp
 | i::p,t,y,h,hv=>by
  simp only[Dm]at h
  split at h
  ·rename_i hi
   have h1:=eo p _ y h hv
   rw[Uu,gM (A4 (by omega)) h1];simp
  ·cases h
end Go.Dw
section
namespace Go.Dw
def Io (r:List A2)(k:Nat):Term:=(r.getD k default).left
def Wh (r:List A2)(k:Nat):Term:=(r.getD k default).right
def ET (r:List A2)(k:Nat):List A9:=AA [Io r k]
def ru (r:List A2)(k:Nat)(g:CT):A0:=.mk ((k:Int)+1) [] false ((ET r k).map g)
def fm (r:List A2)(k:Nat)(b:Bool)(g:CT):A0:=if b then ru r k g else pl g (Io r k)
theorem K3 {r:List A2}{k:Nat}{v:A9}:v∈ET r k↔CI v (Io r k)=true:=E5 v (Io r k)
theorem O2 (r:List A2)(k:Nat)(g:CT):At r (ru r k g)=r.getD k default:=by
 unfold At ru
 show r.getD ((k:Int)+1-1).toNat default=_
 rw[show (k:Int)+1-1=k by omega,Int.toNat_natCast]
theorem IS (r:List A2)(k:Nat)(g:CT):(ru r k g).rule=(k:Int)+1:=rfl
theorem HI (r:List A2)(k:Nat)(g:CT):(ru r k g).args=(ET r k).map g:=rfl
section
variable {r:List A2} (h:Df r)
include h
theorem Df.left {k:Nat}(hk:k<r.length):(Io r k).var=false/\vfl (Io r k)=true/\oo (Io r k)/\Db (Io r k)=true/\Db (Wh r k)=true/\vfl (Wh r k)=true/\∀ v,CI v (Wh r k)=true->v∈ET r k:=by
 have hm:=A4 (l:=r) hk
 have h1:=MG h.sys _ hm
 exact⟨YA h.sys _ hm,Vf _ (GX h.sys _ hm).1.1,h.lin _ hm,(Uv.1 h1.1).1,(Uv.1 h1.2).1,Vf _ (GX h.sys _ hm).2.1,IH h.sys _ hm⟩
omit h in
theorem wJ {r:List A2}{n:A9}{ms:List A0}(hn:BW n true=true)(hl:ms.length<=8)(ha:∀ a∈ms,Hm r a):Hm r (.mk 0 n false ms):=by
 constructor
 ·rw[He,Bool.and_eq_true]
  exact⟨by simp[Cb,A0.rule],List.all_eq_true.2 fun a h=>(ha a h).rg⟩
 ·rw[He,Bool.and_eq_true]
  exact⟨by simp[Bv,A0.rule,A0.var,A0.name,A0.args,hn,hl],List.all_eq_true.2 fun a h=>(ha a h).fm⟩
omit h in
theorem uI {r:List A2}{g:CT}(t:Term):Db t=true->(∀ v,CI v t=true->Hm r (g v))->Hm r (pl g t):=by
 induction t using Ai with
 | h t ih =>
 intro ht hg
 obtain⟨h1,h2⟩:=jS.1 ht
 cases hv:t.var with
 | true=>rw[Jq hv];exact hg _ (AE.2 (.inl ⟨hv,rfl⟩))
 | false =>
  rw[hv]at h1
  simp only[jf,Bool.false_eq_true,if_false,Bool.and_eq_true,decide_eq_true_eq]at h1
  rw[IT hv]
  refine wJ h1.2 (by simp;omega) fun c hc=>?_
  obtain⟨a,ha,rfl⟩:=List.mem_map.1 hc
  exact ih a ha (h2 a ha) fun v hv=>hg v (AE.2 (.inr ⟨a,ha,hv⟩))
omit h in
theorem AaC {r:List A2}{k:Nat}(hk:k<r.length){g:CT}(hg:∀ v∈ET r k,Hm r (g v)):Hm r (ru r k g):=by
 refine ry (by omega) (by omega) ?_ fun a ha=>?_
 ·rw[List.length_map];unfold ET Io;rw[Int.toNat_natCast]
 ·obtain⟨v,hv,rfl⟩:=List.mem_map.1 ha
  exact hg v hv
theorem Df.ok_fm {k:Nat}(hk:k<r.length){b:Bool}{g:CT}(hg:∀ v∈ET r k,Hm r (g v)):Hm r (fm r k b g):=by
 cases b with
 | true=>exact AaC hk hg
 | false=>exact uI _ (h.left hk).2.2.2.1 fun v hv=>hg v (K3.2 hv)
omit h in
theorem QY {r:List A2}{F:A2->Term}{k:Nat}{g:CT}(hv:∀ v,CI v (F (r.getD k default))=true->v∈ET r k):Ad r F (ru r k g)=app (fun v=>Ad r F (g v)) (F (r.getD k default)):=by
 rw[DK,if_neg (by rw[IS];omega),O2,ZT,HI]
 refine Du _ fun v ho=>?_
 show WA (ET r k) _ v=_
 rw[List.map_map,Tl _ (hv v ho)];rfl
theorem Df.src_fm {k:Nat}(hk:k<r.length){b:Bool}{g:CT}:Ad r A2.left (fm r k b g)=app (fun v=>Ad r A2.left (g v)) (Io r k):=by
 have hSys:=h.sys
 cases b with
 | true=>exact QY fun v hv=>K3.2 hv
 | false=>exact Ws _
theorem Df.tgt_fm {k:Nat}(hk:k<r.length){b:Bool}{g:CT}:Ad r A2.right (fm r k b g)=app (fun v=>Ad r A2.right (g v)) (if b then Wh r k else Io r k):=by
 cases b with
 | true=>exact QY (h.left hk).2.2.2.2.2.2
 | false=>exact Ws _
omit h in
theorem Wy {r:List A2}{a:A0}(ha:Hm r a)(h0:0<a.rule):∃ k,k<r.length/\a.rule=(k:Int)+1/\a=ru r k (WA (ET r k) a.args)/\a.args.length=(ET r k).length:=by
 obtain⟨k1,k2,k3,k4,k5,k6⟩:=ha.rule (by omega)
 have hvs:ET r (a.rule-1).toNat=AA [(At r a).left]:=rfl
 refine⟨(a.rule-1).toNat,by omega,by omega,?_,by rw[hvs];exact k4⟩
 have hmap:(ET r (a.rule-1).toNat).map (WA (ET r (a.rule-1).toNat) a.args)=a.args:=by
  apply List.ext_getElem (by rw[List.length_map,hvs];omega)
  intro i h1 h2
  rw[List.getElem_map]
  have hi:i<(ET r (a.rule-1).toNat).length:=by simpa using h1
  have:=xK (vars:=ET r (a.rule-1).toNat) (KU _) (xs:=a.args) hi
  rw[List.getD_eq_getElem?_getD,List.getElem?_eq_getElem hi,List.getD_eq_getElem?_getD,List.getElem?_eq_getElem h2]at this
  exact this
 unfold ru
 rw[hmap,<-k5,<-k6,show (((a.rule-1).toNat:Nat):Int)+1=a.rule by omega]
 exact a.eta.symm
theorem Df.form {a b:A0}(ha:Hm r a)(hb:Hm r b){k:Nat}(hk:k<r.length){f:CT}(hf:a=ru r k f)(hs:Ad r A2.left b=Ad r A2.left a) :
  ∃ (β:Bool) (g:CT),b=fm r k β g/\(β=true↔0<b.rule)/\∀ v∈ET r k,Hm r (g v)/\Ad r A2.left (g v)=Ad r A2.left (f v)/\As (g v)<=As b:=by
 have hsa:Ad r A2.left a=app (fun v=>Ad r A2.left (f v)) (Io r k):=(congrArg (Ad r A2.left) hf).trans (QY fun v hv=>K3.2 hv)
 obtain⟨q1,q2,q3,q4,q5,q6⟩:=h.left hk
 by_cases h0:0<b.rule
 ·obtain⟨j,hj,hjr,hbj,hlen⟩:=Wy hb h0
  have hjk:k=j:=by
   rcases Classical.em (k=j)with e | e
   ·exact e
   ·exfalso
    have hsb:Ad r A2.left b=app (fun v=>Ad r A2.left (WA (ET r j) b.args v)) (Io r j):=(congrArg (Ad r A2.left) hbj).trans (QY fun v hv=>K3.2 hv)
    exact h.nov k j hk hj [] (Io r k) rfl q1 (fun e2=>e e2.1) _ _ (hsa.symm.trans (hs.symm.trans hsb))
  subst hjk
  refine⟨true,WA (ET r k) b.args,hbj,by simp[h0],fun v hv=>?_⟩
  have hm:=WE hlen hv
  refine⟨hb.arg hm,?_,Nat.le_of_lt (by have:=CP hm;have:=AU b;omega)⟩
  have hsb:Ad r A2.left b=app (fun v=>Ad r A2.left (WA (ET r k) b.args v)) (Io r k):=(congrArg (Ad r A2.left) hbj).trans (QY fun v hv=>K3.2 hv)
  exact vZ (Io r k) (hsb.symm.trans (hs.trans hsa)) v (K3.1 hv) q2
 ·have h0':b.rule=0:=by have:=hb.rule0.1;omega
  obtain⟨g,h1,h2⟩:=nB h hk (Io r k) [] b _ rfl hb (fun _=>h0') q3 q2 (hs.trans hsa)
  exact⟨false,g,h1,by simp[h0],fun v hv=>h2 v (K3.1 hv)⟩
omit h in
theorem mC {r:List A2}{a b:A0}(ha:a.rule=0)(hb:b.rule=0)(hs:Ad r A2.left b=Ad r A2.left a):b=.mk 0 a.name a.var b.args/\b.args.map (Ad r A2.left)=a.args.map (Ad r A2.left):=by
 rw[DK,if_pos hb,DK,if_pos ha]at hs
 injection hs with e1 e2 e3
 refine⟨?_,e3⟩
 rw[<-e1,<-e2,<-hb];exact b.eta.symm
end
def FX (vars:List A9)(L:Term)(b:A0):List A0:=vars.map fun v=>Xu b ((Xo L v).getD 0 [])
theorem DZ (m:A0):0<As m:=by have:=AU m;omega
theorem Xv:∀ (p:List Int)(m:A0),As (Xu m p)<=As m
 | [],m=>Nat.le_refl _
 | i::p,m=>by
  show As (Xu (m.args.getD i.toNat default) p)<=_
  have h1:=Xv p (m.args.getD i.toNat default)
  by_cases hi:i.toNat<m.args.length
  ·have h2:=CP (A4 hi)
   have h3:=AU m
   omega
  ·have e:m.args.getD i.toNat default=default:=by simp[List.getD_eq_getElem?_getD,show m.args.length<=i.toNat by omega]
   rw[e]at h1 ⊢
   have e2:As (default:A0)=1:=rfl
   have:=DZ m
   omega
theorem mp {g:CT}:∀ (p:List Int)(L y:Term),vfl L=true->Dm L p=some y->Xu (pl g L) p=pl g y
 | [],L,y,_,h=>by cases h;rfl
 | i::p,L,y,hf,h=>by
  simp only[Dm]at h
  split at h
  ·rename_i hi
   have hv:L.var=false:=by
    cases hv:L.var with
    | false=>rfl
    | true=>rw[(Lm.1 hf).1 hv]at hi;simp at hi;omega
   have hk:i.toNat<L.args.length:=by omega
   rw[IT hv]
   show Xu ((L.args.map (pl g)).getD i.toNat default) p=_
   have e:(L.args.map (pl g)).getD i.toNat default=pl g (L.args.getD i.toNat default):=by simp[List.getD_eq_getElem?_getD,hk]
   rw[e]
   exact mp p _ y (BS hf (A4 hk)) h
  ·cases h
theorem TI {L:Term}(hf:vfl L=true)(g:CT):FX (AA [L]) L (pl g L)=(AA [L]).map g:=by
 refine List.map_congr_left fun v hv=>?_
 have hne:Xo L v≠[]:=by rw[uO];exact UL v _ ((E5 _ _).1 hv)
 generalize hps:Xo L v=ps at hne
 cases ps with
 | nil=>exact absurd rfl hne
 | cons p ps =>
  obtain⟨y,h1,h2,h3⟩:=yv (show p∈Xo L v by rw[hps];simp)
  show Xu _ p=_
  rw[mp p L y hf h1,Jq h2,h3]
def SZ (r:List A2):Nat->A0->A0->A0
 | 0,_,_=>zM
 | n+1,a,b =>
  if 0<b.rule then Fo (AA [(At r b).left]) (List.zipWith (SZ r n) (if 0<a.rule then a.args else FX (AA [(At r b).left]) (At r b).left a) b.args) (At r b).right
  else if 0<a.rule then .mk a.rule [] false (List.zipWith (SZ r n) a.args (FX (AA [(At r a).left]) (At r a).left b))
  else .mk 0 a.name a.var (List.zipWith (SZ r n) a.args b.args)
def P0 (r:List A2):Nat->A0->A0->A0
 | 0,_,_=>zM
 | n+1,a,b =>
  if 0<b.rule then .mk b.rule [] false (List.zipWith (P0 r n) (if 0<a.rule then a.args else FX (AA [(At r b).left]) (At r b).left a) b.args)
  else if 0<a.rule then .mk a.rule [] false (List.zipWith (P0 r n) a.args (FX (AA [(At r a).left]) (At r a).left b))
  else .mk 0 a.name a.var (List.zipWith (P0 r n) a.args b.args)
theorem DU {α β γ:Type}{f g:α->β->γ}:∀ {l:List α} {m:List β},(∀ x∈l,∀ y∈m,f x y=g x y)->List.zipWith f l m=List.zipWith g l m
 | [],_,_=>by simp
 | _::_,[],_=>by simp
 | a::l,b::m,h=>by
  simp only[List.zipWith_cons_cons]
  rw[h a (by simp) b (by simp),DU fun x hx y hy=>h x (by simp[hx]) y (by simp[hy])]
theorem Ll {α β γ δ:Type}{f:β->γ->δ}{g:α->β}{k:α->γ}(l:List α):List.zipWith f (l.map g) (l.map k)=l.map fun x=>f (g x) (k x):=by
 induction l with
 | nil=>rfl
 | cons a l ih=>simp[ih]
theorem FR {vars:List A9}{L:Term}{a x:A0}(h:x∈FX vars L a):As x<=As a:=by
 obtain⟨v,_,rfl⟩:=List.mem_map.1 h
 exact Xv _ _
theorem C2 {a x:A0}(h:x∈a.args):As x<As a:=by have:=CP h;have:=AU a;omega
theorem HS (r:List A2):∀ (n m:Nat)(a b:A0),As a+As b<=n->As a+As b<=m->SZ r n a b=SZ r m a b
 | 0,_,a,b,h,_=>by have:=DZ a;omega
 | _+1,0,a,b,_,h=>by have:=DZ a;omega
 | n+1,m+1,a,b,h1,h2=>by
  simp only[SZ]
  split
  ·congr 1
   refine DU fun x hx y hy=>HS r n m x y ?_ ?_ <;>
   ·have:=C2 hy
    split at hx
    ·have:=C2 hx;omega
    ·have:=FR hx;omega
  ·split
   ·congr 1
    refine DU fun x hx y hy=>HS r n m x y ?_ ?_ <;>
    ·have:=C2 hx
     have:=FR hy;omega
   ·congr 1
    refine DU fun x hx y hy=>HS r n m x y ?_ ?_ <;>
    ·have:=C2 hx
     have:=C2 hy;omega
theorem GF (r:List A2):∀ (n m:Nat)(a b:A0),As a+As b<=n->As a+As b<=m->P0 r n a b=P0 r m a b
 | 0,_,a,b,h,_=>by have:=DZ a;omega
 | _+1,0,a,b,_,h=>by have:=DZ a;omega
 | n+1,m+1,a,b,h1,h2=>by
  simp only[P0]
  split
  ·congr 1
   refine DU fun x hx y hy=>GF r n m x y ?_ ?_ <;>
   ·have:=C2 hy
    split at hx
    ·have:=C2 hx;omega
    ·have:=FR hx;omega
  ·split
   ·congr 1
    refine DU fun x hx y hy=>GF r n m x y ?_ ?_ <;>
    ·have:=C2 hx
     have:=FR hy;omega
   ·congr 1
    refine DU fun x hx y hy=>GF r n m x y ?_ ?_ <;>
    ·have:=C2 hx
     have:=C2 hy;omega
def rest (r:List A2)(a b:A0):A0:=SZ r (As a+As b) a b
def gv (r:List A2)(a b:A0):A0:=P0 r (As a+As b) a b
theorem Lk (r:List A2)(a b:A0):rest r a b =
  if 0<b.rule then Fo (AA [(At r b).left]) (List.zipWith (rest r) (if 0<a.rule then a.args else FX (AA [(At r b).left]) (At r b).left a) b.args) (At r b).right
  else if 0<a.rule then .mk a.rule [] false (List.zipWith (rest r) a.args (FX (AA [(At r a).left]) (At r a).left b))
  else .mk 0 a.name a.var (List.zipWith (rest r) a.args b.args):=by
 have e:rest r a b=SZ r (As a+As b+1) a b:=HS r _ _ a b (Nat.le_refl _) (by omega)
 rw[e]
 simp only[SZ]
 split
 ·congr 1
  refine DU fun x hx y hy=>HS r _ _ x y ?_ (Nat.le_refl _)
  have:=C2 hy
  split at hx
  ·have:=C2 hx;omega
  ·have:=FR hx;omega
 ·split
  ·congr 1
   refine DU fun x hx y hy=>HS r _ _ x y ?_ (Nat.le_refl _)
   have:=C2 hx
   have:=FR hy;omega
  ·congr 1
   refine DU fun x hx y hy=>HS r _ _ x y ?_ (Nat.le_refl _)
   have:=C2 hx
   have:=C2 hy;omega
theorem cY (r:List A2)(a b:A0):gv r a b =
  if 0<b.rule then .mk b.rule [] false (List.zipWith (gv r) (if 0<a.rule then a.args else FX (AA [(At r b).left]) (At r b).left a) b.args)
  else if 0<a.rule then .mk a.rule [] false (List.zipWith (gv r) a.args (FX (AA [(At r a).left]) (At r a).left b))
  else .mk 0 a.name a.var (List.zipWith (gv r) a.args b.args):=by
 have e:gv r a b=P0 r (As a+As b+1) a b:=GF r _ _ a b (Nat.le_refl _) (by omega)
 rw[e]
 simp only[P0]
 split
 ·congr 1
  refine DU fun x hx y hy=>GF r _ _ x y ?_ (Nat.le_refl _)
  have:=C2 hy
  split at hx
  ·have:=C2 hx;omega
  ·have:=FR hx;omega
 ·split
  ·congr 1
   refine DU fun x hx y hy=>GF r _ _ x y ?_ (Nat.le_refl _)
   have:=C2 hx
   have:=FR hy;omega
  ·congr 1
   refine DU fun x hx y hy=>GF r _ _ x y ?_ (Nat.le_refl _)
   have:=C2 hx
   have:=C2 hy;omega
theorem nL (r:List A2)(n:A9)(v:Bool)(la lb:List A0)(n':A9)(v':Bool):rest r (.mk 0 n v la) (.mk 0 n' v' lb)=.mk 0 n v (List.zipWith (rest r) la lb):=by
 rw[Lk,if_neg (by simp[A0.rule]),if_neg (by simp[A0.rule])];rfl
theorem tf (r:List A2)(n:A9)(v:Bool)(la lb:List A0)(n':A9)(v':Bool):gv r (.mk 0 n v la) (.mk 0 n' v' lb)=.mk 0 n v (List.zipWith (gv r) la lb):=by
 rw[cY,if_neg (by simp[A0.rule]),if_neg (by simp[A0.rule])];rfl
theorem vL (r:List A2)(f g:CT)(t:Term):rest r (pl f t) (pl g t)=pl (fun v=>rest r (f v) (g v)) t:=by
 induction t using Ai with
 | h t ih =>
 cases hv:t.var with
 | true=>rw[Jq hv,Jq hv,Jq hv]
 | false =>
  rw[IT hv,IT hv,IT hv,nL,Ll]
  congr 1
  exact List.map_congr_left fun a ha=>ih a ha
theorem Aax (r:List A2)(f g:CT)(t:Term):gv r (pl f t) (pl g t)=pl (fun v=>gv r (f v) (g v)) t:=by
 induction t using Ai with
 | h t ih =>
 cases hv:t.var with
 | true=>rw[Jq hv,Jq hv,Jq hv]
 | false =>
  rw[IT hv,IT hv,IT hv,tf,Ll]
  congr 1
  exact List.map_congr_left fun a ha=>ih a ha
theorem KR {g:CT}{t:Term}(h:t.var=false):(pl g t).rule=0:=by rw[IT h];rfl
theorem KW {r:List A2}(h:Df r){k:Nat}(hk:k<r.length)(α β:Bool)(f g:CT):rest r (fm r k α f) (fm r k β g)=if β then pl (fun v=>rest r (f v) (g v)) (Wh r k) else fm r k α (fun v=>rest r (f v) (g v)):=by
 obtain⟨q1,q2,q3,q4,q5,q6,q7⟩:=h.left hk
 cases β with
 | true =>
  have hb:fm r k true g=ru r k g:=rfl
  rw[hb,Lk,if_pos (by rw[IS];omega),O2,HI]
  have hx:(if 0<(fm r k α f).rule then (fm r k α f).args else FX (AA [(r.getD k default).left]) (r.getD k default).left (fm r k α f))=(ET r k).map f:=by
   cases α with
   | true=>exact if_pos (by show 0<(ru r k f).rule;rw[IS];omega)
   | false =>
    rw[if_neg (by show ¬ 0<(pl f (Io r k)).rule;rw[KR q1];omega)]
    exact TI q2 f
  rw[hx,Ll,NT]
  exact Qu _ fun v hv=>Tl _ (q7 v hv)
 | false =>
  cases α with
  | false=>exact vL r f g _
  | true =>
   have ha:fm r k true f=ru r k f:=rfl
   have hb:fm r k false g=pl g (Io r k):=rfl
   rw[ha,hb,Lk,if_neg (by rw[KR q1];omega),if_pos (by rw[IS];omega),O2,HI]
   have:FX (AA [(r.getD k default).left]) (r.getD k default).left (pl g (Io r k))=(ET r k).map g:=TI q2 g
   rw[this,Ll];rfl
theorem Aas {r:List A2}(h:Df r){k:Nat}(hk:k<r.length)(α β:Bool)(f g:CT):gv r (fm r k α f) (fm r k β g)=fm r k (α||β) (fun v=>gv r (f v) (g v)):=by
 obtain⟨q1,q2,q3,q4,q5,q6,q7⟩:=h.left hk
 cases β with
 | true =>
  have hb:fm r k true g=ru r k g:=rfl
  rw[hb,cY,if_pos (by rw[IS];omega),O2,HI,Bool.or_true]
  have hx:(if 0<(fm r k α f).rule then (fm r k α f).args else FX (AA [(r.getD k default).left]) (r.getD k default).left (fm r k α f))=(ET r k).map f:=by
   cases α with
   | true=>exact if_pos (by show 0<(ru r k f).rule;rw[IS];omega)
   | false =>
    rw[if_neg (by show ¬ 0<(pl f (Io r k)).rule;rw[KR q1];omega)]
    exact TI q2 f
  rw[hx,Ll];rfl
 | false =>
  cases α with
  | false=>exact Aax r f g _
  | true =>
   have ha:fm r k true f=ru r k f:=rfl
   have hb:fm r k false g=pl g (Io r k):=rfl
   rw[ha,hb,cY,if_neg (by rw[KR q1];omega),if_pos (by rw[IS];omega),O2,HI]
   have:FX (AA [(r.getD k default).left]) (r.getD k default).left (pl g (Io r k))=(ET r k).map g:=TI q2 g
   rw[this,Ll];rfl
end Go.Dw
end
section
namespace Go.Dw
theorem U2 {β:Type}{G:List FM->β->List FM×Int}:∀ (l:List β),oW G l->BH G [] l=([],0)->∀ y∈l,G [] y=([],0)
 | [],_,_,y,hy=>by cases hy
 | z::l,hm,h,y,hy=>by
  simp only[BH]at h
  rcases hm [] z (by simp)with h1 | ⟨h1,h2⟩
  ·rw[if_pos (by rw[h1];decide)]at h
   have:=congrArg Prod.snd h
   simp only at this
   rw[h1]at this;cases this
  ·rw[if_neg (by rw[h1];decide)]at h
   have h3:(G [] z).1=[]:=by
    rcases NJ l (G [] z).1 fun o w hw=>hm o w (by simp[hw])with h4 | ⟨h4,h5⟩
    ·rw[h]at h4;cases h4
    ·rw[h]at h5
     exact List.length_eq_zero_iff.1 (by simpa using h5)
   have h4:G [] z=([],0):=Prod.ext h3 h1
   rw[h3]at h
   rcases List.mem_cons.1 hy with rfl | hy
   ·exact h4
   ·exact U2 l (fun o w hw=>hm o w (by simp[hw])) h y hy
theorem wi {r:List A2}(h:(Po r).2=0)(h0:(Po r).1.length=0){i j:Nat}(hi:i<r.length)(hj:j<r.length){p:List Int}{y:Term}(hy:(p,y)∈Aq (r.getD i default).left [])(hv:y.var=false)(hne:¬ (i=j/\p=[])) :
  E0 (Cn [120] (r.getD i default)) (Cn [121] (r.getD j default)) p (app (NK [120] (AH [] (r.getD i default).left)) y)=(false,0):=by
 have hS:BH (J7 r) [] (List.range r.length)=([],0):=by
  unfold Po at h h0
  split at h
  ·rename_i hc;exact absurd h hc
  ·rename_i hc
   rw[if_neg hc]at h0
   split at h
   ·cases h
   ·rename_i hc2
    rw[if_neg hc2]at h0
    exact Prod.ext (List.length_eq_zero_iff.1 h0) (by simpa using hc)
 have h1:=U2 _ (VH r _) hS i (List.mem_range.2 hi)
 have h2:=U2 _ (QG r i _) h1 (p,y) hy
 have h3:=U2 _ (PJ r i p y _) h2 j (List.mem_range.2 hj)
 unfold I1 at h3
 rw[if_neg (by rw[hv];simp only[Bool.false_eq_true,false_or];exact hne)]at h3
 have he:=Sc (Cn [120] (r.getD i default)) (Cn [121] (r.getD j default)) p (app (NK [120] (AH [] (r.getD i default).left)) y)
 generalize E0 (Cn [120] (r.getD i default)) (Cn [121] (r.getD j default)) p (app (NK [120] (AH [] (r.getD i default).left)) y)=v at h3 he ⊢
 obtain⟨ok,e⟩:=v
 simp only at h3 he
 rcases he with rfl | rfl
 ·cases ok with
  | false=>rfl
  | true=>simp at h3
 ·simp at h3
theorem nt {a b:A2}{pos:List Int}{sub:Term}(hs:C9 sub)(hb:C9 b.left){θ:EP}(h:app θ sub=app θ b.left):E0 a b pos sub≠(false,0):=by
 obtain⟨_,_,_,_,hm⟩:=ZO (Vs:=vs2 sub b.left) (l:=[sub]) (m:=[b.left]) (fun z hz=>by rw[List.mem_singleton.1 hz];exact⟨hs.vf,fun w hw=>KO.2 (.inl hw)⟩) (fun z hz=>by rw[List.mem_singleton.1 hz];exact⟨hb.vf,fun w hw=>KO.2 (.inr hw)⟩) rfl
 have h1:=(hm θ (by simp[h])).1
 have h2:(F0 sub b.left).2.1=false->(F0 sub b.left).2.2=3:=by
  unfold F0 Kb
  rw[h1]
  simp only[Bool.true_eq_false,if_false]
  split
  ·intro _;rfl
  ·intro hc;cases hc
 intro he
 unfold E0 at he
 split at he
 ·rename_i hc
  have:=congrArg Prod.snd he
  simp only at this
  rw[h2 hc]at this;cases this
 ·split at he
  ·cases he
  ·split at he
   ·cases he
   ·cases he
theorem ba {a b:Nat}(ha:a<10)(hb:b<10)(h:UInt8.ofNat (48+a)=UInt8.ofNat (48+b)):a=b:=by
 have:=congrArg UInt8.toNat h
 simp only[UInt8.toNat_ofNat']at this
 omega
theorem tJ (n:Nat):Jc n≠[]:=by
 unfold Jc Lib.decDigits
 split<;>simp
theorem yO:∀ (m n:Nat),Jc m=Jc n->m=n:=by
 intro m
 induction m using Nat.strongRecOn with
 | ind m ih =>
 intro n h
 have hd:∀ k:Nat,Jc k=if k<10 then [UInt8.ofNat (48+k)] else Jc (k / 10)++[UInt8.ofNat (48+k % 10)]:=fun k=>by
  unfold Jc
  conv=>lhs;unfold Lib.decDigits
  split<;>rfl
 rw[hd m,hd n]at h
 by_cases hm:m<10
 ·rw[if_pos hm]at h
  by_cases hn:n<10
  ·rw[if_pos hn]at h
   injection h with h _
   exact ba hm hn h
  ·rw[if_neg hn]at h
   have:=congrArg List.length h
   simp only[List.length_append,List.length_singleton]at this
   have h2:=List.length_pos_iff.2 (tJ (n / 10))
   omega
 ·rw[if_neg hm]at h
  by_cases hn:n<10
  ·rw[if_pos hn]at h
   have:=congrArg List.length h
   simp only[List.length_append,List.length_singleton]at this
   have h2:=List.length_pos_iff.2 (tJ (m / 10))
   omega
  ·rw[if_neg hn]at h
   obtain⟨h1,h2⟩:=List.append_inj' h (by simp)
   injection h2 with h2 _
   have e1:=ih (m / 10) (by omega) (n / 10) h1
   have e2:=ba (a:=m % 10) (b:=n % 10) (by omega) (by omega) h2
   omega
theorem dW {l:List A9}{u v:A9}{j:Nat}(h1:F6 l u=some j)(h2:F6 l v=some j):u=v:=by
 induction l generalizing j with
 | nil=>cases h1
 | cons x l ih =>
  simp only[F6]at h1 h2
  by_cases e1:x=u
  ·rw[if_pos e1]at h1
   cases h1
   by_cases e2:x=v
   ·exact e1.symm.trans e2
   ·rw[if_neg e2]at h2
    cases hq:F6 l v with
    | none=>rw[hq]at h2;cases h2
    | some i=>rw[hq]at h2;cases h2
  ·rw[if_neg e1]at h1
   by_cases e2:x=v
   ·rw[if_pos e2]at h2
    cases h2
    cases hq:F6 l u with
    | none=>rw[hq]at h1;cases h1
    | some i=>rw[hq]at h1;cases h1
   ·rw[if_neg e2]at h2
    cases hq:F6 l u with
    | none=>rw[hq]at h1;cases h1
    | some i =>
     cases hq2:F6 l v with
     | none=>rw[hq2]at h2;cases h2
     | some k =>
      rw[hq]at h1
      rw[hq2]at h2
      simp only[Option.map_some,Option.some.injEq]at h1 h2
      have:i=k:=by omega
      subst this
      exact ih hq hq2
def pD (pre:A9)(l:List A9)(v:A9):Option A9:=(F6 l v).map fun j=>pre++Jc j
theorem cV {c d:UInt8}{l m:List A9}{u v:A9}{w:A9}(h1:pD [c] l u=some w)(h2:pD [d] m v=some w):c=d/\∃ j,F6 l u=some j/\F6 m v=some j:=by
 unfold pD at h1 h2
 cases hq:F6 l u with
 | none=>rw[hq]at h1;cases h1
 | some i =>
  cases hq2:F6 m v with
  | none=>rw[hq2]at h2;cases h2
  | some k =>
   rw[hq]at h1
   rw[hq2]at h2
   simp only[Option.map_some,Option.some.injEq]at h1 h2
   rw[<-h2]at h1
   simp only[List.cons_append,List.nil_append,List.cons.injEq]at h1
   refine⟨h1.1,i,rfl,?_⟩
   rw[yO i k h1.2]
open Classical in
noncomputable def ST (l m:List A9)(f g:EP):EP:=fun w =>
 if h:∃ u,pD [120] l u=some w then f h.choose else if h:∃ u,pD [121] m u=some w then g h.choose else C6 w
theorem zf {l m:List A9}{f g:EP}{v:A9}(hv:v∈l):app (ST l m f g) (NK [120] l v)=f v:=by
 unfold NK
 cases hq:F6 l v with
 | none=>exact absurd hv (Lv.1 hq)
 | some j =>
  have hn:pD [120] l v=some ([120]++Jc j):=by unfold pD;rw[hq];rfl
  rw[Aw (t:=C6 ([120]++Jc j)) rfl]
  show ST l m f g ([120]++Jc j)=f v
  unfold ST
  have h:∃ u,pD [120] l u=some ([120]++Jc j):=⟨v,hn⟩
  rw[dif_pos h]
  obtain⟨_,i,h1,h2⟩:=cV h.choose_spec hn
  rw[dW h1 h2]
theorem yI {l m:List A9}{f g:EP}{v:A9}(hv:v∈m):app (ST l m f g) (NK [121] m v)=g v:=by
 unfold NK
 cases hq:F6 m v with
 | none=>exact absurd hv (Lv.1 hq)
 | some j =>
  have hn:pD [121] m v=some ([121]++Jc j):=by unfold pD;rw[hq];rfl
  rw[Aw (t:=C6 ([121]++Jc j)) rfl]
  show ST l m f g ([121]++Jc j)=g v
  unfold ST
  have hno:¬ ∃ u,pD [120] l u=some ([121]++Jc j):=fun ⟨u,hu⟩=>by
   have:=(cV hu hn).1
   exact absurd this (by decide)
  have h:∃ u,pD [121] m u=some ([121]++Jc j):=⟨v,hn⟩
  rw[dif_neg hno,dif_pos h]
  obtain⟨_,i,h1,h2⟩:=cV h.choose_spec hn
  rw[dW h1 h2]
theorem Vl {v:A9}:∀ l:List Term,(∀ a∈l,0<Dg v a->CI v a=true)->0<C1 v l->∃ a∈l,CI v a=true
 | [],_,h=>by simp[C1]at h
 | a::l,hs,h=>by
  simp only[C1]at h
  by_cases ha:0<Dg v a
  ·exact⟨a,by simp,hs a (by simp) ha⟩
  ·obtain⟨b,hb,ho⟩:=Vl l (fun b hb=>hs b (by simp[hb])) (by omega)
   exact⟨b,by simp[hb],ho⟩
theorem kx {v:A9}(t:Term):0<Dg v t->CI v t=true:=by
 induction t using Ai with
 | h t ih =>
 intro h
 rw[LT]at h
 by_cases hc:(t.var&&decide (t.name=v))=true
 ·rw[Bool.and_eq_true,decide_eq_true_eq]at hc
  exact AE.2 (.inl hc)
 ·rw[if_neg hc]at h
  obtain⟨a,ha,ho⟩:=Vl t.args ih (by omega)
  exact AE.2 (.inr ⟨a,ha,ho⟩)
theorem bG {v:A9}:∀ (p:List Int)(t y:Term),Dm t p=some y->CI v y=true->CI v t=true
 | [],t,y,h,ho=>by simp only[Dm,Option.some.injEq]at h;subst h;exact ho
 | i::p,t,y,h,ho=>by
  simp only[Dm]at h
  split at h
  ·rename_i hi
   exact AE.2 (.inr ⟨_,A4 (by omega),bG p _ y h ho⟩)
  ·cases h
theorem Xl {r:List A2}(h:F4 r=(true,0)):Df r:=by
 have hsys:Ao r=0:=by
  unfold F4 at h
  by_cases hc:Ao r=0
  ·exact hc
  ·rw[if_pos hc]at h
   exact absurd (congrArg Prod.fst h) (by simp)
 obtain⟨hg,hrl⟩:=Ic hsys
 unfold F4 at h
 rw[if_neg (by simpa using hsys)]at h
 obtain⟨s1,s2⟩:=RQ hg
 have ha:(OB r).2=0:=by
  by_cases hc:(OB r).2=0
  ·exact hc
  ·rw[if_pos hc]at h
   exact absurd (congrArg Prod.fst h) (by simp)
 rw[if_neg (by simpa using ha)]at h
 have h:=congrArg Prod.fst h
 simp only[Bool.and_eq_true,decide_eq_true_eq,List.all_eq_true]at h
 obtain⟨h0,hlin⟩:=h
 refine⟨hsys,fun x hx v=>?_,fun i j hi hj p y hy hv hne f g he=>?_⟩
 ·have hb:=hlin x hx
  by_cases hc:Dg v x.left<=1
  ·exact hc
  ·exfalso
   have ho:=kx x.left (v:=v) (by omega)
   unfold PM at hb
   rw[Bool.not_eq_true']at hb
   rw[List.any_eq_false]at hb
   have:=hb v ((Fw v x.left []).2 (.inr ho))
   simp only[decide_eq_true_eq]at this
   omega
 ·have hxi:=hg _ (A4 hi)
  have hxj:=hg _ (A4 hj)
  have hvis:(p,y)∈Aq (r.getD i default).left []:=by
   have:=ah p (r.getD i default).left y [] hy
   simpa using this
  have hno:=wi (s1▸ha) (by rw[<-s2 ha];exact h0) hi hj hvis hv hne
  have hsub:=kY hxi hy
  have hgi:=Ly (pre:=[120]) rfl hxi
  have hgj:=Ly (pre:=[121]) rfl hxj
  refine nt (a:=Cn [120] (r.getD i default)) (b:=Cn [121] (r.getD j default)) (pos:=p) (C9.sub p hgi.l hsub) hgj.l (θ:=ST (AH [] (r.getD i default).left) (AH [] (r.getD j default).left) f g) ?_ hno
  have e1:app (ST (AH [] (r.getD i default).left) (AH [] (r.getD j default).left) f g) (app (NK [120] (AH [] (r.getD i default).left)) y)=app f y:=by
   rw[Oz]
   refine Du y fun v hvo=>zf ?_
   exact (HP (r.getD i default).left []).2 hxi.l.vf v (bG p _ y hy hvo)
  have e2:app (ST (AH [] (r.getD i default).left) (AH [] (r.getD j default).left) f g) (Cn [121] (r.getD j default)).left=app g (r.getD j default).left:=by
   show app _ (app (NK [121] (AH [] (r.getD j default).left)) (r.getD j default).left)=_
   rw[Oz]
   exact Du _ fun v hvo=>yI ((HP (r.getD j default).left []).2 hxj.l.vf v hvo)
  rw[e1,e2,he]
end Go.Dw
end
namespace Go.Dw
theorem yF {n k:Nat}{Z:List A0}(hk:k<n)(hZ:n<=Z.length):(Z.take k++List.replicate (n-k) zM).set k (Z.getD k default)=Z.take (k+1)++List.replicate (n-(k+1)) zM:=by
 have h1:(Z.take k).length=k:=by simp;omega
 rw[List.set_append,if_neg (by omega),h1,Nat.sub_self]
 obtain⟨m,hm⟩:∃ m,n-k=m+1:=⟨n-k-1,by omega⟩
 have h2:n-(k+1)=m:=by omega
 rw[hm,h2,List.replicate_succ,List.set_cons_zero,Aa (by omega),List.append_assoc];rfl
theorem Mf {F:A0->A0->A0}{g:Nat}{caps:List V}(hc:∀ σ,AS σ caps=caps)(a b:List A0)(hla:a.length<=b.length)(hl:a.length<2^38)(h:∀ k,k<a.length->PF g (AP (a.getD k default)::AP (b.getD k default)::caps) (AP (F (a.getD k default) (b.getD k default)))) :
  PF Mm [Av a,Av b,.fn (.func g) [] caps] (Av (List.zipWith F a b)):=by
 have hz:∀ τ,List.map (AS τ) (List.replicate a.length [V.int IntKind.i64 0,V.str [],V.bool false,V.sl 4 []])=(List.replicate a.length zM).map cM:=fun τ=>by
  rw[List.map_replicate,List.map_replicate];rfl
 have hz0:List.replicate a.length [V.int IntKind.i64 0,V.str [],V.bool false,V.sl 4 []]=(List.replicate a.length zM).map cM:=by rw[List.map_replicate];rfl
 have m1:a.length<=Ah:=by unfold Ah;omega
 have m2:a.length*56<=Ah:=by unfold Ah;omega
 have hZl:(List.zipWith F a b).length=a.length:=by rw[List.length_zipWith];omega
 refine Ab J6.ok rfl ?_
 push_cast[hc,hz,hz0,m1,m2,Bq]
 refine Ac (n:=a.length) (R:=fun k=>J6.L3 (Av a) (Av b) (.fn (.func g) [] caps) (.rw 0 4 a.length) (.int .i64 a.length) (.int .i64 k) 0 [.row A8 4 (((List.zipWith F a b).take k++List.replicate (a.length-k) zM).map cM)] (Bo 0 J6.rs fun x' H'=>x'=Av (List.zipWith F a b)/\H'=[])) ?_ ?_ 0 (by omega)
 ·intro k hk ih
  have hkb:k<b.length:=by omega
  have hcall:=h k hk
  have hge:(List.zipWith F a b).getD k default=F (a.getD k default) (b.getD k default):=by
   have e1:(List.zipWith F a b)[k]?=some (F (a.getD k default) (b.getD k default)):=by
    have ea:a[k]?=some (a.getD k default):=by simp[List.getD_eq_getElem?_getD,hk]
    have eb:b[k]?=some (b.getD k default):=by simp[List.getD_eq_getElem?_getD,hkb]
    rw[List.getElem?_zipWith,ea,eb]
   rw[List.getD_eq_getElem?_getD,e1];rfl
  have hset:=yF (n:=a.length) (k:=k) (Z:=List.zipWith F a b) hk (by omega)
  rw[<-hset,hge]at ih
  have hlen:((List.zipWith F a b).take k++List.replicate (a.length-k) zM).length=a.length:=by simp;omega
  generalize (List.zipWith F a b).take k++List.replicate (a.length-k) zM=L at ih hlen
  generalize F (a.getD k default) (b.getD k default)=y at hcall ih
  have hset2:(L.map cM).set k (put 0 (cM y) ((L.map cM).getD k []))=(L.set k y).map cM:=by
   have e:(L.map cM).getD k []=cM (L.getD k default):=by simp[List.getD_eq_getElem?_getD,hlen,hk]
   rw[e,List.map_set];rfl
  have hg1:(L.map cM)[k]?=some (cM (L.getD k default)):=by simp[List.getD_eq_getElem?_getD,hlen,hk]
  refine A5.2 ?_
  push_cast[BC hk,BC hkb,hc]
  refine .of hcall ?_
  push_cast[hset2,hg1,hc,Bq,List.length_map,hlen,BC hk,CD (show k<2^62 by omega)]
  push_cast at ih
  first | exact ih | exact⟨by omega,ih⟩
 ·refine A5.2 ?_
  have hfin:((List.zipWith F a b).take a.length++List.replicate (a.length-a.length) zM)=List.zipWith F a b:=by
   rw[List.take_of_length_le (by omega),Nat.sub_self,List.replicate_zero,List.append_nil]
  rw[hfin]
  push_cast[AZ (Nat.le_refl _),List.length_map,hZl,Bq]
  exact A1 (by push_cast[J6.rs,Bq];rfl)
def qZ (n:Nat)(out:List A0):List Ob:=[.dead,.row A8 4 (out.map cM),.cells QL [.rw 1 4 n]]
theorem rx (n:Nat)(out:List A0):Je 3 (qZ n out):=⟨rfl,by
 show [A6 (AM 3) .dead,A6 (AM 3) (.row A8 4 (out.map cM)),A6 (AM 3) (.cells QL [.rw 1 4 n])]=_
 have h3:AM 3 1=some 1:=rfl
 push_cast[h3,Bq,List.map_map];rfl⟩
theorem mu (n:Nat)(out:List A0)(J:List Ob):cut 3 (qZ n out++J)=qZ n out:=by
 show [A6 (AM 4) .dead,A6 (AM 4) (.row A8 4 (out.map cM)),A6 (AM 4) (.cells QL [.rw 1 4 n])]=_
 have h3:AM 4 1=some 1:=rfl
 push_cast[h3,Bq];rfl
def qI (L:Term)(g:CT)(vars:List A9)(j:Nat)(out:List A0):Prop :=
 out.length=vars.length/\∀ k,k<vars.length->(∃ x∈(Aq L []).take j,x.2.var=true/\x.2.name=vars.getD k default)->out.getD k default=g (vars.getD k default)
theorem uq {L:Term}{g:CT}{vars:List A9}{j:Nat}{out:List A0}(h:qI L g vars j out)(hj:j<(Aq L []).length)(hv:((Aq L []).getD j default).2.var=false):qI L g vars (j+1) out:=by
 refine⟨h.1,fun k hk hx=>h.2 k hk ?_⟩
 obtain⟨x,hx,h1,h2⟩:=hx
 rw[Aa hj,List.mem_append,List.mem_singleton]at hx
 rcases hx with hx | rfl
 ·exact⟨x,hx,h1,h2⟩
 ·rw[hv]at h1;cases h1
theorem qb {L:Term}{g:CT}{vars:List A9}{j:Nat}{out:List A0}(hnd:vars.Nodup)(h:qI L g vars j out)(hj:j<(Aq L []).length){x:List Int×Term}(hx0:(Aq L []).getD j default=x){i:Nat}(hi:i<vars.length)(hn:vars.getD i default=x.2.name):qI L g vars (j+1) (out.set i (g x.2.name)):=by
 refine⟨by rw[List.length_set,h.1],fun k hk hx=>?_⟩
 obtain⟨y,hy,h1,h2⟩:=hx
 by_cases hik:i=k
 ·subst hik
  rw[hn]
  simp[List.getD_eq_getElem?_getD,h.1,hi]
 ·have e:(out.set i (g x.2.name)).getD k default=out.getD k default:=by simp[List.getD_eq_getElem?_getD,hik]
  rw[e]
  refine h.2 k hk ?_
  rw[Aa hj,List.mem_append,List.mem_singleton]at hy
  rcases hy with hy | rfl
  ·exact⟨y,hy,h1,h2⟩
  ·exact absurd (by
    have e1:vars[i]?=vars[k]?:=by
     rw[hx0]at h2
     have a1:vars[i]?=some (vars.getD i default):=by simp[List.getD_eq_getElem?_getD,hi]
     have a2:vars[k]?=some (vars.getD k default):=by simp[List.getD_eq_getElem?_getD,hk]
     rw[a1,a2,hn,h2]
    exact (List.getElem?_inj hi hnd).1 e1) hik
theorem yE {y z:Term}{i:Int}{p:List Int}(hf:vfl y=true)(h:Dm y (i::p)=some z):y.var=false/\0<=i/\i.toNat<y.args.length/\Dm (y.args.getD i.toNat default) p=some z:=by
 simp only[Dm]at h
 split at h
 ·rename_i hi
  have hv:y.var=false:=by
   cases hv:y.var with
   | false=>rfl
   | true=>rw[(Lm.1 hf).1 hv]at hi;simp at hi;omega
  exact⟨hv,by omega,by omega,h⟩
 ·cases h
theorem jG {vars:List A9}{g:CT}{x:List Int×Term}(O:Ob)(hO:A6 (AM 6) O=O)(out:List A0)(hol:out.length=vars.length)(hvl:vars.length<2^38)(y0:Term)(hy0:vfl y0=true)(hsub:Dm y0 x.1=some x.2)(hv:x.2.var=true)(hm:x.2.name∈vars)(hpl:x.1.length<2^38)(Q:X->T->List Ob->Prop)
  (hq:∀ T J,Q .fall T (qZ vars.length (out.set (Mu x.2.name vars) (g x.2.name))++O::J)) :
  GH.L3 (.ro [Bw vars] 0) (.ptr 2 0) (.ro (cT x.2) 0) (.ptr 5 0) (I0 x.1) (.int .i64 x.1.length) (.int .i64 0) 4 (qZ vars.length out++[O,.dead,.cells A8 (cM (pl g y0))]) Q:=by
 refine Ac (n:=x.1.length) (R:=fun k=>∀ y,vfl y=true->Dm y (x.1.drop k)=some x.2->GH.L3 (.ro [Bw vars] 0) (.ptr 2 0) (.ro (cT x.2) 0) (.ptr 5 0) (I0 x.1) (.int .i64 x.1.length) (.int .i64 k) 4 (qZ vars.length out++[O,.dead,.cells A8 (cM (pl g y))]) Q) ?_ ?_ 0 (Nat.zero_le _) y0 hy0 (by rw[List.drop_zero];exact hsub)
 ·intro k hk ih y hy hs
  rw[Ag hk]at hs
  obtain⟨h1,h2,h3,h4⟩:=yE hy hs
  have ih:=ih _ (BS hy (A4 h3)) h4
  simp only[qZ,List.cons_append,List.nil_append]at ih ⊢
  refine A5.2 ?_
  have e:((y.args.map (pl g)).getD (x.1.getD k default).toNat default)=pl g (y.args.getD (x.1.getD k default).toNat default):=by
   generalize (x.1.getD k default).toNat=i at h3
   simp[List.getD_eq_getElem?_getD,h3]
  have e2:(A0.mk 0 y.name false (y.args.map (pl g))).args=y.args.map (pl g):=rfl
  push_cast[BC hk,IT h1,hO,Bq,e2,e,List.length_map,CD (show k<2^62 by omega)]
  exact⟨⟨by omega,by omega⟩,ih⟩
 ·intro y hy hs
  rw[List.drop_length]at hs
  have hs:y=x.2:=by simpa[Dm]using hs
  subst hs
  have hix:=FA vars x.2.name (by omega)
  obtain⟨i1,i2,i3⟩:=Gc hm
  rw[i1]at hix
  simp only[qZ,List.cons_append,List.nil_append]
  refine A5.2 ?_
  push_cast[AZ (Nat.le_refl _),hO]
  refine .of hix ?_
  have hset:(out.map cM).set (Mu x.2.name vars) (put 0 (cM (g x.2.name)) ((out.map cM).getD (Mu x.2.name vars) []))=(out.set (Mu x.2.name vars) (g x.2.name)).map cM:=by
   have e:(out.map cM).getD (Mu x.2.name vars) []=cM (out.getD (Mu x.2.name vars) default):=by simp[List.getD_eq_getElem?_getD,hol,i2]
   rw[e,List.map_set];rfl
  push_cast[hO,Jq hv,hset,Bq,List.length_map,hol]
  exact⟨by omega,i2,hq _ [_,_]⟩
theorem Va {L:Term}(hL:vfl L=true)(hs:size L<2^38)(g:CT):PF JE [An L,AP (pl g L)] (Av ((AA [L]).map g)):=by
 have hvs:=EH [L] (by simp only[Ae];omega)
 have hw:=MW L
 have hvl:(AA [L]).length<2^38:=by have:=GJ [L];simp only[Ae]at this;omega
 have hnd:=KU L
 generalize hvars:AA [L]=vars at hvs hvl hnd
 have hz:∀ τ,List.map (AS τ) (List.replicate vars.length [V.int IntKind.i64 0,V.str [],V.bool false,V.sl 4 []])=(List.replicate vars.length zM).map cM:=fun τ=>by
  rw[List.map_replicate,List.map_replicate];rfl
 have hz0:List.replicate vars.length [V.int IntKind.i64 0,V.str [],V.bool false,V.sl 4 []]=(List.replicate vars.length zM).map cM:=by rw[List.map_replicate];rfl
 have m1:vars.length<=Ah:=by unfold Ah;omega
 have m2:vars.length*56<=Ah:=by unfold Ah;omega
 refine Ab GH.ok rfl ?_
 push_cast
 refine .of hvs ?_
 push_cast[hz,hz0,m1,m2,Bq]
 refine .of hw ?_
 push_cast[hz,hz0,Bq]
 refine Ax.rf Dh [] [.ro (cT L) 0] ((Aq L []).map KI) (fun j H1=>∃ out,H1=qZ vars.length out/\qI L g vars j out) (fun _ _=>False) rfl (IC L (by omega)) ?_ ⟨List.replicate vars.length zM,rfl,by simp,fun k hk hx=>by simp at hx⟩ ?_ ?_ ?_ ?_ ?_ ?_
 ·intro it hit
  obtain⟨x,_,rfl⟩:=List.mem_map.1 hit
  rfl
 ·push_cast
 ·rintro j H1 ⟨out,rfl,_⟩
  exact rx _ out
 ·rintro e H1 h
  exact h.elim
 ·rintro lo rr j it H1 hit ⟨out,rfl,hI⟩
  rw[List.getElem?_map]at hit
  cases hx:(Aq L [])[j]? with
  | none=>rw[hx]at hit;cases hit
  | some x =>
  rw[hx]at hit
  have hit:it=KI x:=by simpa using hit.symm
  subst hit
  have hj:j<(Aq L []).length:=(List.getElem?_eq_some_iff.1 hx).1
  have hxj:(Aq L []).getD j default=x:=by rw[List.getD_eq_getElem?_getD,hx];rfl
  have hxm:x∈Aq L []:=hxj▸A4 hj
  push_cast[Q5,KI,qZ]
  refine A5.2 ?_
  cases hv:x.2.var with
  | false =>
   push_cast[hv]
   refine⟨rfl,out,mu _ out _,uq hI hj (by rw[hxj];exact hv)⟩
  | true =>
   push_cast[hv]
   have hv1:=Qy L [] x hxm
   obtain⟨p,hp,h2⟩:=hv1
   rw[List.nil_append]at hp
   rw[<-hp]at h2
   have h3:=(R7 L [] x hxm).2
   have hm:x.2.name∈vars:=by
    rw[<-hvars,E5]
    exact eo _ _ _ h2 hv
   obtain⟨i1,i2,i3⟩:=Gc hm
   rw[Bq]
   refine jG (vars:=vars) (g:=g) (x:=x) (.lp lo .busy rr _) ?_ out hI.1 hvl L hL h2 hv hm (by simp only[List.length_nil]at h3;omega) _ ?_
   ·push_cast
   ·intro T J
    exact⟨rfl,_,mu _ _ (_::J),qb hnd hI hj hxj i2 i3⟩
 ·rintro H1 ⟨out,rfl,hI⟩
  have hout:out=vars.map g:=by
   refine List.ext_getElem? fun k=>?_
   by_cases hk:k<vars.length
   ·have e:=hI.2 k hk (by
     rw[List.length_map,List.take_length]
     have hm:vars.getD k default∈AA [L]:=by rw[hvars];exact A4 hk
     have hne:Xo L (vars.getD k default)≠[]:=by rw[uO];exact UL _ _ ((E5 _ _).1 hm)
     unfold Xo W8 at hne
     obtain⟨x,hx⟩:=List.exists_mem_of_ne_nil _ (fun h=>hne (by rw[h];rfl):((Aq L []).filter (isV (vars.getD k default)))≠[])
     obtain⟨h1,h2⟩:=List.mem_filter.1 hx
     simp only[isV,Bool.and_eq_true,decide_eq_true_eq]at h2
     exact⟨x,h1,by first | exact h2 | exact⟨h2.1,h2.2.symm⟩⟩)
    have e1:out[k]?=some (out.getD k default):=by simp[List.getD_eq_getElem?_getD,hI.1,hk]
    have e2:(vars.map g)[k]?=some (g (vars.getD k default)):=by simp[List.getD_eq_getElem?_getD,hk]
    rw[e1,e2,e]
   ·rw[List.getElem?_eq_none (by have:=hI.1;omega),List.getElem?_eq_none (by rw[List.length_map];omega)]
  subst hout
  push_cast[qZ,Bq]
  refine⟨by rw[List.length_map,List.length_map],A1 ?_⟩
  push_cast[GH.rs,Bq]
  rfl
 ·rintro e H1 h
  exact h.elim
theorem NP (r:List A2)(m:A0)(hm:m.rule=0):PF FD [AP m,.ro [.int .i64 0] 0,.ro [Al r] 0] (Av m.args):=by
 refine Ab DX.ok rfl ?_
 push_cast[hm]
 refine A1 ?_
 push_cast[DX.rs]
theorem NC {r:List A2}{k:Nat}(hk:k<r.length)(hkl:k<2^40)(hv:(Io r k).var=false)(hf:vfl (Io r k)=true)(hs:size (Io r k)<2^38)(β:Bool)(g:CT):PF FD [AP (fm r k β g),.ro [.int .i64 (k+1)] 0,.ro [Al r] 0] (Av ((ET r k).map g)):=by
 refine Ab DX.ok rfl ?_
 cases β with
 | true =>
  have e:fm r k true g=ru r k g:=rfl
  have h1:(0:Int)<k+1:=by omega
  push_cast[e,IS,HI,h1]
  refine A1 ?_
  push_cast[DX.rs]
 | false =>
  have e:fm r k false g=pl g (Io r k):=rfl
  have hu:=Va hf hs g
  have h0:(pl g (Io r k)).rule=0:=KR hv
  have h1:((k:Int)+1=0)=False:=by simp;omega
  have hw:IntKind.i64.wrap ((k:Int)+1-1)=k:=by
   rw[Int.add_sub_cancel];exact Bn (by omega) (by omega)
  push_cast[e,h0,h1,hw]
  refine⟨by omega,.of hu ?_⟩
  push_cast
  refine A1 ?_
  push_cast[DX.rs]
  rfl
theorem SD (r:List A2)(a b:A0)(ha:a.rule=0)(hb:b.rule=0):PF Hg [Al r,AP a,AP b] (.tup [.int .i64 0,Av a.args,Av b.args]):=by
 refine Ab Gr.ok rfl ?_
 push_cast[ha,hb]
 refine .of (NP r a ha) ?_
 push_cast
 refine .of (NP r b hb) ?_
 push_cast
 refine A1 ?_
 push_cast[Gr.rs]
theorem LZ {r:List A2}{k:Nat}(hk:k<r.length)(hkl:k<2^40)(hv:(Io r k).var=false)(hf:vfl (Io r k)=true)(hs:size (Io r k)<2^38)(β γ:Bool)(f g:CT)(hβ:β=true\/γ=true):PF Hg [Al r,AP (fm r k β f),AP (fm r k γ g)] (.tup [.int .i64 (k+1),Av ((ET r k).map f),Av ((ET r k).map g)]):=by
 have c1:=NC hk hkl hv hf hs β f
 have c2:=NC hk hkl hv hf hs γ g
 have hr:∀ (δ:Bool)(f:CT),(fm r k δ f).rule=if δ then (k:Int)+1 else 0:=fun δ f=>by
  cases δ with
  | true=>rfl
  | false=>exact KR hv
 have hm:(if (fm r k β f).rule<(fm r k γ g).rule then (fm r k γ g).rule else (fm r k β f).rule)=(k:Int)+1:=by
  rw[hr,hr]
  rcases hβ with rfl | rfl
  ·cases γ<;>simp<;>omega
  ·cases β<;>simp<;>omega
 refine Ab Gr.ok rfl ?_
 push_cast[hm]
 refine .of c1 ?_
 push_cast
 refine .of c2 ?_
 push_cast
 refine A1 ?_
 push_cast[Gr.rs]
theorem II {r:List A2}{a b y:A0}(h:PF Ba [Al r,AP a,AP b] (AP y)):PF Dq [AP a,AP b,.ro [Al r] 0] (AP y):=by
 refine Ab Kw.ok rfl ?_
 push_cast
 refine .of h ?_
 push_cast
 refine A1 ?_
 push_cast[Kw.rs]
theorem Wn {r:List A2}{a b:A0}(ha:a.rule=0)(hb:b.rule=0)(hl:a.args.length<=b.args.length)(hl2:a.args.length<2^38)(F:A0->A0->A0)
  (hF:∀ k,k<a.args.length->PF Ba [Al r,AP (a.args.getD k default),AP (b.args.getD k default)] (AP (F (a.args.getD k default) (b.args.getD k default)))) :
  PF Ba [Al r,AP a,AP b] (AP (.mk 0 a.name a.var (List.zipWith F a.args b.args))):=by
 have hz:=Mf (F:=F) (g:=Dq) (caps:=[.ro [Al r] 0]) (fun σ=>by push_cast) a.args b.args hl hl2 (fun k hk=>II (hF k hk))
 refine Ab EK.ok rfl ?_
 push_cast
 refine .of (SD r a b ha hb) ?_
 push_cast
 refine .of hz ?_
 push_cast
 refine A1 ?_
 push_cast[EK.rs]
 first | rfl | (rw[AP,Xp];rfl) | (simp only[AP,cM];rfl)
theorem W7 {r:List A2}{k:Nat}(hk:k<r.length)(hkl:k<2^40)(hv:(Io r k).var=false)(hf:vfl (Io r k)=true)(hs:size (Io r k)<2^38)(f g:CT)(F:A0->A0->A0)
  (hF:∀ v,v∈ET r k->PF Ba [Al r,AP (f v),AP (g v)] (AP (F (f v) (g v)))) :
  PF Ba [Al r,AP (fm r k true f),AP (fm r k false g)] (AP (.mk (k+1) [] false (List.zipWith F ((ET r k).map f) ((ET r k).map g)))):=by
 have hvl:(ET r k).length<2^38:=by have:=GJ [Io r k];simp only[Ae]at this;unfold ET;omega
 have hz:=Mf (F:=F) (g:=Dq) (caps:=[.ro [Al r] 0]) (fun σ=>by push_cast) ((ET r k).map f) ((ET r k).map g) (by simp) (by simpa using hvl) (fun j hj=>by
  rw[List.length_map]at hj
  have e:∀ f:CT,((ET r k).map f).getD j default=f ((ET r k).getD j default):=fun f=>by simp[List.getD_eq_getElem?_getD,hj]
  rw[e,e]
  exact II (hF _ (A4 hj)))
 refine Ab EK.ok rfl ?_
 push_cast
 refine .of (LZ hk hkl hv hf hs true false f g (.inl rfl)) ?_
 push_cast
 refine .of hz ?_
 have e0:(fm r k false g).rule=0:=KR hv
 have h1:((k:Int)+1=0)=False:=by simp;omega
 push_cast[e0,h1]
 refine A1 ?_
 push_cast[EK.rs]
 first | rfl | (rw[AP,Xp];rfl) | (simp only[AP,cM];rfl)
theorem W9 {r:List A2}{k:Nat}(hk:k<r.length)(hkl:k<2^40)(hv:(Io r k).var=false)(hf:vfl (Io r k)=true)(hs:size (Io r k)<2^38)(hs2:size (Wh r k)<2^40)(ho:∀ v,CI v (Wh r k)=true->v∈ET r k)(β:Bool)(f g:CT)(F:A0->A0->A0)
  (hF:∀ v,v∈ET r k->PF Ba [Al r,AP (f v),AP (g v)] (AP (F (f v) (g v)))) :
  PF Ba [Al r,AP (fm r k β f),AP (fm r k true g)] (AP (Fo (ET r k) (List.zipWith F ((ET r k).map f) ((ET r k).map g)) (Wh r k))):=by
 have hvl:(ET r k).length<2^38:=by have:=GJ [Io r k];simp only[Ae]at this;unfold ET;omega
 have hz:=Mf (F:=F) (g:=Dq) (caps:=[.ro [Al r] 0]) (fun σ=>by push_cast) ((ET r k).map f) ((ET r k).map g) (by simp) (by simpa using hvl) (fun j hj=>by
  rw[List.length_map]at hj
  have e:∀ f:CT,((ET r k).map f).getD j default=f ((ET r k).getD j default):=fun f=>by simp[List.getD_eq_getElem?_getD,hj]
  rw[e,e]
  exact II (hF _ (A4 hj)))
 have hvs:=EH [Io r k] (by simp only[Ae];omega)
 have hp:=cc (ET r k) (List.zipWith F ((ET r k).map f) ((ET r k).map g)) (by simp) (by omega) (Wh r k) hs2 ho
 refine Ab EK.ok rfl ?_
 push_cast
 refine .of (LZ hk hkl hv hf hs β true f g (.inr rfl)) ?_
 push_cast
 refine .of hz ?_
 have e0:(fm r k true g).rule=(k:Int)+1:=rfl
 have h1:((k:Int)+1=0)=False:=by simp;omega
 have hw:IntKind.i64.wrap ((k:Int)+1-1)=k:=by
  rw[Int.add_sub_cancel];exact Bn (by omega) (by omega)
 push_cast[e0,h1,hw]
 refine⟨by omega,by omega,.of hvs ?_⟩
 push_cast
 refine .of hp ?_
 push_cast
 refine A1 ?_
 push_cast[EK.rs]
end Go.Dw
section
namespace Go.Dw
section
variable {r:List A2} (h:Df r)
include h
theorem Df.shapes {a b:A0}(ha:Hm r a)(hb:Hm r b)(hs:Ad r A2.left b=Ad r A2.left a) :
  (a.rule=0/\b.rule=0/\b=.mk 0 a.name a.var b.args/\b.args.map (Ad r A2.left)=a.args.map (Ad r A2.left)) \/
  ∃ (k:Nat) (α β:Bool) (f g:CT),k<r.length/\a=fm r k α f/\b=fm r k β g/\(α=true\/β=true)/\∀ v∈ET r k,Hm r (f v)/\Hm r (g v)/\Ad r A2.left (g v)=Ad r A2.left (f v)/\As (f v)+As (g v)<As a+As b:=by
 by_cases h0:0<a.rule
 ·obtain⟨k,hk,hkr,hak,hlen⟩:=Wy ha h0
  obtain⟨β,g,h1,h2,h3⟩:=h.form ha hb hk hak hs
  refine .inr ⟨k,true,β,_,g,hk,hak,h1,.inl rfl,fun v hv=>?_⟩
  have hm:=WE hlen hv
  obtain⟨q1,q2,q3⟩:=h3 v hv
  have:=CP hm
  have:=AU a
  exact⟨ha.arg hm,q1,q2,by omega⟩
 ·have ha0:a.rule=0:=by have:=ha.rule0.1;omega
  by_cases h1:0<b.rule
  ·obtain⟨k,hk,hkr,hbk,hlen⟩:=Wy hb h1
   obtain⟨α,f,h1,h2,h3⟩:=h.form hb ha hk hbk hs.symm
   refine .inr ⟨k,α,true,f,_,hk,h1,hbk,.inr rfl,fun v hv=>?_⟩
   have hm:=WE hlen hv
   obtain⟨q1,q2,q3⟩:=h3 v hv
   have:=CP hm
   have:=AU b
   exact⟨q1,hb.arg hm,q2.symm,by omega⟩
  ·have hb0:b.rule=0:=by have:=hb.rule0.1;omega
   obtain⟨q1,q2⟩:=mC ha0 hb0 hs
   exact .inl ⟨ha0,hb0,q1,q2⟩
theorem HE (hrl:r.length<=64)(hsz:∀ k,k<r.length->size (Io r k)<2^38/\size (Wh r k)<2^38):∀ (n:Nat)(a b:A0),As a+As b<=n->Hm r a->Hm r b->Ad r A2.left b=Ad r A2.left a->PF Ba [Al r,AP a,AP b] (AP (rest r a b))
 | 0,a,b,hn,_,_,_=>by have:=DZ a;omega
 | n+1,a,b,hn,ha,hb,hs=>by
  rcases h.shapes ha hb hs with ⟨a0,b0,hbe,hm⟩|⟨k,α,β,f,g,hk,rfl,rfl,hαβ,hp⟩
  ·have hl:b.args.length=a.args.length:=by have:=congrArg List.length hm;simpa using this
   have e:rest r a b=.mk 0 a.name a.var (List.zipWith (rest r) a.args b.args):=by
    rw[Lk,if_neg (by omega),if_neg (by omega)]
   rw[e]
   refine Wn a0 b0 (by omega) ?_ (rest r) fun k hk=>?_
   ·have hf:=F5 ha.fm
    unfold Bv at hf
    rw[if_neg (by omega)]at hf
    split at hf
    ·simp only[Bool.and_eq_true,decide_eq_true_eq]at hf;omega
    ·simp only[Bool.and_eq_true,decide_eq_true_eq]at hf;omega
   ·have h1:=A4 hk
    have h2:=A4 (l:=b.args) (k:=k) (by omega)
    have:=C2 h1
    have:=C2 h2
    refine HE hrl hsz n _ _ (by omega) (ha.arg h1) (hb.arg h2) ?_
    have e:=congrArg (fun l=>l.getD k default) hm
    have ea:(a.args.map (Ad r A2.left)).getD k default=Ad r A2.left (a.args.getD k default):=by simp[List.getD_eq_getElem?_getD,hk]
    have eb:(b.args.map (Ad r A2.left)).getD k default=Ad r A2.left (b.args.getD k default):=by simp[List.getD_eq_getElem?_getD,show k<b.args.length by omega]
    rw[<-ea,<-eb]
    exact e
  ·obtain⟨q1,q2,q3,q4,q5,q6,q7⟩:=h.left hk
   obtain⟨s1,s2⟩:=hsz k hk
   have hF:∀ v,v∈ET r k->PF Ba [Al r,AP (f v),AP (g v)] (AP (rest r (f v) (g v))):=fun v hv=>by
    obtain⟨p1,p2,p3,p4⟩:=hp v hv
    exact HE hrl hsz n _ _ (by omega) p1 p2 p3
   rw[KW h hk]
   cases β with
   | true =>
    have:=W9 hk (by omega) q1 q2 s1 (by omega) q7 α f g (rest r) hF
    rw[Ll,NT]at this
    rw[if_pos rfl]
    have e:pl (WA (ET r k) (List.map (fun x=>rest r (f x) (g x)) (ET r k))) (Wh r k)=pl (fun v=>rest r (f v) (g v)) (Wh r k):=Qu _ fun v hv=>Tl _ (q7 v hv)
    rw[e]at this
    exact this
   | false =>
    have hα:α=true:=by simpa using hαβ
    subst hα
    have:=W7 hk (by omega) q1 q2 s1 f g (rest r) hF
    rw[Ll]at this
    exact this
end
end Go.Dw
end
section
namespace Go.Dw
theorem rU {r:List A2}{a:A0}(ha:Hm r a)(h0:a.rule=0){l:List A0}(hl:l.length=a.args.length)(h:∀ x∈l,Hm r x):Hm r (.mk 0 a.name a.var l):=by
 refine⟨?_,?_⟩
 ·rw[He,Bool.and_eq_true,List.all_eq_true]
  exact⟨by simp[Cb,A0.rule],fun x hx=>(h x hx).rg⟩
 ·rw[He,Bool.and_eq_true,List.all_eq_true]
  refine⟨?_,fun x hx=>(h x hx).fm⟩
  have hf:=F5 ha.fm
  cases a with
  | mk k n v l0 =>
   have h0:k=0:=h0
   subst h0
   have hl:l.length=l0.length:=hl
   unfold Bv at hf ⊢
   simp only[A0.rule,A0.var,A0.args,A0.name,hl]at hf ⊢
   exact hf
section
variable {r:List A2} (h:Df r)
include h
theorem Df.rest_ok:∀ (n:Nat)(a b:A0),As a+As b<=n->Hm r a->Hm r b->Ad r A2.left b=Ad r A2.left a->Hm r (rest r a b)/\Ad r A2.left (rest r a b)=Ad r A2.right b
 | 0,a,b,hn,_,_,_=>by have:=DZ a;omega
 | n+1,a,b,hn,ha,hb,hs=>by
  rcases h.shapes ha hb hs with ⟨a0,b0,hbe,hm⟩|⟨k,α,β,f,g,hk,rfl,rfl,hαβ,hp⟩
  ·have hl:b.args.length=a.args.length:=by have:=congrArg List.length hm;simpa using this
   have e:rest r a b=.mk 0 a.name a.var (List.zipWith (rest r) a.args b.args):=by
    rw[Lk,if_neg (by omega),if_neg (by omega)]
   have hi:∀ k,k<a.args.length->Hm r (rest r (a.args.getD k default) (b.args.getD k default))/\Ad r A2.left (rest r (a.args.getD k default) (b.args.getD k default))=Ad r A2.right (b.args.getD k default):=fun k hk=>by
    have h1:=A4 hk
    have h2:=A4 (l:=b.args) (k:=k) (by omega)
    have:=C2 h1
    have:=C2 h2
    refine Df.rest_ok n _ _ (by omega) (ha.arg h1) (hb.arg h2) ?_
    have e:=congrArg (fun l=>l.getD k default) hm
    have ea:(a.args.map (Ad r A2.left)).getD k default=Ad r A2.left (a.args.getD k default):=by simp[List.getD_eq_getElem?_getD,hk]
    have eb:(b.args.map (Ad r A2.left)).getD k default=Ad r A2.left (b.args.getD k default):=by simp[List.getD_eq_getElem?_getD,show k<b.args.length by omega]
    rw[<-ea,<-eb]
    exact e
   have hz:∀ k,k<a.args.length->(List.zipWith (rest r) a.args b.args)[k]?=some (rest r (a.args.getD k default) (b.args.getD k default)):=fun k hk=>by
    have ea:a.args[k]?=some (a.args.getD k default):=by simp[List.getD_eq_getElem?_getD,hk]
    have eb:b.args[k]?=some (b.args.getD k default):=by simp[List.getD_eq_getElem?_getD,show k<b.args.length by omega]
    rw[List.getElem?_zipWith,ea,eb]
   have hzl:(List.zipWith (rest r) a.args b.args).length=a.args.length:=by rw[List.length_zipWith];omega
   rw[e]
   refine⟨rU ha a0 hzl fun x hx=>?_,?_⟩
   ·obtain⟨k,hk,rfl⟩:=List.getElem_of_mem hx
    have h1:=hz k (by omega)
    rw[List.getElem?_eq_getElem hk]at h1
    injection h1 with h1
    rw[h1];exact (hi k (by omega)).1
   ·rw[DK,if_pos (show (A0.mk 0 a.name a.var (List.zipWith (rest r) a.args b.args)).rule=0 from rfl),DK,if_pos b0]
    have en:b.name=a.name:=by have:=congrArg A0.name hbe;exact this
    have ev:b.var=a.var:=by have:=congrArg A0.var hbe;exact this
    rw[en,ev]
    congr 1
    refine List.ext_getElem? fun k=>?_
    by_cases hk:k<a.args.length
    ·have eb:b.args[k]?=some (b.args.getD k default):=by simp[List.getD_eq_getElem?_getD,show k<b.args.length by omega]
     rw[List.getElem?_map,List.getElem?_map,eb]
     have e2:(A0.mk 0 a.name a.var (List.zipWith (rest r) a.args b.args)).args=List.zipWith (rest r) a.args b.args:=rfl
     rw[e2,hz k hk]
     exact congrArg some (hi k hk).2
    ·rw[List.getElem?_eq_none (by rw[List.length_map];show (List.zipWith (rest r) a.args b.args).length<=k;omega),List.getElem?_eq_none (by rw[List.length_map];omega)]
  ·obtain⟨q1,q2,q3,q4,q5,q6,q7⟩:=h.left hk
   have hi:∀ v∈ET r k,Hm r (rest r (f v) (g v))/\Ad r A2.left (rest r (f v) (g v))=Ad r A2.right (g v):=fun v hv=>by
    obtain⟨p1,p2,p3,p4⟩:=hp v hv
    exact Df.rest_ok n _ _ (by omega) p1 p2 p3
   rw[KW h hk,h.tgt_fm hk]
   cases β with
   | true =>
    refine⟨uI _ q5 fun v hv=>(hi v (q7 v hv)).1,?_⟩
    rw[if_pos rfl,if_pos rfl,Ws]
    exact Du _ fun v hv=>(hi v (q7 v hv)).2
   | false =>
    refine⟨h.ok_fm hk fun v hv=>(hi v hv).1,?_⟩
    have e:=h.src_fm hk (b:=α) (g:=fun v=>rest r (f v) (g v))
    refine e.trans ?_
    rw[if_neg (by simp)]
    exact Du _ fun v hv=>(hi v (K3.2 hv)).2
end
end Go.Dw
end
namespace Go.Dw
def Sd (σ:EP)(L:Term):List A9->Nat
 | []=>0
 | v::vs=>(if CI v L then size (σ v) else 0)+Sd σ L vs
def RC (σ:EP)(l:List Term):List A9->Nat
 | []=>0
 | v::vs=>(if EW v l then size (σ v) else 0)+RC σ l vs
theorem ji (σ:EP)(a:Term)(l:List Term)(vs:List A9):RC σ (a::l) vs<=Sd σ a vs+RC σ l vs:=by
 induction vs with
 | nil=>simp[RC,Sd]
 | cons v vs ih =>
  simp only[RC,Sd,EW,Bool.or_eq_true]
  by_cases h1:CI v a=true<;>by_cases h2:EW v l=true<;>simp[h1,h2]<;>omega
theorem gG (σ:EP)(n:A9):∀ vs:List A9,vs.Nodup->Sd σ (.mk n true []) vs<=size (σ n)
 | [],_=>by simp[Sd]
 | v::vs,h=>by
  obtain⟨h1,h2⟩:=List.nodup_cons.1 h
  have ih:=gG σ n vs h2
  simp only[Sd]
  by_cases he:n=v
  ·subst he
   have h0:∀ ws:List A9,n∉ws->Sd σ (.mk n true []) ws=0:=by
    intro ws
    induction ws with
    | nil=>intro _;rfl
    | cons w ws ihw =>
     intro hw
     simp only[List.mem_cons,not_or]at hw
     simp only[Sd,ihw hw.2,CI,EW,Bool.or_false,Bool.true_and,decide_eq_true_eq]
     rw[if_neg hw.1]
   rw[h0 vs h1]
   split<;>omega
  ·have:CI v (.mk n true [])=false:=by simp[CI,EW,he]
   rw[this]
   simp only[Bool.false_eq_true,if_false,Nat.zero_add]
   exact ih
mutual
theorem lV (σ:EP)(vs:List A9)(hn:vs.Nodup):∀ L:Term,vfl L=true->Sd σ L vs<=size (app σ L)/\(L.var=false->Sd σ L vs<size (app σ L))
 | .mk n true l,hs=>by
  have ha:l=[]:=(Lm.1 hs).1 rfl
  subst ha
  refine⟨?_,fun h=>by cases h⟩
  rw[Ql]
  exact gG σ n vs hn
 | .mk n false l,hs=>by
  have h:=eV σ vs hn l (Lm.1 hs).2
  have e:∀ ws,Sd σ (.mk n false l) ws=RC σ l ws:=by
   intro ws
   induction ws with
   | nil=>rfl
   | cons w ws ih=>simp only[Sd,RC,CI,Bool.false_and,Bool.false_or,ih]
  rw[e]
  have hi:size (app σ (.mk n false l))=1+Ae (l.map (app σ)):=by
   rw[Ql];rfl
  rw[hi]
  exact⟨by omega,fun _=>by omega⟩
theorem eV (σ:EP)(vs:List A9)(hn:vs.Nodup):∀ l:List Term,(∀ a∈l,vfl a=true)->RC σ l vs<=Ae (l.map (app σ))
 | [],_=>by
  have:∀ ws,RC σ [] ws=0:=by
   intro ws
   induction ws with
   | nil=>rfl
   | cons w ws ih=>simp[RC,EW,ih]
  rw[this];exact Nat.zero_le _
 | a::l,hs=>by
  have h1:=ji σ a l vs
  have h2:=(lV σ vs hn a (hs a (by simp))).1
  have h3:=eV σ vs hn l fun b hb=>hs b (by simp[hb])
  simp only[List.map_cons,Ae];omega
end
theorem eY (f:EP)(L:Term):∀ vs:List A9,(∀ v∈vs,CI v L=true)->Sd f L vs=Ae (vs.map f)
 | [],_=>rfl
 | v::vs,h=>by
  simp only[Sd,List.map_cons,Ae]
  rw[if_pos (h v (by simp)),eY f L vs fun w hw=>h w (by simp[hw])]
theorem RN {F:A0->Term}:∀ {l:List A0},(∀ a∈l,As a<=size (F a))->BB l<=Ae (l.map F)
 | [],_=>Nat.le_refl _
 | a::l,h=>by
  have h1:=h a (by simp)
  have h2:=RN (l:=l) fun x hx=>h x (by simp[hx])
  simp only[BB,List.map_cons,Ae]
  omega
theorem Df.size_le {r:List A2}(h:Df r):∀ (n:Nat)(m:A0),As m<=n->Hm r m->As m<=size (Ad r A2.left m)
 | 0,m,hn,_=>by have:=DZ m;omega
 | n+1,m,hn,hm=>by
  have ih:BB m.args<=Ae (m.args.map (Ad r A2.left)):=RN fun a ha=>h.size_le n a (by have:=C2 ha;omega) (hm.arg ha)
  have hsz:=AU m
  by_cases h0:0<m.rule
  ·obtain⟨k,hk,hkr,hmk,hlen⟩:=Wy hm h0
   obtain⟨q1,q2,q3,q4,q5,q6,q7⟩:=h.left hk
   have e:Ad r A2.left m=app (fun v=>Ad r A2.left (WA (ET r k) m.args v)) (Io r k):=(congrArg (Ad r A2.left) hmk).trans (QY fun v hv=>K3.2 hv)
   have h1:=(lV (fun v=>Ad r A2.left (WA (ET r k) m.args v)) (ET r k) (KU _) (Io r k) q2).2 q1
   rw[eY _ _ _ fun v hv=>K3.1 hv]at h1
   have e2:(ET r k).map (fun v=>Ad r A2.left (WA (ET r k) m.args v))=m.args.map (Ad r A2.left):=by
    have e3:m.args=(ET r k).map (WA (ET r k) m.args):=congrArg A0.args hmk
    conv=>rhs;rw[e3]
    rw[List.map_map];rfl
   rw[e2]at h1
   rw[e];omega
  ·have m0:m.rule=0:=by have:=hm.rule0.1;omega
   rw[DK,if_pos m0]
   simp only[size]
   omega
theorem tX {r:List A2}{a b:A0}(h:Ph r a b=0):EY r=0/\Ec r a=0/\Ec r b=0/\HM r a=HM r b:=by
 unfold Ph at h
 split at h
 ·rename_i hc;exact absurd h hc
 ·rename_i h1
  split at h
  ·rename_i hc;exact absurd h hc
  ·rename_i h2
   split at h
   ·rename_i hc;exact absurd h hc
   ·rename_i h3
    split at h
    ·rename_i h4
     exact⟨Classical.not_not.1 h1,Classical.not_not.1 h2,Classical.not_not.1 h3,h4⟩
    ·cases h
theorem oq {r:List A2}{a b:A0}(h:Ph r a b=0):Df r/\Hm r a/\Hm r b/\Ad r A2.left b=Ad r A2.left a/\BJ (Ad r A2.left a)=true/\BJ (Ad r A2.right b)=true/\BJ (Ad r A2.right a)=true/\r.length<=64/\∀ k,k<r.length->size (Io r k)<2^38/\size (Wh r k)<2^38:=by
 obtain⟨h1,h2,h3,h4⟩:=tX h
 obtain⟨a1,a2,a3,a4,a5⟩:=LW h2
 obtain⟨b1,b2,b3,b4,b5⟩:=LW h3
 have hr:=Y8 h1
 have hg:=Ic hr.2
 refine⟨Xl hr.1,(GY a1).2.1,(GY b1).2.1,by rw[<-a2,<-b2,h4],a4,b5,a5,hg.2,fun k hk=>?_⟩
 have hx:=hg.1 _ (A4 hk)
 have:=hx.l.sz
 have:=hx.r.sz
 exact⟨by unfold Io;omega,by unfold Wh;omega⟩
noncomputable def yu (r:List A2)(a b:A0):V:=if Ph r a b≠0 then WX none (Ph r a b) else Uf (rest r a b)
theorem kL (m:A0):Uf m=WX (if F7 m then some m else none) (if F7 m then 0 else 3):=by unfold Uf;split<;>rfl
theorem KB {r:List A2}{a b:A0}(hr:KJ r<2^38)(ha:mb a<2^38)(hb:mb b<2^38):PF ER [Al r,AP a,AP b] (yu r a b):=by
 have h0:=Wg hr ha hb
 unfold yu
 refine Ab Ey.ok rfl ?_
 push_cast
 refine .of h0 ?_
 by_cases hp:Ph r a b=0
 ·obtain⟨g1,g2,g3,g4,g5,g6,g7,g8,g9⟩:=oq hp
  have h1:=HE g1 g8 g9 _ a b (Nat.le_refl _) g2 g3 g4
  have hk:=g1.rest_ok _ a b (Nat.le_refl _) g2 g3 g4
  have h2:=VE (rest r a b) (by
   have:=g1.size_le _ _ (Nat.le_refl _) hk.1
   rw[hk.2]at this
   have:size (Ad r A2.right b)<=4000:=by
    unfold BJ at g6
    simp only[Bool.and_eq_true,decide_eq_true_eq]at g6
    exact g6.1
   omega)
  rw[if_neg (by simp[hp]),kL]
  rw[kL]at h2
  push_cast[hp]
  refine .of h1 ?_
  push_cast
  refine .of h2 ?_
  split
  ·push_cast[WX]
   exact A1 (by push_cast[Ey.rs])
  ·push_cast[WX]
   exact A1 (by push_cast[Ey.rs])
 ·rw[if_pos hp]
  push_cast[hp]
  exact A1 (by push_cast[Ey.rs,WX];rfl)
end Go.Dw
section
namespace Go.Dw
theorem bT {α β γ:Type}[Inhabited α][Inhabited β]{F G:α->β->γ}:∀ {l:List α} {m:List β},m.length=l.length->(∀ k,k<l.length->F (l.getD k default) (m.getD k default)=G (l.getD k default) (m.getD k default))->List.zipWith F l m=List.zipWith G l m
 | [],_,_,_=>by simp
 | _::_,[],hl,_=>by simp at hl
 | a::l,b::m,hl,h=>by
  have h0:F a b=G a b:=h 0 (by simp)
  have ih:=bT (F:=F) (G:=G) (l:=l) (m:=m) (by simpa using hl) fun k hk=>h (k+1) (by simpa using hk)
  simp only[List.zipWith_cons_cons]
  rw[ih,h0]
theorem UM {r:List A2}{F:A2->Term}(n:A9)(v:Bool)(l:List A0):Ad r F (.mk 0 n v l)=.mk n v (l.map (Ad r F)):=by
 rw[DK,if_pos (show (A0.mk 0 n v l).rule=0 from rfl)];rfl
theorem lz {α β:Type}[Inhabited α][Inhabited β]{F:α->β}{l m:List α}(h:l.map F=m.map F){k:Nat}(hk:k<m.length):F (l.getD k default)=F (m.getD k default):=by
 have hl:l.length=m.length:=by have:=congrArg List.length h;simpa using this
 have e:=congrArg (fun l=>l.getD k default) h
 have ea:(l.map F).getD k default=F (l.getD k default):=by simp[List.getD_eq_getElem?_getD,show k<l.length by omega]
 have eb:(m.map F).getD k default=F (m.getD k default):=by simp[List.getD_eq_getElem?_getD,hk]
 rw[<-ea,<-eb];exact e
section
variable {r:List A2} (h:Df r)
include h
theorem Df.tgt_rest {k:Nat}(hk:k<r.length){α β:Bool}(hαβ:α=true\/β=true)(R:CT):Ad r A2.right (if β then pl R (Wh r k) else fm r k α R)=app (fun v=>Ad r A2.right (R v)) (Wh r k):=by
 cases β with
 | true=>rw[if_pos rfl];exact Ws _
 | false =>
  have hα:α=true:=by simpa using hαβ
  subst hα
  rw[if_neg (by simp),h.tgt_fm hk,if_pos rfl]
theorem Df.diamond:∀ (n:Nat)(a b:A0),As a+As b<=n->Hm r a->Hm r b->Ad r A2.left b=Ad r A2.left a->Ad r A2.right (rest r a b)=Ad r A2.right (gv r a b)/\Ad r A2.right (rest r b a)=Ad r A2.right (gv r a b)
 | 0,a,b,hn,_,_,_=>by have:=DZ a;omega
 | n+1,a,b,hn,ha,hb,hs=>by
  rcases h.shapes ha hb hs with ⟨a0,b0,hbe,hm⟩|⟨k,α,β,f,g,hk,rfl,rfl,hαβ,hp⟩
  ·have hl:b.args.length=a.args.length:=by have:=congrArg List.length hm;simpa using this
   have e:rest r a b=.mk 0 a.name a.var (List.zipWith (rest r) a.args b.args):=by
    rw[Lk,if_neg (by omega),if_neg (by omega)]
   have e1:rest r b a=.mk 0 b.name b.var (List.zipWith (rest r) b.args a.args):=by
    rw[Lk,if_neg (by omega),if_neg (by omega)]
   have e2:gv r a b=.mk 0 a.name a.var (List.zipWith (gv r) a.args b.args):=by
    rw[cY,if_neg (by omega),if_neg (by omega)]
   have hi:∀ k,k<a.args.length->_:=fun k hk=>by
    have h1:=A4 hk
    have h2:=A4 (l:=b.args) (k:=k) (by omega)
    have:=C2 h1
    have:=C2 h2
    exact Df.diamond n (a.args.getD k default) (b.args.getD k default) (by omega) (ha.arg h1) (hb.arg h2) (lz hm hk)
   have en:b.name=a.name:=by have:=congrArg A0.name hbe;exact this
   have ev:b.var=a.var:=by have:=congrArg A0.var hbe;exact this
   rw[e,e1,e2,en,ev,UM,UM,UM,List.map_zipWith,List.map_zipWith,List.map_zipWith]
   refine⟨?_,?_⟩
   ·have e3:=bT (F:=fun x y=>Ad r A2.right (rest r x y)) (G:=fun x y=>Ad r A2.right (gv r x y)) hl fun k hk=>(hi k hk).1
    rw[e3]
   ·have e3:=bT (F:=fun x y=>Ad r A2.right (rest r y x)) (G:=fun x y=>Ad r A2.right (gv r x y)) hl fun k hk=>(hi k hk).2
    have e4:List.zipWith (fun x y=>Ad r A2.right (rest r x y)) b.args a.args=List.zipWith (fun x y=>Ad r A2.right (rest r y x)) a.args b.args:=List.zipWith_comm ..
    rw[e4,e3]
  ·obtain⟨q1,q2,q3,q4,q5,q6,q7⟩:=h.left hk
   have hi:∀ v∈ET r k,_:=fun v hv=>by
    obtain⟨p1,p2,p3,p4⟩:=hp v hv
    exact Df.diamond n (f v) (g v) (by omega) p1 p2 p3
   have e:(α||β)=true:=by rcases hαβ with rfl | rfl<;>simp
   rw[KW h hk,KW h hk,Aas h hk,e,h.tgt_rest hk hαβ,h.tgt_rest hk hαβ.symm,h.tgt_fm hk,if_pos rfl]
   exact⟨Du _ fun v hv=>(hi v (q7 v hv)).1,Du _ fun v hv=>(hi v (q7 v hv)).2⟩
end
end Go.Dw
end
section
namespace Go.Dw
section
variable {r:List A2} (h:Df r)
include h
omit h in
theorem Ade {r:List A2}{a b:A0}(ha:a.rule=0)(hb:b.rule=0):rest r a b=.mk 0 a.name a.var (List.zipWith (rest r) a.args b.args):=by
 rw[Lk,if_neg (by omega),if_neg (by omega)]
end
end Go.Dw
end
namespace Go.Dw
noncomputable def iY (r:List A2)(a b:A0):A0×Int:=if Ph r a b≠0 then (zM,Ph r a b) else if F7 (rest r a b)=true then (rest r a b,0) else (zM,3)
theorem sn (r:List A2)(a b:A0):yu r a b=.tup [AP (iY r a b).1,.int .i64 (iY r a b).2]:=by
 unfold yu iY Uf
 split
 ·rfl
 ·split<;>rfl
theorem OT {m:A0}(h:F7 m=true):As m<=4000/\AR m<=200:=by
 unfold F7 at h
 simpa using h
theorem kO {r:List A2}{m:A0}{f:A2->Term}(h:FC r m=0):Ga r f m=if BJ (Ad r f m)=true then (some (Ad r f m),0) else (none,3):=by
 unfold Ga;rw[if_neg (by simpa using h)]
theorem um {r:List A2}{m:A0}(h:FC r m=0):(BJ (Ad r A2.left m)=true->tb (Ad r A2.left m)<2^28)/\(BJ (Ad r A2.right m)=true->tb (Ad r A2.right m)<2^28):=by
 obtain⟨d1,d2,d3,d4⟩:=GY h
 have key:∀ f:A2->Term,(∀ x∈r,short (f x)=true)->BJ (Ad r f m)=true->tb (Ad r f m)<2^28:=fun f hf hft=>by
  have h2:=TU _ (jH r f hf m d2)
  have h3:=QO hft
  omega
 exact⟨key _ fun x hx=>(GX d1 x hx).1.1,key _ fun x hx=>(GX d1 x hx).2.1⟩
def jI (m:A0):Bool:=decide (m.args.length<=4096)
theorem gz (D:Nat):∀ (l:List A0)(v:Nat),(∀ a∈l,CH a<=D)->v<=4000->E7 v l<=4000+D
 | [],v,_,hv=>by simp only[E7];omega
 | a::l,v,h,hv=>by
  simp only[E7]
  have ha:=h a (by simp)
  split
  ·omega
  ·exact gz D l _ (fun x hx=>h x (by simp[hx])) (by omega)
theorem xS (m:A0):CH m<=4001*AR m:=by
 induction m using BU with
 | h m ih =>
 rw[SB,CB]
 have:=gz (4001*AT m.args) m.args 1 (fun a ha=>by
  have h1:=ih a ha
  have h2:=Si ha
  have:=Nat.mul_le_mul_left 4001 h2
  omega) (by omega)
 omega
theorem cv (m:A0):Gp jI m=true->AR m<2^40->PF GS [AP m] (.int .i64 (CH m)):=by
 induction m using BU with
 | h m ih =>
 intro hw hd
 refine Ab E8.ok rfl ?_
 have hl:m.args.length<=4096:=by have:=F5 hw;unfold jI at this;simpa using this
 have hda:=CB m
 rw[SB]
 push_cast
 refine Ac (n:=m.args.length) (R:=fun k=>∀ v:Nat,E7 v (m.args.drop k)=E7 1 m.args->v<=4000->E8.L3 (.int .i64 v) (Av m.args) (.int .i64 m.args.length) (.int .i64 k) 0 [] (Bo 0 E8.rs fun x' H'=>x'=.int .i64 (E7 1 m.args)/\H'=[])) ?_ ?_ 0 (Nat.zero_le _) 1 (by simp) (by omega)
 ·intro k hk ih2 v hv hb
  have hm:=A4 hk
  have hmd:=Si hm
  have hsp:=xS (m.args.getD k default)
  have hih:=ih _ hm (NI hw hm) (by omega)
  rw[Ag hk]at hv
  simp only[E7]at hv
  generalize hx:m.args.getD k default=a at hm hv hsp hih hmd
  refine A5.2 ?_
  push_cast[BC hk,hx]
  refine .of hih ?_
  have hw:IntKind.i64.wrap ((v:Int)+(CH a:Int))=((v+CH a:Nat):Int):=by rw[Bn (by omega) (by omega)];omega
  by_cases hc:4000<v+CH a
  ·rw[if_pos hc]at hv
   have hci:((4000:Int)<((v+CH a:Nat):Int))=True:=eq_true (by omega)
   rw[hv]at hw hci
   generalize E7 1 m.args=w at hw hci
   push_cast[hw,hci]
   exact A1 (by push_cast[E8.rs])
  ·rw[if_neg hc]at hv
   have hci:((4000:Int)<((v+CH a:Nat):Int))=False:=eq_false (by omega)
   have:=ih2 (v+CH a) hv (by omega)
   generalize v+CH a=w at hw hci this
   push_cast[hw,hci,CD (show k<2^62 by omega)]
   exact this
 ·intro v hv hb
  rw[Ak]at hv
  refine A5.2 ?_
  push_cast[AZ (Nat.le_refl _)]
  refine A1 ?_
  push_cast[E8.rs,<-hv]
  rfl
theorem Zv (m:A0):Gp jI m=true->AR m<2^40->PF FV [AP m] (.int .i64 (AR m)):=by
 induction m using BU with
 | h m ih =>
 intro hw hd
 refine Ab GI.ok rfl ?_
 have hl:m.args.length<=4096:=by have:=F5 hw;unfold jI at this;simpa using this
 have hda:=CB m
 push_cast
 refine Ac (n:=m.args.length) (R:=fun k=>GI.L3 (.int .i64 (AT (m.args.take k):Nat)) (Av m.args) (.int .i64 m.args.length) (.int .i64 k) 0 [] _) ?_ ?_ 0 (by omega)
 ·intro k hk ih2
  have h1:=Ge _ _ hk
  have hm:=A4 hk
  have:=Si hm
  refine A5.2 ?_
  push_cast[BC hk]
  refine .of (ih _ hm (NI hw hm) (by omega)) ?_
  push_cast[CD (show k<2^62 by omega)]
  rw[h1]at ih2
  exact ih2
 ·refine A5.2 ?_
  push_cast[AZ (Nat.le_refl _),List.take_length]
  rw[Bn (by omega) (by omega)]
  refine A1 ?_
  push_cast[GI.rs,List.take_length,CB m]
theorem ff (m:A0)(hw:Gp jI m=true)(hd:AR m<2^40):PF Fd [AP m] (Uf m):=by
 have hsz:=XJ m
 refine Ab Hi.ok rfl ?_
 push_cast
 refine .of (cv m hw hd) ?_
 unfold Uf F7
 by_cases h1:4000<CH m
 ·have hi:((4000:Int)<(CH m:Int))=True:=eq_true (by omega)
  have h1':¬ As m<=4000:=by omega
  push_cast[hi,h1']
  exact A1 (by push_cast[Hi.rs,dq];rfl)
 ·have hi:((4000:Int)<(CH m:Int))=False:=eq_false (by omega)
  have h1':As m<=4000:=by omega
  push_cast[hi]
  refine .of (Zv m hw hd) ?_
  by_cases h2:200<AR m
  ·have hj:((200:Int)<(AR m:Int))=True:=eq_true (by omega)
   have h2':¬ AR m<=200:=by omega
   push_cast[hj,h2']
   exact A1 (by push_cast[Hi.rs,dq];rfl)
  ·have hj:((200:Int)<(AR m:Int))=False:=eq_false (by omega)
   have h2':AR m<=200:=by omega
   push_cast[hj]
   refine .of (Vz m (by omega)) ?_
   push_cast
   exact A1 (by push_cast[Hi.rs];simp[h1',h2'];rfl)
theorem AbX {r:List A2}(hl:∀ x∈r,(AA [x.left]).length<=4096)(m:A0):Hm r m->Gp jI m=true:=by
 induction m using BU with
 | h m ih =>
 intro hm
 rw[He,Bool.and_eq_true,List.all_eq_true]
 refine⟨?_,fun a ha=>ih a ha (hm.arg ha)⟩
 unfold jI
 rw[decide_eq_true_eq]
 by_cases h0:m.rule=0
 ·have hf:=F5 hm.fm
  unfold Bv at hf
  rw[if_neg (by omega)]at hf
  split at hf
  ·simp only[Bool.and_eq_true,decide_eq_true_eq]at hf;omega
  ·simp only[Bool.and_eq_true,decide_eq_true_eq]at hf;omega
 ·obtain⟨k1,k2,k3,k4,k5,k6⟩:=hm.rule h0
  have:=hl _ k3
  omega
theorem K6 {l:List A0}{D:Nat}(h:∀ a∈l,AR a<=D):AT l<=D:=by
 induction l with
 | nil=>exact Nat.zero_le _
 | cons a l ih =>
  have:=h a (by simp)
  have:=ih fun x hx=>h x (by simp[hx])
  simp only[AT];omega
theorem fM {g:CT}{M:Nat}(t:Term):(∀ v,CI v t=true->AR (g v)<=M)->AR (pl g t)<=depth t+M:=by
 induction t using Ai with
 | h t ih =>
 intro hg
 cases hv:t.var with
 | true=>rw[Jq hv];have:=hg _ (AE.2 (.inl ⟨hv,rfl⟩));omega
 | false =>
  rw[IT hv,CB]
  have h1:=Fz t
  have:AT (t.args.map (pl g))<=AD t.args+M:=by
   refine K6 fun x hx=>?_
   obtain⟨a,ha,rfl⟩:=List.mem_map.1 hx
   have:=ih a ha fun v hv=>hg v (AE.2 (.inr ⟨a,ha,hv⟩))
   have:=Lu ha
   omega
  show AT (t.args.map (pl g))+1<=_
  omega
theorem SW {F:A0->A0->A0}{x:A0}:∀ {l m:List A0},x∈List.zipWith F l m->∃ a∈l,∃ b∈m,x=F a b
 | [],_,h=>by simp at h
 | _::_,[],h=>by simp at h
 | a::l,b::m,h=>by
  rw[List.zipWith_cons_cons]at h
  rcases List.mem_cons.1 h with rfl | h
  ·exact⟨a,by simp,b,by simp,rfl⟩
  ·obtain⟨c,hc,d,hd,e⟩:=SW h
   exact⟨c,by simp[hc],d,by simp[hd],e⟩
theorem Mt {r:List A2}{D:Nat}(hD:∀ m:A0,depth (At r m).right+1<=D):∀ (n:Nat)(a b:A0),As a+As b<=n->AR (rest r a b)<=D*n
 | 0,a,b,hn=>by have:=DZ a;omega
 | n+1,a,b,hn=>by
  have ha:=DZ a
  have hb:=DZ b
  have hD1:=hD a
  have hn1:1<=n:=by omega
  have hDn:D<=D*n:=Nat.le_mul_of_pos_right D hn1
  have hs:D*(n+1)=D*n+D:=Nat.mul_succ D n
  rw[Lk]
  split
  ·rw[NT]
   refine Nat.le_trans (fM (M:=D*n) _ fun v hv=>?_) (by have:=hD b;omega)
   unfold WA
   by_cases hi:Mu v (AA [(At r b).left])<(List.zipWith (rest r) (if 0<a.rule then a.args else FX (AA [(At r b).left]) (At r b).left a) b.args).length
   ·obtain⟨x,hx,y,hy,e⟩:=SW (A4 (l:=List.zipWith (rest r) (if 0<a.rule then a.args else FX (AA [(At r b).left]) (At r b).left a) b.args) hi)
    rw[e]
    refine Mt hD n x y ?_
    have:=C2 hy
    split at hx
    ·have:=C2 hx;omega
    ·have:=FR hx;omega
   ·rw[List.getD_eq_getElem?_getD,List.getElem?_eq_none (by omega)]
    have:AR (Option.getD none default:A0)=1:=rfl
    omega
  ·split
   ·rw[CB]
    have:AT (List.zipWith (rest r) a.args (FX (AA [(At r a).left]) (At r a).left b))<=D*n:=K6 fun z hz=>by
     obtain⟨x,hx,y,hy,rfl⟩:=SW hz
     have:=C2 hx
     have:=FR hy
     exact Mt hD n x y (by omega)
    show AT (List.zipWith (rest r) a.args (FX (AA [(At r a).left]) (At r a).left b))+1<=_
    omega
   ·rw[CB]
    have:AT (List.zipWith (rest r) a.args b.args)<=D*n:=K6 fun z hz=>by
     obtain⟨x,hx,y,hy,rfl⟩:=SW hz
     have:=C2 hx
     have:=C2 hy
     exact Mt hD n x y (by omega)
    show AT (List.zipWith (rest r) a.args b.args)+1<=_
    omega
def cN (m:A0):List V:=cM m++[.int .i64 ((cap (As m):Nat):Int),.int .i64 ((AR m:Nat):Int)]
def PR (m:A0):V:=.agg (cN m)
abbrev VK (l:List A0):V:=DT cN 6 l
theorem pS (t:A0):KL (PR t)=some (cN t):=rfl
theorem AbE (t:A0):(cN t).length=6:=rfl
theorem AeJ (t:A0):(cN t)[4]?=some (.int .i64 ((cap (As t):Nat):Int)):=rfl
theorem Ae6 (t:A0):(cN t)[5]?=some (.int .i64 ((AR t:Nat):Int)):=rfl
theorem Acb (t:A0):sub 0 6 (cN t)=cN t:=rfl
theorem yW (t:A0):sub 0 4 (cN t)=cM t:=rfl
theorem ny (t:A0):V.agg (cN t)=PR t:=rfl
theorem le {σ:Nat->Option Nat}(t:A0):AS σ (cN t)=cN t:=rfl
theorem tx {σ:Nat->Option Nat}(t:A0):ren σ (PR t)=PR t:=by unfold PR;rw[Hd,le]
theorem AcL (t:A0)(a b c d e f:V):put 0 (cN t) [a,b,c,d,e,f]=cN t:=rfl
attribute [push_cast] AcL pS AbE AeJ Ae6 Acb yW ny tx le
theorem S4 (m:A0)(l:List A0)(hl:l.length<2^40)(hd:∀ a∈l,AR a<2^50):PF Js [AP m,VK l] (PR (.mk m.rule m.name m.var l)):=by
 have hD:=K6 (l:=l) (D:=2^50) fun a ha=>Nat.le_of_lt (hd a ha)
 refine Ab Qh.ok rfl ?_
 push_cast
 refine Ac (n:=l.length) (R:=fun k=>Qh.L3 (.ptr 0 0) (.ptr 1 0) (VK l) (.int .i64 l.length) (.int .i64 k) 0
  [.cells Ay [.int .i64 0,.str [],.bool false,.sl 4 [],.int .i64 0,.int .i64 0],.cells Ay [.int .i64 m.rule,.str m.name,.bool m.var,Bf cM 2 4 (l.take k),.int .i64 ((cap (1+BB (l.take k)):Nat):Int),.int .i64 ((AT (l.take k):Nat):Int)],.arr A8 4 k]
  (Bo 0 Qh.rs fun x' H'=>x'=PR (.mk m.rule m.name m.var l)/\H'=[])) ?_ ?_ 0 (by omega)
 ·intro k hk ih
  have hm:=A4 hk
  have hmd:=hd _ hm
  have hlt:(l.take k).length=k:=by simp;omega
  have h1:=JH l k hk
  have h2:=Ge l k hk
  have hDk:AT (l.take k)<=2^50:=K6 fun a ha=>Nat.le_of_lt (hd a (List.mem_of_mem_take ha))
  rw[h1,h2,Aa hk,<-Nat.add_assoc,<-YF]at ih
  refine A5.2 ?_
  have c1:=V3 (1+BB (l.take k))
  have c2:=V3 (As (l.getD k default))
  have hw:=Bn (x:=((cap (1+BB (l.take k)):Nat):Int)+((cap (As (l.getD k default)):Nat):Int)) (by omega) (by omega)
  push_cast[BC hk,hlt,CD (show k<2^62 by omega),hw]
  push_cast at ih
  exact⟨by unfold Ah;omega,ih⟩
 ·refine A5.2 ?_
  have hw:IntKind.i64.wrap (((AT l:Nat):Int)+1)=((AT l+1:Nat):Int):=by rw[Bn (by omega) (by omega)];omega
  push_cast[AZ (Nat.le_refl _),List.take_length,hw]
  refine A1 ?_
  push_cast[Qh.rs,hw]
  unfold PR cN
  rw[Xp,AU,CB]
  push_cast
  exact⟨rfl,rfl,rfl,rfl,rfl,rfl⟩
theorem iT (vars:List A9)(xs:List A0)(hv:vars.length<2^40)(hl:xs.length=vars.length)(M:Nat)(hM:∀ x∈xs,AR x<=M)(hMM:M<2^45) :
  ∀ t:Term,size t<2^39->vfl t=true->(∀ v,CI v t=true->v∈vars)->PF OU [An t,Bw vars,VK xs] (PR (Fo vars xs t)):=by
 intro t
 induction t using Ai with
 | h t ih =>
 intro hz hf ho
 rw[Ux]
 have hst:=AJ t
 have hll:=Am t.args
 refine Ab Ke.ok rfl ?_
 cases hv2:t.var with
 | true =>
  rw[if_pos rfl]
  have hmem:t.name∈vars:=ho _ (AE.2 (.inl ⟨hv2,rfl⟩))
  obtain⟨i1,i2,i3⟩:=Gc hmem
  push_cast[hv2]
  refine Ac (n:=vars.length) (R:=fun k=>(∀ j,j<k->(fun x=>decide (t.name=x)) (vars.getD j default)=false)->Ke.L7 (Bw vars) (VK xs) (.ro (cT t) 0) (.ptr 0 0) (Bw vars) (.int .i64 vars.length) (.int .i64 k) 0
   [.cells Ay [.int .i64 0,.str [],.bool false,.sl 4 [],.int .i64 0,.int .i64 0]] (Bo 0 Ke.rs fun x' H'=>x'=PR (xs.getD (Mu t.name vars) default)/\H'=[])) ?_ ?_ 0 (by omega) (fun j hj=>by omega)
  ·intro k hk ih2 hq
   refine A5.2 ?_
   generalize hx:vars.getD k default=s
   by_cases h:s=t.name
   ·have hi:=Hc (p:=fun x=>decide (t.name=x)) hk (by show decide (t.name=vars.getD k default)=true;rw[hx,h];simp) hq
    have hk2:Mu t.name vars=k:=by unfold Mu;rw[hi];simp
    push_cast[BC hk,hx,eq_true h]
    exact⟨by omega,A1 (by push_cast[Ke.rs,hk2])⟩
   ·push_cast[BC hk,hx,eq_false h,CD (show k<2^62 by omega)]
    exact ih2 fun j hj=>by
     rcases Nat.lt_succ_iff_lt_or_eq.1 hj with hj | rfl
     ·exact hq j hj
     ·rw[hx];simpa using fun e=>h e.symm
  ·intro hq
   exfalso
   have:=hq _ i2
   rw[i3]at this
   simp at this
 | false =>
  rw[if_neg (by simp)]
  push_cast[hv2]
  refine Ac (n:=t.args.length) (R:=fun k=>Ke.L3 (Bw vars) (VK xs) (.ro (cT t) 0) (.ptr 0 0) (Bf cN 1 6 ((t.args.take k).map (Fo vars xs))) (Bk t.args) (.int .i64 t.args.length) (.int .i64 k) 0
   [.cells Ay [.int .i64 0,.str [],.bool false,.sl 4 [],.int .i64 0,.int .i64 0],.arr Ay 6 k] (Bo 0 Ke.rs fun x' H'=>x'=PR (A0.mk 0 t.name false (List.map (Fo vars xs) t.args))/\H'=[])) ?_ ?_ 0 (by omega)
  ·intro k hk ih2
   have hm:=A4 hk
   have hm2:=By hm
   have hlen:((t.args.take k).map (Fo vars xs)).length=k:=by simp;omega
   rw[Aa hk,List.map_append,List.map_singleton]at ih2
   refine A5.2 ?_
   push_cast[BC hk]
   refine .of (ih _ hm (by omega) (BS hf hm) fun v hv=>ho v (AE.2 (.inr ⟨_,hm,hv⟩))) ?_
   push_cast[hlen,CD (show k<2^62 by omega)]
   exact⟨by unfold Ah;omega,ih2⟩
  ·have hd:∀ a∈t.args.map (Fo vars xs),AR a<2^50:=fun a ha=>by
    obtain⟨b,hb,rfl⟩:=List.mem_map.1 ha
    have h1:=By hb
    have h2:=HB b
    rw[NT]
    have h3:=fM (g:=WA vars xs) (M:=M) b fun v hv=>hM _ (WE hl (ho v (AE.2 (.inr ⟨_,hb,hv⟩))))
    omega
   have hw:=S4 (.mk 0 t.name false []) (t.args.map (Fo vars xs)) (by simp;omega) hd
   refine A5.2 ?_
   push_cast[AZ (Nat.le_refl _),List.take_length]
   refine .of hw ?_
   push_cast
   exact A1 (by push_cast[Ke.rs];rfl)
def WR (vars:List A9)(g:CT)(p:A9->Bool)(l:List A0):List A0:=(List.range l.length).map fun k=>if p (vars.getD k default) then g (vars.getD k default) else l.getD k default
theorem N2 {vars:List A9}{g:CT}{p:A9->Bool}{l:List A0}:(WR vars g p l).length=l.length:=by simp[WR]
theorem QU {vars:List A9}{g:CT}{p:A9->Bool}{l:List A0}{k:Nat}(hk:k<l.length):(WR vars g p l)[k]?=some (if p (vars.getD k default) then g (vars.getD k default) else l.getD k default):=by
 unfold WR;rw[List.getElem?_map,List.getElem?_range hk];rfl
theorem tK {vars:List A9}{g:CT}{p:A9->Bool}{l:List A0}{k:Nat}(hk:k<l.length):(WR vars g p l).getD k default=if p (vars.getD k default) then g (vars.getD k default) else l.getD k default:=by
 rw[List.getD_eq_getElem?_getD,QU hk];rfl
theorem sC {vars:List A9}{g:CT}{p:A9->Bool}(hp:∀ v,p v=false)(l:List A0):WR vars g p l=l:=by
 apply List.ext_getElem? fun k=>?_
 by_cases hk:k<l.length
 ·rw[QU hk,hp];simp[List.getD_eq_getElem?_getD,hk]
 ·rw[List.getElem?_eq_none (by rw[N2];omega),List.getElem?_eq_none (by omega)]
theorem yU {vars:List A9}{g:CT}{p q:A9->Bool}{l:List A0}:WR vars g p (WR vars g q l)=WR vars g (fun v=>q v||p v) l:=by
 apply List.ext_getElem? fun k=>?_
 by_cases hk:k<l.length
 ·rw[QU (by rw[N2];exact hk),QU hk,tK hk]
  cases p (vars.getD k default)<;>cases q (vars.getD k default)<;>simp
 ·rw[List.getElem?_eq_none (by rw[N2,N2];omega),List.getElem?_eq_none (by rw[N2];omega)]
theorem Uq {vars:List A9}{g:CT}{p q:A9->Bool}{l:List A0}(h:∀ v,p v=q v):WR vars g p l=WR vars g q l:=by
 rw[show p=q from funext h]
theorem yw {vars:List A9}(hn:vars.Nodup){g:CT}{v:A9}(hv:v∈vars){l:List A0}(hl:l.length=vars.length):WR vars g (fun w=>decide (v=w)) l=l.set (Mu v vars) (g v):=by
 obtain⟨i1,i2,i3⟩:=Gc hv
 apply List.ext_getElem? fun k=>?_
 by_cases hk:k<l.length
 ·rw[QU hk,List.getElem?_set]
  by_cases he:Mu v vars=k
  ·subst he
   rw[i3];simp[hk]
  ·have:v≠vars.getD k default:=fun e=>he (by rw[e];exact gN hn (by omega))
   have hd:decide (v=vars.getD k default)=false:=decide_eq_false this
   rw[if_neg he]
   simp only[hd]
   simp[List.getD_eq_getElem?_getD,hk]
 ·rw[List.getElem?_eq_none (by rw[N2];omega),List.getElem?_eq_none (by rw[List.length_set];omega)]
theorem zq {vars:List A9}{g:CT}{p:A9->Bool}(hp:∀ v∈vars,p v=true){l:List A0}(hl:l.length=vars.length):WR vars g p l=vars.map g:=by
 apply List.ext_getElem? fun k=>?_
 by_cases hk:k<l.length
 ·have hk2:k<vars.length:=by omega
  rw[QU hk,hp _ (A4 hk2),List.getElem?_map]
  simp[List.getD_eq_getElem?_getD,hk2]
 ·rw[List.getElem?_eq_none (by rw[N2];omega),List.getElem?_eq_none (by simp;omega)]
theorem ZK (v:A9):∀ a b:List Term,EW v (a++b)=(EW v a||EW v b)
 | [],b=>by simp[EW]
 | x::a,b=>by simp only[List.cons_append,EW,ZK v a b,Bool.or_assoc]
abbrev mRo (l:List A0):Ob:=.row A8 4 (l.map cM)
abbrev Ox (l:List A0):List Ob:=[mRo l]
theorem bz (l:List A0):Je 1 (Ox l):=⟨rfl,by
 show [A6 (AM 1) (mRo l)]=_
 push_cast[Bq]⟩
theorem tT {l:List A0}{i:Nat}(hi:i<l.length)(m:A0):(l.map cM).set i (put 0 (cM m) ((l.map cM).getD i []))=(l.set i m).map cM:=by
 have e:(l.map cM).getD i []=cM (l.getD i default):=by simp[List.getD_eq_getElem?_getD,hi]
 rw[e,List.map_set];rfl
theorem ft (vars:List A9)(hn:vars.Nodup)(hvl:vars.length<2^40)(g:CT):∀ t:Term,size t<2^39->vfl t=true->(∀ v,CI v t=true->v∈vars)->∀ l:List A0,l.length=vars.length ->
  Spec prog N0 [An t,AP (pl g t),Bw vars,.rw 0 4 l.length] (Ox l) (fun x' H'=>x'=.bool true/\H'=Ox (WR vars g (fun v=>CI v t) l)):=by
 intro t
 induction t using Ai with
 | h t ih =>
 intro hz hf ho l hl
 have hst:=AJ t
 have hll:=Am t.args
 refine AK mixed Lz.ok rfl ?_
 cases hv:t.var with
 | true =>
  have hmem:t.name∈vars:=ho _ (AE.2 (.inl ⟨hv,rfl⟩))
  obtain⟨i1,i2,i3⟩:=Gc hmem
  have hw:WR vars g (fun v=>CI v t) l=l.set (Mu t.name vars) (g t.name):=by
   rw[<-yw hn hmem hl]
   exact Uq fun v=>by
    by_cases e:t.name=v
    ·subst e;rw[(MZ hf hv).2 rfl];simp
    ·simp only[decide_eq_false e]
     cases ho2:CI v t with
     | false=>rfl
     | true=>exact absurd ((MZ hf hv).1 ho2) e
  rw[hw,Jq hv]
  have hidx:=Vy vars t.name (by omega)
  rw[i1]at hidx
  push_cast[hv]
  refine .of hidx ?_
  push_cast[List.length_map,tT (l:=l) (i:=Mu t.name vars) (by omega),hl]
  exact⟨by omega,i2,Ap (H:=Ox (l.set (Mu t.name vars) (g t.name))) (J:=[]) (bz _) rfl ⟨by push_cast[Lz.rs],rfl⟩⟩
 | false =>
  rw[IT hv]
  have e1:(A0.mk 0 t.name false (t.args.map (pl g))).rule=0:=rfl
  have e2:(A0.mk 0 t.name false (t.args.map (pl g))).name=t.name:=rfl
  have e3:(A0.mk 0 t.name false (t.args.map (pl g))).var=false:=rfl
  have e4:(A0.mk 0 t.name false (t.args.map (pl g))).args=t.args.map (pl g):=rfl
  push_cast[hv,e1,e2,e3,e4,List.length_map,Bq]
  refine Ac (n:=t.args.length) (R:=fun k=>∀ l2:List A0,l2=WR vars g (fun v=>EW v (t.args.take k)) l->Lz.L3 (Bw vars) (.rw 0 4 l.length) (.ro (cT t) 0) (.ro (cM (A0.mk 0 t.name false (t.args.map (pl g)))) 0) (.int .i64 t.args.length) (.int .i64 k) 1 (Ox l2) (Bo 1 Lz.rs fun x' H'=>x'=.bool true/\H'=Ox (WR vars g (fun v=>CI v t) l))) ?_ ?_ 0 (by omega) l (sC (fun v=>rfl) l).symm
  ·intro k hk ih2 l2 hl2
   have hm:=A4 hk
   have hm2:=By hm
   have hl3:l2.length=l.length:=by rw[hl2];exact N2
   have hcall:=ih _ hm (by omega) (BS hf hm) (fun v hv=>ho v (AE.2 (.inr ⟨_,hm,hv⟩))) l2 (by omega)
   rw[hl3]at hcall
   refine A5.2 ?_
   have e5:(t.args.map (pl g)).getD k default=pl g (t.args.getD k default):=by simp[List.getD_eq_getElem?_getD,hk]
   push_cast[BC hk,e4,List.length_map,e5]
   have h0:Az [0] 0=some 0:=rfl
   refine BD.some [0] (by simp) (by simp) (R:=fun x' H'=>x'=.bool true/\H'=Ox (WR vars g (fun v=>CI v (t.args.getD k default)) l2)) ?_ ?_
   ·have e:give [0] (Ox l2)=Ox l2:=by
     show [A6 (Az [0]) (mRo l2)]=_
     push_cast[Bq]
    push_cast[h0,hl3]
    push_cast at e
    rw[e]
    exact hcall
   rintro x' H' ⟨rfl,rfl⟩ _
   have e:takeB [0] (Ox l2) (Ox (WR vars g (fun v=>CI v (t.args.getD k default)) l2))=Ox (WR vars g (fun v=>CI v (t.args.getD k default)) l2):=by
    show [A6 (C5 [0] 1) (mRo (WR vars g (fun v=>CI v (t.args.getD k default)) l2))]=_
    push_cast[Bq]
   push_cast at e
   rw[e]
   have this:=ih2 (WR vars g (fun v=>CI v (t.args.getD k default)) l2) (by
    rw[hl2,yU,Aa hk]
    refine (Uq fun v=>?_).symm
    show EW v (t.args.take k++[t.args.getD k default])=_
    rw[ZK]
    simp[EW])
   push_cast[CD (show k<2^62 by omega),Bq]
   push_cast at this
   exact this
  ·intro l2 hl2
   refine A5.2 ?_
   push_cast[AZ (Nat.le_refl _)]
   have e:l2=WR vars g (fun v=>CI v t) l:=by
    rw[hl2,List.take_length]
    exact Uq fun v=>by rw[Uu,hv];simp
   subst e
   exact Ap (H:=Ox _) (J:=[]) (bz _) rfl ⟨by push_cast[Lz.rs],rfl⟩
theorem VG {x:A2}(hx:vfl x.left=true)(hs:tb x.left<2^38)(g:CT):PF I2 [Kn x,AP (pl g x.left)] (.tup [Av ((AA [x.left]).map g),.bool true]):=by
 have hvs:=LO x (by omega)
 have hz:=AX x.left
 have hvl:(AA [x.left]).length<2^38:=by have:=GJ [x.left];simp only[Ae]at this;omega
 have hm:=ft (AA [x.left]) (KU _) (by omega) g x.left (by omega) hx (fun v hv=>(E5 v _).2 hv) (List.replicate (AA [x.left]).length zM) (by simp)
 rw[zq (fun v hv=>(E5 v _).1 hv) (by simp),List.length_replicate]at hm
 generalize AA [x.left]=vars at *
 refine Ab UX.ok rfl ?_
 push_cast
 refine .of hvs ?_
 have hz0:List.replicate vars.length [V.int IntKind.i64 0,V.str [],V.bool false,V.sl 4 []]=(List.replicate vars.length zM).map cM:=by rw[List.map_replicate];rfl
 have h0:Az [0] 0=some 0:=rfl
 push_cast[hz0]
 refine⟨⟨by unfold Ah;omega,by unfold Ah;omega⟩,?_⟩
 refine BD.some [0] (by simp) (by simp) (R:=fun x' H'=>x'=.bool true/\H'=Ox (vars.map g)) ?_ ?_
 ·have e:give [0] (Ox (List.replicate vars.length zM))=Ox (List.replicate vars.length zM):=by
   show [A6 (Az [0]) (mRo (List.replicate vars.length zM))]=_
   push_cast[Bq]
  push_cast[h0]
  push_cast at e
  rw[e]
  exact hm
 rintro x' H' ⟨rfl,rfl⟩ _
 have e:takeB [0] (Ox (List.replicate vars.length zM)) (Ox (vars.map g))=Ox (vars.map g):=by
  show [A6 (C5 [0] 1) (mRo (vars.map g))]=_
  push_cast[Bq]
 push_cast at e
 rw[e]
 push_cast[Bq]
 have e2:V.sl 4 ((vars.map g).map cM)=Av (vars.map g):=rfl
 rw[e2]
 exact⟨by simp,A1 (by push_cast[UX.rs])⟩
end Go.Dw
section
namespace Go.Dw
theorem Pf {r:List A2}{F:A0->A0->A0}(a b:List A0)(hla:a.length<=b.length)(hl:a.length<2^38)
  (h:∀ k,k<a.length->PF E1 [Al r,AP (a.getD k default),AP (b.getD k default)] (PR (F (a.getD k default) (b.getD k default)))) :
  PF FI [Al r,Av a,Av b] (VK (List.zipWith F a b)):=by
 have hZl:(List.zipWith F a b).length=a.length:=by rw[List.length_zipWith];omega
 refine Ab Hz.ok rfl ?_
 push_cast
 refine Ac (n:=a.length) (R:=fun k=>Hz.L3 (Al r) (Av a) (Av b) (Bf cN 0 6 ((List.zipWith F a b).take k)) (.int .i64 a.length) (.int .i64 k) 0 [.arr Ay 6 k] (Bo 0 Hz.rs fun x' H'=>x'=VK (List.zipWith F a b)/\H'=[])) ?_ ?_ 0 (by omega)
 ·intro k hk ih
  have hkb:k<b.length:=by omega
  have hcall:=h k hk
  have hge:(List.zipWith F a b).getD k default=F (a.getD k default) (b.getD k default):=by
   have e1:(List.zipWith F a b)[k]?=some (F (a.getD k default) (b.getD k default)):=by
    have ea:a[k]?=some (a.getD k default):=by simp[List.getD_eq_getElem?_getD,hk]
    have eb:b[k]?=some (b.getD k default):=by simp[List.getD_eq_getElem?_getD,hkb]
    rw[List.getElem?_zipWith,ea,eb]
   rw[List.getD_eq_getElem?_getD,e1];rfl
  have hlen:((List.zipWith F a b).take k).length=k:=by simp;omega
  rw[Aa (show k<(List.zipWith F a b).length by omega),hge]at ih
  refine A5.2 ?_
  push_cast[BC hk,BC hkb]
  refine .of hcall ?_
  push_cast[hlen,CD (show k<2^62 by omega)]
  push_cast at ih
  exact⟨by unfold Ah;omega,ih⟩
 ·refine A5.2 ?_
  have e:(List.zipWith F a b).take a.length=List.zipWith F a b:=List.take_of_length_le (by omega)
  push_cast[AZ (Nat.le_refl _),e]
  exact A1 (by push_cast[Hz.rs])
section
variable {r:List A2} (h:Df r)
include h
theorem Df.r18_residual_s (hrl:r.length<=64)(hsz:∀ k,k<r.length->tb (Io r k)<2^38/\size (Wh r k)<2^38)(hD:∀ m:A0,depth (At r m).right+1<=4001):∀ (n:Nat),n<=2^20->∀ (a b:A0),As a+As b<=n->Hm r a->Hm r b->Ad r A2.left b=Ad r A2.left a ->
  PF E1 [Al r,AP a,AP b] (PR (rest r a b))
 | 0,_,a,b,hn,_,_,_=>by have:=DZ a;omega
 | n+1,hn2,a,b,hn,ha,hb,hs=>by
  have hdep:∀ x y:A0,As x+As y<=n+1->AR (rest r x y)<=4001*2^20:=fun x y hxy=>by
   have h1:=Mt hD (n+1) x y hxy
   have h2:=Nat.mul_le_mul_left 4001 hn2
   omega
  rcases h.shapes ha hb hs with ⟨a0,b0,hbe,hm⟩|⟨k,α,β,f,g,hk,rfl,rfl,hαβ,hp⟩
  ·have hl:b.args.length=a.args.length:=by have:=congrArg List.length hm;simpa using this
   have hal:a.args.length<2^38:=by
    have:=B7 a.args
    have:=AU a
    omega
   have hres:=Pf (r:=r) (F:=rest r) a.args b.args (by omega) hal fun k hk=>by
    have h1:=A4 hk
    have h2:=A4 (l:=b.args) (k:=k) (by omega)
    have:=C2 h1
    have:=C2 h2
    exact Df.r18_residual_s hrl hsz hD n (by omega) _ _ (by omega) (ha.arg h1) (hb.arg h2) (lz hm hk)
   have hwith:=S4 a (List.zipWith (rest r) a.args b.args) (by rw[List.length_zipWith];omega) fun z hz=>by
    obtain⟨x,hx,y,hy,rfl⟩:=SW hz
    have:=C2 hx
    have:=C2 hy
    have:=hdep x y (by omega)
    omega
   rw[Ade a0 b0]
   rw[a0]at hwith
   refine Ab Es.ok rfl ?_
   push_cast[a0,b0]
   refine .of hres ?_
   push_cast
   refine .of hwith ?_
   push_cast
   exact A1 (by push_cast[Es.rs])
  ·obtain⟨q1,q2,q3,q4,q5,q6,q7⟩:=h.left hk
   obtain⟨s1,s2⟩:=hsz k hk
   have hF:∀ v,v∈ET r k->PF E1 [Al r,AP (f v),AP (g v)] (PR (rest r (f v) (g v))):=fun v hv=>by
    obtain⟨p1,p2,p3,p4⟩:=hp v hv
    exact Df.r18_residual_s hrl hsz hD n (by omega) _ _ (by omega) p1 p2 p3
   have hst:=AX (Io r k)
   have hvl:(ET r k).length<2^38:=by have:=GJ [Io r k];simp only[Ae]at this;unfold ET;omega
   have hres:=Pf (r:=r) (F:=rest r) ((ET r k).map f) ((ET r k).map g) (by simp) (by simpa using hvl) fun j hj=>by
    rw[List.length_map]at hj
    have e:∀ f:CT,((ET r k).map f).getD j default=f ((ET r k).getD j default):=fun f=>by simp[List.getD_eq_getElem?_getD,hj]
    rw[e,e]
    exact hF _ (A4 hj)
   rw[Ll]at hres
   have hd1:∀ z∈(ET r k).map (fun v=>rest r (f v) (g v)),AR z<=4001*2^20:=fun z hz=>by
    obtain⟨v,hv,rfl⟩:=List.mem_map.1 hz
    obtain⟨p1,p2,p3,p4⟩:=hp v hv
    exact hdep _ _ (by omega)
   have hkw:IntKind.i64.wrap ((k:Int)+1-1)=k:=by
    rw[Int.add_sub_cancel];exact Bn (by omega) (by omega)
   have h0:((k:Int)+1=0)=False:=by simp;omega
   have h1:(0:Int)<k+1:=by omega
   have hlr:(r.getD k default).left=Io r k:=rfl
   have hrr:(r.getD k default).right=Wh r k:=rfl
   have hv1:=LO (r.getD k default) (by rw[hlr];omega)
   rw[hlr]at hv1
   have hv1:PF GG [Kn (r.getD k default)] (Bw (ET r k)):=hv1
   rw[KW h hk]
   cases β with
   | true =>
    have hfill:=iT (ET r k) ((ET r k).map fun v=>rest r (f v) (g v)) (by omega) (by simp) (4001*2^20) hd1 (by omega) (Wh r k) (by omega) q6 fun v hv=>q7 v hv
    have e:Fo (ET r k) ((ET r k).map fun v=>rest r (f v) (g v)) (Wh r k)=pl (fun v=>rest r (f v) (g v)) (Wh r k):=by
     rw[NT]
     exact Qu _ fun v hv=>Tl _ (q7 v hv)
    rw[e]at hfill
    rw[if_pos rfl]
    have eb:fm r k true g=ru r k g:=rfl
    have hlt:(k:Int)<r.length:=by omega
    refine Ab Es.ok rfl ?_
    cases α with
    | true =>
     have ea:fm r k true f=ru r k f:=rfl
     push_cast[ea,eb,IS,HI,h0,h1,hkw]
     refine⟨hlt,.of hv1 ?_⟩
     push_cast[HI]
     refine .of hres ?_
     push_cast[hrr]
     refine .of hfill ?_
     push_cast
     exact A1 (by push_cast[Es.rs])
    | false =>
     have ea:fm r k false f=pl f (Io r k):=rfl
     have hr0:(pl f (Io r k)).rule=0:=KR q1
     have hmat:PF I2 [Kn (r.getD k default),AP (pl f (Io r k))] (.tup [Av ((ET r k).map f),.bool true]):=VG (x:=r.getD k default) q2 s1 f
     push_cast[ea,eb,IS,HI,h0,h1,hkw,hr0]
     refine⟨hlt,.of hmat ?_⟩
     push_cast
     refine .of hv1 ?_
     push_cast[HI]
     refine .of hres ?_
     push_cast[hrr]
     refine .of hfill ?_
     push_cast
     exact A1 (by push_cast[Es.rs])
   | false =>
    have hα:α=true:=by simpa using hαβ
    subst hα
    rw[if_neg (by simp)]
    have ea:fm r k true f=ru r k f:=rfl
    have eb:fm r k false g=pl g (Io r k):=rfl
    have hr0:(pl g (Io r k)).rule=0:=KR q1
    have hlt:(k:Int)<r.length:=by omega
    have hmat:PF I2 [Kn (r.getD k default),AP (pl g (Io r k))] (.tup [Av ((ET r k).map g),.bool true]):=VG (x:=r.getD k default) q2 s1 g
    have hwith:=S4 (ru r k f) ((ET r k).map fun v=>rest r (f v) (g v)) (by simp;omega) fun z hz=>by have:=hd1 z hz;omega
    have hwith:PF Js [AP (ru r k f),VK ((ET r k).map fun v=>rest r (f v) (g v))] (PR (fm r k true fun v=>rest r (f v) (g v))):=hwith
    have h00:¬ (0:Int)<0:=by omega
    refine Ab Es.ok rfl ?_
    push_cast[ea,eb,IS,HI,h0,h1,hkw,hr0]
    refine⟨hlt,.of hmat ?_⟩
    push_cast[HI]
    refine .of hres ?_
    push_cast
    refine .of hwith ?_
    push_cast
    exact A1 (by push_cast[Es.rs])
end
end Go.Dw
end
namespace Go.Dw
theorem gF (m:A0):PF Q9 [PR m] (.bool (F7 m)):=by
 have hc:(((cap (As m):Nat):Int)<=4000)=(As m<=4000):=propext (by unfold cap;split<;>constructor<;>intro h<;>omega)
 have hd:(((AR m:Nat):Int)<=200)=(AR m<=200):=propext (by omega)
 refine Ab R1.ok rfl ?_
 unfold F7
 by_cases h:As m<=4000
 ·push_cast[hc,hd,h]
  exact A1 (by push_cast[R1.rs])
 ·push_cast[hc,hd,h]
  exact A1 (by push_cast[R1.rs])
theorem dx {r:List A2}{a b:A0}(h:PF E1 [Al r,AP a,AP b] (PR (rest r a b))) :
  PF IZ [Al r,AP a,AP b] (.tup [AP (if F7 (rest r a b) then rest r a b else zM),.bool (F7 (rest r a b))]):=by
 have hs:=gF (rest r a b)
 refine Ab Oc.ok rfl ?_
 push_cast
 refine .of h ?_
 push_cast
 refine .of hs ?_
 cases hf:F7 (rest r a b)with
 | true =>
  push_cast
  exact A1 (by push_cast[Oc.rs])
 | false =>
  push_cast
  exact A1 (by push_cast[Oc.rs];rfl)
def KN (r:List A2):List A0->Int
 | []=>0
 | m::l=>if Ec r m≠0 then Ec r m else KN r l
def Py (r:List A2)(l:List A0):Int:=if 4096<l.length then 3 else KN r l
theorem KC {r:List A2}{l:List A0}(hr:KJ r<2^38)(hm:∀ m∈l,mb m<2^38):PF Hk [Al r,Av l] (.int .i64 (Py r l)):=by
 unfold Py
 refine Ab CJ.ok rfl ?_
 by_cases hl:4096<l.length
 ·have hl':(4096:Int)<l.length:=by omega
  push_cast[hl,hl']
  exact A1 (by push_cast[CJ.rs])
 ·have hl':¬ (4096:Int)<l.length:=by omega
  push_cast[hl,hl']
  generalize hT:KN r l=T
  refine Ac (n:=l.length) (R:=fun k=>KN r (l.drop k)=T->CJ.L3 (Al r) (Av l) (.int .i64 l.length) (.int .i64 k) 0 [] (Bo 0 CJ.rs fun x' H'=>x'=.int .i64 T/\H'=[])) ?_ ?_ 0 (Nat.zero_le _) (by rw[List.drop_zero];exact hT)
  ·intro k hk ih hq
   rw[Ag hk]at hq
   have hc:=HL hr (hm _ (A4 hk))
   simp only[KN]at hq
   refine A5.2 ?_
   push_cast[BC hk]
   refine .of hc ?_
   by_cases he:Ec r (l.getD k default)=0
   ·rw[if_neg (fun hne=>hne he)]at hq
    have ih:=ih hq
    push_cast at ih
    push_cast[he,CD (show k<2^62 by omega)]
    exact ih
   ·rw[if_pos he]at hq
    subst hq
    push_cast[he]
    exact A1 (by push_cast[CJ.rs])
  ·intro hq
   rw[List.drop_length]at hq
   have hq:(0:Int)=T:=hq
   subst hq
   refine A5.2 ?_
   push_cast[AZ (Nat.le_refl _)]
   exact A1 (by push_cast[CJ.rs])
end Go.Dw
section
namespace Go.Dw
open Classical in
noncomputable def AW (r:List A2)(first last:Term):Nat->List A0->Term×Bool
 | _,[]=>(first,true)
 | 0,m::l=>AW r (HM r m) (Ps r m) 1 l
 | k+1,m::l=>if last=HM r m then AW r first (Ps r m) (k+2) l else (first,false)
theorem MK {r:List A2}{l:List A0}(hr:KJ r<2^38)(hl:l.length<=4096)(hm:∀ m∈l,mb m<2^38)(hz:∀ m∈l,size (Ps r m)<2^62):PF Gg [Al r,Av l] (.tup [An (AW r D5 D5 0 l).1,.bool (AW r D5 D5 0 l).2]):=by
 refine Ab Em.ok rfl ?_
 push_cast
 generalize hT:AW r D5 D5 0 l=T
 refine Ac (n:=l.length) (R:=fun k=>∀ f la:Term,size la<2^62->AW r f la k (l.drop k)=T->Em.L3 (Al r) (.ptr 0 0) (.ptr 1 0) (.ptr 2 0) (Av l) (.int .i64 l.length) (.int .i64 k) 0 [.cells A3 [.str [],.bool false,.sl 3 []],.cells A3 (cT f),.cells A3 (cT la)] (Bo 0 Em.rs fun x' H'=>x'=.tup [An T.1,.bool T.2]/\H'=[])) ?_ ?_ 0 (Nat.zero_le _) D5 D5 (by decide) (by rw[List.drop_zero];exact hT)
 ·intro k hk ih f la hla hq
  rw[Ag hk]at hq
  have hmm:=A4 hk
  generalize hx:l.getD k default=m at hq hmm
  have hc:=HL hr (hm _ hmm)
  have hzm:=hz _ hmm
  refine A5.2 ?_
  push_cast[BC hk,hx]
  refine .of hc ?_
  cases k with
  | zero =>
   have ih:=ih (HM r m) (Ps r m) hzm hq
   push_cast at ih
   push_cast
   exact ih
  | succ j =>
   have h0:((j:Int)+1=0)=False:=by simp;omega
   simp only[AW]at hq
   have he:=Ok la (HM r m) hla
   push_cast[h0]
   refine .of he ?_
   by_cases hs:la=HM r m
   ·rw[if_pos hs]at hq
    have ih:=ih f (Ps r m) hzm hq
    push_cast at ih
    have hw:=CD (show j+1<2^62 by omega)
    push_cast at hw
    push_cast[hs,hw]
    exact ih
   ·rw[if_neg hs]at hq
    subst hq
    push_cast[hs]
    exact A1 (by push_cast[Em.rs])
 ·intro f la hla hq
  rw[List.drop_length]at hq
  have hq:(f,true)=T:=by rw[<-hq];unfold AW;rfl
  subst hq
  refine A5.2 ?_
  push_cast[AZ (Nat.le_refl _)]
  exact A1 (by push_cast[Em.rs])
end Go.Dw
end
section
namespace Go.Dw
def LH (r:List A2):A0->List A0->Option (A0×List A0)
 | a,[]=>some (a,[])
 | a,b::y=>if F7 (rest r b a)=true/\F7 (rest r a b)=true then (LH r (rest r a b) y).map fun p=>(p.1,rest r b a::p.2) else none
def E4 (r:List A2):List A0->List A0->Option (List A0×List A0)
 | [],y=>some ([],y)
 | a::x,y=>match LH r a y with
  | none=>none
  | some p=>(E4 r x p.2).map fun q=>(p.1::q.1,q.2)
def FK (r:List A2):Term->List A0->Prop
 | _,[]=>True
 | s,b::y=>Hm r b/\F7 b=true/\Ad r A2.left b=s/\FK r (Ad r A2.right b) y
def ZI (r:List A2):Term->List A0->Term
 | s,[]=>s
 | _,b::y=>ZI r (Ad r A2.right b) y
theorem FK.fit {r:List A2}:∀ {l:List A0} {s:Term},FK r s l->∀ m∈l,Hm r m/\F7 m=true
 | [],_,_,m,hm=>by cases hm
 | b::y,s,h,m,hm=>by
  rcases List.mem_cons.1 hm with rfl | hm
  ·exact⟨h.1,h.2.1⟩
  ·exact FK.fit h.2.2.2 m hm
section
variable {r:List A2} (h:Df r)
include h
theorem Df.row_ok:∀ (y:List A0)(a:A0)(a':A0)(y':List A0),Hm r a->F7 a=true->FK r (Ad r A2.left a) y->LH r a y=some (a',y') ->
  Hm r a'/\F7 a'=true/\Ad r A2.left a'=ZI r (Ad r A2.left a) y/\FK r (Ad r A2.right a) y'/\ZI r (Ad r A2.right a) y'=Ad r A2.right a'/\y'.length=y.length
 | [],a,a',y',ha,hf,_,he=>by
  simp only[LH,Option.some.injEq,Prod.mk.injEq]at he
  obtain⟨rfl,rfl⟩:=he
  exact⟨ha,hf,rfl,trivial,rfl,rfl⟩
 | b::y,a,a',y',ha,hf,hl,he=>by
  obtain⟨hb,hbf,hbs,hy⟩:=hl
  simp only[LH]at he
  split at he
  ·rename_i hc
   obtain⟨k1,k2⟩:=h.rest_ok _ a b (Nat.le_refl _) ha hb hbs
   obtain⟨j1,j2⟩:=h.rest_ok _ b a (Nat.le_refl _) hb ha hbs.symm
   obtain⟨d1,d2⟩:=h.diamond _ a b (Nat.le_refl _) ha hb hbs
   cases hr:LH r (rest r a b) y with
   | none=>rw[hr]at he;cases he
   | some p =>
    obtain⟨p1,p2⟩:=p
    rw[hr]at he
    simp only[Option.map_some,Option.some.injEq,Prod.mk.injEq]at he
    obtain⟨rfl,rfl⟩:=he
    obtain⟨e1,e2,e3,e4,e5,e6⟩:=Df.row_ok y (rest r a b) p1 p2 k1 hc.2 (k2▸hy) hr
    refine⟨e1,e2,?_,⟨j1,hc.1,j2,?_⟩,?_,?_⟩
    ·rw[e3,k2];rfl
    ·rw[d2,<-d1];exact e4
    ·show ZI r (Ad r A2.right (rest r b a)) p2=_
     rw[d2,<-d1];exact e5
    ·simp[e6]
  ·cases he
theorem Df.proj_ok:∀ (x y p q:List A0)(s:Term),FK r s x->FK r s y->E4 r x y=some (p,q) ->
  FK r (ZI r s y) p/\FK r (ZI r s x) q/\ZI r (ZI r s y) p=ZI r (ZI r s x) q/\p.length=x.length/\q.length=y.length
 | [],y,p,q,s,_,hy,he=>by
  simp only[E4,Option.some.injEq,Prod.mk.injEq]at he
  obtain⟨rfl,rfl⟩:=he
  exact⟨trivial,hy,rfl,rfl,rfl⟩
 | a::x,y,p,q,s,hx,hy,he=>by
  obtain⟨ha,haf,has,hx⟩:=hx
  simp only[E4]at he
  cases hr:LH r a y with
  | none=>rw[hr]at he;cases he
  | some w =>
   obtain⟨a',y'⟩:=w
   rw[hr]at he
   simp only at he
   obtain⟨e1,e2,e3,e4,e5,e6⟩:=h.row_ok y a a' y' ha haf (has▸hy) hr
   cases hp:E4 r x y' with
   | none=>rw[hp]at he;cases he
   | some w =>
    obtain⟨p1,q1⟩:=w
    rw[hp]at he
    simp only[Option.map_some,Option.some.injEq,Prod.mk.injEq]at he
    obtain⟨rfl,rfl⟩:=he
    obtain⟨f1,f2,f3,f4,f5⟩:=Df.proj_ok x y' p1 q1 (Ad r A2.right a) hx e4 hp
    rw[e5]at f1 f3
    subst has
    refine⟨⟨e1,e2,e3,f1⟩,f2,?_,by simp[f4],by omega⟩
    exact f3
end
end Go.Dw
end
namespace Go.Dw
structure Yh (r:List A2):Prop where
 ortho:Df r
 len:r.length<=64
 sz:∀ k,k<r.length->size (Io r k)<2^38/\size (Wh r k)<2^38
 tbl:∀ k,k<r.length->tb (Io r k)<2^38/\size (Wh r k)<2^38
 dp:∀ m:A0,depth (At r m).right+1<=4001
 nv:∀ x∈r,(AA [x.left]).length<=4096
theorem uY {r:List A2}(h:EY r=0):Yh r:=by
 have hg:=Ic (Y8 h).2
 refine⟨Xl (Y8 h).1,hg.2,fun k hk=>?_,fun k hk=>?_,fun m=>?_,fun x hx=>?_⟩
 ·have hx:=hg.1 _ (A4 hk)
  have:=hx.l.sz
  have:=hx.r.sz
  exact⟨by unfold Io;omega,by unfold Wh;omega⟩
 ·have hx:=hg.1 _ (A4 hk)
  have:=hx.l.tb
  have:=hx.r.sz
  exact⟨by unfold Io;omega,by unfold Wh;omega⟩
 ·unfold At
  by_cases hi:(m.rule-1).toNat<r.length
  ·have hx:=hg.1 _ (A4 (l:=r) hi)
   have:=hx.r.sz
   have:=HB (r.getD (m.rule-1).toNat default).right
   omega
  ·rw[List.getD_eq_getElem?_getD,List.getElem?_eq_none (by omega)]
   decide
 ·have:=GJ [x.left]
  have:=(hg.1 x hx).l.sz
  simp only[Ae]at *
  omega
theorem Yh.calls {r:List A2}(h:Yh r){a b:A0}(ha:Hm r a)(hb:Hm r b)(fa:F7 a=true)(fb:F7 b=true)(hs:Ad r A2.left b=Ad r A2.left a) :
  PF Ba [Al r,AP a,AP b] (AP (rest r a b))/\PF Fd [AP (rest r a b)] (Uf (rest r a b)):=by
 refine⟨HE h.ortho h.len h.sz _ a b (Nat.le_refl _) ha hb hs,?_⟩
 obtain⟨k1,k2⟩:=h.ortho.rest_ok _ a b (Nat.le_refl _) ha hb hs
 have h1:=(OT fa).1
 have h2:=(OT fb).1
 have h3:=Mt h.dp (2^20) a b (by omega)
 exact ff _ (AbX h.nv _ k1) (by omega)
def OZ:Option (List A0×List A0)->V
 | some p=>.tup [Av p.1,Av p.2,.int .i64 0]
 | none=>.tup [Av [],Av [],.int .i64 3]
theorem Yi {m:A0}(h:F7 m=true):Uf m=.tup [AP m,.int .i64 0]:=by unfold Uf;rw[if_pos h];rfl
theorem lZ {m:A0}(h:F7 m=false):Uf m=.tup [AP zM,.int .i64 3]:=by unfold Uf;rw[if_neg (by simp[h])];rfl
theorem vP {done y:List A0}{j:Nat}(hd:done.length=j)(hj:j<y.length)(m:A0):(done++y.drop j).set j m=(done++[m])++y.drop (j+1):=by
 rw[List.set_append,if_neg (by omega),Ag hj,hd,Nat.sub_self,List.set_cons_zero,List.append_assoc];rfl
theorem xE {done y:List A0}{j:Nat}(hd:done.length=j)(hj:j<y.length):(done++y.drop j).getD j default=y.getD j default:=by
 rw[List.getD_eq_getElem?_getD,List.getElem?_append_right (by omega),Ag hj,hd,Nat.sub_self];rfl
abbrev Aap (l:List A0):Ob:=.row A8 4 (l.map cM)
abbrev pjH (out y:List A0):List Ob:=[.arr A8 4 out.length,Aap y]
theorem S1 {r:List A2}(hR:Yh r)(x y:List A0)(s:Term)(hx:FK r s x)(hy:FK r s y)(hxl:x.length<2^30)(hyl:y.length<2^30) :
  PF HT [Al r,Av x,Av y] (OZ (E4 r x y)):=by
 refine Ab Bx.ok rfl ?_
 push_cast
 refine UD (gV y (by omega)) ?_
 push_cast[Bq]
 generalize hT:E4 r x y=T
 refine Ac (n:=x.length) (R:=fun k=>∀ (out y2:List A0)(s:Term),out.length=k->y2.length=y.length->FK r s (x.drop k)->FK r s y2->(E4 r (x.drop k) y2).map (fun q=>(out++q.1,q.2))=T ->
  Bx.L7 (Al r) (.rw 1 4 y.length) (Bf cM 0 4 out) (Av x) (.int .i64 x.length) (.int .i64 k) 0 (pjH out y2) (Bo 0 Bx.rs fun x' H'=>x'=OZ T/\H'=[])) ?_ ?_ 0 (by omega) [] y s rfl rfl hx hy (by rw[List.drop_zero,hT];cases T<;>rfl)
 ·intro k hk ih out y2 s hol hyl2 hx hy hq
  rw[Ag hk]at hx hq
  simp only[E4]at hq
  generalize hax:x.getD k default=a at hx hq
  obtain⟨ha,haf,has,hx⟩:=hx
  subst has
  have ih2:∀ (a2:A0)(y3:List A0),LH r a y2=some (a2,y3)->Bx.L7 (Al r) (.rw 1 4 y.length) (Bf cM 0 4 (out++[a2])) (Av x) (.int .i64 x.length) (.int .i64 ((k+1:Nat):Int)) 0 (pjH (out++[a2]) y3) (Bo 0 Bx.rs fun x' H'=>x'=OZ T/\H'=[]):=fun a2 y3 hrow=>by
   obtain⟨e1,e2,e3,e4,e5,e6⟩:=hR.ortho.row_ok y2 a a2 y3 ha haf hy hrow
   rw[hrow]at hq
   refine ih (out++[a2]) y3 _ (by simp[hol]) (by omega) hx e4 ?_
   have hq2:((E4 r (x.drop (k+1)) y3).map fun q=>(a2::q.1,q.2)).map (fun q=>(out++q.1,q.2))=T:=hq
   rw[<-hq2]
   cases E4 r (x.drop (k+1)) y3 with
   | none=>rfl
   | some q=>simp
  have hnone:LH r a y2=none->T=none:=fun e=>by rw[e]at hq;exact hq.symm
  clear ih hq
  refine A5.2 ?_
  have hyl3:(y2.length:Int)=y.length:=by rw[hyl2]
  push_cast[BC hk,hax,Bq]
  refine Ac (n:=y.length) (R:=fun j=>∀ (a1:A0)(dn:List A0),dn.length=j->Hm r a1->F7 a1=true->FK r (Ad r A2.left a1) (y2.drop j)->(LH r a1 (y2.drop j)).map (fun p=>(p.1,dn++p.2))=LH r a y2 ->
   Bx.L5 (Al r) (.rw 1 4 y.length) (Bf cM 0 4 out) (.ptr 2 0) (Av x) (.int .i64 x.length) (.int .i64 k) (.rw 1 4 y.length) (.int .i64 y.length) (.int .i64 j) 0 [.arr A8 4 out.length,Aap (dn++y2.drop j),.cells A8 (cM a1)]
    (Bo 0 Bx.rs fun x' H'=>x'=OZ T/\H'=[])) ?_ ?_ 0 (by omega) a [] rfl ha haf hy (by rw[List.drop_zero];cases LH r a y2<;>simp)
  ·intro j hj ihj a1 dn hdn ha1 hf1 hl1 hrow
   have hj2:j<y2.length:=by omega
   have hget:=xE (done:=dn) (y:=y2) hdn hj2
   have hlen:(dn++y2.drop j).length=y.length:=by simp;omega
   rw[Ag hj2]at hl1 hrow
   generalize hbx:y2.getD j default=b at hl1 hrow hget
   obtain⟨hb,hbf,hbs,hl2⟩:=hl1
   simp only[LH]at hrow
   obtain⟨c1,c2⟩:=hR.calls hb ha1 hbf hf1 hbs.symm
   obtain⟨c3,c4⟩:=hR.calls ha1 hb hf1 hbf hbs
   have hg1:((dn++y2.drop j).map cM)[j]?=some (cM b):=by
    have:(dn++y2.drop j)[j]?=some b:=by
     rw[List.getD_eq_getElem?_getD,List.getElem?_eq_getElem (by omega)]at hget
     rw[List.getElem?_eq_getElem (by omega)]
     exact congrArg some hget
    rw[List.getElem?_map,this];rfl
   refine A5.2 ?_
   push_cast[BC hj,List.length_map,hlen,hg1]
   refine .of c1 ?_
   push_cast
   cases f1:F7 (rest r b a1)with
   | false =>
    rw[lZ f1]at c2
    refine .of c2 ?_
    have hT0:T=none:=hnone (by rw[<-hrow,if_neg (by simp[f1])];rfl)
    subst hT0
    push_cast
    exact A1 (by push_cast[Bx.rs];rfl)
   | true =>
    rw[Yi f1]at c2
    refine .of c2 ?_
    push_cast
    refine .of c3 ?_
    push_cast
    cases f2:F7 (rest r a1 b)with
    | false =>
     rw[lZ f2]at c4
     refine .of c4 ?_
     have hT0:T=none:=hnone (by rw[<-hrow,if_neg (by simp[f2])];rfl)
     subst hT0
     push_cast
     exact A1 (by push_cast[Bx.rs];rfl)
    | true =>
     rw[Yi f2]at c4
     refine .of c4 ?_
     obtain⟨k1,k2⟩:=hR.ortho.rest_ok _ a1 b (Nat.le_refl _) ha1 hb hbs
     have hset:((dn++y2.drop j).map cM).set j (put 0 (cM (rest r b a1)) (((dn++y2.drop j).map cM).getD j []))=(dn++[rest r b a1]++y2.drop (j+1)).map cM:=by
      have e:((dn++y2.drop j).map cM).getD j []=cM ((dn++y2.drop j).getD j default):=by
       simp only[List.getD_eq_getElem?_getD,List.getElem?_map]
       rw[List.getElem?_eq_getElem (by omega)];rfl
      rw[e,<-vP hdn hj2,List.map_set];rfl
     have ih3:=ihj (rest r a1 b) (dn++[rest r b a1]) (by simp[hdn]) k1 f2 (k2▸hl2) (by
      rw[<-hrow,if_pos ⟨f1,f2⟩]
      cases LH r (rest r a1 b) (y2.drop (j+1))<;>simp)
     push_cast[List.length_map,hlen,hset,hg1,BC hj,CD (show j<2^62 by omega),Bq]
     push_cast at ih3
     first | exact ih3 | exact⟨by omega,ih3⟩
  ·intro a1 dn hdn ha1 hf1 hl1 hrow
   have hdr:y2.drop y.length=[]:=by rw[<-hyl2];exact List.drop_length
   rw[hdr]at hrow ⊢
   simp only[LH,Option.map_some,List.append_nil]at hrow ⊢
   have ih3:=ih2 a1 dn hrow.symm
   refine A5.2 ?_
   push_cast[AZ (Nat.le_refl _),Bq,CD (show k<2^62 by omega)]
   have e:(out++[a1]).length=out.length+1:=by simp
   simp only[pjH,e]at ih3
   push_cast at ih3
   exact⟨by unfold Ah;omega,ih3⟩
 ·intro out y2 s hol hyl2 hx hy hq
  rw[Ak]at hq
  simp only[E4,Option.map_some,List.append_nil]at hq
  refine A5.2 ?_
  push_cast[AZ (Nat.le_refl _),Bq]
  subst hq
  refine⟨by simp[hyl2],?_⟩
  have e2:V.sl 4 (y2.map cM)=Av y2:=rfl
  rw[e2]
  exact A1 (by push_cast[Bx.rs];rfl)
end Go.Dw
