/-
  Contracts and lemmas for ResidualFull: part h of 11.
-/
import Derived.Test.YtkdcfkfdkimaeaaGreatDoorFag
import Derived.WalkKit
import Derived.Laws.MathBits
import Derived.Test.YtkdcfkfdkimaeaaGreatDoorFad
import Derived.Test.YtkdcfkfdkimaeaaGreatDoorFae
import Derived.Test.YtkdcfkfdkimaeaaGreatDoorFaf
set_option linter.unusedVariables false
set_option linter.unusedSimpArgs false
set_option maxRecDepth 100000
section
namespace Go.Dw
abbrev Fx:Unit->V:=fun _=>.bool true
abbrev TM:=List (A9×Term)
abbrev DM:=List (Qk×Unit)
abbrev SM:=List (A9×Unit)
abbrev Sx (m:TM)(d:DM)(l:List Ob):List Ob:=.map (Bp An m)::.map (GW Fx d)::.cells B9 [.map 0,.map 1]::l
abbrev uH (m:TM)(d:DM):List Ob:=Sx m d []
theorem nC {σ:Nat->Option Nat}(m:TM):((Bp An m).map fun p=>(ren σ p.1,ren σ p.2))=Bp An m:=TL (fun x=>fK x) m
theorem mO {σ:Nat->Option Nat}(m:SM):((Bp Fx m).map fun p=>(ren σ p.1,ren σ p.2))=Bp Fx m:=TL (fun x=>rfl) m
theorem mL {σ:Nat->Option Nat}(m:DM):((GW Fx m).map fun p=>(ren σ p.1,ren σ p.2))=GW Fx m:=qn (fun x=>rfl) m
attribute [push_cast] nC mO mL
theorem Hc (m:TM)(d:DM):I4 3 (uH m d):=⟨rfl,by
 show [A6 (AI 3) (.map (Bp An m)),A6 (AI 3) (.map (GW Fx d)),A6 (AI 3) (.cells B9 [.map 0,.map 1])]=_
 have h0:AI 3 0=some 0:=rfl
 have h1:AI 3 1=some 1:=rfl
 push_cast[h0,h1]⟩
section
variable {s:List A5} {m:TM} (d:DM) (hm:∀ v,Cd m v = Ac s v)
include hm
theorem R2 {v:A9}{x:Term}(h:Ac s v=some x):∀ l,LN (.map (Bp An m)::l) true true (.agg [.str [],.bool false,.sl 3 []]) (.map 0) (.str v)=some (.tup [An x,.bool true]):=fun l=>by
 have:=KX An m v true (.agg [.str [],.bool false,.sl 3 []]) (H:=.map (Bp An m)::l) (i:=0) rfl
 rw[hm,h]at this;exact this
theorem Wb {v:A9}(h:Ac s v=none):∀ l,LN (.map (Bp An m)::l) true true (.agg [.str [],.bool false,.sl 3 []]) (.map 0) (.str v)=some (.tup [.agg [.str [],.bool false,.sl 3 []],.bool false]):=fun l=>by
 have:=KX An m v true (.agg [.str [],.bool false,.sl 3 []]) (H:=.map (Bp An m)::l) (i:=0) rfl
 rw[hm,h]at this;exact this
theorem Tk (n:Nat)(t h:Term)(hh:E7 n s t=some h):Spec prog Cy [.ptr 2 0,An t] (uH m d) fun x H'=>x=An h/\H'=uH m d:=by
 refine AC mixed FC.ok rfl ?_
 have key:∀ (n:Nat)(t:Term),E7 n s t=some h->FC.L3 (.ptr 2 0) (.ptr 3 0) (.ptr 4 0) 3 (Sx m d [.cells A2 (cT t),.cells A2 [.str [],.bool false,.sl 3 []]]) (BH 3 FC.rs fun x' H'=>x'=An h/\H'=uH m d):=by
  intro n
  induction n with
  | zero=>intro t h;cases h
  | succ n ih =>
   intro t ht
   simp only[E7]at ht
   refine A7.2 ?_
   cases hv:t.var with
   | false =>
    rw[if_neg (by simp[hv])]at ht
    cases ht
    push_cast[hv]
    exact Am (H:=uH m d) (J:=[_,_]) (Hc m d) rfl ⟨by push_cast,rfl⟩
   | true =>
    rw[if_pos hv]at ht
    cases hi:Ac s t.name with
    | none =>
     rw[hi]at ht
     cases ht
     push_cast[hv,Wb hm hi]
     exact Am (H:=uH m d) (J:=[_,_,_]) (Hc m d) rfl ⟨by push_cast,rfl⟩
    | some x =>
     rw[hi]at ht
     push_cast[hv,R2 hm hi]
     exact ih x ht
 push_cast
 exact key n t hh
def Np (s:List A5)(v:A9):Nat->SM->Term->SM×Bool
 | 0,σ,_=>(σ,false)
 | n+1,σ,t=>if t.var then (if t.name=v then (σ,true) else match Ac s t.name with
   | none=>(σ,false)
   | some x=>if (Cd σ t.name).isSome then (σ,false) else Np s v n (Fu σ t.name ()) x)
  else Vf (Np s v n) σ t.args
abbrev oH (m:TM)(d:DM)(σ:SM):List Ob:=Sx m d [.map (Bp Fx σ)]
abbrev oJ (m:TM)(d:DM)(σ:SM):List Ob:=Sx m d [.map (Bp Fx σ),.cells Im [.ptr 2 0],.cells DB [.map 3]]
omit hm in
theorem XQ (m:TM)(d:DM)(σ:SM):I4 4 (oH m d σ):=⟨rfl,by
 show [A6 (AI 4) (.map (Bp An m)),A6 (AI 4) (.map (GW Fx d)),A6 (AI 4) (.cells B9 [.map 0,.map 1]),A6 (AI 4) (.map (Bp Fx σ))]=_
 have h0:AI 4 0=some 0:=rfl
 have h1:AI 4 1=some 1:=rfl
 push_cast[h0,h1]⟩
omit hm in
theorem rx (m:TM)(d:DM)(σ:SM)(J:List Ob):give [0,1,2,3] (Sx m d (.map (Bp Fx σ)::J))=oH m d σ:=by
 show [A6 (Ay [0,1,2,3]) (.map (Bp An m)),A6 (Ay [0,1,2,3]) (.map (GW Fx d)),A6 (Ay [0,1,2,3]) (.cells B9 [.map 0,.map 1]),A6 (Ay [0,1,2,3]) (.map (Bp Fx σ))]=_
 have h0:Ay [0,1,2,3] 0=some 0:=rfl
 have h1:Ay [0,1,2,3] 1=some 1:=rfl
 push_cast[h0,h1]
omit hm in
theorem Aa3 (m:TM)(d:DM)(σ σ':SM)(a b:Ob):takeB [0,1,2,3] (Sx m d [.map (Bp Fx σ),a,b]) (oH m d σ')=Sx m d [.map (Bp Fx σ'),a,b]:=by
 show [A6 (BG [0,1,2,3] 6) (.map (Bp An m)),A6 (BG [0,1,2,3] 6) (.map (GW Fx d)),A6 (BG [0,1,2,3] 6) (.cells B9 [.map 0,.map 1]),A6 (BG [0,1,2,3] 6) (.map (Bp Fx σ')),a,b]=_
 have h0:BG [0,1,2,3] 6 0=some 0:=rfl
 have h1:BG [0,1,2,3] 6 1=some 1:=rfl
 push_cast[h0,h1]
omit hm in
section
variable {N:Nat->C} {B:Nat} {k:List K} {t:T} {Q:X->T->List Ob->Prop} {dd:Option Nat} {l:List S} {f:Nat} {v:A9} {z:Term} {b:Bool} {σ σ':SM} {m:TM} {d:DM} {a c:Ob}
theorem yh (h:Spec prog f [.ptr 2 0,.str v,An z,.map 3] (oH m d σ) fun x' H'=>x'=.bool b/\H'=oH m d σ')(k':Ax prog N B (.r l::k) (Fd dd (.bool b) t) (Sx m d [.map (Bp Fx σ'),a,c]) Q):Bl prog N B dd l k t Q (.func f) [.ptr 2 0,.str v,An z,.map 3] (Sx m d [.map (Bp Fx σ),a,c]):=by
 have h2:Ay [0,1,2,3] 2=some 2:=rfl
 have h3:Ay [0,1,2,3] 3=some 3:=rfl
 refine Bl.some [0,1,2,3] (by simp) (by simp) (R:=fun x' H'=>x'=.bool b/\H'=oH m d σ') (by rw[rx];push_cast[h2,h3];exact h) ?_
 rintro x' H' ⟨rfl,rfl⟩ _
 rw[Aa3];exact k'
end
omit hm in
theorem yr (m:TM)(d:DM)(σ σ':SM)(a b c:Ob):takeB [0,1,2,3] (Sx m d [.map (Bp Fx σ),a,b,c]) (oH m d σ')=Sx m d [.map (Bp Fx σ'),a,b,c]:=by
 show [A6 (BG [0,1,2,3] 7) (.map (Bp An m)),A6 (BG [0,1,2,3] 7) (.map (GW Fx d)),A6 (BG [0,1,2,3] 7) (.cells B9 [.map 0,.map 1]),A6 (BG [0,1,2,3] 7) (.map (Bp Fx σ')),a,b,c]=_
 have h0:BG [0,1,2,3] 7 0=some 0:=rfl
 have h1:BG [0,1,2,3] 7 1=some 1:=rfl
 push_cast[h0,h1]
omit hm in
section
variable {N:Nat->C} {B:Nat} {k:List K} {t:T} {Q:X->T->List Ob->Prop} {dd:Option Nat} {l:List S} {f:Nat} {v:A9} {z:Term} {b:Bool} {σ σ':SM} {m:TM} {d:DM} {a c e:Ob}
theorem rX (h:Spec prog f [.ptr 2 0,.str v,An z,.map 3] (oH m d σ) fun x' H'=>x'=.bool b/\H'=oH m d σ')(k':Ax prog N B (.r l::k) (Fd dd (.bool b) t) (Sx m d [.map (Bp Fx σ'),a,c,e]) Q):Bl prog N B dd l k t Q (.func f) [.ptr 2 0,.str v,An z,.map 3] (Sx m d [.map (Bp Fx σ),a,c,e]):=by
 have h2:Ay [0,1,2,3] 2=some 2:=rfl
 have h3:Ay [0,1,2,3] 3=some 3:=rfl
 refine Bl.some [0,1,2,3] (by simp) (by simp) (R:=fun x' H'=>x'=.bool b/\H'=oH m d σ') (by rw[rx];push_cast[h2,h3];exact h) ?_
 rintro x' H' ⟨rfl,rfl⟩ _
 rw[yr];exact k'
end
omit hm in
theorem UG {m:TM}{d:DM}{σ σ':SM}{v:A9}{a:Term}{b:Bool}(h:Spec prog Cb [.ptr 2 0,.str v,An a,.map 3] (oH m d σ) fun x H'=>x=.bool b/\H'=oH m d σ') :
  Spec prog Dm [An a,.ptr 4 0,.ro [.str v] 0,.ptr 5 0] (oJ m d σ) fun x H'=>x=.bool b/\H'=oJ m d σ':=by
 refine AC mixed IL.ok rfl ?_
 push_cast
 refine yh h ?_
 push_cast
 exact Ck (.inl rfl) rfl ⟨rfl,rfl⟩
theorem Yl (hw:∀ v x,Ac s v=some x->Dr x<2^40)(v:A9):∀ (n:Nat)(t:Term)(σ:SM),Gj s n t->Dr t<2^40->Spec prog Cb [.ptr 2 0,.str v,An t,.map 3] (oH m d σ) fun x H'=>x=.bool (Np s v n σ t).2/\H'=oH m d (Np s v n σ t).1:=by
 intro n
 induction n with
 | zero=>intro t σ h;exact h.elim
 | succ n ih =>
  intro t σ hn ht
  simp only[Gj]at hn
  refine AC mixed K4.ok rfl ?_
  unfold Np
  cases hv:t.var with
  | true =>
   rw[if_pos rfl]
   rw[if_pos hv]at hn
   by_cases hz:t.name=v
   ·rw[if_pos hz]
    push_cast[hv,hz]
    exact Am (H:=oH m d σ) (J:=[_,_]) (XQ m d σ) rfl ⟨rfl,rfl⟩
   ·rw[if_neg hz]
    have hz2:(t.name==v)=false:=by simpa using hz
    cases hi:Ac s t.name with
    | none =>
     push_cast[hv,hz,hz2,Wb hm hi]
     exact Am (H:=oH m d σ) (J:=[_,_,_]) (XQ m d σ) rfl ⟨rfl,rfl⟩
    | some x =>
     have hlk:∀ l,_:=fun l=>KX Fx σ t.name false (.bool false) (H:=Sx m d (.map (Bp Fx σ)::l)) (i:=3) rfl
     have hup:=Q3 Fx σ t.name ()
     have hok:=ih x (Fu σ t.name ()) (hn x hi) (hw _ _ hi)
     cases hg:Cd σ t.name with
     | some u =>
      rw[hg]at hlk
      simp only[Option.map_some,Option.getD_some]at hlk
      push_cast[hv,hz,hz2,R2 hm hi,hlk]
      exact Am (H:=oH m d σ) (J:=[_,_,_]) (XQ m d σ) rfl ⟨rfl,rfl⟩
     | none =>
      rw[hg]at hlk
      simp only[Option.map_none,Option.getD_none]at hlk
      push_cast[hv,hz,hz2,R2 hm hi,hlk,hup]
      refine⟨rfl,rX hok ?_⟩
      push_cast
      exact Am (H:=oH m d (Np s v n (Fu σ t.name ()) x).1) (J:=[_,_,_]) (XQ m d _) rfl ⟨rfl,rfl⟩
  | false =>
   rw[if_neg (by simp)]
   rw[if_neg (by simp[hv])]at hn
   push_cast[hv]
   have hwa:=Em t
   have hC:=Pf (F:=Np s v n) (Hs:=oJ m d) (Inv:=fun _=>True) (g:=Dm) (n:=6) (caps:=[.ptr 4 0,.ro [.str v] 0,.ptr 5 0]) (fun _=>rfl) rfl
    (fun σ=>by
     show [A6 (AI 6) (.map (Bp An m)),A6 (AI 6) (.map (GW Fx d)),A6 (AI 6) (.cells B9 [.map 0,.map 1]),A6 (AI 6) (.map (Bp Fx σ)),A6 (AI 6) (.cells Im [.ptr 2 0]),A6 (AI 6) (.cells DB [.map 3])]=_
     have h0:AI 6 0=some 0:=rfl
     have h1:AI 6 1=some 1:=rfl
     have h2:AI 6 2=some 2:=rfl
     have h3:AI 6 3=some 3:=rfl
     push_cast[h0,h1,h2,h3])
    t.args (by omega) (fun a ha σ _=>UG (ih a σ (hn a ha) (by have:=T9 ha;omega))) (fun _ _ _ _ _=>trivial) σ trivial
   refine Bl.all (R:=fun x H'=>x=.bool (Vf (Np s v n) σ t.args).2/\H'=oJ m d (Vf (Np s v n) σ t.args).1) hC ?_
   rintro x H' ⟨rfl,rfl⟩
   push_cast
   exact Am (H:=oH m d _) (J:=[_,_]) (XQ m d _) rfl ⟨rfl,rfl⟩
omit hm in
theorem eD {F:SM->Term->SM×Bool}:∀ (l:List Term)(σ:SM),(Vf F σ l).2=true->∃ a∈l,∃ σ',(F σ' a).2=true
 | [],σ,h=>by cases h
 | a::l,σ,h=>by
  unfold Vf at h
  by_cases h1:(F σ a).2=true
  ·exact⟨a,by simp,σ,h1⟩
  ·rw[if_neg h1]at h
   obtain⟨b,hb,h2⟩:=eD l _ h
   exact⟨b,by simp[hb],h2⟩
omit hm in
theorem Ul {v:A9}:∀ (n:Nat)(σ:SM)(t:Term),(Np s v n σ t).2=true->Pw s v t
 | 0,σ,t,h=>by cases h
 | n+1,σ,t,h=>by
  unfold Np at h
  cases hv:t.var with
  | true =>
   rw[if_pos hv]at h
   by_cases hz:t.name=v
   ·exact .here hv hz
   ·rw[if_neg hz]at h
    cases hi:Ac s t.name with
    | none=>rw[hi]at h;cases h
    | some x =>
     rw[hi]at h
     simp only at h
     split at h
     ·cases h
     ·exact .bound hv hi (Ul n _ x h)
  | false =>
   rw[if_neg (by simp[hv])]at h
   obtain⟨a,ha,σ',h1⟩:=eD _ _ h
   exact .arg hv ha (Ul n σ' a h1)
omit hm in
theorem ZX {F:SM->Term->SM×Bool}{P:Term->Prop}{Q:SM->Prop}:∀ (l:List Term)(σ:SM),Q σ->(∀ a∈l,∀ σ,Q σ->(F σ a).2=false->P a/\Q (F σ a).1)->(Vf F σ l).2=false->(∀ a∈l,P a)/\Q (Vf F σ l).1
 | [],σ,hq,_,h=>⟨by simp,hq⟩
 | a::l,σ,hq,hs,h=>by
  unfold Vf at h ⊢
  by_cases h1:(F σ a).2=true
  ·rw[if_pos h1]at h;cases h
  ·rw[if_neg h1]at h ⊢
   obtain⟨h2,h3⟩:=hs a (by simp) σ hq (by simpa using h1)
   obtain⟨h4,h5⟩:=ZX l _ h3 (fun b hb=>hs b (by simp[hb])) h
   exact⟨fun b hb=>by rcases List.mem_cons.1 hb with rfl | hb;exact h2;exact h4 b hb,h5⟩
omit hm in
theorem Vu {v w:A9}{x:Term}(hw:w≠v)(hi:Ac s w=some x)(h:¬ Pw s v x):¬ Pw s v (C2 w):=by
 intro ho
 cases ho with
 | here _ h2=>exact hw h2
 | bound _ h2 h3=>rw[show (C2 w).name=w from rfl,hi]at h2;cases h2;exact h h3
 | arg h1 _ _=>cases h1
omit hm in
theorem RS {σ':EQ}{rk:A9->Nat}(hu:Gk s σ' rk){v:A9}:∀ (n:Nat)(σ:SM)(t:Term)(R:Nat),Gj s n t->vfl t=true->(∀ u,CX u t=true->rk u<R)->(∀ w,(Cd σ w).isSome=true->¬ Pw s v (C2 w)\/R<=rk w)->(Np s v n σ t).2=false ->
  ¬ Pw s v t/\∀ w,(Cd (Np s v n σ t).1 w).isSome=true->(Cd σ w).isSome=true\/¬ Pw s v (C2 w)
 | 0,σ,t,R,h,_,_,_,_=>h.elim
 | n+1,σ,t,R,hn,ht,hR,hσ,h=>by
  simp only[Gj]at hn
  unfold Np at h ⊢
  cases hv:t.var with
  | true =>
   rw[if_pos hv]at h hn
   rw[if_pos rfl]
   have hocc:CX t.name t=true:=AO.2 (.inl ⟨hv,rfl⟩)
   have htv:=QV ht hv
   by_cases hz:t.name=v
   ·rw[if_pos hz]at h;cases h
   ·rw[if_neg hz]at h ⊢
    cases hi:Ac s t.name with
    | none =>
     refine⟨fun ho=>?_,fun w hw=>.inl hw⟩
     cases ho with
     | here _ h2=>exact hz h2
     | bound _ h2 _=>rw[hi]at h2;cases h2
     | arg h1 _ _=>rw[hv]at h1;cases h1
    | some x =>
     rw[hi]at h
     simp only at h ⊢
     by_cases hg:(Cd σ t.name).isSome=true
     ·rw[if_pos hg]
      rcases hσ _ hg with h1 | h1
      ·exact⟨by rw[htv];exact h1,fun w hw=>.inl hw⟩
      ·have:=hR _ hocc;omega
     ·rw[if_neg hg]at h ⊢
      obtain⟨h1,h2⟩:=RS hu n (Fu σ t.name ()) x (rk t.name) (hn x hi) (hu.vf _ _ hi) (hu.low _ _ hi) (fun w hw=>by
       rw[HZ]at hw
       by_cases e:t.name=w
       ·exact .inr (by rw[e];exact Nat.le_refl _)
       ·rw[if_neg e]at hw
        rcases hσ w hw with h3 | h3
        ·exact .inl h3
        ·exact .inr (by have:=hR _ hocc;omega)) h
      have h3:=Vu hz hi h1
      refine⟨by rw[htv];exact h3,fun w hw=>?_⟩
      rcases h2 w hw with h4 | h4
      ·rw[HZ]at h4
       by_cases e:t.name=w
       ·exact .inr (e▸h3)
       ·rw[if_neg e]at h4;exact .inl h4
      ·exact .inr h4
  | false =>
   rw[if_neg (by simp[hv])]at h hn
   rw[if_neg (by simp)]
   obtain⟨h1,h2⟩:=ZX (P:=fun a=>¬ Pw s v a) (Q:=fun τ=>∀ w,(Cd τ w).isSome=true->(Cd σ w).isSome=true\/¬ Pw s v (C2 w)) t.args σ (fun w hw=>.inl hw)
    (fun a ha τ hτ hf=>by
     obtain⟨h3,h4⟩:=RS hu n τ a R (hn a ha) (BR ht ha) (fun u hu'=>hR u (AO.2 (.inr ⟨a,ha,hu'⟩))) (fun w hw=>by
      rcases hτ w hw with h5 | h5
      ·exact hσ w h5
      ·exact .inl h5) hf
     refine⟨h3,fun w hw=>?_⟩
     rcases h4 w hw with h5 | h5
     ·exact hτ w h5
     ·exact .inr h5) h
   refine⟨fun ho=>?_,h2⟩
   cases ho with
   | here h3 _=>rw[hv]at h3;cases h3
   | bound h3 _ _=>rw[hv]at h3;cases h3
   | arg _ h3 h4=>exact h1 _ h3 h4
omit hm in
theorem yg {σ':EQ}{rk:A9->Nat}(hu:Gk s σ' rk){v:A9}{n:Nat}{t:Term}(hn:Gj s n t)(ht:vfl t=true):(Np s v n [] t).2=true↔Pw s v t:=by
 constructor
 ·exact Ul n [] t
 ·intro ho
  obtain⟨M,hM⟩:=YB rk t
  cases h:(Np s v n [] t).2 with
  | true=>rfl
  | false=>exact absurd ho (RS hu n [] t (M+1) hn ht (fun u h=>by have:=hM u h;omega) (fun w hw=>by cases hw) h).1
theorem Vy {σ':EQ}{rk:A9->Nat}(hu:Gk s σ' rk)(hw:∀ v x,Ac s v=some x->Dr x<2^40)(v:A9)(t:Term)(ht:vfl t=true)(hwt:Dr t<2^40) :
  Spec prog EX [.ptr 2 0,.str v,An t] (uH m d) fun x H'=>x=.bool (LH s v t).2/\H'=uH (if (LH s v t).2 then Fu m v t else m) d:=by
 obtain⟨n,hn⟩:=hu.need t
 have hO:=Yl d hm hw v n t [] hn hwt
 have hup:=Q3 An m v t
 refine AC mixed MC.ok rfl ?_
 push_cast
 refine Bl.all (R:=fun x H'=>x=.bool (Np s v n [] t).2/\H'=oH m d (Np s v n [] t).1) hO ?_
 rintro x H' ⟨rfl,rfl⟩
 have hq:=yg hu (v:=v) hn ht
 rcases LG s v t with ⟨ho,e⟩|⟨ho,e⟩
 ·rw[e]
  have hq:=hq.2 ho
  push_cast[hq]
  exact Am (H:=uH m d) (J:=[_]) (Hc m d) rfl ⟨rfl,rfl⟩
 ·rw[e]
  have hq:(Np s v n [] t).2=false:=by
   cases h:(Np s v n [] t).2 with
   | true=>exact absurd (hq.1 h) ho
   | false=>rfl
  push_cast[hq,hup]
  exact⟨rfl,Am (H:=uH (Fu m v t) d) (J:=[_]) (Hc _ d) rfl ⟨rfl,rfl⟩⟩
end
end Go.Dw
end
section
namespace Go.Dw
theorem Gk.sat_comp {s:List A5}{σ θ:EQ}{rk:A9->Nat}(h:Gk s σ rk)(hθ:TY θ s):∀ v,θ v=app θ (σ v):=by
 refine h.ind fun v ih=>?_
 cases hi:Ac s v with
 | none=>rw[h.free v hi];exact (Av (f:=θ) (t:=C2 v) rfl).symm
 | some t =>
  rw[h.fix v t hi,hθ v t hi,Og]
  exact DW t fun w hw=>ih t w hi hw
theorem Gk.sat_app {s:List A5}{σ θ:EQ}{rk:A9->Nat}(h:Gk s σ rk)(hθ:TY θ s)(t:Term):app θ t=app θ (app σ t):=by
 rw[Og];exact DW t fun v _=>h.sat_comp hθ v
theorem jV {f:Term->Term}{l m:List Term}(h:l.map f=m.map f):l.length=m.length:=by simpa using congrArg List.length h
theorem Xr {s:List A5}{σ:EQ}{rk:A9->Nat}(h:Gk s σ rk):∀ (n:Nat)(a b:Term)(r:List A5×Bool),vfl a=true->vfl b=true->B3 n s a b=some r->app σ a=app σ b->r=(s,true)
 | 0,_,_,_,_,_,hr,_=>by cases hr
 | n+1,a,b,r,ha,hb,hr,he=>by
  obtain⟨x,y,hx,hy,hc⟩:=JW hr
  have hxv:vfl x=true:=C9 (P:=fun t=>vfl t=true) h.vf ha hx
  have hyv:vfl y=true:=C9 (P:=fun t=>vfl t=true) h.vf hb hy
  rw[<-IR h.sat hx,<-IR h.sat hy]at he
  have hfx:x.var=true->app σ x=C2 x.name:=fun c=>by rw[Av c];exact h.free _ (Es hx c)
  have hfy:y.var=true->app σ y=C2 y.name:=fun c=>by rw[Av c];exact h.free _ (Es hy c)
  rcases hc with ⟨c1,c2,c3,rfl⟩|⟨c1,c2,rfl⟩|⟨c1,c2,rfl⟩|⟨c1,c2,c3,rfl⟩|⟨c1,c2,c3,c4,c5⟩
  ·rfl
  ·exfalso
   rw[hfx c1]at he
   cases hv:y.var with
   | true =>
    rw[hfy hv]at he
    injection he with e1 e2 e3
    exact c2 ⟨hv,e1⟩
   | false=>rw[B7 hv]at he;injection he with e1 e2 e3;cases e2
  ·exfalso
   rw[hfy c2,B7 c1]at he
   injection he with e1 e2 e3;cases e2
  ·exfalso
   rw[B7 c1,B7 c2]at he
   injection he with e1 e2 e3
   rcases c3 with c3 | c3
   ·exact c3 e1
   ·exact c3 (jV e3)
  ·rw[B7 c1,B7 c2]at he
   injection he with e1 e2 e3
   have key:∀ (l m:List Term),(∀ z∈l,vfl z=true)->(∀ z∈m,vfl z=true)->l.map (app σ)=m.map (app σ)->AF (B3 n) s l m=some r->r=(s,true):=by
    intro l
    induction l with
    | nil=>intro m _ _ _ h;simp only[AF,Option.some.injEq]at h;exact h.symm
    | cons a l ihl =>
     intro m hl hm he h
     cases m with
     | nil=>simp at he
     | cons b m =>
      simp only[List.map_cons,List.cons.injEq]at he
      simp only[AF]at h
      cases hf:B3 n s a b with
      | none=>rw[hf]at h;cases h
      | some p =>
       rw[hf]at h
       have e:=Xr ‹Gk s σ rk› n a b p (hl a (by simp)) (hm b (by simp)) hf he.1
       subst e
       exact ihl m (fun x hx=>hl x (by simp[hx])) (fun x hx=>hm x (by simp[hx])) he.2 h
   exact key x.args y.args (fun z hz=>BR hxv hz) (fun z hz=>BR hyv hz) e3 c5
theorem Et {t a:Term}(h:Dr t<2^40)(ha:a∈t.args):Dr a<2^40:=by
 have:=Em t
 have:=T9 ha
 omega
def WB (s:List A5):Prop:=∀ v x,Ac s v=some x->Dr x<2^40
theorem WB.solve {s:List A5}(h:WB s){n:Nat}{a b:Term}{r:List A5×Bool}(ha:Dr a<2^40)(hb:Dr b<2^40)(hr:B3 n s a b=some r):WB r.1 :=
 fun v x hx=>(JU (P:=fun t=>Dr t<2^40) (Q:=fun _=>True) (fun t a h ha=>Et h ha) (fun _ _ _=>trivial) n s a b r (fun v t hv=>⟨h v t hv,trivial⟩) ha hb hr v x hx).1
def MR (s:List A5)(m:TM):Prop:=(∀ v,Cd m v=Ac s v)/\nf m
theorem MR.bind {s:List A5}{m:TM}(h:MR s m){v:A9}(hv:Ac s v=none)(t:Term):MR (Eh s v t) (Fu m v t) :=
 ⟨fun w=>by rw[HZ,Dq hv,h.1 w],ou h.2 v t⟩
def Qj (s:List A5)(k:Qk):Prop:=∀ θ,TY θ s->θ k.1=θ k.2
def xr (d:DM)(r:List A5×Bool)(x:V)(m':TM)(d':DM):Prop:=x=.bool r.2/\(r.2=true->MR r.1 m'/\∀ k,(Cd d' k).isSome=true->(Cd d k).isSome=true\/Qj r.1 k)
theorem Acq (m m':TM)(d d':DM)(J:List Ob):takeB [0,1,2] (Sx m d J) (uH m' d')=Sx m' d' J:=by
 apply List.ext_getElem?
 intro i
 rw[DX (by simp)]
 have h0:∀ n,BG [0,1,2] n 0=some 0:=fun _=>rfl
 have h1:∀ n,BG [0,1,2] n 1=some 1:=fun _=>rfl
 match i with
 | 0=>rw[if_pos (by simp)];show some (A6 _ (.map (Bp An m')))=some _;push_cast
 | 1=>rw[if_pos (by simp)];show some (A6 _ (.map (GW Fx d')))=some _;push_cast
 | 2=>rw[if_pos (by simp)];show some (A6 _ (.cells B9 [.map 0,.map 1]))=some _;push_cast[h0,h1]
 | i+3 =>
  have hp:Ay [0,1,2] (i+3)=none:=by simp[Ay,List.findIdx?_cons]
  by_cases h:i<J.length
  ·rw[if_pos (by simp;omega),hp]
   simp[List.getD_eq_getElem?_getD,h]
  ·rw[if_neg (by simp;omega)]
   have e1:(Sx m' d' J)[i+3]?=none:=List.getElem?_eq_none (by simp;omega)
   have e2:(uH m' d')[[0,1,2].length+(i+3-(Sx m d J).length)]?=none:=List.getElem?_eq_none (by simp)
   rw[e1,e2];rfl
theorem AaG (m:TM)(d:DM)(J:List Ob):give [0,1,2] (Sx m d J)=uH m d:=by
 show [A6 (Ay [0,1,2]) (.map (Bp An m)),A6 (Ay [0,1,2]) (.map (GW Fx d)),A6 (Ay [0,1,2]) (.cells B9 [.map 0,.map 1])]=_
 have h0:Ay [0,1,2] 0=some 0:=rfl
 have h1:Ay [0,1,2] 1=some 1:=rfl
 push_cast[h0,h1]
section
variable {N:Nat->C} {B:Nat} {k:List K} {t:T} {Q:X->T->List Ob->Prop} {dd:Option Nat} {l:List S} {f:Nat} {vs vs':List V} {m:TM} {d:DM} {J:List Ob}
theorem QN {R:V->TM->DM->Prop}(hv:AN (Ay [0,1,2]) vs=vs')(h:Spec prog f vs' (uH m d) fun x' H'=>∃ m' d',R x' m' d'/\H'=uH m' d')(k':∀ x' m' d',R x' m' d'->Ax prog N B (.r l::k) (Fd dd (ren (BG [0,1,2] (J.length+3)) x') t) (Sx m' d' J) Q):Bl prog N B dd l k t Q (.func f) vs (Sx m d J):=by
 refine Bl.some [0,1,2] (by simp) (by simp) (R:=fun x' H'=>∃ m' d',R x' m' d'/\H'=uH m' d') (by rw[AaG,hv];exact h) ?_
 rintro x' H' ⟨m',d',hr,rfl⟩ _
 rw[Acq];exact k' x' m' d' hr
theorem NI {x:V}(hv:AN (Ay [0,1,2]) vs=vs')(h:Spec prog f vs' (uH m d) fun x' H'=>x'=x/\H'=uH m d)(k':Ax prog N B (.r l::k) (Fd dd (ren (BG [0,1,2] (J.length+3)) x) t) (Sx m d J) Q):Bl prog N B dd l k t Q (.func f) vs (Sx m d J):=by
 refine QN (R:=fun x' m' d'=>x'=x/\m'=m/\d'=d) hv (Spec.mono h fun x' H' h=>⟨m,d,⟨h.1,rfl,rfl⟩,h.2⟩) ?_
 rintro x' m' d' ⟨rfl,rfl,rfl⟩;exact k'
end
end Go.Dw
end
namespace Go.Dw
theorem Z2:∀ (n:Nat)(s:List A5)(σ:EQ)(rk:A9->Nat)(m:TM)(d:DM)(a b:Term) (r:List A5×Bool),Gk s σ rk->MR s m->WB s->vfl a=true->vfl b=true->Dr a<2^40->Dr b<2^40->B3 n s a b=some r ->
  (∀ k,(Cd d k).isSome=true->Qj s k\/∀ θ,TY θ s->size (app θ a)<size (θ k.1))->Spec prog Eb [.ptr 2 0,An a,An b] (uH m d) fun x H'=>∃ m' d',xr d r x m' d'/\H'=uH m' d':=by
 intro n
 induction n with
 | zero=>intro s σ rk m d a b r _ _ _ _ _ _ _ h;cases h
 | succ n ih =>
  intro s σ rk m d a b r hu hm hwb ha hb hwa hwb2 hr hd
  have rest:∀ (d:DM)(Q:V->List Ob->Prop)(T:T)(J:List Ob),(∀ x m' d',xr d r x m' d'->Q x (uH m' d'))->lk T 0=.ptr 2 0->lk T 4=.ptr 3 0->lk T 5=.ptr 4 0->(∀ k,(Cd d k).isSome=true->Qj s k\/∀ θ,TY θ s->size (app θ a)<=size (θ k.1)) ->
    Ax prog Ci.nd 3 [.c (.n 5)] T (Sx m d (.cells A2 (cT a)::.cells A2 (cT b)::J)) (BH 3 Ci.rs Q):=by
   intro d Q T J hQ h0 h4 h5 hd
   obtain⟨x,y,hx,hy,hc⟩:=JW hr
   have hxv:vfl x=true:=C9 (P:=fun t=>vfl t=true) hu.vf ha hx
   have hyv:vfl y=true:=C9 (P:=fun t=>vfl t=true) hu.vf hb hy
   have hxw:Dr x<2^40:=C9 (P:=fun t=>Dr t<2^40) hwb hwa hx
   have hyw:Dr y<2^40:=C9 (P:=fun t=>Dr t<2^40) hwb hwb2 hy
   have hxs:∀ θ,TY θ s->app θ x=app θ a:=fun θ hθ=>IR hθ hx
   have hA:=Tk d hm.1 (n+1) a x hx
   have hB:=Tk d hm.1 (n+1) b y hy
   have hlx:=Em x
   have hly:=Em y
   have p2:Ay [0,1,2] 2=some 2:=rfl
   have same:∀ r:List A5×Bool,r.1=s->∀ x:V,x=.bool r.2->xr d r x m d:=fun r h x e=>⟨e,fun _=>⟨h▸hm,fun k hk=>.inl hk⟩⟩
   have setF:∀ (v:A9)(t:Term),Ac s v=none->r=LH s v t->∀ (x':V)(m':TM)(d':DM),(x'=.bool (LH s v t).2/\m'=(if (LH s v t).2 then Fu m v t else m)/\d'=d)->xr d r x' m' d':=by
    rintro v t hv rfl x' m' d' ⟨rfl,rfl,rfl⟩
    refine⟨rfl,fun h=>⟨?_,fun k hk=>.inl hk⟩⟩
    rcases LG s v t with ⟨_,e⟩|⟨_,e⟩
    ·rw[e]at h;cases h
    ·rw[e,if_pos rfl];exact hm.bind hv t
   push_cast[h0,h4,h5]
   refine⟨NI (by push_cast[p2]) hA ?_,NI (by push_cast[p2]) hA ?_⟩
   all_goals
    push_cast[h0,h4,h5]
    refine NI (by push_cast[p2]) hB ?_
    rcases hc with ⟨c1,c2,c3,c6⟩|⟨c1,c2,c6⟩|⟨c1,c2,c6⟩|⟨c1,c2,c3,c6⟩|⟨c1,c2,c3,c4,c5⟩
    ·push_cast[h0,h4,h5,c1,c2,c3]
     exact Am (H:=uH m d) (J:=_::_::J) (Hc m d) rfl (hQ _ m d (same r (by rw[c6]) _ (by rw[c6];rfl)))
    ·have hS:=Vy d hm.1 hu hwb x.name y hyv hyw
     have hS2:=Spec.mono hS (Q':=fun x' H'=>∃ m' d',(x'=.bool (LH s x.name y).2/\m'=(if (LH s x.name y).2 then Fu m x.name y else m)/\d'=d)/\H'=uH m' d') fun x' H' h=>⟨_,_,⟨h.1,rfl,rfl⟩,h.2⟩
     by_cases c3:y.var=true
     ·have c4:x.name≠y.name:=fun e=>c2 ⟨c3,e⟩
      push_cast[h0,h4,h5,c1,c3,c4]
      refine QN (by push_cast[p2]) hS2 ?_
      intro x' m' d' hR
      have hf:=setF x.name y (Es hx c1) c6 x' m' d' hR
      obtain⟨rfl,_,_⟩:=hR
      push_cast
      exact Am (H:=uH m' d') (J:=_::_::J) (Hc m' d') rfl (hQ _ m' d' hf)
     ·have c3:y.var=false:=by simpa using c3
      push_cast[h0,h4,h5,c1,c3]
      refine QN (by push_cast[p2]) hS2 ?_
      intro x' m' d' hR
      have hf:=setF x.name y (Es hx c1) c6 x' m' d' hR
      obtain⟨rfl,_,_⟩:=hR
      push_cast
      exact Am (H:=uH m' d') (J:=_::_::J) (Hc m' d') rfl (hQ _ m' d' hf)
    ·have hS:=Vy d hm.1 hu hwb y.name x hxv hxw
     have hS2:=Spec.mono hS (Q':=fun x' H'=>∃ m' d',(x'=.bool (LH s y.name x).2/\m'=(if (LH s y.name x).2 then Fu m y.name x else m)/\d'=d)/\H'=uH m' d') fun x' H' h=>⟨_,_,⟨h.1,rfl,rfl⟩,h.2⟩
     push_cast[h0,h4,h5,c1,c2]
     refine QN (by push_cast[p2]) hS2 ?_
     intro x' m' d' hR
     have hf:=setF y.name x (Es hy c2) c6 x' m' d' hR
     obtain⟨rfl,_,_⟩:=hR
     push_cast
     exact Am (H:=uH m' d') (J:=_::_::J) (Hc m' d') rfl (hQ _ m' d' hf)
    ·by_cases hn:x.name=y.name
     ·have hlen:((x.args.length:Int)=(y.args.length:Int))=False:=eq_false (by rcases c3 with h | h;exact absurd hn h;omega)
      push_cast[h0,h4,h5,c1,c2,hn,hlen]
      exact Am (H:=uH m d) (J:=_::_::J) (Hc m d) rfl (hQ _ m d (same r (by rw[c6]) _ (by rw[c6];rfl)))
     ·push_cast[h0,h4,h5,c1,c2,hn]
      exact Am (H:=uH m d) (J:=_::_::J) (Hc m d) rfl (hQ _ m d (same r (by rw[c6]) _ (by rw[c6];rfl)))
    ·have hlen:((x.args.length:Int)=(y.args.length:Int))=True:=eq_true (by omega)
     push_cast[h0,h4,h5,c1,c2,c3,hlen]
     refine Ae (n:=x.args.length) (R:=fun k=>∀ (s':List A5)(σ':EQ)(rk':A9->Nat)(m':TM)(d':DM),Gk s' σ' rk'->MR s' m'->WB s'->(∀ θ,TY θ s'->TY θ s)->(∀ k,(Cd d' k).isSome=true->(Cd d k).isSome=true\/Qj s' k)->AF (B3 n) s' (x.args.drop k) (y.args.drop k)=some r ->
      Ci.L3 (.ptr 2 0) (.ptr 3 0) (.ptr 4 0) (.int .i64 x.args.length) (.int .i64 k) 3 (Sx m' d' [.cells A2 (cT x),.cells A2 (cT y)]) (BH 3 Ci.rs Q)) ?_ ?_ 0 (by omega) s σ rk m d hu hm hwb (fun _ h=>h) (fun k hk=>.inl hk) c5
     ·intro k hk ih2 s' σ' rk' m' d' hu' hm' hwb' hsat hkeys hsol
      have hk2:k<y.args.length:=by omega
      have hmx:=A4 hk
      have hmy:=A4 hk2
      rw[Ag hk,Ag hk2]at hsol
      generalize hc:x.args.getD k default=c at hmx hsol
      generalize he:y.args.getD k default=e at hmy hsol
      simp only[AF]at hsol
      cases hf:B3 n s' c e with
      | none=>rw[hf]at hsol;cases hsol
      | some p =>
       obtain⟨s1,ok⟩:=p
       rw[hf]at hsol
       have hcall:=ih s' σ' rk' m' d' c e (s1,ok) hu' hm' hwb' (BR hxv hmx) (BR hyv hmy) (Et hxw hmx) (Et hyw hmy) hf (fun k hk=>by
        rcases hkeys k hk with h | h
        ·rcases hd k h with h | h
         ·exact .inl fun θ hθ=>h θ (hsat θ hθ)
         ·refine .inr fun θ hθ=>?_
          have h1:=h θ (hsat θ hθ)
          rw[<-hxs θ (hsat θ hθ),B7 c1]at h1
          have h2:size (Term.mk x.name false (x.args.map (app θ)))=1+Af (x.args.map (app θ)):=rfl
          have h3:=B4 (List.mem_map_of_mem (f:=app θ) hmx)
          omega
        ·exact .inl h)
       obtain⟨σ1,rk1,hok⟩:=FR n s' σ' rk' c e (s1,ok) hu' (BR hxv hmx) (BR hyv hmy) hf
       refine A7.2 ?_
       push_cast[BB hk,BB hk2,hc,he]
       refine QN (by push_cast[p2]) hcall ?_
       intro x' m1 d1 hR
       obtain⟨rfl,hR⟩:=hR
       cases ok with
       | false =>
        simp only[Option.some.injEq]at hsol
        push_cast
        exact Am (H:=uH m1 d1) (J:=[_,_]) (Hc m1 d1) rfl (hQ _ m1 d1 ⟨by rw[<-hsol];rfl,fun h=>by rw[<-hsol]at h;cases h⟩)
       | true =>
        obtain⟨hm1,hk1⟩:=hR rfl
        push_cast[Co (show k<2^62 by omega)]
        have:=ih2 s1 σ1 rk1 m1 d1 hok.ok hm1 (hwb'.solve (Et hxw hmx) (Et hyw hmy) hf) (fun θ hθ=>hsat θ (hθ.mono hok.ext)) (fun k hk=>by
         rcases hk1 k hk with h | h
         ·rcases hkeys k h with h | h
          ·exact .inl h
          ·exact .inr fun θ hθ=>h θ (hθ.mono hok.ext)
         ·exact .inr h) hsol
        push_cast at this
        exact this
     ·intro s' σ' rk' m' d' hu' hm' hwb' hsat hkeys hsol
      rw[Ar]at hsol
      simp only[AF,Option.some.injEq]at hsol
      refine A7.2 ?_
      push_cast[AZ (Nat.le_refl _)]
      exact Am (H:=uH m' d') (J:=[_,_]) (Hc m' d') rfl (hQ _ m' d' ⟨by rw[<-hsol];rfl,fun _=>⟨by rw[<-hsol];exact hm',fun k hk=>by rw[<-hsol];exact hkeys k hk⟩⟩)
  refine AC mixed Ci.ok rfl ?_
  unfold Ci.body
  generalize hC:C.n 5=c5
  obtain⟨σ1,rk1,hok⟩:=FR (n+1) s σ rk a b r hu ha hb hr
  have hd1:∀ k,(Cd d k).isSome=true->Qj s k\/∀ θ,TY θ s->size (app θ a)<=size (θ k.1):=fun k hk=>by
   rcases hd k hk with h | h
   ·exact .inl h
   ·exact .inr fun θ hθ=>Nat.le_of_lt (h θ hθ)
  cases hva:a.var with
  | false =>
   push_cast[hva]
   subst hC
   exact rest d _ _ [] (fun x m' d' h=>⟨m',d',h,rfl⟩) rfl rfl rfl hd1
  | true =>
   cases hvb:b.var with
   | false =>
    push_cast[hva,hvb]
    subst hC
    exact rest d _ _ [] (fun x m' d' h=>⟨m',d',h,rfl⟩) rfl rfl rfl hd1
   | true =>
    have hlk:∀ l,_:=fun l=>mU Fx d (a.name,b.name) false (.bool false) (H:=Sx m d l) (i:=1) rfl
    have hup:=pW Fx d (a.name,b.name) ()
    cases hg:Cd d (a.name,b.name)with
    | some u =>
     rw[hg]at hlk
     simp only[Option.map_some,Option.getD_some,Po]at hlk hup
     push_cast[hva,hvb,hlk]
     have hrr:r=(s,true):=by
      rcases hd (a.name,b.name) (by rw[hg];rfl)with h | h
      ·exact Xr hu (n+1) a b r ha hb hr (by rw[Av hva,Av hvb];exact h σ hu.sat)
      ·have:=h σ hu.sat
       rw[Av hva]at this
       exact absurd this (Nat.lt_irrefl _)
     exact Am (H:=uH m d) (J:=[_,_,_]) (Hc m d) rfl ⟨m,d,⟨by rw[hrr];rfl,fun _=>⟨by rw[hrr];exact hm,fun k hk=>.inl hk⟩⟩,rfl⟩
    | none =>
     rw[hg]at hlk
     simp only[Option.map_none,Option.getD_none,Po]at hlk hup
     push_cast[hva,hvb,hlk,hup]
     subst hC
     refine⟨rfl,rest (Fu d (a.name,b.name) ()) _ _ [.dead] (fun x m' d' h=>?_) rfl rfl rfl fun k hk=>?_⟩
     ·obtain⟨e,h1⟩:=h
      refine⟨m',d',⟨e,fun hr2=>⟨(h1 hr2).1,fun k hk=>?_⟩⟩,rfl⟩
      rcases (h1 hr2).2 k hk with h3 | h3
      ·rw[HZ]at h3
       by_cases e:(a.name,b.name)=k
       ·subst e
        refine .inr fun θ hθ=>?_
        have h4:=hok.eq hr2
        have h5:=hok.ok.sat_app hθ a
        have h6:=hok.ok.sat_app hθ b
        rw[h4,<-h6,Av hva,Av hvb]at h5
        exact h5
       ·rw[if_neg e]at h3;exact .inl h3
      ·exact .inr h3
     ·rw[HZ]at hk
      by_cases e:(a.name,b.name)=k
      ·subst e
       exact .inr fun θ hθ=>by rw[Av hva];exact Nat.le_refl _
      ·rw[if_neg e]at hk;exact hd1 k hk
theorem Z5 {s:List A5}{σ:EQ}{rk:A9->Nat}(hu:Gk s σ rk){m:TM}{d:DM}(hm:∀ v,Cd m v=Ac s v)(hwb:WB s):∀ (n:Nat)(t:Term),Gj s n t->vfl t=true->Dr t<2^40->Spec prog BV [.ptr 2 0,An t] (uH m d) fun x H'=>x=An (app σ t)/\H'=uH m d:=by
 intro n
 induction n with
 | zero=>intro t h;exact h.elim
 | succ n ih =>
  intro t hn ht hw
  simp only[Gj]at hn
  have p2:Ay [0,1,2] 2=some 2:=rfl
  refine AC mixed ET.ok rfl ?_
  cases hv:t.var with
  | true =>
   rw[if_pos hv]at hn
   rw[Av hv]
   cases hi:Ac s t.name with
   | none =>
    rw[hu.free _ hi]
    push_cast[hv,Wb hm hi]
    exact Am (H:=uH m d) (J:=[_,_]) (Hc m d) rfl ⟨by push_cast;rfl,rfl⟩
   | some x =>
    have hc:=ih x (hn x hi) (hu.vf _ _ hi) (hwb _ _ hi)
    rw[hu.fix _ _ hi]
    push_cast[hv,R2 hm hi]
    refine NI (J:=[_,_]) (by push_cast[p2]) hc ?_
    push_cast
    exact Am (H:=uH m d) (J:=[_,_]) (Hc m d) rfl ⟨by push_cast,rfl⟩
  | false =>
   rw[if_neg (by simp[hv])]at hn
   rw[B7 hv]
   have hwa:=Em t
   push_cast[hv]
   refine Ae (n:=t.args.length) (R:=fun k=>ET.L3 (.ptr 2 0) (.ptr 3 0) (.ptr 4 0) (Bk t.args) (.int .i64 t.args.length) (.int .i64 k) 3
    (Sx m d [.cells A2 [.str [],.bool false,.sl 3 []],.cells A2 [.str t.name,.bool false,B8 cT 5 3 ((t.args.map (app σ)).take k)],.arr A2 3 k]) _) ?_ ?_ 0 (by omega)
   ·intro k hk ih2
    have hme:=A4 hk
    have hk2:k<(t.args.map (app σ)).length:=by simpa using hk
    have hlt:((t.args.map (app σ)).take k).length=k:=by simp;omega
    have hge:(t.args.map (app σ)).getD k default=app σ (t.args.getD k default):=by
     simp[List.getD_eq_getElem?_getD,hk]
    have hc:=ih _ (hn _ hme) (BR ht hme) (Et hw hme)
    rw[Aa hk2,hge]at ih2
    refine A7.2 ?_
    push_cast[BB hk]
    refine⟨⟨?_,?_⟩,?_⟩
    all_goals
     refine NI (J:=[_,_,_,_]) (by push_cast[p2]) hc ?_
     push_cast[hlt,Um (show k<2^40 by omega) (show 48<=64 by omega),Co (show k<2^62 by omega)]
     push_cast at ih2
     exact ih2
   ·refine A7.2 ?_
    push_cast[AZ (Nat.le_refl _)]
    rw[List.take_of_length_le (by simp)]
    refine Am (H:=uH m d) (J:=[_,_,_]) (Hc m d) rfl ⟨?_,rfl⟩
    push_cast[ET.rs]
    rw[An,Qm];rfl
abbrev MM:=List (A9×(Nat×Nat))
def EP (p:Nat×Nat):V:=.agg [.int .i64 p.1,.int .i64 p.2]
theorem mF {σ:Nat->Option Nat}(m:MM):((Bp EP m).map fun p=>(ren σ p.1,ren σ p.2))=Bp EP m:=TL (fun x=>rfl) m
attribute [push_cast] mF
def gq (σ:EQ)(t:Term):Nat×Nat:=(min (size (app σ t)) 4001,depth (app σ t))
def gy (σ:EQ)(kn:MM):Prop:=∀ v p,Cd kn v=some p->p=gq σ (C2 v)
abbrev vn (m:TM)(d:DM)(kn:MM)(J:List Ob):List Ob:=Sx m d (.map (Bp EP kn)::J)
abbrev kH (m:TM)(d:DM)(kn:MM):List Ob:=vn m d kn []
theorem ca (m:TM)(d:DM)(kn:MM):I4 4 (kH m d kn):=⟨rfl,by
 show [A6 (AI 4) (.map (Bp An m)),A6 (AI 4) (.map (GW Fx d)),A6 (AI 4) (.cells B9 [.map 0,.map 1]),A6 (AI 4) (.map (Bp EP kn))]=_
 have h0:AI 4 0=some 0:=rfl
 have h1:AI 4 1=some 1:=rfl
 push_cast[h0,h1]⟩
theorem AaE (m:TM)(d:DM)(kn kn':MM)(J:List Ob):takeB [0,1,2,3] (vn m d kn J) (kH m d kn')=vn m d kn' J:=by
 apply List.ext_getElem?
 intro i
 rw[DX (by simp)]
 have h0:∀ n,BG [0,1,2,3] n 0=some 0:=fun _=>rfl
 have h1:∀ n,BG [0,1,2,3] n 1=some 1:=fun _=>rfl
 match i with
 | 0=>rw[if_pos (by simp)];show some (A6 _ (.map (Bp An m)))=some _;push_cast
 | 1=>rw[if_pos (by simp)];show some (A6 _ (.map (GW Fx d)))=some _;push_cast
 | 2=>rw[if_pos (by simp)];show some (A6 _ (.cells B9 [.map 0,.map 1]))=some _;push_cast[h0,h1]
 | 3=>rw[if_pos (by simp)];show some (A6 _ (.map (Bp EP kn')))=some _;push_cast
 | i+4 =>
  have hp:Ay [0,1,2,3] (i+4)=none:=by simp[Ay,List.findIdx?_cons]
  by_cases h:i<J.length
  ·rw[if_pos (by simp;omega),hp]
   simp[List.getD_eq_getElem?_getD,h]
  ·rw[if_neg (by simp;omega)]
   have e1:(vn m d kn' J)[i+4]?=none:=List.getElem?_eq_none (by simp;omega)
   have e2:(kH m d kn')[[0,1,2,3].length+(i+4-(vn m d kn J).length)]?=none:=List.getElem?_eq_none (by simp)
   rw[e1,e2];rfl
theorem Aby (m:TM)(d:DM)(kn:MM)(J:List Ob):give [0,1,2,3] (vn m d kn J)=kH m d kn:=by
 show [A6 (Ay [0,1,2,3]) (.map (Bp An m)),A6 (Ay [0,1,2,3]) (.map (GW Fx d)),A6 (Ay [0,1,2,3]) (.cells B9 [.map 0,.map 1]),A6 (Ay [0,1,2,3]) (.map (Bp EP kn))]=_
 have h0:Ay [0,1,2,3] 0=some 0:=rfl
 have h1:Ay [0,1,2,3] 1=some 1:=rfl
 push_cast[h0,h1]
theorem lw {N:Nat->C}{B:Nat}{k:List K}{t:T}{Q:X->T->List Ob->Prop}{dd:Option Nat}{l:List S}{f:Nat}{z:Term}{m:TM}{d:DM}{kn:MM}{J:List Ob}{R:V->MM->Prop}
  (h:Spec prog f [.ptr 2 0,An z,.map 3] (kH m d kn) fun x' H'=>∃ kn',R x' kn'/\H'=kH m d kn') (k':∀ x' kn',R x' kn'->Ax prog N B (.r l::k) (Fd dd (ren (BG [0,1,2,3] (J.length+4)) x') t) (vn m d kn' J) Q):Bl prog N B dd l k t Q (.func f) [.ptr 2 0,An z,.map 3] (vn m d kn J):=by
 have h2:Ay [0,1,2,3] 2=some 2:=rfl
 have h3:Ay [0,1,2,3] 3=some 3:=rfl
 refine Bl.some [0,1,2,3] (by simp) (by simp) (R:=fun x' H'=>∃ kn',R x' kn'/\H'=kH m d kn') (by rw[Aby];push_cast[h2,h3];exact h) ?_
 rintro x' H' ⟨kn',hr,rfl⟩ _
 rw[AaE];exact k' x' kn' hr
theorem W6 {s:List A5}{σ:EQ}{rk:A9->Nat}(hu:Gk s σ rk){m:TM}{d:DM}(hm:∀ v,Cd m v=Ac s v)(hwb:WB s):∀ (n:Nat)(t:Term)(kn:MM),Gj s n t->vfl t=true->Dr t<2^40->depth (app σ t)<2^60->gy σ kn ->
  Spec prog CB [.ptr 2 0,An t,.map 3] (kH m d kn) fun x H'=>∃ kn',(x=EP (gq σ t)/\gy σ kn')/\H'=kH m d kn':=by
 intro n
 induction n with
 | zero=>intro t kn h;exact h.elim
 | succ n ih =>
  intro t kn hn ht hw hdp hkn
  simp only[Gj]at hn
  refine AC mixed D9.ok rfl ?_
  cases hv:t.var with
  | true =>
   rw[if_pos hv]at hn
   rw[Av hv]at hdp
   cases hi:Ac s t.name with
   | none =>
    have e:gq σ t=(1,1):=by
     unfold gq
     rw[Av hv,hu.free _ hi];rfl
    rw[e]
    push_cast[hv,Wb hm hi]
    exact Am (H:=kH m d kn) (J:=[_,_]) (ca m d kn) rfl ⟨kn,⟨rfl,hkn⟩,rfl⟩
   | some x =>
    have hlk:∀ l,_:=fun l=>KX EP kn t.name true (.agg [.int .i64 0,.int .i64 0]) (H:=vn m d kn l) (i:=3) rfl
    have e:gq σ t=gq σ x:=by
     unfold gq
     rw[Av hv,hu.fix _ _ hi]
    have e2:gq σ (C2 t.name)=gq σ t:=by
     unfold gq
     rw[Av (t:=C2 t.name) rfl,Av hv];rfl
    generalize hp:gq σ t=p at e e2
    have hp':gq σ x=p:=e.symm
    obtain⟨p1,p2⟩:=p
    cases hg:Cd kn t.name with
    | some q =>
     have hq:=hkn _ _ hg
     rw[e2]at hq
     subst hq
     rw[hg]at hlk
     simp only[Option.map_some,Option.getD_some,Option.isSome_some,if_true,EP]at hlk
     push_cast[hv,R2 hm hi,hlk]
     exact Am (H:=kH m d kn) (J:=[_,_,_]) (ca m d kn) rfl ⟨kn,⟨rfl,hkn⟩,rfl⟩
    | none =>
     rw[hg]at hlk
     simp only[Option.map_none,Option.getD_none,Option.isSome_none,if_true]at hlk
     have hc:=ih x kn (hn x hi) (hu.vf _ _ hi) (hwb _ _ hi) (by rw[<-hu.fix _ _ hi];exact hdp) hkn
     rw[hp']at hc
     push_cast[hv,R2 hm hi,hlk]
     refine lw (R:=fun x' kn'=>x'=EP (p1,p2)/\gy σ kn') (J:=[_,_,_]) hc ?_
     rintro x' kn' ⟨rfl,hkn'⟩
     have hup:Yh (.str t.name) (.agg [.int .i64 p1,.int .i64 p2]) (Bp EP kn')=some (Bp EP (Fu kn' t.name (p1,p2))):=Q3 EP kn' t.name (p1,p2)
     push_cast[EP,hup]
     refine⟨rfl,Am (H:=kH m d (Fu kn' t.name (p1,p2))) (J:=[_,_,_,_]) (ca m d _) rfl ⟨_,⟨rfl,fun w q hq=>?_⟩,rfl⟩⟩
     rw[HZ]at hq
     by_cases ew:t.name=w
     ·rw[if_pos ew]at hq
      cases hq
      rw[<-ew];exact e2.symm
     ·rw[if_neg ew]at hq;exact hkn' w q hq
  | false =>
   rw[if_neg (by simp[hv])]at hn
   have hwa:=Em t
   have happ:=B7 (f:=σ) hv
   generalize hL:t.args.map (app σ)=L at happ
   have hLl:L.length=t.args.length:=by rw[<-hL];simp
   have hsz:size (app σ t)=1+Af L:=by rw[happ];rfl
   have hdz:depth (app σ t)=Bg L+1:=by rw[happ];rfl
   push_cast[hv]
   refine Ae (n:=t.args.length) (R:=fun k=>∀ (kn':MM)(c e:Nat),gy σ kn'->c=min (1+Af (L.take k)) 4001->e=Bg (L.take k)->D9.L3 (.ptr 2 0) (.map 3) (.ptr 4 0) (.ptr 5 0) (Bk t.args) (.int .i64 t.args.length) (.int .i64 k) 4
    (vn m d kn' [.cells DP [.int .i64 0,.int .i64 0],.cells DP [.int .i64 c,.int .i64 e]]) (BH 4 D9.rs fun x H'=>∃ kn',(x=EP (gq σ t)/\gy σ kn')/\H'=kH m d kn')) ?_ ?_ 0 (by omega) kn 1 0 hkn (by simp[Af]) (by simp[Bg])
   ·intro k hk ih2 kn' c e hkn' hc he
    have hme:=A4 hk
    have hk2:k<L.length:=by omega
    have hge:L.getD k default=app σ (t.args.getD k default):=by
     rw[<-hL];simp[List.getD_eq_getElem?_getD,hk]
    have hmL:=A4 hk2
    have hdl:depth (app σ (t.args.getD k default))<=Bg L:=by rw[<-hge];exact NC hmL
    have hcall:=ih (t.args.getD k default) kn' (hn _ hme) (BR ht hme) (Et hw hme) (by omega) hkn'
    have hp1:gq σ (t.args.getD k default)=(min (size (L.getD k default)) 4001,depth (L.getD k default)):=by rw[hge];rfl
    rw[hp1]at hcall
    generalize hq1:min (size (L.getD k default)) 4001=a1 at hcall
    generalize hq2:depth (L.getD k default)=b1 at hcall
    have hw1:IntKind.i64.wrap ((c:Int)+(a1:Int))=(c:Int)+a1:=Cr (by omega) (by omega)
    refine A7.2 ?_
    push_cast[BB hk]
    refine lw (R:=fun x' kn'=>x'=EP (a1,b1)/\gy σ kn') (J:=[_,_,_]) hcall ?_
    rintro x' kn1 ⟨rfl,hkn1⟩
    obtain⟨c1,hc1⟩:∃ c1,c1=min (c+a1) 4001:=⟨_,rfl⟩
    obtain⟨e1,he1⟩:∃ e1,e1=max e b1:=⟨_,rfl⟩
    have this:=ih2 kn1 c1 e1 hkn1 (by rw[Aa hk2,Dk,hc1,hc,<-hq1];simp only[Af];omega) (by rw[Aa hk2,Hp,he1,he,<-hq2];simp[Bg])
    have hmn:(if (4001:Int)<(c:Int)+(a1:Int) then (4001:Int) else (c:Int)+(a1:Int))=(c1:Int):=by
     split<;>omega
    have hmx:(if (e:Int)<(b1:Int) then (b1:Int) else (e:Int))=(e1:Int):=by
     split<;>omega
    push_cast[EP,hw1,hmn,hmx,<-he1,Co (show k<2^62 by omega)]
    push_cast[EP]at this
    exact this
   ·intro kn' c e hkn' hc he
    rw[List.take_of_length_le (by omega)]at hc he
    refine A7.2 ?_
    push_cast[AZ (Nat.le_refl _),Co (show e<2^62 by omega)]
    refine Am (H:=kH m d kn') (J:=[_,_]) (ca m d kn') rfl ⟨kn',⟨?_,hkn'⟩,rfl⟩
    push_cast[D9.rs]
    unfold gq EP
    rw[hsz,hdz,<-hc,<-he]
    push_cast
end Go.Dw
section
namespace Go.Dw
theorem aP {σ:EQ}{M:Nat}(t:Term):(∀ w,CX w t=true->depth (σ w)<=M)->depth (app σ t)<=depth t+M:=by
 induction t using Ah with
 | h t ih =>
 intro h
 cases hv:t.var with
 | true =>
  rw[Av hv]
  have:=h _ (AO.2 (.inl ⟨hv,rfl⟩))
  omega
 | false =>
  rw[B7 hv,EL,EL t]
  show Bg (t.args.map (app σ))+1<=Bg t.args+1+M
  have key:∀ l:List Term,(∀ a∈l,a∈t.args)->Bg (l.map (app σ))<=Bg l+M:=by
   intro l
   induction l with
   | nil=>intro _;simp[Bg]
   | cons a l ihl =>
    intro hl
    have h1:=ih a (hl a (by simp)) fun w hw=>h w (AO.2 (.inr ⟨a,hl a (by simp),hw⟩))
    have h2:=ihl fun b hb=>hl b (by simp[hb])
    simp only[List.map_cons,Bg]
    omega
  have:=key t.args fun _ h=>h
  omega
theorem ay {α:Type}{p q:α->Bool}:∀ {l:List α} {x:α},x∈l->(∀ y,p y=true->q y=true)->q x=true->p x=false->l.countP p<l.countP q
 | [],x,h,_,_,_=>by cases h
 | y::l,x,h,hpq,hq,hp=>by
  have hle:l.countP p<=l.countP q:=List.countP_mono_left fun z _=>hpq z
  simp only[List.countP_cons]
  rcases List.mem_cons.1 h with rfl | h
  ·rw[hq,hp];simp;omega
  ·have:=ay h hpq hq hp
   have h2:(if p y=true then 1 else 0)<=(if q y=true then 1 else 0):=by
    by_cases hy:p y=true
    ·rw[if_pos hy,if_pos (hpq y hy)];exact Nat.le_refl _
    ·rw[if_neg hy];exact Nat.zero_le _
   omega
def eT (s:List A5)(rk:A9->Nat)(v:A9):Nat:=s.countP fun b=>decide (rk b.name<=rk v)
theorem qB (s:List A5)(rk:A9->Nat)(v:A9):eT s rk v<=s.length:=List.countP_le_length
theorem HB {s:List A5}{v:A9}{t:Term}(h:Ac s v=some t):⟨v,t⟩∈s:=by
 obtain⟨b,hb,h1,h2⟩:=Ln h
 subst h1;subst h2;exact hb
theorem Gk.cnt_lt {s:List A5}{σ:EQ}{rk:A9->Nat}(h:Gk s σ rk){v w:A9}{t:Term}(hi:Ac s v=some t)(hw:CX w t=true):eT s rk w<eT s rk v:=by
 have:=h.low v t hi w hw
 refine ay (HB hi) (fun y hy=>?_) (by simp) (by simp;exact this)
 simp only[decide_eq_true_eq]at hy ⊢
 omega
theorem Gk.deep {s:List A5}{σ:EQ}{rk:A9->Nat}(h:Gk s σ rk){D:Nat}(hD:∀ v t,Ac s v=some t->depth t<=D):∀ v,depth (σ v)<=eT s rk v*D+1:=by
 refine h.ind fun v ih=>?_
 cases hi:Ac s v with
 | none=>rw[h.free v hi];show depth (C2 v)<=_;simp[C2,depth,Bg]
 | some t =>
  rw[h.fix v t hi]
  obtain⟨c,hc⟩:∃ c,eT s rk v=c+1\/eT s rk v=0:=by
   cases hz:eT s rk v with
   | zero=>exact⟨0,.inr rfl⟩
   | succ c=>exact⟨c,.inl rfl⟩
  rcases hc with hc | hc
  ·have h1:=aP (σ:=σ) (M:=c*D+1) t fun w hw=>by
    have h2:=ih t w hi hw
    have h3:=h.cnt_lt hi hw
    have h4:eT s rk w*D<=c*D:=Nat.mul_le_mul_right D (by omega)
    omega
   have h2:=hD v t hi
   rw[hc,Nat.succ_mul]
   omega
  ·have h1:=aP (σ:=σ) (M:=0) t fun w hw=>by
    have h3:=h.cnt_lt hi hw
    omega
   exfalso
   have:0<eT s rk v:=List.countP_pos_iff.2 ⟨_,HB hi,by simp⟩
   omega
theorem Yu:∀ {a b:List A5},CK a->CK b->(∀ x,x∈a↔x∈b)->a=b
 | [],[],_,_,_=>rfl
 | [],y::b,_,_,h=>by have:=(h y).2 (by simp);cases this
 | x::a,[],_,_,h=>by have:=(h x).1 (by simp);cases this
 | x::a,y::b,ha,hb,h=>by
  obtain⟨h1,h2⟩:=List.pairwise_cons.1 ha
  obtain⟨h3,h4⟩:=List.pairwise_cons.1 hb
  have e:x=y:=by
   rcases List.mem_cons.1 ((h x).1 (by simp))with e | hx
   ·exact e
   ·rcases List.mem_cons.1 ((h y).2 (by simp))with e | hy
    ·exact e.symm
    ·exact absurd (Lf (h1 y hy) (h3 x hx)) (Cs _)
  subst e
  congr 1
  refine Yu h2 h4 fun z=>⟨fun hz=>?_,fun hz=>?_⟩
  ·rcases List.mem_cons.1 ((h z).1 (by simp[hz]))with e | h
   ·subst e;exact absurd (h1 z hz) (Cs _)
   ·exact h
  ·rcases List.mem_cons.1 ((h z).2 (by simp[hz]))with e | h
   ·subst e;exact absurd (h3 z hz) (Cs _)
   ·exact h
abbrev dD (m:TM)(d:DM)(out:List A5)(kn:MM)(J:List Ob):List Ob:=Sx m d (CV out::.map (Bp EP kn)::J)
theorem Aas (m:TM)(d:DM)(out:List A5)(kn kn':MM)(J:List Ob):takeB [0,1,2,4] (dD m d out kn J) (kH m d kn')=dD m d out kn' J:=by
 apply List.ext_getElem?
 intro i
 rw[DX (by simp)]
 have h0:∀ n,BG [0,1,2,4] n 0=some 0:=fun _=>rfl
 have h1:∀ n,BG [0,1,2,4] n 1=some 1:=fun _=>rfl
 match i with
 | 0=>rw[if_pos (by simp)];show some (A6 _ (.map (Bp An m)))=some _;push_cast
 | 1=>rw[if_pos (by simp)];show some (A6 _ (.map (GW Fx d)))=some _;push_cast
 | 2=>rw[if_pos (by simp)];show some (A6 _ (.cells B9 [.map 0,.map 1]))=some _;push_cast[h0,h1]
 | 3=>rw[if_pos (by simp)];rfl
 | 4=>rw[if_pos (by simp)];show some (A6 _ (.map (Bp EP kn')))=some _;push_cast
 | i+5 =>
  have hp:Ay [0,1,2,4] (i+5)=none:=by simp[Ay,List.findIdx?_cons]
  by_cases h:i<J.length
  ·rw[if_pos (by simp;omega),hp]
   simp[List.getD_eq_getElem?_getD,h]
  ·rw[if_neg (by simp;omega)]
   have e1:(dD m d out kn' J)[i+5]?=none:=List.getElem?_eq_none (by simp;omega)
   have e2:(kH m d kn')[[0,1,2,4].length+(i+5-(dD m d out kn J).length)]?=none:=List.getElem?_eq_none (by simp)
   rw[e1,e2];rfl
theorem Acv (m:TM)(d:DM)(out:List A5)(kn:MM)(J:List Ob):give [0,1,2,4] (dD m d out kn J)=kH m d kn:=by
 show [A6 (Ay [0,1,2,4]) (.map (Bp An m)),A6 (Ay [0,1,2,4]) (.map (GW Fx d)),A6 (Ay [0,1,2,4]) (.cells B9 [.map 0,.map 1]),A6 (Ay [0,1,2,4]) (.map (Bp EP kn))]=_
 have h0:Ay [0,1,2,4] 0=some 0:=rfl
 have h1:Ay [0,1,2,4] 1=some 1:=rfl
 push_cast[h0,h1]
theorem Acg (m:TM)(d:DM)(out out':List A5)(kn:MM)(J:List Ob):takeB [3] (dD m d out kn J) [CV out']=dD m d out' kn J:=by
 apply List.ext_getElem?
 intro i
 rw[DX (by simp)]
 match i with
 | 0=>rw[if_pos (by simp)];rfl
 | 1=>rw[if_pos (by simp)];rfl
 | 2=>rw[if_pos (by simp)];rfl
 | 3=>rw[if_pos (by simp)];show some (A6 _ (CV out'))=some _;rw[El,Hm]
 | i+4 =>
  have hp:Ay [3] (i+4)=none:=by simp[Ay,List.findIdx?_cons]
  by_cases h:i+4<(dD m d out kn J).length
  ·rw[if_pos h,hp]
   simp only[List.length_cons]at h
   have h2:i+1<(Ob.map (Bp EP kn)::J).length+1:=by simp;omega
   simp only[List.getD_eq_getElem?_getD,List.getElem?_cons_succ]
   cases hx:(Ob.map (Bp EP kn)::J)[i]? with
   | none=>rw[List.getElem?_eq_none_iff]at hx;simp at hx;omega
   | some y=>rfl
  ·rw[if_neg h]
   have e1:(dD m d out' kn J)[i+4]?=none:=List.getElem?_eq_none (by simp at h ⊢;omega)
   have e2:([CV out']:List Ob)[[3].length+(i+4-(dD m d out kn J).length)]?=none:=List.getElem?_eq_none (by simp)
   rw[e1,e2];rfl
theorem Aag (m:TM)(d:DM)(out:List A5)(kn:MM)(J:List Ob):give [3] (dD m d out kn J)=[CV out]:=by
 show [A6 (Ay [3]) (CV out)]=_
 rw[El,Hm]
section
variable {N:Nat->C} {B:Nat} {k:List K} {t:T} {Q:X->T->List Ob->Prop} {dd:Option Nat} {l:List S} {f:Nat} {m:TM} {d:DM} {out out':List A5} {kn:MM} {J:List Ob}
theorem xG {z:Term}{R:V->MM->Prop}(h:Spec prog f [.ptr 2 0,An z,.map 3] (kH m d kn) fun x' H'=>∃ kn',R x' kn'/\H'=kH m d kn')(k':∀ x' kn',R x' kn'->Ax prog N B (.r l::k) (Fd dd (ren (BG [0,1,2,4] (J.length+5)) x') t) (dD m d out kn' J) Q):Bl prog N B dd l k t Q (.func f) [.ptr 2 0,An z,.map 4] (dD m d out kn J):=by
 have h2:Ay [0,1,2,4] 2=some 2:=rfl
 have h3:Ay [0,1,2,4] 4=some 3:=rfl
 refine Bl.some [0,1,2,4] (by simp) (by simp) (R:=fun x' H'=>∃ kn',R x' kn'/\H'=kH m d kn') (by rw[Acv];push_cast[h2,h3];exact h) ?_
 rintro x' H' ⟨kn',hr,rfl⟩ _
 rw[Aas];exact k' x' kn' hr
theorem vM {v:A9}{z:Term}{n:Nat}(h:Spec prog f [.rw 0 4 n,.str v,An z] [CV out] fun x' H'=>x'=.rw 0 4 (n+1)/\H'=[CV out'])(k':Ax prog N B (.r l::k) (Fd dd (.rw 3 4 (n+1)) t) (dD m d out' kn J) Q):Bl prog N B dd l k t Q (.func f) [.rw 3 4 n,.str v,An z] (dD m d out kn J):=by
 have h3:Ay [3] 3=some 0:=rfl
 have h0:∀ n,BG [3] n 0=some 3:=fun _=>rfl
 refine Bl.some [3] (by simp) (by simp) (R:=fun x' H'=>x'=.rw 0 4 (n+1)/\H'=[CV out']) (by rw[Aag];push_cast[h3];exact h) ?_
 rintro x' H' ⟨rfl,rfl⟩ _
 rw[Acg];push_cast[h0];exact k'
end
end Go.Dw
end
section
namespace Go.Dw
theorem fZ {s:List A5}(hs:CK s){v:A9}(h:∀ b∈s,b.name≠v):Ac s v=none:=by
 cases hi:Ac s v with
 | none=>rfl
 | some t=>exact absurd rfl (h _ (HB hi))
theorem mA {s:List A5}{v:A9}{t:Term}{b:A5}:b∈Eh s v t↔b∈s\/b=⟨v,t⟩:=by
 constructor
 ·exact Nn
 ·intro h
  unfold Eh
  rw[List.mem_append,List.mem_cons]
  rcases h with h | h
  ·rw[<-List.take_append_drop (I6 v s) s,List.mem_append]at h
   rcases h with h | h
   ·exact .inl h
   ·exact .inr (.inr h)
  ·exact .inr (.inl h)
theorem pD {s:List A5}{m:TM}(h:MR s m)(hs:CK s):m.length<=s.length:=by
 have h1:(m.map (·.1)).Nodup:=h.2
 have h2:=h1.length_le_of_subset (l₂:=s.map (·.name)) fun v hv=>by
  obtain⟨p,hp,rfl⟩:=List.mem_map.1 hv
  have h3:=Vj h.2 (k:=p.1) (x:=p.2) hp
  rw[h.1]at h3
  exact List.mem_map.2 ⟨_,HB h3,rfl⟩
 simpa using h2
section
variable {s:List A5} {σ:EQ} {rk:A9->Nat} (hu:Gk s σ rk) {m:TM} {d:DM} (hm:MR s m) (hwb:WB s) {D:Nat} (hD:∀ v,depth (σ v)<=D) (hDb:D < 2^60) (hlen:s.length < 2^38)
include hu hm hwb hD hDb hlen
theorem fk (hsig:Td s=σ):CS.L3 (.ptr 2 0) (.rw 3 4 0) (.map 4) (.it 5) 0 (dD m d [] [] [.iter (some 0) m.length []]) (BH 0 CS.rs fun x H'=>x=(if FH s then .tup [B5 [],.bool false,.int .i64 3] else .tup [B5 (DA s),.bool true,.int .i64 0])/\H'=[]):=by
 have hml:=pD hm hu.srt
 have hel:(Bp An m).length=m.length:=SU _ _
 have hkey:∀ {i j:Nat},i<m.length->j<m.length->(m.getD i default).1=(m.getD j default).1->i=j:=fun {i j} hi hj e=>by
  have h1:(m.map (·.1)).Nodup:=hm.2
  have:=(List.getElem_inj (i:=i) (j:=j) (h₀:=by simpa using hi) (h₁:=by simpa using hj) h1).1
  simp only[List.getElem_map]at this
  exact this (by simpa[List.getD_eq_getElem?_getD,hi,hj]using e)
 have himg:∀ {i:Nat},i<m.length->Ac s (m.getD i default).1=some (m.getD i default).2:=fun {i} hi=>by
  rw[<-hm.1]
  exact Vj hm.2 (A4 hi)
 refine rJ m.length (fun seen=>∀ (out:List A5)(kn:MM),CK out->out.length=seen.length->(∀ b,b∈out↔∃ i∈seen,b=⟨(m.getD i default).1,σ (m.getD i default).1⟩)->(∀ i∈seen,BU (σ (m.getD i default).1)=true)->gy σ kn ->
  CS.L3 (.ptr 2 0) (.rw 3 4 seen.length) (.map 4) (.it 5) 0 (dD m d out kn [.iter (some 0) m.length seen]) (BH 0 CS.rs fun x H'=>x=(if FH s then .tup [B5 [],.bool false,.int .i64 3] else .tup [B5 (DA s),.bool true,.int .i64 0])/\H'=[])) ?_ [] [] List.Pairwise.nil rfl (by simp) (by simp) (fun v p h=>by cases h)
 intro seen hnd hlt hl ih out kn hso hlo hmem hfit hkn
 refine A7.2 ?_
 push_cast
 refine du 0 m.length seen (Bp An m) rfl rfl hel.symm (fun hall=>?_) (fun k p hp hk=>?_)
 ·have hout:out=DA s:=by
   refine Yu hso ?_ fun x=>?_
   ·unfold DA CK
    rw[List.pairwise_map]
    exact hu.srt
   ·rw[hmem]
    unfold DA
    rw[List.mem_map,hsig]
    constructor
    ·rintro ⟨i,hi,rfl⟩
     exact⟨_,HB (himg (hlt i hi)),rfl⟩
    ·rintro ⟨b,hb,rfl⟩
     have h1:=DL hu.srt hb
     rw[<-hm.1]at h1
     obtain⟨i,hi,e⟩:=List.getElem_of_mem (uR h1)
     refine⟨i,hall i hi,?_⟩
     have:(m.getD i default)=(b.name,b.term):=by simp[List.getD_eq_getElem?_getD,hi,e]
     rw[this]
  have hhu:FH s=false:=by
   unfold FH
   rw[List.any_eq_false]
   intro b hb
   have h1:(⟨b.name,σ b.name⟩:A5)∈out:=by
    rw[hout];unfold DA;rw[hsig];exact List.mem_map_of_mem (f:=fun b:A5=>(⟨b.name,σ b.name⟩:A5)) hb
   obtain⟨i,hi,e⟩:=(hmem _).1 h1
   have:=hfit i hi
   injection e with e1 e2
   rw[hsig,e2,this];simp
  rw[hhu]
  have hlo':(DA s).length=seen.length:=by rw[<-hout,hlo]
  rw[hout]
  push_cast
  exact⟨by simp[hlo'],A0 (by push_cast[CS.rs];rfl)⟩
 ·have hkl:k<m.length:=by rw[<-hel];exact (List.getElem?_eq_some_iff.1 hp).1
  have hpe:p=(.str (m.getD k default).1,An (m.getD k default).2):=by
   unfold Bp at hp
   rw[List.getElem?_map]at hp
   simp[hkl]at hp
   rw[<-hp];simp[List.getD_eq_getElem?_getD,hkl]
  subst hpe
  have hi:=himg hkl
  have hen:∀ (J:List Ob),vU (dD m d out kn (.iter (some 0) m.length (seen++[k])::J)) (.it 5)=some (.tup [.str (m.getD k default).1,An (m.getD k default).2]):=fun J=>by
   simp[vU,hel,hp]
  generalize hv:(m.getD k default).1=v at hi hen
  obtain⟨n,hn⟩:=hu.need (C2 v)
  have hdv:depth (app σ (C2 v))<=D:=by rw[Av rfl];exact hD v
  have hM:=W6 hu (d:=d) hm.1 hwb n (C2 v) kn hn rfl (by simp[C2,Dr,JO]) (by omega) hkn
  have hW:=Z5 hu (d:=d) hm.1 hwb n (C2 v) hn rfl (by simp[C2,Dr,JO])
  rw[Av (t:=C2 v) rfl]at hW
  have hz:V.agg [.str v,.bool true,.sl 3 []]=An (C2 v):=rfl
  have hmt:gq σ (C2 v)=(min (size (σ v)) 4001,depth (σ v)):=by unfold gq;rw[Av (t:=C2 v) rfl];rfl
  rw[hmt]at hM
  have hfe:BU (σ v)=(decide (size (σ v)<=4000)&&decide (depth (σ v)<=200)):=rfl
  generalize hp1:min (size (σ v)) 4001=p1 at hM
  generalize hp2:depth (σ v)=p2 at hM hfe
  push_cast[hen]
  rw[hz]
  refine xG (J:=[_,_]) (R:=fun x' kn'=>x'=EP (p1,p2)/\gy σ kn') hM ?_
  rintro x' kn' ⟨rfl,hkn'⟩
  by_cases hf:BU (σ v)=true
  ·have hf2:=hf
   rw[hfe,Bool.and_eq_true,decide_eq_true_eq,decide_eq_true_eq]at hf2
   have c1:((4000:Int)<(p1:Int))=False:=eq_false (by omega)
   have c2:((200:Int)<(p2:Int))=False:=eq_false (by omega)
   push_cast[EP,c1,c2]
   rw[hz]
   have p2':Ay [0,1,2] 2=some 2:=rfl
   refine NI (J:=[_,_,_,_,_]) (by push_cast[p2']) hW ?_
   push_cast
   rw[<-hlo]
   refine vM (J:=[_,_,_]) (Ps out v _ hso (by omega)) ?_
   have hnew:Ac out v=none:=fZ hso fun b hb e=>by
    obtain⟨i,hi2,rfl⟩:=(hmem b).1 hb
    have:=hkey (hlt i hi2) hkl (e.trans hv.symm)
    exact hk (this▸hi2)
   have:=ih k hkl hk (Eh out v (σ v)) kn' (OQ hso hnew) (by rw[NS,hlo];simp) (fun b=>by
    rw[mA,hmem]
    constructor
    ·rintro (⟨i,hi2,rfl⟩ | rfl)
     ·exact⟨i,by simp[hi2],rfl⟩
     ·exact⟨k,by simp,by rw[hv]⟩
    ·rintro ⟨i,hi2,rfl⟩
     rcases List.mem_append.1 hi2 with h | h
     ·exact .inl ⟨i,h,rfl⟩
     ·rw[List.mem_singleton.1 h];exact .inr (by rw[hv])) (fun i hi2=>by
    rcases List.mem_append.1 hi2 with h | h
    ·exact hfit i h
    ·rw[List.mem_singleton.1 h,hv];exact hf) hkn'
   have hsl:(seen++[k]).length=out.length+1:=by simp[hlo]
   rw[hsl]at this
   push_cast
   push_cast at this
   exact this
  ·have hhu:FH s=true:=by
    unfold FH
    rw[List.any_eq_true]
    refine⟨_,HB hi,?_⟩
    rw[hsig];simp[hf]
   rw[hhu,if_pos rfl]
   have hf2:¬ (size (σ v)<=4000/\p2<=200):=fun h=>hf (by rw[hfe];simp[h])
   by_cases h1:size (σ v)<=4000
   ·have c1:((4000:Int)<(p1:Int))=False:=eq_false (by omega)
    have c2:((200:Int)<(p2:Int))=True:=eq_true (by omega)
    push_cast[EP,c1,c2]
    exact A0 (by push_cast[CS.rs];rfl)
   ·have c1:((4000:Int)<(p1:Int))=True:=eq_true (by omega)
    push_cast[EP,c1]
    exact A0 (by push_cast[CS.rs];rfl)
end
def IZ (r:List A5×Bool×Int):V:=.tup [B5 r.1,.bool r.2.1,.int .i64 r.2.2]
structure cg (l:List A3) (Vs:List A9) (D:Nat):Prop where
 am:∀ x∈l,C1 Vs x.left/\C1 Vs x.right
 wd:∀ x∈l,Dr x.left<2^40/\Dr x.right<2^40
 dp:∀ x∈l,depth x.left<=D/\depth x.right<=D
 vs:Vs.length<2^28
 hd:D<2^28
 len:l.length<2^40
theorem Zh (l:List A3)(Vs:List A9)(D:Nat)(h:cg l Vs D):PF JF [As l] (IZ (Ka (l.map (·.left)) (l.map (·.right)))):=by
 obtain⟨n,r,hr⟩:=Ix Vs (l.map (·.left)) (l.map (·.right)) [] C2 (fun _=>0) Gk.nil (fun v t h=>by cases h) (by simp only[List.mem_map];rintro z ⟨x,hx,rfl⟩;exact (h.am x hx).1) (by simp only[List.mem_map];rintro z ⟨x,hx,rfl⟩;exact (h.am x hx).2)
 have hS:=NT hr
 have hlv:=h.len
 have p2:Ay [0,1,2] 2=some 2:=rfl
 refine Ad CS.ok rfl ?_
 push_cast
 refine Ae (n:=l.length) (R:=fun k=>∀ (s:List A5)(σ:EQ)(rk:A9->Nat)(m:TM)(d:DM),Gk s σ rk->MR s m->WB s->(∀ v t,Ac s v=some t->depth t<=D)->(∀ v t,Ac s v=some t->C1 Vs t/\v∈Vs)->(∀ k,(Cd d k).isSome=true->Qj s k) ->
   AF (B3 n) s ((l.map (·.left)).drop k) ((l.map (·.right)).drop k)=some r->CS.L7 (.ptr 2 0) (As l) (.int .i64 l.length) (.int .i64 k) 0 (Sx m d []) (BH 0 CS.rs fun x H'=>x=IZ (Ka (l.map (·.left)) (l.map (·.right)))/\H'=[])) ?_ ?_ 0 (by omega)
  [] C2 (fun _=>0) [] [] Gk.nil ⟨fun v=>rfl,List.nodup_nil⟩ (fun v t h=>by cases h) (fun v t h=>by cases h) (fun v t h=>by cases h) (fun k h=>by cases h) hr
 ·intro k hk ih s σ rk m d hu hm hwb hdp ham hdone hsol
  have hme:=A4 hk
  have e1:(l.map (·.left)).getD k default=(l.getD k default).left:=by simp[List.getD_eq_getElem?_getD,hk]
  have e2:(l.map (·.right)).getD k default=(l.getD k default).right:=by simp[List.getD_eq_getElem?_getD,hk]
  rw[Ag (show k<(l.map (·.left)).length by simpa using hk),Ag (show k<(l.map (·.right)).length by simpa using hk),e1,e2]at hsol
  generalize hx:l.getD k default=x at hme hsol
  obtain⟨hal,har⟩:=h.am x hme
  obtain⟨hwl,hwr⟩:=h.wd x hme
  obtain⟨hdl,hdr⟩:=h.dp x hme
  simp only[AF]at hsol
  cases hf:B3 n s x.left x.right with
  | none=>rw[hf]at hsol;cases hsol
  | some p =>
   obtain⟨s1,ok⟩:=p
   rw[hf]at hsol
   obtain⟨σ1,rk1,hok⟩:=FR n s σ rk x.left x.right (s1,ok) hu hal.1 har.1 hf
   have hc:=Z2 n s σ rk m d x.left x.right (s1,ok) hu hm hwb hal.1 har.1 hwl hwr hf fun k hk=>.inl (hdone k hk)
   refine A7.2 ?_
   push_cast[BB hk,hx]
   refine QN (J:=[_]) (by push_cast[p2]) hc ?_
   rintro x' m1 d1 ⟨rfl,hR⟩
   cases ok with
   | false =>
    simp only[Option.some.injEq]at hsol
    have hu2:Ka (l.map (·.left)) (l.map (·.right))=([],false,0):=by unfold Ka;rw[hS,<-hsol];rfl
    push_cast
    rw[hu2]
    exact A0 (by push_cast[CS.rs];rfl)
   | true =>
    obtain⟨hm1,hk1⟩:=hR rfl
    push_cast[Co (show k<2^62 by omega)]
    have:=ih s1 σ1 rk1 m1 d1 hok.ok hm1 (hwb.solve hwl hwr hf)
     (fun v t hv=>(JU (P:=fun t=>depth t<=D) (Q:=fun _=>True) (fun t a h ha=>by have:=EL t;have:=NC ha;omega) (fun _ _ _=>trivial) n s x.left x.right _ (fun v t hv=>⟨hdp v t hv,trivial⟩) hdl hdr hf v t hv).1)
     (M6 ham hal har hf) (fun k hk=>by
      rcases hk1 k hk with h | h
      ·exact fun θ hθ=>hdone k h θ (hθ.mono hok.ext)
      ·exact h) hsol
    push_cast at this
    exact this
 ·intro s σ rk m d hu hm hwb hdp ham hdone hsol
  have e1:(l.map (·.left)).drop l.length=[]:=by rw[List.drop_eq_nil_of_le];simp
  rw[e1]at hsol
  simp only[AF,Option.some.injEq]at hsol
  have hlen:=I3 hu.srt ham
  have hvs:=h.vs
  have hhd:=h.hd
  have hsig:=SG hu
  have hDb:s.length*D+1<2^60:=by
   have:s.length*D<=2^28*2^28:=Nat.mul_le_mul (by omega) (by omega)
   omega
  have hq:=fk hu (d:=d) hm hwb (D:=s.length*D+1) (fun v=>by
   have h1:=hu.deep hdp v
   have h2:eT s rk v*D<=s.length*D:=Nat.mul_le_mul_right D (qB s rk v)
   omega) hDb (by omega) hsig
  have hu2:IZ (Ka (l.map (·.left)) (l.map (·.right)))=(if FH s then .tup [B5 [],.bool false,.int .i64 3] else .tup [B5 (DA s),.bool true,.int .i64 0]):=by
   unfold Ka
   rw[hS,<-hsol]
   simp only[Bool.true_eq_false,if_false]
   cases FH s<;>rfl
  rw[hu2]
  refine A7.2 ?_
  push_cast[AZ (Nat.le_refl _),SU]
  exact hq
end Go.Dw
end
namespace Go.Dw
theorem Xj {s:List A5}{v:A9}{t:Term}(h:Ac s v=some t):bound s v=true:=by unfold bound;rw[h];rfl
theorem Xn {s:List A5}{v:A9}(h:Ac s v=none):bound s v=false:=by unfold bound;rw[h];rfl
theorem Sl {s:List A5}(hl:s.length<2^62)(n:Nat)(t h:Term)(hh:E7 n s t=some h):PF Lp [B5 s,An t] (An h):=by
 refine Ad Nq.ok rfl ?_
 have key:∀ (n:Nat)(t:Term),E7 n s t=some h->Nq.L3 (B5 s) (.ptr 0 0) (.ptr 1 0) 0 [.cells A2 (cT t),.cells A2 [.str [],.bool false,.sl 3 []]] (BH 0 Nq.rs fun x' H'=>x'=An h/\H'=[]):=by
  intro n
  induction n with
  | zero=>intro t h;cases h
  | succ n ih =>
   intro t ht
   simp only[E7]at ht
   refine A7.2 ?_
   cases hv:t.var with
   | false =>
    rw[if_neg (by simp[hv])]at ht
    cases ht
    push_cast[hv]
    exact A0 (by push_cast[Nq.rs])
   | true =>
    rw[if_pos hv]at ht
    push_cast[hv]
    refine .of (Pz s t.name hl) ?_
    cases hi:Ac s t.name with
    | none =>
     rw[hi]at ht
     cases ht
     push_cast[Xn hi]
     exact A0 (by push_cast[Nq.rs])
    | some x =>
     rw[hi]at ht
     push_cast[Xj hi]
     refine .of (JT s t.name hl) ?_
     rw[hi]
     push_cast
     exact ih x ht
 push_cast
 exact key n t hh
def Cf (s:List A5):Nat->List A9->Term->List A9
 | 0,met,_=>met
 | n+1,met,t=>if t.var then (if t.name∈met then met else match Ac s t.name with
   | none=>met++[t.name]
   | some x=>Cf s n (met++[t.name]) x)
  else t.args.foldl (Cf s n) met
theorem SB {F:List A9->Term->List A9}{P:List A9->Prop}:∀ (l:List Term)(m:List A9),P m->(∀ a∈l,∀ m,P m->P (F m a))->P (l.foldl F m)
 | [],m,h,_=>h
 | a::l,m,h,hs=>SB l _ (hs a (by simp) m h) fun b hb=>hs b (by simp[hb])
theorem O2 {s:List A5}{Vs:List A9}(hs:∀ v t,Ac s v=some t->C1 Vs t/\v∈Vs):∀ (n:Nat)(met:List A9)(t:Term),C1 Vs t->met.Nodup->(∀ w∈met,w∈Vs)->(Cf s n met t).Nodup/\∀ w∈Cf s n met t,w∈Vs
 | 0,met,t,_,h1,h2=>⟨h1,h2⟩
 | n+1,met,t,ht,h1,h2=>by
  unfold Cf
  cases hv:t.var with
  | true =>
   rw[if_pos rfl]
   split
   ·exact⟨h1,h2⟩
   ·rename_i hm
    have h3:(met++[t.name]).Nodup:=by
     rw[List.nodup_append]
     refine⟨h1,by simp,fun a ha b hb e=>?_⟩
     rw[List.mem_singleton.1 hb]at e
     exact hm (e▸ha)
    have h4:∀ w∈met++[t.name],w∈Vs:=fun w hw=>by
     rcases List.mem_append.1 hw with h | h
     ·exact h2 w h
     ·rw[List.mem_singleton.1 h];exact ht.2 _ (AO.2 (.inl ⟨hv,rfl⟩))
    cases hi:Ac s t.name with
    | none=>exact⟨h3,h4⟩
    | some x=>exact O2 hs n _ x (hs _ _ hi).1 h3 h4
  | false =>
   rw[if_neg (by simp)]
   exact SB (P:=fun m=>m.Nodup/\∀ w∈m,w∈Vs) t.args met ⟨h1,h2⟩ fun a ha m hm=>O2 hs n m a (ht.arg ha) hm.1 hm.2
theorem QO {s:List A5}:∀ (n:Nat)(met:List A9)(t:Term)(w:A9),w∈met->w∈Cf s n met t
 | 0,met,t,w,h=>h
 | n+1,met,t,w,h=>by
  unfold Cf
  split
  ·split
   ·exact h
   ·cases hi:Ac s t.name with
    | none=>simp[h]
    | some x=>exact QO n _ x w (by simp[h])
  ·exact SB (P:=fun m=>w∈m) t.args met h fun a ha m hm=>QO n m a w hm
theorem Qz {s:List A5}:∀ (n:Nat)(met:List A9)(t:Term)(w:A9),w∈Cf s n met t->w∈met\/Pw s w t
 | 0,met,t,w,h=>.inl h
 | n+1,met,t,w,h=>by
  unfold Cf at h
  cases hv:t.var with
  | true =>
   rw[if_pos hv]at h
   split at h
   ·exact .inl h
   ·have hw:∀ w,w∈met++[t.name]->w∈met\/Pw s w t:=fun w h=>by
     rcases List.mem_append.1 h with h | h
     ·exact .inl h
     ·rw[List.mem_singleton.1 h];exact .inr (.here hv rfl)
    cases hi:Ac s t.name with
    | none=>rw[hi]at h;exact hw w h
    | some x =>
     rw[hi]at h
     rcases Qz n _ x w h with h | h
     ·exact hw w h
     ·exact .inr (.bound hv hi h)
  | false =>
   rw[if_neg (by simp[hv])]at h
   have key:∀ (l:List Term)(m:List A9),(∀ a∈l,a∈t.args)->w∈l.foldl (Cf s n) m->w∈m\/Pw s w t:=by
    intro l
    induction l with
    | nil=>intro m _ h;exact .inl h
    | cons a l ih =>
     intro m hl h
     rcases ih _ (fun b hb=>hl b (by simp[hb])) h with h | h
     ·rcases Qz n m a w h with h | h
      ·exact .inl h
      ·exact .inr (.arg hv (hl a (by simp)) h)
     ·exact .inr h
   exact key t.args met (fun _ h=>h) h
theorem RM {s:List A5}{σ:EQ}{rk:A9->Nat}(hu:Gk s σ rk){v:A9}:∀ (n:Nat)(met:List A9)(t:Term)(R:Nat),Gj s n t->vfl t=true->(∀ u,CX u t=true->rk u<R)->(∀ w∈met,¬ Pw s v (C2 w)\/R<=rk w)->v∉Cf s n met t ->
  ¬ Pw s v t/\∀ w∈Cf s n met t,w∈met\/¬ Pw s v (C2 w)
 | 0,met,t,R,h,_,_,_,_=>h.elim
 | n+1,met,t,R,hn,ht,hR,hσ,h=>by
  simp only[Gj]at hn
  unfold Cf at h ⊢
  cases hv:t.var with
  | true =>
   rw[if_pos hv]at h hn
   rw[if_pos rfl]
   have hocc:CX t.name t=true:=AO.2 (.inl ⟨hv,rfl⟩)
   have htv:=QV ht hv
   by_cases hg:t.name∈met
   ·rw[if_pos hg]
    rcases hσ _ hg with h1 | h1
    ·exact⟨by rw[htv];exact h1,fun w hw=>.inl hw⟩
    ·have:=hR _ hocc;omega
   ·rw[if_neg hg]at h ⊢
    cases hi:Ac s t.name with
    | none =>
     rw[hi]at h
     have hz:t.name≠v:=fun e=>h (by simp[e])
     have h3:¬ Pw s v t:=fun ho=>by
      cases ho with
      | here _ h2=>exact hz h2
      | bound _ h2 _=>rw[hi]at h2;cases h2
      | arg h1 _ _=>rw[hv]at h1;cases h1
     refine⟨h3,fun w hw=>?_⟩
     rcases List.mem_append.1 hw with hw | hw
     ·exact .inl hw
     ·rw[List.mem_singleton.1 hw];rw[htv]at h3;exact .inr h3
    | some x =>
     rw[hi]at h
     simp only at h ⊢
     have hz:t.name≠v:=fun e=>h (QO n _ x v (by simp[e]))
     obtain⟨h1,h2⟩:=RM hu n (met++[t.name]) x (rk t.name) (hn x hi) (hu.vf _ _ hi) (hu.low _ _ hi) (fun w hw=>by
      rcases List.mem_append.1 hw with hw | hw
      ·rcases hσ w hw with h3 | h3
       ·exact .inl h3
       ·exact .inr (by have:=hR _ hocc;omega)
      ·rw[List.mem_singleton.1 hw];exact .inr (Nat.le_refl _)) h
     have h3:=Vu hz hi h1
     refine⟨by rw[htv];exact h3,fun w hw=>?_⟩
     rcases h2 w hw with h4 | h4
     ·rcases List.mem_append.1 h4 with h5 | h5
      ·exact .inl h5
      ·rw[List.mem_singleton.1 h5];exact .inr h3
     ·exact .inr h4
  | false =>
   rw[if_neg (by simp[hv])]at h hn
   rw[if_neg (by simp)]
   have key:∀ (l:List Term)(m:List A9),(∀ a∈l,a∈t.args)->(∀ w∈m,w∈met\/¬ Pw s v (C2 w))->v∉l.foldl (Cf s n) m->(∀ a∈l,¬ Pw s v a)/\∀ w∈l.foldl (Cf s n) m,w∈met\/¬ Pw s v (C2 w):=by
    intro l
    induction l with
    | nil=>intro m _ hm _;exact⟨by simp,hm⟩
    | cons a l ih =>
     intro m hl hm h
     have hva:v∉Cf s n m a:=fun h2=>h (SB (P:=fun m=>v∈m) l _ h2 fun b hb m hm=>QO n m b v hm)
     obtain⟨h3,h4⟩:=RM hu n m a R (hn a (hl a (by simp))) (BR ht (hl a (by simp))) (fun u hu'=>hR u (AO.2 (.inr ⟨a,hl a (by simp),hu'⟩))) (fun w hw=>by
      rcases hm w hw with h5 | h5
      ·exact hσ w h5
      ·exact .inl h5) hva
     obtain⟨h5,h6⟩:=ih _ (fun b hb=>hl b (by simp[hb])) (fun w hw=>by
      rcases h4 w hw with h7 | h7
      ·exact hm w h7
      ·exact .inr h7) h
     exact⟨fun b hb=>by rcases List.mem_cons.1 hb with rfl | hb;exact h3;exact h5 b hb,h6⟩
   obtain⟨h1,h2⟩:=key t.args met (fun _ h=>h) (fun w hw=>.inl hw) h
   refine⟨fun ho=>?_,h2⟩
   cases ho with
   | here h3 _=>rw[hv]at h3;cases h3
   | bound h3 _ _=>rw[hv]at h3;cases h3
   | arg _ h3 h4=>exact h1 _ h3 h4
theorem rK {s:List A5}{σ:EQ}{rk:A9->Nat}(hu:Gk s σ rk){v:A9}{n:Nat}{t:Term}(hn:Gj s n t)(ht:vfl t=true):v∈Cf s n [] t↔Pw s v t:=by
 constructor
 ·intro h
  rcases Qz n [] t v h with h | h
  ·cases h
  ·exact h
 ·intro ho
  obtain⟨M,hM⟩:=YB rk t
  by_cases h:v∈Cf s n [] t
  ·exact h
  ·exact absurd ho (RM hu n [] t (M+1) hn ht (fun u h=>by have:=hM u h;omega) (fun w hw=>by cases hw) h).1
theorem AaQ (o o':Ob)(D:List Ob)(h:A6 (BG [0] (D.length+1)) o'=o'):takeB [0] (o::D) [o']=o'::D:=by
 apply List.ext_getElem?
 intro i
 rw[DX (by simp)]
 match i with
 | 0=>rw[if_pos (by simp)];show some (A6 _ o')=some _;rw[List.length_cons,h]
 | i+1 =>
  have hp:Ay [0] (i+1)=none:=by simp[Ay,List.findIdx?_cons]
  by_cases h:i<D.length
  ·rw[if_pos (by simp;omega),hp]
   simp[List.getD_eq_getElem?_getD,h]
  ·rw[if_neg (by simp;omega)]
   have e1:(o'::D)[i+1]?=none:=List.getElem?_eq_none (by simp;omega)
   have e2:([o']:List Ob)[[0].length+(i+1-(o::D).length)]?=none:=List.getElem?_eq_none (by simp)
   rw[e1,e2];rfl
abbrev mR (l:List A9):Ob:=.arr C5 1 l.length
theorem Ug {B:Nat}(hB:B=0\/B=1){rs:List RV}{t:T}{R:List A9}{D:List Ob}{Q:V->List Ob->Prop}(hr:UD rs t (mR R::D)=some (B8 cS 0 1 R))(hq:Q (B8 cS 0 1 R) [mR R]):BH B rs Q .ret t (mR R::D):=by
 rcases hB with rfl | rfl
 ·refine TC 0 hr rfl ?_
  have h0:Ay [0] 0=some 0:=rfl
  push_cast[h0]
  exact hq
 ·refine Am (n:=1) (H:=[mR R]) (J:=D) ⟨rfl,rfl⟩ hr ?_
  have h0:AI 1 0=some 0:=rfl
  push_cast[h0]
  exact hq
theorem dl {N:Nat->C}{B:Nat}{k:List K}{t:T}{Q:X->T->List Ob->Prop}{dd:Option Nat}{l:List S}{f:Nat}{a b:V}{m m':List A9}{D:List Ob}(ha:∀ σ,ren σ a=a)(hb:∀ σ,ren σ b=b)
  (h:Spec prog f [a,b,B8 cS 0 1 m] [mR m] fun x' H'=>x'=B8 cS 0 1 m'/\H'=[mR m']) (k':Ax prog N B (.r l::k) (Fd dd (B8 cS 0 1 m') t) (mR m'::D) Q):Bl prog N B dd l k t Q (.func f) [a,b,B8 cS 0 1 m] (mR m::D):=by
 have h0:Ay [0] 0=some 0:=rfl
 have h1:∀ n,BG [0] n 0=some 0:=fun _=>rfl
 refine Bl.some [0] (by simp) (by simp) (R:=fun x' H'=>x'=B8 cS 0 1 m'/\H'=[mR m']) ?_ ?_
 ·have e:give [0] (mR m::D)=[mR m]:=rfl
  rw[e]
  push_cast[h0,ha,hb]
  exact h
 ·rintro x' H' ⟨rfl,rfl⟩ _
  rw[AaQ _ _ _ rfl]
  push_cast[h1]
  exact k'
theorem gm {s:List A5}{Vs:List A9}(hs:∀ v t,Ac s v=some t->C1 Vs t/\v∈Vs)(hl:s.length<2^62)(hVs:Vs.length<2^30)(hwb:WB s):∀ (n:Nat)(t:Term)(met:List A9),Gj s n t->C1 Vs t->Dr t<2^40->met.Nodup->(∀ w∈met,w∈Vs) ->
  ∀ (V2:V)(H0:List Ob),((V2=.nil/\H0=[]/\met=[])\/(V2=B8 cS 0 1 met/\H0=[mR met]))->Spec prog K0 [B5 s,An t,V2] H0 fun x H'=>x=B8 cS 0 1 (Cf s n met t)/\H'=[mR (Cf s n met t)]:=by
 intro n
 induction n with
 | zero=>intro t met h;exact h.elim
 | succ n ih =>
  intro t met hn ht hw hnd hmV V2 H0 hcase
  have hml:met.length<=Vs.length:=hnd.length_le_of_subset hmV
  have hB:H0.length=0\/H0.length=1:=by rcases hcase with ⟨_,rfl,_⟩|⟨_,rfl⟩<;>simp
  have hrb:∀ σ:Nat->Option Nat,ren σ (B5 s)=B5 s:=fun σ=>by push_cast
  have hrt:∀ (t:Term)(σ:Nat->Option Nat),ren σ (An t)=An t:=fun t σ=>by push_cast
  simp only[Gj]at hn
  refine AC mixed GM.ok rfl ?_
  unfold Cf
  generalize hLen:H0.length=B at hB
  have start:Ax prog GM.nd B [.c GM.body] (vg 0 [B5 s,An t,V2]) H0 (BH B GM.rs fun x H'=>x=B8 cS 0 1 (if t.var then (if t.name∈met then met else match Ac s t.name with
   | none=>met++[t.name]
   | some x=>Cf s n (met++[t.name]) x)
  else t.args.foldl (Cf s n) met)/\H'=[mR (if t.var then (if t.name∈met then met else match Ac s t.name with
   | none=>met++[t.name]
   | some x=>Cf s n (met++[t.name]) x)
  else t.args.foldl (Cf s n) met)]):=by
   cases hv:t.var with
   | true =>
    rw[if_pos hv]at hn
    rw[if_pos rfl]
    have hH:=UN met t.name (by omega)
    by_cases hm:t.name∈met
    ·rw[if_pos hm]
     rw[Uu hm]at hH
     rcases hcase with ⟨rfl,rfl,rfl⟩|⟨rfl,rfl⟩
     ·cases hm
     ·have e:(B8 cS 0 1 met:V)=.own 0 1 (met.map cS):=rfl
      rw[e]
      push_cast[hv]
      refine .of hH ?_
      push_cast
      exact Ug hB rfl ⟨rfl,rfl⟩
    ·rw[if_neg hm]
     rw[S4 hm]at hH
     have hnd2:(met++[t.name]).Nodup:=by
      rw[List.nodup_append]
      refine⟨hnd,by simp,fun a ha b hb e=>?_⟩
      rw[List.mem_singleton.1 hb]at e
      exact hm (e▸ha)
     have hmV2:∀ w∈met++[t.name],w∈Vs:=fun w hw=>by
      rcases List.mem_append.1 hw with h | h
      ·exact hmV w h
      ·rw[List.mem_singleton.1 h];exact ht.2 _ (AO.2 (.inl ⟨hv,rfl⟩))
     have hBd:=Pz s t.name hl
     have hIm:=JT s t.name hl
     cases hi:Ac s t.name with
     | none =>
      rw[Xn hi]at hBd
      have hroom:=Um (show met.length<2^40 by omega) (show 16<=64 by omega)
      rcases hcase with ⟨rfl,rfl,rfl⟩|⟨rfl,rfl⟩
      ·push_cast[hv]
       refine .of hH ?_
       have hroom0:1*16<=Ai:=by unfold Ai;decide
       push_cast[hroom0]
       refine .of hBd ?_
       push_cast
       exact Ug (R:=[t.name]) hB rfl ⟨rfl,rfl⟩
      ·have e:(B8 cS 0 1 met:V)=.own 0 1 (met.map cS):=rfl
       rw[e]
       push_cast[hv]
       refine .of hH ?_
       push_cast[cX,hroom,List.length_map]
       refine .of hBd ?_
       push_cast
       have hlen2:met.length+1=(met++[t.name]).length:=by simp
       rw[hlen2]
       exact Ug hB rfl ⟨rfl,rfl⟩
     | some x =>
      rw[Xj hi]at hBd
      rw[hi]at hIm
      have hc:=ih x (met++[t.name]) (hn x hi) (hs _ _ hi).1 (hwb _ _ hi) hnd2 hmV2 _ _ (.inr ⟨rfl,rfl⟩)
      have hroom:=Um (show met.length<2^40 by omega) (show 16<=64 by omega)
      rcases hcase with ⟨rfl,rfl,rfl⟩|⟨rfl,rfl⟩
      ·push_cast[hv]
       refine .of hH ?_
       have hroom0:1*16<=Ai:=by unfold Ai;decide
       push_cast[hroom0]
       refine .of hBd ?_
       push_cast
       refine .of hIm ?_
       push_cast
       refine dl (m:=[t.name]) (D:=[]) hrb (hrt x) hc ?_
       push_cast
       exact Ug hB rfl ⟨rfl,rfl⟩
      ·have e:(B8 cS 0 1 met:V)=.own 0 1 (met.map cS):=rfl
       rw[e]
       push_cast[hv]
       refine .of hH ?_
       push_cast[cX,hroom,List.length_map]
       refine .of hBd ?_
       push_cast
       refine .of hIm ?_
       push_cast
       have hlen2:met.length+1=(met++[t.name]).length:=by simp
       rw[hlen2]
       refine dl (D:=[]) hrb (hrt x) hc ?_
       push_cast
       exact Ug hB rfl ⟨rfl,rfl⟩
   | false =>
    rw[if_neg (by simp[hv])]at hn
    rw[if_neg (by simp)]
    have hwa:=Em t
    have body:∀ (B:Nat)(hB:B=0\/B=1)(D:List Ob),GM.L3 (B5 s) (B8 cS 0 1 met) (Bk t.args) (.int .i64 t.args.length) (.int .i64 0) B (mR met::D) (BH B GM.rs fun x H'=>x=B8 cS 0 1 (t.args.foldl (Cf s n) met)/\H'=[mR (t.args.foldl (Cf s n) met)]):=by
     intro B hB D
     refine Ae (n:=t.args.length) (R:=fun k=>∀ (m:List A9)(D:List Ob),m.Nodup->(∀ w∈m,w∈Vs)->(t.args.drop k).foldl (Cf s n) m=t.args.foldl (Cf s n) met->GM.L3 (B5 s) (B8 cS 0 1 m) (Bk t.args) (.int .i64 t.args.length) (.int .i64 k) B (mR m::D) (BH B GM.rs fun x H'=>x=B8 cS 0 1 (t.args.foldl (Cf s n) met)/\H'=[mR (t.args.foldl (Cf s n) met)])) ?_ ?_ 0 (Nat.zero_le _) met D hnd hmV rfl
     ·intro k hk ih2 m D hm1 hm2 he
      have hme:=A4 hk
      rw[Ag hk]at he
      simp only[List.foldl_cons]at he
      have hc:=ih (t.args.getD k default) m (hn _ hme) (ht.arg hme) (Et hw hme) hm1 hm2 _ _ (.inr ⟨rfl,rfl⟩)
      have hkp:=O2 hs n m (t.args.getD k default) (ht.arg hme) hm1 hm2
      have g1:∀ x:Ob,(D++[x])[D.length]?=some x:=fun x=>by simp
      have g2:∀ x y:Ob,(D++[x]).set D.length y=D++[y]:=fun x y=>by simp
      refine A7.2 ?_
      push_cast[BB hk,g1,g2]
      refine dl (D:=D++[_]) hrb (hrt _) hc ?_
      push_cast[Co (show k<2^62 by omega)]
      have:=ih2 _ (D++[.dead]) hkp.1 hkp.2 he
      push_cast at this
      exact this
     ·intro m D hm1 hm2 he
      rw[Ar]at he
      simp only[List.foldl_nil]at he
      refine A7.2 ?_
      push_cast[AZ (Nat.le_refl _)]
      rw[<-he]
      exact Ug hB rfl ⟨rfl,rfl⟩
    rcases hcase with ⟨rfl,rfl,rfl⟩|⟨rfl,rfl⟩
    ·push_cast[hv]
     exact body B hB []
    ·have e:(B8 cS 0 1 met:V)=.own 0 1 (met.map cS):=rfl
     rw[e]
     push_cast[hv]
     exact body B hB []
  exact start
end Go.Dw
section
namespace Go.Dw
def cK (k:Qk):List V:=[.str k.1,.str k.2]
theorem kr {σ:Nat->Option Nat}(k:Qk):AN σ (cK k)=cK k:=rfl
abbrev dnO (dn:List Qk):Ob:=.arr Fj 2 dn.length
abbrev lA (s:List A5)(dn:List Qk)(J:List Ob):List Ob:=.cells D7 [B5 s,B8 cK 1 2 dn]::dnO dn::J
abbrev rH (s:List A5)(dn:List Qk):List Ob:=lA s dn []
theorem Ge (s:List A5)(dn:List Qk):I4 2 (rH s dn):=⟨rfl,by
 show [A6 (AI 2) (.cells D7 [B5 s,B8 cK 1 2 dn]),A6 (AI 2) (dnO dn)]=_
 have h1:AI 2 1=some 1:=rfl
 push_cast[h1]⟩
theorem wg (s:List A5)(dn:List Qk)(J:List Ob):give [0,1] (lA s dn J)=rH s dn:=by
 show [A6 (Ay [0,1]) (.cells D7 [B5 s,B8 cK 1 2 dn]),A6 (Ay [0,1]) (dnO dn)]=_
 have h1:Ay [0,1] 1=some 1:=rfl
 push_cast[h1]
theorem wX (s s':List A5)(dn dn':List Qk)(J:List Ob):takeB [0,1] (lA s dn J) (rH s' dn')=lA s' dn' J:=by
 apply List.ext_getElem?
 intro i
 rw[DX (by simp)]
 have h1:∀ n,BG [0,1] n 1=some 1:=fun _=>rfl
 match i with
 | 0=>rw[if_pos (by simp)];show some (A6 _ (.cells D7 [B5 s',B8 cK 1 2 dn']))=some _;push_cast[h1]
 | 1=>rw[if_pos (by simp)];rfl
 | i+2 =>
  have hp:Ay [0,1] (i+2)=none:=by simp[Ay,List.findIdx?_cons]
  by_cases h:i<J.length
  ·rw[if_pos (by simp;omega),hp]
   simp[List.getD_eq_getElem?_getD,h]
  ·rw[if_neg (by simp;omega)]
   have e1:(lA s' dn' J)[i+2]?=none:=List.getElem?_eq_none (by simp;omega)
   have e2:(rH s' dn')[[0,1].length+(i+2-(lA s dn J).length)]?=none:=List.getElem?_eq_none (by simp)
   rw[e1,e2];rfl
section
variable {N:Nat->C} {B:Nat} {k:List K} {t:T} {Q:X->T->List Ob->Prop} {dd:Option Nat} {l:List S} {f:Nat} {vs vs':List V} {s:List A5} {dn:List Qk} {J:List Ob}
theorem R5 {R:V->List A5->List Qk->Prop}(hv:AN (Ay [0,1]) vs=vs')(h:Spec prog f vs' (rH s dn) fun x' H'=>∃ s' dn',R x' s' dn'/\H'=rH s' dn')(k':∀ x' s' dn',R x' s' dn'->Ax prog N B (.r l::k) (Fd dd (ren (BG [0,1] (J.length+2)) x') t) (lA s' dn' J) Q):Bl prog N B dd l k t Q (.func f) vs (lA s dn J):=by
 refine Bl.some [0,1] (by simp) (by simp) (R:=fun x' H'=>∃ s' dn',R x' s' dn'/\H'=rH s' dn') (by rw[wg,hv];exact h) ?_
 rintro x' H' ⟨s',dn',hr,rfl⟩ _
 rw[wX];exact k' x' s' dn' hr
end
theorem Ada (x:Qk)(a b:A9):jc false [true,true] (.agg [.str x.1,.str x.2]) (.agg [.str a,.str b])=some (.bool (decide (x=(a,b)))):=by
 have:=S1 x (a,b)
 unfold Po at this
 unfold jc
 rw[if_pos (show vh [true,true] (.agg [.str x.1,.str x.2])=true from rfl),this];rfl
theorem gN (s:List A5)(dn:List Qk)(hd:dn.length<2^62)(a b:A9):Spec prog HK [.ptr 0 0,.str a,.str b] (rH s dn) fun x H'=>x=.bool (decide ((a,b)∈dn))/\H'=rH s dn:=by
 refine AC mixed GZ.ok rfl ?_
 push_cast
 refine Ae (n:=dn.length) (R:=fun k=>decide ((a,b)∈dn.drop k)=decide ((a,b)∈dn)->GZ.L3 (.str a) (.str b) (B8 cK 1 2 dn) (.int .i64 dn.length) (.int .i64 k) 2 (rH s dn) (BH 2 GZ.rs fun x H'=>x=.bool (decide ((a,b)∈dn))/\H'=rH s dn)) ?_ ?_ 0 (Nat.zero_le _) rfl
 ·intro k hk ih he
  rw[Ag hk]at he
  refine A7.2 ?_
  generalize hx:dn.getD k default=x at he
  have e4:∀ x:Qk,jc false [true,true] (.agg (cK x)) (.agg [.str a,.str b])=some (.bool (decide (x=(a,b)))):=fun x=>Ada x a b
  have e1:∀ x:Qk,sub 0 2 (cK x)=cK x:=fun x=>rfl
  have e2:∀ x:Qk,(cK x).length=2:=fun x=>rfl
  by_cases h:x=(a,b)
  ·have ht:decide ((a,b)∈dn)=true:=by rw[<-he];simp[h]
   rw[ht]
   push_cast[BB hk,hx,e1,e2,kr,e4,h]
   exact Am (H:=rH s dn) (J:=[_]) (Ge s dn) rfl ⟨rfl,rfl⟩
  ·have h':(a,b)≠x:=fun e=>h e.symm
   have:=ih (by rw[<-he];simp[h'])
   push_cast[BB hk,hx,e1,e2,kr,e4,h,Co (show k<2^62 by omega)]
   push_cast at this
   exact this
 ·intro he
  rw[Ar]at he
  refine A7.2 ?_
  push_cast[AZ (Nat.le_refl _)]
  exact Am (H:=rH s dn) (J:=[]) (Ge s dn) rfl ⟨by rw[<-he];rfl,rfl⟩
structure NOk (s:List A5) (Vs:List A9):Prop where
 am:∀ v t,Ac s v=some t->C1 Vs t/\v∈Vs
 vs:Vs.length<2^18
 nm:∀ v∈Vs,v.length<2^62
theorem WU {s:List A5}{σ:EQ}{rk:A9->Nat}{Vs:List A9}(hu:Gk s σ rk)(hN:NOk s Vs)(hwb:WB s)(dn:List Qk)(v:A9)(t:Term)(hv:v∈Vs)(ht:C1 Vs t)(hw:Dr t<2^40) :
  Spec prog Gf [.ptr 0 0,.str v,An t] (rH s dn) fun x H'=>∃ s' dn',(x=.bool (LH s v t).2/\s'=(LH s v t).1/\dn'=dn)/\H'=rH s' dn':=by
 obtain⟨n,hn⟩:=hu.need t
 have hlen:=I3 hu.srt hN.am
 have hvs:=hN.vs
 have hR:=gm hN.am (by omega) (by omega) hwb n t [] hn ht hw List.nodup_nil (by simp) _ _ (.inl ⟨rfl,rfl,rfl⟩)
 have hk:=O2 hN.am n [] t ht List.nodup_nil (by simp)
 have hRl:(Cf s n [] t).length<=Vs.length:=hk.1.length_le_of_subset hk.2
 have hq:=rK hu (v:=v) hn ht.1
 generalize Cf s n [] t=R at hR hRl hq
 have hH:=UN R v (by omega)
 have hW:=WI s v t (by omega) (fun b hb=>hN.nm _ (hN.am _ _ (DL hu.srt hb)).2) (hN.nm v hv)
 refine AC mixed Pg.ok rfl ?_
 push_cast
 refine Bl.some [] (by simp) (by simp) (R:=fun x' H'=>x'=B8 cS 0 1 R/\H'=[mR R]) ?_ ?_
 ·push_cast
  exact hR
 rintro x' H' ⟨rfl,rfl⟩ _
 have hT:takeB [] (rH s dn) [mR R]=lA s dn [mR R]:=rfl
 have h0:∀ n,BG [] n 0=some n:=fun n=>rfl
 rw[hT]
 push_cast[h0]
 refine .of hH ?_
 rcases LG s v t with ⟨ho,e⟩|⟨ho,e⟩
 ·rw[e,Uu (hq.2 ho)]
  push_cast
  exact Am (H:=rH s dn) (J:=[_]) (Ge s dn) rfl ⟨s,dn,⟨rfl,rfl,rfl⟩,rfl⟩
 ·rw[e,S4 (fun h=>ho (hq.1 h))]
  push_cast
  refine .of hW ?_
  push_cast
  exact Am (H:=rH (Eh s v t) dn) (J:=[_]) (Ge _ dn) rfl ⟨Eh s v t,dn,⟨rfl,rfl,rfl⟩,rfl⟩
def nr (Vs:List A9)(dn:List Qk)(a:Term)(r:List A5×Bool)(x:V)(s':List A5)(dn':List Qk):Prop:=x=.bool r.2/\(r.2=true->s'=r.1/\dn'.Nodup/\(∀ k∈dn',k.1∈Vs/\k.2∈Vs)/\∀ k∈dn',k∈dn\/(Qj r.1 k/\∀ θ,TY θ r.1->size (θ k.1)<=size (app θ a)))
theorem NOk.solve {s:List A5}{Vs:List A9}(h:NOk s Vs){n:Nat}{a b:Term}{r:List A5×Bool}(ha:C1 Vs a)(hb:C1 Vs b)(hr:B3 n s a b=some r):NOk r.1 Vs :=
 ⟨M6 h.am ha hb hr,h.vs,h.nm⟩
theorem Xw {Vs:List A9}{dn:List Qk}(h:dn.Nodup)(hv:∀ k∈dn,k.1∈Vs/\k.2∈Vs):dn.length<=Vs.length*Vs.length:=by
 have h1:=h.length_le_of_subset (l₂:=Vs.flatMap fun a=>Vs.map fun b=>(a,b)) fun k hk=>by
  obtain⟨h1,h2⟩:=hv k hk
  exact List.mem_flatMap.2 ⟨k.1,h1,List.mem_map.2 ⟨k.2,h2,rfl⟩⟩
 have h2:(Vs.flatMap fun a=>Vs.map fun b=>(a,b)).length=Vs.length*Vs.length:=by
  rw[List.length_flatMap]
  simp[List.map_const',List.sum_replicate_nat]
 omega
end Go.Dw
end
namespace Go.Dw
theorem fE {Vs:List A9}:∀ (n:Nat)(s:List A5)(σ:EQ)(rk:A9->Nat)(dn:List Qk)(a b:Term)(r:List A5×Bool),Gk s σ rk->NOk s Vs->WB s->C1 Vs a->C1 Vs b->Dr a<2^40->Dr b<2^40->B3 n s a b=some r ->
  (∀ k∈dn,Qj s k)->dn.Nodup->(∀ k∈dn,k.1∈Vs/\k.2∈Vs)->Spec prog Ft [.ptr 0 0,An a,An b] (rH s dn) fun x H'=>∃ s' dn',nr Vs dn a r x s' dn'/\H'=rH s' dn':=by
 intro n
 induction n with
 | zero=>intro s σ rk dn a b r _ _ _ _ _ _ _ h;cases h
 | succ n ih =>
  intro s σ rk dn a b r hu hN hwb ha hb hwa hwb2 hr hd hdn hdV
  have hvs:=hN.vs
  have hlen:=I3 hu.srt hN.am
  have hsq:Vs.length*Vs.length<=2^18*2^18:=Nat.mul_le_mul (by omega) (by omega)
  have hdl:=Xw hdn hdV
  obtain⟨σ1,rk1,hok⟩:=FR (n+1) s σ rk a b r hu ha.1 hb.1 hr
  have p0:Ay [0,1] 0=some 0:=rfl
  have p1:Ay [0,1] 1=some 1:=rfl
  have rest2:∀ (T:T)(both:Bool),(a.var&&b.var)=both->(both=true->(a.name,b.name)∉dn)->lk T 0=.ptr 0 0->lk T 4=.ptr 2 0->lk T 5=.ptr 3 0->lk T 7=.ro [.str a.name,.str b.name] 0->lk T 8=.bool both ->
    Ax prog BT.nd 2 [.c (.n 6)] T (lA s dn [.cells A2 (cT a),.cells A2 (cT b),.dead]) (BH 2 BT.rs fun x H'=>∃ s' dn',nr Vs dn a r x s' dn'/\H'=rH s' dn'):=by
   intro T both hbo hkey h0 h4 h5 h7 h8
   obtain⟨x,y,hx,hy,hc⟩:=JW hr
   have hxv:C1 Vs x:=C9 (P:=fun t=>C1 Vs t) (fun v t h=>(hN.am v t h).1) ha hx
   have hyv:C1 Vs y:=C9 (P:=fun t=>C1 Vs t) (fun v t h=>(hN.am v t h).1) hb hy
   have hxw:Dr x<2^40:=C9 (P:=fun t=>Dr t<2^40) hwb hwa hx
   have hyw:Dr y<2^40:=C9 (P:=fun t=>Dr t<2^40) hwb hwb2 hy
   have hxs:∀ θ,TY θ s->app θ x=app θ a:=fun θ hθ=>IR hθ hx
   have hA:=Sl (s:=s) (by omega) (n+1) a x hx
   have hB:=Sl (s:=s) (by omega) (n+1) b y hy
   have hlx:=Em x
   have hly:=Em y
   have same:∀ x':V,r.1=s->x'=.bool r.2->nr Vs dn a r x' s dn:=fun x' h e=>⟨e,fun _=>⟨h.symm,hdn,hdV,fun k hk=>.inl hk⟩⟩
   push_cast[h0,h4,h5]
   refine .of hA ?_
   push_cast[h0,h4,h5]
   refine .of hB ?_
   have fin:∀ (v:A9)(t:Term),r=LH s v t->∀ (x':V)(s':List A5)(dn':List Qk),(x'=.bool (LH s v t).2/\s'=(LH s v t).1/\dn'=dn)->nr Vs dn a r x' s' dn':=by
    rintro v t rfl x' s' dn' ⟨rfl,rfl,rfl⟩
    exact⟨rfl,fun _=>⟨rfl,hdn,hdV,fun k hk=>.inl hk⟩⟩
   rcases hc with ⟨c1,c2,c3,c6⟩|⟨c1,c2,c6⟩|⟨c1,c2,c6⟩|⟨c1,c2,c3,c6⟩|⟨c1,c2,c3,c4,c5⟩
   ·push_cast[h0,h4,h5,c1,c2,c3]
    exact Am (H:=rH s dn) (J:=[_,_,_]) (Ge s dn) rfl ⟨s,dn,same _ (by rw[c6]) (by rw[c6];rfl),rfl⟩
   ·have hS:=WU hu hN hwb dn x.name y (hxv.2 _ (AO.2 (.inl ⟨c1,rfl⟩))) hyv hyw
    by_cases c3:y.var=true
    ·have c4:x.name≠y.name:=fun e=>c2 ⟨c3,e⟩
     push_cast[h0,h4,h5,c1,c3,c4]
     refine R5 (J:=[_,_,_]) (by push_cast[p0]) hS ?_
     intro x' s' dn' hR
     have hf:=fin x.name y c6 x' s' dn' hR
     obtain⟨rfl,_,_⟩:=hR
     push_cast
     exact Am (H:=rH s' dn') (J:=[_,_,_]) (Ge s' dn') rfl ⟨s',dn',hf,rfl⟩
    ·have c3:y.var=false:=by simpa using c3
     push_cast[h0,h4,h5,c1,c3]
     refine R5 (J:=[_,_,_]) (by push_cast[p0]) hS ?_
     intro x' s' dn' hR
     have hf:=fin x.name y c6 x' s' dn' hR
     obtain⟨rfl,_,_⟩:=hR
     push_cast
     exact Am (H:=rH s' dn') (J:=[_,_,_]) (Ge s' dn') rfl ⟨s',dn',hf,rfl⟩
   ·have hS:=WU hu hN hwb dn y.name x (hyv.2 _ (AO.2 (.inl ⟨c2,rfl⟩))) hxv hxw
    push_cast[h0,h4,h5,c1,c2]
    refine R5 (J:=[_,_,_]) (by push_cast[p0]) hS ?_
    intro x' s' dn' hR
    have hf:=fin y.name x c6 x' s' dn' hR
    obtain⟨rfl,_,_⟩:=hR
    push_cast
    exact Am (H:=rH s' dn') (J:=[_,_,_]) (Ge s' dn') rfl ⟨s',dn',hf,rfl⟩
   ·by_cases hn:x.name=y.name
    ·have hlen:((x.args.length:Int)=(y.args.length:Int))=False:=eq_false (by rcases c3 with h | h;exact absurd hn h;omega)
     push_cast[h0,h4,h5,c1,c2,hn,hlen]
     exact Am (H:=rH s dn) (J:=[_,_,_]) (Ge s dn) rfl ⟨s,dn,same _ (by rw[c6]) (by rw[c6];rfl),rfl⟩
    ·push_cast[h0,h4,h5,c1,c2,hn]
     exact Am (H:=rH s dn) (J:=[_,_,_]) (Ge s dn) rfl ⟨s,dn,same _ (by rw[c6]) (by rw[c6];rfl),rfl⟩
   ·have hlen2:((x.args.length:Int)=(y.args.length:Int))=True:=eq_true (by omega)
    push_cast[h0,h4,h5,h7,h8,c1,c2,c3,hlen2]
    have hsx:∀ θ,TY θ s->∀ c∈x.args,size (app θ c)<size (app θ a):=fun θ hθ c hc=>by
     rw[<-hxs θ hθ,B7 c1]
     have h2:size (Term.mk x.name false (x.args.map (app θ)))=1+Af (x.args.map (app θ)):=rfl
     have h3:=B4 (List.mem_map_of_mem (f:=app θ) hc)
     omega
    refine Ae (n:=x.args.length) (R:=fun k=>∀ (s':List A5)(σ':EQ)(rk':A9->Nat)(dn':List Qk),Gk s' σ' rk'->NOk s' Vs->WB s'->(∀ θ,TY θ s'->TY θ s)->dn'.Nodup->(∀ k∈dn',k.1∈Vs/\k.2∈Vs)->(∀ k∈dn',k∈dn\/(Qj s' k/\∀ θ,TY θ s'->size (θ k.1)<size (app θ a)))->AF (B3 n) s' (x.args.drop k) (y.args.drop k)=some r ->
     BT.L4 (.ptr 0 0) (.ptr 2 0) (.ptr 3 0) (.ro [.str a.name,.str b.name] 0) (.bool both) (.int .i64 x.args.length) (.int .i64 k) 2 (lA s' dn' [.cells A2 (cT x),.cells A2 (cT y),.dead]) (BH 2 BT.rs fun x H'=>∃ s' dn',nr Vs dn a r x s' dn'/\H'=rH s' dn')) ?_ ?_ 0 (by omega) s σ rk dn hu hN hwb (fun _ h=>h) hdn hdV (fun k hk=>.inl hk) c5
    ·intro k hk ih2 s' σ' rk' dn' hu' hN' hwb' hsat hdn' hdV' hkeys hsol
     have hk2:k<y.args.length:=by omega
     have hmx:=A4 hk
     have hmy:=A4 hk2
     rw[Ag hk,Ag hk2]at hsol
     generalize hc:x.args.getD k default=c at hmx hsol
     generalize he:y.args.getD k default=e at hmy hsol
     simp only[AF]at hsol
     cases hf:B3 n s' c e with
     | none=>rw[hf]at hsol;cases hsol
     | some p =>
      obtain⟨s1,ok⟩:=p
      rw[hf]at hsol
      have hcall:=ih s' σ' rk' dn' c e (s1,ok) hu' hN' hwb' (hxv.arg hmx) (hyv.arg hmy) (Et hxw hmx) (Et hyw hmy) hf (fun k hk=>by
       rcases hkeys k hk with h | h
       ·exact fun θ hθ=>hd k h θ (hsat θ hθ)
       ·exact h.1) hdn' hdV'
      obtain⟨σ2,rk2,hok2⟩:=FR n s' σ' rk' c e (s1,ok) hu' (hxv.arg hmx).1 (hyv.arg hmy).1 hf
      refine A7.2 ?_
      push_cast[BB hk,BB hk2,hc,he]
      refine R5 (J:=[_,_,_]) (by push_cast[p0]) hcall ?_
      intro x' s2 dn2 hR
      obtain⟨rfl,hR⟩:=hR
      cases ok with
      | false =>
       simp only[Option.some.injEq]at hsol
       push_cast
       exact Am (H:=rH s2 dn2) (J:=[_,_,_]) (Ge s2 dn2) rfl ⟨s2,dn2,⟨by rw[<-hsol];rfl,fun h=>by rw[<-hsol]at h;cases h⟩,rfl⟩
      | true =>
       obtain⟨rfl,hm1,hm2,hm3⟩:=hR rfl
       push_cast[Co (show k<2^62 by omega)]
       have:=ih2 s2 σ2 rk2 dn2 hok2.ok (hN'.solve (hxv.arg hmx) (hyv.arg hmy) hf) (hwb'.solve (Et hxw hmx) (Et hyw hmy) hf) (fun θ hθ=>hsat θ (hθ.mono hok2.ext)) hm1 hm2 (fun k hk=>by
        rcases hm3 k hk with h | h
        ·rcases hkeys k h with h | h
         ·exact .inl h
         ·exact .inr ⟨fun θ hθ=>h.1 θ (hθ.mono hok2.ext),fun θ hθ=>h.2 θ (hθ.mono hok2.ext)⟩
        ·refine .inr ⟨h.1,fun θ hθ=>?_⟩
         have h1:=h.2 θ hθ
         have h2:=hsx θ (hsat θ (hθ.mono hok2.ext)) c hmx
         omega) hsol
       push_cast at this
       exact this
    ·intro s' σ' rk' dn' hu' hN' hwb' hsat hdn' hdV' hkeys hsol
     rw[Ar]at hsol
     simp only[AF,Option.some.injEq]at hsol
     subst hsol
     refine A7.2 ?_
     have hdl':=Xw hdn' hdV'
     have hkeep:∀ k∈dn',k∈dn\/(Qj s' k/\∀ θ,TY θ s'->size (θ k.1)<=size (app θ a)):=fun k hk=>by
      rcases hkeys k hk with h | h
      ·exact .inl h
      ·exact .inr ⟨h.1,fun θ hθ=>Nat.le_of_lt (h.2 θ hθ)⟩
     cases both with
     | false =>
      push_cast[AZ (Nat.le_refl _)]
      exact Am (H:=rH s' dn') (J:=[_,_,_]) (Ge s' dn') rfl ⟨s',dn',⟨rfl,fun _=>⟨rfl,hdn',hdV',hkeep⟩⟩,rfl⟩
     | true =>
      rw[Bool.and_eq_true]at hbo
      have hroom:(dn'.length+1)*32<=Ai:=Um (show dn'.length<2^40 by omega) (show 32<=64 by omega)
      have hown:∀ i,(.own i 2 (dn'.map cK++[[V.str a.name,V.str b.name]]):V)=B8 cK i 2 (dn'++[(a.name,b.name)]):=fun i=>by simp[B8,cK]
      push_cast[AZ (Nat.le_refl _),hroom,hown]
      have hlen3:dn'.length+1=(dn'++[(a.name,b.name)]).length:=by simp
      rw[hlen3]
      have hdone:∀ θ,TY θ s'->θ a.name=θ b.name:=fun θ hθ=>by
       have h4:=hok.eq rfl
       have h5:=hok.ok.sat_app hθ a
       have h6:=hok.ok.sat_app hθ b
       rw[h4,<-h6,Av hbo.1,Av hbo.2]at h5
       exact h5
      refine Am (H:=rH s' (dn'++[(a.name,b.name)])) (J:=[_,_,_]) (Ge s' _) rfl ⟨s',_,⟨rfl,fun _=>⟨rfl,?_,fun k hk=>?_,fun k hk=>?_⟩⟩,rfl⟩
      ·rw[List.nodup_append]
       refine⟨hdn',by simp,fun k hk q hq e=>?_⟩
       rw[List.mem_singleton.1 hq]at e
       subst e
       rcases hkeys _ hk with h | h
       ·exact hkey rfl h
       ·have:=h.2 σ' hu'.sat
        rw[Av hbo.1]at this
        exact absurd this (Nat.lt_irrefl _)
      ·rcases List.mem_append.1 hk with h | h
       ·exact hdV' k h
       ·rw[List.mem_singleton.1 h]
        exact⟨ha.2 _ (AO.2 (.inl ⟨hbo.1,rfl⟩)),hb.2 _ (AO.2 (.inl ⟨hbo.2,rfl⟩))⟩
      ·rcases List.mem_append.1 hk with h | h
       ·exact hkeep k h
       ·rw[List.mem_singleton.1 h]
        exact .inr ⟨hdone,fun θ hθ=>by rw[Av hbo.1];exact Nat.le_refl _⟩
  have rest:∀ (T:T),lk T 0=.ptr 0 0->lk T 4=.ptr 2 0->lk T 5=.ptr 3 0->lk T 7=.ro [.str a.name,.str b.name] 0->lk T 8=.bool (a.var&&b.var) ->
    Ax prog BT.nd 2 [.c (.n 7)] T (lA s dn [.cells A2 (cT a),.cells A2 (cT b),.dead]) (BH 2 BT.rs fun x H'=>∃ s' dn',nr Vs dn a r x s' dn'/\H'=rH s' dn'):=by
   intro T h0 h4 h5 h7 h8
   have hK:=gN s dn (by omega) a.name b.name
   have hK2:=Spec.mono hK (Q':=fun x' H'=>∃ s' dn',(x'=.bool (decide ((a.name,b.name)∈dn))/\s'=s/\dn'=dn)/\H'=rH s' dn') fun x' H' h=>⟨_,_,⟨h.1,rfl,rfl⟩,h.2⟩
   rw[pQ]
   simp only[BT.nd]
   generalize hC:C.n 6=c6
   cases hbo:(a.var&&b.var)with
   | true =>
    rw[hbo]at h8
    push_cast[h0,h4,h5,h7,h8]
    refine R5 (J:=[_,_,_]) (by push_cast[p0]) hK2 ?_
    rintro x' s' dn' ⟨rfl,rfl,rfl⟩
    by_cases hm:(a.name,b.name)∈dn'
    ·push_cast[hm]
     rw[Bool.and_eq_true]at hbo
     have hrr:r=(s',true):=Xr hu (n+1) a b r ha.1 hb.1 hr (by rw[Av hbo.1,Av hbo.2];exact hd _ hm σ hu.sat)
     exact Am (H:=rH s' dn') (J:=[_,_,_]) (Ge s' dn') rfl ⟨s',dn',⟨by rw[hrr];rfl,fun _=>⟨by rw[hrr],hdn,hdV,fun k hk=>.inl hk⟩⟩,rfl⟩
    ·push_cast[hm]
     subst hC
     exact rest2 _ true hbo (fun _=>hm) h0 h4 h5 h7 h8
   | false =>
    rw[hbo]at h8
    push_cast[h0,h4,h5,h7,h8]
    subst hC
    exact rest2 _ false hbo (fun h=>by cases h) h0 h4 h5 h7 h8
  refine AC mixed BT.ok rfl ?_
  unfold BT.body
  generalize hC:C.n 7=c7
  cases hva:a.var with
  | false =>
   push_cast[hva]
   subst hC
   refine⟨⟨?_,?_,?_⟩,⟨?_,?_⟩,?_⟩<;>exact rest _ rfl rfl rfl rfl (by rw[hva];rfl)
  | true =>
   push_cast[hva]
   subst hC
   refine⟨⟨?_,?_,?_⟩,⟨?_,?_⟩,?_⟩<;>exact rest _ rfl rfl rfl rfl (by rw[hva];rfl)
theorem bf {s:List A5}:∀ {k n:Nat} {t h:Term},E7 k s t=some h->Gj s n t->Gj s n h
 | 0,_,_,_,h,_=>by cases h
 | k+1,0,_,_,_,hn=>hn.elim
 | k+1,n+1,t,h,hh,hn=>by
  simp only[E7]at hh
  split at hh
  ·rename_i hv
   cases hi:Ac s t.name with
   | none=>rw[hi]at hh;cases hh;exact hn
   | some y =>
    rw[hi]at hh
    simp only[Gj,if_pos hv]at hn
    exact (bf hh (hn y hi)).mono (Nat.le_succ n)
  ·cases hh;exact hn
theorem Yj {s:List A5}:∀ (n:Nat)(t:Term),Gj s n t->∃ h,E7 n s t=some h
 | 0,_,h=>h.elim
 | n+1,t,h=>by
  simp only[Gj]at h
  simp only[E7]
  cases hv:t.var with
  | true =>
   rw[if_pos hv]at h
   rw[if_pos rfl]
   cases hi:Ac s t.name with
   | none=>exact⟨t,rfl⟩
   | some x=>exact Yj n x (h x hi)
  | false=>exact⟨t,by simp⟩
theorem Z7 {s:List A5}{σ:EQ}{rk:A9->Nat}(hu:Gk s σ rk)(hl:s.length<2^62)(hwb:WB s):∀ (n:Nat)(t:Term),Gj s n t->vfl t=true->Dr t<2^40->PF JL [B5 s,An t] (An (app σ t)):=by
 intro n
 induction n with
 | zero=>intro t h;exact h.elim
 | succ n ih =>
  intro t hn ht hw
  obtain⟨h,hh⟩:=Yj (n+1) t hn
  have hW:=Sl hl (n+1) t h hh
  have hhn:=bf hh hn
  have hhv:vfl h=true:=C9 (P:=fun t=>vfl t=true) hu.vf ht hh
  have hhw:Dr h<2^40:=C9 (P:=fun t=>Dr t<2^40) hwb hw hh
  rw[<-IR hu.sat hh]
  have hfree:h.var=true->Ac s h.name=none:=Es hh
  clear hh hn
  refine Ad JQ.ok rfl ?_
  push_cast
  refine .of hW ?_
  cases hv:h.var with
  | true =>
   have e:app σ h=h:=by rw[Av hv,hu.free _ (hfree hv)];exact (QV hhv hv).symm
   rw[e]
   push_cast[hv]
   exact A0 (by push_cast[JQ.rs])
  | false =>
   simp only[Gj]at hhn
   rw[if_neg (by simp[hv])]at hhn
   rw[B7 hv]
   have hwa:=Em h
   push_cast[hv]
   refine Ae (n:=h.args.length) (R:=fun k=>JQ.L3 (B5 s) (.ptr 1 0) (.ptr 2 0) (Bk h.args) (.int .i64 h.args.length) (.int .i64 k) 0
    [.cells A2 (cT h),.cells A2 [.str [],.bool false,.sl 3 []],.cells A2 [.str h.name,.bool false,B8 cT 3 3 ((h.args.map (app σ)).take k)],.arr A2 3 k] _) ?_ ?_ 0 (by omega)
   ·intro k hk ih2
    have hme:=A4 hk
    have hk2:k<(h.args.map (app σ)).length:=by simpa using hk
    have hlt:((h.args.map (app σ)).take k).length=k:=by simp;omega
    have hge:(h.args.map (app σ)).getD k default=app σ (h.args.getD k default):=by
     simp[List.getD_eq_getElem?_getD,hk]
    have hc:=ih _ (hhn _ hme) (BR hhv hme) (Et hhw hme)
    rw[Aa hk2,hge]at ih2
    refine A7.2 ?_
    push_cast[BB hk]
    refine .of hc ?_
    push_cast[hlt,Um (show k<2^40 by omega) (show 48<=64 by omega),Co (show k<2^62 by omega)]
    push_cast at ih2
    exact ih2
   ·refine A7.2 ?_
    push_cast[AZ (Nat.le_refl _)]
    rw[List.take_of_length_le (by simp)]
    refine A0 ?_
    push_cast[JQ.rs]
    rw[An,Qm];rfl
def Xo (n:Nat):List V:=[.int .i64 n]
theorem rE {σ:Nat->Option Nat}(l:List Nat):(l.map Xo).map (AN σ)=l.map Xo:=by rw[List.map_map];rfl
attribute [push_cast] rE
abbrev Hn (l:List Nat):Ob:=.row t_int 1 (l.map Xo)
abbrev ax (sz dp:List Nat):List Ob:=[Hn sz,Hn dp]
theorem dg (sz dp:List Nat):I4 2 (ax sz dp):=⟨rfl,by
 show [A6 (AI 2) (Hn sz),A6 (AI 2) (Hn dp)]=_
 push_cast⟩
def VP:List A5->List Nat->List Nat->A9->Nat×Nat
 | b::s,x::sz,y::dp,v=>if b.name=v then (x,y) else VP s sz dp v
 | _,_,_,_=>(1,1)
mutual
def OV (f:A9->Nat×Nat):Term->Nat×Nat
 | .mk n v l=>if v then f n else ((Jn f 1 0 l).1,min (Jn f 1 0 l).2 200+1)
def Jn (f:A9->Nat×Nat)(c e:Nat):List Term->Nat×Nat
 | []=>(c,e)
 | a::l=>Jn f (min (c+(OV f a).1) 4001) (max e (OV f a).2) l
end
theorem WY (f:A9->Nat×Nat)(t:Term):OV f t=if t.var then f t.name else ((Jn f 1 0 t.args).1,min (Jn f 1 0 t.args).2 200+1):=by cases t;simp only[OV];rfl
theorem aX {f:A9->Nat×Nat}:∀ (l:List Term)(c e:Nat),c<=4001->(Jn f c e l).1<=4001
 | [],c,e,h=>h
 | a::l,c,e,h=>aX l _ _ (by omega)
theorem fC {f:A9->Nat×Nat}(hf:∀ v,(f v).1<=4001/\(f v).2<=201)(t:Term):(OV f t).1<=4001/\(OV f t).2<=201:=by
 rw[WY]
 split
 ·exact hf _
 ·exact⟨aX _ _ _ (by omega),by show min _ 200+1<=201;omega⟩
theorem YX (s:List A5)(sz dp:List Nat)(h1:sz.length=s.length)(h2:dp.length=s.length)(hl:s.length<2^62)(hf:∀ v,(VP s sz dp v).1<=4001/\(VP s sz dp v).2<=201)(t:Term):Dr t<2^40 ->
  Spec prog JK [B5 s,.rw 0 1 s.length,.rw 1 1 s.length,An t] (ax sz dp) fun x H'=>x=.tup [.int .i64 (OV (VP s sz dp) t).1,.int .i64 (OV (VP s sz dp) t).2]/\H'=ax sz dp:=by
 induction t using Ah with
 | h t ih =>
 intro hw
 have hwa:=Em t
 refine AC mixed JV.ok rfl ?_
 rw[WY]
 cases hv:t.var with
 | true =>
  rw[if_pos rfl]
  push_cast[hv]
  refine Ae (n:=s.length) (R:=fun k=>VP (s.drop k) (sz.drop k) (dp.drop k) t.name=VP s sz dp t.name->JV.L8 (.rw 0 1 s.length) (.rw 1 1 s.length) (.ro (cT t) 0) (B5 s) (.int .i64 s.length) (.int .i64 k) 2 (ax sz dp) _) ?_ ?_ 0 (by omega) rfl
  ·intro k hk ih2 he
   have k1:k<sz.length:=by omega
   have k2:k<dp.length:=by omega
   rw[Ag hk,Ag k1,Ag k2]at he
   simp only[VP]at he
   generalize hb:s.getD k default=b at he
   have g1:(sz.map Xo)[k]?=some (Xo (sz.getD k default)):=by simp[List.getD_eq_getElem?_getD,k1]
   have g2:(dp.map Xo)[k]?=some (Xo (dp.getD k default)):=by simp[List.getD_eq_getElem?_getD,k2]
   generalize hx:sz.getD k default=x at he g1
   generalize hy:dp.getD k default=y at he g2
   refine A7.2 ?_
   by_cases h:b.name=t.name
   ·rw[if_pos h]at he
    rw[<-he]
    have g0:∀ x,(Xo x)[0]?=some (.int .i64 x):=fun _=>rfl
    push_cast[BB hk,hb,h,g1,g2,g0,List.length_map,h1,h2]
    exact Am (H:=ax sz dp) (J:=[_]) (dg sz dp) rfl ⟨rfl,rfl⟩
   ·rw[if_neg h]at he
    push_cast[BB hk,hb,h,Co (show k<2^62 by omega)]
    exact ih2 he
  ·intro he
   rw[Ar]at he
   refine A7.2 ?_
   push_cast[AZ (Nat.le_refl _)]
   rw[<-he]
   exact Am (H:=ax sz dp) (J:=[]) (dg sz dp) rfl ⟨rfl,rfl⟩
 | false =>
  rw[if_neg (by simp)]
  push_cast[hv]
  refine Ae (n:=t.args.length) (R:=fun k=>∀ (c e:Nat),c<=4001->e<=201->Jn (VP s sz dp) c e (t.args.drop k)=Jn (VP s sz dp) 1 0 t.args->JV.L3 (B5 s) (.rw 0 1 s.length) (.rw 1 1 s.length) (.int .i64 c) (.int .i64 e) (Bk t.args) (.int .i64 t.args.length) (.int .i64 k) 2 (ax sz dp) _) ?_ ?_ 0 (by omega) 1 0 (by omega) (by omega) rfl
  ·intro k hk ih2 c e hc he heq
   have hme:=A4 hk
   rw[Ag hk]at heq
   simp only[Jn]at heq
   have hcall:=ih (t.args.getD k default) hme (Et hw hme)
   have hle:=fC hf (t.args.getD k default)
   generalize OV (VP s sz dp) (t.args.getD k default)=p at hcall heq hle
   obtain⟨a1,b1⟩:=p
   simp only at hle heq
   obtain⟨c1,hc1⟩:∃ c1,c1=min (c+a1) 4001:=⟨_,rfl⟩
   obtain⟨e1,he1⟩:∃ e1,e1=max e b1:=⟨_,rfl⟩
   rw[<-hc1,<-he1]at heq
   have hw1:IntKind.i64.wrap ((c:Int)+(a1:Int))=(c:Int)+a1:=Cr (by omega) (by omega)
   have hmn:(if (4001:Int)<(c:Int)+(a1:Int) then (4001:Int) else (c:Int)+(a1:Int))=(c1:Int):=by split<;>omega
   have hmx:(if (e:Int)<(b1:Int) then (b1:Int) else (e:Int))=(e1:Int):=by split<;>omega
   refine A7.2 ?_
   push_cast[BB hk]
   have h0:Ay [0,1] 0=some 0:=rfl
   have h1:Ay [0,1] 1=some 1:=rfl
   refine Bl.some [0,1] (by simp) (by simp) (R:=fun x' H'=>x'=.tup [.int .i64 a1,.int .i64 b1]/\H'=ax sz dp) ?_ ?_
   ·have e:give [0,1] (ax sz dp++[.dead])=ax sz dp:=by
     show [A6 (Ay [0,1]) (Hn sz),A6 (Ay [0,1]) (Hn dp)]=_
     push_cast
    push_cast[h0,h1]
    push_cast at e
    rw[e]
    exact hcall
   rintro x' H' ⟨rfl,rfl⟩ _
   have e:takeB [0,1] (ax sz dp++[.dead]) (ax sz dp)=ax sz dp++[.dead]:=by
    show [A6 (BG [0,1] 3) (Hn sz),A6 (BG [0,1] 3) (Hn dp),.dead]=_
    push_cast
   push_cast at e
   rw[e]
   have this:=ih2 c1 e1 (by omega) (by omega) heq
   push_cast[hw1,hmn,hmx,<-he1,Co (show k<2^62 by omega)]
   push_cast at this
   exact this
  ·intro c e hc he heq
   rw[Ar]at heq
   simp only[Jn]at heq
   rw[<-heq]
   obtain⟨e1,he1⟩:∃ e1,e1=min e 200:=⟨_,rfl⟩
   have hmn:(if (200:Int)<(e:Int) then (200:Int) else (e:Int))=(e1:Int):=by split<;>omega
   refine A7.2 ?_
   simp only[<-he1]
   push_cast[AZ (Nat.le_refl _),hmn,<-he1,Co (show e1<2^62 by omega)]
   exact Am (H:=ax sz dp) (J:=[]) (dg sz dp) rfl ⟨by push_cast[JV.rs],rfl⟩
def oI (σ:EQ)(t:Term):Nat×Nat:=(min (size (app σ t)) 4001,min (depth (app σ t)) 201)
theorem dN {σ:EQ}{f:A9->Nat×Nat}(t:Term):(∀ w,CX w t=true->f w=oI σ (C2 w))->OV f t=oI σ t:=by
 induction t using Ah with
 | h t ih =>
 intro h
 rw[WY]
 cases hv:t.var with
 | true =>
  rw[if_pos rfl,h _ (AO.2 (.inl ⟨hv,rfl⟩))]
  unfold oI
  rw[Av (t:=C2 t.name) rfl,Av hv];rfl
 | false =>
  rw[if_neg (by simp)]
  have key:∀ (l:List Term)(c e:Nat)(S D:Nat),(∀ a∈l,a∈t.args)->c=min S 4001->e=min D 201->Jn f c e l=(min (S+Af (l.map (app σ))) 4001,min (max D (Bg (l.map (app σ)))) 201):=by
   intro l
   induction l with
   | nil=>intro c e S D _ hc he;simp[Jn,Af,Bg,hc,he]
   | cons a l ihl =>
    intro c e S D hl hc he
    simp only[Jn]
    have ha:=ih a (hl a (by simp)) fun w hw=>h w (AO.2 (.inr ⟨a,hl a (by simp),hw⟩))
    rw[ha]
    rw[ihl _ _ (S+size (app σ a)) (max D (depth (app σ a))) (fun b hb=>hl b (by simp[hb])) (by simp only[oI];omega) (by simp only[oI];omega)]
    simp only[List.map_cons,Af,Bg]
    congr 1<;>omega
  rw[key t.args 1 0 1 0 (fun _ h=>h) (by omega) (by omega)]
  have e1:size (app σ t)=1+Af (t.args.map (app σ)):=by rw[B7 hv];rfl
  have e2:depth (app σ t)=Bg (t.args.map (app σ))+1:=by rw[B7 hv];rfl
  unfold oI
  rw[e1,e2]
  congr 1
  simp only;omega
theorem pO:∀ {s:List A5} {sz dp:List Nat} {i:Nat},(s.map (·.name)).Nodup->sz.length=s.length->dp.length=s.length->i<s.length->VP s sz dp (s.getD i default).name=(sz.getD i 0,dp.getD i 0)
 | [],_,_,i,_,_,_,h=>by simp at h
 | b::s,[],_,i,_,h,_,_=>by simp at h
 | b::s,x::sz,[],i,_,_,h,_=>by simp at h
 | b::s,x::sz,y::dp,0,_,_,_,_=>by simp[VP]
 | b::s,x::sz,y::dp,i+1,hn,h1,h2,hi=>by
  simp only[List.map_cons,List.nodup_cons]at hn
  have hi:i<s.length:=by simpa using hi
  have hne:b.name≠(s.getD i default).name:=fun e=>hn.1 (by rw[e];exact List.mem_map_of_mem (f:=(·.name)) (A4 hi))
  have e:(b::s).getD (i+1) default=s.getD i default:=by simp
  rw[e]
  simp only[VP]
  rw[if_neg hne,pO hn.2 (by simpa using h1) (by simpa using h2) hi]
  simp
theorem gA:∀ {s:List A5} {sz dp:List Nat} {v:A9},Ac s v=none->VP s sz dp v=(1,1)
 | [],_,_,_,_=>rfl
 | b::s,[],_,_,_=>rfl
 | b::s,x::sz,[],_,_=>rfl
 | b::s,x::sz,y::dp,v,h=>by
  simp only[Ac]at h
  simp only[VP]
  split at h
  ·cases h
  ·rename_i hne
   rw[if_neg hne]
   exact gA h
theorem jW:∀ {s:List A5} {sz dp:List Nat} {v:A9},(∀ x∈sz,x<=4001)->(∀ x∈dp,x<=201)->(VP s sz dp v).1<=4001/\(VP s sz dp v).2<=201
 | [],_,_,_,_,_=>by simp[VP]
 | b::s,[],_,_,_,_=>by simp[VP]
 | b::s,x::sz,[],_,_,_=>by simp[VP]
 | b::s,x::sz,y::dp,v,h1,h2=>by
  simp only[VP]
  split
  ·exact⟨h1 x (by simp),h2 y (by simp)⟩
  ·exact jW (fun z hz=>h1 z (by simp[hz])) (fun z hz=>h2 z (by simp[hz]))
theorem bZ {s:List A5}(h:CK s):(s.map (·.name)).Nodup:=by
 rw[List.nodup_iff_pairwise_ne,List.pairwise_map]
 exact h.imp fun {a b} hab e=>by rw[e]at hab;exact Cs _ hab
def O4 (σ:EQ)(s:List A5)(sz dp:List Nat)(i:Nat):Prop:=(sz.getD i 0,dp.getD i 0)=oI σ (C2 (s.getD i default).name)
def jv (σ:EQ)(rk:A9->Nat)(s:List A5)(sz dp:List Nat)(k:Nat):Prop:=∀ i,i<s.length->eT s rk (s.getD i default).name<=k->O4 σ s sz dp i
theorem iY {s:List A5}{σ:EQ}{rk:A9->Nat}(hu:Gk s σ rk){sz dp:List Nat}(h1:sz.length=s.length)(h2:dp.length=s.length){k:Nat}(hr:jv σ rk s sz dp k){j:Nat}(hj:j<s.length)(hc:eT s rk (s.getD j default).name<=k+1) :
  OV (VP s sz dp) (s.getD j default).term=oI σ (C2 (s.getD j default).name):=by
 have hb:=A4 hj
 have hi:=DL hu.srt hb
 have e:oI σ (C2 (s.getD j default).name)=oI σ (s.getD j default).term:=by
  unfold oI
  rw[Av (t:=C2 (s.getD j default).name) rfl,show (C2 (s.getD j default).name).name=(s.getD j default).name from rfl,hu.fix _ _ hi]
 rw[e]
 refine dN _ fun w hw=>?_
 cases hw2:Ac s w with
 | none =>
  rw[gA hw2]
  unfold oI
  rw[Av (t:=C2 w) rfl,show (C2 w).name=w from rfl,hu.free w hw2];rfl
 | some x =>
  obtain⟨i,hi2,e2⟩:=List.getElem_of_mem (HB hw2)
  have e3:s.getD i default=⟨w,x⟩:=by simp[List.getD_eq_getElem?_getD,hi2,e2]
  have h4:=hu.cnt_lt hi hw
  have h5:=hr i hi2 (by rw[e3];show eT s rk w<=k;omega)
  have h6:=pO (bZ hu.srt) h1 h2 hi2
  unfold O4 at h5
  rw[e3]at h5 h6
  rw[h6];exact h5
theorem eA {l:List Nat}{j i x:Nat}(hj:j<l.length):(l.set j x).getD i 0=if i=j then x else l.getD i 0:=by
 simp only[List.getD_eq_getElem?_getD,List.getElem?_set]
 by_cases h:j=i
 ·subst h;rw[if_pos rfl,if_pos rfl,if_pos hj];rfl
 ·rw[if_neg h,if_neg (fun e=>h e.symm)]
theorem pP {l:List Nat}{j x m:Nat}(h:∀ y∈l,y<=m)(hx:x<=m):∀ y∈l.set j x,y<=m:=fun y hy=>by
 rcases List.mem_or_eq_of_mem_set hy with h2 | h2
 ·exact h y h2
 ·rw[h2];exact hx
theorem gi {s:List A5}{σ:EQ}{rk:A9->Nat}(hu:Gk s σ rk)(hl:s.length<2^38)(hwb:WB s):PF PJ [B5 s] (.bool (FH s)):=by
 have hsig:=SG hu
 have hc0:∀ x:Nat,(Xo x)[0]?=some (.int .i64 x):=fun _=>rfl
 have main:∀ (i j:Nat)(Hf:List Nat->List Nat->List Ob),((i=0/\j=1/\Hf=fun sz dp=>[Hn sz,Hn dp])\/(i=1/\j=0/\Hf=fun sz dp=>[Hn dp,Hn sz])) ->
   CD.L10 (B5 s) (.rw i 1 s.length) (.rw j 1 s.length) (.int .i64 s.length) (.int .i64 0) 0 (Hf (List.replicate s.length 0) (List.replicate s.length 0)) (BH 0 CD.rs fun x H=>x=.bool (FH s)/\H=[]):=by
  intro i j Hf hcase
  refine Ae (n:=s.length) (R:=fun r=>∀ sz dp:List Nat,sz.length=s.length->dp.length=s.length->(∀ x∈sz,x<=4001)->(∀ x∈dp,x<=201)->jv σ rk s sz dp r->CD.L10 (B5 s) (.rw i 1 s.length) (.rw j 1 s.length) (.int .i64 s.length) (.int .i64 r) 0 (Hf sz dp) (BH 0 CD.rs fun x H=>x=.bool (FH s)/\H=[])) ?_ ?_ 0 (Nat.zero_le _) _ _ (by simp) (by simp) (fun x hx=>by rw[List.eq_of_mem_replicate hx];omega) (fun x hx=>by rw[List.eq_of_mem_replicate hx];omega) ?_
  ·intro r hr ih sz dp h1 h2 hs1 hs2 hR
   have inner:CD.L8 (B5 s) (.rw i 1 s.length) (.rw j 1 s.length) (.int .i64 s.length) (.int .i64 r) (B5 s) (.int .i64 s.length) (.int .i64 0) 0 (Hf sz dp) (BH 0 CD.rs fun x H=>x=.bool (FH s)/\H=[]):=by
    refine Ae (n:=s.length) (R:=fun k=>∀ sz dp:List Nat,sz.length=s.length->dp.length=s.length->(∀ x∈sz,x<=4001)->(∀ x∈dp,x<=201)->jv σ rk s sz dp r->(∀ i,i<k->i<s.length->eT s rk (s.getD i default).name<=r+1->O4 σ s sz dp i)->CD.L8 (B5 s) (.rw i 1 s.length) (.rw j 1 s.length) (.int .i64 s.length) (.int .i64 r) (B5 s) (.int .i64 s.length) (.int .i64 k) 0 (Hf sz dp) (BH 0 CD.rs fun x H=>x=.bool (FH s)/\H=[])) ?_ ?_ 0 (Nat.zero_le _) sz dp h1 h2 hs1 hs2 hR (fun i hi=>by omega)
    ·intro k hk ih2 sz dp h1 h2 hs1 hs2 hR hP
     have hb:=A4 hk
     have hi:=DL hu.srt hb
     have hM:=YX s sz dp h1 h2 (by omega) (fun v=>jW hs1 hs2) (s.getD k default).term (hwb _ _ hi)
     have hle:=fC (f:=VP s sz dp) (fun v=>jW hs1 hs2) (s.getD k default).term
     have hstep:=fun hc=>iY hu h1 h2 hR hk hc
     generalize hp:OV (VP s sz dp) (s.getD k default).term=p at hM hle hstep
     obtain⟨a1,b1⟩:=p
     have hnew:∀ i,i<s.length->eT s rk (s.getD i default).name<=r+1->(i<k+1\/eT s rk (s.getD i default).name<=r)->O4 σ s (sz.set k a1) (dp.set k b1) i:=fun i hi hc hor=>by
      unfold O4
      rw[eA (show k<sz.length by omega),eA (show k<dp.length by omega)]
      by_cases e:i=k
      ·subst e
       rw[if_pos rfl,if_pos rfl]
       exact hstep hc
      ·rw[if_neg e,if_neg e]
       rcases hor with h | h
       ·exact hP i (by omega) hi hc
       ·exact hR i hi h
     have:=ih2 (sz.set k a1) (dp.set k b1) (by simpa using h1) (by simpa using h2) (pP hs1 hle.1) (pP hs2 hle.2) (fun i hi hc=>hnew i hi (by omega) (.inr hc)) (fun i hik hi hc=>hnew i hi hc (.inl hik))
     have g1:(sz.map Xo)[k]?=some (Xo (sz.getD k 0)):=by simp[List.getD_eq_getElem?_getD,h1,hk]
     have g2:(dp.map Xo)[k]?=some (Xo (dp.getD k 0)):=by simp[List.getD_eq_getElem?_getD,h2,hk]
     have hset0:∀ (l:List Nat)(x:Nat),k<l.length->(l.map Xo).set k (put 0 [V.int .i64 x] ((l.map Xo).getD k []))=(l.set k x).map Xo:=fun l x h=>by
      have e:(l.map Xo).getD k []=Xo (l.getD k 0):=by simp[List.getD_eq_getElem?_getD,h]
      rw[e,List.map_set];rfl
     have hset1:=fun x=>hset0 sz x (by omega)
     have hset2:=fun x=>hset0 dp x (by omega)
     refine A7.2 ?_
     rcases hcase with ⟨rfl,rfl,rfl⟩|⟨rfl,rfl,rfl⟩
     ·push_cast[BB hk]
      have h0:Ay [0,1] 0=some 0:=rfl
      have h1':Ay [0,1] 1=some 1:=rfl
      refine Bl.some [0,1] (by simp) (by simp) (R:=fun x' H'=>x'=.tup [.int .i64 a1,.int .i64 b1]/\H'=ax sz dp) ?_ ?_
      ·have e:give [0,1] [Hn sz,Hn dp,.dead]=ax sz dp:=by
        show [A6 (Ay [0,1]) (Hn sz),A6 (Ay [0,1]) (Hn dp)]=_
        push_cast
       rw[e]
       push_cast[h0,h1']
       exact hM
      rintro x' H' ⟨rfl,rfl⟩ _
      have e:takeB [0,1] [Hn sz,Hn dp,.dead] (ax sz dp)=[Hn sz,Hn dp,.dead]:=by
       show [A6 (BG [0,1] 3) (Hn sz),A6 (BG [0,1] 3) (Hn dp),.dead]=_
       push_cast
      rw[e]
      push_cast[g1,g2,hc0,hset1,hset2,List.length_map,h1,h2,BB hk,Co (show k<2^62 by omega)]
      push_cast at this
      exact⟨hk,hk,this⟩
     ·push_cast[BB hk]
      have h0:Ay [1,0] 0=some 1:=rfl
      have h1':Ay [1,0] 1=some 0:=rfl
      refine Bl.some [1,0] (by simp) (by simp) (R:=fun x' H'=>x'=.tup [.int .i64 a1,.int .i64 b1]/\H'=ax sz dp) ?_ ?_
      ·have e:give [1,0] [Hn dp,Hn sz,.dead]=ax sz dp:=by
        show [A6 (Ay [1,0]) (Hn sz),A6 (Ay [1,0]) (Hn dp)]=_
        push_cast
       rw[e]
       push_cast[h0,h1']
       exact hM
      rintro x' H' ⟨rfl,rfl⟩ _
      have e:takeB [1,0] [Hn dp,Hn sz,.dead] (ax sz dp)=[Hn dp,Hn sz,.dead]:=by
       show [A6 (BG [1,0] 3) (Hn dp),A6 (BG [1,0] 3) (Hn sz),.dead]=_
       push_cast
      rw[e]
      push_cast[g1,g2,hc0,hset1,hset2,List.length_map,h1,h2,BB hk,Co (show k<2^62 by omega)]
      push_cast at this
      exact⟨hk,hk,this⟩
    ·intro sz dp h1 h2 hs1 hs2 hR hP
     have:=ih sz dp h1 h2 hs1 hs2 (fun i hi hc=>hP i (by omega) hi hc)
     refine A7.2 ?_
     rcases hcase with ⟨rfl,rfl,rfl⟩|⟨rfl,rfl,rfl⟩
     all_goals
      push_cast[AZ (Nat.le_refl _),Co (show r<2^62 by omega)]
      push_cast at this
      exact this
   refine A7.2 ?_
   rcases hcase with ⟨rfl,rfl,rfl⟩|⟨rfl,rfl,rfl⟩
   all_goals
    push_cast[BB hr]
    exact inner
  ·intro sz dp h1 h2 hs1 hs2 hR
   have hall:∀ k,k<s.length->O4 σ s sz dp k:=fun k hk=>hR k hk (qB s rk _)
   refine A7.2 ?_
   have fin:CD.L3 (.rw i 1 s.length) (.rw j 1 s.length) (.int .i64 s.length) (.int .i64 0) 0 (Hf sz dp) (BH 0 CD.rs fun x H=>x=.bool (FH s)/\H=[]):=by
    refine Ae (n:=s.length) (R:=fun k=>((s.drop k).any fun b=>!BU (Td s b.name))=FH s->CD.L3 (.rw i 1 s.length) (.rw j 1 s.length) (.int .i64 s.length) (.int .i64 k) 0 (Hf sz dp) (BH 0 CD.rs fun x H=>x=.bool (FH s)/\H=[])) ?_ ?_ 0 (Nat.zero_le _) rfl
    ·intro k hk ih he
     rw[Ag hk]at he
     simp only[List.any_cons]at he
     have h4:=hall k hk
     unfold O4 oI at h4
     rw[Av (t:=C2 (s.getD k default).name) rfl,show (C2 (s.getD k default).name).name=(s.getD k default).name from rfl]at h4
     rw[hsig]at he
     generalize σ (s.getD k default).name=u at h4 he
     injection h4 with e1 e2
     have g1:(sz.map Xo)[k]?=some (Xo (sz.getD k 0)):=by simp[List.getD_eq_getElem?_getD,h1,hk]
     have g2:(dp.map Xo)[k]?=some (Xo (dp.getD k 0)):=by simp[List.getD_eq_getElem?_getD,h2,hk]
     rw[e1]at g1
     rw[e2]at g2
     have hfe:BU u=(decide (size u<=4000)&&decide (depth u<=200)):=rfl
     generalize hp1:min (size u) 4001=p1 at g1
     generalize hp2:min (depth u) 201=p2 at g2
     refine A7.2 ?_
     by_cases c1:size u<=4000
     ·by_cases c2:depth u<=200
      ·have i1:((4000:Int)<(p1:Int))=False:=eq_false (by omega)
       have i2:((200:Int)<(p2:Int))=False:=eq_false (by omega)
       have hq:BU u=true:=by rw[hfe];simp[c1,c2]
       rw[hq]at he
       have this:=ih (by simpa[hsig]using he)
       rcases hcase with ⟨rfl,rfl,rfl⟩|⟨rfl,rfl,rfl⟩
       all_goals
        push_cast[BB hk,g1,g2,hc0,i1,i2,List.length_map,h1,h2,Co (show k<2^62 by omega)]
        push_cast at this
        exact this
      ·have i1:((4000:Int)<(p1:Int))=False:=eq_false (by omega)
       have i2:((200:Int)<(p2:Int))=True:=eq_true (by omega)
       have hq:BU u=false:=by rw[hfe];simp[c1,c2]
       rw[hq]at he
       have hh:FH s=true:=by rw[<-he];simp
       rw[hh]
       rcases hcase with ⟨rfl,rfl,rfl⟩|⟨rfl,rfl,rfl⟩
       all_goals
        push_cast[BB hk,g1,g2,hc0,i1,i2,List.length_map,h1,h2]
        exact A0 (by push_cast[CD.rs])
     ·have i1:((4000:Int)<(p1:Int))=True:=eq_true (by omega)
      have hq:BU u=false:=by rw[hfe];simp[c1]
      rw[hq]at he
      have hh:FH s=true:=by rw[<-he];simp
      rw[hh]
      rcases hcase with ⟨rfl,rfl,rfl⟩|⟨rfl,rfl,rfl⟩
      all_goals
       push_cast[BB hk,g1,g2,hc0,i1,List.length_map,h1,h2]
       exact A0 (by push_cast[CD.rs])
    ·intro he
     rw[Ar]at he
     rw[<-he]
     refine A7.2 ?_
     rcases hcase with ⟨rfl,rfl,rfl⟩|⟨rfl,rfl,rfl⟩
     all_goals
      push_cast[AZ (Nat.le_refl _)]
      exact A0 (by push_cast[CD.rs];rfl)
   rcases hcase with ⟨rfl,rfl,rfl⟩|⟨rfl,rfl,rfl⟩
   all_goals
    push_cast[AZ (Nat.le_refl _)]
    exact fin
  ·intro i hi hc
   exfalso
   have:0<eT s rk (s.getD i default).name:=List.countP_pos_iff.2 ⟨_,A4 hi,by simp⟩
   omega
 refine Ad CD.ok rfl ?_
 have hrow:∀ τ,List.map (AN τ) (List.replicate s.length [V.int IntKind.i64 0])=(List.replicate s.length 0).map Xo:=fun τ=>by
  rw[List.map_replicate,List.map_replicate];rfl
 have m1:s.length<=Ai:=by unfold Ai;omega
 have m2:s.length*8<=Ai:=by unfold Ai;omega
 push_cast[hrow,m1,m2]
 exact⟨main 0 1 _ (.inl ⟨rfl,rfl,rfl⟩),main 1 0 _ (.inr ⟨rfl,rfl,rfl⟩)⟩
theorem XJ (l:List A3)(Vs:List A9)(D:Nat)(h:cg l Vs D)(hvs:Vs.length<2^18)(hnm:∀ v∈Vs,v.length<2^62):PF It [As l] (IZ (Ka (l.map (·.left)) (l.map (·.right)))):=by
 obtain⟨n,r,hr⟩:=Ix Vs (l.map (·.left)) (l.map (·.right)) [] C2 (fun _=>0) Gk.nil (fun v t h=>by cases h) (by simp only[List.mem_map];rintro z ⟨x,hx,rfl⟩;exact (h.am x hx).1) (by simp only[List.mem_map];rintro z ⟨x,hx,rfl⟩;exact (h.am x hx).2)
 have hS:=NT hr
 have hlv:=h.len
 have p0:Ay [0,1] 0=some 0:=rfl
 refine Ad EC.ok rfl ?_
 push_cast
 refine Ae (n:=l.length) (R:=fun k=>∀ (s:List A5)(σ:EQ)(rk:A9->Nat)(dn:List Qk),Gk s σ rk->NOk s Vs->WB s->(∀ k∈dn,Qj s k)->dn.Nodup->(∀ k∈dn,k.1∈Vs/\k.2∈Vs) ->
   AF (B3 n) s ((l.map (·.left)).drop k) ((l.map (·.right)).drop k)=some r->EC.L8 (.ptr 0 0) (As l) (.int .i64 l.length) (.int .i64 k) 0 (lA s dn []) (BH 0 EC.rs fun x H'=>x=IZ (Ka (l.map (·.left)) (l.map (·.right)))/\H'=[])) ?_ ?_ 0 (by omega)
  [] C2 (fun _=>0) [] Gk.nil ⟨fun v t h=>(by cases h),hvs,hnm⟩ (fun v t h=>by cases h) (fun k h=>by cases h) List.nodup_nil (fun k h=>by cases h) hr
 ·intro k hk ih s σ rk dn hu hN hwb hdone hdn hdV hsol
  have hme:=A4 hk
  have e1:(l.map (·.left)).getD k default=(l.getD k default).left:=by simp[List.getD_eq_getElem?_getD,hk]
  have e2:(l.map (·.right)).getD k default=(l.getD k default).right:=by simp[List.getD_eq_getElem?_getD,hk]
  rw[Ag (show k<(l.map (·.left)).length by simpa using hk),Ag (show k<(l.map (·.right)).length by simpa using hk),e1,e2]at hsol
  generalize hx:l.getD k default=x at hme hsol
  obtain⟨hal,har⟩:=h.am x hme
  obtain⟨hwl,hwr⟩:=h.wd x hme
  simp only[AF]at hsol
  cases hf:B3 n s x.left x.right with
  | none=>rw[hf]at hsol;cases hsol
  | some p =>
   obtain⟨s1,ok⟩:=p
   rw[hf]at hsol
   obtain⟨σ1,rk1,hok⟩:=FR n s σ rk x.left x.right (s1,ok) hu hal.1 har.1 hf
   have hc:=fE n s σ rk dn x.left x.right (s1,ok) hu hN hwb hal har hwl hwr hf hdone hdn hdV
   refine A7.2 ?_
   push_cast[BB hk,hx]
   refine R5 (J:=[_]) (by push_cast[p0]) hc ?_
   rintro x' s2 dn2 ⟨rfl,hR⟩
   cases ok with
   | false =>
    simp only[Option.some.injEq]at hsol
    have hu2:Ka (l.map (·.left)) (l.map (·.right))=([],false,0):=by unfold Ka;rw[hS,<-hsol];rfl
    push_cast
    rw[hu2]
    exact A0 (by push_cast[EC.rs];rfl)
   | true =>
    obtain⟨rfl,hm1,hm2,hm3⟩:=hR rfl
    push_cast[Co (show k<2^62 by omega)]
    have:=ih s2 σ1 rk1 dn2 hok.ok (hN.solve hal har hf) (hwb.solve hwl hwr hf) (fun k hk=>by
     rcases hm3 k hk with h | h
     ·exact fun θ hθ=>hdone k h θ (hθ.mono hok.ext)
     ·exact h.1) hm1 hm2 hsol
    push_cast at this
    exact this
 ·intro s σ rk dn hu hN hwb hdone hdn hdV hsol
  have e1:(l.map (·.left)).drop l.length=[]:=by rw[List.drop_eq_nil_of_le];simp
  rw[e1]at hsol
  simp only[AF,Option.some.injEq]at hsol
  have hlen:=I3 hu.srt hN.am
  have hsig:=SG hu
  have hL:=gi hu (by omega) hwb
  have hu2:IZ (Ka (l.map (·.left)) (l.map (·.right)))=(if FH s then .tup [B5 [],.bool false,.int .i64 3] else .tup [B5 (DA s),.bool true,.int .i64 0]):=by
   unfold Ka
   rw[hS,<-hsol]
   simp only[Bool.true_eq_false,if_false]
   cases FH s<;>rfl
  rw[hu2]
  refine A7.2 ?_
  push_cast[AZ (Nat.le_refl _)]
  refine .of hL ?_
  cases hh:FH s with
  | true =>
   push_cast
   exact A0 (by push_cast[EC.rs];rfl)
  | false =>
   push_cast
   have hwl:(DA s).length=s.length:=by simp[DA]
   refine Ae (n:=s.length) (R:=fun k=>EC.L3 (.ptr 0 0) (B8 cB 2 4 ((DA s).take k)) (B5 s) (.int .i64 s.length) (.int .i64 k) 0 (lA s dn [.arr Cg 4 k]) _) ?_ ?_ 0 (by omega)
   ·intro k hk ih2
    have hb:=A4 hk
    have hi:=DL hu.srt hb
    obtain⟨m,hn⟩:=hu.need (s.getD k default).term
    have hRs:=Z7 hu (by omega) hwb m (s.getD k default).term hn (hu.vf _ _ hi) (hwb _ _ hi)
    have hge:(DA s).getD k default=⟨(s.getD k default).name,app σ (s.getD k default).term⟩:=by
     unfold DA
     rw[hsig,<-hu.fix _ _ hi]
     simp[List.getD_eq_getElem?_getD,hk]
    have hlt:((DA s).take k).length=k:=by simp[hwl];omega
    rw[Aa (by omega),hge]at ih2
    refine A7.2 ?_
    push_cast[BB hk]
    refine .of hRs ?_
    push_cast[hlt,XW,Um (show k<2^40 by omega) (show 64<=64 by omega),Co (show k<2^62 by omega)]
    push_cast at ih2
    exact ih2
   ·refine A7.2 ?_
    push_cast[AZ (Nat.le_refl _)]
    rw[List.take_of_length_le (by omega)]
    refine A0 ?_
    push_cast[EC.rs]
theorem ZA (t:Term):Dr t<=size t:=by
 induction t using Ah with
 | h t ih =>
 have h1:=Aq t
 have h2:=Ap t.args
 have key:∀ l:List Term,(∀ a∈l,Dr a<=size a)->JO l<=Af l:=by
  intro l
  induction l with
  | nil=>intro _;simp[JO,Af]
  | cons a l ihl =>
   intro h
   have:=h a (by simp)
   have:=ihl fun b hb=>h b (by simp[hb])
   simp only[JO,Af];omega
 have h3:=key t.args ih
 have h4:Dr t=max t.args.length (JO t.args):=by cases t;rfl
 omega
theorem Ub {v:A9}(t:Term):short t=true->CX v t=true->v.length<=24:=by
 induction t using Ah with
 | h t ih =>
 intro h ho
 obtain⟨h1,h2,h3⟩:=C0.1 h
 rcases AO.1 ho with ⟨_,e⟩|⟨a,ha,ho⟩
 ·rw[<-e];exact h1
 ·exact ih a ha (h3 a ha) ho
theorem To {P:Term->Prop}{Q:A9->Prop}(hP:∀ t a,P t->a∈t.args->P a)(hQ:∀ t,P t->t.var=true->Q t.name){n:Nat}:∀ (l m:List Term)(s:List A5)(r:List A5×Bool),(∀ v t,Ac s v=some t->P t/\Q v)->(∀ a∈l,P a)->(∀ b∈m,P b)->AF (B3 n) s l m=some r->∀ v t,Ac r.1 v=some t->P t/\Q v
 | [],m,s,r,hs,_,_,h=>by simp only[AF,Option.some.injEq]at h;subst h;exact hs
 | a::l,[],s,r,hs,_,_,h=>by simp only[AF,Option.some.injEq]at h;subst h;exact hs
 | a::l,b::m,s,r,hs,hl,hm,h=>by
  simp only[AF]at h
  cases hf:B3 n s a b with
  | none=>rw[hf]at h;cases h
  | some p =>
   obtain⟨s1,ok⟩:=p
   rw[hf]at h
   have h1:=JU hP hQ n s a b _ hs (hl a (by simp)) (hm b (by simp)) hf
   cases ok with
   | false=>simp only[Option.some.injEq]at h;subst h;exact h1
   | true=>exact To hP hQ l m s1 r h1 (fun x hx=>hl x (by simp[hx])) (fun x hx=>hm x (by simp[hx])) h
theorem aA {f:EQ}(t:Term):short t=true->(∀ v,CX v t=true->short (f v)=true)->short (app f t)=true:=by
 induction t using Ah with
 | h t ih =>
 intro ht h
 obtain⟨h1,h2,h3⟩:=C0.1 ht
 cases hv:t.var with
 | true=>rw[Av hv];exact h _ (AO.2 (.inl ⟨hv,rfl⟩))
 | false =>
  rw[B7 hv]
  refine C0.2 ⟨h1,(fun e=>by cases e),fun a ha=>?_⟩
  simp only[Term.args,List.mem_map]at ha
  obtain⟨b,hb,rfl⟩:=ha
  exact ih b hb (h3 b hb) fun v hv=>h v (AO.2 (.inr ⟨b,hb,hv⟩))
theorem Gk.short {s:List A5}{σ:EQ}{rk:A9->Nat}(h:Gk s σ rk)(hs:∀ v t,Ac s v=some t->Dw.short t=true)(v:A9):v.length<=24->Dw.short (σ v)=true:=by
 revert v
 refine h.ind fun v ih=>?_
 intro hv
 cases hi:Ac s v with
 | none =>
  rw[h.free v hi]
  exact C0.2 ⟨hv,fun _=>rfl,fun a ha=>by cases ha⟩
 | some t =>
  rw[h.fix v t hi]
  exact aA t (hs v t hi) fun w hw=>ih t w hi hw (Ub t (hs v t hi) hw)
structure C3 (t:Term):Prop where
 sh:short t=true
 sz:size t<=4000
 dp:depth t<=200
theorem C3.vf {t:Term}(h:C3 t):vfl t=true:=Uq t h.sh
theorem C3.tb {t:Term}(h:C3 t):tb t<2^20:=by have:=SN t h.sh;have:=h.sz;omega
theorem C3.of_check {t:Term}(h:DH t=0):C3 t:=by
 obtain⟨h1,h2⟩:=FW.1 h
 unfold BU at h2
 rw[Bool.and_eq_true,decide_eq_true_eq,decide_eq_true_eq]at h2
 exact⟨Ou t h1,h2.1,h2.2⟩
def vs2 (a b:Term):List A9:=DT a++DT b
theorem cD {a b:Term}(ha:C3 a)(hb:C3 b):(vs2 a b).length<=8000:=by
 have h1:=II a []
 have h2:=II b []
 have h3:=ha.sz
 have h4:=hb.sz
 unfold vs2
 rw[List.length_append]
 have e1:DT a=DD [] a:=rfl
 have e2:DT b=DD [] b:=rfl
 rw[e1,e2]
 simp only[List.length_nil]at h1 h2
 omega
theorem KP {a b:Term}{w:A9}:w∈vs2 a b↔CX w a=true\/CX w b=true:=by
 unfold vs2
 rw[List.mem_append]
 have h1:=FA w a []
 have h2:=FA w b []
 simp only[List.not_mem_nil,false_or]at h1 h2
 exact or_congr h1 h2
theorem gM {a b:Term}(ha:C3 a)(hb:C3 b):cg [⟨a,b⟩] (vs2 a b) 200:=by
 have hl:=cD ha hb
 have h1:=ZA a
 have h2:=ZA b
 have h3:=ha.sz
 have h4:=hb.sz
 refine⟨fun x hx=>?_,fun x hx=>?_,fun x hx=>?_,by omega,by omega,by simp⟩
 all_goals rw[List.mem_singleton.1 hx]
 ·exact⟨⟨ha.vf,fun w hw=>KP.2 (.inl hw)⟩,⟨hb.vf,fun w hw=>KP.2 (.inr hw)⟩⟩
 ·exact⟨by show Dr a<_;omega,by show Dr b<_;omega⟩
 ·exact⟨ha.dp,hb.dp⟩
theorem ZM {a b:Term}(ha:C3 a)(hb:C3 b):∀ v∈vs2 a b,v.length<=24:=fun v hv=>by
 rcases KP.1 hv with h | h
 ·exact Ub a ha.sh h
 ·exact Ub b hb.sh h
noncomputable abbrev F5 (a b:Term):List A5×Bool×Int:=Ka [a] [b]
theorem bl {a b:Term}(ha:C3 a)(hb:C3 b):PF JF [As [⟨a,b⟩]] (IZ (F5 a b)):=Zh _ _ _ (gM ha hb)
theorem XZ {a b:Term}(ha:C3 a)(hb:C3 b):PF It [As [⟨a,b⟩]] (IZ (F5 a b)) :=
 XJ _ _ _ (gM ha hb) (by have:=cD ha hb;omega) fun v hv=>by have:=ZM ha hb v hv;omega
structure Aeq (a b:Term) (s:List A5):Prop where
 srt:CK s
 len:s.length<=8000
 sh:∀ x∈s,short x.term=true/\size x.term<=4000/\x.name.length<=24
 bb:YO s<2^34
theorem Acu {s:List A5}{m:Nat}(h:∀ x∈s,1+x.name.length+tb x.term<=m):YO s<=s.length*m:=by
 induction s with
 | nil=>simp[YO]
 | cons x s ih =>
  have h1:=h x (by simp)
  have h2:=ih fun y hy=>h y (by simp[hy])
  simp only[YO,List.length_cons,Nat.succ_mul];omega
theorem S5 (a b:Term):(F5 a b).2.2=0\/((F5 a b).2.2=3/\(F5 a b).2.1=false):=by
 unfold F5 Ka
 split
 ·exact .inl rfl
 ·split
  ·exact .inr ⟨rfl,rfl⟩
  ·exact .inl rfl
theorem gS {a b:Term}(ha:C3 a)(hb:C3 b)(h:(F5 a b).2.1=true):Aeq a b (F5 a b).1/\(F5 a b).2.2=0/\(F5 a b).1=DA (HN [a] [b]).1:=by
 obtain⟨n,r,hr⟩:=Ix (vs2 a b) [a] [b] [] C2 (fun _=>0) Gk.nil (fun v t h=>by cases h) (fun z hz=>by rw[List.mem_singleton.1 hz];exact⟨ha.vf,fun w hw=>KP.2 (.inl hw)⟩) (fun z hz=>by rw[List.mem_singleton.1 hz];exact⟨hb.vf,fun w hw=>KP.2 (.inr hw)⟩)
 have hS:=NT hr
 obtain⟨rk,hu,ham,_,_⟩:=aT (Vs:=vs2 a b) (l:=[a]) (m:=[b]) (fun z hz=>by rw[List.mem_singleton.1 hz];exact⟨ha.vf,fun w hw=>KP.2 (.inl hw)⟩) (fun z hz=>by rw[List.mem_singleton.1 hz];exact⟨hb.vf,fun w hw=>KP.2 (.inr hw)⟩) rfl
 have hk:=To (P:=fun t=>short t=true) (Q:=fun _=>True) (fun t a h ha=>(C0.1 h).2.2 a ha) (fun _ _ _=>trivial) [a] [b] [] r (fun v t h=>by cases h) (fun z hz=>by rw[List.mem_singleton.1 hz];exact ha.sh) (fun z hz=>by rw[List.mem_singleton.1 hz];exact hb.sh) hr
 rw[<-hS]at hk
 unfold F5 Ka at h ⊢
 generalize HN [a] [b]=q at h hu ham hk
 by_cases c1:q.2=false
 ·rw[if_pos c1]at h;cases h
 ·rw[if_neg c1]at h ⊢
  by_cases c2:FH q.1=true
  ·rw[if_pos c2]at h;cases h
  ·rw[if_neg c2]
   have hlen:=I3 hu.srt ham
   have hv2:=cD ha hb
   have hmem:∀ x∈DA q.1,short x.term=true/\size x.term<=4000/\x.name.length<=24:=by
    intro x hx
    unfold DA at hx
    obtain⟨y,hy,rfl⟩:=List.mem_map.1 hx
    have hi:=DL hu.srt hy
    have hnm:y.name.length<=24:=ZM ha hb _ (ham _ _ hi).2
    refine⟨hu.short (fun v t h=>(hk v t h).1) y.name hnm,?_,hnm⟩
    have c3:FH q.1=false:=by simpa using c2
    unfold FH at c3
    rw[List.any_eq_false]at c3
    have:=c3 y hy
    unfold BU at this
    simp only[Bool.not_eq_true,Bool.not_eq_false',Bool.not_not,Bool.and_eq_true,decide_eq_true_eq]at this
    exact this.1
   have hwl:(DA q.1).length=q.1.length:=by simp[DA]
   refine⟨⟨?_,by rw[hwl];omega,hmem,?_⟩,rfl,rfl⟩
   ·unfold DA CK
    rw[List.pairwise_map]
    exact hu.srt
   ·have h1:=Acu (s:=DA q.1) (m:=100100) fun x hx=>by
     obtain⟨e1,e2,e3⟩:=hmem x hx
     have:=SN x.term e1
     omega
    have h2:(DA q.1).length*100100<=8000*100100:=Nat.mul_le_mul_right _ (by rw[hwl];omega)
    show YO (DA q.1)<2^34
    omega
theorem dW:∀ (k n:Nat),n<10^(k+1)->(IS n).length<=k+1
 | 0,n,h=>by unfold IS Lib.decDigits;rw[dif_pos (by simpa using h)];simp
 | k+1,n,h=>by
  unfold IS Lib.decDigits
  split
  ·simp
  ·have:=dW k (n / 10) (by rw[Nat.pow_succ]at h;omega)
   unfold IS at this
   simp only[List.length_append,List.length_singleton];omega
theorem wt {l:List A9}{v:A9}{j:Nat}(h:Fa l v=some j):j<l.length:=by
 induction l generalizing j with
 | nil=>cases h
 | cons x l ih =>
  simp only[Fa]at h
  split at h
  ·cases h;simp
  ·cases hq:Fa l v with
   | none=>rw[hq]at h;cases h
   | some i =>
    rw[hq]at h;cases h
    have:=ih hq
    simp;omega
theorem nS {f:EQ}(hf:∀ v,∃ w,f v=C2 w)(t:Term):vfl t=true->size (app f t)=size t/\depth (app f t)=depth t:=by
 induction t using Ah with
 | h t ih =>
 intro ht
 cases hv:t.var with
 | true =>
  rw[Av hv]
  obtain⟨w,hw⟩:=hf t.name
  rw[hw,QV ht hv];exact⟨rfl,rfl⟩
 | false =>
  have key:∀ l:List Term,(∀ a∈l,a∈t.args)->Af (l.map (app f))=Af l/\Bg (l.map (app f))=Bg l:=by
   intro l
   induction l with
   | nil=>intro _;exact⟨rfl,rfl⟩
   | cons a l ihl =>
    intro hl
    have h1:=ih a (hl a (by simp)) (BR ht (hl a (by simp)))
    have h2:=ihl fun b hb=>hl b (by simp[hb])
    simp only[List.map_cons,Af,Bg,h1,h2,and_self]
  have h3:=key t.args fun _ h=>h
  have e1:=Aq t
  have e2:=EL t
  rw[B7 hv]
  have e3:size (Term.mk t.name false (t.args.map (app f)))=1+Af (t.args.map (app f)):=rfl
  have e4:depth (Term.mk t.name false (t.args.map (app f)))=Bg (t.args.map (app f))+1:=rfl
  omega
theorem dF {pre:A9}(hp:pre.length=1){l:List A9}(hl:l.length<=4000){t:Term}(ht:C3 t)(hs:RZ l t):C3 (app (Nh pre l) t):=by
 have h1:=nS (f:=Nh pre l) (fun v=>⟨_,rfl⟩) t ht.vf
 refine⟨aA t ht.sh fun v hv=>?_,by rw[h1.1];exact ht.sz,by rw[h1.2];exact ht.dp⟩
 unfold Nh
 cases hq:Fa l v with
 | none=>exact absurd (hs v hv) (Le.1 hq)
 | some j =>
  have h2:=wt hq
  have h3:=dW 3 j (by omega)
  exact C0.2 ⟨by show (pre++IS j).length<=24;rw[List.length_append];omega,fun _=>rfl,fun a ha=>by cases ha⟩
structure IM (x:A3):Prop where
 l:C3 x.left
 r:C3 x.right
 v:∀ v,CX v x.right=true->CX v x.left=true
theorem Ld {pre:A9}(hp:pre.length=1){x:A3}(h:IM x):IM (Cn pre x):=by
 have hl:(AG [] x.left).length<=4000:=by have:=Ql x.left [];have:=h.l.sz;simp only[List.length_nil]at *;omega
 have hs:=(HO x.left []).2 h.l.vf
 have hs2:RZ (AG [] x.left) x.right:=fun v hv=>hs v (h.v v hv)
 refine⟨dF hp hl h.l hs,dF hp hl h.r hs2,fun v hv=>?_⟩
 obtain⟨w,h1,h2⟩:=(Tq x.right h.r.vf).1 hv
 exact (Tq x.left h.l.vf).2 ⟨w,h.v w h1,h2⟩
theorem RP (p:List Int)(hp:p.length<2^40):PF Ak [D0 p] (D0 p):=by
 refine Ad Bn.ok rfl ?_
 push_cast
 intro c hc
 refine⟨fun h=>?_,fun h=>⟨by rw[List.length_map];unfold Ai;omega,?_⟩⟩
 ·have hp0:p=[]:=by simpa using hc (by cases c<;>simp_all)
  subst hp0
  exact A0 (by push_cast[Bn.rs];rfl)
 ·exact A0 (by push_cast[Bn.rs];rfl)
theorem aa {N:Nat->C}{B:Nat}{k:List K}{t:T}{Q:X->T->List Ob->Prop}{dd:Option Nat}{l:List S}(H:List Ob)(k':Ax prog N B (.r l::k) (Fd dd (.fn (.func Dt) [] [.ptr (H.length+1) 0]) t) (pw H [] []) Q):Bl prog N B dd l k t Q (.func FF) [] H:=by
 refine Bl.some [] (by simp) (by simp) (R:=fun x' H'=>x'=.fn (.func Dt) [] [.ptr 1 0]/\H'=nH []) ?_ ?_
 ·exact AT▸VV
 rintro x' H' ⟨rfl,rfl⟩ _
 have h0:∀ n,BG [] n 0=some n:=fun n=>rfl
 have h1:∀ n,BG [] n 1=some (n+1):=fun n=>rfl
 have e:takeB [] H (nH [])=pw H [] []:=by
  unfold takeB
  have e1:Qa [] H ((nH []).map (A6 (BG [] H.length)))=H:=by
   unfold Qa
   apply List.ext_getElem?
   intro i
   by_cases hi:i<H.length
   ·simp[Ay,hi,List.getD_eq_getElem?_getD]
   ·simp[hi]
  rw[e1]
  push_cast[h0]
  rfl
 rw[e]
 push_cast[h1]at k' ⊢
 exact k'
abbrev ovZ:List V:=[.int .i64 0,.int .i64 0,.sl 1 [],.str [],.bool false,.sl 3 [],.str [],.bool false,.sl 3 [],.str [],.bool false,.sl 3 []]
abbrev zz (W:Term):List Ob:=[.cells DY ovZ,.dead,.dead,.cells A2 (cT W)]
theorem MB (z:Term):AN (Ay [4,5]) [An z,V.ptr 5 0]=[An z,V.ptr 1 0]:=by
 have q5:Ay [4,5] 5=some 1:=rfl
 push_cast[q5]
structure FM where
 outer:Int
 inner:Int
 pos:List Int
 peak:Term
 left:Term
 right:Term
def Ac7:FM:=⟨0,0,[],yN,yN,yN⟩
def Wq (o:FM):List V:=[.int .i64 o.outer,.int .i64 o.inner,D0 o.pos]++cT o.peak++cT o.left++cT o.right
def aj (o:FM):V:=.agg (Wq o)
theorem mX {σ:Nat->Option Nat}(o:FM):ren σ (aj o)=aj o:=rfl
noncomputable def E8 (a b:A3)(pos:List Int)(sub:Term):Bool×Int :=
 if (F5 sub b.left).2.1=false then (false,(F5 sub b.left).2.2)
 else if (BU (Aw (F5 sub b.left).1 a.left)&&(BU (Aw (F5 sub b.left).1 a.right)&&BU (Aw (F5 sub b.left).1 b.right)))=false then (false,3)
 else if BU (ID (Aw (F5 sub b.left).1 a.left) pos (Aw (F5 sub b.left).1 b.right))=false then (false,3) else (true,0)
noncomputable def ovO (a b:A3)(pos:List Int)(sub:Term):FM :=
 if (E8 a b pos sub).1 then
  let s:=(F5 sub b.left).1
  let p:=Hd [120] [] (Aw s a.left)
  let q:=Hd [120] p.1 (Aw s a.right)
  ⟨0,0,pos,p.2,q.2,(Hd [120] q.1 (ID (Aw s a.left) pos (Aw s b.right))).2⟩
 else Ac7
theorem Z6 {a b:A3}(ha:IM a)(hb:IM b){pos:List Int}(hpos:pos.length<2^20){sub:Term}(hsub:C3 sub) :
  PF MY [Oh a,Oh b,D0 pos,An sub] (.tup [aj (ovO a b pos sub),.bool (E8 a b pos sub).1,.int .i64 (E8 a b pos sub).2]):=by
 have hU:=bl hsub hb.l
 have hE:=S5 sub b.left
 have hO:=gS hsub hb.l
 unfold ovO E8
 generalize hu:F5 sub b.left=u at hU hE hO
 obtain⟨s,ok,e⟩:=u
 simp only at hE hO
 refine Ad EA.ok rfl ?_
 push_cast
 refine .of hU ?_
 cases ok with
 | false =>
  simp only[if_true,Bool.false_eq_true,if_false]
  rcases hE with rfl | ⟨rfl,_⟩
  ·push_cast[IZ]
   exact A0 (by push_cast[EA.rs];rfl)
  ·push_cast[IZ]
   exact A0 (by push_cast[EA.rs];rfl)
 | true =>
  obtain⟨hs,rfl,_⟩:=hO rfl
  have hI1:=Jk s hs.srt hs.bb a.left (by have:=ha.l.tb;omega)
  have hI2:=Jk s hs.srt hs.bb a.right (by have:=ha.r.tb;omega)
  have hI3:=Jk s hs.srt hs.bb b.right (by have:=hb.r.tb;omega)
  simp only[Bool.true_eq_false,if_false]
  clear hU hE hO hu
  by_cases hf:(BU (Aw s a.left)&&(BU (Aw s a.right)&&BU (Aw s b.right)))=false
  ·rw[if_pos hf]
   simp only[Bool.false_eq_true,if_false]
   cases f1:BU (Aw s a.left)<;>cases f2:BU (Aw s a.right)<;>cases f3:BU (Aw s b.right)
   case true.true.true=>rw[f1,f2,f3]at hf;cases hf
   all_goals
    rw[f1]at hI1
    rw[f2]at hI2
    rw[f3]at hI3
    simp only[Bool.false_eq_true,if_false,if_true,I2]at hI1 hI2 hI3
    push_cast[IZ]
    refine .of hI1 ?_
    push_cast
    refine .of hI2 ?_
    push_cast
    refine .of hI3 ?_
    push_cast
    exact A0 (by push_cast[EA.rs];rfl)
  ·rw[if_neg hf]
   have hf2:BU (Aw s a.left)=true/\BU (Aw s a.right)=true/\BU (Aw s b.right)=true:=by simpa using hf
   obtain⟨f1,f2,f3⟩:=hf2
   rw[f1]at hI1
   rw[f2]at hI2
   rw[f3]at hI3
   simp only[if_true,I2]at hI1 hI2 hI3
   have z1:size (Aw s a.left)<=4000:=by unfold BU at f1;simp at f1;exact f1.1
   have z2:size (Aw s a.right)<=4000:=by unfold BU at f2;simp at f2;exact f2.1
   have z3:size (Aw s b.right)<=4000:=by unfold BU at f3;simp at f3;exact f3.1
   have hSet:=kj pos (Aw s a.left) (Aw s b.right) (by omega) (by omega) (by omega)
   have z4:=UK pos (Aw s a.left) (Aw s b.right)
   have hFit:=Xd (ID (Aw s a.left) pos (Aw s b.right)) (by omega)
   generalize Aw s a.left=P at *
   generalize Aw s a.right=L at *
   generalize Aw s b.right=R at *
   generalize ID P pos R=W at *
   push_cast[IZ]
   refine .of hI1 ?_
   push_cast
   refine .of hI2 ?_
   push_cast
   refine .of hI3 ?_
   push_cast
   refine .of hSet ?_
   push_cast
   refine .of hFit ?_
   cases f4:BU W with
   | false =>
    push_cast[I2]
    exact A0 (by push_cast[EA.rs];rfl)
   | true =>
    push_cast[I2]
    have hC:=RP pos (by omega)
    have r1:=Nz [120] P []
    have r2:=Nz [120] L (Hd [120] [] P).1
    simp only[List.length_nil]at r1
    have hN1:=Ez [] P (by simp;omega)
    have hN2:=Ez (Hd [120] [] P).1 L (by omega)
    have hN3:=Ez (Hd [120] (Hd [120] [] P).1 L).1 W (by omega)
    generalize Hd [120] [] P=P' at *
    generalize Hd [120] P'.1 L=L' at *
    generalize Hd [120] L'.1 W=W' at *
    refine aa _ ?_
    push_cast
    refine .of hC ?_
    push_cast
    refine⟨?_,?_⟩
    ·refine FK (zz W) [] (MB P) (AT▸hN1) ?_
     push_cast
     refine⟨?_,?_⟩
     ·refine FK (zz W) [] (MB L) (AT▸hN2) ?_
      push_cast
      refine FK (zz W) [] (MB W) (AT▸hN3) ?_
      push_cast
      exact A0 (by push_cast[EA.rs];rfl)
     ·refine FK (zz W) [] (MB L) (AT▸hN2) ?_
      push_cast
      refine FK (zz W) [] (MB W) (AT▸hN3) ?_
      push_cast
      exact A0 (by push_cast[EA.rs];rfl)
    ·refine FK (zz W) [] (MB P) (AT▸hN1) ?_
     push_cast
     refine FK (zz W) [] (MB L) (AT▸hN2) ?_
     push_cast
     refine FK (zz W) [] (MB W) (AT▸hN3) ?_
     push_cast
     exact A0 (by push_cast[EA.rs];rfl)
def cap (n:Nat):Nat:=if n<1099511627776 then n else 1099511627776
theorem N5 (m:A1)(hs:AV m<2^40):PF J8 [Be m,Be m] (.bool true):=by
 induction m using Ek with
 | h m ih =>
 have hst:=Bj m
 have hll:=Ca m.args
 refine Ad PR.ok rfl ?_
 have e:∀ x:Bool,(x != x)=false:=fun x=>by cases x<;>rfl
 push_cast[e]
 refine Ae (n:=m.args.length) (R:=fun k=>PR.L3 (.ro (cM m) 0) (.ro (cM m) 0) (.int .i64 m.args.length) (.int .i64 k) 0 [] (BH 0 PR.rs fun x' H'=>x'=.bool true/\H'=[])) ?_ ?_ 0 (by omega)
 ·intro k hk ih2
  have hmm:=A4 hk
  have hm2:=DU hmm
  refine A7.2 ?_
  push_cast[BB hk]
  refine .of (ih _ hmm (by omega)) ?_
  push_cast[BB hk,Co (show k<2^62 by omega)]
  exact ih2
 ·refine A7.2 ?_
  push_cast[AZ (Nat.le_refl _)]
  exact A0 (by push_cast[PR.rs])
mutual
def nq (v:A9):Term->List (List Int)
 | .mk n b l=>(if b&&decide (n=v) then [[]] else [])++ap v l 0
def ap (v:A9):List Term->Nat->List (List Int)
 | [],_=>[]
 | a::l,i=>(nq v a).map ((i:Int)::·)++ap v l (i+1)
end
theorem dH (v:A9)(a b:List (List Int×Term)):JX v (a++b)=JX v a++JX v b:=by unfold JX;rw[List.filter_append,List.map_append]
mutual
theorem Yg (v:A9):∀ (t:Term)(p:List Int),JX v (Ab t p)=(nq v t).map (p++·)
 | .mk n b l,p=>by
  have h:=Vb v l p 0
  have h1:JX v ((p,Term.mk n b l)::Bb l p 0)=(if b&&decide (n=v) then [p] else [])++JX v (Bb l p 0):=by
   unfold JX
   rw[List.filter_cons]
   show List.map Prod.fst (if (b&&decide (n=v))=true then _ else _)=_
   split<;>simp
  simp only[Ab,nq,h1,h,List.map_append]
  congr 1
  split<;>simp
theorem Vb (v:A9):∀ (l:List Term)(p:List Int)(i:Nat),JX v (Bb l p i)=(ap v l i).map (p++·)
 | [],p,i=>rfl
 | a::l,p,i=>by
  simp only[Bb,ap,dH,Yg v a,Vb v l p (i+1),List.map_append,List.map_map]
  congr 1
  apply List.map_congr_left
  intro q _;simp
end
theorem cF (t:Term)(v:A9):FJ t v=nq v t:=by
 unfold FJ
 rw[Yg]
 simp
mutual
theorem NJ (v:A9):∀ t:Term,CX v t=true->nq v t≠[]
 | .mk n b l,h=>by
  simp only[CX,Bool.or_eq_true]at h
  simp only[nq]
  rcases h with h | h
  ·rw[if_pos h];simp
  ·have:=WJ v l 0 h
   simp[this]
theorem WJ (v:A9):∀ (l:List Term)(i:Nat),ER v l=true->ap v l i≠[]
 | [],i,h=>by cases h
 | a::l,i,h=>by
  simp only[ER,Bool.or_eq_true]at h
  simp only[ap]
  rcases h with h | h
  ·have:=NJ v a h
   simp[this]
  ·have:=WJ v l (i+1) h
   simp[this]
end
def WC:A1->List Int->A1
 | m,[]=>m
 | m,i::p=>WC (m.args.getD i.toNat default) p
theorem IE (t:Term):(AD [t]).Nodup:=by
 have h2:(HV [] [t]).Nodup:=by
  show (Ra [] (Ab t [])).Nodup
  exact XH _ _ List.nodup_nil
 exact (List.mergeSort_perm _ _).nodup_iff.2 h2
theorem qt {vars:List A9}(hn:vars.Nodup){k:Nat}(hk:k<vars.length):XM (vars.getD k default) vars=k:=by
 obtain⟨i1,i2,i3⟩:=KK (A4 hk)
 generalize hv:vars.getD k default=v at i1 i2 i3 ⊢
 rw[List.getD_eq_getElem?_getD,List.getElem?_eq_getElem hk,Option.getD_some]at hv
 rw[List.getD_eq_getElem?_getD,List.getElem?_eq_getElem i2,Option.getD_some]at i3
 exact (List.getElem_inj hn).1 (i3.trans hv.symm)
def Py (s:List A5)(n:A9):Term:=(Ac s n).getD (.mk n true [])
mutual
def Kj (vars:List A9)(x:List A1):Term->A1
 | .mk n v l=>if v then x.getD (XM n vars) default else .mk 0 n false (Wk vars x l)
def Wk (vars:List A9)(x:List A1):List Term->List A1
 | []=>[]
 | a::l=>Kj vars x a::Wk vars x l
end
theorem gG (vars:List A9)(x:List A1)(l:List Term):Wk vars x l=l.map (Kj vars x):=by induction l with | nil=>rfl | cons a l ih=>simp[Wk,ih]
theorem aD (vars:List A9)(x:List A1)(t:Term):Kj vars x t=if t.var then x.getD (XM t.name vars) default else .mk 0 t.name false (t.args.map (Kj vars x)):=by cases t;simp only[Kj,gG,Term.name,Term.var,Term.args];rfl
theorem tl {l:List Int}{v:Int}:(.sl 1 (l.map cI++[[V.int .i64 v]]):V)=D0 (l++[v]):=by simp[Dp,cI]
theorem de (vars:List A9)(x:List A1)(hva:vars.length<=x.length)(hl:vars.length<2^40)(t:Term)(ht:size t<2^40)(ho:∀ v,CX v t=true->v∈vars):PF KC [An t,C7 vars,Fk x] (Be (Kj vars x t)):=by
 induction t using Ah with
 | h t ih =>
 have hst:=Aq t
 have hll:=Ap t.args
 refine Ad LT.ok rfl ?_
 rw[aD]
 cases hv:t.var with
 | true =>
  obtain⟨h1,h2,h3⟩:=KK (ho _ (fq hv))
  have hI:=Fv vars t.name (by omega)
  rw[h1]at hI
  have hlt:((XM t.name vars:Int)<(x.length:Int))=True:=eq_true (by omega)
  push_cast[hv]
  refine .of hI ?_
  push_cast[hlt]
  exact A0 (by push_cast[LT.rs])
 | false =>
  push_cast[hv]
  refine Ae (n:=t.args.length) (R:=fun k=>LT.L3 (C7 vars) (Fk x) (.ptr 0 0) (.ptr 1 0) (Bk t.args) (.int .i64 t.args.length) (.int .i64 k) 0 [.cells A8 [.int .i64 0,.str [],.bool false,.sl 4 []],.cells A8 [.int .i64 0,.str t.name,.bool false,B8 cM 2 4 ((t.args.take k).map (Kj vars x))],.arr A8 4 k] _) ?_ ?_ 0 (by omega)
  ·intro k hk ih2
   have hm:=A4 hk
   have hm2:=B4 hm
   have hlen:((t.args.take k).map (Kj vars x)).length=k:=by simp;omega
   rw[Aa hk,List.map_append,List.map_singleton]at ih2
   refine A7.2 ?_
   push_cast[BB hk]
   refine .of (ih _ hm (by omega) fun v hv2=>ho v (ly hm hv2)) ?_
   push_cast[hlen,Co (show k<2^62 by omega)]
   exact⟨by unfold Ai;omega,ih2⟩
  ·refine A7.2 ?_
   push_cast[AZ (Nat.le_refl _)]
   refine A0 ?_
   push_cast[LT.rs,List.take_length,ZC]
   try rfl
theorem F2 {σ:Nat->Option Nat}{l:List A1}:(l.map cM).map (AN σ)=l.map cM:=by rw[List.map_map];rfl
namespace Aet
end Aet
namespace cps
end cps
theorem Qn (t:Term):0<size t:=by have:=Aq t;omega
theorem rA (t:Term)(v:A9):FJ t v=(DZ t).filter fun p=>match Bt t p with | some x=>x.var&&decide (x.name=v) | none=>false:=by
 unfold FJ JX
 have h1:=Jh t []
 simp only[List.nil_append,List.map_id']at h1
 rw[<-h1,List.filter_map]
 congr 1
 apply List.filter_congr
 intro x hx
 obtain⟨q,hq,hs⟩:=Lz t [] x hx
 rw[List.nil_append]at hq
 simp only[Function.comp,hq,hs,xw]
theorem aq {r:List A3}{f:A3->Term}{m:A1}(h:(MX r f m).2=0):LF r m=0/\BU (Az r f m)=true/\MX r f m=(some (Az r f m),0):=by
 unfold MX at h ⊢
 split at h
 ·rename_i h1;exact absurd h h1
 ·rename_i h1
  rw[if_neg h1]
  split at h
  ·rename_i h2
   rw[if_pos h2]
   exact⟨Classical.not_not.1 h1,h2,rfl⟩
  ·cases h
namespace YR
def nd:Nat->C
 | 0=>.R [.E 154 4 17,.K 4 6 154] (.ret)
 | 1=>.gh [.ks 7 [3,4,5,6,12,17,104,105,106]] (.m 7)
 | 2=>.gh [.ks 8 [3,4,5,6,12,17,20,104,105,106,112,113,114]] (.m 5)
 | 3=>.R [.A 143 21,.X 144 .eql 143 0] (.W 144 (.reg [.E 145 4 25,.K 4 20 145]) (.skip))
 | 4=>.seq (.blk 7 (.R [.A 116 114,.G 117 1 112 114,.B 118 117,.A 21 116,.A 22 118] (.R [.E 120 3 4,.A 121 22,.U 122 RR [.s 120,.s 121],.A 119 122,.F 123 119 0,.F 124 119 1,.al 23 A2 CR,.L 23 3 123,.A 24 124] (.seq (.dr [0,1,2,3,4,5] [.B 125 3,.E 126 3 23,.B 127 5,.A 128 22,.bs 129 1 [.s 127,.s 128],.U 130 Ce [.s 129],.alt [([6,7,8],[.call (some 131) Aj [.s 125,.s 126,.s 130],.al 25 A8 KZ,.L 25 4 131]),([7,6,8],[.al 25 A8 KZ,.call (some 131) Aj [.s 125,.s 126,.s 130],.L 25 4 131])]]) (.seq (.R [.A 132 21,.X 133 .gtr 132 0,.A 134 133,.P 134 true [135,136,137,138] [.E 135 4 20,.E 136 4 25,.U 137 Hj [.s 135,.s 136],.Q 138 137],.N 139 134 138] (.W 139 (.reg [.B 140 3,.nc 141 (.s 140),.D 142 2 141,.st 1 (.s 142) (.c (.bool true))]) (.skip))) (.n 3)))))) (.reg [.X 146 .add 114 1,.A 114 146])
 | 5=>.R [.V 115 .lss 114 113] (.seq (.W 115 (.skip) (.exit 6)) (.n 4))
 | 6=>.seq (.blk 5 (.R [.G 108 1 104 106,.B 109 108,.A 19 109] (.R [.al 20 A8 KZ] (.seq (.R [.E 110 3 12,.A 111 19,.U 112 Ha [.s 110,.s 111],.Y 113 112,.mv 114 (.i 0)] (.J 6 2)) (.reg [.D 147 3 17,.B 148 147,.E 149 4 20,.bs 150 4 [.s 149],.app 151 A8 4 56 (.s 148) (.s 150),.D 152 3 17,.K 1 152 151]))))) (.reg [.X 153 .add 106 1,.A 106 153])
 | 7=>.R [.V 107 .lss 106 105] (.seq (.W 107 (.skip) (.exit 4)) (.n 6))
 | 8=>.R [.D 98 0 7,.B 99 98,.X 100 .add 99 1,.bd 101 [.int .i64 0,.str [],.bool false,.nil] [(0,1,(.s 100))],.al 17 A8 [.int .i64 0,.str [],.bool false,.nil],.K 4 17 101,.ono A8 4 3 (.s 17)] (.seq (.R [.E 102 3 12,.bs 103 3 [.s 102],.U 104 CN [.s 103],.Y 105 104,.mv 106 (.i 0)] (.J 4 1)) (.n 0))
 | 9=>.blk 3 (.seq (.dr [0,1,2,3,4] [.B 76 3,.B 77 5,.A 78 13,.bs 79 1 [.s 77,.s 78],.U 80 Ce [.s 79],.alt [([5,6,7,8,9,10,11],[.call (some 81) E6 [.s 76,.s 80],.A 75 81,.F 82 75 0,.F 83 75 1,.al 15 DN [.int .i64 0,.sl 1 []],.L 15 2 82,.A 16 83]),([9,5,6,7,8,10,11],[.al 15 DN [.int .i64 0,.sl 1 []],.call (some 81) E6 [.s 76,.s 80],.A 75 81,.F 82 75 0,.F 83 75 1,.L 15 2 82,.A 16 83])]]) (.R [.A 84 16,.A 85 84,.P 85 true [86,87,88] [.D 86 1 14,.B 87 86,.Q 88 87],.N 89 85 88,.A 90 89,.P 90 true [91,92,93] [.A 91 13,.Y 92 91,.X 93 .gtr 92 0],.N 94 90 93] (.W 94 (.reg [.B 95 3,.nc 96 (.s 95),.D 97 2 96,.st 1 (.s 97) (.c (.bool true))]) (.skip))))
 | 10=>.seq (.dr [0,1,2,3,4,5,6,7,8,9,10] [.B 62 3,.nc 63 (.s 62),.D 64 0 63,.B 65 64,.D 66 0 7,.B 67 66,.G 68 6 65 67,.D 69 0 68,.E 70 3 69,.al 12 A2 CR,.L 12 3 70]) (.seq (.R [.E 71 3 12,.U 72 EE [.s 71]] (.blk 2 (.rf (.s 72) [73,74] (.R [.A 13 73] (.reg [.al 14 A2 CR,.L 14 3 74])) (.m 9)))) (.n 8))
 | 11=>.R [.E 61 4 9,.K 4 6 61] (.ret)
 | 12=>.gh [.ks 5 [3,5,6,9,40,41,42]] (.m 14)
 | 13=>.seq (.blk 1 (.R [.A 44 42,.G 45 3 40 42,.E 46 3 45,.al 11 A2 CR,.A 10 44,.L 11 3 46] (.dr [3,4,6,7] [.lar 50 3 (.s 11),.ldr 51 (.s 5),.A 53 10,.bs 54 1 [.s 53],.alt [([0],[.D 47 3 9,.alt [([1],[.B 48 47,.alt [([2,5,8,9,10,11,12,13],[.B 49 3,.call (some 52) Ak [.s 51],.app 55 t_int 1 8 (.s 52) (.s 54),.call (some 56) Aj [.s 49,.s 50,.s 55],.bs 57 4 [.s 56],.app 58 A8 4 56 (.s 48) (.s 57),.D 59 3 9,.K 1 59 58]),([5,2,8,9,10,11,12,13],[.call (some 52) Ak [.s 51],.B 49 3,.app 55 t_int 1 8 (.s 52) (.s 54),.call (some 56) Aj [.s 49,.s 50,.s 55],.bs 57 4 [.s 56],.app 58 A8 4 56 (.s 48) (.s 57),.D 59 3 9,.K 1 59 58])]]),([2],[.B 49 3,.alt [([1,5,8,9,10,11,12,13],[.B 48 47,.call (some 52) Ak [.s 51],.app 55 t_int 1 8 (.s 52) (.s 54),.call (some 56) Aj [.s 49,.s 50,.s 55],.bs 57 4 [.s 56],.app 58 A8 4 56 (.s 48) (.s 57),.D 59 3 9,.K 1 59 58]),([5,8],[.call (some 52) Ak [.s 51],.app 55 t_int 1 8 (.s 52) (.s 54),.alt [([1,9,10,11,12,13],[.B 48 47,.call (some 56) Aj [.s 49,.s 50,.s 55],.bs 57 4 [.s 56],.app 58 A8 4 56 (.s 48) (.s 57),.D 59 3 9,.K 1 59 58]),([9,1,10,11,12,13],[.call (some 56) Aj [.s 49,.s 50,.s 55],.B 48 47,.bs 57 4 [.s 56],.app 58 A8 4 56 (.s 48) (.s 57),.D 59 3 9,.K 1 59 58])]])]]),([5,2,8],[.call (some 52) Ak [.s 51],.B 49 3,.app 55 t_int 1 8 (.s 52) (.s 54),.alt [([1,9,10,11,12,13],[.B 48 47,.call (some 56) Aj [.s 49,.s 50,.s 55],.bs 57 4 [.s 56],.app 58 A8 4 56 (.s 48) (.s 57),.D 59 3 9,.K 1 59 58]),([9,1,10,11,12,13],[.call (some 56) Aj [.s 49,.s 50,.s 55],.B 48 47,.bs 57 4 [.s 56],.app 58 A8 4 56 (.s 48) (.s 57),.D 59 3 9,.K 1 59 58])]])]]),([2],[.B 49 3,.alt [([0],[.D 47 3 9,.alt [([1,5,8,9,10,11,12,13],[.B 48 47,.call (some 52) Ak [.s 51],.app 55 t_int 1 8 (.s 52) (.s 54),.call (some 56) Aj [.s 49,.s 50,.s 55],.bs 57 4 [.s 56],.app 58 A8 4 56 (.s 48) (.s 57),.D 59 3 9,.K 1 59 58]),([5,8],[.call (some 52) Ak [.s 51],.app 55 t_int 1 8 (.s 52) (.s 54),.alt [([1,9,10,11,12,13],[.B 48 47,.call (some 56) Aj [.s 49,.s 50,.s 55],.bs 57 4 [.s 56],.app 58 A8 4 56 (.s 48) (.s 57),.D 59 3 9,.K 1 59 58]),([9,1,10,11,12,13],[.call (some 56) Aj [.s 49,.s 50,.s 55],.B 48 47,.bs 57 4 [.s 56],.app 58 A8 4 56 (.s 48) (.s 57),.D 59 3 9,.K 1 59 58])]])]]),([5,8],[.call (some 52) Ak [.s 51],.app 55 t_int 1 8 (.s 52) (.s 54),.alt [([0],[.D 47 3 9,.alt [([1,9,10,11,12,13],[.B 48 47,.call (some 56) Aj [.s 49,.s 50,.s 55],.bs 57 4 [.s 56],.app 58 A8 4 56 (.s 48) (.s 57),.D 59 3 9,.K 1 59 58]),([9,1,10,11,12,13],[.call (some 56) Aj [.s 49,.s 50,.s 55],.B 48 47,.bs 57 4 [.s 56],.app 58 A8 4 56 (.s 48) (.s 57),.D 59 3 9,.K 1 59 58])]]),([9,0,1,10,11,12,13],[.call (some 56) Aj [.s 49,.s 50,.s 55],.D 47 3 9,.B 48 47,.bs 57 4 [.s 56],.app 58 A8 4 56 (.s 48) (.s 57),.D 59 3 9,.K 1 59 58])]])]]),([5,2,8],[.call (some 52) Ak [.s 51],.B 49 3,.app 55 t_int 1 8 (.s 52) (.s 54),.alt [([0],[.D 47 3 9,.alt [([1,9,10,11,12,13],[.B 48 47,.call (some 56) Aj [.s 49,.s 50,.s 55],.bs 57 4 [.s 56],.app 58 A8 4 56 (.s 48) (.s 57),.D 59 3 9,.K 1 59 58]),([9,1,10,11,12,13],[.call (some 56) Aj [.s 49,.s 50,.s 55],.B 48 47,.bs 57 4 [.s 56],.app 58 A8 4 56 (.s 48) (.s 57),.D 59 3 9,.K 1 59 58])]]),([9,0,1,10,11,12,13],[.call (some 56) Aj [.s 49,.s 50,.s 55],.D 47 3 9,.B 48 47,.bs 57 4 [.s 56],.app 58 A8 4 56 (.s 48) (.s 57),.D 59 3 9,.K 1 59 58])]])]]))) (.reg [.X 60 .add 42 1,.A 42 60])
 | 14=>.R [.V 43 .lss 42 41] (.seq (.W 43 (.skip) (.exit 0)) (.n 13))
 | _=>.skip
def body:C:=.R [.bx 3 Ew (.s 0),.Z 4 A2 1,.Z 5 MA 2,.al 6 A8 KZ] (.R [.B 27 3,.B 28 5,.call (some 29) E6 [.s 27,.s 28],.A 26 29,.F 30 26 0,.F 31 26 1,.al 7 DN [.int .i64 0,.sl 1 []],.L 7 2 30,.A 8 31] (.seq (.R [.A 32 8,.Q 33 32] (.W 33 (.R [.D 34 0 4,.B 35 34,.D 36 1 4,.B 37 36,.bd 38 [.int .i64 0,.str [],.bool false,.nil] [(1,1,(.s 35)),(2,1,(.s 37))],.al 9 A8 [.int .i64 0,.str [],.bool false,.nil],.K 4 9 38,.ono A8 4 3 (.s 9)] (.seq (.R [.D 39 2 4,.B 40 39,.Y 41 40,.mv 42 (.i 0)] (.J 0 12)) (.n 11))) (.skip))) (.n 10)))
def rs:List RV:=[.a 6 4]
attribute [push_cast] nd body
theorem ok:Bh prog Aj nd body 3 rs=true:=by kernel_rfl
abbrev L5 (a b c d e f g h i j k l m:V)(B:Nat)(H:Di)(Q:QX):Prop:=Ax prog nd B [.c (.m 5),.c (.loop (.n 2)),.mk 6,.c (.reg [.D 147 3 17,.B 148 147,.E 149 4 20,.bs 150 4 [.s 149],.app 151 A8 4 56 (.s 148) (.s 150),.D 152 3 17,.K 1 152 151]),.mk 5,.c (.reg [.X 153 .add 106 1,.A 106 153]),.c (.loop (.n 1)),.mk 4,.c (.n 0)] [(3,a),(4,b),(5,c),(6,d),(12,e),(17,f),(20,g),(104,h),(105,i),(106,j),(112,k),(113,l),(114,m)] H Q
abbrev L7 (a b c d e f g h i:V)(B:Nat)(H:Di)(Q:QX):Prop:=Ax prog nd B (E1 7 1 4 0) [(3,a),(4,b),(5,c),(6,d),(12,e),(17,f),(104,g),(105,h),(106,i)] H Q
abbrev L14 (a b c d e f g:V)(B:Nat)(H:Di)(Q:QX):Prop:=Ax prog nd B [.c (.m 14),.c (.loop (.n 12)),.mk 0,.c (.n 11),.c (.n 10)] [(3,a),(5,b),(6,c),(9,d),(40,e),(41,f),(42,g)] H Q
end YR
namespace tG
def nd:Nat->C
 | 0=>.R [.bd 23 [.int .i64 0,.sl 1 []] [],.K 2 4 23,.mv 5 (.c (.bool false))] (.ret)
 | 1=>.gh [.ks 1 [1,4,11,12,13]] (.m 3)
 | 2=>.seq (.blk 1 (.R [.G 15 2 11 13,.E 16 2 15,.al 7 DN [.int .i64 0,.sl 1 []],.L 7 2 16] (.R [.D 17 1 7,.B 18 17,.A 19 1,.U 20 Dl [.s 18,.s 19]] (.W 20 (.R [.E 21 2 7,.K 2 4 21,.mv 5 (.c (.bool true))] (.ret)) (.skip))))) (.reg [.X 22 .add 13 1,.A 13 22])
 | 3=>.R [.V 14 .lss 13 12] (.seq (.W 14 (.skip) (.exit 0)) (.n 2))
 | _=>.skip
def body:C:=.R [.al 4 DN [.int .i64 0,.sl 1 []],.mv 5 (.c (.bool false))] (.seq (.R [.A 8 0,.nc 9 (.s 8),.D 10 1 9,.B 11 10,.Y 12 11,.mv 13 (.i 0)] (.J 0 1)) (.n 0))
def rs:List RV:=[.a 4 2,.t 5]
attribute [push_cast] nd body
theorem ok:Bh prog E6 nd body 2 rs=true:=by kernel_rfl
abbrev L3 (a b c d e:V)(B:Nat)(H:Di)(Q:QX):Prop:=Ax prog nd B (E1 3 1 0 0) [(1,a),(4,b),(11,c),(12,d),(13,e)] H Q
end tG
theorem Md (a b:List Int)(hl:a.length<2^62):PF Dl [D0 a,D0 b] (.bool (decide (a=b))):=by
 refine Ad Cc.ok rfl ?_
 push_cast
 refine⟨fun hne=>A0 ?_,fun he=>?_⟩
 ·push_cast[Cc.rs]
  have:¬ a=b:=by rintro rfl;exact hne rfl
  simp[this]
 ·have he:a.length=b.length:=by omega
  refine Ae (n:=a.length) (R:=fun k=>a.take k=b.take k->Cc.L3 (D0 a) (D0 b) (.int .i64 a.length) (.int .i64 k) 0 [] _) ?_ ?_ 0 (by omega) rfl
  ·intro k hk ih hq
   have hkb:k<b.length:=by omega
   refine A7.2 ?_
   by_cases hx:a.getD k default=b.getD k default
   ·push_cast[BB hk,BB hkb,hx,Co (show k<2^62 by omega)]
    exact ih (by rw[Aa hk,Aa hkb,hq,hx])
   ·push_cast[BB hk,BB hkb,eq_false hx]
    refine A0 ?_
    push_cast[Cc.rs]
    have:¬ a=b:=by rintro rfl;exact hx rfl
    simp[this]
  ·intro hq
   refine A7.2 ?_
   push_cast[AZ (Nat.le_refl _)]
   refine A0 ?_
   push_cast[Cc.rs]
   rw[List.take_of_length_le (Nat.le_refl _),List.take_of_length_le (by omega)]at hq
   simp[hq]
theorem Je {p:BZ->Bool}{g:Nat}{caps:List V}(hc:∀ σ,AN σ caps=caps)(l:List BZ)(hl:l.length<2^62)(h:∀ a∈l,PF g (Rr a::caps) (.bool (p a))) :
  PF Dc [Dp Pi 2 l,.fn (.func g) [] caps] (.int .i64 (Mf p l)):=by
 refine Ad BI.ok rfl ?_
 push_cast[hc]
 refine Ae (n:=l.length) (R:=fun k=>(∀ j,j<k->p (l.getD j default)=false)->BI.L3 (Dp Pi 2 l) (.fn (.func g) [] caps) (.int .i64 l.length) (.int .i64 k) 0 [] _) ?_ ?_ 0 (by omega) (by intro j hj;omega)
 ·intro k hk ih hq
  refine A7.2 ?_
  push_cast[BB hk,Xl,iV,hc]
  refine .of (h _ (A4 hk)) ?_
  push_cast[Co (show k<2^62 by omega),hc]
  refine⟨fun hp=>A0 ?_,fun hp=>?_⟩
  ·push_cast[BI.rs]
   rw[HW hk hp hq]
  ·exact ih fun j hj=>by rcases Nat.lt_succ_iff_lt_or_eq.1 hj with h | rfl;exact hq j h;exact hp
 ·intro hq
  refine A7.2 ?_
  push_cast[AZ (Nat.le_refl _)]
  refine A0 ?_
  push_cast[BI.rs]
  rw[HS hq]
theorem I5 {p:BZ->Bool}{g:Nat}{caps:List V}(hc:∀ σ,AN σ caps=caps)(l:List BZ)(hl:l.length<2^62)(h:∀ a∈l,PF g (Rr a::caps) (.bool (p a))) :
  PF CH [Dp Pi 2 l,.fn (.func g) [] caps] (.bool (l.any p)):=by
 refine Ad CY.ok rfl ?_
 push_cast[hc]
 refine .of (Je hc l hl h) ?_
 push_cast[hc]
 refine A0 ?_
 push_cast[CY.rs,Lx]
theorem dv {f:A1->A1->Bool}{g:Nat}(l m:List A1)(hl:l.length<2^62)(h:∀ a∈l,∀ b,PF g [Be a,Be b] (.bool (f a b))) :
  PF Bq [Fk l,Fk m,.fn (.func g) [] []] (.bool (cj f l m)):=by
 refine Ad AB.ok rfl ?_
 push_cast
 refine⟨fun hne=>A0 ?_,fun he=>?_⟩
 ·push_cast[AB.rs]
  cases hq:cj f l m with
  | false=>rfl
  | true=>have:=cf hq;omega
 ·have he:l.length=m.length:=by omega
  refine Ae (n:=l.length) (R:=fun k=>cj f (l.drop k) (m.drop k)=cj f l m->AB.L3 (Fk m) (.fn (.func g) [] []) (Fk l) (.int .i64 l.length) (.int .i64 k) 0 [] _) ?_ ?_ 0 (by omega) (by simp)
  ·intro k hk ih hq
   have hkm:k<m.length:=by omega
   refine A7.2 ?_
   push_cast[BB hk,BB hkm]
   refine .of (h _ (A4 hk) _) ?_
   push_cast[Co (show k<2^62 by omega)]
   rw[Ag hk,Ag hkm]at hq
   simp only[cj]at hq
   refine⟨fun hf=>A0 ?_,fun hf=>?_⟩
   ·push_cast[AB.rs]
    simp only[Bool.not_eq_true']at hf
    rw[hf,Bool.false_and]at hq
    exact hq
   ·simp only[Bool.not_eq_false']at hf
    simp only[hf,Bool.true_and]at hq
    exact ih hq
  ·intro hq
   refine A7.2 ?_
   push_cast[AZ (Nat.le_refl _)]
   refine A0 ?_
   push_cast[AB.rs]
   rw[List.drop_eq_nil_of_le (by omega),List.drop_eq_nil_of_le (by omega)]at hq
   simpa[cj]using hq
theorem Ru (a b:A1)(hs:AV a<2^62):PF Hj [Be a,Be b] (.bool (decide (a=b))):=by
 induction a using Ek generalizing b with
 | h a ih =>
 have hst:=Bj a
 have hl:=Ca a.args
 refine Ad MJ.ok rfl ?_
 have hE:=dv (f:=fun a b=>decide (a=b)) (g:=Hj) a.args b.args (by omega) fun x hx y=>ih x hx y (by have:=DU hx;omega)
 rw[lm fun _ _ _=>rfl]at hE
 have hi:=bU a b
 by_cases h0:a.rule=b.rule<;>by_cases h1:a.name=b.name<;>by_cases h2:a.var=b.var<;>push_cast[h0,h1,h2,beq_self_eq_true,show ∀ x y:Bool,(x==y)=decide (x=y) from fun x y=>by cases x<;>cases y<;>rfl]
 ·refine .of hE ?_
  push_cast
  refine A0 ?_
  push_cast[MJ.rs]
  simp[hi,h0,h1,h2]
 all_goals
  refine A0 ?_
  push_cast[MJ.rs]
  simp[hi,h0,h1,h2]
def VJ (l:List BZ)(pos:List Int):Option BZ:=l.find? fun s=>decide (s.pos=pos)
def J0:Option BZ->V
 | some s=>.tup [Rr s,.bool true]
 | none=>.tup [Rr ⟨0,[]⟩,.bool false]
def Nt (r:List A3)(l:List BZ)(bad:Bool):List Ob:=[.cells AW [As r,Cq l,.bool bad]]
theorem SY (r:List A3)(l:List BZ)(bad:Bool)(pos:List Int)(hl:l.length<2^62)(hp:∀ s∈l,s.pos.length<2^62):Spec prog E6 [.ptr 0 0,D0 pos] (Nt r l bad) fun x H'=>x=J0 (VJ l pos)/\H'=Nt r l bad:=by
 refine AC mixed tG.ok rfl ?_
 unfold Nt
 push_cast
 refine Ae (n:=l.length) (R:=fun k=>VJ (l.drop k) pos=VJ l pos->tG.L3 (D0 pos) (.ptr 1 0) (Cq l) (.int .i64 l.length) (.int .i64 k) 1 [.cells AW [As r,Cq l,.bool bad],.cells DN [.int .i64 0,.sl 1 []]] _) ?_ ?_ 0 (by omega) rfl
 ·intro k hk ih hq
  have hm:=A4 hk
  rw[Ag hk]at hq
  generalize hs:l.getD k default=s at hm hq
  have hE:=Md s.pos pos (hp s hm)
  refine A7.2 ?_
  push_cast[BB hk,hs]
  refine .of hE ?_
  have hc:VJ (s::l.drop (k+1)) pos=if s.pos=pos then some s else VJ (l.drop (k+1)) pos:=by
   unfold VJ
   rw[List.find?_cons]
   by_cases h:s.pos=pos<;>simp[h]
  rw[hc]at hq
  by_cases h:s.pos=pos
  ·rw[if_pos h]at hq
   push_cast[h]
   rw[<-hq]
   exact Am (x:=J0 (some s)) (H:=[.cells AW [As r,Cq l,.bool bad]]) (J:=[.cells DN (Pi s),.dead]) ⟨rfl,rfl⟩ (by push_cast[tG.rs];rfl) ⟨rfl,rfl⟩
  ·rw[if_neg h]at hq
   push_cast[eq_false h,Co (show k<2^62 by omega)]
   exact ih hq
 ·intro hq
  rw[List.drop_eq_nil_of_le (Nat.le_refl _)]at hq
  refine A7.2 ?_
  push_cast[AZ (Nat.le_refl _)]
  rw[<-hq]
  exact Am (x:=J0 none) (H:=[.cells AW [As r,Cq l,.bool bad]]) (J:=[.cells DN [.int .i64 0,.sl 1 []]]) ⟨rfl,rfl⟩ (by push_cast[tG.rs];rfl) ⟨rfl,rfl⟩
theorem NL:∀ (p q:List Int)(t:Term),Bt t (p++q)=(Bt t p).bind fun u=>Bt u q
 | [],q,t=>rfl
 | i::p,q,t=>by
  simp only[List.cons_append,Bt]
  split
  ·exact NL p q _
  ·rfl
theorem kK {p:List Int}{t u:Term}(hp:p≠[])(h:Bt t p=some u):size u<size t/\depth u<depth t:=by
 cases p with
 | nil=>exact absurd rfl hp
 | cons i p =>
  simp only[Bt]at h
  split at h
  ·rename_i hi
   have hm:=A4 (l:=t.args) (k:=i.toNat) (by omega)
   have h1:=aN p _ u h
   have h2:=B4 hm
   have h3:=Aq t
   have h4:=XF p _ u h
   have h5:=NC hm
   have h6:=EL t
   omega
  ·cases h
theorem dO:∀ (p:List Int)(t u:Term),Bt t p=some u->p.length+size u<=size t
 | [],t,u,h=>by cases h;simp
 | i::p,t,u,h=>by
  simp only[Bt]at h
  split at h
  ·rename_i hi
   have h1:=dO p _ u h
   have h2:=B4 (A4 (l:=t.args) (k:=i.toNat) (by omega))
   have h3:=Aq t
   simp only[List.length_cons];omega
  ·cases h
theorem Ny {σ:List A5}:∀ (p:List Int)(L y:Term),short L=true->Bt L p=some y->Bt (Aw σ L) p=some (Aw σ y)
 | [],L,y,_,h=>by cases h;rfl
 | i::p,L,y,hs,h=>by
  have h3:=C0.1 hs
  simp only[Bt]at h
  split at h
  ·rename_i hi
   have hk:i.toNat<L.args.length:=by omega
   have hv:L.var=false:=by
    cases hv:L.var with
    | false=>rfl
    | true=>rw[h3.2.1 hv]at hk;simp at hk
   rw[EW,hv,if_neg (by simp)]
   have hl:(L.args.map (Aw σ)).length=L.args.length:=List.length_map ..
   show (if 0<=i/\i<((L.args.map (Aw σ)).length:Int) then Bt ((L.args.map (Aw σ)).getD i.toNat default) p else none)=_
   rw[if_pos (by omega)]
   have e:(L.args.map (Aw σ)).getD i.toNat default=Aw σ (L.args.getD i.toNat default):=by simp[List.getD_eq_getElem?_getD,hk]
   rw[e]
   exact Ny p _ y (h3.2.2 _ (A4 hk)) h
  ·cases h
theorem cJ {t:Term}{v:A9}{p:List Int}(h:p∈FJ t v):∃ y,Bt t p=some y/\y.var=true/\y.name=v:=by
 rw[rA]at h
 obtain⟨h1,h2⟩:=List.mem_filter.1 h
 cases hs:Bt t p with
 | none=>rw[hs]at h2;cases h2
 | some y =>
  rw[hs]at h2
  simp only[Bool.and_eq_true,decide_eq_true_eq]at h2
  exact⟨y,rfl,h2.1,h2.2⟩
def AP (r:List A3)(s:BZ):Term:=(r.getD s.rule.toNat default).left
def XD (r:List A3)(l:List BZ)(t:Term)(pos:List Int):Prop :=
 ∀ s∈l,∀ q,s.pos=pos++q->∃ x,Bt t q=some x/\0<=s.rule/\s.rule<r.length/\(AR [] (AP r s) x).2=true
theorem XD.sub {r:List A3}{l:List BZ}{t u:Term}{pos p:List Int}(h:XD r l t pos)(hu:Bt t p=some u):XD r l u (pos++p):=by
 intro s hs q hq
 obtain⟨x,h1,h2⟩:=h s hs (p++q) (by rw[hq,List.append_assoc])
 rw[NL,hu]at h1
 exact⟨x,h1,h2⟩
theorem YH {l:List BZ}{pos:List Int}{s:BZ}(h:VJ l pos=some s):s∈l/\s.pos=pos:=by
 unfold VJ at h
 exact⟨List.mem_of_find?_eq_some h,by simpa using List.find?_some h⟩
theorem fb {l:List BZ}{pos:List Int}:VJ l pos=none↔∀ s∈l,s.pos≠pos:=by
 unfold VJ
 rw[List.find?_eq_none]
 simp
def Ej (t:Term)(p:List Int):Term:=(Bt t p).getD yN
def P2 (l:List BZ)(pos:List Int)(x:List Int×Term):Bool:=(VJ l (pos++x.1)).isSome&&(!x.2.var&&decide (0<x.1.length))
def VU (bs:List (A1×Bool)):A1:=(bs.getD 0 (zM,false)).1
def iI (bs:List (A1×Bool)):Bool:=bs.any fun b=>b.2||!decide (VU bs=b.1)
def AQ (r:List A3)(l:List BZ):Nat->Term->List Int->A1×Bool
 | 0,_,_=>(zM,false)
 | n+1,t,pos=>match VJ l pos with
  | none=>(.mk 0 t.name t.var ((List.range t.args.length).map fun i=>(AQ r l n (t.args.getD i default) (pos++[(i:Int)])).1),(List.range t.args.length).any fun i=>(AQ r l n (t.args.getD i default) (pos++[(i:Int)])).2)
  | some s=>(.mk (s.rule+1) [] false ((AD [AP r s]).map fun v=>VU ((FJ (AP r s) v).map fun p=>AQ r l n (Ej t p) (pos++p))),
    (Ab (AP r s) []).any (P2 l pos)||(AD [AP r s]).any fun v=>iI ((FJ (AP r s) v).map fun p=>AQ r l n (Ej t p) (pos++p)))
theorem XD.vars {r:List A3}{l:List BZ}{t:Term}{pos:List Int}{s:BZ}(hc:Ao r=0)(hm:XD r l t pos)(hs:VJ l pos=some s):AP r s=(r.getD s.rule.toNat default).left/\r.getD s.rule.toNat default∈r/\0<=s.rule/\s.rule<r.length/\(AP r s).var=false/\short (AP r s)=true /\
  (AR [] (AP r s) t).2=true/\∀ v,∀ p∈FJ (AP r s) v,p≠[]/\Bt t p=some (Py (AR [] (AP r s) t).1 v)/\Ej t p=Py (AR [] (AP r s) t).1 v:=by
 obtain⟨h1,h2⟩:=YH hs
 obtain⟨x,h3,h4,h5,h6⟩:=hm s h1 [] (by rw[h2,List.append_nil])
 cases h3
 have hmem:r.getD s.rule.toNat default∈r:=A4 (by omega)
 have hv:=M5 hc _ hmem
 have hsh:=(EZ hc _ hmem).1.1
 refine⟨rfl,hmem,h4,h5,hv,hsh,h6,fun v p hp=>?_⟩
 obtain⟨y,y1,y2,y3⟩:=cJ hp
 have hpn:p≠[]:=by
  rintro rfl
  cases y1
  unfold AP at y2
  rw[hv]at y2;cases y2
 have hsub:Bt (Aw (AR [] (AP r s) t).1 (AP r s)) p=some (Aw (AR [] (AP r s) t).1 y):=Ny p _ y hsh y1
 have hiy:Aw (AR [] (AP r s) t).1 y=Py (AR [] (AP r s) t).1 v:=by
  rw[EW,y2,if_pos rfl,y3];rfl
 rw[Su h6,hiy]at hsub
 exact⟨hpn,hsub,by unfold Ej;rw[hsub];rfl⟩
def Ri (σ:List A5)(L:Term):List A9->Nat
 | []=>0
 | v::vs=>(if CX v L then size (Py σ v) else 0)+Ri σ L vs
def Rs (σ:List A5)(l:List Term):List A9->Nat
 | []=>0
 | v::vs=>(if ER v l then size (Py σ v) else 0)+Rs σ l vs
theorem ja (σ:List A5)(a:Term)(l:List Term)(vs:List A9):Rs σ (a::l) vs<=Ri σ a vs+Rs σ l vs:=by
 induction vs with
 | nil=>simp[Rs,Ri]
 | cons v vs ih =>
  simp only[Rs,Ri,ER,Bool.or_eq_true]
  by_cases h1:CX v a=true<;>by_cases h2:ER v l=true<;>simp[h1,h2]<;>omega
theorem fu (σ:List A5)(n:A9):∀ vs:List A9,vs.Nodup->Ri σ (.mk n true []) vs<=size (Py σ n)
 | [],_=>by simp[Ri]
 | v::vs,h=>by
  obtain⟨h1,h2⟩:=List.nodup_cons.1 h
  have ih:=fu σ n vs h2
  simp only[Ri]
  by_cases he:n=v
  ·subst he
   have h0:∀ ws:List A9,n∉ws->Ri σ (.mk n true []) ws=0:=by
    intro ws
    induction ws with
    | nil=>intro _;rfl
    | cons w ws ihw =>
     intro hw
     simp only[List.mem_cons,not_or]at hw
     simp only[Ri,ihw hw.2,CX,ER,Bool.or_false,Bool.true_and,decide_eq_true_eq]
     rw[if_neg hw.1]
   rw[h0 vs h1]
   split<;>omega
  ·have:CX v (.mk n true [])=false:=by simp[CX,ER,he]
   rw[this]
   simp only[Bool.false_eq_true,if_false,Nat.zero_add]
   exact ih
mutual
theorem ll (σ:List A5)(vs:List A9)(hn:vs.Nodup):∀ L:Term,short L=true->Ri σ L vs<=size (Aw σ L)/\(L.var=false->Ri σ L vs<size (Aw σ L))
 | .mk n true l,hs=>by
  have ha:l=[]:=(C0.1 hs).2.1 rfl
  subst ha
  refine⟨?_,fun h=>by cases h⟩
  rw[EW]
  exact fu σ n vs hn
 | .mk n false l,hs=>by
  have h:=fQ σ vs hn l (C0.1 hs).2.2
  have e:∀ ws,Ri σ (.mk n false l) ws=Rs σ l ws:=by
   intro ws
   induction ws with
   | nil=>rfl
   | cons w ws ih=>simp only[Ri,Rs,CX,Bool.false_and,Bool.false_or,ih]
  rw[e]
  have hi:size (Aw σ (.mk n false l))=1+Af (l.map (Aw σ)):=by
   rw[EW];rfl
  rw[hi]
  exact⟨by omega,fun _=>by omega⟩
theorem fQ (σ:List A5)(vs:List A9)(hn:vs.Nodup):∀ l:List Term,(∀ a∈l,short a=true)->Rs σ l vs<=Af (l.map (Aw σ))
 | [],_=>by
  have:∀ ws,Rs σ [] ws=0:=by
   intro ws
   induction ws with
   | nil=>rfl
   | cons w ws ih=>simp[Rs,ER,ih]
  rw[this];exact Nat.zero_le _
 | a::l,hs=>by
  have h1:=ja σ a l vs
  have h2:=(ll σ vs hn a (hs a (by simp))).1
  have h3:=fQ σ vs hn l fun b hb=>hs b (by simp[hb])
  simp only[List.map_cons,Af];omega
end
theorem JY {r:List A3}{l:List BZ}(hc:Ao r=0):∀ (n:Nat)(t:Term)(pos:List Int),size t<=n->XD r l t pos->AV (AQ r l n t pos).1<=size t/\E2 (AQ r l n t pos).1<=depth t
 | 0,t,pos,hn,_=>by have:=Qn t;omega
 | n+1,t,pos,hn,hm=>by
  have hst:=Aq t
  have hdt:=EL t
  simp only[AQ]
  cases ha:VJ l pos with
  | none =>
   dsimp only
   simp only[AV,E2]
   have key:∀ k,k<=t.args.length->Bm ((List.range k).map fun i=>(AQ r l n (t.args.getD i default) (pos++[(i:Int)])).1)<=Af (t.args.take k)/\CF ((List.range k).map fun i=>(AQ r l n (t.args.getD i default) (pos++[(i:Int)])).1)<=Bg (t.args.take k):=by
    intro k
    induction k with
    | zero=>intro _;simp[Bm,CF]
    | succ k ih =>
     intro hk
     obtain⟨i1,i2⟩:=ih (by omega)
     have hmem:=A4 (l:=t.args) (k:=k) (by omega)
     have hsub:Bt t [(k:Int)]=some (t.args.getD k default):=by
      simp only[Bt];rw[if_pos (by omega),Int.toNat_natCast]
     have h2:=B4 hmem
     obtain⟨b1,b2⟩:=JY hc n (t.args.getD k default) (pos++[(k:Int)]) (by omega) (hm.sub hsub)
     rw[List.range_succ,List.map_append,MO,Qh,Eo _ _ (by omega),J2 _ _ (by omega)]
     simp only[List.map_cons,List.map_nil,Bm,CF,Nat.add_zero]
     omega
   obtain⟨k1,k2⟩:=key t.args.length (Nat.le_refl _)
   rw[List.take_length]at k1 k2
   omega
  | some s =>
   dsimp only
   obtain⟨e1,e2,e3,e4,e5,e6,e7,e8⟩:=hm.vars hc ha
   have hnd:=IE (AP r s)
   have hL:=(ll (AR [] (AP r s) t).1 (AD [AP r s]) hnd (AP r s) e6).2 e5
   rw[Su e7]at hL
   simp only[AV,E2]
   have key:∀ vs:List A9,(∀ v∈vs,v∈AD [AP r s])->Bm (vs.map fun v=>VU ((FJ (AP r s) v).map fun p=>AQ r l n (Ej t p) (pos++p)))<=Ri (AR [] (AP r s) t).1 (AP r s) vs/\CF (vs.map fun v=>VU ((FJ (AP r s) v).map fun p=>AQ r l n (Ej t p) (pos++p)))<depth t:=by
    intro vs
    induction vs with
    | nil=>intro _;simp only[List.map_nil,Bm,CF,Ri];omega
    | cons v vs ih =>
     intro hv
     obtain⟨i1,i2⟩:=ih fun w hw=>hv w (by simp[hw])
     have hov:=(E5 v _).1 (hv v (by simp))
     have hne:FJ (AP r s) v≠[]:=by rw[cF];exact NJ _ _ hov
     cases hoc:FJ (AP r s) v with
     | nil=>exact absurd hoc hne
     | cons p ps =>
      obtain⟨g1,g2,g3⟩:=e8 v p (by rw[hoc];simp)
      have hlt:=kK g1 g2
      obtain⟨b1,b2⟩:=JY hc n (Ej t p) (pos++p) (by rw[g3];omega) (by rw[g3];exact hm.sub g2)
      rw[g3]at b1 b2
      simp only[List.map_cons,Bm,CF,Ri,hov,if_true]
      rw[hoc]
      simp only[List.map_cons]
      have ef:VU (AQ r l n (Ej t p) (pos++p)::List.map (fun p=>AQ r l n (Ej t p) (pos++p)) ps)=(AQ r l n (Ej t p) (pos++p)).1:=rfl
      rw[ef,g3]
      omega
   obtain⟨k1,k2⟩:=key _ fun _ h=>h
   omega
end Go.Dw
