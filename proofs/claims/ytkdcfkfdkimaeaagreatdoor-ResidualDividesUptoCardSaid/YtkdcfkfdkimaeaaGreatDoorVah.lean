/-
  Contracts and lemmas for ResidualDivides: part h of 10.
-/
import Derived.Test.YtkdcfkfdkimaeaaGreatDoorVag
import Derived.Test.YtkdcfkfdkimaeaaGreatDoorVaf
import Derived.WalkKit
import Derived.Laws.MathBits
import Derived.Test.YtkdcfkfdkimaeaaGreatDoorVad
import Derived.Test.YtkdcfkfdkimaeaaGreatDoorVae
set_option linter.unusedVariables false
set_option linter.unusedSimpArgs false
set_option maxRecDepth 100000
section
namespace Go.Dw
theorem Yj {s:List A6}{σ:Sub}{rk:Str->Nat}(hu:UOk s σ rk){m:TM}{d:DM}(hm:∀ v,C2 m v=Ad s v)(hwb:WB s):∀ (n:Nat)(t:Term),FG s n t->vfl t=true->D6 t<2^40->Spec prog BM [.ptr 2 0,Ao t] (uH m d) fun x H'=>x=Ao (app σ t)/\H'=uH m d:=by
 intro n
 induction n with
 | zero=>intro t h;exact h.elim
 | succ n ih =>
  intro t hn ht hw
  simp only[FG]at hn
  have p2:Aw [0,1,2] 2=some 2:=rfl
  refine AJ mixed Et.ok rfl ?_
  cases hv:t.var with
  | true =>
   rw[if_pos hv]at hn
   rw[Av hv]
   cases hi:Ad s t.name with
   | none =>
    rw[hu.free _ hi]
    push_cast[hv,VC hm hi]
    exact Am (H:=uH m d) (J:=[_,_]) (Gw m d) rfl ⟨by push_cast;rfl,rfl⟩
   | some x =>
    have hc:=ih x (hn x hi) (hu.vf _ _ hi) (hwb _ _ hi)
    rw[hu.fix _ _ hi]
    push_cast[hv,Q1 hm hi]
    refine Nb (J:=[_,_]) (by push_cast[p2]) hc ?_
    push_cast
    exact Am (H:=uH m d) (J:=[_,_]) (Gw m d) rfl ⟨by push_cast,rfl⟩
  | false =>
   rw[if_neg (by simp[hv])]at hn
   rw[B7 hv]
   have hwa:=DV t
   push_cast[hv]
   refine Ac (n:=t.args.length) (R:=fun k=>Et.L3 (.ptr 2 0) (.ptr 3 0) (.ptr 4 0) (Bd t.args) (.int .i64 t.args.length) (.int .i64 k) 3
    (uHl m d [.cells A3 [.str [],.bool false,.sl 3 []],.cells A3 [.str t.name,.bool false,Bc cT 5 3 ((t.args.map (app σ)).take k)],.arr A3 3 k]) _) ?_ ?_ 0 (by omega)
   ·intro k hk ih2
    have hme:=A4 hk
    have hk2:k<(t.args.map (app σ)).length:=by simpa using hk
    have hlt:((t.args.map (app σ)).take k).length=k:=by simp;omega
    have hge:(t.args.map (app σ)).getD k default=app σ (t.args.getD k default):=by
     simp[List.getD_eq_getElem?_getD,hk]
    have hc:=ih _ (hn _ hme) (BF ht hme) (E9 hw hme)
    rw[A9 hk2,hge]at ih2
    refine A8.2 ?_
    push_cast[ilt hk]
    refine⟨⟨?_,?_⟩,?_⟩
    all_goals
     refine Nb (J:=[_,_,_,_]) (by push_cast[p2]) hc ?_
     push_cast[hlt,TY (show k<2^40 by omega) (show 48<=64 by omega),w64 (show k<2^62 by omega)]
     push_cast at ih2
     exact ih2
   ·refine A8.2 ?_
    push_cast[B6 (Nat.le_refl _)]
    rw[List.take_of_length_le (by simp)]
    refine Am (H:=uH m d) (J:=[_,_,_]) (Gw m d) rfl ⟨?_,rfl⟩
    push_cast[Et.rs]
    rw[Ao,Oq];rfl
abbrev MM:=List (Str×(Nat×Nat))
def Er (p:Nat×Nat):V:=.agg [.int .i64 p.1,.int .i64 p.2]
theorem mD {σ:Nat->Option Nat}(m:MM):((Bh Er m).map fun p=>(ren σ p.1,ren σ p.2))=Bh Er m:=SQ (fun x=>rfl) m
attribute [push_cast] mD
def mtr (σ:Sub)(t:Term):Nat×Nat:=(min (size (app σ t)) 4001,depth (app σ t))
def cu (σ:Sub)(kn:MM):Prop:=∀ v p,C2 kn v=some p->p=mtr σ (BS v)
abbrev kHl (m:TM)(d:DM)(kn:MM)(J:List Ob):List Ob:=uHl m d (.map (Bh Er kn)::J)
abbrev kH (m:TM)(d:DM)(kn:MM):List Ob:=kHl m d kn []
theorem ZZ (m:TM)(d:DM)(kn:MM):ID 4 (kH m d kn):=⟨rfl,by
 show [A5 (AK 4) (.map (Bh Ao m)),A5 (AK 4) (.map (Gl EW d)),A5 (AK 4) (.cells B3 [.map 0,.map 1]),A5 (AK 4) (.map (Bh Er kn))]=_
 have h0:AK 4 0=some 0:=rfl
 have h1:AK 4 1=some 1:=rfl
 push_cast[h0,h1]⟩
theorem zJ (m:TM)(d:DM)(kn kn':MM)(J:List Ob):takeB [0,1,2,3] (kHl m d kn J) (kH m d kn')=kHl m d kn' J:=by
 apply List.ext_getElem?
 intro i
 rw[DC (by simp)]
 have h0:∀ n,BT [0,1,2,3] n 0=some 0:=fun _=>rfl
 have h1:∀ n,BT [0,1,2,3] n 1=some 1:=fun _=>rfl
 match i with
 | 0=>rw[if_pos (by simp)];show some (A5 _ (.map (Bh Ao m)))=some _;push_cast
 | 1=>rw[if_pos (by simp)];show some (A5 _ (.map (Gl EW d)))=some _;push_cast
 | 2=>rw[if_pos (by simp)];show some (A5 _ (.cells B3 [.map 0,.map 1]))=some _;push_cast[h0,h1]
 | 3=>rw[if_pos (by simp)];show some (A5 _ (.map (Bh Er kn')))=some _;push_cast
 | i+4 =>
  have hp:Aw [0,1,2,3] (i+4)=none:=by simp[Aw,List.findIdx?_cons]
  by_cases h:i<J.length
  ·rw[if_pos (by simp;omega),hp]
   simp[List.getD_eq_getElem?_getD,h]
  ·rw[if_neg (by simp;omega)]
   have e1:(kHl m d kn' J)[i+4]?=none:=List.getElem?_eq_none (by simp;omega)
   have e2:(kH m d kn')[[0,1,2,3].length+(i+4-(kHl m d kn J).length)]?=none:=List.getElem?_eq_none (by simp)
   rw[e1,e2];rfl
theorem zn (m:TM)(d:DM)(kn:MM)(J:List Ob):give [0,1,2,3] (kHl m d kn J)=kH m d kn:=by
 show [A5 (Aw [0,1,2,3]) (.map (Bh Ao m)),A5 (Aw [0,1,2,3]) (.map (Gl EW d)),A5 (Aw [0,1,2,3]) (.cells B3 [.map 0,.map 1]),A5 (Aw [0,1,2,3]) (.map (Bh Er kn))]=_
 have h0:Aw [0,1,2,3] 0=some 0:=rfl
 have h1:Aw [0,1,2,3] 1=some 1:=rfl
 push_cast[h0,h1]
theorem jg {N:Nat->C}{B:Nat}{k:List K}{t:T}{Q:X->T->List Ob->Prop}{dd:Option Nat}{l:List S}{f:Nat}{z:Term}{m:TM}{d:DM}{kn:MM}{J:List Ob}{R:V->MM->Prop}
  (h:Spec prog f [.ptr 2 0,Ao z,.map 3] (kH m d kn) fun x' H'=>∃ kn',R x' kn'/\H'=kH m d kn') (k':∀ x' kn',R x' kn'->Run prog N B (.r l::k) (Ez dd (ren (BT [0,1,2,3] (J.length+4)) x') t) (kHl m d kn' J) Q):Bt prog N B dd l k t Q (.func f) [.ptr 2 0,Ao z,.map 3] (kHl m d kn J):=by
 have h2:Aw [0,1,2,3] 2=some 2:=rfl
 have h3:Aw [0,1,2,3] 3=some 3:=rfl
 refine Bt.some [0,1,2,3] (by simp) (by simp) (R:=fun x' H'=>∃ kn',R x' kn'/\H'=kH m d kn') (by rw[zn];push_cast[h2,h3];exact h) ?_
 rintro x' H' ⟨kn',hr,rfl⟩ _
 rw[zJ];exact k' x' kn' hr
theorem Vg {s:List A6}{σ:Sub}{rk:Str->Nat}(hu:UOk s σ rk){m:TM}{d:DM}(hm:∀ v,C2 m v=Ad s v)(hwb:WB s):∀ (n:Nat)(t:Term)(kn:MM),FG s n t->vfl t=true->D6 t<2^40->depth (app σ t)<2^60->cu σ kn ->
  Spec prog Ch [.ptr 2 0,Ao t,.map 3] (kH m d kn) fun x H'=>∃ kn',(x=Er (mtr σ t)/\cu σ kn')/\H'=kH m d kn':=by
 intro n
 induction n with
 | zero=>intro t kn h;exact h.elim
 | succ n ih =>
  intro t kn hn ht hw hdp hkn
  simp only[FG]at hn
  refine AJ mixed CQ.ok rfl ?_
  cases hv:t.var with
  | true =>
   rw[if_pos hv]at hn
   rw[Av hv]at hdp
   cases hi:Ad s t.name with
   | none =>
    have e:mtr σ t=(1,1):=by
     unfold mtr
     rw[Av hv,hu.free _ hi];rfl
    rw[e]
    push_cast[hv,VC hm hi]
    exact Am (H:=kH m d kn) (J:=[_,_]) (ZZ m d kn) rfl ⟨kn,⟨rfl,hkn⟩,rfl⟩
   | some x =>
    have hlk:∀ l,_:=fun l=>Ky Er kn t.name true (.agg [.int .i64 0,.int .i64 0]) (H:=kHl m d kn l) (i:=3) rfl
    have e:mtr σ t=mtr σ x:=by
     unfold mtr
     rw[Av hv,hu.fix _ _ hi]
    have e2:mtr σ (BS t.name)=mtr σ t:=by
     unfold mtr
     rw[Av (t:=BS t.name) rfl,Av hv];rfl
    generalize hp:mtr σ t=p at e e2
    have hp':mtr σ x=p:=e.symm
    obtain⟨p1,p2⟩:=p
    cases hg:C2 kn t.name with
    | some q =>
     have hq:=hkn _ _ hg
     rw[e2]at hq
     subst hq
     rw[hg]at hlk
     simp only[Option.map_some,Option.getD_some,Option.isSome_some,if_true,Er]at hlk
     push_cast[hv,Q1 hm hi,hlk]
     exact Am (H:=kH m d kn) (J:=[_,_,_]) (ZZ m d kn) rfl ⟨kn,⟨rfl,hkn⟩,rfl⟩
    | none =>
     rw[hg]at hlk
     simp only[Option.map_none,Option.getD_none,Option.isSome_none,if_true]at hlk
     have hc:=ih x kn (hn x hi) (hu.vf _ _ hi) (hwb _ _ hi) (by rw[<-hu.fix _ _ hi];exact hdp) hkn
     rw[hp']at hc
     push_cast[hv,Q1 hm hi,hlk]
     refine jg (R:=fun x' kn'=>x'=Er (p1,p2)/\cu σ kn') (J:=[_,_,_]) hc ?_
     rintro x' kn' ⟨rfl,hkn'⟩
     have hup:VW (.str t.name) (.agg [.int .i64 p1,.int .i64 p2]) (Bh Er kn')=some (Bh Er (F8 kn' t.name (p1,p2))):=PO Er kn' t.name (p1,p2)
     push_cast[Er,hup]
     refine⟨rfl,Am (H:=kH m d (F8 kn' t.name (p1,p2))) (J:=[_,_,_,_]) (ZZ m d _) rfl ⟨_,⟨rfl,fun w q hq=>?_⟩,rfl⟩⟩
     rw[Hy]at hq
     by_cases ew:t.name=w
     ·rw[if_pos ew]at hq
      cases hq
      rw[<-ew];exact e2.symm
     ·rw[if_neg ew]at hq;exact hkn' w q hq
  | false =>
   rw[if_neg (by simp[hv])]at hn
   have hwa:=DV t
   have happ:=B7 (f:=σ) hv
   generalize hL:t.args.map (app σ)=L at happ
   have hLl:L.length=t.args.length:=by rw[<-hL];simp
   have hsz:size (app σ t)=1+Ab L:=by rw[happ];rfl
   have hdz:depth (app σ t)=AA L+1:=by rw[happ];rfl
   push_cast[hv]
   refine Ac (n:=t.args.length) (R:=fun k=>∀ (kn':MM)(c e:Nat),cu σ kn'->c=min (1+Ab (L.take k)) 4001->e=AA (L.take k)->CQ.L3 (.ptr 2 0) (.map 3) (.ptr 4 0) (.ptr 5 0) (Bd t.args) (.int .i64 t.args.length) (.int .i64 k) 4
    (kHl m d kn' [.cells Dv [.int .i64 0,.int .i64 0],.cells Dv [.int .i64 c,.int .i64 e]]) (Bv 4 CQ.rs fun x H'=>∃ kn',(x=Er (mtr σ t)/\cu σ kn')/\H'=kH m d kn')) ?_ ?_ 0 (by omega) kn 1 0 hkn (by simp[Ab]) (by simp[AA])
   ·intro k hk ih2 kn' c e hkn' hc he
    have hme:=A4 hk
    have hk2:k<L.length:=by omega
    have hge:L.getD k default=app σ (t.args.getD k default):=by
     rw[<-hL];simp[List.getD_eq_getElem?_getD,hk]
    have hmL:=A4 hk2
    have hdl:depth (app σ (t.args.getD k default))<=AA L:=by rw[<-hge];exact KL hmL
    have hcall:=ih (t.args.getD k default) kn' (hn _ hme) (BF ht hme) (E9 hw hme) (by omega) hkn'
    have hp1:mtr σ (t.args.getD k default)=(min (size (L.getD k default)) 4001,depth (L.getD k default)):=by rw[hge];rfl
    rw[hp1]at hcall
    generalize hq1:min (size (L.getD k default)) 4001=a1 at hcall
    generalize hq2:depth (L.getD k default)=b1 at hcall
    have hw1:IntKind.i64.wrap ((c:Int)+(a1:Int))=(c:Int)+a1:=Bq (by omega) (by omega)
    refine A8.2 ?_
    push_cast[ilt hk]
    refine jg (R:=fun x' kn'=>x'=Er (a1,b1)/\cu σ kn') (J:=[_,_,_]) hcall ?_
    rintro x' kn1 ⟨rfl,hkn1⟩
    obtain⟨c1,hc1⟩:∃ c1,c1=min (c+a1) 4001:=⟨_,rfl⟩
    obtain⟨e1,he1⟩:∃ e1,e1=max e b1:=⟨_,rfl⟩
    have this:=ih2 kn1 c1 e1 hkn1 (by rw[A9 hk2,Cb,hc1,hc,<-hq1];simp only[Ab];omega) (by rw[A9 hk2,Ei,he1,he,<-hq2];simp[AA])
    have hmn:(if (4001:Int)<(c:Int)+(a1:Int) then (4001:Int) else (c:Int)+(a1:Int))=(c1:Int):=by
     split <;> omega
    have hmx:(if (e:Int)<(b1:Int) then (b1:Int) else (e:Int))=(e1:Int):=by
     split <;> omega
    push_cast[Er,hw1,hmn,hmx,<-he1,w64 (show k<2^62 by omega)]
    push_cast[Er]at this
    exact this
   ·intro kn' c e hkn' hc he
    rw[List.take_of_length_le (by omega)]at hc he
    refine A8.2 ?_
    push_cast[B6 (Nat.le_refl _),w64 (show e<2^62 by omega)]
    refine Am (H:=kH m d kn') (J:=[_,_]) (ZZ m d kn') rfl ⟨kn',⟨?_,hkn'⟩,rfl⟩
    push_cast[CQ.rs]
    unfold mtr Er
    rw[hsz,hdz,<-hc,<-he]
    push_cast
end Go.Dw
end
section
namespace Go.Dw
theorem Zx {σ:Sub}{M:Nat}(t:Term):(∀ w,occ w t=true->depth (σ w)<=M)->depth (app σ t)<=depth t+M:=by
 induction t using Af with
 | h t ih =>
 intro h
 cases hv:t.var with
 | true =>
  rw[Av hv]
  have:=h _ (AC.2 (.inl ⟨hv,rfl⟩))
  omega
 | false =>
  rw[B7 hv,F2,F2 t]
  show AA (t.args.map (app σ))+1<=AA t.args+1+M
  have key:∀ l:List Term,(∀ a∈l,a∈t.args)->AA (l.map (app σ))<=AA l+M:=by
   intro l
   induction l with
   | nil=>intro _;simp[AA]
   | cons a l ihl =>
    intro hl
    have h1:=ih a (hl a (by simp)) fun w hw=>h w (AC.2 (.inr ⟨a,hl a (by simp),hw⟩))
    have h2:=ihl fun b hb=>hl b (by simp[hb])
    simp only[List.map_cons,AA]
    omega
  have:=key t.args fun _ h=>h
  omega
theorem Zm {α:Type}{p q:α->Bool}:∀ {l:List α} {x:α},x∈l->(∀ y,p y=true->q y=true)->q x=true->p x=false->l.countP p<l.countP q
 | [],x,h,_,_,_=>by cases h
 | y::l,x,h,hpq,hq,hp=>by
  have hle:l.countP p<=l.countP q:=List.countP_mono_left fun z _=>hpq z
  simp only[List.countP_cons]
  rcases List.mem_cons.1 h with rfl | h
  ·rw[hq,hp];simp;omega
  ·have:=Zm h hpq hq hp
   have h2:(if p y=true then 1 else 0)<=(if q y=true then 1 else 0):=by
    by_cases hy:p y=true
    ·rw[if_pos hy,if_pos (hpq y hy)];exact Nat.le_refl _
    ·rw[if_neg hy];exact Nat.zero_le _
   omega
def cnt (s:List A6)(rk:Str->Nat)(v:Str):Nat:=s.countP fun b=>decide (rk b.name<=rk v)
theorem qD (s:List A6)(rk:Str->Nat)(v:Str):cnt s rk v<=s.length:=List.countP_le_length
theorem He {s:List A6}{v:Str}{t:Term}(h:Ad s v=some t):⟨v,t⟩∈s:=by
 obtain⟨b,hb,h1,h2⟩:=Ua h
 subst h1;subst h2;exact hb
theorem UOk.cnt_lt {s:List A6}{σ:Sub}{rk:Str->Nat}(h:UOk s σ rk){v w:Str}{t:Term}(hi:Ad s v=some t)(hw:occ w t=true):cnt s rk w<cnt s rk v:=by
 have:=h.low v t hi w hw
 refine Zm (He hi) (fun y hy=>?_) (by simp) (by simp;exact this)
 simp only[decide_eq_true_eq]at hy ⊢
 omega
theorem UOk.deep {s:List A6}{σ:Sub}{rk:Str->Nat}(h:UOk s σ rk){D:Nat}(hD:∀ v t,Ad s v=some t->depth t<=D):∀ v,depth (σ v)<=cnt s rk v*D+1:=by
 refine h.ind fun v ih=>?_
 cases hi:Ad s v with
 | none=>rw[h.free v hi];show depth (BS v)<=_;simp[BS,depth,AA]
 | some t =>
  rw[h.fix v t hi]
  obtain⟨c,hc⟩:∃ c,cnt s rk v=c+1\/cnt s rk v=0:=by
   cases hz:cnt s rk v with
   | zero=>exact⟨0,.inr rfl⟩
   | succ c=>exact⟨c,.inl rfl⟩
  rcases hc with hc | hc
  ·have h1:=Zx (σ:=σ) (M:=c*D+1) t fun w hw=>by
    have h2:=ih t w hi hw
    have h3:=h.cnt_lt hi hw
    have h4:cnt s rk w*D<=c*D:=Nat.mul_le_mul_right D (by omega)
    omega
   have h2:=hD v t hi
   rw[hc,Nat.succ_mul]
   omega
  ·have h1:=Zx (σ:=σ) (M:=0) t fun w hw=>by
    have h3:=h.cnt_lt hi hw
    omega
   exfalso
   have:0<cnt s rk v:=List.countP_pos_iff.2 ⟨_,He hi,by simp⟩
   omega
theorem VO:∀ {a b:List A6},Dp a->Dp b->(∀ x,x∈a↔x∈b)->a=b
 | [],[],_,_,_=>rfl
 | [],y::b,_,_,h=>by have:=(h y).2 (by simp);cases this
 | x::a,[],_,_,h=>by have:=(h x).1 (by simp);cases this
 | x::a,y::b,ha,hb,h=>by
  obtain⟨h1,h2⟩:=List.pairwise_cons.1 ha
  obtain⟨h3,h4⟩:=List.pairwise_cons.1 hb
  have e:x=y:=by
   rcases List.mem_cons.1 ((h x).1 (by simp))with e | hx
   ·exact e
   ·rcases List.mem_cons.1 ((h y).2 (by simp))with e | hy
    ·exact e.symm
    ·exact absurd (Nf (h1 y hy) (h3 x hx)) (Df _)
  subst e
  congr 1
  refine VO h2 h4 fun z=>⟨fun hz=>?_,fun hz=>?_⟩
  ·rcases List.mem_cons.1 ((h z).1 (by simp[hz]))with e | h
   ·subst e;exact absurd (h1 z hz) (Df _)
   ·exact h
  ·rcases List.mem_cons.1 ((h z).2 (by simp[hz]))with e | h
   ·subst e;exact absurd (h3 z hz) (Df _)
   ·exact h
abbrev sHl (m:TM)(d:DM)(out:List A6)(kn:MM)(J:List Ob):List Ob:=uHl m d (OK out::.map (Bh Er kn)::J)
theorem Aam (m:TM)(d:DM)(out:List A6)(kn kn':MM)(J:List Ob):takeB [0,1,2,4] (sHl m d out kn J) (kH m d kn')=sHl m d out kn' J:=by
 apply List.ext_getElem?
 intro i
 rw[DC (by simp)]
 have h0:∀ n,BT [0,1,2,4] n 0=some 0:=fun _=>rfl
 have h1:∀ n,BT [0,1,2,4] n 1=some 1:=fun _=>rfl
 match i with
 | 0=>rw[if_pos (by simp)];show some (A5 _ (.map (Bh Ao m)))=some _;push_cast
 | 1=>rw[if_pos (by simp)];show some (A5 _ (.map (Gl EW d)))=some _;push_cast
 | 2=>rw[if_pos (by simp)];show some (A5 _ (.cells B3 [.map 0,.map 1]))=some _;push_cast[h0,h1]
 | 3=>rw[if_pos (by simp)];rfl
 | 4=>rw[if_pos (by simp)];show some (A5 _ (.map (Bh Er kn')))=some _;push_cast
 | i+5 =>
  have hp:Aw [0,1,2,4] (i+5)=none:=by simp[Aw,List.findIdx?_cons]
  by_cases h:i<J.length
  ·rw[if_pos (by simp;omega),hp]
   simp[List.getD_eq_getElem?_getD,h]
  ·rw[if_neg (by simp;omega)]
   have e1:(sHl m d out kn' J)[i+5]?=none:=List.getElem?_eq_none (by simp;omega)
   have e2:(kH m d kn')[[0,1,2,4].length+(i+5-(sHl m d out kn J).length)]?=none:=List.getElem?_eq_none (by simp)
   rw[e1,e2];rfl
theorem yW (m:TM)(d:DM)(out:List A6)(kn:MM)(J:List Ob):give [0,1,2,4] (sHl m d out kn J)=kH m d kn:=by
 show [A5 (Aw [0,1,2,4]) (.map (Bh Ao m)),A5 (Aw [0,1,2,4]) (.map (Gl EW d)),A5 (Aw [0,1,2,4]) (.cells B3 [.map 0,.map 1]),A5 (Aw [0,1,2,4]) (.map (Bh Er kn))]=_
 have h0:Aw [0,1,2,4] 0=some 0:=rfl
 have h1:Aw [0,1,2,4] 1=some 1:=rfl
 push_cast[h0,h1]
theorem zC (m:TM)(d:DM)(out out':List A6)(kn:MM)(J:List Ob):takeB [3] (sHl m d out kn J) [OK out']=sHl m d out' kn J:=by
 apply List.ext_getElem?
 intro i
 rw[DC (by simp)]
 match i with
 | 0=>rw[if_pos (by simp)];rfl
 | 1=>rw[if_pos (by simp)];rfl
 | 2=>rw[if_pos (by simp)];rfl
 | 3=>rw[if_pos (by simp)];show some (A5 _ (OK out'))=some _;rw[KE,T9]
 | i+4 =>
  have hp:Aw [3] (i+4)=none:=by simp[Aw,List.findIdx?_cons]
  by_cases h:i+4<(sHl m d out kn J).length
  ·rw[if_pos h,hp]
   simp only[List.length_cons]at h
   have h2:i+1<(Ob.map (Bh Er kn)::J).length+1:=by simp;omega
   simp only[List.getD_eq_getElem?_getD,List.getElem?_cons_succ]
   cases hx:(Ob.map (Bh Er kn)::J)[i]? with
   | none=>rw[List.getElem?_eq_none_iff]at hx;simp at hx;omega
   | some y=>rfl
  ·rw[if_neg h]
   have e1:(sHl m d out' kn J)[i+4]?=none:=List.getElem?_eq_none (by simp at h ⊢;omega)
   have e2:([OK out']:List Ob)[[3].length+(i+4-(sHl m d out kn J).length)]?=none:=List.getElem?_eq_none (by simp)
   rw[e1,e2];rfl
theorem yS (m:TM)(d:DM)(out:List A6)(kn:MM)(J:List Ob):give [3] (sHl m d out kn J)=[OK out]:=by
 show [A5 (Aw [3]) (OK out)]=_
 rw[KE,T9]
section
variable {N:Nat->C} {B:Nat} {k:List K} {t:T} {Q:X->T->List Ob->Prop} {dd:Option Nat} {l:List S} {f:Nat} {m:TM} {d:DM} {out out':List A6} {kn:MM} {J:List Ob}
theorem td {z:Term}{R:V->MM->Prop}(h:Spec prog f [.ptr 2 0,Ao z,.map 3] (kH m d kn) fun x' H'=>∃ kn',R x' kn'/\H'=kH m d kn')(k':∀ x' kn',R x' kn'->Run prog N B (.r l::k) (Ez dd (ren (BT [0,1,2,4] (J.length+5)) x') t) (sHl m d out kn' J) Q):Bt prog N B dd l k t Q (.func f) [.ptr 2 0,Ao z,.map 4] (sHl m d out kn J):=by
 have h2:Aw [0,1,2,4] 2=some 2:=rfl
 have h3:Aw [0,1,2,4] 4=some 3:=rfl
 refine Bt.some [0,1,2,4] (by simp) (by simp) (R:=fun x' H'=>∃ kn',R x' kn'/\H'=kH m d kn') (by rw[yW];push_cast[h2,h3];exact h) ?_
 rintro x' H' ⟨kn',hr,rfl⟩ _
 rw[Aam];exact k' x' kn' hr
theorem tH {v:Str}{z:Term}{n:Nat}(h:Spec prog f [.rw 0 4 n,.str v,Ao z] [OK out] fun x' H'=>x'=.rw 0 4 (n+1)/\H'=[OK out'])(k':Run prog N B (.r l::k) (Ez dd (.rw 3 4 (n+1)) t) (sHl m d out' kn J) Q):Bt prog N B dd l k t Q (.func f) [.rw 3 4 n,.str v,Ao z] (sHl m d out kn J):=by
 have h3:Aw [3] 3=some 0:=rfl
 have h0:∀ n,BT [3] n 0=some 3:=fun _=>rfl
 refine Bt.some [3] (by simp) (by simp) (R:=fun x' H'=>x'=.rw 0 4 (n+1)/\H'=[OK out']) (by rw[yS];push_cast[h3];exact h) ?_
 rintro x' H' ⟨rfl,rfl⟩ _
 rw[zC];push_cast[h0];exact k'
end
end Go.Dw
end
section
namespace Go.Dw
theorem ey {s:List A6}(hs:Dp s){v:Str}(h:∀ b∈s,b.name≠v):Ad s v=none:=by
 cases hi:Ad s v with
 | none=>rfl
 | some t=>exact absurd rfl (h _ (He hi))
theorem kl {s:List A6}{v:Str}{t:Term}{b:A6}:b∈FC s v t↔b∈s\/b=⟨v,t⟩:=by
 constructor
 ·exact lC
 ·intro h
  unfold FC
  rw[List.mem_append,List.mem_cons]
  rcases h with h | h
  ·rw[<-List.take_append_drop (lbd v s) s,List.mem_append]at h
   rcases h with h | h
   ·exact .inl h
   ·exact .inr (.inr h)
  ·exact .inr (.inl h)
theorem rI {s:List A6}{m:TM}(h:MR s m)(hs:Dp s):m.length<=s.length:=by
 have h1:(m.map (·.1)).Nodup:=h.2
 have h2:=h1.length_le_of_subset (l₂:=s.map (·.name)) fun v hv=>by
  obtain⟨p,hp,rfl⟩:=List.mem_map.1 hv
  have h3:=UB h.2 (k:=p.1) (x:=p.2) hp
  rw[h.1]at h3
  exact List.mem_map.2 ⟨_,He h3,rfl⟩
 simpa using h2
section
variable {s:List A6} {σ:Sub} {rk:Str->Nat} (hu:UOk s σ rk) {m:TM} {d:DM} (hm:MR s m) (hwb:WB s) {D:Nat} (hD:∀ v,depth (σ v)<=D) (hDb:D < 2^60) (hlen:s.length < 2^38)
include hu hm hwb hD hDb hlen
theorem df (hsig:SI s=σ):CF.L3 (.ptr 2 0) (.rw 3 4 0) (.map 4) (.it 5) 0 (sHl m d [] [] [.iter (some 0) m.length []]) (Bv 0 CF.rs fun x H'=>x=(if Fi s then .tup [Bf [],.bool false,.int .i64 3] else .tup [Bf (Di s),.bool true,.int .i64 0])/\H'=[]):=by
 have hml:=rI hm hu.srt
 have hel:(Bh Ao m).length=m.length:=Sk _ _
 have hkey:∀ {i j:Nat},i<m.length->j<m.length->(m.getD i default).1=(m.getD j default).1->i=j:=fun {i j} hi hj e=>by
  have h1:(m.map (·.1)).Nodup:=hm.2
  have:=(List.getElem_inj (i:=i) (j:=j) (h₀:=by simpa using hi) (h₁:=by simpa using hj) h1).1
  simp only[List.getElem_map]at this
  exact this (by simpa[List.getD_eq_getElem?_getD,hi,hj]using e)
 have himg:∀ {i:Nat},i<m.length->Ad s (m.getD i default).1=some (m.getD i default).2:=fun {i} hi=>by
  rw[<-hm.1]
  exact UB hm.2 (A4 hi)
 refine pd m.length (fun seen=>∀ (out:List A6)(kn:MM),Dp out->out.length=seen.length->(∀ b,b∈out↔∃ i∈seen,b=⟨(m.getD i default).1,σ (m.getD i default).1⟩)->(∀ i∈seen,BK (σ (m.getD i default).1)=true)->cu σ kn ->
  CF.L3 (.ptr 2 0) (.rw 3 4 seen.length) (.map 4) (.it 5) 0 (sHl m d out kn [.iter (some 0) m.length seen]) (Bv 0 CF.rs fun x H'=>x=(if Fi s then .tup [Bf [],.bool false,.int .i64 3] else .tup [Bf (Di s),.bool true,.int .i64 0])/\H'=[])) ?_ [] [] List.Pairwise.nil rfl (by simp) (by simp) (fun v p h=>by cases h)
 intro seen hnd hlt hl ih out kn hso hlo hmem hfit hkn
 refine A8.2 ?_
 push_cast
 refine ZX 0 m.length seen (Bh Ao m) rfl rfl hel.symm (fun hall=>?_) (fun k p hp hk=>?_)
 ·have hout:out=Di s:=by
   refine VO hso ?_ fun x=>?_
   ·unfold Di Dp
    rw[List.pairwise_map]
    exact hu.srt
   ·rw[hmem]
    unfold Di
    rw[List.mem_map,hsig]
    constructor
    ·rintro ⟨i,hi,rfl⟩
     exact⟨_,He (himg (hlt i hi)),rfl⟩
    ·rintro ⟨b,hb,rfl⟩
     have h1:=EY hu.srt hb
     rw[<-hm.1]at h1
     obtain⟨i,hi,e⟩:=List.getElem_of_mem (nG h1)
     refine⟨i,hall i hi,?_⟩
     have:(m.getD i default)=(b.name,b.term):=by simp[List.getD_eq_getElem?_getD,hi,e]
     rw[this]
  have hhu:Fi s=false:=by
   unfold Fi
   rw[List.any_eq_false]
   intro b hb
   have h1:(⟨b.name,σ b.name⟩:A6)∈out:=by
    rw[hout];unfold Di;rw[hsig];exact List.mem_map_of_mem (f:=fun b:A6=>(⟨b.name,σ b.name⟩:A6)) hb
   obtain⟨i,hi,e⟩:=(hmem _).1 h1
   have:=hfit i hi
   injection e with e1 e2
   rw[hsig,e2,this];simp
  rw[hhu]
  have hlo':(Di s).length=seen.length:=by rw[<-hout,hlo]
  rw[hout]
  push_cast
  exact⟨by simp[hlo'],A1 (by push_cast[CF.rs];rfl)⟩
 ·have hkl:k<m.length:=by rw[<-hel];exact (List.getElem?_eq_some_iff.1 hp).1
  have hpe:p=(.str (m.getD k default).1,Ao (m.getD k default).2):=by
   unfold Bh at hp
   rw[List.getElem?_map]at hp
   simp[hkl]at hp
   rw[<-hp];simp[List.getD_eq_getElem?_getD,hkl]
  subst hpe
  have hi:=himg hkl
  have hen:∀ (J:List Ob),enV (sHl m d out kn (.iter (some 0) m.length (seen++[k])::J)) (.it 5)=some (.tup [.str (m.getD k default).1,Ao (m.getD k default).2]):=fun J=>by
   simp[enV,hel,hp]
  generalize hv:(m.getD k default).1=v at hi hen
  obtain⟨n,hn⟩:=hu.need (BS v)
  have hdv:depth (app σ (BS v))<=D:=by rw[Av rfl];exact hD v
  have hM:=Vg hu (d:=d) hm.1 hwb n (BS v) kn hn rfl (by simp[BS,D6,JC]) (by omega) hkn
  have hW:=Yj hu (d:=d) hm.1 hwb n (BS v) hn rfl (by simp[BS,D6,JC])
  rw[Av (t:=BS v) rfl]at hW
  have hz:V.agg [.str v,.bool true,.sl 3 []]=Ao (BS v):=rfl
  have hmt:mtr σ (BS v)=(min (size (σ v)) 4001,depth (σ v)):=by unfold mtr;rw[Av (t:=BS v) rfl];rfl
  rw[hmt]at hM
  have hfe:BK (σ v)=(decide (size (σ v)<=4000) && decide (depth (σ v)<=200)):=rfl
  generalize hp1:min (size (σ v)) 4001=p1 at hM
  generalize hp2:depth (σ v)=p2 at hM hfe
  push_cast[hen]
  rw[hz]
  refine td (J:=[_,_]) (R:=fun x' kn'=>x'=Er (p1,p2)/\cu σ kn') hM ?_
  rintro x' kn' ⟨rfl,hkn'⟩
  by_cases hf:BK (σ v)=true
  ·have hf2:=hf
   rw[hfe,Bool.and_eq_true,decide_eq_true_eq,decide_eq_true_eq]at hf2
   have c1:((4000:Int)<(p1:Int))=False:=eq_false (by omega)
   have c2:((200:Int)<(p2:Int))=False:=eq_false (by omega)
   push_cast[Er,c1,c2]
   rw[hz]
   have p2':Aw [0,1,2] 2=some 2:=rfl
   refine Nb (J:=[_,_,_,_,_]) (by push_cast[p2']) hW ?_
   push_cast
   rw[<-hlo]
   refine tH (J:=[_,_,_]) (Xx out v _ hso (by omega)) ?_
   have hnew:Ad out v=none:=ey hso fun b hb e=>by
    obtain⟨i,hi2,rfl⟩:=(hmem b).1 hb
    have:=hkey (hlt i hi2) hkl (e.trans hv.symm)
    exact hk (this▸hi2)
   have:=ih k hkl hk (FC out v (σ v)) kn' (S1 hso hnew) (by rw[Ze,hlo];simp) (fun b=>by
    rw[kl,hmem]
    constructor
    ·rintro (⟨i,hi2,rfl⟩ | rfl)
     ·exact⟨i,by simp[hi2],rfl⟩
     ·exact⟨k,by simp,by rw[hv]⟩
    ·rintro ⟨i,hi2,rfl⟩
     rcases List.mem_append.1 hi2 with h | h
     ·exact .inl ⟨i,h,rfl⟩
     ·rw[List.mem_singleton.1 h];exact .inr (by rw[hv])) (fun i hi2=>by
    rcases List.mem_append.1 hi2 with h | h
    ·exact hfit i h
    ·rw[List.mem_singleton.1 h,hv];exact hf) hkn'
   have hsl:(seen++[k]).length=out.length+1:=by simp[hlo]
   rw[hsl]at this
   push_cast
   push_cast at this
   exact this
  ·have hhu:Fi s=true:=by
    unfold Fi
    rw[List.any_eq_true]
    refine⟨_,He hi,?_⟩
    rw[hsig];simp[hf]
   rw[hhu,if_pos rfl]
   have hf2:¬ (size (σ v)<=4000/\p2<=200):=fun h=>hf (by rw[hfe];simp[h])
   by_cases h1:size (σ v)<=4000
   ·have c1:((4000:Int)<(p1:Int))=False:=eq_false (by omega)
    have c2:((200:Int)<(p2:Int))=True:=eq_true (by omega)
    push_cast[Er,c1,c2]
    exact A1 (by push_cast[CF.rs];rfl)
   ·have c1:((4000:Int)<(p1:Int))=True:=eq_true (by omega)
    push_cast[Er,c1]
    exact A1 (by push_cast[CF.rs];rfl)
end
def IH (r:List A6×Bool×Int):V:=.tup [Bf r.1,.bool r.2.1,.int .i64 r.2.2]
structure ZI (l:List A2) (Vs:List Str) (D:Nat):Prop where
 am:∀ x∈l,BR Vs x.left/\BR Vs x.right
 wd:∀ x∈l,D6 x.left<2^40/\D6 x.right<2^40
 dp:∀ x∈l,depth x.left<=D/\depth x.right<=D
 vs:Vs.length<2^28
 hd:D<2^28
 len:l.length<2^40
theorem Y1 (l:List A2)(Vs:List Str)(D:Nat)(h:ZI l Vs D):PF Jo [Aj l] (IH (JG (l.map (·.left)) (l.map (·.right)))):=by
 obtain⟨n,r,hr⟩:=HZ Vs (l.map (·.left)) (l.map (·.right)) [] BS (fun _=>0) UOk.nil (fun v t h=>by cases h) (by simp only[List.mem_map];rintro z ⟨x,hx,rfl⟩;exact (h.am x hx).1) (by simp only[List.mem_map];rintro z ⟨x,hx,rfl⟩;exact (h.am x hx).2)
 have hS:=MO hr
 have hlv:=h.len
 have p2:Aw [0,1,2] 2=some 2:=rfl
 refine Aa CF.ok rfl ?_
 push_cast
 refine Ac (n:=l.length) (R:=fun k=>∀ (s:List A6)(σ:Sub)(rk:Str->Nat)(m:TM)(d:DM),UOk s σ rk->MR s m->WB s->(∀ v t,Ad s v=some t->depth t<=D)->(∀ v t,Ad s v=some t->BR Vs t/\v∈Vs)->(∀ k,(C2 d k).isSome=true->PB s k) ->
   AE (AX n) s ((l.map (·.left)).drop k) ((l.map (·.right)).drop k)=some r->CF.L7 (.ptr 2 0) (Aj l) (.int .i64 l.length) (.int .i64 k) 0 (uHl m d []) (Bv 0 CF.rs fun x H'=>x=IH (JG (l.map (·.left)) (l.map (·.right)))/\H'=[])) ?_ ?_ 0 (by omega)
  [] BS (fun _=>0) [] [] UOk.nil ⟨fun v=>rfl,List.nodup_nil⟩ (fun v t h=>by cases h) (fun v t h=>by cases h) (fun v t h=>by cases h) (fun k h=>by cases h) hr
 ·intro k hk ih s σ rk m d hu hm hwb hdp ham hdone hsol
  have hme:=A4 hk
  have e1:(l.map (·.left)).getD k default=(l.getD k default).left:=by simp[List.getD_eq_getElem?_getD,hk]
  have e2:(l.map (·.right)).getD k default=(l.getD k default).right:=by simp[List.getD_eq_getElem?_getD,hk]
  rw[Ak (show k<(l.map (·.left)).length by simpa using hk),Ak (show k<(l.map (·.right)).length by simpa using hk),e1,e2]at hsol
  generalize hx:l.getD k default=x at hme hsol
  obtain⟨hal,har⟩:=h.am x hme
  obtain⟨hwl,hwr⟩:=h.wd x hme
  obtain⟨hdl,hdr⟩:=h.dp x hme
  simp only[AE]at hsol
  cases hf:AX n s x.left x.right with
  | none=>rw[hf]at hsol;cases hsol
  | some p =>
   obtain⟨s1,ok⟩:=p
   rw[hf]at hsol
   obtain⟨σ1,rk1,hok⟩:=Fm n s σ rk x.left x.right (s1,ok) hu hal.1 har.1 hf
   have hc:=XX n s σ rk m d x.left x.right (s1,ok) hu hm hwb hal.1 har.1 hwl hwr hf fun k hk=>.inl (hdone k hk)
   refine A8.2 ?_
   push_cast[ilt hk,hx]
   refine Qs (J:=[_]) (by push_cast[p2]) hc ?_
   rintro x' m1 d1 ⟨rfl,hR⟩
   cases ok with
   | false =>
    simp only[Option.some.injEq]at hsol
    have hu2:JG (l.map (·.left)) (l.map (·.right))=([],false,0):=by unfold JG;rw[hS,<-hsol];rfl
    push_cast
    rw[hu2]
    exact A1 (by push_cast[CF.rs];rfl)
   | true =>
    obtain⟨hm1,hk1⟩:=hR rfl
    push_cast[w64 (show k<2^62 by omega)]
    have:=ih s1 σ1 rk1 m1 d1 hok.ok hm1 (hwb.solve hwl hwr hf)
     (fun v t hv=>(JB (P:=fun t=>depth t<=D) (Q:=fun _=>True) (fun t a h ha=>by have:=F2 t;have:=KL ha;omega) (fun _ _ _=>trivial) n s x.left x.right _ (fun v t hv=>⟨hdp v t hv,trivial⟩) hdl hdr hf v t hv).1)
     (LC ham hal har hf) (fun k hk=>by
      rcases hk1 k hk with h | h
      ·exact fun θ hθ=>hdone k h θ (hθ.mono hok.ext)
      ·exact h) hsol
    push_cast at this
    exact this
 ·intro s σ rk m d hu hm hwb hdp ham hdone hsol
  have e1:(l.map (·.left)).drop l.length=[]:=by rw[List.drop_eq_nil_of_le];simp
  rw[e1]at hsol
  simp only[AE,Option.some.injEq]at hsol
  have hlen:=Hq hu.srt ham
  have hvs:=h.vs
  have hhd:=h.hd
  have hsig:=S0 hu
  have hDb:s.length*D+1<2^60:=by
   have:s.length*D<=2^28*2^28:=Nat.mul_le_mul (by omega) (by omega)
   omega
  have hq:=df hu (d:=d) hm hwb (D:=s.length*D+1) (fun v=>by
   have h1:=hu.deep hdp v
   have h2:cnt s rk v*D<=s.length*D:=Nat.mul_le_mul_right D (qD s rk v)
   omega) hDb (by omega) hsig
  have hu2:IH (JG (l.map (·.left)) (l.map (·.right)))=(if Fi s then .tup [Bf [],.bool false,.int .i64 3] else .tup [Bf (Di s),.bool true,.int .i64 0]):=by
   unfold JG
   rw[hS,<-hsol]
   simp only[Bool.true_eq_false,if_false]
   cases Fi s <;> rfl
  rw[hu2]
  refine A8.2 ?_
  push_cast[B6 (Nat.le_refl _),Sk]
  exact hq
end Go.Dw
end
section
namespace Go.Dw
theorem Wv {s:List A6}{v:Str}{t:Term}(h:Ad s v=some t):bound s v=true:=by unfold bound;rw[h];rfl
theorem XO {s:List A6}{v:Str}(h:Ad s v=none):bound s v=false:=by unfold bound;rw[h];rfl
theorem Rw {s:List A6}(hl:s.length<2^62)(n:Nat)(t h:Term)(hh:DE n s t=some h):PF Lq [Bf s,Ao t] (Ao h):=by
 refine Aa MS.ok rfl ?_
 have key:∀ (n:Nat)(t:Term),DE n s t=some h->MS.L3 (Bf s) (.ptr 0 0) (.ptr 1 0) 0 [.cells A3 (cT t),.cells A3 [.str [],.bool false,.sl 3 []]] (Bv 0 MS.rs fun x' H'=>x'=Ao h/\H'=[]):=by
  intro n
  induction n with
  | zero=>intro t h;cases h
  | succ n ih =>
   intro t ht
   simp only[DE]at ht
   refine A8.2 ?_
   cases hv:t.var with
   | false =>
    rw[if_neg (by simp[hv])]at ht
    cases ht
    push_cast[hv]
    exact A1 (by push_cast[MS.rs])
   | true =>
    rw[if_pos hv]at ht
    push_cast[hv]
    refine .of (UA s t.name hl) ?_
    cases hi:Ad s t.name with
    | none =>
     rw[hi]at ht
     cases ht
     push_cast[XO hi]
     exact A1 (by push_cast[MS.rs])
    | some x =>
     rw[hi]at ht
     push_cast[Wv hi]
     refine .of (Mf s t.name hl) ?_
     rw[hi]
     push_cast
     exact ih x ht
 push_cast
 exact key n t hh
def C4 (s:List A6):Nat->List Str->Term->List Str
 | 0,met,_=>met
 | n+1,met,t=>if t.var then (if t.name∈met then met else match Ad s t.name with
   | none=>met++[t.name]
   | some x=>C4 s n (met++[t.name]) x)
  else t.args.foldl (C4 s n) met
theorem Sc {F:List Str->Term->List Str}{P:List Str->Prop}:∀ (l:List Term)(m:List Str),P m->(∀ a∈l,∀ m,P m->P (F m a))->P (l.foldl F m)
 | [],m,h,_=>h
 | a::l,m,h,hs=>Sc l _ (hs a (by simp) m h) fun b hb=>hs b (by simp[hb])
theorem Od {s:List A6}{Vs:List Str}(hs:∀ v t,Ad s v=some t->BR Vs t/\v∈Vs):∀ (n:Nat)(met:List Str)(t:Term),BR Vs t->met.Nodup->(∀ w∈met,w∈Vs)->(C4 s n met t).Nodup/\∀ w∈C4 s n met t,w∈Vs
 | 0,met,t,_,h1,h2=>⟨h1,h2⟩
 | n+1,met,t,ht,h1,h2=>by
  unfold C4
  cases hv:t.var with
  | true =>
   rw[if_pos rfl]
   split
   ·exact⟨h1,h2⟩
   ·rename_i hm
    have h3:(met++[t.name]).Nodup:=by
     rw[List.nodup_append]
     refine⟨h1,by simp,fun a ha b hb e=>?_⟩
     rw[List.mem_singleton.1 hb]at e
     exact hm (e▸ha)
    have h4:∀ w∈met++[t.name],w∈Vs:=fun w hw=>by
     rcases List.mem_append.1 hw with h | h
     ·exact h2 w h
     ·rw[List.mem_singleton.1 h];exact ht.2 _ (AC.2 (.inl ⟨hv,rfl⟩))
    cases hi:Ad s t.name with
    | none=>exact⟨h3,h4⟩
    | some x=>exact Od hs n _ x (hs _ _ hi).1 h3 h4
  | false =>
   rw[if_neg (by simp)]
   exact Sc (P:=fun m=>m.Nodup/\∀ w∈m,w∈Vs) t.args met ⟨h1,h2⟩ fun a ha m hm=>Od hs n m a (ht.arg ha) hm.1 hm.2
theorem Qn {s:List A6}:∀ (n:Nat)(met:List Str)(t:Term)(w:Str),w∈met->w∈C4 s n met t
 | 0,met,t,w,h=>h
 | n+1,met,t,w,h=>by
  unfold C4
  split
  ·split
   ·exact h
   ·cases hi:Ad s t.name with
    | none=>simp[h]
    | some x=>exact Qn n _ x w (by simp[h])
  ·exact Sc (P:=fun m=>w∈m) t.args met h fun a ha m hm=>Qn n m a w hm
theorem P8 {s:List A6}:∀ (n:Nat)(met:List Str)(t:Term)(w:Str),w∈C4 s n met t->w∈met\/Occ s w t
 | 0,met,t,w,h=>.inl h
 | n+1,met,t,w,h=>by
  unfold C4 at h
  cases hv:t.var with
  | true =>
   rw[if_pos hv]at h
   split at h
   ·exact .inl h
   ·have hw:∀ w,w∈met++[t.name]->w∈met\/Occ s w t:=fun w h=>by
     rcases List.mem_append.1 h with h | h
     ·exact .inl h
     ·rw[List.mem_singleton.1 h];exact .inr (.here hv rfl)
    cases hi:Ad s t.name with
    | none=>rw[hi]at h;exact hw w h
    | some x =>
     rw[hi]at h
     rcases P8 n _ x w h with h | h
     ·exact hw w h
     ·exact .inr (.bound hv hi h)
  | false =>
   rw[if_neg (by simp[hv])]at h
   have key:∀ (l:List Term)(m:List Str),(∀ a∈l,a∈t.args)->w∈l.foldl (C4 s n) m->w∈m\/Occ s w t:=by
    intro l
    induction l with
    | nil=>intro m _ h;exact .inl h
    | cons a l ih =>
     intro m hl h
     rcases ih _ (fun b hb=>hl b (by simp[hb])) h with h | h
     ·rcases P8 n m a w h with h | h
      ·exact .inl h
      ·exact .inr (.arg hv (hl a (by simp)) h)
     ·exact .inr h
   exact key t.args met (fun _ h=>h) h
theorem Rk {s:List A6}{σ:Sub}{rk:Str->Nat}(hu:UOk s σ rk){v:Str}:∀ (n:Nat)(met:List Str)(t:Term)(R:Nat),FG s n t->vfl t=true->(∀ u,occ u t=true->rk u<R)->(∀ w∈met,¬ Occ s v (BS w)\/R<=rk w)->v∉C4 s n met t ->
  ¬ Occ s v t/\∀ w∈C4 s n met t,w∈met\/¬ Occ s v (BS w)
 | 0,met,t,R,h,_,_,_,_=>h.elim
 | n+1,met,t,R,hn,ht,hR,hσ,h=>by
  simp only[FG]at hn
  unfold C4 at h ⊢
  cases hv:t.var with
  | true =>
   rw[if_pos hv]at h hn
   rw[if_pos rfl]
   have hocc:occ t.name t=true:=AC.2 (.inl ⟨hv,rfl⟩)
   have htv:=Q0 ht hv
   by_cases hg:t.name∈met
   ·rw[if_pos hg]
    rcases hσ _ hg with h1 | h1
    ·exact⟨by rw[htv];exact h1,fun w hw=>.inl hw⟩
    ·have:=hR _ hocc;omega
   ·rw[if_neg hg]at h ⊢
    cases hi:Ad s t.name with
    | none =>
     rw[hi]at h
     have hz:t.name≠v:=fun e=>h (by simp[e])
     have h3:¬ Occ s v t:=fun ho=>by
      cases ho with
      | here _ h2=>exact hz h2
      | bound _ h2 _=>rw[hi]at h2;cases h2
      | arg h1 _ _=>rw[hv]at h1;cases h1
     refine⟨h3,fun w hw=>?_⟩
     rcases List.mem_append.1 hw with hw | hw
     ·exact .inl hw
     ·rw[List.mem_singleton.1 hw];rw[htv]at h3;exact .inr h3
    | some x =>
     rw[hi]at h
     simp only at h ⊢
     have hz:t.name≠v:=fun e=>h (Qn n _ x v (by simp[e]))
     obtain⟨h1,h2⟩:=Rk hu n (met++[t.name]) x (rk t.name) (hn x hi) (hu.vf _ _ hi) (hu.low _ _ hi) (fun w hw=>by
      rcases List.mem_append.1 hw with hw | hw
      ·rcases hσ w hw with h3 | h3
       ·exact .inl h3
       ·exact .inr (by have:=hR _ hocc;omega)
      ·rw[List.mem_singleton.1 hw];exact .inr (Nat.le_refl _)) h
     have h3:=UR hz hi h1
     refine⟨by rw[htv];exact h3,fun w hw=>?_⟩
     rcases h2 w hw with h4 | h4
     ·rcases List.mem_append.1 h4 with h5 | h5
      ·exact .inl h5
      ·rw[List.mem_singleton.1 h5];exact .inr h3
     ·exact .inr h4
  | false =>
   rw[if_neg (by simp[hv])]at h hn
   rw[if_neg (by simp)]
   have key:∀ (l:List Term)(m:List Str),(∀ a∈l,a∈t.args)->(∀ w∈m,w∈met\/¬ Occ s v (BS w))->v∉l.foldl (C4 s n) m->(∀ a∈l,¬ Occ s v a)/\∀ w∈l.foldl (C4 s n) m,w∈met\/¬ Occ s v (BS w):=by
    intro l
    induction l with
    | nil=>intro m _ hm _;exact⟨by simp,hm⟩
    | cons a l ih =>
     intro m hl hm h
     have hva:v∉C4 s n m a:=fun h2=>h (Sc (P:=fun m=>v∈m) l _ h2 fun b hb m hm=>Qn n m b v hm)
     obtain⟨h3,h4⟩:=Rk hu n m a R (hn a (hl a (by simp))) (BF ht (hl a (by simp))) (fun u hu'=>hR u (AC.2 (.inr ⟨a,hl a (by simp),hu'⟩))) (fun w hw=>by
      rcases hm w hw with h5 | h5
      ·exact hσ w h5
      ·exact .inl h5) hva
     obtain⟨h5,h6⟩:=ih _ (fun b hb=>hl b (by simp[hb])) (fun w hw=>by
      rcases h4 w hw with h7 | h7
      ·exact hm w h7
      ·exact .inr h7) h
     exact⟨fun b hb=>by rcases List.mem_cons.1 hb with rfl | hb;exact h3;exact h5 b hb,h6⟩
   obtain⟨h1,h2⟩:=key t.args met (fun _ h=>h) (fun w hw=>.inl hw) h
   refine⟨fun ho=>?_,h2⟩
   cases ho with
   | here h3 _=>rw[hv]at h3;cases h3
   | bound h3 _ _=>rw[hv]at h3;cases h3
   | arg _ h3 h4=>exact h1 _ h3 h4
theorem rP {s:List A6}{σ:Sub}{rk:Str->Nat}(hu:UOk s σ rk){v:Str}{n:Nat}{t:Term}(hn:FG s n t)(ht:vfl t=true):v∈C4 s n [] t↔Occ s v t:=by
 constructor
 ·intro h
  rcases P8 n [] t v h with h | h
  ·cases h
  ·exact h
 ·intro ho
  obtain⟨M,hM⟩:=Xj rk t
  by_cases h:v∈C4 s n [] t
  ·exact h
  ·exact absurd ho (Rk hu n [] t (M+1) hn ht (fun u h=>by have:=hM u h;omega) (fun w hw=>by cases hw) h).1
end Go.Dw
end
section
namespace Go.Dw
theorem yG (o o':Ob)(D:List Ob)(h:A5 (BT [0] (D.length+1)) o'=o'):takeB [0] (o::D) [o']=o'::D:=by
 apply List.ext_getElem?
 intro i
 rw[DC (by simp)]
 match i with
 | 0=>rw[if_pos (by simp)];show some (A5 _ o')=some _;rw[List.length_cons,h]
 | i+1 =>
  have hp:Aw [0] (i+1)=none:=by simp[Aw,List.findIdx?_cons]
  by_cases h:i<D.length
  ·rw[if_pos (by simp;omega),hp]
   simp[List.getD_eq_getElem?_getD,h]
  ·rw[if_neg (by simp;omega)]
   have e1:(o'::D)[i+1]?=none:=List.getElem?_eq_none (by simp;omega)
   have e2:([o']:List Ob)[[0].length+(i+1-(o::D).length)]?=none:=List.getElem?_eq_none (by simp)
   rw[e1,e2];rfl
abbrev mR (l:List Str):Ob:=.arr C1 1 l.length
theorem Tn {B:Nat}(hB:B=0\/B=1){rs:List RV}{t:T}{R:List Str}{D:List Ob}{Q:V->List Ob->Prop}(hr:Sh rs t (mR R::D)=some (Bc cS 0 1 R))(hq:Q (Bc cS 0 1 R) [mR R]):Bv B rs Q .ret t (mR R::D):=by
 rcases hB with rfl | rfl
 ·refine SD 0 hr rfl ?_
  have h0:Aw [0] 0=some 0:=rfl
  push_cast[h0]
  exact hq
 ·refine Am (n:=1) (H:=[mR R]) (J:=D) ⟨rfl,rfl⟩ hr ?_
  have h0:AK 1 0=some 0:=rfl
  push_cast[h0]
  exact hq
theorem aU {N:Nat->C}{B:Nat}{k:List K}{t:T}{Q:X->T->List Ob->Prop}{dd:Option Nat}{l:List S}{f:Nat}{a b:V}{m m':List Str}{D:List Ob}(ha:∀ σ,ren σ a=a)(hb:∀ σ,ren σ b=b)
  (h:Spec prog f [a,b,Bc cS 0 1 m] [mR m] fun x' H'=>x'=Bc cS 0 1 m'/\H'=[mR m']) (k':Run prog N B (.r l::k) (Ez dd (Bc cS 0 1 m') t) (mR m'::D) Q):Bt prog N B dd l k t Q (.func f) [a,b,Bc cS 0 1 m] (mR m::D):=by
 have h0:Aw [0] 0=some 0:=rfl
 have h1:∀ n,BT [0] n 0=some 0:=fun _=>rfl
 refine Bt.some [0] (by simp) (by simp) (R:=fun x' H'=>x'=Bc cS 0 1 m'/\H'=[mR m']) ?_ ?_
 ·have e:give [0] (mR m::D)=[mR m]:=rfl
  rw[e]
  push_cast[h0,ha,hb]
  exact h
 ·rintro x' H' ⟨rfl,rfl⟩ _
  rw[yG _ _ _ rfl]
  push_cast[h1]
  exact k'
theorem eG {s:List A6}{Vs:List Str}(hs:∀ v t,Ad s v=some t->BR Vs t/\v∈Vs)(hl:s.length<2^62)(hVs:Vs.length<2^30)(hwb:WB s):∀ (n:Nat)(t:Term)(met:List Str),FG s n t->BR Vs t->D6 t<2^40->met.Nodup->(∀ w∈met,w∈Vs) ->
  ∀ (V2:V)(H0:List Ob),((V2=.nil/\H0=[]/\met=[])\/(V2=Bc cS 0 1 met/\H0=[mR met]))->Spec prog JP [Bf s,Ao t,V2] H0 fun x H'=>x=Bc cS 0 1 (C4 s n met t)/\H'=[mR (C4 s n met t)]:=by
 intro n
 induction n with
 | zero=>intro t met h;exact h.elim
 | succ n ih =>
  intro t met hn ht hw hnd hmV V2 H0 hcase
  have hml:met.length<=Vs.length:=hnd.length_le_of_subset hmV
  have hB:H0.length=0\/H0.length=1:=by rcases hcase with ⟨_,rfl,_⟩ | ⟨_,rfl⟩ <;> simp
  have hrb:∀ σ:Nat->Option Nat,ren σ (Bf s)=Bf s:=fun σ=>by push_cast
  have hrt:∀ (t:Term)(σ:Nat->Option Nat),ren σ (Ao t)=Ao t:=fun t σ=>by push_cast
  simp only[FG]at hn
  refine AJ mixed Gp.ok rfl ?_
  unfold C4
  generalize hLen:H0.length=B at hB
  have start:Run prog Gp.nd B [.c Gp.body] (ini 0 [Bf s,Ao t,V2]) H0 (Bv B Gp.rs fun x H'=>x=Bc cS 0 1 (if t.var then (if t.name∈met then met else match Ad s t.name with
   | none=>met++[t.name]
   | some x=>C4 s n (met++[t.name]) x)
  else t.args.foldl (C4 s n) met)/\H'=[mR (if t.var then (if t.name∈met then met else match Ad s t.name with
   | none=>met++[t.name]
   | some x=>C4 s n (met++[t.name]) x)
  else t.args.foldl (C4 s n) met)]):=by
   cases hv:t.var with
   | true =>
    rw[if_pos hv]at hn
    rw[if_pos rfl]
    have hH:=Uf met t.name (by omega)
    by_cases hm:t.name∈met
    ·rw[if_pos hm]
     rw[Ub hm]at hH
     rcases hcase with ⟨rfl,rfl,rfl⟩ | ⟨rfl,rfl⟩
     ·cases hm
     ·have e:(Bc cS 0 1 met:V)=.own 0 1 (met.map cS):=rfl
      rw[e]
      push_cast[hv]
      refine .of hH ?_
      push_cast
      exact Tn hB rfl ⟨rfl,rfl⟩
    ·rw[if_neg hm]
     rw[Rh hm]at hH
     have hnd2:(met++[t.name]).Nodup:=by
      rw[List.nodup_append]
      refine⟨hnd,by simp,fun a ha b hb e=>?_⟩
      rw[List.mem_singleton.1 hb]at e
      exact hm (e▸ha)
     have hmV2:∀ w∈met++[t.name],w∈Vs:=fun w hw=>by
      rcases List.mem_append.1 hw with h | h
      ·exact hmV w h
      ·rw[List.mem_singleton.1 h];exact ht.2 _ (AC.2 (.inl ⟨hv,rfl⟩))
     have hBd:=UA s t.name hl
     have hIm:=Mf s t.name hl
     cases hi:Ad s t.name with
     | none =>
      rw[XO hi]at hBd
      have hroom:=TY (show met.length<2^40 by omega) (show 16<=64 by omega)
      rcases hcase with ⟨rfl,rfl,rfl⟩ | ⟨rfl,rfl⟩
      ·push_cast[hv]
       refine .of hH ?_
       have hroom0:1*16<=Ag:=by unfold Ag;decide
       push_cast[hroom0]
       refine .of hBd ?_
       push_cast
       exact Tn (R:=[t.name]) hB rfl ⟨rfl,rfl⟩
      ·have e:(Bc cS 0 1 met:V)=.own 0 1 (met.map cS):=rfl
       rw[e]
       push_cast[hv]
       refine .of hH ?_
       push_cast[ai,hroom,List.length_map]
       refine .of hBd ?_
       push_cast
       have hlen2:met.length+1=(met++[t.name]).length:=by simp
       rw[hlen2]
       exact Tn hB rfl ⟨rfl,rfl⟩
     | some x =>
      rw[Wv hi]at hBd
      rw[hi]at hIm
      have hc:=ih x (met++[t.name]) (hn x hi) (hs _ _ hi).1 (hwb _ _ hi) hnd2 hmV2 _ _ (.inr ⟨rfl,rfl⟩)
      have hroom:=TY (show met.length<2^40 by omega) (show 16<=64 by omega)
      rcases hcase with ⟨rfl,rfl,rfl⟩ | ⟨rfl,rfl⟩
      ·push_cast[hv]
       refine .of hH ?_
       have hroom0:1*16<=Ag:=by unfold Ag;decide
       push_cast[hroom0]
       refine .of hBd ?_
       push_cast
       refine .of hIm ?_
       push_cast
       refine aU (m:=[t.name]) (D:=[]) hrb (hrt x) hc ?_
       push_cast
       exact Tn hB rfl ⟨rfl,rfl⟩
      ·have e:(Bc cS 0 1 met:V)=.own 0 1 (met.map cS):=rfl
       rw[e]
       push_cast[hv]
       refine .of hH ?_
       push_cast[ai,hroom,List.length_map]
       refine .of hBd ?_
       push_cast
       refine .of hIm ?_
       push_cast
       have hlen2:met.length+1=(met++[t.name]).length:=by simp
       rw[hlen2]
       refine aU (D:=[]) hrb (hrt x) hc ?_
       push_cast
       exact Tn hB rfl ⟨rfl,rfl⟩
   | false =>
    rw[if_neg (by simp[hv])]at hn
    rw[if_neg (by simp)]
    have hwa:=DV t
    have body:∀ (B:Nat)(hB:B=0\/B=1)(D:List Ob),Gp.L3 (Bf s) (Bc cS 0 1 met) (Bd t.args) (.int .i64 t.args.length) (.int .i64 0) B (mR met::D) (Bv B Gp.rs fun x H'=>x=Bc cS 0 1 (t.args.foldl (C4 s n) met)/\H'=[mR (t.args.foldl (C4 s n) met)]):=by
     intro B hB D
     refine Ac (n:=t.args.length) (R:=fun k=>∀ (m:List Str)(D:List Ob),m.Nodup->(∀ w∈m,w∈Vs)->(t.args.drop k).foldl (C4 s n) m=t.args.foldl (C4 s n) met->Gp.L3 (Bf s) (Bc cS 0 1 m) (Bd t.args) (.int .i64 t.args.length) (.int .i64 k) B (mR m::D) (Bv B Gp.rs fun x H'=>x=Bc cS 0 1 (t.args.foldl (C4 s n) met)/\H'=[mR (t.args.foldl (C4 s n) met)])) ?_ ?_ 0 (Nat.zero_le _) met D hnd hmV rfl
     ·intro k hk ih2 m D hm1 hm2 he
      have hme:=A4 hk
      rw[Ak hk]at he
      simp only[List.foldl_cons]at he
      have hc:=ih (t.args.getD k default) m (hn _ hme) (ht.arg hme) (E9 hw hme) hm1 hm2 _ _ (.inr ⟨rfl,rfl⟩)
      have hkp:=Od hs n m (t.args.getD k default) (ht.arg hme) hm1 hm2
      have g1:∀ x:Ob,(D++[x])[D.length]?=some x:=fun x=>by simp
      have g2:∀ x y:Ob,(D++[x]).set D.length y=D++[y]:=fun x y=>by simp
      refine A8.2 ?_
      push_cast[ilt hk,g1,g2]
      refine aU (D:=D++[_]) hrb (hrt _) hc ?_
      push_cast[w64 (show k<2^62 by omega)]
      have:=ih2 _ (D++[.dead]) hkp.1 hkp.2 he
      push_cast at this
      exact this
     ·intro m D hm1 hm2 he
      rw[An]at he
      simp only[List.foldl_nil]at he
      refine A8.2 ?_
      push_cast[B6 (Nat.le_refl _)]
      rw[<-he]
      exact Tn hB rfl ⟨rfl,rfl⟩
    rcases hcase with ⟨rfl,rfl,rfl⟩ | ⟨rfl,rfl⟩
    ·push_cast[hv]
     exact body B hB []
    ·have e:(Bc cS 0 1 met:V)=.own 0 1 (met.map cS):=rfl
     rw[e]
     push_cast[hv]
     exact body B hB []
  exact start
end Go.Dw
end
section
namespace Go.Dw
def cK (k:Key):List V:=[.str k.1,.str k.2]
theorem jc {σ:Nat->Option Nat}(k:Key):AP σ (cK k)=cK k:=rfl
abbrev dnO (dn:List Key):Ob:=.arr ER 2 dn.length
abbrev rHl (s:List A6)(dn:List Key)(J:List Ob):List Ob:=.cells CR [Bf s,Bc cK 1 2 dn]::dnO dn::J
abbrev rH (s:List A6)(dn:List Key):List Ob:=rHl s dn []
theorem FF (s:List A6)(dn:List Key):ID 2 (rH s dn):=⟨rfl,by
 show [A5 (AK 2) (.cells CR [Bf s,Bc cK 1 2 dn]),A5 (AK 2) (dnO dn)]=_
 have h1:AK 2 1=some 1:=rfl
 push_cast[h1]⟩
theorem vk (s:List A6)(dn:List Key)(J:List Ob):give [0,1] (rHl s dn J)=rH s dn:=by
 show [A5 (Aw [0,1]) (.cells CR [Bf s,Bc cK 1 2 dn]),A5 (Aw [0,1]) (dnO dn)]=_
 have h1:Aw [0,1] 1=some 1:=rfl
 push_cast[h1]
theorem tu (s s':List A6)(dn dn':List Key)(J:List Ob):takeB [0,1] (rHl s dn J) (rH s' dn')=rHl s' dn' J:=by
 apply List.ext_getElem?
 intro i
 rw[DC (by simp)]
 have h1:∀ n,BT [0,1] n 1=some 1:=fun _=>rfl
 match i with
 | 0=>rw[if_pos (by simp)];show some (A5 _ (.cells CR [Bf s',Bc cK 1 2 dn']))=some _;push_cast[h1]
 | 1=>rw[if_pos (by simp)];rfl
 | i+2 =>
  have hp:Aw [0,1] (i+2)=none:=by simp[Aw,List.findIdx?_cons]
  by_cases h:i<J.length
  ·rw[if_pos (by simp;omega),hp]
   simp[List.getD_eq_getElem?_getD,h]
  ·rw[if_neg (by simp;omega)]
   have e1:(rHl s' dn' J)[i+2]?=none:=List.getElem?_eq_none (by simp;omega)
   have e2:(rH s' dn')[[0,1].length+(i+2-(rHl s dn J).length)]?=none:=List.getElem?_eq_none (by simp)
   rw[e1,e2];rfl
section
variable {N:Nat->C} {B:Nat} {k:List K} {t:T} {Q:X->T->List Ob->Prop} {dd:Option Nat} {l:List S} {f:Nat} {vs vs':List V} {s:List A6} {dn:List Key} {J:List Ob}
theorem Q5 {R:V->List A6->List Key->Prop}(hv:AP (Aw [0,1]) vs=vs')(h:Spec prog f vs' (rH s dn) fun x' H'=>∃ s' dn',R x' s' dn'/\H'=rH s' dn')(k':∀ x' s' dn',R x' s' dn'->Run prog N B (.r l::k) (Ez dd (ren (BT [0,1] (J.length+2)) x') t) (rHl s' dn' J) Q):Bt prog N B dd l k t Q (.func f) vs (rHl s dn J):=by
 refine Bt.some [0,1] (by simp) (by simp) (R:=fun x' H'=>∃ s' dn',R x' s' dn'/\H'=rH s' dn') (by rw[vk,hv];exact h) ?_
 rintro x' H' ⟨s',dn',hr,rfl⟩ _
 rw[tu];exact k' x' s' dn' hr
end
theorem AbF (x:Key)(a b:Str):fR false [true,true] (.agg [.str x.1,.str x.2]) (.agg [.str a,.str b])=some (.bool (decide (x=(a,b)))):=by
 have:=R4 x (a,b)
 unfold ON at this
 unfold fR
 rw[if_pos (show shB [true,true] (.agg [.str x.1,.str x.2])=true from rfl),this];rfl
theorem cg (s:List A6)(dn:List Key)(hd:dn.length<2^62)(a b:Str):Spec prog Ha [.ptr 0 0,.str a,.str b] (rH s dn) fun x H'=>x=.bool (decide ((a,b)∈dn))/\H'=rH s dn:=by
 refine AJ mixed Gq.ok rfl ?_
 push_cast
 refine Ac (n:=dn.length) (R:=fun k=>decide ((a,b)∈dn.drop k)=decide ((a,b)∈dn)->Gq.L3 (.str a) (.str b) (Bc cK 1 2 dn) (.int .i64 dn.length) (.int .i64 k) 2 (rH s dn) (Bv 2 Gq.rs fun x H'=>x=.bool (decide ((a,b)∈dn))/\H'=rH s dn)) ?_ ?_ 0 (Nat.zero_le _) rfl
 ·intro k hk ih he
  rw[Ak hk]at he
  refine A8.2 ?_
  generalize hx:dn.getD k default=x at he
  have e4:∀ x:Key,fR false [true,true] (.agg (cK x)) (.agg [.str a,.str b])=some (.bool (decide (x=(a,b)))):=fun x=>AbF x a b
  have e1:∀ x:Key,sub 0 2 (cK x)=cK x:=fun x=>rfl
  have e2:∀ x:Key,(cK x).length=2:=fun x=>rfl
  by_cases h:x=(a,b)
  ·have ht:decide ((a,b)∈dn)=true:=by rw[<-he];simp[h]
   rw[ht]
   push_cast[ilt hk,hx,e1,e2,jc,e4,h]
   exact Am (H:=rH s dn) (J:=[_]) (FF s dn) rfl ⟨rfl,rfl⟩
  ·have h':(a,b)≠x:=fun e=>h e.symm
   have:=ih (by rw[<-he];simp[h'])
   push_cast[ilt hk,hx,e1,e2,jc,e4,h,w64 (show k<2^62 by omega)]
   push_cast at this
   exact this
 ·intro he
  rw[An]at he
  refine A8.2 ?_
  push_cast[B6 (Nat.le_refl _)]
  exact Am (H:=rH s dn) (J:=[]) (FF s dn) rfl ⟨by rw[<-he];rfl,rfl⟩
structure NOk (s:List A6) (Vs:List Str):Prop where
 am:∀ v t,Ad s v=some t->BR Vs t/\v∈Vs
 vs:Vs.length<2^18
 nm:∀ v∈Vs,v.length<2^62
theorem Wb {s:List A6}{σ:Sub}{rk:Str->Nat}{Vs:List Str}(hu:UOk s σ rk)(hN:NOk s Vs)(hwb:WB s)(dn:List Key)(v:Str)(t:Term)(hv:v∈Vs)(ht:BR Vs t)(hw:D6 t<2^40) :
  Spec prog FE [.ptr 0 0,.str v,Ao t] (rH s dn) fun x H'=>∃ s' dn',(x=.bool (LA s v t).2/\s'=(LA s v t).1/\dn'=dn)/\H'=rH s' dn':=by
 obtain⟨n,hn⟩:=hu.need t
 have hlen:=Hq hu.srt hN.am
 have hvs:=hN.vs
 have hR:=eG hN.am (by omega) (by omega) hwb n t [] hn ht hw List.nodup_nil (by simp) _ _ (.inl ⟨rfl,rfl,rfl⟩)
 have hk:=Od hN.am n [] t ht List.nodup_nil (by simp)
 have hRl:(C4 s n [] t).length<=Vs.length:=hk.1.length_le_of_subset hk.2
 have hq:=rP hu (v:=v) hn ht.1
 generalize C4 s n [] t=R at hR hRl hq
 have hH:=Uf R v (by omega)
 have hW:=ib s v t (by omega) (fun b hb=>hN.nm _ (hN.am _ _ (EY hu.srt hb)).2) (hN.nm v hv)
 refine AJ mixed Ov.ok rfl ?_
 push_cast
 refine Bt.some [] (by simp) (by simp) (R:=fun x' H'=>x'=Bc cS 0 1 R/\H'=[mR R]) ?_ ?_
 ·push_cast
  exact hR
 rintro x' H' ⟨rfl,rfl⟩ _
 have hT:takeB [] (rH s dn) [mR R]=rHl s dn [mR R]:=rfl
 have h0:∀ n,BT [] n 0=some n:=fun n=>rfl
 rw[hT]
 push_cast[h0]
 refine .of hH ?_
 rcases Lj s v t with ⟨ho,e⟩ | ⟨ho,e⟩
 ·rw[e,Ub (hq.2 ho)]
  push_cast
  exact Am (H:=rH s dn) (J:=[_]) (FF s dn) rfl ⟨s,dn,⟨rfl,rfl,rfl⟩,rfl⟩
 ·rw[e,Rh (fun h=>ho (hq.1 h))]
  push_cast
  refine .of hW ?_
  push_cast
  exact Am (H:=rH (FC s v t) dn) (J:=[_]) (FF _ dn) rfl ⟨FC s v t,dn,⟨rfl,rfl,rfl⟩,rfl⟩
def kV (Vs:List Str)(dn:List Key)(a:Term)(r:List A6×Bool)(x:V)(s':List A6)(dn':List Key):Prop:=x=.bool r.2/\(r.2=true->s'=r.1/\dn'.Nodup/\(∀ k∈dn',k.1∈Vs/\k.2∈Vs)/\∀ k∈dn',k∈dn\/(PB r.1 k/\∀ θ,Sat θ r.1->size (θ k.1)<=size (app θ a)))
theorem NOk.solve {s:List A6}{Vs:List Str}(h:NOk s Vs){n:Nat}{a b:Term}{r:List A6×Bool}(ha:BR Vs a)(hb:BR Vs b)(hr:AX n s a b=some r):NOk r.1 Vs :=
 ⟨LC h.am ha hb hr,h.vs,h.nm⟩
theorem WD {Vs:List Str}{dn:List Key}(h:dn.Nodup)(hv:∀ k∈dn,k.1∈Vs/\k.2∈Vs):dn.length<=Vs.length*Vs.length:=by
 have h1:=h.length_le_of_subset (l₂:=Vs.flatMap fun a=>Vs.map fun b=>(a,b)) fun k hk=>by
  obtain⟨h1,h2⟩:=hv k hk
  exact List.mem_flatMap.2 ⟨k.1,h1,List.mem_map.2 ⟨k.2,h2,rfl⟩⟩
 have h2:(Vs.flatMap fun a=>Vs.map fun b=>(a,b)).length=Vs.length*Vs.length:=by
  rw[List.length_flatMap]
  simp[List.map_const',List.sum_replicate_nat]
 omega
end Go.Dw
end
section
namespace Go.Dw
theorem bE {Vs:List Str}:∀ (n:Nat)(s:List A6)(σ:Sub)(rk:Str->Nat)(dn:List Key)(a b:Term)(r:List A6×Bool),UOk s σ rk->NOk s Vs->WB s->BR Vs a->BR Vs b->D6 a<2^40->D6 b<2^40->AX n s a b=some r ->
  (∀ k∈dn,PB s k)->dn.Nodup->(∀ k∈dn,k.1∈Vs/\k.2∈Vs)->Spec prog F0 [.ptr 0 0,Ao a,Ao b] (rH s dn) fun x H'=>∃ s' dn',kV Vs dn a r x s' dn'/\H'=rH s' dn':=by
 intro n
 induction n with
 | zero=>intro s σ rk dn a b r _ _ _ _ _ _ _ h;cases h
 | succ n ih =>
  intro s σ rk dn a b r hu hN hwb ha hb hwa hwb2 hr hd hdn hdV
  have hvs:=hN.vs
  have hlen:=Hq hu.srt hN.am
  have hsq:Vs.length*Vs.length<=2^18*2^18:=Nat.mul_le_mul (by omega) (by omega)
  have hdl:=WD hdn hdV
  obtain⟨σ1,rk1,hok⟩:=Fm (n+1) s σ rk a b r hu ha.1 hb.1 hr
  have p0:Aw [0,1] 0=some 0:=rfl
  have p1:Aw [0,1] 1=some 1:=rfl
  have rest2:∀ (T:T)(both:Bool),(a.var && b.var)=both->(both=true->(a.name,b.name)∉dn)->lk T 0=.ptr 0 0->lk T 4=.ptr 2 0->lk T 5=.ptr 3 0->lk T 7=.ro [.str a.name,.str b.name] 0->lk T 8=.bool both ->
    Run prog BL.nd 2 [.c (.n 6)] T (rHl s dn [.cells A3 (cT a),.cells A3 (cT b),.dead]) (Bv 2 BL.rs fun x H'=>∃ s' dn',kV Vs dn a r x s' dn'/\H'=rH s' dn'):=by
   intro T both hbo hkey h0 h4 h5 h7 h8
   obtain⟨x,y,hx,hy,hc⟩:=JI hr
   have hxv:BR Vs x:=C0 (P:=fun t=>BR Vs t) (fun v t h=>(hN.am v t h).1) ha hx
   have hyv:BR Vs y:=C0 (P:=fun t=>BR Vs t) (fun v t h=>(hN.am v t h).1) hb hy
   have hxw:D6 x<2^40:=C0 (P:=fun t=>D6 t<2^40) hwb hwa hx
   have hyw:D6 y<2^40:=C0 (P:=fun t=>D6 t<2^40) hwb hwb2 hy
   have hxs:∀ θ,Sat θ s->app θ x=app θ a:=fun θ hθ=>HQ hθ hx
   have hA:=Rw (s:=s) (by omega) (n+1) a x hx
   have hB:=Rw (s:=s) (by omega) (n+1) b y hy
   have hlx:=DV x
   have hly:=DV y
   have same:∀ x':V,r.1=s->x'=.bool r.2->kV Vs dn a r x' s dn:=fun x' h e=>⟨e,fun _=>⟨h.symm,hdn,hdV,fun k hk=>.inl hk⟩⟩
   push_cast[h0,h4,h5]
   refine .of hA ?_
   push_cast[h0,h4,h5]
   refine .of hB ?_
   have fin:∀ (v:Str)(t:Term),r=LA s v t->∀ (x':V)(s':List A6)(dn':List Key),(x'=.bool (LA s v t).2/\s'=(LA s v t).1/\dn'=dn)->kV Vs dn a r x' s' dn':=by
    rintro v t rfl x' s' dn' ⟨rfl,rfl,rfl⟩
    exact⟨rfl,fun _=>⟨rfl,hdn,hdV,fun k hk=>.inl hk⟩⟩
   rcases hc with ⟨c1,c2,c3,c6⟩ | ⟨c1,c2,c6⟩ | ⟨c1,c2,c6⟩ | ⟨c1,c2,c3,c6⟩ | ⟨c1,c2,c3,c4,c5⟩
   ·push_cast[h0,h4,h5,c1,c2,c3]
    exact Am (H:=rH s dn) (J:=[_,_,_]) (FF s dn) rfl ⟨s,dn,same _ (by rw[c6]) (by rw[c6];rfl),rfl⟩
   ·have hS:=Wb hu hN hwb dn x.name y (hxv.2 _ (AC.2 (.inl ⟨c1,rfl⟩))) hyv hyw
    by_cases c3:y.var=true
    ·have c4:x.name≠y.name:=fun e=>c2 ⟨c3,e⟩
     push_cast[h0,h4,h5,c1,c3,c4]
     refine Q5 (J:=[_,_,_]) (by push_cast[p0]) hS ?_
     intro x' s' dn' hR
     have hf:=fin x.name y c6 x' s' dn' hR
     obtain⟨rfl,_,_⟩:=hR
     push_cast
     exact Am (H:=rH s' dn') (J:=[_,_,_]) (FF s' dn') rfl ⟨s',dn',hf,rfl⟩
    ·have c3:y.var=false:=by simpa using c3
     push_cast[h0,h4,h5,c1,c3]
     refine Q5 (J:=[_,_,_]) (by push_cast[p0]) hS ?_
     intro x' s' dn' hR
     have hf:=fin x.name y c6 x' s' dn' hR
     obtain⟨rfl,_,_⟩:=hR
     push_cast
     exact Am (H:=rH s' dn') (J:=[_,_,_]) (FF s' dn') rfl ⟨s',dn',hf,rfl⟩
   ·have hS:=Wb hu hN hwb dn y.name x (hyv.2 _ (AC.2 (.inl ⟨c2,rfl⟩))) hxv hxw
    push_cast[h0,h4,h5,c1,c2]
    refine Q5 (J:=[_,_,_]) (by push_cast[p0]) hS ?_
    intro x' s' dn' hR
    have hf:=fin y.name x c6 x' s' dn' hR
    obtain⟨rfl,_,_⟩:=hR
    push_cast
    exact Am (H:=rH s' dn') (J:=[_,_,_]) (FF s' dn') rfl ⟨s',dn',hf,rfl⟩
   ·by_cases hn:x.name=y.name
    ·have hlen:((x.args.length:Int)=(y.args.length:Int))=False:=eq_false (by rcases c3 with h | h;exact absurd hn h;omega)
     push_cast[h0,h4,h5,c1,c2,hn,hlen]
     exact Am (H:=rH s dn) (J:=[_,_,_]) (FF s dn) rfl ⟨s,dn,same _ (by rw[c6]) (by rw[c6];rfl),rfl⟩
    ·push_cast[h0,h4,h5,c1,c2,hn]
     exact Am (H:=rH s dn) (J:=[_,_,_]) (FF s dn) rfl ⟨s,dn,same _ (by rw[c6]) (by rw[c6];rfl),rfl⟩
   ·have hlen2:((x.args.length:Int)=(y.args.length:Int))=True:=eq_true (by omega)
    push_cast[h0,h4,h5,h7,h8,c1,c2,c3,hlen2]
    have hsx:∀ θ,Sat θ s->∀ c∈x.args,size (app θ c)<size (app θ a):=fun θ hθ c hc=>by
     rw[<-hxs θ hθ,B7 c1]
     have h2:size (Term.mk x.name false (x.args.map (app θ)))=1+Ab (x.args.map (app θ)):=rfl
     have h3:=Bp (List.mem_map_of_mem (f:=app θ) hc)
     omega
    refine Ac (n:=x.args.length) (R:=fun k=>∀ (s':List A6)(σ':Sub)(rk':Str->Nat)(dn':List Key),UOk s' σ' rk'->NOk s' Vs->WB s'->(∀ θ,Sat θ s'->Sat θ s)->dn'.Nodup->(∀ k∈dn',k.1∈Vs/\k.2∈Vs)->(∀ k∈dn',k∈dn\/(PB s' k/\∀ θ,Sat θ s'->size (θ k.1)<size (app θ a)))->AE (AX n) s' (x.args.drop k) (y.args.drop k)=some r ->
     BL.L4 (.ptr 0 0) (.ptr 2 0) (.ptr 3 0) (.ro [.str a.name,.str b.name] 0) (.bool both) (.int .i64 x.args.length) (.int .i64 k) 2 (rHl s' dn' [.cells A3 (cT x),.cells A3 (cT y),.dead]) (Bv 2 BL.rs fun x H'=>∃ s' dn',kV Vs dn a r x s' dn'/\H'=rH s' dn')) ?_ ?_ 0 (by omega) s σ rk dn hu hN hwb (fun _ h=>h) hdn hdV (fun k hk=>.inl hk) c5
    ·intro k hk ih2 s' σ' rk' dn' hu' hN' hwb' hsat hdn' hdV' hkeys hsol
     have hk2:k<y.args.length:=by omega
     have hmx:=A4 hk
     have hmy:=A4 hk2
     rw[Ak hk,Ak hk2]at hsol
     generalize hc:x.args.getD k default=c at hmx hsol
     generalize he:y.args.getD k default=e at hmy hsol
     simp only[AE]at hsol
     cases hf:AX n s' c e with
     | none=>rw[hf]at hsol;cases hsol
     | some p =>
      obtain⟨s1,ok⟩:=p
      rw[hf]at hsol
      have hcall:=ih s' σ' rk' dn' c e (s1,ok) hu' hN' hwb' (hxv.arg hmx) (hyv.arg hmy) (E9 hxw hmx) (E9 hyw hmy) hf (fun k hk=>by
       rcases hkeys k hk with h | h
       ·exact fun θ hθ=>hd k h θ (hsat θ hθ)
       ·exact h.1) hdn' hdV'
      obtain⟨σ2,rk2,hok2⟩:=Fm n s' σ' rk' c e (s1,ok) hu' (hxv.arg hmx).1 (hyv.arg hmy).1 hf
      refine A8.2 ?_
      push_cast[ilt hk,ilt hk2,hc,he]
      refine Q5 (J:=[_,_,_]) (by push_cast[p0]) hcall ?_
      intro x' s2 dn2 hR
      obtain⟨rfl,hR⟩:=hR
      cases ok with
      | false =>
       simp only[Option.some.injEq]at hsol
       push_cast
       exact Am (H:=rH s2 dn2) (J:=[_,_,_]) (FF s2 dn2) rfl ⟨s2,dn2,⟨by rw[<-hsol];rfl,fun h=>by rw[<-hsol]at h;cases h⟩,rfl⟩
      | true =>
       obtain⟨rfl,hm1,hm2,hm3⟩:=hR rfl
       push_cast[w64 (show k<2^62 by omega)]
       have:=ih2 s2 σ2 rk2 dn2 hok2.ok (hN'.solve (hxv.arg hmx) (hyv.arg hmy) hf) (hwb'.solve (E9 hxw hmx) (E9 hyw hmy) hf) (fun θ hθ=>hsat θ (hθ.mono hok2.ext)) hm1 hm2 (fun k hk=>by
        rcases hm3 k hk with h | h
        ·rcases hkeys k h with h | h
         ·exact .inl h
         ·exact .inr ⟨fun θ hθ=>h.1 θ (hθ.mono hok2.ext),fun θ hθ=>h.2 θ (hθ.mono hok2.ext)⟩
        ·refine .inr ⟨h.1,fun θ hθ=>?_⟩
         have h1:=h.2 θ hθ
         have h2:=hsx θ (hsat θ (hθ.mono hok2.ext)) c hmx
         omega) hsol
       push_cast at this
       exact this
    ·intro s' σ' rk' dn' hu' hN' hwb' hsat hdn' hdV' hkeys hsol
     rw[An]at hsol
     simp only[AE,Option.some.injEq]at hsol
     subst hsol
     refine A8.2 ?_
     have hdl':=WD hdn' hdV'
     have hkeep:∀ k∈dn',k∈dn\/(PB s' k/\∀ θ,Sat θ s'->size (θ k.1)<=size (app θ a)):=fun k hk=>by
      rcases hkeys k hk with h | h
      ·exact .inl h
      ·exact .inr ⟨h.1,fun θ hθ=>Nat.le_of_lt (h.2 θ hθ)⟩
     cases both with
     | false =>
      push_cast[B6 (Nat.le_refl _)]
      exact Am (H:=rH s' dn') (J:=[_,_,_]) (FF s' dn') rfl ⟨s',dn',⟨rfl,fun _=>⟨rfl,hdn',hdV',hkeep⟩⟩,rfl⟩
     | true =>
      rw[Bool.and_eq_true]at hbo
      have hroom:(dn'.length+1)*32<=Ag:=TY (show dn'.length<2^40 by omega) (show 32<=64 by omega)
      have hown:∀ i,(.own i 2 (dn'.map cK++[[V.str a.name,V.str b.name]]):V)=Bc cK i 2 (dn'++[(a.name,b.name)]):=fun i=>by simp[Bc,cK]
      push_cast[B6 (Nat.le_refl _),hroom,hown]
      have hlen3:dn'.length+1=(dn'++[(a.name,b.name)]).length:=by simp
      rw[hlen3]
      have hdone:∀ θ,Sat θ s'->θ a.name=θ b.name:=fun θ hθ=>by
       have h4:=hok.eq rfl
       have h5:=hok.ok.sat_app hθ a
       have h6:=hok.ok.sat_app hθ b
       rw[h4,<-h6,Av hbo.1,Av hbo.2]at h5
       exact h5
      refine Am (H:=rH s' (dn'++[(a.name,b.name)])) (J:=[_,_,_]) (FF s' _) rfl ⟨s',_,⟨rfl,fun _=>⟨rfl,?_,fun k hk=>?_,fun k hk=>?_⟩⟩,rfl⟩
      ·rw[List.nodup_append]
       refine⟨hdn',by simp,fun k hk q hq e=>?_⟩
       rw[List.mem_singleton.1 hq]at e
       subst e
       rcases hkeys _ hk with h | h
       ·exact hkey rfl h
       ·have:=h.2 σ' hu'.sat
        rw[Av hbo.1]at this
        exact absurd this (Nat.lt_irrefl _)
      ·rcases List.mem_append.1 hk with h | h
       ·exact hdV' k h
       ·rw[List.mem_singleton.1 h]
        exact⟨ha.2 _ (AC.2 (.inl ⟨hbo.1,rfl⟩)),hb.2 _ (AC.2 (.inl ⟨hbo.2,rfl⟩))⟩
      ·rcases List.mem_append.1 hk with h | h
       ·exact hkeep k h
       ·rw[List.mem_singleton.1 h]
        exact .inr ⟨hdone,fun θ hθ=>by rw[Av hbo.1];exact Nat.le_refl _⟩
  have rest:∀ (T:T),lk T 0=.ptr 0 0->lk T 4=.ptr 2 0->lk T 5=.ptr 3 0->lk T 7=.ro [.str a.name,.str b.name] 0->lk T 8=.bool (a.var && b.var) ->
    Run prog BL.nd 2 [.c (.n 7)] T (rHl s dn [.cells A3 (cT a),.cells A3 (cT b),.dead]) (Bv 2 BL.rs fun x H'=>∃ s' dn',kV Vs dn a r x s' dn'/\H'=rH s' dn'):=by
   intro T h0 h4 h5 h7 h8
   have hK:=cg s dn (by omega) a.name b.name
   have hK2:=Spec.mono hK (Q':=fun x' H'=>∃ s' dn',(x'=.bool (decide ((a.name,b.name)∈dn))/\s'=s/\dn'=dn)/\H'=rH s' dn') fun x' H' h=>⟨_,_,⟨h.1,rfl,rfl⟩,h.2⟩
   rw[rc]
   simp only[BL.nd]
   generalize hC:C.n 6=c6
   cases hbo:(a.var && b.var)with
   | true =>
    rw[hbo]at h8
    push_cast[h0,h4,h5,h7,h8]
    refine Q5 (J:=[_,_,_]) (by push_cast[p0]) hK2 ?_
    rintro x' s' dn' ⟨rfl,rfl,rfl⟩
    by_cases hm:(a.name,b.name)∈dn'
    ·push_cast[hm]
     rw[Bool.and_eq_true]at hbo
     have hrr:r=(s',true):=VL hu (n+1) a b r ha.1 hb.1 hr (by rw[Av hbo.1,Av hbo.2];exact hd _ hm σ hu.sat)
     exact Am (H:=rH s' dn') (J:=[_,_,_]) (FF s' dn') rfl ⟨s',dn',⟨by rw[hrr];rfl,fun _=>⟨by rw[hrr],hdn,hdV,fun k hk=>.inl hk⟩⟩,rfl⟩
    ·push_cast[hm]
     subst hC
     exact rest2 _ true hbo (fun _=>hm) h0 h4 h5 h7 h8
   | false =>
    rw[hbo]at h8
    push_cast[h0,h4,h5,h7,h8]
    subst hC
    exact rest2 _ false hbo (fun h=>by cases h) h0 h4 h5 h7 h8
  refine AJ mixed BL.ok rfl ?_
  unfold BL.body
  generalize hC:C.n 7=c7
  cases hva:a.var with
  | false =>
   push_cast[hva]
   subst hC
   refine⟨⟨?_,?_,?_⟩,⟨?_,?_⟩,?_⟩ <;> exact rest _ rfl rfl rfl rfl (by rw[hva];rfl)
  | true =>
   push_cast[hva]
   subst hC
   refine⟨⟨?_,?_,?_⟩,⟨?_,?_⟩,?_⟩ <;> exact rest _ rfl rfl rfl rfl (by rw[hva];rfl)
end Go.Dw
end
section
namespace Go.Dw
theorem Zf {s:List A6}:∀ {k n:Nat} {t h:Term},DE k s t=some h->FG s n t->FG s n h
 | 0,_,_,_,h,_=>by cases h
 | k+1,0,_,_,_,hn=>hn.elim
 | k+1,n+1,t,h,hh,hn=>by
  simp only[DE]at hh
  split at hh
  ·rename_i hv
   cases hi:Ad s t.name with
   | none=>rw[hi]at hh;cases hh;exact hn
   | some y =>
    rw[hi]at hh
    simp only[FG,if_pos hv]at hn
    exact (Zf hh (hn y hi)).mono (Nat.le_succ n)
  ·cases hh;exact hn
theorem Ws {s:List A6}:∀ (n:Nat)(t:Term),FG s n t->∃ h,DE n s t=some h
 | 0,_,h=>h.elim
 | n+1,t,h=>by
  simp only[FG]at h
  simp only[DE]
  cases hv:t.var with
  | true =>
   rw[if_pos hv]at h
   rw[if_pos rfl]
   cases hi:Ad s t.name with
   | none=>exact⟨t,rfl⟩
   | some x=>exact Ws n x (h x hi)
  | false=>exact⟨t,by simp⟩
theorem Y4 {s:List A6}{σ:Sub}{rk:Str->Nat}(hu:UOk s σ rk)(hl:s.length<2^62)(hwb:WB s):∀ (n:Nat)(t:Term),FG s n t->vfl t=true->D6 t<2^40->PF Jl [Bf s,Ao t] (Ao (app σ t)):=by
 intro n
 induction n with
 | zero=>intro t h;exact h.elim
 | succ n ih =>
  intro t hn ht hw
  obtain⟨h,hh⟩:=Ws (n+1) t hn
  have hW:=Rw hl (n+1) t h hh
  have hhn:=Zf hh hn
  have hhv:vfl h=true:=C0 (P:=fun t=>vfl t=true) hu.vf ht hh
  have hhw:D6 h<2^40:=C0 (P:=fun t=>D6 t<2^40) hwb hw hh
  rw[<-HQ hu.sat hh]
  have hfree:h.var=true->Ad s h.name=none:=DY hh
  clear hh hn
  refine Aa JQ.ok rfl ?_
  push_cast
  refine .of hW ?_
  cases hv:h.var with
  | true =>
   have e:app σ h=h:=by rw[Av hv,hu.free _ (hfree hv)];exact (Q0 hhv hv).symm
   rw[e]
   push_cast[hv]
   exact A1 (by push_cast[JQ.rs])
  | false =>
   simp only[FG]at hhn
   rw[if_neg (by simp[hv])]at hhn
   rw[B7 hv]
   have hwa:=DV h
   push_cast[hv]
   refine Ac (n:=h.args.length) (R:=fun k=>JQ.L3 (Bf s) (.ptr 1 0) (.ptr 2 0) (Bd h.args) (.int .i64 h.args.length) (.int .i64 k) 0
    [.cells A3 (cT h),.cells A3 [.str [],.bool false,.sl 3 []],.cells A3 [.str h.name,.bool false,Bc cT 3 3 ((h.args.map (app σ)).take k)],.arr A3 3 k] _) ?_ ?_ 0 (by omega)
   ·intro k hk ih2
    have hme:=A4 hk
    have hk2:k<(h.args.map (app σ)).length:=by simpa using hk
    have hlt:((h.args.map (app σ)).take k).length=k:=by simp;omega
    have hge:(h.args.map (app σ)).getD k default=app σ (h.args.getD k default):=by
     simp[List.getD_eq_getElem?_getD,hk]
    have hc:=ih _ (hhn _ hme) (BF hhv hme) (E9 hhw hme)
    rw[A9 hk2,hge]at ih2
    refine A8.2 ?_
    push_cast[ilt hk]
    refine .of hc ?_
    push_cast[hlt,TY (show k<2^40 by omega) (show 48<=64 by omega),w64 (show k<2^62 by omega)]
    push_cast at ih2
    exact ih2
   ·refine A8.2 ?_
    push_cast[B6 (Nat.le_refl _)]
    rw[List.take_of_length_le (by simp)]
    refine A1 ?_
    push_cast[JQ.rs]
    rw[Ao,Oq];rfl
def cNt (n:Nat):List V:=[.int .i64 n]
theorem qO {σ:Nat->Option Nat}(l:List Nat):(l.map cNt).map (AP σ)=l.map cNt:=by rw[List.map_map];rfl
attribute [push_cast] qO
abbrev GJ (l:List Nat):Ob:=.row EA 1 (l.map cNt)
abbrev msH (sz dp:List Nat):List Ob:=[GJ sz,GJ dp]
theorem ZR (sz dp:List Nat):ID 2 (msH sz dp):=⟨rfl,by
 show [A5 (AK 2) (GJ sz),A5 (AK 2) (GJ dp)]=_
 push_cast⟩
def fvR:List A6->List Nat->List Nat->Str->Nat×Nat
 | b::s,x::sz,y::dp,v=>if b.name=v then (x,y) else fvR s sz dp v
 | _,_,_,_=>(1,1)
mutual
def OA (f:Str->Nat×Nat):Term->Nat×Nat
 | .mk n v l=>if v then f n else ((Je f 1 0 l).1,min (Je f 1 0 l).2 200+1)
def Je (f:Str->Nat×Nat)(c e:Nat):List Term->Nat×Nat
 | []=>(c,e)
 | a::l=>Je f (min (c+(OA f a).1) 4001) (max e (OA f a).2) l
end
theorem WE (f:Str->Nat×Nat)(t:Term):OA f t=if t.var then f t.name else ((Je f 1 0 t.args).1,min (Je f 1 0 t.args).2 200+1):=by cases t;simp only[OA];rfl
theorem YD {f:Str->Nat×Nat}:∀ (l:List Term)(c e:Nat),c<=4001->(Je f c e l).1<=4001
 | [],c,e,h=>h
 | a::l,c,e,h=>YD l _ _ (by omega)
theorem eZ {f:Str->Nat×Nat}(hf:∀ v,(f v).1<=4001/\(f v).2<=201)(t:Term):(OA f t).1<=4001/\(OA f t).2<=201:=by
 rw[WE]
 split
 ·exact hf _
 ·exact⟨YD _ _ _ (by omega),by show min _ 200+1<=201;omega⟩
theorem Y0 (s:List A6)(sz dp:List Nat)(h1:sz.length=s.length)(h2:dp.length=s.length)(hl:s.length<2^62)(hf:∀ v,(fvR s sz dp v).1<=4001/\(fvR s sz dp v).2<=201)(t:Term):D6 t<2^40 ->
  Spec prog Jv [Bf s,.rw 0 1 s.length,.rw 1 1 s.length,Ao t] (msH sz dp) fun x H'=>x=.tup [.int .i64 (OA (fvR s sz dp) t).1,.int .i64 (OA (fvR s sz dp) t).2]/\H'=msH sz dp:=by
 induction t using Af with
 | h t ih =>
 intro hw
 have hwa:=DV t
 refine AJ mixed JM.ok rfl ?_
 rw[WE]
 cases hv:t.var with
 | true =>
  rw[if_pos rfl]
  push_cast[hv]
  refine Ac (n:=s.length) (R:=fun k=>fvR (s.drop k) (sz.drop k) (dp.drop k) t.name=fvR s sz dp t.name->JM.L8 (.rw 0 1 s.length) (.rw 1 1 s.length) (.ro (cT t) 0) (Bf s) (.int .i64 s.length) (.int .i64 k) 2 (msH sz dp) _) ?_ ?_ 0 (by omega) rfl
  ·intro k hk ih2 he
   have k1:k<sz.length:=by omega
   have k2:k<dp.length:=by omega
   rw[Ak hk,Ak k1,Ak k2]at he
   simp only[fvR]at he
   generalize hb:s.getD k default=b at he
   have g1:(sz.map cNt)[k]?=some (cNt (sz.getD k default)):=by simp[List.getD_eq_getElem?_getD,k1]
   have g2:(dp.map cNt)[k]?=some (cNt (dp.getD k default)):=by simp[List.getD_eq_getElem?_getD,k2]
   generalize hx:sz.getD k default=x at he g1
   generalize hy:dp.getD k default=y at he g2
   refine A8.2 ?_
   by_cases h:b.name=t.name
   ·rw[if_pos h]at he
    rw[<-he]
    have g0:∀ x,(cNt x)[0]?=some (.int .i64 x):=fun _=>rfl
    push_cast[ilt hk,hb,h,g1,g2,g0,List.length_map,h1,h2]
    exact Am (H:=msH sz dp) (J:=[_]) (ZR sz dp) rfl ⟨rfl,rfl⟩
   ·rw[if_neg h]at he
    push_cast[ilt hk,hb,h,w64 (show k<2^62 by omega)]
    exact ih2 he
  ·intro he
   rw[An]at he
   refine A8.2 ?_
   push_cast[B6 (Nat.le_refl _)]
   rw[<-he]
   exact Am (H:=msH sz dp) (J:=[]) (ZR sz dp) rfl ⟨rfl,rfl⟩
 | false =>
  rw[if_neg (by simp)]
  push_cast[hv]
  refine Ac (n:=t.args.length) (R:=fun k=>∀ (c e:Nat),c<=4001->e<=201->Je (fvR s sz dp) c e (t.args.drop k)=Je (fvR s sz dp) 1 0 t.args->JM.L3 (Bf s) (.rw 0 1 s.length) (.rw 1 1 s.length) (.int .i64 c) (.int .i64 e) (Bd t.args) (.int .i64 t.args.length) (.int .i64 k) 2 (msH sz dp) _) ?_ ?_ 0 (by omega) 1 0 (by omega) (by omega) rfl
  ·intro k hk ih2 c e hc he heq
   have hme:=A4 hk
   rw[Ak hk]at heq
   simp only[Je]at heq
   have hcall:=ih (t.args.getD k default) hme (E9 hw hme)
   have hle:=eZ hf (t.args.getD k default)
   generalize OA (fvR s sz dp) (t.args.getD k default)=p at hcall heq hle
   obtain⟨a1,b1⟩:=p
   simp only at hle heq
   obtain⟨c1,hc1⟩:∃ c1,c1=min (c+a1) 4001:=⟨_,rfl⟩
   obtain⟨e1,he1⟩:∃ e1,e1=max e b1:=⟨_,rfl⟩
   rw[<-hc1,<-he1]at heq
   have hw1:IntKind.i64.wrap ((c:Int)+(a1:Int))=(c:Int)+a1:=Bq (by omega) (by omega)
   have hmn:(if (4001:Int)<(c:Int)+(a1:Int) then (4001:Int) else (c:Int)+(a1:Int))=(c1:Int):=by split <;> omega
   have hmx:(if (e:Int)<(b1:Int) then (b1:Int) else (e:Int))=(e1:Int):=by split <;> omega
   refine A8.2 ?_
   push_cast[ilt hk]
   have h0:Aw [0,1] 0=some 0:=rfl
   have h1:Aw [0,1] 1=some 1:=rfl
   refine Bt.some [0,1] (by simp) (by simp) (R:=fun x' H'=>x'=.tup [.int .i64 a1,.int .i64 b1]/\H'=msH sz dp) ?_ ?_
   ·have e:give [0,1] (msH sz dp++[.dead])=msH sz dp:=by
     show [A5 (Aw [0,1]) (GJ sz),A5 (Aw [0,1]) (GJ dp)]=_
     push_cast
    push_cast[h0,h1]
    push_cast at e
    rw[e]
    exact hcall
   rintro x' H' ⟨rfl,rfl⟩ _
   have e:takeB [0,1] (msH sz dp++[.dead]) (msH sz dp)=msH sz dp++[.dead]:=by
    show [A5 (BT [0,1] 3) (GJ sz),A5 (BT [0,1] 3) (GJ dp),.dead]=_
    push_cast
   push_cast at e
   rw[e]
   have this:=ih2 c1 e1 (by omega) (by omega) heq
   push_cast[hw1,hmn,hmx,<-he1,w64 (show k<2^62 by omega)]
   push_cast at this
   exact this
  ·intro c e hc he heq
   rw[An]at heq
   simp only[Je]at heq
   rw[<-heq]
   obtain⟨e1,he1⟩:∃ e1,e1=min e 200:=⟨_,rfl⟩
   have hmn:(if (200:Int)<(e:Int) then (200:Int) else (e:Int))=(e1:Int):=by split <;> omega
   refine A8.2 ?_
   simp only[<-he1]
   push_cast[B6 (Nat.le_refl _),hmn,<-he1,w64 (show e1<2^62 by omega)]
   exact Am (H:=msH sz dp) (J:=[]) (ZR sz dp) rfl ⟨by push_cast[JM.rs],rfl⟩
def mtU (σ:Sub)(t:Term):Nat×Nat:=(min (size (app σ t)) 4001,min (depth (app σ t)) 201)
theorem dG {σ:Sub}{f:Str->Nat×Nat}(t:Term):(∀ w,occ w t=true->f w=mtU σ (BS w))->OA f t=mtU σ t:=by
 induction t using Af with
 | h t ih =>
 intro h
 rw[WE]
 cases hv:t.var with
 | true =>
  rw[if_pos rfl,h _ (AC.2 (.inl ⟨hv,rfl⟩))]
  unfold mtU
  rw[Av (t:=BS t.name) rfl,Av hv];rfl
 | false =>
  rw[if_neg (by simp)]
  have key:∀ (l:List Term)(c e:Nat)(S D:Nat),(∀ a∈l,a∈t.args)->c=min S 4001->e=min D 201->Je f c e l=(min (S+Ab (l.map (app σ))) 4001,min (max D (AA (l.map (app σ)))) 201):=by
   intro l
   induction l with
   | nil=>intro c e S D _ hc he;simp[Je,Ab,AA,hc,he]
   | cons a l ihl =>
    intro c e S D hl hc he
    simp only[Je]
    have ha:=ih a (hl a (by simp)) fun w hw=>h w (AC.2 (.inr ⟨a,hl a (by simp),hw⟩))
    rw[ha]
    rw[ihl _ _ (S+size (app σ a)) (max D (depth (app σ a))) (fun b hb=>hl b (by simp[hb])) (by simp only[mtU];omega) (by simp only[mtU];omega)]
    simp only[List.map_cons,Ab,AA]
    congr 1 <;> omega
  rw[key t.args 1 0 1 0 (fun _ h=>h) (by omega) (by omega)]
  have e1:size (app σ t)=1+Ab (t.args.map (app σ)):=by rw[B7 hv];rfl
  have e2:depth (app σ t)=AA (t.args.map (app σ))+1:=by rw[B7 hv];rfl
  unfold mtU
  rw[e1,e2]
  congr 1
  simp only;omega
theorem sv:∀ {s:List A6} {sz dp:List Nat} {i:Nat},(s.map (·.name)).Nodup->sz.length=s.length->dp.length=s.length->i<s.length->fvR s sz dp (s.getD i default).name=(sz.getD i 0,dp.getD i 0)
 | [],_,_,i,_,_,_,h=>by simp at h
 | b::s,[],_,i,_,h,_,_=>by simp at h
 | b::s,x::sz,[],i,_,_,h,_=>by simp at h
 | b::s,x::sz,y::dp,0,_,_,_,_=>by simp[fvR]
 | b::s,x::sz,y::dp,i+1,hn,h1,h2,hi=>by
  simp only[List.map_cons,List.nodup_cons]at hn
  have hi:i<s.length:=by simpa using hi
  have hne:b.name≠(s.getD i default).name:=fun e=>hn.1 (by rw[e];exact List.mem_map_of_mem (f:=(·.name)) (A4 hi))
  have e:(b::s).getD (i+1) default=s.getD i default:=by simp
  rw[e]
  simp only[fvR]
  rw[if_neg hne,sv hn.2 (by simpa using h1) (by simpa using h2) hi]
  simp
theorem ca:∀ {s:List A6} {sz dp:List Nat} {v:Str},Ad s v=none->fvR s sz dp v=(1,1)
 | [],_,_,_,_=>rfl
 | b::s,[],_,_,_=>rfl
 | b::s,x::sz,[],_,_=>rfl
 | b::s,x::sz,y::dp,v,h=>by
  simp only[Ad]at h
  simp only[fvR]
  split at h
  ·cases h
  ·rename_i hne
   rw[if_neg hne]
   exact ca h
theorem fM:∀ {s:List A6} {sz dp:List Nat} {v:Str},(∀ x∈sz,x<=4001)->(∀ x∈dp,x<=201)->(fvR s sz dp v).1<=4001/\(fvR s sz dp v).2<=201
 | [],_,_,_,_,_=>by simp[fvR]
 | b::s,[],_,_,_,_=>by simp[fvR]
 | b::s,x::sz,[],_,_,_=>by simp[fvR]
 | b::s,x::sz,y::dp,v,h1,h2=>by
  simp only[fvR]
  split
  ·exact⟨h1 x (by simp),h2 y (by simp)⟩
  ·exact fM (fun z hz=>h1 z (by simp[hz])) (fun z hz=>h2 z (by simp[hz]))
theorem ZV {s:List A6}(h:Dp s):(s.map (·.name)).Nodup:=by
 rw[List.nodup_iff_pairwise_ne,List.pairwise_map]
 exact h.imp fun {a b} hab e=>by rw[e]at hab;exact Df _ hab
def Nq (σ:Sub)(s:List A6)(sz dp:List Nat)(i:Nat):Prop:=(sz.getD i 0,dp.getD i 0)=mtU σ (BS (s.getD i default).name)
def gx (σ:Sub)(rk:Str->Nat)(s:List A6)(sz dp:List Nat)(k:Nat):Prop:=∀ i,i<s.length->cnt s rk (s.getD i default).name<=k->Nq σ s sz dp i
theorem iz {s:List A6}{σ:Sub}{rk:Str->Nat}(hu:UOk s σ rk){sz dp:List Nat}(h1:sz.length=s.length)(h2:dp.length=s.length){k:Nat}(hr:gx σ rk s sz dp k){j:Nat}(hj:j<s.length)(hc:cnt s rk (s.getD j default).name<=k+1) :
  OA (fvR s sz dp) (s.getD j default).term=mtU σ (BS (s.getD j default).name):=by
 have hb:=A4 hj
 have hi:=EY hu.srt hb
 have e:mtU σ (BS (s.getD j default).name)=mtU σ (s.getD j default).term:=by
  unfold mtU
  rw[Av (t:=BS (s.getD j default).name) rfl,show (BS (s.getD j default).name).name=(s.getD j default).name from rfl,hu.fix _ _ hi]
 rw[e]
 refine dG _ fun w hw=>?_
 cases hw2:Ad s w with
 | none =>
  rw[ca hw2]
  unfold mtU
  rw[Av (t:=BS w) rfl,show (BS w).name=w from rfl,hu.free w hw2];rfl
 | some x =>
  obtain⟨i,hi2,e2⟩:=List.getElem_of_mem (He hw2)
  have e3:s.getD i default=⟨w,x⟩:=by simp[List.getD_eq_getElem?_getD,hi2,e2]
  have h4:=hu.cnt_lt hi hw
  have h5:=hr i hi2 (by rw[e3];show cnt s rk w<=k;omega)
  have h6:=sv (ZV hu.srt) h1 h2 hi2
  unfold Nq at h5
  rw[e3]at h5 h6
  rw[h6];exact h5
theorem dq {l:List Nat}{j i x:Nat}(hj:j<l.length):(l.set j x).getD i 0=if i=j then x else l.getD i 0:=by
 simp only[List.getD_eq_getElem?_getD,List.getElem?_set]
 by_cases h:j=i
 ·subst h;rw[if_pos rfl,if_pos rfl,if_pos hj];rfl
 ·rw[if_neg h,if_neg (fun e=>h e.symm)]
theorem nI {l:List Nat}{j x m:Nat}(h:∀ y∈l,y<=m)(hx:x<=m):∀ y∈l.set j x,y<=m:=fun y hy=>by
 rcases List.mem_or_eq_of_mem_set hy with h2 | h2
 ·exact h y h2
 ·rw[h2];exact hx
end Go.Dw
end
section
namespace Go.Dw
theorem ed {s:List A6}{σ:Sub}{rk:Str->Nat}(hu:UOk s σ rk)(hl:s.length<2^38)(hwb:WB s):PF PV [Bf s] (.bool (Fi s)):=by
 have hsig:=S0 hu
 have hc0:∀ x:Nat,(cNt x)[0]?=some (.int .i64 x):=fun _=>rfl
 have main:∀ (i j:Nat)(Hf:List Nat->List Nat->List Ob),((i=0/\j=1/\Hf=fun sz dp=>[GJ sz,GJ dp])\/(i=1/\j=0/\Hf=fun sz dp=>[GJ dp,GJ sz])) ->
   Ck.L10 (Bf s) (.rw i 1 s.length) (.rw j 1 s.length) (.int .i64 s.length) (.int .i64 0) 0 (Hf (List.replicate s.length 0) (List.replicate s.length 0)) (Bv 0 Ck.rs fun x H=>x=.bool (Fi s)/\H=[]):=by
  intro i j Hf hcase
  refine Ac (n:=s.length) (R:=fun r=>∀ sz dp:List Nat,sz.length=s.length->dp.length=s.length->(∀ x∈sz,x<=4001)->(∀ x∈dp,x<=201)->gx σ rk s sz dp r->Ck.L10 (Bf s) (.rw i 1 s.length) (.rw j 1 s.length) (.int .i64 s.length) (.int .i64 r) 0 (Hf sz dp) (Bv 0 Ck.rs fun x H=>x=.bool (Fi s)/\H=[])) ?_ ?_ 0 (Nat.zero_le _) _ _ (by simp) (by simp) (fun x hx=>by rw[List.eq_of_mem_replicate hx];omega) (fun x hx=>by rw[List.eq_of_mem_replicate hx];omega) ?_
  ·intro r hr ih sz dp h1 h2 hs1 hs2 hR
   have inner:Ck.L8 (Bf s) (.rw i 1 s.length) (.rw j 1 s.length) (.int .i64 s.length) (.int .i64 r) (Bf s) (.int .i64 s.length) (.int .i64 0) 0 (Hf sz dp) (Bv 0 Ck.rs fun x H=>x=.bool (Fi s)/\H=[]):=by
    refine Ac (n:=s.length) (R:=fun k=>∀ sz dp:List Nat,sz.length=s.length->dp.length=s.length->(∀ x∈sz,x<=4001)->(∀ x∈dp,x<=201)->gx σ rk s sz dp r->(∀ i,i<k->i<s.length->cnt s rk (s.getD i default).name<=r+1->Nq σ s sz dp i)->Ck.L8 (Bf s) (.rw i 1 s.length) (.rw j 1 s.length) (.int .i64 s.length) (.int .i64 r) (Bf s) (.int .i64 s.length) (.int .i64 k) 0 (Hf sz dp) (Bv 0 Ck.rs fun x H=>x=.bool (Fi s)/\H=[])) ?_ ?_ 0 (Nat.zero_le _) sz dp h1 h2 hs1 hs2 hR (fun i hi=>by omega)
    ·intro k hk ih2 sz dp h1 h2 hs1 hs2 hR hP
     have hb:=A4 hk
     have hi:=EY hu.srt hb
     have hM:=Y0 s sz dp h1 h2 (by omega) (fun v=>fM hs1 hs2) (s.getD k default).term (hwb _ _ hi)
     have hle:=eZ (f:=fvR s sz dp) (fun v=>fM hs1 hs2) (s.getD k default).term
     have hstep:=fun hc=>iz hu h1 h2 hR hk hc
     generalize hp:OA (fvR s sz dp) (s.getD k default).term=p at hM hle hstep
     obtain⟨a1,b1⟩:=p
     have hnew:∀ i,i<s.length->cnt s rk (s.getD i default).name<=r+1->(i<k+1\/cnt s rk (s.getD i default).name<=r)->Nq σ s (sz.set k a1) (dp.set k b1) i:=fun i hi hc hor=>by
      unfold Nq
      rw[dq (show k<sz.length by omega),dq (show k<dp.length by omega)]
      by_cases e:i=k
      ·subst e
       rw[if_pos rfl,if_pos rfl]
       exact hstep hc
      ·rw[if_neg e,if_neg e]
       rcases hor with h | h
       ·exact hP i (by omega) hi hc
       ·exact hR i hi h
     have:=ih2 (sz.set k a1) (dp.set k b1) (by simpa using h1) (by simpa using h2) (nI hs1 hle.1) (nI hs2 hle.2) (fun i hi hc=>hnew i hi (by omega) (.inr hc)) (fun i hik hi hc=>hnew i hi hc (.inl hik))
     have g1:(sz.map cNt)[k]?=some (cNt (sz.getD k 0)):=by simp[List.getD_eq_getElem?_getD,h1,hk]
     have g2:(dp.map cNt)[k]?=some (cNt (dp.getD k 0)):=by simp[List.getD_eq_getElem?_getD,h2,hk]
     have hset0:∀ (l:List Nat)(x:Nat),k<l.length->(l.map cNt).set k (put 0 [V.int .i64 x] ((l.map cNt).getD k []))=(l.set k x).map cNt:=fun l x h=>by
      have e:(l.map cNt).getD k []=cNt (l.getD k 0):=by simp[List.getD_eq_getElem?_getD,h]
      rw[e,List.map_set];rfl
     have hset1:=fun x=>hset0 sz x (by omega)
     have hset2:=fun x=>hset0 dp x (by omega)
     refine A8.2 ?_
     rcases hcase with ⟨rfl,rfl,rfl⟩ | ⟨rfl,rfl,rfl⟩
     ·push_cast[ilt hk]
      have h0:Aw [0,1] 0=some 0:=rfl
      have h1':Aw [0,1] 1=some 1:=rfl
      refine Bt.some [0,1] (by simp) (by simp) (R:=fun x' H'=>x'=.tup [.int .i64 a1,.int .i64 b1]/\H'=msH sz dp) ?_ ?_
      ·have e:give [0,1] [GJ sz,GJ dp,.dead]=msH sz dp:=by
        show [A5 (Aw [0,1]) (GJ sz),A5 (Aw [0,1]) (GJ dp)]=_
        push_cast
       rw[e]
       push_cast[h0,h1']
       exact hM
      rintro x' H' ⟨rfl,rfl⟩ _
      have e:takeB [0,1] [GJ sz,GJ dp,.dead] (msH sz dp)=[GJ sz,GJ dp,.dead]:=by
       show [A5 (BT [0,1] 3) (GJ sz),A5 (BT [0,1] 3) (GJ dp),.dead]=_
       push_cast
      rw[e]
      push_cast[g1,g2,hc0,hset1,hset2,List.length_map,h1,h2,ilt hk,w64 (show k<2^62 by omega)]
      push_cast at this
      exact⟨hk,hk,this⟩
     ·push_cast[ilt hk]
      have h0:Aw [1,0] 0=some 1:=rfl
      have h1':Aw [1,0] 1=some 0:=rfl
      refine Bt.some [1,0] (by simp) (by simp) (R:=fun x' H'=>x'=.tup [.int .i64 a1,.int .i64 b1]/\H'=msH sz dp) ?_ ?_
      ·have e:give [1,0] [GJ dp,GJ sz,.dead]=msH sz dp:=by
        show [A5 (Aw [1,0]) (GJ sz),A5 (Aw [1,0]) (GJ dp)]=_
        push_cast
       rw[e]
       push_cast[h0,h1']
       exact hM
      rintro x' H' ⟨rfl,rfl⟩ _
      have e:takeB [1,0] [GJ dp,GJ sz,.dead] (msH sz dp)=[GJ dp,GJ sz,.dead]:=by
       show [A5 (BT [1,0] 3) (GJ dp),A5 (BT [1,0] 3) (GJ sz),.dead]=_
       push_cast
      rw[e]
      push_cast[g1,g2,hc0,hset1,hset2,List.length_map,h1,h2,ilt hk,w64 (show k<2^62 by omega)]
      push_cast at this
      exact⟨hk,hk,this⟩
    ·intro sz dp h1 h2 hs1 hs2 hR hP
     have:=ih sz dp h1 h2 hs1 hs2 (fun i hi hc=>hP i (by omega) hi hc)
     refine A8.2 ?_
     rcases hcase with ⟨rfl,rfl,rfl⟩ | ⟨rfl,rfl,rfl⟩
     all_goals
      push_cast[B6 (Nat.le_refl _),w64 (show r<2^62 by omega)]
      push_cast at this
      exact this
   refine A8.2 ?_
   rcases hcase with ⟨rfl,rfl,rfl⟩ | ⟨rfl,rfl,rfl⟩
   all_goals
    push_cast[ilt hr]
    exact inner
  ·intro sz dp h1 h2 hs1 hs2 hR
   have hall:∀ k,k<s.length->Nq σ s sz dp k:=fun k hk=>hR k hk (qD s rk _)
   refine A8.2 ?_
   have fin:Ck.L3 (.rw i 1 s.length) (.rw j 1 s.length) (.int .i64 s.length) (.int .i64 0) 0 (Hf sz dp) (Bv 0 Ck.rs fun x H=>x=.bool (Fi s)/\H=[]):=by
    refine Ac (n:=s.length) (R:=fun k=>((s.drop k).any fun b=>!BK (SI s b.name))=Fi s->Ck.L3 (.rw i 1 s.length) (.rw j 1 s.length) (.int .i64 s.length) (.int .i64 k) 0 (Hf sz dp) (Bv 0 Ck.rs fun x H=>x=.bool (Fi s)/\H=[])) ?_ ?_ 0 (Nat.zero_le _) rfl
    ·intro k hk ih he
     rw[Ak hk]at he
     simp only[List.any_cons]at he
     have h4:=hall k hk
     unfold Nq mtU at h4
     rw[Av (t:=BS (s.getD k default).name) rfl,show (BS (s.getD k default).name).name=(s.getD k default).name from rfl]at h4
     rw[hsig]at he
     generalize σ (s.getD k default).name=u at h4 he
     injection h4 with e1 e2
     have g1:(sz.map cNt)[k]?=some (cNt (sz.getD k 0)):=by simp[List.getD_eq_getElem?_getD,h1,hk]
     have g2:(dp.map cNt)[k]?=some (cNt (dp.getD k 0)):=by simp[List.getD_eq_getElem?_getD,h2,hk]
     rw[e1]at g1
     rw[e2]at g2
     have hfe:BK u=(decide (size u<=4000) && decide (depth u<=200)):=rfl
     generalize hp1:min (size u) 4001=p1 at g1
     generalize hp2:min (depth u) 201=p2 at g2
     refine A8.2 ?_
     by_cases c1:size u<=4000
     ·by_cases c2:depth u<=200
      ·have i1:((4000:Int)<(p1:Int))=False:=eq_false (by omega)
       have i2:((200:Int)<(p2:Int))=False:=eq_false (by omega)
       have hq:BK u=true:=by rw[hfe];simp[c1,c2]
       rw[hq]at he
       have this:=ih (by simpa[hsig]using he)
       rcases hcase with ⟨rfl,rfl,rfl⟩ | ⟨rfl,rfl,rfl⟩
       all_goals
        push_cast[ilt hk,g1,g2,hc0,i1,i2,List.length_map,h1,h2,w64 (show k<2^62 by omega)]
        push_cast at this
        exact this
      ·have i1:((4000:Int)<(p1:Int))=False:=eq_false (by omega)
       have i2:((200:Int)<(p2:Int))=True:=eq_true (by omega)
       have hq:BK u=false:=by rw[hfe];simp[c1,c2]
       rw[hq]at he
       have hh:Fi s=true:=by rw[<-he];simp
       rw[hh]
       rcases hcase with ⟨rfl,rfl,rfl⟩ | ⟨rfl,rfl,rfl⟩
       all_goals
        push_cast[ilt hk,g1,g2,hc0,i1,i2,List.length_map,h1,h2]
        exact A1 (by push_cast[Ck.rs])
     ·have i1:((4000:Int)<(p1:Int))=True:=eq_true (by omega)
      have hq:BK u=false:=by rw[hfe];simp[c1]
      rw[hq]at he
      have hh:Fi s=true:=by rw[<-he];simp
      rw[hh]
      rcases hcase with ⟨rfl,rfl,rfl⟩ | ⟨rfl,rfl,rfl⟩
      all_goals
       push_cast[ilt hk,g1,g2,hc0,i1,List.length_map,h1,h2]
       exact A1 (by push_cast[Ck.rs])
    ·intro he
     rw[An]at he
     rw[<-he]
     refine A8.2 ?_
     rcases hcase with ⟨rfl,rfl,rfl⟩ | ⟨rfl,rfl,rfl⟩
     all_goals
      push_cast[B6 (Nat.le_refl _)]
      exact A1 (by push_cast[Ck.rs];rfl)
   rcases hcase with ⟨rfl,rfl,rfl⟩ | ⟨rfl,rfl,rfl⟩
   all_goals
    push_cast[B6 (Nat.le_refl _)]
    exact fin
  ·intro i hi hc
   exfalso
   have:0<cnt s rk (s.getD i default).name:=List.countP_pos_iff.2 ⟨_,A4 hi,by simp⟩
   omega
 refine Aa Ck.ok rfl ?_
 have hrow:∀ τ,List.map (AP τ) (List.replicate s.length [V.int IntKind.i64 0])=(List.replicate s.length 0).map cNt:=fun τ=>by
  rw[List.map_replicate,List.map_replicate];rfl
 have m1:s.length<=Ag:=by unfold Ag;omega
 have m2:s.length*8<=Ag:=by unfold Ag;omega
 push_cast[hrow,m1,m2]
 exact⟨main 0 1 _ (.inl ⟨rfl,rfl,rfl⟩),main 1 0 _ (.inr ⟨rfl,rfl,rfl⟩)⟩
theorem WM (l:List A2)(Vs:List Str)(D:Nat)(h:ZI l Vs D)(hvs:Vs.length<2^18)(hnm:∀ v∈Vs,v.length<2^62):PF I4 [Aj l] (IH (JG (l.map (·.left)) (l.map (·.right)))):=by
 obtain⟨n,r,hr⟩:=HZ Vs (l.map (·.left)) (l.map (·.right)) [] BS (fun _=>0) UOk.nil (fun v t h=>by cases h) (by simp only[List.mem_map];rintro z ⟨x,hx,rfl⟩;exact (h.am x hx).1) (by simp only[List.mem_map];rintro z ⟨x,hx,rfl⟩;exact (h.am x hx).2)
 have hS:=MO hr
 have hlv:=h.len
 have p0:Aw [0,1] 0=some 0:=rfl
 refine Aa E1.ok rfl ?_
 push_cast
 refine Ac (n:=l.length) (R:=fun k=>∀ (s:List A6)(σ:Sub)(rk:Str->Nat)(dn:List Key),UOk s σ rk->NOk s Vs->WB s->(∀ k∈dn,PB s k)->dn.Nodup->(∀ k∈dn,k.1∈Vs/\k.2∈Vs) ->
   AE (AX n) s ((l.map (·.left)).drop k) ((l.map (·.right)).drop k)=some r->E1.L8 (.ptr 0 0) (Aj l) (.int .i64 l.length) (.int .i64 k) 0 (rHl s dn []) (Bv 0 E1.rs fun x H'=>x=IH (JG (l.map (·.left)) (l.map (·.right)))/\H'=[])) ?_ ?_ 0 (by omega)
  [] BS (fun _=>0) [] UOk.nil ⟨fun v t h=>(by cases h),hvs,hnm⟩ (fun v t h=>by cases h) (fun k h=>by cases h) List.nodup_nil (fun k h=>by cases h) hr
 ·intro k hk ih s σ rk dn hu hN hwb hdone hdn hdV hsol
  have hme:=A4 hk
  have e1:(l.map (·.left)).getD k default=(l.getD k default).left:=by simp[List.getD_eq_getElem?_getD,hk]
  have e2:(l.map (·.right)).getD k default=(l.getD k default).right:=by simp[List.getD_eq_getElem?_getD,hk]
  rw[Ak (show k<(l.map (·.left)).length by simpa using hk),Ak (show k<(l.map (·.right)).length by simpa using hk),e1,e2]at hsol
  generalize hx:l.getD k default=x at hme hsol
  obtain⟨hal,har⟩:=h.am x hme
  obtain⟨hwl,hwr⟩:=h.wd x hme
  simp only[AE]at hsol
  cases hf:AX n s x.left x.right with
  | none=>rw[hf]at hsol;cases hsol
  | some p =>
   obtain⟨s1,ok⟩:=p
   rw[hf]at hsol
   obtain⟨σ1,rk1,hok⟩:=Fm n s σ rk x.left x.right (s1,ok) hu hal.1 har.1 hf
   have hc:=bE n s σ rk dn x.left x.right (s1,ok) hu hN hwb hal har hwl hwr hf hdone hdn hdV
   refine A8.2 ?_
   push_cast[ilt hk,hx]
   refine Q5 (J:=[_]) (by push_cast[p0]) hc ?_
   rintro x' s2 dn2 ⟨rfl,hR⟩
   cases ok with
   | false =>
    simp only[Option.some.injEq]at hsol
    have hu2:JG (l.map (·.left)) (l.map (·.right))=([],false,0):=by unfold JG;rw[hS,<-hsol];rfl
    push_cast
    rw[hu2]
    exact A1 (by push_cast[E1.rs];rfl)
   | true =>
    obtain⟨rfl,hm1,hm2,hm3⟩:=hR rfl
    push_cast[w64 (show k<2^62 by omega)]
    have:=ih s2 σ1 rk1 dn2 hok.ok (hN.solve hal har hf) (hwb.solve hwl hwr hf) (fun k hk=>by
     rcases hm3 k hk with h | h
     ·exact fun θ hθ=>hdone k h θ (hθ.mono hok.ext)
     ·exact h.1) hm1 hm2 hsol
    push_cast at this
    exact this
 ·intro s σ rk dn hu hN hwb hdone hdn hdV hsol
  have e1:(l.map (·.left)).drop l.length=[]:=by rw[List.drop_eq_nil_of_le];simp
  rw[e1]at hsol
  simp only[AE,Option.some.injEq]at hsol
  have hlen:=Hq hu.srt hN.am
  have hsig:=S0 hu
  have hL:=ed hu (by omega) hwb
  have hu2:IH (JG (l.map (·.left)) (l.map (·.right)))=(if Fi s then .tup [Bf [],.bool false,.int .i64 3] else .tup [Bf (Di s),.bool true,.int .i64 0]):=by
   unfold JG
   rw[hS,<-hsol]
   simp only[Bool.true_eq_false,if_false]
   cases Fi s <;> rfl
  rw[hu2]
  refine A8.2 ?_
  push_cast[B6 (Nat.le_refl _)]
  refine .of hL ?_
  cases hh:Fi s with
  | true =>
   push_cast
   exact A1 (by push_cast[E1.rs];rfl)
  | false =>
   push_cast
   have hwl:(Di s).length=s.length:=by simp[Di]
   refine Ac (n:=s.length) (R:=fun k=>E1.L3 (.ptr 0 0) (Bc cB 2 4 ((Di s).take k)) (Bf s) (.int .i64 s.length) (.int .i64 k) 0 (rHl s dn [.arr BX 4 k]) _) ?_ ?_ 0 (by omega)
   ·intro k hk ih2
    have hb:=A4 hk
    have hi:=EY hu.srt hb
    obtain⟨m,hn⟩:=hu.need (s.getD k default).term
    have hRs:=Y4 hu (by omega) hwb m (s.getD k default).term hn (hu.vf _ _ hi) (hwb _ _ hi)
    have hge:(Di s).getD k default=⟨(s.getD k default).name,app σ (s.getD k default).term⟩:=by
     unfold Di
     rw[hsig,<-hu.fix _ _ hi]
     simp[List.getD_eq_getElem?_getD,hk]
    have hlt:((Di s).take k).length=k:=by simp[hwl];omega
    rw[A9 (by omega),hge]at ih2
    refine A8.2 ?_
    push_cast[ilt hk]
    refine .of hRs ?_
    push_cast[hlt,VZ,TY (show k<2^40 by omega) (show 64<=64 by omega),w64 (show k<2^62 by omega)]
    push_cast at ih2
    exact ih2
   ·refine A8.2 ?_
    push_cast[B6 (Nat.le_refl _)]
    rw[List.take_of_length_le (by omega)]
    refine A1 ?_
    push_cast[E1.rs]
end Go.Dw
end
section
namespace Go.Dw
theorem YS (t:Term):D6 t<=size t:=by
 induction t using Af with
 | h t ih =>
 have h1:=AH t
 have h2:=Ai t.args
 have key:∀ l:List Term,(∀ a∈l,D6 a<=size a)->JC l<=Ab l:=by
  intro l
  induction l with
  | nil=>intro _;simp[JC,Ab]
  | cons a l ihl =>
   intro h
   have:=h a (by simp)
   have:=ihl fun b hb=>h b (by simp[hb])
   simp only[JC,Ab];omega
 have h3:=key t.args ih
 have h4:D6 t=max t.args.length (JC t.args):=by cases t;rfl
 omega
theorem Tr {v:Str}(t:Term):short t=true->occ v t=true->v.length<=24:=by
 induction t using Af with
 | h t ih =>
 intro h ho
 obtain⟨h1,h2,h3⟩:=CD.1 h
 rcases AC.1 ho with ⟨_,e⟩ | ⟨a,ha,ho⟩
 ·rw[<-e];exact h1
 ·exact ih a ha (h3 a ha) ho
theorem Sx {P:Term->Prop}{Q:Str->Prop}(hP:∀ t a,P t->a∈t.args->P a)(hQ:∀ t,P t->t.var=true->Q t.name){n:Nat}:∀ (l m:List Term)(s:List A6)(r:List A6×Bool),(∀ v t,Ad s v=some t->P t/\Q v)->(∀ a∈l,P a)->(∀ b∈m,P b)->AE (AX n) s l m=some r->∀ v t,Ad r.1 v=some t->P t/\Q v
 | [],m,s,r,hs,_,_,h=>by simp only[AE,Option.some.injEq]at h;subst h;exact hs
 | a::l,[],s,r,hs,_,_,h=>by simp only[AE,Option.some.injEq]at h;subst h;exact hs
 | a::l,b::m,s,r,hs,hl,hm,h=>by
  simp only[AE]at h
  cases hf:AX n s a b with
  | none=>rw[hf]at h;cases h
  | some p =>
   obtain⟨s1,ok⟩:=p
   rw[hf]at h
   have h1:=JB hP hQ n s a b _ hs (hl a (by simp)) (hm b (by simp)) hf
   cases ok with
   | false=>simp only[Option.some.injEq]at h;subst h;exact h1
   | true=>exact Sx hP hQ l m s1 r h1 (fun x hx=>hl x (by simp[hx])) (fun x hx=>hm x (by simp[hx])) h
theorem Zb {f:Sub}(t:Term):short t=true->(∀ v,occ v t=true->short (f v)=true)->short (app f t)=true:=by
 induction t using Af with
 | h t ih =>
 intro ht h
 obtain⟨h1,h2,h3⟩:=CD.1 ht
 cases hv:t.var with
 | true=>rw[Av hv];exact h _ (AC.2 (.inl ⟨hv,rfl⟩))
 | false =>
  rw[B7 hv]
  refine CD.2 ⟨h1,(fun e=>by cases e),fun a ha=>?_⟩
  simp only[Term.args,List.mem_map]at ha
  obtain⟨b,hb,rfl⟩:=ha
  exact ih b hb (h3 b hb) fun v hv=>h v (AC.2 (.inr ⟨b,hb,hv⟩))
theorem UOk.short {s:List A6}{σ:Sub}{rk:Str->Nat}(h:UOk s σ rk)(hs:∀ v t,Ad s v=some t->Dw.short t=true)(v:Str):v.length<=24->Dw.short (σ v)=true:=by
 revert v
 refine h.ind fun v ih=>?_
 intro hv
 cases hi:Ad s v with
 | none =>
  rw[h.free v hi]
  exact CD.2 ⟨hv,fun _=>rfl,fun a ha=>by cases ha⟩
 | some t =>
  rw[h.fix v t hi]
  exact Zb t (hs v t hi) fun w hw=>ih t w hi hw (Tr t (hs v t hi) hw)
structure BU (t:Term):Prop where
 sh:short t=true
 sz:size t<=4000
 dp:depth t<=200
theorem BU.vf {t:Term}(h:BU t):vfl t=true:=Ui t h.sh
theorem BU.tb {t:Term}(h:BU t):tb t<2^20:=by have:=WZ t h.sh;have:=h.sz;omega
theorem BU.of_check {t:Term}(h:EU t=0):BU t:=by
 obtain⟨h1,h2⟩:=Ng.1 h
 unfold BK at h2
 rw[Bool.and_eq_true,decide_eq_true_eq,decide_eq_true_eq]at h2
 exact⟨T0 t h1,h2.1,h2.2⟩
def vs2 (a b:Term):List Str:=DS a++DS b
theorem bq {a b:Term}(ha:BU a)(hb:BU b):(vs2 a b).length<=8000:=by
 have h1:=Ir a []
 have h2:=Ir b []
 have h3:=ha.sz
 have h4:=hb.sz
 unfold vs2
 rw[List.length_append]
 have e1:DS a=Dn [] a:=rfl
 have e2:DS b=Dn [] b:=rfl
 rw[e1,e2]
 simp only[List.length_nil]at h1 h2
 omega
theorem K8 {a b:Term}{w:Str}:w∈vs2 a b↔occ w a=true\/occ w b=true:=by
 unfold vs2
 rw[List.mem_append]
 have h1:=F4 w a []
 have h2:=F4 w b []
 simp only[List.not_mem_nil,false_or]at h1 h2
 exact or_congr h1 h2
theorem bX {a b:Term}(ha:BU a)(hb:BU b):ZI [⟨a,b⟩] (vs2 a b) 200:=by
 have hl:=bq ha hb
 have h1:=YS a
 have h2:=YS b
 have h3:=ha.sz
 have h4:=hb.sz
 refine⟨fun x hx=>?_,fun x hx=>?_,fun x hx=>?_,by omega,by omega,by simp⟩
 all_goals rw[List.mem_singleton.1 hx]
 ·exact⟨⟨ha.vf,fun w hw=>K8.2 (.inl hw)⟩,⟨hb.vf,fun w hw=>K8.2 (.inr hw)⟩⟩
 ·exact⟨by show D6 a<_;omega,by show D6 b<_;omega⟩
 ·exact⟨ha.dp,hb.dp⟩
theorem Zt {a b:Term}(ha:BU a)(hb:BU b):∀ v∈vs2 a b,v.length<=24:=fun v hv=>by
 rcases K8.1 hv with h | h
 ·exact Tr a ha.sh h
 ·exact Tr b hb.sh h
noncomputable abbrev Ew (a b:Term):List A6×Bool×Int:=JG [a] [b]
theorem ZW {a b:Term}(ha:BU a)(hb:BU b):PF Jo [Aj [⟨a,b⟩]] (IH (Ew a b)):=Y1 _ _ _ (bX ha hb)
theorem W2 {a b:Term}(ha:BU a)(hb:BU b):PF I4 [Aj [⟨a,b⟩]] (IH (Ew a b)) :=
 WM _ _ _ (bX ha hb) (by have:=bq ha hb;omega) fun v hv=>by have:=Zt ha hb v hv;omega
structure Acv (a b:Term) (s:List A6):Prop where
 srt:Dp s
 len:s.length<=8000
 sh:∀ x∈s,short x.term=true/\size x.term<=4000/\x.name.length<=24
 bb:bbs s<2^34
theorem Aap {s:List A6}{m:Nat}(h:∀ x∈s,1+x.name.length+tb x.term<=m):bbs s<=s.length*m:=by
 induction s with
 | nil=>simp[bbs]
 | cons x s ih =>
  have h1:=h x (by simp)
  have h2:=ih fun y hy=>h y (by simp[hy])
  simp only[bbs,List.length_cons,Nat.succ_mul];omega
theorem Rl (a b:Term):(Ew a b).2.2=0\/((Ew a b).2.2=3/\(Ew a b).2.1=false):=by
 unfold Ew JG
 split
 ·exact .inl rfl
 ·split
  ·exact .inr ⟨rfl,rfl⟩
  ·exact .inl rfl
theorem eA {a b:Term}(ha:BU a)(hb:BU b)(h:(Ew a b).2.1=true):Acv a b (Ew a b).1/\(Ew a b).2.2=0/\(Ew a b).1=Di (GY [a] [b]).1:=by
 obtain⟨n,r,hr⟩:=HZ (vs2 a b) [a] [b] [] BS (fun _=>0) UOk.nil (fun v t h=>by cases h) (fun z hz=>by rw[List.mem_singleton.1 hz];exact⟨ha.vf,fun w hw=>K8.2 (.inl hw)⟩) (fun z hz=>by rw[List.mem_singleton.1 hz];exact⟨hb.vf,fun w hw=>K8.2 (.inr hw)⟩)
 have hS:=MO hr
 obtain⟨rk,hu,ham,_,_⟩:=Zq (Vs:=vs2 a b) (l:=[a]) (m:=[b]) (fun z hz=>by rw[List.mem_singleton.1 hz];exact⟨ha.vf,fun w hw=>K8.2 (.inl hw)⟩) (fun z hz=>by rw[List.mem_singleton.1 hz];exact⟨hb.vf,fun w hw=>K8.2 (.inr hw)⟩) rfl
 have hk:=Sx (P:=fun t=>short t=true) (Q:=fun _=>True) (fun t a h ha=>(CD.1 h).2.2 a ha) (fun _ _ _=>trivial) [a] [b] [] r (fun v t h=>by cases h) (fun z hz=>by rw[List.mem_singleton.1 hz];exact ha.sh) (fun z hz=>by rw[List.mem_singleton.1 hz];exact hb.sh) hr
 rw[<-hS]at hk
 unfold Ew JG at h ⊢
 generalize GY [a] [b]=q at h hu ham hk
 by_cases c1:q.2=false
 ·rw[if_pos c1]at h;cases h
 ·rw[if_neg c1]at h ⊢
  by_cases c2:Fi q.1=true
  ·rw[if_pos c2]at h;cases h
  ·rw[if_neg c2]
   have hlen:=Hq hu.srt ham
   have hv2:=bq ha hb
   have hmem:∀ x∈Di q.1,short x.term=true/\size x.term<=4000/\x.name.length<=24:=by
    intro x hx
    unfold Di at hx
    obtain⟨y,hy,rfl⟩:=List.mem_map.1 hx
    have hi:=EY hu.srt hy
    have hnm:y.name.length<=24:=Zt ha hb _ (ham _ _ hi).2
    refine⟨hu.short (fun v t h=>(hk v t h).1) y.name hnm,?_,hnm⟩
    have c3:Fi q.1=false:=by simpa using c2
    unfold Fi at c3
    rw[List.any_eq_false]at c3
    have:=c3 y hy
    unfold BK at this
    simp only[Bool.not_eq_true,Bool.not_eq_false',Bool.not_not,Bool.and_eq_true,decide_eq_true_eq]at this
    exact this.1
   have hwl:(Di q.1).length=q.1.length:=by simp[Di]
   refine⟨⟨?_,by rw[hwl];omega,hmem,?_⟩,rfl,rfl⟩
   ·unfold Di Dp
    rw[List.pairwise_map]
    exact hu.srt
   ·have h1:=Aap (s:=Di q.1) (m:=100100) fun x hx=>by
     obtain⟨e1,e2,e3⟩:=hmem x hx
     have:=WZ x.term e1
     omega
    have h2:(Di q.1).length*100100<=8000*100100:=Nat.mul_le_mul_right _ (by rw[hwl];omega)
    show bbs (Di q.1)<2^34
    omega
theorem er:∀ (k n:Nat),n<10^(k+1)->(dig n).length<=k+1
 | 0,n,h=>by unfold dig Lib.decDigits;rw[dif_pos (by simpa using h)];simp
 | k+1,n,h=>by
  unfold dig Lib.decDigits
  split
  ·simp
  ·have:=er k (n / 10) (by rw[Nat.pow_succ]at h;omega)
   unfold dig at this
   simp only[List.length_append,List.length_singleton];omega
theorem tt {l:List Str}{v:Str}{j:Nat}(h:EG l v=some j):j<l.length:=by
 induction l generalizing j with
 | nil=>cases h
 | cons x l ih =>
  simp only[EG]at h
  split at h
  ·cases h;simp
  ·cases hq:EG l v with
   | none=>rw[hq]at h;cases h
   | some i =>
    rw[hq]at h;cases h
    have:=ih hq
    simp;omega
theorem kI {f:Sub}(hf:∀ v,∃ w,f v=BS w)(t:Term):vfl t=true->size (app f t)=size t/\depth (app f t)=depth t:=by
 induction t using Af with
 | h t ih =>
 intro ht
 cases hv:t.var with
 | true =>
  rw[Av hv]
  obtain⟨w,hw⟩:=hf t.name
  rw[hw,Q0 ht hv];exact⟨rfl,rfl⟩
 | false =>
  have key:∀ l:List Term,(∀ a∈l,a∈t.args)->Ab (l.map (app f))=Ab l/\AA (l.map (app f))=AA l:=by
   intro l
   induction l with
   | nil=>intro _;exact⟨rfl,rfl⟩
   | cons a l ihl =>
    intro hl
    have h1:=ih a (hl a (by simp)) (BF ht (hl a (by simp)))
    have h2:=ihl fun b hb=>hl b (by simp[hb])
    simp only[List.map_cons,Ab,AA,h1,h2,and_self]
  have h3:=key t.args fun _ h=>h
  have e1:=AH t
  have e2:=F2 t
  rw[B7 hv]
  have e3:size (Term.mk t.name false (t.args.map (app f)))=1+Ab (t.args.map (app f)):=rfl
  have e4:depth (Term.mk t.name false (t.args.map (app f)))=AA (t.args.map (app f))+1:=rfl
  omega
theorem eP {pre:Str}(hp:pre.length=1){l:List Str}(hl:l.length<=4000){t:Term}(ht:BU t)(hs:Rb l t):BU (app (rho pre l) t):=by
 have h1:=kI (f:=rho pre l) (fun v=>⟨_,rfl⟩) t ht.vf
 refine⟨Zb t ht.sh fun v hv=>?_,by rw[h1.1];exact ht.sz,by rw[h1.2];exact ht.dp⟩
 unfold rho
 cases hq:EG l v with
 | none=>exact absurd (hs v hv) (KC.1 hq)
 | some j =>
  have h2:=tt hq
  have h3:=er 3 j (by omega)
  exact CD.2 ⟨by show (pre++dig j).length<=24;rw[List.length_append];omega,fun _=>rfl,fun a ha=>by cases ha⟩
structure IA (x:A2):Prop where
 l:BU x.left
 r:BU x.right
 v:∀ v,occ v x.right=true->occ v x.left=true
theorem KF {pre:Str}(hp:pre.length=1){x:A2}(h:IA x):IA (Cc pre x):=by
 have hl:(AF [] x.left).length<=4000:=by have:=Pr x.left [];have:=h.l.sz;simp only[List.length_nil]at *;omega
 have hs:=(Hl x.left []).2 h.l.vf
 have hs2:Rb (AF [] x.left) x.right:=fun v hv=>hs v (h.v v hv)
 refine⟨eP hp hl h.l hs,eP hp hl h.r hs2,fun v hv=>?_⟩
 obtain⟨w,h1,h2⟩:=(RS x.right h.r.vf).1 hv
 exact (RS x.left h.l.vf).2 ⟨w,h.v w h1,h2⟩
end Go.Dw
end
section
namespace Go.Dw
theorem RB (p:List Int)(hp:p.length<2^40):PF BI [Hk p] (Hk p):=by
 refine Aa Cw.ok rfl ?_
 push_cast
 intro c hc
 refine⟨fun h=>?_,fun h=>⟨by rw[List.length_map];unfold Ag;omega,?_⟩⟩
 ·have hp0:p=[]:=by simpa using hc (by cases c <;> simp_all)
  subst hp0
  exact A1 (by push_cast[Cw.rs];rfl)
 ·exact A1 (by push_cast[Cw.rs];rfl)
end Go.Dw
end
section
namespace Go.Dw
theorem YE {N:Nat->C}{B:Nat}{k:List K}{t:T}{Q:X->T->List Ob->Prop}{dd:Option Nat}{l:List S}(H:List Ob)(k':Run prog N B (.r l::k) (Ez dd (.fn (.func Dd) [] [.ptr (H.length+1) 0]) t) (nHp H [] []) Q):Bt prog N B dd l k t Q (.func Fh) [] H:=by
 refine Bt.some [] (by simp) (by simp) (R:=fun x' H'=>x'=.fn (.func Dd) [] [.ptr 1 0]/\H'=nH []) ?_ ?_
 ·exact Bb▸UY
 rintro x' H' ⟨rfl,rfl⟩ _
 have h0:∀ n,BT [] n 0=some n:=fun n=>rfl
 have h1:∀ n,BT [] n 1=some (n+1):=fun n=>rfl
 have e:takeB [] H (nH [])=nHp H [] []:=by
  unfold takeB
  have e1:PN [] H ((nH []).map (A5 (BT [] H.length)))=H:=by
   unfold PN
   apply List.ext_getElem?
   intro i
   by_cases hi:i<H.length
   ·simp[Aw,hi,List.getD_eq_getElem?_getD]
   ·simp[hi]
  rw[e1]
  push_cast[h0]
  rfl
 rw[e]
 push_cast[h1]at k' ⊢
 exact k'
abbrev ovZ:List V:=[.int .i64 0,.int .i64 0,.sl 1 [],.str [],.bool false,.sl 3 [],.str [],.bool false,.sl 3 [],.str [],.bool false,.sl 3 []]
abbrev ov4 (W:Term):List Ob:=[.cells Dy ovZ,.dead,.dead,.cells A3 (cT W)]
theorem LQ (z:Term):AP (Aw [4,5]) [Ao z,V.ptr 5 0]=[Ao z,V.ptr 1 0]:=by
 have q5:Aw [4,5] 5=some 1:=rfl
 push_cast[q5]
structure AOv where
 outer:Int
 inner:Int
 pos:List Int
 peak:Term
 left:Term
 right:Term
def Aa0:AOv:=⟨0,0,[],noT,noT,noT⟩
def cOv (o:AOv):List V:=[.int .i64 o.outer,.int .i64 o.inner,Hk o.pos]++cT o.peak++cT o.left++cT o.right
def Z4 (o:AOv):V:=.agg (cOv o)
theorem mg {σ:Nat->Option Nat}(o:AOv):ren σ (Z4 o)=Z4 o:=rfl
noncomputable def DF (a b:A2)(pos:List Int)(sub:Term):Bool×Int :=
 if (Ew sub b.left).2.1=false then (false,(Ew sub b.left).2.2)
 else if (BK (AB (Ew sub b.left).1 a.left) && (BK (AB (Ew sub b.left).1 a.right) && BK (AB (Ew sub b.left).1 b.right)))=false then (false,3)
 else if BK (HM (AB (Ew sub b.left).1 a.left) pos (AB (Ew sub b.left).1 b.right))=false then (false,3) else (true,0)
noncomputable def ovO (a b:A2)(pos:List Int)(sub:Term):AOv :=
 if (DF a b pos sub).1 then
  let s:=(Ew sub b.left).1
  let p:=GC [120] [] (AB s a.left)
  let q:=GC [120] p.1 (AB s a.right)
  ⟨0,0,pos,p.2,q.2,(GC [120] q.1 (HM (AB s a.left) pos (AB s b.right))).2⟩
 else Aa0
theorem XV {a b:A2}(ha:IA a)(hb:IA b){pos:List Int}(hpos:pos.length<2^20){sub:Term}(hsub:BU sub) :
  PF Mk [JL a,JL b,Hk pos,Ao sub] (.tup [Z4 (ovO a b pos sub),.bool (DF a b pos sub).1,.int .i64 (DF a b pos sub).2]):=by
 have hU:=ZW hsub hb.l
 have hE:=Rl sub b.left
 have hO:=eA hsub hb.l
 unfold ovO DF
 generalize hu:Ew sub b.left=u at hU hE hO
 obtain⟨s,ok,e⟩:=u
 simp only at hE hO
 refine Aa Ed.ok rfl ?_
 push_cast
 refine .of hU ?_
 cases ok with
 | false =>
  simp only[if_true,Bool.false_eq_true,if_false]
  rcases hE with rfl | ⟨rfl,_⟩
  ·push_cast[IH]
   exact A1 (by push_cast[Ed.rs];rfl)
  ·push_cast[IH]
   exact A1 (by push_cast[Ed.rs];rfl)
 | true =>
  obtain⟨hs,rfl,_⟩:=hO rfl
  have hI1:=IS s hs.srt hs.bb a.left (by have:=ha.l.tb;omega)
  have hI2:=IS s hs.srt hs.bb a.right (by have:=ha.r.tb;omega)
  have hI3:=IS s hs.srt hs.bb b.right (by have:=hb.r.tb;omega)
  simp only[Bool.true_eq_false,if_false]
  clear hU hE hO hu
  by_cases hf:(BK (AB s a.left) && (BK (AB s a.right) && BK (AB s b.right)))=false
  ·rw[if_pos hf]
   simp only[Bool.false_eq_true,if_false]
   cases f1:BK (AB s a.left) <;> cases f2:BK (AB s a.right) <;> cases f3:BK (AB s b.right)
   case true.true.true=>rw[f1,f2,f3]at hf;cases hf
   all_goals
    rw[f1]at hI1
    rw[f2]at hI2
    rw[f3]at hI3
    simp only[Bool.false_eq_true,if_false,if_true,Gv]at hI1 hI2 hI3
    push_cast[IH]
    refine .of hI1 ?_
    push_cast
    refine .of hI2 ?_
    push_cast
    refine .of hI3 ?_
    push_cast
    exact A1 (by push_cast[Ed.rs];rfl)
  ·rw[if_neg hf]
   have hf2:BK (AB s a.left)=true/\BK (AB s a.right)=true/\BK (AB s b.right)=true:=by simpa using hf
   obtain⟨f1,f2,f3⟩:=hf2
   rw[f1]at hI1
   rw[f2]at hI2
   rw[f3]at hI3
   simp only[if_true,Gv]at hI1 hI2 hI3
   have z1:size (AB s a.left)<=4000:=by unfold BK at f1;simp at f1;exact f1.1
   have z2:size (AB s a.right)<=4000:=by unfold BK at f2;simp at f2;exact f2.1
   have z3:size (AB s b.right)<=4000:=by unfold BK at f3;simp at f3;exact f3.1
   have hSet:=gZ pos (AB s a.left) (AB s b.right) (by omega) (by omega) (by omega)
   have z4:=Tx pos (AB s a.left) (AB s b.right)
   have hFit:=VP (HM (AB s a.left) pos (AB s b.right)) (by omega)
   generalize AB s a.left=P at *
   generalize AB s a.right=L at *
   generalize AB s b.right=R at *
   generalize HM P pos R=W at *
   push_cast[IH]
   refine .of hI1 ?_
   push_cast
   refine .of hI2 ?_
   push_cast
   refine .of hI3 ?_
   push_cast
   refine .of hSet ?_
   push_cast
   refine .of hFit ?_
   cases f4:BK W with
   | false =>
    push_cast[Gv]
    exact A1 (by push_cast[Ed.rs];rfl)
   | true =>
    push_cast[Gv]
    have hC:=RB pos (by omega)
    have r1:=MY [120] P []
    have r2:=MY [120] L (GC [120] [] P).1
    simp only[List.length_nil]at r1
    have hN1:=Eb [] P (by simp;omega)
    have hN2:=Eb (GC [120] [] P).1 L (by omega)
    have hN3:=Eb (GC [120] (GC [120] [] P).1 L).1 W (by omega)
    generalize GC [120] [] P=P' at *
    generalize GC [120] P'.1 L=L' at *
    generalize GC [120] L'.1 W=W' at *
    refine YE _ ?_
    push_cast
    refine .of hC ?_
    push_cast
    refine⟨?_,?_⟩
    ·refine Ff (ov4 W) [] (LQ P) (Bb▸hN1) ?_
     push_cast
     refine⟨?_,?_⟩
     ·refine Ff (ov4 W) [] (LQ L) (Bb▸hN2) ?_
      push_cast
      refine Ff (ov4 W) [] (LQ W) (Bb▸hN3) ?_
      push_cast
      exact A1 (by push_cast[Ed.rs];rfl)
     ·refine Ff (ov4 W) [] (LQ L) (Bb▸hN2) ?_
      push_cast
      refine Ff (ov4 W) [] (LQ W) (Bb▸hN3) ?_
      push_cast
      exact A1 (by push_cast[Ed.rs];rfl)
    ·refine Ff (ov4 W) [] (LQ P) (Bb▸hN1) ?_
     push_cast
     refine Ff (ov4 W) [] (LQ L) (Bb▸hN2) ?_
     push_cast
     refine Ff (ov4 W) [] (LQ W) (Bb▸hN3) ?_
     push_cast
     exact A1 (by push_cast[Ed.rs];rfl)
end Go.Dw
end
section
namespace Go.Dw
def sd (b:Bool)(x:A2):Term:=if b then x.right else x.left
theorem Xg (x:A2)(b:Bool):PF NQ [JL x,.bool b] (Ao (sd b x)):=by
 refine Aa WF.ok rfl ?_
 cases b <;> (push_cast;exact A1 (by push_cast[WF.rs];try rfl))
theorem Uw (l:List Str)(v:Str)(hl:l.length<2^62):PF M5 [Bl l,.str v] (.int .i64 (Kd (fun x=>decide (v=x)) l)):=by
 refine Aa KA.ok rfl ?_
 push_cast
 refine Ac (n:=l.length) (R:=fun k=>(∀ j,j<k->(fun x=>decide (v=x)) (l.getD j default)=false)->KA.L3 (.str v) (Bl l) (.int .i64 l.length) (.int .i64 k) 0 [] (Bv 0 KA.rs fun x' H'=>x'=.int .i64 (Kd (fun x=>decide (v=x)) l)/\H'=[])) ?_ ?_ 0 (by omega) (by intro j hj;omega)
 ·intro k hk ih hq
  refine A8.2 ?_
  generalize hx:l.getD k default=s
  by_cases h:s=v
  ·have hi:=Gj (p:=fun x=>decide (v=x)) hk (by show decide (v=l.getD k default)=true;rw[hx,h];simp) hq
   push_cast[ilt hk,hx,eq_true h]
   exact A1 (by push_cast[KA.rs,hi])
  ·push_cast[ilt hk,hx,eq_false h,w64 (show k<2^62 by omega)]
   exact ih fun j hj=>by
    rcases Nat.lt_succ_iff_lt_or_eq.1 hj with hj | rfl
    ·exact hq j hj
    ·rw[hx];simpa using fun e=>h e.symm
 ·intro hq
  refine A8.2 ?_
  have hi:=HC (p:=fun x=>decide (v=x)) (l:=l) hq
  push_cast[B6 (Nat.le_refl _)]
  exact A1 (by push_cast[KA.rs,hi])
def cap (n:Nat):Nat:=if n<1099511627776 then n else 1099511627776
theorem U3 (n:Nat):cap n<=1099511627776:=by unfold cap;split <;> omega
theorem Xy (a b:Nat):(if ((cap a:Int)+(cap b:Int))<1099511627776 then (cap a:Int)+(cap b:Int) else 1099511627776)=((cap (a+b):Nat):Int):=by
 unfold cap;split <;> split <;> split <;> split <;> omega
theorem iW:(1:Int)=((cap 1:Nat):Int):=rfl
theorem QF {f:Term->Term}{D:Nat}:∀ {l:List Term},(∀ a∈l,depth (f a)<=D)->AA (l.map f)<=D
 | [],_=>by simp[AA]
 | a::l,h=>by
  simp only[List.map_cons,AA]
  have h1:=h a (by simp)
  have h2:=QF (f:=f) (l:=l) fun b hb=>h b (by simp[hb])
  omega
theorem ip {l:List Term}{k:Nat}:depth (l.getD k default)<=max 1 (AA l):=by
 by_cases h:k<l.length
 ·have:=KL (A4 h);omega
 ·rw[List.getD_eq_getElem?_getD,List.getElem?_eq_none (by omega)]
  exact Nat.le_max_left _ _
theorem WY (vars:List Str)(x:List Term)(t:Term):depth (Cy vars x t)<=depth t+AA x:=by
 induction t using Af with
 | h t ih =>
  have hda:=F2 t
  rw[Lp]
  split
  ·have:=ip (l:=x) (k:=ixS t.name vars);omega
  ·simp only[depth]
   have:=QF (f:=Cy vars x) (D:=AA t.args+AA x) (l:=t.args) fun a ha=>by
    have:=ih a ha
    have:=KL ha
    omega
   omega
theorem iB (r:List A2)(f:A2->Term){B:Nat}(hB:∀ x∈r,depth (f x)<=B)(m:A0)(hok:OkM r m):depth (Ae r f m)<=Ba m*(1+B):=by
 induction m using Co with
 | h m ih =>
  have hd:AA (m.args.map (Ae r f))<=AW m.args*(1+B):=by
   have:∀ l:List A0,(∀ a∈l,depth (Ae r f a)<=Ba a*(1+B))->AA (l.map (Ae r f))<=AW l*(1+B):=by
    intro l
    induction l with
    | nil=>intro _;simp[AA]
    | cons a l ihl =>
     intro h
     have h1:=h a (by simp)
     have h2:=ihl fun b hb=>h b (by simp[hb])
     simp only[List.map_cons,AA,AW]
     have h3:Ba a*(1+B)<=max (Ba a) (AW l)*(1+B):=Nat.mul_le_mul_right _ (Nat.le_max_left _ _)
     have h4:AW l*(1+B)<=max (Ba a) (AW l)*(1+B):=Nat.mul_le_mul_right _ (Nat.le_max_right _ _)
     omega
   exact this m.args fun a ha=>ih a ha (hok.arg ha)
  rw[D4,E4,Nat.succ_mul]
  split
  ·simp only[depth];omega
  ·rename_i h0
   have:=WY (Az [(At r m).left]) (m.args.map (Ae r f)) (f (At r m))
   have:=hB _ (hok.rule h0).2.2.1
   omega
theorem aK (vars:List Str)(x:List Term)(hva:vars.length<=x.length)(hl:vars.length<2^40)(D:Nat)(hD:AA x<=D)(hD2:D<2^40)(t:Term)(ht:size t<2^40)(ho:∀ v,occ v t=true->v∈vars) :
  PF Kl [Ao t,Bl vars,Hk (x.map fun a=>((cap (size a):Nat):Int)),Hk (x.map fun a=>((depth a:Nat):Int))] (.tup [.int .i64 (cap (size (Cy vars x t)):Nat),.int .i64 (depth (Cy vars x t):Nat)]):=by
 induction t using Af with
 | h t ih =>
 have hst:=AH t
 have hll:=Ai t.args
 have hdz:=GB t
 have hdp:=WY vars x t
 refine Aa Jb.ok rfl ?_
 rw[Lp]at hdp ⊢
 cases hv:t.var with
 | true =>
  obtain⟨h1,h2,h3⟩:=F6 (ho _ (PU hv))
  have hI:=Uw vars t.name (by omega)
  rw[h1]at hI
  have hlt:((ixS t.name vars:Int)<(x.length:Int))=True:=eq_true (by omega)
  have hix:ixS t.name vars<x.length:=by omega
  have hg1:(x.map fun a=>((cap (size a):Nat):Int)).getD (ixS t.name vars) default=(cap (size (x.getD (ixS t.name vars) default)):Nat):=by
   simp[List.getD_eq_getElem?_getD,hix]
  have hg2:(x.map fun a=>((depth a:Nat):Int)).getD (ixS t.name vars) default=(depth (x.getD (ixS t.name vars) default):Nat):=by
   simp[List.getD_eq_getElem?_getD,hix]
  push_cast[hv]
  refine .of hI ?_
  push_cast[hlt,hg1,hg2]
  refine⟨by rw[List.length_map];omega,by rw[List.length_map];omega,A1 ?_⟩
  push_cast[Jb.rs]
 | false =>
  rw[hv,if_neg (by simp)]at hdp
  rw[if_neg (by simp)]
  simp only[size,depth]at hdp ⊢
  push_cast[hv]
  rw[iW]
  refine Ac (n:=t.args.length) (R:=fun k=>Jb.L3 (Bl vars) (Hk (x.map fun a=>((cap (size a):Nat):Int))) (Hk (x.map fun a=>((depth a:Nat):Int))) (.int .i64 (cap (1+Ab ((t.args.take k).map (Cy vars x))):Nat)) (.int .i64 (AA ((t.args.take k).map (Cy vars x)):Nat)) (Bd t.args) (.int .i64 t.args.length) (.int .i64 k) 0 []
   (Bv 0 Jb.rs fun x' H'=>x'=.tup [.int .i64 (cap (1+Ab (t.args.map (Cy vars x))):Nat),.int .i64 ((AA (t.args.map (Cy vars x))+1:Nat):Int)]/\H'=[])) ?_ ?_ 0 (by omega)
  ·intro k hk ih2
   have hm:=A4 hk
   have hm2:=Bp hm
   have hs1:Ab ((t.args.take (k+1)).map (Cy vars x))=Ab ((t.args.take k).map (Cy vars x))+size (Cy vars x (t.args.getD k default)):=by
    rw[A9 hk,List.map_append,Cb];simp[Ab]
   have hd1:AA ((t.args.take (k+1)).map (Cy vars x))=max (AA ((t.args.take k).map (Cy vars x))) (depth (Cy vars x (t.args.getD k default))):=by
    rw[A9 hk,List.map_append,Ei];simp[AA]
   rw[hs1,hd1,<-Nat.add_assoc]at ih2
   have hc1:=U3 (1+Ab ((t.args.take k).map (Cy vars x)))
   have hc2:=U3 (size (Cy vars x (t.args.getD k default)))
   refine A8.2 ?_
   push_cast[ilt hk]
   refine .of (ih _ hm (by omega) fun v hv2=>ho v (T6 hm hv2)) ?_
   have hst2:=Xy (1+Ab ((t.args.take k).map (Cy vars x))) (size (Cy vars x (t.args.getD k default)))
   generalize size (Cy vars x (t.args.getD k default))=sa at ih2 hc2 hst2 ⊢
   generalize depth (Cy vars x (t.args.getD k default))=da at ih2 ⊢
   generalize 1+Ab ((t.args.take k).map (Cy vars x))=sb at ih2 hc1 hst2 ⊢
   have hw:IntKind.i64.wrap ((cap sb:Int)+(cap sa:Int))=(cap sb:Int)+(cap sa:Int):=Bq (by omega) (by omega)
   push_cast[hw,hst2,w64 (show k<2^62 by omega)]
   exact ih2
  ·refine A8.2 ?_
   push_cast[B6 (Nat.le_refl _),List.take_length]
   rw[Bq (by omega) (by omega)]
   refine A1 ?_
   push_cast[Jb.rs]
   try rfl
end Go.Dw
end
section
namespace Go.Dw
theorem Y9 (r:List A2)(b:Bool)(hr:rbs r<2^28)(hvs:∀ x∈r,∀ v,occ v (sd b x)=true->v∈Az [x.left])(m:A0)(hok:OkM r m)(hm:Ar m<2^30)(hmd:Ba m<=200) :
  PF Jw [Aj r,Aq m,.bool b] (.tup [.int .i64 (cap (size (Ae r (sd b) m)):Nat),.int .i64 (depth (Ae r (sd b) m):Nat)]):=by
 induction m using Co with
 | h m ih =>
 have hst:=AO m
 have hdt:=E4 m
 have hll:=AS m.args
 have hsdz:∀ x∈r,size (sd b x)<268435456:=fun x hx=>by
  have:=Fy hx
  have:=AQ x.left
  have:=AQ x.right
  cases b <;> (simp only[sd,if_true,if_false,Bool.false_eq_true];omega)
 have hdm:∀ a∈m.args,depth (Ae r (sd b) a)<=53687091400:=fun a ha=>by
  have h1:=iB r (sd b) (B:=268435456) (fun x hx=>by have:=hsdz x hx;have:=GB (sd b x);omega) a (hok.arg ha)
  have h2:Ba a<=AW m.args:=by
   have:∀ l:List A0,a∈l->Ba a<=AW l:=by
    intro l
    induction l with
    | nil=>intro h;cases h
    | cons x xs ihx=>intro h;rcases List.mem_cons.1 h with rfl | h <;> simp only[AW];omega;have:=ihx h;omega
   exact this _ ha
  have h3:Ba a*(1+268435456)<=200*(1+268435456):=Nat.mul_le_mul_right _ (by omega)
  omega
 have hds:AA (m.args.map (Ae r (sd b)))<=53687091400:=by
  have:∀ l:List A0,(∀ a∈l,depth (Ae r (sd b) a)<=53687091400)->AA (l.map (Ae r (sd b)))<=53687091400:=by
   intro l
   induction l with
   | nil=>intro _;simp[AA]
   | cons a l ihl =>
    intro h
    have h1:=h a (by simp)
    have h2:=ihl fun c hc=>h c (by simp[hc])
    simp only[List.map_cons,AA];omega
  exact this _ hdm
 refine Aa Ht.ok rfl ?_
 push_cast
 rw[iW]
 refine Ac (n:=m.args.length) (R:=fun k=>Ht.L4 (Aj r) (.bool b) (.ro (cM m) 0) (Bc cI 0 1 (((m.args.take k).map (Ae r (sd b))).map fun a=>((cap (size a):Nat):Int))) (Bc cI 1 1 (((m.args.take k).map (Ae r (sd b))).map fun a=>((depth a:Nat):Int))) (.int .i64 (cap (1+Ab ((m.args.take k).map (Ae r (sd b)))):Nat)) (.int .i64 (AA ((m.args.take k).map (Ae r (sd b))):Nat)) (Cu m.args) (.int .i64 m.args.length) (.int .i64 k) 0 [.arr EA 1 k,.arr EA 1 k]
  (Bv 0 Ht.rs fun x' H'=>x'=.tup [.int .i64 (cap (size (Ae r (sd b) m)):Nat),.int .i64 (depth (Ae r (sd b) m):Nat)]/\H'=[])) ?_ ?_ 0 (by omega)
 ·intro k hk ih2
  have hmm:=A4 hk
  have hm2:=CE hmm
  have hmd2:Ba (m.args.getD k default)<=200:=by
   have:∀ l:List A0,∀ a∈l,Ba a<=AW l:=by
    intro l a
    induction l with
    | nil=>intro h;cases h
    | cons x xs ihx=>intro h;rcases List.mem_cons.1 h with rfl | h <;> simp only[AW];omega;have:=ihx h;omega
   have:=this _ _ hmm
   omega
  have hdk:=hdm _ hmm
  have htk:m.args.take (k+1)=m.args.take k++[m.args.getD k default]:=A9 hk
  rw[htk,List.map_append,Cb,Ei,List.map_append,List.map_append,List.map_singleton,List.map_singleton,List.map_singleton]at ih2
  simp only[Ab,AA,Nat.add_zero,Nat.max_zero]at ih2
  rw[<-Nat.add_assoc]at ih2
  have hih:=ih _ hmm (hok.arg hmm) (by omega) hmd2
  have hl1:((m.args.take k).map (Ae r (sd b))).length=k:=by simp;omega
  refine A8.2 ?_
  push_cast[ilt hk]
  refine .of hih ?_
  generalize Ae r (sd b) (m.args.getD k default)=u at ih2 hdk ⊢
  generalize (m.args.take k).map (Ae r (sd b))=us at ih2 hl1 ⊢
  have hc1:=U3 (1+Ab us)
  have hc2:=U3 (size u)
  have hst2:=Xy (1+Ab us) (size u)
  generalize 1+Ab us=sb at ih2 hc1 hst2 ⊢
  have hw:IntKind.i64.wrap ((cap sb:Int)+(cap (size u):Int))=(cap sb:Int)+(cap (size u):Int):=Bq (by omega) (by omega)
  have hm1:(us.map fun a=>((cap (size a):Nat):Int)).length=k:=by rw[List.length_map,hl1]
  have hm2:(us.map fun a=>((depth a:Nat):Int)).length=k:=by rw[List.length_map,hl1]
  have e5:∀ (i:Nat)(l:List Int)(v:Int),V.own i 1 (List.map cI l++[[V.int .i64 v]])=Bc cI i 1 (l++[v]):=fun i l v=>by simp[Bc,cI]
  push_cast[hw,hst2,hm1,hm2,e5,w64 (show k<2^62 by omega)]
  refine⟨by unfold Ag;omega,by unfold Ag;omega,?_⟩
  exact ih2
 ·refine A8.2 ?_
  push_cast[B6 (Nat.le_refl _),List.take_length]
  rw[D4]
  by_cases h0:m.rule=0
  ·have h0i:(0<m.rule)=False:=eq_false (by omega)
   rw[if_pos h0]
   simp only[size,depth]
   push_cast[h0i]
   rw[Bq (by omega) (by omega)]
   refine A1 ?_
   push_cast[Ht.rs]
   try rfl
  ·obtain⟨k1,k2,k3,k4,k5,k6⟩:=hok.rule h0
   rw[if_neg h0]
   have hw:IntKind.i64.wrap (m.rule-1)=m.rule-1:=Bq (by have:=Be r;omega) (by have:=Be r;omega)
   have hc1:((0:Int)<=m.rule-1)=True:=eq_true (by omega)
   have hc2:(m.rule-1<(r.length:Int))=True:=eq_true (by omega)
   have hc3:(0<m.rule)=True:=eq_true k1
   have hru:r.getD (m.rule-1).toNat default=At r m:=rfl
   have hrm:=Fy k3
   have hF:=aK (Az [(At r m).left]) (m.args.map (Ae r (sd b))) (by rw[List.length_map,k4];exact Nat.le_refl _) (by rw[<-k4];omega) 53687091400 hds (by omega) (sd b (At r m)) (by have:=hsdz _ k3;omega) (hvs _ k3)
   push_cast[hc3,hw,hc1,hc2,hru]
   refine .of (Xg (At r m) b) ?_
   push_cast[hc3,hw,hc1,hc2,hru]
   refine .of (KO (At r m) (by omega)) ?_
   push_cast
   refine .of hF ?_
   push_cast
   exact A1 (by push_cast[Ht.rs])
def MT (vars:List Str)(x:List Term):List A6:=List.zipWith A6.mk vars x
theorem UH {v:Str}:∀ {vars:List Str} {x:List Term},v∈vars->vars.length<=x.length->Ad (MT vars x) v=some (x.getD (ixS v vars) default)
 | [],_,h,_=>by cases h
 | w::vars,[],_,hl=>by simp at hl
 | w::vars,u::x,h,hl=>by
  simp only[MT,List.zipWith_cons_cons,Ad]
  unfold ixS
  simp only[Kd]
  by_cases he:v=w
  ·subst he;simp
  ·have hm:v∈vars:=(List.mem_cons.1 h).resolve_left he
   obtain⟨h1,h2,h3⟩:=F6 hm
   have hd:decide (v=w)=false:=by simpa using he
   have ih:=UH (x:=x) hm (by simpa using hl)
   unfold MT at ih
   rw[if_neg (fun e=>he e.symm)]
   simp only[hd,Bool.false_eq_true,if_false]
   rw[h1,ih]
   have hn:¬ ((ixS v vars:Nat):Int)<0:=by omega
   have h4:(((ixS v vars:Nat):Int)+1).toNat=ixS v vars+1:=by omega
   simp only[hn,if_false,h4]
   simp[List.getD_eq_getElem?_getD]
theorem fC (vars:List Str)(x:List Term)(hl:vars.length<=x.length)(t:Term)(ho:∀ v,occ v t=true->v∈vars):AB (MT vars x) t=Cy vars x t:=by
 induction t using Af with
 | h t ih =>
  rw[HV,Lp]
  cases hv:t.var with
  | true=>rw[if_pos rfl,if_pos rfl,UH (ho _ (PU hv)) hl];rfl
  | false =>
   rw[if_neg (by simp),if_neg (by simp)]
   congr 1
   exact List.map_congr_left fun a ha=>ih a ha fun v hv2=>ho v (T6 ha hv2)
theorem iu {vars:List Str}{x:List Term}{k:Nat}(hk:k<vars.length)(hl:vars.length<=x.length):MT (vars.take (k+1)) x=MT (vars.take k) x++[⟨vars.getD k default,x.getD k default⟩]:=by
 unfold MT
 apply List.ext_getElem?
 intro i
 have hx:k<x.length:=by omega
 by_cases h1:i<k
 ·rw[List.getElem?_append_left (by simp;omega)]
  simp[List.getElem?_zipWith,List.getElem?_take,h1,show i<k+1 by omega]
 ·by_cases h2:i=k
  ·subst h2
   rw[List.getElem?_append_right (by simp;omega)]
   simp[List.getElem?_zipWith,List.getElem?_take,hk,hx,List.getD_eq_getElem?_getD,show min i vars.length=i by omega,show min i x.length=i by omega]
  ·rw[List.getElem?_eq_none (by simp;omega),List.getElem?_eq_none (by simp;omega)]
end Go.Dw
end
section
namespace Go.Dw
theorem lP {i:Nat}{l:List A6}{n:Str}{t:Term}:(.own i 4 (l.map cB++[V.str n::cT t]):V)=Bc cB i 4 (l++[⟨n,t⟩]):=by simp[Bc,cB]
theorem dW (r:List A2)(b:Bool)(hr:rbs r<2^28)(hvs:∀ x∈r,∀ v,occ v (sd b x)=true->v∈Az [x.left])(m:A0)(hok:OkM r m)(hm:Ar m<2^30) :
  PF LT [Aj r,Aq m,.bool b] (Ao (Ae r (sd b) m)):=by
 induction m using Co with
 | h m ih =>
 have hst:=AO m
 have hll:=AS m.args
 refine Aa IK.ok rfl ?_
 rw[D4]
 push_cast
 refine Ac (n:=m.args.length) (R:=fun k=>IK.L8 (Aj r) (.bool b) (.ro (cM m) 0) (.ptr 0 0) (Bc cT 1 3 ((m.args.take k).map (Ae r (sd b)))) (Cu m.args) (.int .i64 m.args.length) (.int .i64 k) 0 [.cells A3 [.str [],.bool false,.sl 3 []],.arr A3 3 k] _) ?_ ?_ 0 (by omega)
 ·intro k hk ih2
  have hmm:=A4 hk
  have hm2:=CE hmm
  have hlen:((m.args.take k).map (Ae r (sd b))).length=k:=by simp;omega
  rw[A9 hk,List.map_append,List.map_singleton]at ih2
  refine A8.2 ?_
  push_cast[ilt hk]
  refine .of (ih _ hmm (hok.arg hmm) (by omega)) ?_
  push_cast[hlen,w64 (show k<2^62 by omega)]
  exact⟨Nat.le_trans (Nat.mul_le_mul_right 48 (show _<=2^41 by omega)) (by unfold Ag;decide),ih2⟩
 ·refine A8.2 ?_
  push_cast[B6 (Nat.le_refl _),List.take_length]
  by_cases h0:m.rule=0
  ·push_cast[eq_true h0]
   refine A1 ?_
   push_cast[IK.rs]
   show V.agg [.str m.name,.bool m.var,Bd (m.args.map (Ae r (sd b)))]=Ao (.mk m.name m.var (m.args.map (Ae r (sd b))))
   unfold Ao;rw[Oq];rfl
  ·obtain⟨k1,k2,k3,k4,k5,k6⟩:=hok.rule h0
   have hw:IntKind.i64.wrap (m.rule-1)=m.rule-1:=Bq (by have:=Be r;omega) (by have:=Be r;omega)
   have hc1:((0:Int)<=m.rule-1)=True:=eq_true (by omega)
   have hc2:(m.rule-1<(r.length:Int))=True:=eq_true (by omega)
   have hru:r.getD (m.rule-1).toNat default=At r m:=rfl
   have hrm:=Fy k3
   have hzl:=AQ (At r m).left
   have hzr:=AQ (At r m).right
   push_cast[eq_false h0,hw,hc1,hc2,hru]
   refine .of (KO (At r m) (by omega)) ?_
   push_cast
   have hxl:(m.args.map (Ae r (sd b))).length=m.args.length:=List.length_map ..
   have hbi:=fC (Az [(At r m).left]) (m.args.map (Ae r (sd b))) (by rw[hxl,k4];exact Nat.le_refl _) (sd b (At r m)) (hvs _ k3)
   generalize hvv:Az [(At r m).left]=vars at k4 hbi ⊢
   generalize hxx:m.args.map (Ae r (sd b))=x at hxl hbi ⊢
   have hvl:vars.length<=x.length:=by omega
   have h9:=Ac (n:=vars.length) (R:=fun k=>IK.L3 (.bool b) (.ptr 0 0) (Bc cT 1 3 x) (.ro (cR (At r m)) 0) (Bc cB 3 4 (MT (vars.take k) x)) (Bl vars) (.int .i64 vars.length) (.int .i64 k) 0 [.cells A3 [.str [],.bool false,.sl 3 []],.arr A3 3 m.args.length,.dead,.arr BX 4 k] (Bv 0 IK.rs fun x' H'=>x'=Ao (Cy vars x (sd b (At r m)))/\H'=[])) ?_ ?_ 0 (by omega)
   ·simp only[List.take_zero,MT,List.zipWith_nil_left]at h9
    exact h9
   ·intro k hk ih2
    have hkx:((k:Int)<(x.length:Int))=True:=eq_true (by omega)
    have hbl:(MT (vars.take k) x).length=k:=by unfold MT;simp;omega
    rw[iu hk hvl]at ih2
    refine A8.2 ?_
    push_cast[ilt hk,hkx,hbl,w64 (show k<2^62 by omega)]
    refine⟨by unfold Ag;omega,?_⟩
    rw[lP]
    exact ih2
   ·refine A8.2 ?_
    push_cast[B6 (Nat.le_refl _),List.take_length]
    refine .of (Xg (At r m) b) ?_
    push_cast
    refine .of (E3 (MT vars x) (by unfold MT;simp;omega) (sd b (At r m)) (by cases b <;> (simp only[sd,if_true,if_false,Bool.false_eq_true];omega))) ?_
    rw[hbi]
    push_cast
    exact A1 (by push_cast[IK.rs])
theorem yZ (n:Nat):4000<cap n↔4000<n:=by unfold cap;split <;> omega
def dS (r:List A2)(f:A2->Term)(m:A0):Option Term×Int:=if BK (Ae r f m) then (some (Ae r f m),0) else (none,3)
theorem NB (r:List A2)(b:Bool)(hr:rbs r<2^28)(hvs:∀ x∈r,∀ v,occ v (sd b x)=true->v∈Az [x.left])(m:A0)(hok:OkM r m)(hm:Ar m<2^30)(hmd:Ba m<=200) :
  PF J2 [Aj r,Aq m,.bool b] (Gv (dS r (sd b) m).1 (dS r (sd b) m).2):=by
 refine Aa Pj.ok rfl ?_
 push_cast
 refine .of (Y9 r b hr hvs m hok hm hmd) ?_
 have hB:=dW r b hr hvs m hok hm
 unfold dS BK
 generalize Ae r (sd b) m=t at hB ⊢
 have hcg:=yZ (size t)
 by_cases h1:4000<size t
 ·have hi:((4000:Int)<(cap (size t):Int))=True:=eq_true (by omega)
  have h1':decide (size t<=4000)=false:=by simp;omega
  rw[h1']
  push_cast[hi]
  exact A1 (by push_cast[Pj.rs];rfl)
 ·have hi:((4000:Int)<(cap (size t):Int))=False:=eq_false (by omega)
  have h1':decide (size t<=4000)=true:=by simp;omega
  rw[h1']
  by_cases h2:200<depth t
  ·have hj:((200:Int)<(depth t:Int))=True:=eq_true (by omega)
   have h2':decide (depth t<=200)=false:=by simp;omega
   rw[h2']
   push_cast[hi,hj]
   exact A1 (by push_cast[Pj.rs];rfl)
  ·have hj:((200:Int)<(depth t:Int))=False:=eq_false (by omega)
   have h2':decide (depth t<=200)=true:=by simp;omega
   rw[h2']
   push_cast[hi,hj]
   refine .of hB ?_
   push_cast
   exact A1 (by push_cast[Pj.rs];try rfl)
theorem uu:sd false=A2.left:=rfl
theorem Qg {r:List A2}{f:A2->Term}{m:A0}(h:Fu r m=0):FZ r f m=dS r f m:=by
 unfold FZ dS;rw[if_neg (by simpa using h)]
end Go.Dw
end
section
namespace Go.Dw
theorem Jj (m:A0)(hs:Ar m<2^40):PF Hd [Aq m,Aq m] (.bool true):=by
 induction m using Co with
 | h m ih =>
 have hst:=AO m
 have hll:=AS m.args
 refine Aa OX.ok rfl ?_
 have e:∀ x:Bool,(x != x)=false:=fun x=>by cases x <;> rfl
 push_cast[e]
 refine Ac (n:=m.args.length) (R:=fun k=>OX.L3 (.ro (cM m) 0) (.ro (cM m) 0) (.int .i64 m.args.length) (.int .i64 k) 0 [] (Bv 0 OX.rs fun x' H'=>x'=.bool true/\H'=[])) ?_ ?_ 0 (by omega)
 ·intro k hk ih2
  have hmm:=A4 hk
  have hm2:=CE hmm
  refine A8.2 ?_
  push_cast[ilt hk]
  refine .of (ih _ hmm (by omega)) ?_
  push_cast[ilt hk,w64 (show k<2^62 by omega)]
  exact ih2
 ·refine A8.2 ?_
  push_cast[B6 (Nat.le_refl _)]
  exact A1 (by push_cast[OX.rs])
end Go.Dw
end
section
namespace Go.Dw
mutual
def ly (v:Str):Term->List (List Int)
 | .mk n b l=>(if b && decide (n=v) then [[]] else [])++Zy v l 0
def Zy (v:Str):List Term->Nat->List (List Int)
 | [],_=>[]
 | a::l,i=>(ly v a).map ((i:Int)::·)++Zy v l (i+1)
end
theorem dZ (v:Str)(a b:List (List Int×Term)):V4 v (a++b)=V4 v a++V4 v b:=by unfold V4;rw[List.filter_append,List.map_append]
mutual
theorem Wo (v:Str):∀ (t:Term)(p:List Int),V4 v (Ap t p)=(ly v t).map (p++·)
 | .mk n b l,p=>by
  have h:=Uk v l p 0
  have h1:V4 v ((p,Term.mk n b l)::B4 l p 0)=(if b && decide (n=v) then [p] else [])++V4 v (B4 l p 0):=by
   unfold V4
   rw[List.filter_cons]
   show List.map Prod.fst (if (b && decide (n=v))=true then _ else _)=_
   split <;> simp
  simp only[Ap,ly,h1,h,List.map_append]
  congr 1
  split <;> simp
theorem Uk (v:Str):∀ (l:List Term)(p:List Int)(i:Nat),V4 v (B4 l p i)=(Zy v l i).map (p++·)
 | [],p,i=>rfl
 | a::l,p,i=>by
  simp only[B4,Zy,dZ,Wo v a,Uk v l p (i+1),List.map_append,List.map_map]
  congr 1
  apply List.map_congr_left
  intro q _;simp
end
theorem oU (t:Term)(v:Str):Xq t v=ly v t:=by
 unfold Xq
 rw[Wo]
 simp
mutual
theorem Tk (v:Str):∀ t:Term,occ v t=true->ly v t≠[]
 | .mk n b l,h=>by
  simp only[occ,Bool.or_eq_true]at h
  simp only[ly]
  rcases h with h | h
  ·rw[if_pos h];simp
  ·have:=WJ v l 0 h
   simp[this]
theorem WJ (v:Str):∀ (l:List Term)(i:Nat),Ex v l=true->Zy v l i≠[]
 | [],i,h=>by cases h
 | a::l,i,h=>by
  simp only[Ex,Bool.or_eq_true]at h
  simp only[Zy]
  rcases h with h | h
  ·have:=Tk v a h
   simp[this]
  ·have:=WJ v l (i+1) h
   simp[this]
end
def Wd:A0->List Int->A0
 | m,[]=>m
 | m,i::p=>Wd (m.args.getD i.toNat default) p
theorem Kb (t:Term):(Az [t]).Nodup:=by
 have h2:(HA [] [t]).Nodup:=by
  show (Qw [] (Ap t [])).Nodup
  exact Xr _ _ List.nodup_nil
 exact (List.mergeSort_perm _ _).nodup_iff.2 h2
theorem eo {vars:List Str}(hn:vars.Nodup){k:Nat}(hk:k<vars.length):ixS (vars.getD k default) vars=k:=by
 obtain⟨i1,i2,i3⟩:=F6 (A4 hk)
 generalize hv:vars.getD k default=v at i1 i2 i3 ⊢
 rw[List.getD_eq_getElem?_getD,List.getElem?_eq_getElem hk,Option.getD_some]at hv
 rw[List.getD_eq_getElem?_getD,List.getElem?_eq_getElem i2,Option.getD_some]at i3
 exact (List.getElem_inj hn).1 (i3.trans hv.symm)
end Go.Dw
end
section
namespace Go.Dw
mutual
def F9 (vars:List Str)(x:List A0):Term->A0
 | .mk n v l=>if v then x.getD (ixS n vars) default else .mk 0 n false (Vn vars x l)
def Vn (vars:List Str)(x:List A0):List Term->List A0
 | []=>[]
 | a::l=>F9 vars x a::Vn vars x l
end
theorem cU (vars:List Str)(x:List A0)(l:List Term):Vn vars x l=l.map (F9 vars x):=by induction l with | nil=>rfl | cons a l ih=>simp[Vn,ih]
theorem TW (vars:List Str)(x:List A0)(t:Term):F9 vars x t=if t.var then x.getD (ixS t.name vars) default else .mk 0 t.name false (t.args.map (F9 vars x)):=by cases t;simp only[F9,cU,Term.name,Term.var,Term.args];rfl
end Go.Dw
end
section
namespace Go.Dw
theorem aW (vars:List Str)(x:List A0)(hva:vars.length<=x.length)(hl:vars.length<2^40)(t:Term)(ht:size t<2^40)(ho:∀ v,occ v t=true->v∈vars):PF Ku [Ao t,Bl vars,Cu x] (Aq (F9 vars x t)):=by
 induction t using Af with
 | h t ih =>
 have hst:=AH t
 have hll:=Ai t.args
 refine Aa KU.ok rfl ?_
 rw[TW]
 cases hv:t.var with
 | true =>
  obtain⟨h1,h2,h3⟩:=F6 (ho _ (PU hv))
  have hI:=Fb vars t.name (by omega)
  rw[h1]at hI
  have hlt:((ixS t.name vars:Int)<(x.length:Int))=True:=eq_true (by omega)
  push_cast[hv]
  refine .of hI ?_
  push_cast[hlt]
  exact A1 (by push_cast[KU.rs])
 | false =>
  push_cast[hv]
  refine Ac (n:=t.args.length) (R:=fun k=>KU.L3 (Bl vars) (Cu x) (.ptr 0 0) (.ptr 1 0) (Bd t.args) (.int .i64 t.args.length) (.int .i64 k) 0 [.cells A7 [.int .i64 0,.str [],.bool false,.sl 4 []],.cells A7 [.int .i64 0,.str t.name,.bool false,Bc cM 2 4 ((t.args.take k).map (F9 vars x))],.arr A7 4 k] _) ?_ ?_ 0 (by omega)
  ·intro k hk ih2
   have hm:=A4 hk
   have hm2:=Bp hm
   have hlen:((t.args.take k).map (F9 vars x)).length=k:=by simp;omega
   rw[A9 hk,List.map_append,List.map_singleton]at ih2
   refine A8.2 ?_
   push_cast[ilt hk]
   refine .of (ih _ hm (by omega) fun v hv2=>ho v (T6 hm hv2)) ?_
   push_cast[hlen,w64 (show k<2^62 by omega)]
   exact⟨by unfold Ag;omega,ih2⟩
  ·refine A8.2 ?_
   push_cast[B6 (Nat.le_refl _)]
   refine A1 ?_
   push_cast[KU.rs,List.take_length,rY]
   try rfl
theorem C8 {σ:Nat->Option Nat}{l:List A0}:(l.map cM).map (AP σ)=l.map cM:=by rw[List.map_map];rfl
end Go.Dw
end
section
namespace Go.Dw
theorem rz (t:Term)(v:Str):Xq t v=(F5 t).filter fun p=>match D7 t p with | some x=>x.var && decide (x.name=v) | none=>false:=by
 unfold Xq V4
 have h1:=KD t []
 simp only[List.nil_append,List.map_id']at h1
 rw[<-h1,List.filter_map]
 congr 1
 apply List.filter_congr
 intro x hx
 obtain⟨q,hq,hs⟩:=PL t [] x hx
 rw[List.nil_append]at hq
 simp only[Function.comp,hq,hs,isV]
end Go.Dw
end
section
namespace Go.Dw
theorem S4 (r:List A2)(m:A0)(hr:rbs r<2^28)(hm:mb m<2^28):PF Ix [Aj r,Aq m] (.int .i64 (FZ r A2.left m).2):=by
 have hmz:=FO m
 refine Aa GT.ok rfl ?_
 push_cast
 refine .of (bM r m (by omega) (by omega)) ?_
 by_cases h1:Fu r m=0
 ·obtain⟨c1,c2,c3,c4⟩:=Fs h1
  have hA:=NB r false (by omega) (fun x _=>HG x) m c2 (by omega) c4
  rw[uu,<-Qg h1]at hA
  push_cast[h1]
  refine .of hA ?_
  generalize FZ r A2.left m=o
  obtain⟨o,e⟩:=o
  cases o <;> (unfold Gv;push_cast;exact A1 (by push_cast[GT.rs];try rfl))
 ·have:FZ r A2.left m=(none,Fu r m):=by unfold FZ;rw[if_pos h1]
  rw[this]
  push_cast[eq_false h1]
  exact A1 (by push_cast[GT.rs];try rfl)
end Go.Dw
end
section
namespace Go.Dw
theorem U6 {r:List A2}{f:A2->Term}{m:A0}(h:(FZ r f m).2=0):Fu r m=0/\BK (Ae r f m)=true/\FZ r f m=(some (Ae r f m),0):=by
 unfold FZ at h ⊢
 split at h
 ·rename_i h1;exact absurd h h1
 ·rename_i h1
  rw[if_neg h1]
  split at h
  ·rename_i h2
   rw[if_pos h2]
   exact⟨Classical.not_not.1 h1,h2,rfl⟩
  ·cases h
end Go.Dw
end
section
namespace Go.Dw
theorem bG {vars:List Str}{x:List Term}(hl:vars.length<=x.length)(hx:∀ a∈x,C5 a=true)(t:Term)(ht:C5 t=true)(ho:∀ n,occ n t=true->n∈vars):C5 (Cy vars x t)=true:=by
 induction t using Af with
 | h t ih =>
 obtain⟨h1,h2⟩:=NC.1 ht
 rw[Lp]
 cases hv:t.var with
 | true =>
  obtain⟨i1,i2,i3⟩:=F6 (ho _ (PU hv))
  rw[if_pos rfl]
  exact hx _ (A4 (by omega))
 | false =>
  rw[if_neg (by simp)]
  refine NC.2 ⟨?_,fun a ha=>?_⟩
  ·rw[hv]at h1
   show Ud t.name false (t.args.map (Cy vars x)).length=true
   rw[List.length_map];exact h1
  ·obtain⟨b,hb,rfl⟩:=List.mem_map.1 (show a∈t.args.map (Cy vars x) from ha)
   exact ih b hb (h2 b hb) fun n hn=>ho n (T6 hb hn)
theorem dF {r:List A2}{f:A2->Term}(hf:∀ x∈r,C5 (f x)=true)(hv:∀ x∈r,∀ v,occ v (f x)=true->v∈Az [x.left])(m:A0)(hm:OkM r m):C5 (Ae r f m)=true:=by
 induction m using Co with
 | h m ih =>
 have hx:∀ a∈m.args.map (Ae r f),C5 a=true:=fun a ha=>by
  obtain⟨u,hu,rfl⟩:=List.mem_map.1 ha
  exact ih u hu (hm.arg hu)
 rw[D4]
 by_cases h0:m.rule=0
 ·rw[if_pos h0]
  have hfm:=Gs hm.fm
  unfold Bj at hfm
  rw[if_neg (by omega)]at hfm
  refine NC.2 ⟨?_,hx⟩
  cases hmv:m.var with
  | true =>
   rw[hmv,if_pos rfl,Bool.and_eq_true,decide_eq_true_eq]at hfm
   simp[Ud,Term.args,Term.name,Term.var,hfm.2]
   exact List.length_eq_zero_iff.1 hfm.1
  | false =>
   rw[hmv,if_neg (by simp),Bool.and_eq_true,decide_eq_true_eq]at hfm
   simp[Ud,Term.args,Term.name,Term.var,hfm.2,hfm.1]
 ·obtain⟨k1,k2,k3,k4,k5,k6⟩:=hm.rule h0
  rw[if_neg h0]
  exact bG (by rw[List.length_map];omega) hx _ (hf _ k3) (hv _ k3)
end Go.Dw
end
section
namespace Go.Dw
theorem ef:∀ (p q:List Int)(t:Term),D7 t (p++q)=(D7 t p).bind fun u=>D7 u q
 | [],q,t=>rfl
 | i::p,q,t=>by
  simp only[List.cons_append,D7]
  split
  ·exact ef p q _
  ·rfl
theorem W5 {σ:List A6}:∀ (p:List Int)(L y:Term),short L=true->D7 L p=some y->D7 (AB σ L) p=some (AB σ y)
 | [],L,y,_,h=>by cases h;rfl
 | i::p,L,y,hs,h=>by
  have h3:=CD.1 hs
  simp only[D7]at h
  split at h
  ·rename_i hi
   have hk:i.toNat<L.args.length:=by omega
   have hv:L.var=false:=by
    cases hv:L.var with
    | false=>rfl
    | true=>rw[h3.2.1 hv]at hk;simp at hk
   rw[HV,hv,if_neg (by simp)]
   have hl:(L.args.map (AB σ)).length=L.args.length:=List.length_map ..
   show (if 0<=i/\i<((L.args.map (AB σ)).length:Int) then D7 ((L.args.map (AB σ)).getD i.toNat default) p else none)=_
   rw[if_pos (by omega)]
   have e:(L.args.map (AB σ)).getD i.toNat default=AB σ (L.args.getD i.toNat default):=by simp[List.getD_eq_getElem?_getD,hk]
   rw[e]
   exact W5 p _ y (h3.2.2 _ (A4 hk)) h
  ·cases h
theorem tw {t:Term}{v:Str}{p:List Int}(h:p∈Xq t v):∃ y,D7 t p=some y/\y.var=true/\y.name=v:=by
 rw[rz]at h
 obtain⟨h1,h2⟩:=List.mem_filter.1 h
 cases hs:D7 t p with
 | none=>rw[hs]at h2;cases h2
 | some y =>
  rw[hs]at h2
  simp only[Bool.and_eq_true,decide_eq_true_eq]at h2
  exact⟨y,rfl,h2.1,h2.2⟩
end Go.Dw
end
section
namespace Go.Dw
theorem fg {x:A2}(h:IA x):PF Pf [JL x] (Bl (AF [] x.left)):=by
 have hF:=UE x.left [] (by have:=h.l.sz;simp;omega)
 refine Aa U2.ok rfl ?_
 push_cast
 refine .of hF ?_
 push_cast
 exact A1 (by push_cast[U2.rs])
theorem PM {l:List Str}(h:l.length<=4000)(pre:Str):(Ry l pre).length<2^62:=by
 have h1:=eW (l:=Cq l) (F:=fun v=>IC pre v 0 l) (m:=l.length) fun v=>Se pre v l 0
 have h2:(Cq l).length<=l.length:=by have:=I1 l [];simpa[Cq]using this
 have h3:(Cq l).length*l.length<=4000*4000:=Nat.mul_le_mul (by omega) h
 show ((Cq l).flatMap fun v=>IC pre v 0 l).length<2^62
 omega
theorem Wq {t:Term}(h:BU t):(AF [] t).length<=4000:=by have:=Pr t [];have:=h.sz;simp only[List.length_nil]at *;omega
theorem Y3:∀ (t:Term),short t=true->∀ l:List Str,(∀ v∈l,v.length<=24)->∀ v∈AF l t,v.length<=24:=by
 intro t
 induction t using Af with
 | h t ih =>
 intro ht l hl v hv
 rw[KN]at hv
 obtain⟨h1,h2,h3⟩:=CD.1 ht
 split at hv
 ·split at hv
  ·exact hl v hv
  ·rcases List.mem_append.1 hv with hv | hv
   ·exact hl v hv
   ·rw[List.mem_singleton.1 hv];exact h1
 ·have key:∀ (ar:List Term)(l:List Str),(∀ a∈ar,a∈t.args)->(∀ v∈l,v.length<=24)->∀ v∈BG l ar,v.length<=24:=by
   intro ar
   induction ar with
   | nil=>intro l _ hl;exact hl
   | cons a ar ihl =>
    intro l hsub hl
    exact ihl _ (fun b hb=>hsub b (by simp[hb])) (ih a (hsub a (by simp)) (h3 a (hsub a (by simp))) l hl)
  exact key t.args l (fun _ h=>h) hl v hv
theorem RQ {t:Term}(h:short t=true):∀ v∈AF [] t,v.length<=24:=Y3 t h [] (fun v hv=>by cases hv)
theorem R2 {x:A2}(h:IA x){pre:Str}(hp:pre.length=1):PF Jm [JL x,.str pre] (JL (Cc pre x)):=by
 have hN:=fg h
 have hl:=Wq h.l
 have hs:=(Hl x.left []).2 h.l.vf
 have hn:=RQ h.l.sh
 have hR:=P4 (AF [] x.left) pre (by omega) (fun v hv=>by have:=hn v hv;omega) (by omega)
 have hA1:=E3 (Ry (AF [] x.left) pre) (PM hl pre) x.left (by have:=h.l.sz;omega)
 have hA2:=E3 (Ry (AF [] x.left) pre) (PM hl pre) x.right (by have:=h.r.sz;omega)
 rw[U5]at hA1 hA2
 refine Aa Pz.ok rfl ?_
 push_cast
 refine .of hN ?_
 push_cast
 refine .of hR ?_
 push_cast
 refine .of hA1 ?_
 push_cast
 refine .of hA2 ?_
 push_cast
 exact A1 (by push_cast[Pz.rs,Cc];rfl)
theorem dH (t:Term)(h:size t<2^62):PF OV [Ao t] (.bool (BK t)):=by
 have h1:=Rt t h
 have h2:=Ph t h
 refine Aa MX.ok rfl ?_
 push_cast
 refine .of h1 ?_
 by_cases c1:size t<=4000
 ·have i1:((size t:Int)<=4000)=True:=eq_true (by omega)
  push_cast[i1]
  refine .of h2 ?_
  by_cases c2:depth t<=200
  ·have i2:((depth t:Int)<=200)=True:=eq_true (by omega)
   push_cast[i2]
   exact A1 (by push_cast[MX.rs,BK,c1,c2])
  ·have i2:((depth t:Int)<=200)=False:=eq_false (by omega)
   push_cast[i2]
   exact A1 (by push_cast[MX.rs,BK,c1,c2])
 ·have i1:((size t:Int)<=4000)=False:=eq_false (by omega)
  push_cast[i1]
  exact A1 (by push_cast[MX.rs,BK,c1])
theorem BU.arg {t a:Term}(h:BU t)(ha:a∈t.args):BU a:=by
 have h1:=AH t
 have h2:=Bp ha
 have h3:=F2 t
 have h4:=KL ha
 have h5:=h.sz
 have h6:=h.dp
 exact⟨(CD.1 h.sh).2.2 a ha,by omega,by omega⟩
theorem BU.sub:∀ (p:List Int) {t x:Term},BU t->D7 t p=some x->BU x
 | [],t,x,h,hx=>by simp only[D7,Option.some.injEq]at hx;subst hx;exact h
 | i::p,t,x,h,hx=>by
  simp only[D7]at hx
  split at hx
  ·rename_i hi
   exact BU.sub p (h.arg (A4 (by omega))) hx
  ·cases hx
noncomputable def ovR (a b:A2)(i j:Nat)(pos:List Int)(sub:Term):AOv :=
 if (DF a b pos sub).1 then
  let s:=(Ew sub b.left).1
  let v:=Ry (AF [] (AB s a.left)) [120]
  ⟨i,j,pos,AB v (AB s a.left),AB v (AB s a.right),AB v (HM (AB s a.left) pos (AB s b.right))⟩
 else Aa0
theorem oD {r:List A2}(hr:∀ x∈r,IA x)(hl:r.length<=64){i j:Nat}(hi:i<r.length)(hj:j<r.length){pos:List Int}(hpos:pos.length<2^20){sub:Term}(hsub:D7 (Cc [120] (r.getD i default)).left pos=some sub) :
  PF Wy [Aj r,.int .i64 i,.int .i64 j,Hk pos] (.tup [Z4 (ovR (Cc [120] (r.getD i default)) (Cc [121] (r.getD j default)) i j pos sub),.bool (DF (Cc [120] (r.getD i default)) (Cc [121] (r.getD j default)) pos sub).1,.int .i64 (DF (Cc [120] (r.getD i default)) (Cc [121] (r.getD j default)) pos sub).2]):=by
 have hxi:=hr _ (A4 hi)
 have hxj:=hr _ (A4 hj)
 have hA:=R2 hxi (pre:=[120]) rfl
 have hB:=R2 hxj (pre:=[121]) rfl
 have ha:=KF (pre:=[120]) rfl hxi
 have hb:=KF (pre:=[121]) rfl hxj
 generalize Cc [120] (r.getD i default)=a at *
 generalize Cc [121] (r.getD j default)=b at *
 have hAt:=dU a.left pos (by omega) (by have:=ha.l.sz;omega)
 rw[hsub]at hAt
 have hgs:BU sub:=BU.sub pos ha.l hsub
 have hU:=W2 hgs hb.l
 have hE:=Rl sub b.left
 have hO:=eA hgs hb.l
 unfold ovR DF
 generalize hu:Ew sub b.left=u at hU hE hO
 obtain⟨s,ok,e⟩:=u
 simp only at hE hO
 refine Aa NR.ok rfl ?_
 push_cast[ilt hi,ilt hj]
 refine .of hA ?_
 push_cast[ilt hi,ilt hj]
 refine .of hB ?_
 push_cast
 refine⟨?_,?_⟩
 all_goals
  refine .of hAt ?_
  push_cast[UQ]
  refine .of hU ?_
  cases ok with
  | false =>
   simp only[if_true,Bool.false_eq_true,if_false]
   rcases hE with rfl | ⟨rfl,_⟩
   ·push_cast[IH]
    exact A1 (by push_cast[NR.rs];rfl)
   ·push_cast[IH]
    exact A1 (by push_cast[NR.rs];rfl)
  | true =>
   obtain⟨hs,rfl,_⟩:=hO rfl
   have hsl:=hs.len
   have hF1:=PJ s (by omega) hs.bb a.left (by have:=ha.l.tb;omega)
   have hF2:=PJ s (by omega) hs.bb a.right (by have:=ha.r.tb;omega)
   have hF3:=PJ s (by omega) hs.bb b.right (by have:=hb.r.tb;omega)
   have hP1:=E3 s (by omega) a.left (by have:=ha.l.sz;omega)
   have hP2:=E3 s (by omega) a.right (by have:=ha.r.sz;omega)
   have hP3:=E3 s (by omega) b.right (by have:=hb.r.sz;omega)
   have hss:∀ x∈s,short x.term=true:=fun x hx=>(hs.sh x hx).1
   have hsb:=W5 (σ:=s) pos a.left sub ha.l.sh hsub
   have hshp:=ik hss a.left ha.l.sh
   simp only[Bool.true_eq_false,if_false]
   clear hU hE hO hu
   cases f1:BK (AB s a.left)with
   | false =>
    rw[f1]at hF1
    simp only[Bool.false_and,if_true,Bool.false_eq_true,if_false]
    push_cast[IH]
    refine .of hF1 ?_
    push_cast
    exact A1 (by push_cast[NR.rs];rfl)
   | true =>
    rw[f1]at hF1
    cases f2:BK (AB s a.right)with
    | false =>
     rw[f2]at hF2
     simp only[Bool.false_and,Bool.and_false,if_true,Bool.false_eq_true,if_false]
     push_cast[IH]
     refine .of hF1 ?_
     push_cast
     refine .of hF2 ?_
     push_cast
     exact A1 (by push_cast[NR.rs];rfl)
    | true =>
     rw[f2]at hF2
     cases f3:BK (AB s b.right)with
     | false =>
      rw[f3]at hF3
      simp only[Bool.and_false,if_true,Bool.false_eq_true,if_false]
      push_cast[IH]
      refine .of hF1 ?_
      push_cast
      refine .of hF2 ?_
      push_cast
      refine .of hF3 ?_
      push_cast
      exact A1 (by push_cast[NR.rs];rfl)
     | true =>
      rw[f3]at hF3
      have z1:size (AB s a.left)<=4000:=by unfold BK at f1;simp at f1;exact f1.1
      have z2:size (AB s a.right)<=4000:=by unfold BK at f2;simp at f2;exact f2.1
      have z3:size (AB s b.right)<=4000:=by unfold BK at f3;simp at f3;exact f3.1
      have hPut:=kG pos (AB s a.left) (AB s b.right) (AB s sub) hshp hsb (by omega) (by omega)
      have z4:=Tx pos (AB s a.left) (AB s b.right)
      have hSm:=dH (HM (AB s a.left) pos (AB s b.right)) (by omega)
      simp only[Bool.and_self,Bool.true_eq_false,if_false]
      push_cast[IH]
      refine .of hF1 ?_
      push_cast
      refine .of hF2 ?_
      push_cast
      refine .of hF3 ?_
      push_cast
      refine .of hP1 ?_
      push_cast
      refine .of hP3 ?_
      push_cast
      refine .of hPut ?_
      push_cast
      refine .of hSm ?_
      cases f4:BK (HM (AB s a.left) pos (AB s b.right))with
      | false =>
       push_cast
       exact A1 (by push_cast[NR.rs];rfl)
      | true =>
       have hgp:BU (AB s a.left):=⟨hshp,z1,by unfold BK at f1;simp at f1;exact f1.2⟩
       have hl4:=Wq hgp
       have hFi:=UE (AB s a.left) [] (by simp;omega)
       have hRe:=P4 (AF [] (AB s a.left)) [120] (by omega) (fun v hv=>by
        have:=RQ hgp.sh v hv;omega) (by simp)
       have hQ1:=E3 (Ry (AF [] (AB s a.left)) [120]) (PM hl4 _) (AB s a.left) (by omega)
       have hQ2:=E3 (Ry (AF [] (AB s a.left)) [120]) (PM hl4 _) (AB s a.right) (by omega)
       have hQ3:=E3 (Ry (AF [] (AB s a.left)) [120]) (PM hl4 _) (HM (AB s a.left) pos (AB s b.right)) (by omega)
       push_cast
       refine .of hFi ?_
       push_cast
       refine .of hRe ?_
       push_cast
       refine .of hQ1 ?_
       push_cast
       refine .of hP2 ?_
       push_cast
       refine .of hQ2 ?_
       push_cast
       refine .of hQ3 ?_
       push_cast
       exact A1 (by push_cast[NR.rs];rfl)
end Go.Dw
end
section
namespace Go.Dw
def By {α:Type}(F:List AOv->α->List AOv×Int):List AOv->List α->List AOv×Int
 | out,[]=>(out,0)
 | out,x::l=>if (F out x).2≠0 then ([],(F out x).2) else By F (F out x).1 l
theorem Bu {α:Type}{F:List AOv->α->List AOv×Int}{out o:List AOv}{x:α}{l:List α}(h:F out x=(o,0)):By F out (x::l)=By F o l:=by simp[By,h]
theorem Fo {α:Type}{F:List AOv->α->List AOv×Int}{out:List AOv}{x:α}{l:List α}{o:List AOv}{e:Int}(h:F out x=(o,e))(he:e≠0):By F out (x::l)=([],e):=by simp[By,h,he]
noncomputable def K4 (r:List A2)(i:Nat)(a:A2)(pos:List Int)(sub:Term)(out:List AOv)(j:Nat):List AOv×Int :=
 if i=j/\pos=[] then (out,0)
 else if (DF a (Cc [121] (r.getD j default)) pos sub).2≠0 then ([],(DF a (Cc [121] (r.getD j default)) pos sub).2)
 else if (DF a (Cc [121] (r.getD j default)) pos sub).1 then
  (if 4096<out.length+1 then ([],3) else (out++[{ ovO a (Cc [121] (r.getD j default)) pos sub with outer:=i,inner:=j }],0))
 else (if 4096<out.length then ([],3) else (out,0))
noncomputable def K6 (r:List A2)(i:Nat)(a:A2)(out:List AOv)(x:List Int×Term):List AOv×Int :=
 if x.2.var then (out,0) else By (K4 r i a x.1 x.2) out (List.range r.length)
noncomputable def LB (r:List A2)(out:List AOv)(i:Nat):List AOv×Int :=
 By (K6 r i (Cc [120] (r.getD i default))) out (Ap (Cc [120] (r.getD i default)).left [])
noncomputable def Nr (r:List A2):List AOv×Int:=By (LB r) [] (List.range r.length)
abbrev oH1 (out:List AOv)(o:V)(e:Int):List Ob:=[.cells ET [o],.cells Vu [.int .i64 e],.cells ET [Bc cOv 3 12 out],.arr Dy 12 out.length]
abbrev oH8 (out:List AOv)(o:V)(e:Int)(a:A2)(nm:NM):List Ob:=oH1 out o e++[.dead,.cells BN (cR a),.map (Bh V.str nm),.cells B9 [.map 6]]
theorem vD (o:AOv):(cOv o).length=12:=rfl
theorem wh (o:AOv):sub 0 12 (cOv o)=cOv o:=rfl
theorem mS (o:AOv):sto (Z4 o)=some (cOv o):=rfl
theorem gC (o:AOv):V.agg (cOv o)=Z4 o:=rfl
theorem oC {σ:Nat->Option Nat}(o:AOv):AP σ (cOv o)=cOv o:=rfl
theorem nY (o:AOv)(i:Int):put 0 [V.int .i64 i] (cOv o)=cOv { o with outer:=i }:=rfl
theorem oW (o:AOv)(i:Int):put 1 [V.int .i64 i] (cOv o)=cOv { o with inner:=i }:=rfl
theorem pr (o:AOv):put 0 (cOv o) [.int .i64 0,.int .i64 0,.sl 1 [],.str [],.bool false,.sl 3 [],.str [],.bool false,.sl 3 [],.str [],.bool false,.sl 3 []]=cOv o:=rfl
attribute [push_cast] nY oW pr
attribute [push_cast] vD wh mS gC oC mg
theorem YW (a b:A2)(pos:List Int)(sub:Term):(DF a b pos sub).2≠0->(DF a b pos sub).1=false/\(DF a b pos sub).2=3:=by
 intro h
 have hE:=Rl sub b.left
 unfold DF at h ⊢
 split at h
 ·rename_i c
  rw[if_pos c]
  rcases hE with e | ⟨e,_⟩
  ·exact absurd e h
  ·exact⟨rfl,e⟩
 ·rename_i c
  rw[if_neg c]
  split at h
  ·rename_i c2
   rw[if_pos c2];exact⟨rfl,rfl⟩
  ·rename_i c2
   rw[if_neg c2]
   split at h
   ·rename_i c3
    rw[if_pos c3];exact⟨rfl,rfl⟩
   ·exact absurd rfl h
theorem kO {r:List A2}(hr:∀ x∈r,IA x)(hrl:r.length<=64){i:Nat}(hi:i<r.length){a:A2}(ha:IA a){pos:List Int}(hpos:pos.length<2^20){sub:Term}(hs:BU sub){nm:NM}
  {Q:X->T->List Ob->Prop} (L:Ob) (hL:A5 (AK 10) L=L) (S:List AOv×Int)
  (out0:List AOv) (h0:out0.length<=4096) (hS:By (K4 r i a pos sub) out0 (List.range r.length)=S)
  (kOk:∀ out,S=(out,0)->out.length<=4096->∀ T,Q .fall T (oH8 out (.sl 12 []) 0 a nm++[L,.dead]))
  (kBad:∀ out e,S.2=e->e≠0->∀ T J,Q .ret T (oH8 out (.sl 12 []) e a nm++(L::J))) :
  Cp.L7 (.ptr 0 0) (.ptr 1 0) (.ptr 2 0) (.ro [.int .i64 i] 0) (.ptr 5 0) (Hk pos) (.ro (cT sub) 0) (Aj r) (.int .i64 r.length) (.int .i64 0) 9 (oH8 out0 (.sl 12 []) 0 a nm++[L,.dead]) Q:=by
 refine Ac (n:=r.length) (R:=fun j=>∀ out:List AOv,out.length<=4096->By (K4 r i a pos sub) out ((List.range r.length).drop j)=S->Cp.L7 (.ptr 0 0) (.ptr 1 0) (.ptr 2 0) (.ro [.int .i64 i] 0) (.ptr 5 0) (Hk pos) (.ro (cT sub) 0) (Aj r) (.int .i64 r.length) (.int .i64 j) 9 (oH8 out (.sl 12 []) 0 a nm++[L,.dead]) Q) ?_ ?_ 0 (by omega) out0 h0 hS
 ·intro j hj ih out hol he
  have hx:=hr _ (A4 hj)
  have hjr:j<(List.range r.length).length:=by simpa using hj
  have hgj:(List.range r.length).getD j default=j:=by simp[List.getD_eq_getElem?_getD,hj]
  rw[Ak hjr,hgj]at he
  have hI:=Va (r.getD j default) (by have:=hx.l.sz;have:=hx.r.sz;omega)
  rw[Z7 (pre:=[121]) (by simp) hx.l.vf hx.r.vf hx.v]at hI
  have hb:=KF (pre:=[121]) rfl hx
  have hO:=XV ha hb hpos hs
  have hErr:=YW a (Cc [121] (r.getD j default)) pos sub
  have hst:K4 r i a pos sub out j=K4 r i a pos sub out j:=rfl
  conv at hst=>rhs;unfold K4
  have hl9:∀ k:Nat,AK 9 k=if k<9 then some k else none:=fun _=>rfl
  refine A8.2 ?_
  by_cases hc:i=j/\pos=[]
  ·rw[if_pos hc]at hst
   rw[Bu hst]at he
   have:=ih out hol he
   obtain⟨c1,c2⟩:=hc
   have i1:((i:Int)=(j:Int))=True:=eq_true (by omega)
   have i2:((pos.length:Int)=0)=True:=eq_true (by rw[c2];rfl)
   push_cast[ilt hj,hL,i1,i2,w64 (show j<2^62 by omega)]
   push_cast at this
   exact this
  ·rw[if_neg hc]at hst
   have go:∀ T:T,True:=fun _=>trivial
   generalize Cc [121] (r.getD j default)=b at hI hb hO hErr hst
   generalize hoo:ovO a b pos sub=o at hO hst
   generalize hov:DF a b pos sub=v at hO hErr hst
   obtain⟨ok,e⟩:=v
   simp only at hErr hst
   by_cases hi1:i=j
   ·have hp:pos≠[]:=fun h=>hc ⟨hi1,h⟩
    have i1:((i:Int)=(j:Int))=True:=eq_true (by omega)
    have i2:((pos.length:Int)=0)=False:=eq_false (by have:=List.length_pos_iff.2 hp;omega)
    push_cast[ilt hj,i1,i2]
    refine .of hI ?_
    push_cast
    refine .of hO ?_
    have hroom:(out.length+1)*184<=Ag:=by unfold Ag;omega
    by_cases he0:e=0
    ·subst he0
     rw[if_neg (by simp)]at hst
     cases ok with
     | true =>
      rw[if_pos rfl]at hst
      by_cases h4:4096<out.length+1
      ·rw[if_pos h4]at hst
       rw[Fo hst (by omega)]at he
       have i4:((4096:Int)<(out.length:Int)+1)=True:=eq_true (by omega)
       push_cast[hroom,i4,List.length_append,List.length_singleton]
       have hl3:out.length+1=(out++[({ o with outer:=(i:Int),inner:=(j:Int) }:AOv)]).length:=by simp
       rw[hl3]
       exact kBad (out++[_]) 3 (by rw[<-he]) (by omega) _ _
      ·rw[if_neg h4]at hst
       rw[Bu hst]at he
       have i4:((4096:Int)<(out.length:Int)+1)=False:=eq_false (by omega)
       have:=ih _ (by simp;omega) he
       push_cast[hroom,i4,hL,List.length_append,List.length_singleton,w64 (show j<2^62 by omega)]
       push_cast[List.length_append,List.length_singleton]at this
       exact this
     | false =>
      rw[if_neg (by simp),if_neg (by omega)]at hst
      rw[Bu hst]at he
      have i4:((4096:Int)<(out.length:Int))=False:=eq_false (by omega)
      have:=ih _ hol he
      push_cast[i4,hL,w64 (show j<2^62 by omega)]
      push_cast at this
      exact this
    ·rw[if_pos he0]at hst
     rw[Fo hst he0]at he
     have i3:(e=0)=False:=eq_false he0
     push_cast[i3]
     exact kBad out e (by rw[<-he]) he0 _ _
   ·have i1:((i:Int)=(j:Int))=False:=eq_false (by omega)
    push_cast[ilt hj,i1]
    refine .of hI ?_
    push_cast
    refine .of hO ?_
    have hroom:(out.length+1)*184<=Ag:=by unfold Ag;omega
    by_cases he0:e=0
    ·subst he0
     rw[if_neg (by simp)]at hst
     cases ok with
     | true =>
      rw[if_pos rfl]at hst
      by_cases h4:4096<out.length+1
      ·rw[if_pos h4]at hst
       rw[Fo hst (by omega)]at he
       have i4:((4096:Int)<(out.length:Int)+1)=True:=eq_true (by omega)
       push_cast[hroom,i4,List.length_append,List.length_singleton]
       have hl3:out.length+1=(out++[({ o with outer:=(i:Int),inner:=(j:Int) }:AOv)]).length:=by simp
       rw[hl3]
       exact kBad (out++[_]) 3 (by rw[<-he]) (by omega) _ _
      ·rw[if_neg h4]at hst
       rw[Bu hst]at he
       have i4:((4096:Int)<(out.length:Int)+1)=False:=eq_false (by omega)
       have:=ih _ (by simp;omega) he
       push_cast[hroom,i4,hL,List.length_append,List.length_singleton,w64 (show j<2^62 by omega)]
       push_cast[List.length_append,List.length_singleton]at this
       exact this
     | false =>
      rw[if_neg (by simp),if_neg (by omega)]at hst
      rw[Bu hst]at he
      have i4:((4096:Int)<(out.length:Int))=False:=eq_false (by omega)
      have:=ih _ hol he
      push_cast[i4,hL,w64 (show j<2^62 by omega)]
      push_cast at this
      exact this
    ·rw[if_pos he0]at hst
     rw[Fo hst he0]at he
     have i3:(e=0)=False:=eq_false he0
     push_cast[i3]
     exact kBad out e (by rw[<-he]) he0 _ _
 ·intro out hol he
  have e1:(List.range r.length).drop r.length=[]:=by rw[List.drop_eq_nil_of_le];simp
  rw[e1]at he
  simp only[By]at he
  refine A8.2 ?_
  push_cast[B6 (Nat.le_refl _)]
  have:=kOk out he.symm hol
  exact this _
end Go.Dw
end
section
namespace Go.Dw
theorem jT (out:List AOv)(e:Int)(a:A2)(nm:NM):ID 8 (oH8 out (.sl 12 []) e a nm):=⟨rfl,by
 show [A5 (AK 8) (.cells ET [.sl 12 []]),A5 (AK 8) (.cells Vu [.int .i64 e]),A5 (AK 8) (.cells ET [Bc cOv 3 12 out]),A5 (AK 8) (.arr Dy 12 out.length),A5 (AK 8) .dead,A5 (AK 8) (.cells BN (cR a)),A5 (AK 8) (.map (Bh V.str nm)),A5 (AK 8) (.cells B9 [.map 6])]=_
 have h3:AK 8 3=some 3:=rfl
 have h6:AK 8 6=some 6:=rfl
 push_cast[h3,h6]⟩
theorem gY (out:List AOv)(e:Int)(a:A2)(nm:NM)(J:List Ob):cut 8 (oH8 out (.sl 12 []) e a nm++J)=oH8 out (.sl 12 []) e a nm:=by
 show [A5 (AK 9) (.cells ET [.sl 12 []]),A5 (AK 9) (.cells Vu [.int .i64 e]),A5 (AK 9) (.cells ET [Bc cOv 3 12 out]),A5 (AK 9) (.arr Dy 12 out.length),A5 (AK 9) .dead,A5 (AK 9) (.cells BN (cR a)),A5 (AK 9) (.map (Bh V.str nm)),A5 (AK 9) (.cells B9 [.map 6])]=_
 have h3:AK 9 3=some 3:=rfl
 have h6:AK 9 6=some 6:=rfl
 push_cast[h3,h6]
theorem Wr {t:Term}(ht:BU t){x:List Int×Term}(hx:x∈Ap t []):BU x.2/\x.1.length<2^20/\D7 t x.1=some x.2:=by
 have h1:=PL t [] x hx
 obtain⟨p,hp,h2⟩:=h1
 rw[List.nil_append]at hp
 rw[<-hp]at h2
 have h3:=(PZ t [] x hx).2
 have:=ht.sz
 exact⟨BU.sub _ ht h2,by simp only[List.length_nil]at h3;omega,h2⟩
theorem Aay {r:List A2}(hr:∀ x∈r,IA x)(hrl:r.length<=64){i:Nat}(hi:i<r.length){a:A2}(ha:IA a){nm:NM}(S:List AOv×Int)(out0:List AOv)(h0:out0.length<=4096)
  (hS:By (K6 r i a) out0 (Ap a.left [])=S) (T:T) (Ks:List K) {Q:X->Dw.T->List Ob->Prop}
  (t34:lk T 34=.fn (.func D3) [] [.ro (cT a.left) 0]) (t1:lk T 1=.ro [Aj r] 0) (t2:lk T 2=.ptr 0 0) (t3:lk T 3=.ptr 1 0) (t4:lk T 4=.ptr 2 0) (t5:lk T 5=.ro [.int .i64 i] 0) (t6:lk T 6=.ptr 5 0)
  (hT8:(T.map fun p=>(p.1,ren (AK 8) p.2))=T) (hT10:(T.map fun p=>(p.1,ren (AK 10) p.2))=T)
  (kOk:∀ out,S=(out,0)->out.length<=4096->Run prog Cp.nd 0 Ks T (oH8 out (.sl 12 []) 0 a nm++[.dead]) Q)
  (kBad:∀ out e,S.2=e->e≠0->Run prog Cp.nd 0 (.c (bW .ret)::Ks) T (oH8 out (.sl 12 []) e a nm++[.dead]) Q) :
  Run prog Cp.nd 0 (.c (.rf (.s 34) [35,36] (.seq (.reg [.mv 8 (.s 35)]) (.reg [.al 9 A3 [.str [],.bool false,.sl 3 []],.sf 9 3 (.s 36)])) (.m 9))::Ks) T (oH8 out0 (.sl 12 []) 0 a nm) Q:=by
 refine Run.rf D3 [] [.ro (cT a.left) 0] ((Ap a.left []).map K7) (fun j H1=>∃ out,H1=oH8 out (.sl 12 []) 0 a nm/\out.length<=4096/\By (K6 r i a) out ((Ap a.left []).drop j)=S) (fun e H1=>e=.ret/\∃ out e',S.2=e'/\e'≠0/\H1=oH8 out (.sl 12 []) e' a nm) t34 (HR a.left (by have:=ha.l.sz;omega)) ?_ ⟨out0,rfl,h0,hS⟩ hT8 ?_ ?_ ?_ ?_ ?_
 ·intro it hit
  obtain⟨x,_,rfl⟩:=List.mem_map.1 hit
  rfl
 ·rintro j H1 ⟨out,rfl,_⟩
  exact jT out 0 a nm
 ·rintro e H1 ⟨_,out,e',_,_,rfl⟩
  exact jT out e' a nm
 ·rintro lo rr j it H1 hit ⟨out,rfl,hol,hq⟩
  rw[List.getElem?_map]at hit
  cases hx:(Ap a.left [])[j]? with
  | none=>rw[hx]at hit;cases hit
  | some x =>
  rw[hx]at hit
  have hit:it=K7 x:=by simpa using hit.symm
  subst hit
  have hj:j<(Ap a.left []).length:=(List.getElem?_eq_some_iff.1 hx).1
  have hxj:(Ap a.left []).getD j default=x:=by rw[List.getD_eq_getElem?_getD,hx];rfl
  have hxm:x∈Ap a.left []:=hxj▸A4 hj
  obtain⟨hg,hpl,hsb⟩:=Wr ha.l hxm
  rw[Ak hj,hxj]at hq
  have hL:A5 (AK 10) (.lp lo .busy rr T)=.lp lo .busy rr T:=by push_cast[hT10]
  have hst:K6 r i a out x=K6 r i a out x:=rfl
  conv at hst=>rhs;unfold K6
  push_cast[OQ,K7]
  refine A8.2 ?_
  cases hv:x.2.var with
  | true =>
   rw[hv,if_pos rfl]at hst
   rw[Bu hst]at hq
   push_cast[hv,t1,t2,t3,t4,t5,t6]
   exact⟨rfl,out,gY out 0 a nm [.lp lo .busy rr T,.dead],hol,hq⟩
  | false =>
   rw[hv,if_neg (by simp)]at hst
   push_cast[hv,t1,t2,t3,t4,t5,t6,hT10]
   refine kO hr hrl hi ha hpl hg (.lp lo .busy rr T) hL _ out hol rfl ?_ ?_
   ·intro out' h1 h2 T'
    rw[h1]at hst
    rw[Bu hst]at hq
    exact⟨rfl,out',gY out' 0 a nm [.lp lo .busy rr T,.dead],h2,hq⟩
   ·intro out' e' h1 h2 T' J
    generalize By (K4 r i a x.1 x.2) out (List.range r.length)=S2 at hst h1
    obtain⟨o2,e2⟩:=S2
    have h1:e2=e':=h1
    subst h1
    rw[Fo hst h2]at hq
    exact⟨rfl,rfl,out',e2,by rw[<-hq],h2,gY out' e2 a nm (.lp lo .busy rr T::J)⟩
 ·rintro H1 ⟨out,rfl,hol,hq⟩
  rw[List.length_map,An]at hq
  exact kOk out hq.symm hol
 ·rintro e H1 ⟨rfl,out,e',h1,h2,rfl⟩
  exact kBad out e' h1 h2
end Go.Dw
end
section
namespace Go.Dw
abbrev Mn (l:List AOv):V:=Dz cOv 12 l
abbrev p6 (out:List AOv)(x:A2):List Ob:=oH1 out (.sl 12 []) 0++[.dead,.cells BN (cR x)]
theorem fh (z:Term):AP (Aw [6,7]) [Ao z,V.ptr 7 0]=[Ao z,V.ptr 1 0]:=by
 have q5:Aw [6,7] 7=some 1:=rfl
 push_cast[q5]
theorem Ye {r:List A2}(hr:∀ x∈r,IA x)(hrl:r.length<=64):PF Mu [Aj r] (.tup [Mn (Nr r).1,.int .i64 (Nr r).2]):=by
 refine Aa Cp.ok rfl ?_
 push_cast
 refine Ac (n:=r.length) (R:=fun k=>∀ (out:List AOv),out.length<=4096->By (LB r) out ((List.range r.length).drop k)=Nr r->Cp.L11 (.ro [Aj r] 0) (.ptr 0 0) (.ptr 1 0) (.ptr 2 0) .any .any (Aj r) (.int .i64 r.length) (.int .i64 k) 0 (oH1 out (.sl 12 []) 0) (Bv 0 Cp.rs fun x' H'=>x'=.tup [Mn (Nr r).1,.int .i64 (Nr r).2]/\H'=[])) ?_ ?_ 0 (by omega) [] (by simp) rfl
 ·intro k hk ih out hol he
  have hx:=hr _ (A4 hk)
  have hkr:k<(List.range r.length).length:=by simpa using hk
  have hgk:(List.range r.length).getD k default=k:=by simp[List.getD_eq_getElem?_getD,hk]
  rw[Ak hkr,hgk]at he
  have hst:LB r out k=LB r out k:=rfl
  conv at hst=>rhs;unfold LB
  have hRR:=Z7 (pre:=[120]) (by simp) hx.l.vf hx.r.vf hx.v
  have hg:=KF (pre:=[120]) rfl hx
  generalize hxx:r.getD k default=x at hx hRR hg hst
  have hN1:=Eb [] x.left (by have:=hx.l.sz;simp;omega)
  have hN2:=Eb (GC [120] [] x.left).1 x.right (by have:=MY [120] x.left [];have:=hx.l.sz;have:=hx.r.sz;simp only[List.length_nil]at *;omega)
  unfold sr at hRR
  generalize GC [120] [] x.left=u at hN1 hN2 hRR
  generalize GC [120] u.1 x.right=w at hN2 hRR
  have hcR:cR ⟨u.2,w.2⟩=cR (Cc [120] x):=by rw[hRR]
  generalize Cc [120] x=a at hcR hg hst
  have hW:=LR a.left
  refine A8.2 ?_
  simp only[Cp.nd]
  generalize hC:C.n 10=c10
  push_cast[ilt hk]
  subst hC
  rw[rc]
  simp only[Cp.nd]
  generalize hR:C.rf (O.s 34) [35,36] ((C.reg [S.mv 8 (O.s 35)]).seq (C.reg [S.al 9 A3 [V.str [],V.bool false,V.sl 3 []],S.sf 9 3 (O.s 36)])) (C.m 9)=cRf
  have hz:∀ x:A2,put 0 (cR x) [V.str [],V.bool false,V.sl 3 [],V.str [],V.bool false,V.sl 3 []]=cR x:=fun _=>rfl
  have hz2:∀ y:A2,put 0 (cT u.2++cT w.2) (cR y)=cR a:=fun _=>by rw[<-hcR];rfl
  push_cast[ilt hk,hxx]
  refine YE _ ?_
  push_cast[hz]
  refine⟨?_,?_,?_⟩
  all_goals
   refine Ff (p6 out x) [] (fh x.left) (Bb▸hN1) ?_
   push_cast[hz]
   refine Ff (p6 out x) [] (fh x.right) (Bb▸hN2) ?_
   push_cast[hz,hz2]
   refine .of hW ?_
   push_cast
   subst hR
   refine Aay hr hrl hk hg (nm:=w.1) _ out hol rfl _ _ rfl rfl rfl rfl rfl rfl rfl (by push_cast;rfl) (by push_cast;rfl) ?_ ?_
   ·intro out' h1 h2
    rw[h1]at hst
    rw[Bu hst]at he
    have this:=ih out' h2 he
    push_cast[w64 (show k<2^62 by omega)]
    push_cast at this
    exact this
   ·intro out' e' h1 h2
    generalize By (K6 r k a) out (Ap a.left [])=S2 at hst h1
    obtain⟨o2,e2⟩:=S2
    have h1:e2=e':=h1
    subst h1
    rw[Fo hst h2]at he
    rw[<-he]
    push_cast[bW]
    exact A1 (by push_cast[Cp.rs];rfl)
 ·intro out hol he
  have e1:(List.range r.length).drop r.length=[]:=by rw[List.drop_eq_nil_of_le];simp
  rw[e1]at he
  simp only[By]at he
  refine A8.2 ?_
  push_cast[B6 (Nat.le_refl _)]
  rw[<-he]
  exact A1 (by push_cast[Cp.rs])
end Go.Dw
end
section
namespace Go.Dw
noncomputable def Hi (r:List A2)(i:Nat)(p:List Int)(x:Term)(out:List AOv)(j:Nat):List AOv×Int :=
 if x.var=true\/(i=j/\p=[]) then (out,0)
 else if (DF (Cc [120] (r.getD i default)) (Cc [121] (r.getD j default)) p (app (rho [120] (AF [] (r.getD i default).left)) x)).2≠0 then ([],(DF (Cc [120] (r.getD i default)) (Cc [121] (r.getD j default)) p (app (rho [120] (AF [] (r.getD i default).left)) x)).2)
 else if (DF (Cc [120] (r.getD i default)) (Cc [121] (r.getD j default)) p (app (rho [120] (AF [] (r.getD i default).left)) x)).1 then (out++[ovR (Cc [120] (r.getD i default)) (Cc [121] (r.getD j default)) i j p (app (rho [120] (AF [] (r.getD i default).left)) x)],0)
 else (out,0)
noncomputable def P7 (r:List A2)(i:Nat)(out:List AOv)(x:List Int×Term):List AOv×Int:=By (Hi r i x.1 x.2) out (List.range r.length)
noncomputable def Iy (r:List A2)(out:List AOv)(i:Nat):List AOv×Int:=By (P7 r i) out (Ap (r.getD i default).left [])
noncomputable def Ot (r:List A2):List AOv×Int :=
 if (By (Iy r) [] (List.range r.length)).2≠0 then ([],(By (Iy r) [] (List.range r.length)).2)
 else if 4096<(By (Iy r) [] (List.range r.length)).1.length then ([],3) else ((By (Iy r) [] (List.range r.length)).1,0)
abbrev lH (out:List AOv):Ob:=.arr Dy 12 out.length
theorem ke {x:A2}(hx:IA x){p:List Int}{y:Term}(h:D7 x.left p=some y):D7 (Cc [120] x).left p=some (app (rho [120] (AF [] x.left)) y):=by
 have h1:=W5 (σ:=Ry (AF [] x.left) [120]) p x.left y hx.l.sh h
 rw[U5,U5]at h1
 exact h1
theorem gE {r:List A2}(hr:∀ x∈r,IA x)(hrl:r.length<=64){i:Nat}(hi:i<r.length){p:List Int}(hp:p.length<2^20){x:Term}(hsx:D7 (r.getD i default).left p=some x){P:List (List Int)}{k:Nat}(hk:k<2^40){R:V}
  (S:List AOv×Int) (out0:List AOv) (m:Nat) (h0:out0.length<=m) (hm:m<2^30) (hS:By (Hi r i p x) out0 (List.range r.length)=S)
  (kOk:∀ out,S=(out,0)->out.length<=m+64->CS.L10 (Aj r) (Bc cOv 0 12 out) (.int .i64 i) (.int .i64 r.length) (.int .i64 i) (SO P) (.int .i64 P.length) (.int .i64 (k+1:Nat)) 0 [lH out] (Bv 0 CS.rs fun x' H'=>x'=R/\H'=[]))
  (kBad:∀ e,S.2=e->e≠0->R=.tup [Mn [],.int .i64 e]) :
  CS.L8 (Aj r) (Bc cOv 0 12 out0) (.int .i64 i) (Hk p) (.ro (cT x) 0) (.int .i64 r.length) (.int .i64 i) (SO P) (.int .i64 P.length) (.int .i64 k) (.int .i64 r.length) (.int .i64 0) 0 [lH out0,.dead] (Bv 0 CS.rs fun x' H'=>x'=R/\H'=[]):=by
 refine Ac (n:=r.length) (R:=fun j=>∀ out:List AOv,out.length<=m+j->By (Hi r i p x) out ((List.range r.length).drop j)=S->CS.L8 (Aj r) (Bc cOv 0 12 out) (.int .i64 i) (Hk p) (.ro (cT x) 0) (.int .i64 r.length) (.int .i64 i) (SO P) (.int .i64 P.length) (.int .i64 k) (.int .i64 r.length) (.int .i64 j) 0 [lH out,.dead] (Bv 0 CS.rs fun x' H'=>x'=R/\H'=[])) ?_ ?_ 0 (by omega) out0 (by omega) hS
 ·intro j hj ih out hol he
  have hjr:j<(List.range r.length).length:=by simpa using hj
  have hgj:(List.range r.length).getD j default=j:=by simp[List.getD_eq_getElem?_getD,hj]
  rw[Ak hjr,hgj]at he
  have hO:=oD hr hrl hi hj hp (ke (hr _ (A4 hi)) hsx)
  have hst:Hi r i p x out j=Hi r i p x out j:=rfl
  conv at hst=>rhs;unfold Hi
  generalize hov:DF (Cc [120] (r.getD i default)) (Cc [121] (r.getD j default)) p (app (rho [120] (AF [] (r.getD i default).left)) x)=v at hO hst
  generalize ovR (Cc [120] (r.getD i default)) (Cc [121] (r.getD j default)) i j p (app (rho [120] (AF [] (r.getD i default).left)) x)=o at hO hst
  obtain⟨ok,e⟩:=v
  simp only at hst
  refine A8.2 ?_
  cases hv:x.var with
  | true =>
   rw[hv,if_pos (.inl rfl)]at hst
   rw[Bu hst]at he
   have this:=ih out (by omega) he
   push_cast[ilt hj,hv,w64 (show j<2^62 by omega)]
   push_cast at this
   exact this
  | false =>
   by_cases hc:i=j/\p=[]
   ·rw[if_pos (.inr hc)]at hst
    rw[Bu hst]at he
    have this:=ih out (by omega) he
    obtain⟨c1,c2⟩:=hc
    have i1:((i:Int)=(j:Int))=True:=eq_true (by omega)
    have i2:((p.length:Int)=0)=True:=eq_true (by rw[c2];rfl)
    push_cast[ilt hj,hv,i1,i2,w64 (show j<2^62 by omega)]
    push_cast at this
    exact this
   ·rw[if_neg (by rw[hv];simp only[Bool.false_eq_true,false_or];exact hc)]at hst
    have hroom:(out.length+1)*184<=Ag:=by unfold Ag;omega
    by_cases hi1:i=j
    ·have hpn:p≠[]:=fun h=>hc ⟨hi1,h⟩
     have i1:((i:Int)=(j:Int))=True:=eq_true (by omega)
     have i2:((p.length:Int)=0)=False:=eq_false (by have:=List.length_pos_iff.2 hpn;omega)
     push_cast[ilt hj,hv,i1,i2]
     refine .of hO ?_
     by_cases he0:e=0
     ·subst he0
      rw[if_neg (by simp)]at hst
      cases ok with
      | true =>
       rw[if_pos rfl]at hst
       rw[Bu hst]at he
       have this:=ih _ (by simp;omega) he
       push_cast[hroom,w64 (show j<2^62 by omega)]
       have hl3:out.length+1=(out++[o]).length:=by simp
       rw[hl3]
       push_cast at this
       exact this
      | false =>
       rw[if_neg (by simp)]at hst
       rw[Bu hst]at he
       have this:=ih _ (by omega) he
       push_cast[w64 (show j<2^62 by omega)]
       push_cast at this
       exact this
     ·rw[if_pos he0]at hst
      rw[Fo hst he0]at he
      have i3:(e=0)=False:=eq_false he0
      push_cast[i3]
      rw[kBad e (by rw[<-he]) he0]
      exact A1 (by push_cast[CS.rs];rfl)
    ·have i1:((i:Int)=(j:Int))=False:=eq_false (by omega)
     push_cast[ilt hj,hv,i1]
     refine .of hO ?_
     by_cases he0:e=0
     ·subst he0
      rw[if_neg (by simp)]at hst
      cases ok with
      | true =>
       rw[if_pos rfl]at hst
       rw[Bu hst]at he
       have this:=ih _ (by simp;omega) he
       push_cast[hroom,w64 (show j<2^62 by omega)]
       have hl3:out.length+1=(out++[o]).length:=by simp
       rw[hl3]
       push_cast at this
       exact this
      | false =>
       rw[if_neg (by simp)]at hst
       rw[Bu hst]at he
       have this:=ih _ (by omega) he
       push_cast[w64 (show j<2^62 by omega)]
       push_cast at this
       exact this
     ·rw[if_pos he0]at hst
      rw[Fo hst he0]at he
      have i3:(e=0)=False:=eq_false he0
      push_cast[i3]
      rw[kBad e (by rw[<-he]) he0]
      exact A1 (by push_cast[CS.rs];rfl)
 ·intro out hol he
  have e1:(List.range r.length).drop r.length=[]:=by rw[List.drop_eq_nil_of_le];simp
  rw[e1]at he
  simp only[By]at he
  have this:=kOk out he.symm (by omega)
  refine A8.2 ?_
  push_cast[B6 (Nat.le_refl _),w64 (show k<2^62 by omega)]
  push_cast at this
  exact this
theorem gN {r:List A2}(hr:∀ x∈r,IA x)(hrl:r.length<=64):PF Rj [Aj r] (.tup [Mn (Ot r).1,.int .i64 (Ot r).2]):=by
 generalize hR:V.tup [Mn (Ot r).1,.int .i64 (Ot r).2]=R
 generalize hSS:By (Iy r) [] (List.range r.length)=SS
 have hRS:R=if SS.2≠0 then .tup [Mn [],.int .i64 SS.2] else if 4096<SS.1.length then .tup [Mn [],.int .i64 3] else .tup [Mn SS.1,.int .i64 0]:=by
  rw[<-hR]
  unfold Ot
  rw[hSS]
  split
  ·rfl
  ·split <;> rfl
 refine Aa CS.ok rfl ?_
 push_cast
 refine Ac (n:=r.length) (R:=fun i=>∀ out:List AOv,out.length<=i*(4000*64)->By (Iy r) out ((List.range r.length).drop i)=SS->CS.L12 (Aj r) (Bc cOv 0 12 out) (.int .i64 r.length) (.int .i64 i) 0 [lH out] (Bv 0 CS.rs fun x' H'=>x'=R/\H'=[])) ?_ ?_ 0 (by omega) [] (by simp) hSS
 ·intro i hi ih out hol he
  have hx:=hr _ (A4 hi)
  have hir:i<(List.range r.length).length:=by simpa using hi
  have hgi:(List.range r.length).getD i default=i:=by simp[List.getD_eq_getElem?_getD,hi]
  rw[Ak hir,hgi]at he
  have hst:Iy r out i=Iy r out i:=rfl
  conv at hst=>rhs;unfold Iy
  have hPs:=V5 (r.getD i default).left (by have:=hx.l.sz;omega)
  have hvl:(Ap (r.getD i default).left []).length=size (r.getD i default).left:=MZ _ _
  have hpl:(F5 (r.getD i default).left).length=size (r.getD i default).left:=by
   have:=congrArg List.length (KD (r.getD i default).left [])
   simp only[List.length_map]at this
   omega
  have hsz:=hx.l.sz
  have mid:CS.L10 (Aj r) (Bc cOv 0 12 out) (.int .i64 i) (.int .i64 r.length) (.int .i64 i) (SO (F5 (r.getD i default).left)) (.int .i64 (F5 (r.getD i default).left).length) (.int .i64 (0:Nat)) 0 [lH out] (Bv 0 CS.rs fun x' H'=>x'=R/\H'=[]):=by
   refine Ac (n:=(F5 (r.getD i default).left).length) (R:=fun k=>∀ o2:List AOv,o2.length<=out.length+k*64->By (P7 r i) o2 ((Ap (r.getD i default).left []).drop k)=By (P7 r i) out (Ap (r.getD i default).left [])->CS.L10 (Aj r) (Bc cOv 0 12 o2) (.int .i64 i) (.int .i64 r.length) (.int .i64 i) (SO (F5 (r.getD i default).left)) (.int .i64 (F5 (r.getD i default).left).length) (.int .i64 k) 0 [lH o2] (Bv 0 CS.rs fun x' H'=>x'=R/\H'=[])) ?_ ?_ 0 (by omega) out (by omega) rfl
   ·intro k hk ih2 o2 ho2 he2
    obtain⟨v1,v2⟩:=lw (r.getD i default).left hk
    have hkv:k<(Ap (r.getD i default).left []).length:=by omega
    rw[Ak hkv]at he2
    have hg:=Wr hx.l (A4 hkv)
    rw[v2]at hg
    have hAt:=dU (r.getD i default).left ((F5 (r.getD i default).left).getD k default) (by omega) (by omega)
    rw[v1]at hAt
    have hst2:P7 r i o2 ((Ap (r.getD i default).left []).getD k default)=By (Hi r i ((F5 (r.getD i default).left).getD k default) ((Ap (r.getD i default).left []).getD k default).2) o2 (List.range r.length):=by unfold P7;rw[v2]
    generalize (Ap (r.getD i default).left []).getD k default=y at he2 hst2 hAt v1 hg
    generalize hpp:(F5 (r.getD i default).left).getD k default=p at hst2 hAt v1 hg
    have hin:=gE hr hrl hi hg.2.1 v1 (P:=F5 (r.getD i default).left) (k:=k) (by omega) (R:=R) _ o2 (out.length+k*64) ho2 (by have:=Nat.mul_le_mul_right (4000*64) (show i<=64 by omega);omega) rfl
     (fun o3 h1 h2=>by
      rw[h1]at hst2
      rw[Bu hst2]at he2
      exact ih2 o3 (by omega) he2)
     (fun e h1 h2=>by
      generalize By (Hi r i p y.2) o2 (List.range r.length)=S2 at hst2 h1
      obtain⟨o4,e2⟩:=S2
      have h1:e2=e:=h1
      subst h1
      rw[Fo hst2 h2]at he2
      rw[<-he2]at hst
      rw[Fo hst h2]at he
      rw[hRS,<-he,if_pos h2])
    refine A8.2 ?_
    push_cast[ilt hk,ilt hi,hpp]
    refine .of hAt ?_
    push_cast[UQ]
    push_cast at hin
    exact hin
   ·intro o2 ho2 he2
    have e1:(Ap (r.getD i default).left []).drop (F5 (r.getD i default).left).length=[]:=by rw[List.drop_eq_nil_of_le];omega
    rw[e1]at he2
    simp only[By]at he2
    rw[<-he2]at hst
    rw[Bu hst]at he
    have this:=ih o2 (by rw[Nat.succ_mul];have:=Nat.mul_le_mul_right 64 (show (F5 (r.getD i default).left).length<=4000 by omega);omega) he
    refine A8.2 ?_
    push_cast[B6 (Nat.le_refl _),w64 (show i<2^62 by omega)]
    push_cast at this
    exact this
  refine A8.2 ?_
  push_cast[ilt hi]
  refine .of hPs ?_
  push_cast
  push_cast at mid
  exact mid
 ·intro out hol he
  have e1:(List.range r.length).drop r.length=[]:=by rw[List.drop_eq_nil_of_le];simp
  rw[e1]at he
  simp only[By]at he
  rw[<-he]at hRS
  rw[if_neg (by simp)]at hRS
  refine A8.2 ?_
  by_cases h4:4096<out.length
  ·have i4:((4096:Int)<(out.length:Int))=True:=eq_true (by omega)
   push_cast[B6 (Nat.le_refl _),i4]
   rw[hRS,if_pos h4]
   exact A1 (by push_cast[CS.rs];rfl)
  ·have i4:((4096:Int)<(out.length:Int))=False:=eq_false (by omega)
   push_cast[B6 (Nat.le_refl _),i4]
   rw[hRS,if_neg h4]
   exact A1 (by push_cast[CS.rs])
end Go.Dw
end
section
namespace Go.Dw
def qW (P R:List AOv×Int):Prop:=(P.2=0/\R.2=0/\P.1.length=R.1.length/\P.1.length<=4096)\/(P.2=3/\(R.2=3\/(R.2=0/\4096<R.1.length)))
def mc {β:Type}(G:List AOv->β->List AOv×Int)(l:List β):Prop:=∀ o,∀ y∈l,(G o y).2=3\/((G o y).2=0/\o.length<=(G o y).1.length)
theorem MI {β:Type}{G:List AOv->β->List AOv×Int}:∀ (l:List β)(o:List AOv),mc G l->(By G o l).2=3\/((By G o l).2=0/\o.length<=(By G o l).1.length)
 | [],o,_=>.inr ⟨rfl,Nat.le_refl _⟩
 | y::l,o,h=>by
  simp only[By]
  rcases h o y (by simp)with h1 | ⟨h1,h2⟩
  ·rw[if_pos (by rw[h1];decide)];exact .inl h1
  ·rw[if_neg (by rw[h1];decide)]
   rcases MI l (G o y).1 fun o z hz=>h o z (by simp[hz])with h3 | ⟨h3,h4⟩
   ·exact .inl h3
   ·exact .inr ⟨h3,by omega⟩
theorem SF {α β:Type}{F:List AOv->α->List AOv×Int}{G:List AOv->β->List AOv×Int}{f:β->α}:∀ (l:List β)(o o':List AOv),mc G l->(∀ o o',∀ y∈l,o.length=o'.length->o.length<=4096->qW (F o (f y)) (G o' y))->o.length=o'.length->o.length<=4096->qW (By F o (l.map f)) (By G o' l)
 | [],o,o',_,_,h1,h2=>.inl ⟨rfl,rfl,h1,h2⟩
 | y::l,o,o',hm,hs,h1,h2=>by
  simp only[List.map_cons,By]
  rcases hs o o' y (by simp) h1 h2 with ⟨a1,a2,a3,a4⟩ | ⟨a1,a2⟩
  ·rw[if_neg (by rw[a1];decide),if_neg (by rw[a2];decide)]
   exact SF l _ _ (fun o z hz=>hm o z (by simp[hz])) (fun o o' z hz=>hs o o' z (by simp[hz])) a3 a4
  ·rw[if_pos (by rw[a1];decide)]
   refine .inr ⟨a1,?_⟩
   rcases a2 with a2 | ⟨a2,a3⟩
   ·rw[if_pos (by rw[a2];decide)];exact .inl a2
   ·rw[if_neg (by rw[a2];decide)]
    rcases MI l (G o' y).1 fun o z hz=>hm o z (by simp[hz])with h3 | ⟨h3,h4⟩
    ·exact .inl h3
    ·exact .inr ⟨h3,by omega⟩
theorem Rc (a b:A2)(pos:List Int)(sub:Term):(DF a b pos sub).2=0\/(DF a b pos sub).2=3:=by
 by_cases h:(DF a b pos sub).2=0
 ·exact .inl h
 ·exact .inr (YW a b pos sub h).2
theorem PG (r:List A2)(i:Nat)(p:List Int)(x:Term)(l:List Nat):mc (Hi r i p x) l:=fun o j _=>by
 unfold Hi
 split
 ·exact .inr ⟨rfl,Nat.le_refl _⟩
 ·split
  ·rename_i h
   rcases Rc (Cc [120] (r.getD i default)) (Cc [121] (r.getD j default)) p (app (rho [120] (AF [] (r.getD i default).left)) x)with h2 | h2
   ·exact absurd h2 h
   ·exact .inl h2
  ·split
   ·exact .inr ⟨rfl,by simp⟩
   ·exact .inr ⟨rfl,Nat.le_refl _⟩
theorem Ps (r:List A2)(i:Nat)(l:List (List Int×Term)):mc (P7 r i) l:=fun o y _=>MI _ _ (PG r i y.1 y.2 _)
theorem Uq (r:List A2)(l:List Nat):mc (Iy r) l:=fun o i _=>MI _ _ (Ps r i _)
theorem pB (r:List A2)(i:Nat)(p:List Int)(x:Term)(hx:x.var=false)(o o':List AOv)(j:Nat)(h1:o.length=o'.length)(h2:o.length<=4096) :
  qW (K4 r i (Cc [120] (r.getD i default)) p (app (rho [120] (AF [] (r.getD i default).left)) x) o j) (Hi r i p x o' j):=by
 unfold K4 Hi
 have he:=Rc (Cc [120] (r.getD i default)) (Cc [121] (r.getD j default)) p (app (rho [120] (AF [] (r.getD i default).left)) x)
 generalize DF (Cc [120] (r.getD i default)) (Cc [121] (r.getD j default)) p (app (rho [120] (AF [] (r.getD i default).left)) x)=v at he ⊢
 obtain⟨ok,e⟩:=v
 simp only at he ⊢
 by_cases hc:i=j/\p=[]
 ·rw[if_pos hc,if_pos (.inr hc)]
  exact .inl ⟨rfl,rfl,h1,h2⟩
 ·have c2:¬ (x.var=true\/(i=j/\p=[])):=by rw[hx];simp only[Bool.false_eq_true,false_or];exact hc
  rw[if_neg hc,if_neg c2]
  rcases he with rfl | rfl
  ·simp only[ne_eq,not_true_eq_false,if_false]
   cases ok with
   | true =>
    simp only[if_true]
    by_cases h4:4096<o.length+1
    ·rw[if_pos h4]
     exact .inr ⟨rfl,.inr ⟨rfl,by simp;omega⟩⟩
    ·rw[if_neg h4]
     exact .inl ⟨rfl,rfl,by simp;omega,by simp;omega⟩
   | false =>
    simp only[Bool.false_eq_true,if_false]
    rw[if_neg (by omega)]
    exact .inl ⟨rfl,rfl,h1,h2⟩
  ·have c3:(3:Int)≠0:=by decide
   rw[if_pos c3,if_pos c3]
   exact .inr ⟨rfl,.inl rfl⟩
theorem Zl {β:Type}{G:List AOv->β->List AOv×Int}{o:List AOv}:∀ l:List β,(∀ y∈l,G o y=(o,0))->By G o l=(o,0)
 | [],_=>rfl
 | y::l,h=>by rw[Bu (h y (by simp))];exact Zl l fun z hz=>h z (by simp[hz])
theorem mL (r:List A2)(i:Nat)(o o':List AOv)(y:List Int×Term)(h1:o.length=o'.length)(h2:o.length<=4096) :
  qW (K6 r i (Cc [120] (r.getD i default)) o (y.1,app (rho [120] (AF [] (r.getD i default).left)) y.2)) (P7 r i o' y):=by
 unfold K6 P7
 cases hv:y.2.var with
 | true =>
  have hv2:(app (rho [120] (AF [] (r.getD i default).left)) y.2).var=true:=by rw[Av hv];rfl
  rw[if_pos hv2,Zl _ fun j _=>by unfold Hi;rw[if_pos (.inl hv)]]
  exact .inl ⟨rfl,rfl,h1,h2⟩
 | false =>
  have hv2:(app (rho [120] (AF [] (r.getD i default).left)) y.2).var=false:=by rw[B7 hv];rfl
  have hv3:¬ (((y.1,app (rho [120] (AF [] (r.getD i default).left)) y.2):List Int×Term).2.var=true):=by
   show ¬ ((app (rho [120] (AF [] (r.getD i default).left)) y.2).var=true)
   rw[hv2];simp
  rw[if_neg hv3]
  have:=SF (F:=K4 r i (Cc [120] (r.getD i default)) y.1 (app (rho [120] (AF [] (r.getD i default).left)) y.2)) (G:=Hi r i y.1 y.2) (f:=id) (List.range r.length) o o' (PG r i y.1 y.2 _) (fun o o' j _ h1 h2=>pB r i y.1 y.2 hv o o' j h1 h2) h1 h2
  rw[List.map_id]at this
  exact this
theorem kP {f:Sub}(hf:∀ v,∃ w,f v=BS w)(t:Term):∀ p:List Int,vfl t=true->Ap (app f t) p=(Ap t p).map fun x=>(x.1,app f x.2):=by
 induction t using Af with
 | h t ih =>
 intro p ht
 rw[GH (app f t),GH t]
 cases hv:t.var with
 | true =>
  obtain⟨w,hw⟩:=hf t.name
  have h0:t.args=[]:=(Kc.1 ht).1 hv
  have h1:(app f t).args=[]:=by rw[Av hv,hw];rfl
  rw[h0,h1]
  rfl
 | false =>
  have h1:(app f t).args=t.args.map (app f):=by rw[B7 hv];rfl
  rw[h1]
  have key:∀ (l:List Term)(i:Nat),(∀ a∈l,a∈t.args)->B4 (l.map (app f)) p i=(B4 l p i).map fun x=>(x.1,app f x.2):=by
   intro l
   induction l with
   | nil=>intro i _;rfl
   | cons a l ihl =>
    intro i hl
    simp only[List.map_cons,B4,List.map_append]
    rw[ih a (hl a (by simp)) _ (BF ht (hl a (by simp))),ihl (i+1) fun b hb=>hl b (by simp[hb])]
  rw[key t.args 0 fun _ h=>h]
  rfl
theorem QQ {r:List A2}(hr:∀ x∈r,IA x):(Nr r).2=(Ot r).2/\((Nr r).2=0->(Nr r).1.length=(Ot r).1.length):=by
 have h:=SF (F:=LB r) (G:=Iy r) (f:=id) (List.range r.length) [] [] (Uq r _) (fun o o' i hi h1 h2=>by
  have hi:i<r.length:=List.mem_range.1 hi
  have hx:=hr _ (A4 hi)
  unfold LB Iy
  have hv:=kP (f:=rho [120] (AF [] (r.getD i default).left)) (fun v=>⟨_,rfl⟩) (r.getD i default).left [] hx.l.vf
  show qW (By (K6 r i (Cc [120] (r.getD i default))) o (Ap (app (rho [120] (AF [] (r.getD i default).left)) (r.getD i default).left) [])) _
  rw[hv]
  exact SF (f:=fun x:List Int×Term=>(x.1,app (rho [120] (AF [] (r.getD i default).left)) x.2)) _ o o' (Ps r i _) (fun o o' y _ h1 h2=>mL r i o o' y h1 h2) h1 h2) rfl (by simp)
 rw[List.map_id]at h
 unfold Ot
 show (By (LB r) [] (List.range r.length)).2=_/\((By (LB r) [] (List.range r.length)).2=0->(By (LB r) [] (List.range r.length)).1.length=_)
 generalize By (LB r) [] (List.range r.length)=P at h ⊢
 generalize By (Iy r) [] (List.range r.length)=R at h ⊢
 rcases h with ⟨a1,a2,a3,a4⟩ | ⟨a1,a2⟩
 ·rw[if_neg (by rw[a2];decide),if_neg (by omega)]
  exact⟨a1,fun _=>a3⟩
 ·rcases a2 with a2 | ⟨a2,a3⟩
  ·rw[if_pos (by rw[a2];decide)]
   exact⟨by rw[a1,a2],fun h=>by rw[a1]at h;cases h⟩
  ·rw[if_neg (by rw[a2];decide),if_pos a3]
   exact⟨a1,fun h=>by rw[a1]at h;cases h⟩
end Go.Dw
end
