/-
  Contracts and lemmas for ResidualDivides: part i of 10.
-/
import Derived.Test.YtkdcfkfdkimaeaaGreatDoorVah
import Derived.Test.YtkdcfkfdkimaeaaGreatDoorVag
import Derived.WalkKit
import Derived.Laws.MathBits
import Derived.Test.YtkdcfkfdkimaeaaGreatDoorVad
import Derived.Test.YtkdcfkfdkimaeaaGreatDoorVae
import Derived.Test.YtkdcfkfdkimaeaaGreatDoorVaf
set_option linter.unusedVariables false
set_option linter.unusedSimpArgs false
set_option maxRecDepth 100000
section
namespace Go.Dw
theorem ay (t:Term)(v:Str)(hs:size t<2^61):PF Ko [Ao t,.str v] (.int .i64 (CZ v t)):=by
 induction t using Af with
 | h t ih =>
 have hst:=AH t
 have hla:=Ai t.args
 have hcl:=Qp v t.args
 refine Aa Hj.ok rfl ?_
 have loop:∀ c0:Nat,c0<=1->CZ v t=c0+BQ v t.args->Hj.L3 (.str v) (.int .i64 c0) (Bd t.args) (.int .i64 t.args.length) (.int .i64 (0:Nat)) 0 [] (Bv 0 Hj.rs fun x' H'=>x'=.int .i64 (CZ v t)/\H'=[]):=by
  intro c0 hc0 he
  refine Ac (n:=t.args.length) (R:=fun k=>∀ c:Nat,c=c0+BQ v (t.args.take k)->Hj.L3 (.str v) (.int .i64 c) (Bd t.args) (.int .i64 t.args.length) (.int .i64 k) 0 [] (Bv 0 Hj.rs fun x' H'=>x'=.int .i64 (CZ v t)/\H'=[])) ?_ ?_ 0 (by omega) c0 (by simp[BQ])
  ·intro k hk ih2 c hc
   have hm:=A4 hk
   have hsm:=Bp hm
   have htk:=P5 v t.args (k+1)
   rw[A9 hk,Ju]at htk
   simp only[BQ]at htk
   have hcall:=ih _ hm (by omega)
   have this:=ih2 (c+CZ v (t.args.getD k default)) (by rw[A9 hk,Ju];simp only[BQ];omega)
   generalize CZ v (t.args.getD k default)=d at hcall this htk
   have hw1:IntKind.i64.wrap ((c:Int)+(d:Int))=(c:Int)+d:=Bq (by omega) (by omega)
   refine A8.2 ?_
   push_cast[ilt hk]
   refine .of hcall ?_
   push_cast[hw1,w64 (show k<2^62 by omega)]
   push_cast at this
   exact this
  ·intro c hc
   rw[List.take_length]at hc
   refine A8.2 ?_
   push_cast[B6 (Nat.le_refl _)]
   rw[he,<-hc]
   exact A1 (by push_cast[Hj.rs])
 cases hv:t.var with
 | false =>
  have:=loop 0 (by omega) (by rw[Lb,hv];simp)
  push_cast[hv]
  push_cast at this
  exact this
 | true =>
  by_cases hn:t.name=v
  ·have:=loop 1 (by omega) (by rw[Lb,hv];simp[hn])
   push_cast[hv,hn,w64 (show 0<2^62 by omega)]
   push_cast at this
   exact this
  ·have:=loop 0 (by omega) (by rw[Lb,hv];simp[hn])
   push_cast[hv,hn]
   push_cast at this
   exact this
def OW (t:Term):Bool:=!((DS t).any fun v=>decide (1<CZ v t))
theorem Zo {t:Term}(h:BU t):(DS t).length<=4000:=by
 have h1:=Ir t []
 have:=h.sz
 have e:DS t=Dn [] t:=rfl
 rw[e];simp only[List.length_nil]at h1;omega
theorem Ug {t:Term}(h:BU t):PF IZ [Ao t] (.bool (OW t)):=by
 have hsz:=h.sz
 have hV:=Ej [t] (by simp[Ab];omega)
 rw[<-ce]at hV
 have hC:=D8 (p:=fun v=>decide (1<CZ v t)) (g:=Hm) (caps:=[.ro (cT t) 0]) (fun _=>by push_cast) (DS t) (by have:=Zo h;omega) fun v hv=>by
  refine Aa IM.ok rfl ?_
  push_cast
  refine .of (ay t v (by omega)) ?_
  push_cast
  have hq:decide ((1:Int)<(CZ v t:Int))=decide (1<CZ v t):=decide_eq_decide.2 ⟨fun h=>by omega,fun h=>by omega⟩
  exact A1 (by push_cast[IM.rs];rw[hq])
 refine Aa KX.ok rfl ?_
 push_cast
 refine .of hV ?_
 push_cast
 refine .of hC ?_
 push_cast
 exact A1 (by push_cast[KX.rs,OW])
theorem WI {r:List A2}(hr:∀ x∈r,IA x)(hl:r.length<=64):PF Lh [Aj r] (.bool (r.all fun x=>OW x.left)):=by
 have hC:=DT (p:=fun x=>!OW x.left) (g:=IQ) (caps:=[]) (fun _=>rfl) r (by omega) fun x hx=>by
  refine Aa Lz.ok rfl ?_
  push_cast
  refine .of (Ug (hr x hx).l) ?_
  push_cast
  exact A1 (by push_cast[Lz.rs])
 refine Aa Nt.ok rfl ?_
 push_cast
 refine .of hC ?_
 push_cast
 refine A1 ?_
 push_cast[Nt.rs]
 congr 1
 rw[List.all_eq_not_any_not]
theorem aF {t:Term}(h:BU t):PF Nv [Ao t] (.bool (OW t)):=by
 have hsz:=h.sz
 have hV:=Rs t (by have:=h.tb;omega)
 have hvl:=Zo h
 refine Aa IW.ok rfl ?_
 push_cast
 refine .of hV ?_
 push_cast
 refine Ac (n:=(DS t).length) (R:=fun k=>((DS t).drop k).any (fun v=>decide (1<CZ v t))=(DS t).any (fun v=>decide (1<CZ v t))->IW.L3 (.ro (cT t) 0) (Bl (DS t)) (.int .i64 (DS t).length) (.int .i64 k) 0 [] (Bv 0 IW.rs fun x' H'=>x'=.bool (OW t)/\H'=[])) ?_ ?_ 0 (by omega) rfl
 ·intro k hk ih he
  rw[Ak hk]at he
  simp only[List.any_cons]at he
  have hc:=Un t ((DS t).getD k default) (by omega)
  refine A8.2 ?_
  generalize hv:(DS t).getD k default=v at he hc
  by_cases h1:1<CZ v t
  ·have i1:((1:Int)<(CZ v t:Int))=True:=eq_true (by omega)
   have hq:OW t=false:=by unfold OW;rw[<-he];simp[h1]
   rw[hq]
   push_cast[ilt hk,hv]
   refine .of hc ?_
   push_cast[i1]
   exact A1 (by push_cast[IW.rs])
  ·have i1:((1:Int)<(CZ v t:Int))=False:=eq_false (by omega)
   have this:=ih (by rw[<-he];simp[h1])
   push_cast[ilt hk,hv]
   refine .of hc ?_
   push_cast[i1,w64 (show k<2^62 by omega)]
   push_cast at this
   exact this
 ·intro he
  rw[An]at he
  refine A8.2 ?_
  push_cast[B6 (Nat.le_refl _)]
  refine A1 ?_
  push_cast[IW.rs]
  unfold OW
  rw[<-he];rfl
theorem TB {r:List A2}(hr:∀ x∈r,IA x)(hl:r.length<=64):PF IX [Aj r] (.bool (r.all fun x=>OW x.left)):=by
 refine Aa EI.ok rfl ?_
 push_cast
 refine Ac (n:=r.length) (R:=fun k=>((r.drop k).all fun x=>OW x.left)=(r.all fun x=>OW x.left)->EI.L3 (Aj r) (.int .i64 r.length) (.int .i64 k) 0 [] (Bv 0 EI.rs fun x' H'=>x'=.bool (r.all fun x=>OW x.left)/\H'=[])) ?_ ?_ 0 (by omega) rfl
 ·intro k hk ih he
  have hx:=hr _ (A4 hk)
  rw[Ak hk]at he
  simp only[List.all_cons]at he
  refine A8.2 ?_
  generalize hxx:r.getD k default=x at hx he
  have hc:=aF hx.l
  cases h1:OW x.left with
  | false =>
   rw[h1]at hc he
   rw[<-he]
   push_cast[ilt hk,hxx]
   refine .of hc ?_
   push_cast
   exact A1 (by push_cast[EI.rs])
  | true =>
   rw[h1]at hc he
   have this:=ih (by rw[<-he];simp)
   push_cast[ilt hk,hxx]
   refine .of hc ?_
   push_cast[w64 (show k<2^62 by omega)]
   push_cast at this
   exact this
 ·intro he
  rw[An]at he
  refine A8.2 ?_
  push_cast[B6 (Nat.le_refl _)]
  refine A1 ?_
  push_cast[EI.rs]
  rw[<-he];rfl
theorem HJ {r:List A2}(h:Al r=0):(∀ x∈r,IA x)/\r.length<=64:=by
 refine⟨fun x hx=>?_,?_⟩
 ·obtain⟨h1,h2⟩:=HS h x hx
  exact⟨BU.of_check h1,BU.of_check h2,fun v hv=>(DK v x.left).1 (K9 h x hx v hv)⟩
 ·have h1:Bi r=0:=by
   unfold Al at h
   split at h
   ·rename_i hc;exact absurd h hc
   ·rename_i hc;simpa using hc
  unfold Bi at h1
  split at h1
  ·cases h1
  ·omega
noncomputable def ED (r:List A2):Bool×Int :=
 if Al r≠0 then (false,Al r) else if (Nr r).2≠0 then (false,(Nr r).2) else (decide ((Nr r).1.length=0) && r.all fun x=>OW x.left,0)
theorem Pa {r:List A2}(hs:rbs r<2^38):PF Ge [Aj r] (.tup [.bool (ED r).1,.int .i64 (ED r).2]):=by
 have hC:=LE r hs
 have hList:PF Lm [Aj r] (if Al r≠0 then .tup [Mn [],.int .i64 (Al r)] else .tup [Mn (Nr r).1,.int .i64 (Nr r).2]):=by
  refine Aa Ka.ok rfl ?_
  push_cast
  refine .of hC ?_
  by_cases h0:Al r=0
  ·obtain⟨h1,h2⟩:=HJ h0
   rw[if_neg (by simpa using h0)]
   push_cast[h0]
   refine .of (Ye h1 h2) ?_
   push_cast
   exact A1 (by push_cast[Ka.rs])
  ·rw[if_pos h0]
   push_cast[h0]
   exact A1 (by push_cast[Ka.rs];rfl)
 refine Aa CV.ok rfl ?_
 unfold ED
 push_cast
 refine .of hList ?_
 by_cases h0:Al r=0
 ·obtain⟨h1,h2⟩:=HJ h0
  rw[if_neg (by simpa using h0),if_neg (by simpa using h0)]
  have hL:=WI h1 h2
  generalize Nr r=A
  obtain⟨l,e⟩:=A
  simp only
  by_cases he:e=0
  ·subst he
   simp only[ne_eq,not_true_eq_false,if_false]
   by_cases hl:l.length=0
   ·have i1:((l.length:Int)=0)=True:=eq_true (by omega)
    push_cast[i1]
    refine .of hL ?_
    push_cast
    exact A1 (by push_cast[CV.rs,hl])
   ·have i1:((l.length:Int)=0)=False:=eq_false (by omega)
    push_cast[i1]
    exact A1 (by push_cast[CV.rs,hl])
  ·have i1:(e=0)=False:=eq_false he
   rw[if_pos he]
   push_cast[i1]
   exact A1 (by push_cast[CV.rs])
 ·rw[if_pos h0,if_pos h0]
  have i1:(Al r=0)=False:=eq_false h0
  push_cast[i1]
  exact A1 (by push_cast[CV.rs])
theorem Ty {r:List A2}(hs:rbs r<2^38):PF Ja [Aj r] (.tup [.bool (ED r).1,.int .i64 (ED r).2]):=by
 have hC:=M8 r hs
 refine Aa Ey.ok rfl ?_
 unfold ED
 push_cast
 refine .of hC ?_
 by_cases h0:Al r=0
 ·obtain⟨h1,h2⟩:=HJ h0
  rw[if_neg (by simpa using h0)]
  have hL:=TB h1 h2
  have hLi:=gN h1 h2
  obtain⟨s1,s2⟩:=QQ h1
  rw[s1]at s2 ⊢
  generalize Nr r=P at s2 ⊢
  generalize Ot r=A at hLi s2 ⊢
  obtain⟨l,e⟩:=A
  simp only at s2 ⊢
  push_cast[h0]
  refine .of hLi ?_
  by_cases he:e=0
  ·subst he
   have hl2:=s2 rfl
   rw[hl2]
   simp only[ne_eq,not_true_eq_false,if_false]
   by_cases hl:l.length=0
   ·have i1:((l.length:Int)=0)=True:=eq_true (by omega)
    push_cast[i1]
    refine .of hL ?_
    push_cast
    exact A1 (by push_cast[Ey.rs,hl])
   ·have i1:((l.length:Int)=0)=False:=eq_false (by omega)
    push_cast[i1]
    exact A1 (by push_cast[Ey.rs,hl])
  ·have i1:(e=0)=False:=eq_false he
   rw[if_pos he]
   push_cast[i1]
   exact A1 (by push_cast[Ey.rs])
 ·rw[if_pos h0]
  have i1:(Al r=0)=False:=eq_false h0
  push_cast[i1]
  exact A1 (by push_cast[Ey.rs])
end Go.Dw
end
section
namespace Go.Dw
noncomputable def J1 (r:List A2):Int:=if (ED r).2≠0 then (ED r).2 else if (ED r).1 then 0 else 2
theorem Tm {r:List A2}(hs:rbs r<2^38):PF J5 [Aj r] (.int .i64 (J1 r)):=by
 have hO:=Pa hs
 refine Aa Gc.ok rfl ?_
 unfold J1
 push_cast
 refine .of hO ?_
 generalize ED r=v
 obtain⟨ok,e⟩:=v
 simp only
 by_cases he:e=0
 ·subst he
  cases ok
  ·push_cast
   exact A1 (by push_cast[Gc.rs])
  ·push_cast
   exact A1 (by push_cast[Gc.rs])
 ·have i1:(e=0)=False:=eq_false he
  push_cast[i1]
  exact A1 (by push_cast[Gc.rs])
theorem SK {r:List A2}(hs:rbs r<2^38):PF HU [Aj r] (.int .i64 (J1 r)):=by
 have hO:=Ty hs
 refine Aa Fk.ok rfl ?_
 unfold J1
 push_cast
 refine .of hO ?_
 generalize ED r=v
 obtain⟨ok,e⟩:=v
 simp only
 by_cases he:e=0
 ·subst he
  cases ok
  ·push_cast
   exact A1 (by push_cast[Fk.rs])
  ·push_cast
   exact A1 (by push_cast[Fk.rs])
 ·have i1:(e=0)=False:=eq_false he
  push_cast[i1]
  exact A1 (by push_cast[Fk.rs])
theorem di {r:List A2}(h:J1 r=0):ED r=(true,0)/\Al r=0:=by
 have h1:ED r=(true,0):=by
  unfold J1 at h
  split at h
  ·rename_i hc;exact absurd h hc
  ·rename_i hc
   split at h
   ·rename_i h2
    have h3:(ED r).2=0:=by simpa using hc
    exact Prod.ext h2 h3
   ·cases h
 refine⟨h1,?_⟩
 unfold ED at h1
 by_cases hc:Al r=0
 ·exact hc
 ·rw[if_pos hc]at h1
  exact absurd (congrArg Prod.fst h1) (by simp)
def FR (r:List A2)(m:A0):Int:=if (FZ r A2.left m).2≠0 then (FZ r A2.left m).2 else (FZ r A2.right m).2
def Lx (r:List A2)(m:A0):Term:=(FZ r A2.left m).1.getD noT
def vB (r:List A2)(m:A0):Term:=if (FZ r A2.left m).2≠0 then Lx r m else (FZ r A2.right m).1.getD noT
theorem Oc (o:Option Term)(e:Int):Gv o e=.tup [Ao (o.getD noT),.int .i64 e]:=by cases o <;> rfl
theorem Oz {r:List A2}{m:A0}(hr:rbs r<2^38)(hm:mb m<2^38):PF GR [Aj r,Aq m] (.tup [Ao (Lx r m),Ao (vB r m),.int .i64 (FR r m)]):=by
 have h1:=Xe r m hr hm
 have h2:=Wf r m hr hm
 rw[Oc]at h1 h2
 unfold Lx vB FR
 unfold Lx
 generalize FZ r A2.left m=A at *
 generalize FZ r A2.right m=B at *
 obtain⟨o1,e1⟩:=A
 obtain⟨o2,e2⟩:=B
 refine Aa Jg.ok rfl ?_
 push_cast
 refine .of h1 ?_
 simp only
 by_cases he:e1=0
 ·subst he
  push_cast
  refine .of h2 ?_
  push_cast
  exact A1 (by push_cast[Jg.rs])
 ·have i1:(e1=0)=False:=eq_false he
  push_cast[i1]
  exact A1 (by push_cast[Jg.rs])
noncomputable def FA (r:List A2)(a b:A0):Int :=
 if J1 r≠0 then J1 r else if FR r a≠0 then FR r a else if FR r b≠0 then FR r b else if Lx r a=Lx r b then 0 else 9
theorem Li {r:List A2}{m:A0}(h:FR r m=0):Fu r m=0/\Lx r m=Ae r A2.left m/\vB r m=Ae r A2.right m/\BK (Ae r A2.left m)=true/\BK (Ae r A2.right m)=true:=by
 unfold FR at h
 split at h
 ·rename_i hc;exact absurd h hc
 ·rename_i hc
  have hc:(FZ r A2.left m).2=0:=by simpa using hc
  obtain⟨a1,a2,a3⟩:=U6 hc
  obtain⟨b1,b2,b3⟩:=U6 h
  refine⟨a1,?_,?_,a2,b2⟩
  ·unfold Lx;rw[a3];rfl
  ·unfold vB;rw[if_neg (by simpa using hc),b3];rfl
theorem OF {r:List A2}{a b:A0}(hr:rbs r<2^38)(ha:mb a<2^38)(hb:mb b<2^38):PF GW [Aj r,Aq a,Aq b] (.int .i64 (FA r a b)):=by
 have h0:=Tm hr
 have h1:=Oz hr ha
 have h2:=Oz hr hb
 have hz:FR r a=0->size (Lx r a)<2^62:=fun h=>by
  obtain⟨_,e,_,f,_⟩:=Li h
  rw[e]
  unfold BK at f
  simp at f
  omega
 unfold FA
 refine Aa En.ok rfl ?_
 push_cast
 refine .of h0 ?_
 generalize J1 r=e0
 by_cases c0:e0=0
 ·subst c0
  simp only[ne_eq,not_true_eq_false,if_false]
  push_cast
  refine .of h1 ?_
  by_cases c1:FR r a=0
  ·have hz:=hz c1
   rw[if_neg (by simpa using c1)]
   push_cast[c1]
   refine .of h2 ?_
   by_cases c2:FR r b=0
   ·rw[if_neg (by simpa using c2)]
    push_cast[c2]
    refine .of (ZY (Lx r a) (Lx r b) hz) ?_
    by_cases c3:Lx r a=Lx r b
    ·rw[if_pos c3]
     push_cast[c3]
     exact A1 (by push_cast[En.rs])
    ·rw[if_neg c3]
     push_cast[c3]
     exact A1 (by push_cast[En.rs])
   ·rw[if_pos c2]
    have i2:(FR r b=0)=False:=eq_false c2
    push_cast[i2]
    exact A1 (by push_cast[En.rs])
  ·rw[if_pos c1]
   have i1:(FR r a=0)=False:=eq_false c1
   push_cast[i1]
   exact A1 (by push_cast[En.rs])
 ·rw[if_pos c0]
  have i0:(e0=0)=False:=eq_false c0
  push_cast[i0]
  exact A1 (by push_cast[En.rs])
theorem MP {r:List A2}{m:A0}(hr:rbs r<2^28)(hm:mb m<2^28):PF Jd [Aj r,Aq m] (.int .i64 (FR r m)):=by
 have h1:=S4 r m hr hm
 unfold FR
 refine Aa Is.ok rfl ?_
 push_cast
 refine .of h1 ?_
 by_cases c1:(FZ r A2.left m).2=0
 ·obtain⟨a1,a2,a3⟩:=U6 c1
  obtain⟨d1,d2,d3,d4⟩:=Fs a1
  have h2:=NB r true hr (K9 d1) m d2 (by omega) d4
  rw[Oc,<-Qg (f:=sd true) a1]at h2
  have e:FZ r (sd true) m=FZ r A2.right m:=rfl
  rw[e]at h2
  rw[if_neg (by simpa using c1)]
  push_cast[c1]
  refine .of h2 ?_
  push_cast
  exact A1 (by push_cast[Is.rs])
 ·rw[if_pos c1]
  have i1:((FZ r A2.left m).2=0)=False:=eq_false c1
  push_cast[i1]
  exact A1 (by push_cast[Is.rs])
theorem jX {r:List A2}(hr:rbs r<2^28){m:A0}(h:Fu r m=0)(hf:BK (Ae r A2.left m)=true):tb (Ae r A2.left m)<2^62:=by
 obtain⟨d1,d2,d3,d4⟩:=Fs h
 have hc:EU (Ae r A2.left m)=0:=Ng.2 ⟨dF (fun x hx=>(Ng.1 (HS d1 x hx).1).1) (fun x _=>HG x) m d2,hf⟩
 have:=(BU.of_check hc).tb
 omega
theorem OE {r:List A2}{a b:A0}(hr:rbs r<2^28)(ha:mb a<2^28)(hb:mb b<2^28):PF GP [Aj r,Aq a,Aq b] (.int .i64 (FA r a b)):=by
 have h0:=SK (r:=r) (by omega)
 have h1:=MP hr ha
 have h2:=MP hr hb
 unfold FA
 refine Aa Em.ok rfl ?_
 push_cast
 refine .of h0 ?_
 generalize J1 r=e0
 by_cases c0:e0=0
 ·subst c0
  simp only[ne_eq,not_true_eq_false,if_false]
  have gM0:[cM a,cM b].getD 0 []=cM a:=rfl
  have gM1:[cM a,cM b].getD 1 []=cM b:=rfl
  have hw1:IntKind.i64.wrap 1=1:=rfl
  have hw2:IntKind.i64.wrap 2=2:=rfl
  have ht1:(1:Int).toNat=1:=rfl
  push_cast
  refine A8.2 ?_
  push_cast[gM0]
  refine .of h1 ?_
  by_cases c1:FR r a=0
  ·rw[if_neg (by simpa using c1)]
   push_cast[c1,hw1]
   refine A8.2 ?_
   push_cast[gM1,ht1]
   refine .of h2 ?_
   by_cases c2:FR r b=0
   ·rw[if_neg (by simpa using c2)]
    push_cast[c2,hw2]
    refine A8.2 ?_
    obtain⟨a1,a2,_,a3,_⟩:=Li c1
    obtain⟨b1,b2,_,b3,_⟩:=Li c2
    obtain⟨d1,d2,d3,d4⟩:=Fs a1
    obtain⟨f1,f2,f3,f4⟩:=Fs b1
    have t1:=NB r false hr (fun x _=>HG x) a d2 (by omega) d4
    have t2:=NB r false hr (fun x _=>HG x) b f2 (by omega) f4
    rw[Oc,<-Qg (f:=sd false) a1]at t1
    rw[Oc,<-Qg (f:=sd false) b1]at t2
    have e:∀ m,FZ r (sd false) m=FZ r A2.left m:=fun _=>rfl
    rw[e]at t1 t2
    have g1:(FZ r A2.left a).1.getD noT=Lx r a:=rfl
    have g2:(FZ r A2.left b).1.getD noT=Lx r b:=rfl
    rw[g1]at t1
    rw[g2]at t2
    have hq:=db (Lx r a) (Lx r b) (by rw[a2];exact jX hr a1 a3) (by rw[b2];exact jX hr b1 b3)
    push_cast
    refine .of t1 ?_
    push_cast
    refine .of t2 ?_
    push_cast
    refine .of hq ?_
    by_cases c3:Lx r a=Lx r b
    ·rw[if_pos c3]
     push_cast[c3]
     exact A1 (by push_cast[Em.rs])
    ·rw[if_neg c3]
     push_cast[c3]
     exact A1 (by push_cast[Em.rs])
   ·rw[if_pos c2]
    have i2:(FR r b=0)=False:=eq_false c2
    push_cast[i2]
    exact A1 (by push_cast[Em.rs])
  ·rw[if_pos c1]
   have i1:(FR r a=0)=False:=eq_false c1
   push_cast[i1]
   exact A1 (by push_cast[Em.rs])
 ·rw[if_pos c0]
  have i0:(e0=0)=False:=eq_false c0
  push_cast[i0]
  exact A1 (by push_cast[Em.rs])
end Go.Dw
end
section
namespace Go.Dw
theorem Xv {x:List Int×Term}:∀ (l:List Term)(q:List Int)(i k:Nat),k<l.length->x∈Ap (l.getD k default) (q++[((i+k:Nat):Int)])->x∈B4 l q i
 | [],q,i,k,hk,_=>by simp at hk
 | a::l,q,i,0,_,h=>by simp only[B4,List.mem_append];exact .inl h
 | a::l,q,i,k+1,hk,h=>by
  simp only[B4,List.mem_append]
  exact .inr (Xv l q (i+1) k (by simpa using hk) (by rw[show i+1+k=i+(k+1) by omega];exact h))
theorem YV:∀ (p:List Int)(t x:Term)(q:List Int),D7 t p=some x->(q++p,x)∈Ap t q
 | [],t,x,q,h=>by cases h;rw[GH,List.append_nil];simp
 | i::p,t,x,q,h=>by
  simp only[D7]at h
  split at h
  ·rename_i hi
   have ih:=YV p _ x (q++[i]) h
   rw[GH]
   refine List.mem_cons_of_mem _ (Xv t.args q 0 i.toNat (by omega) ?_)
   rw[show ((0+i.toNat:Nat):Int)=i by omega]
   simpa using ih
  ·cases h
end Go.Dw
end
section
namespace Go.Dw
def mC (t:Term):Prop:=∀ v,CZ v t<=1
structure CB (r:List A2):Prop where
 sys:Al r=0
 lin:∀ x∈r,mC x.left
 nov:∀ i j,i<r.length->j<r.length->∀ p y,D7 (r.getD i default).left p=some y->y.var=false->¬ (i=j/\p=[])->∀ f g:Sub,app f y≠app g (r.getD j default).left
abbrev Cj:=Str->A0
mutual
def pl (g:Cj):Term->A0
 | .mk n v l=>if v then g n else .mk 0 n false (pls g l)
def pls (g:Cj):List Term->List A0
 | []=>[]
 | a::l=>pl g a::pls g l
end
theorem uA (g:Cj)(l:List Term):pls g l=l.map (pl g):=by induction l with | nil=>rfl | cons a l ih=>simp[pls,ih]
theorem bT (g:Cj)(t:Term):pl g t=if t.var then g t.name else .mk 0 t.name false (t.args.map (pl g)):=by
 cases t with | mk n v l=>simp only[pl,uA,Term.var,Term.name,Term.args];rfl
theorem IN {g:Cj}{t:Term}(h:t.var=true):pl g t=g t.name:=by rw[bT,if_pos h]
theorem I9 {g:Cj}{t:Term}(h:t.var=false):pl g t=.mk 0 t.name false (t.args.map (pl g)):=by rw[bT,if_neg (by simp[h])]
theorem N7 {f g:Cj}(t:Term):(∀ v,occ v t=true->f v=g v)->pl f t=pl g t:=by
 induction t using Af with
 | h t ih =>
 intro h
 rw[bT,bT]
 split
 ·rename_i hv;exact h _ (AC.2 (.inl ⟨hv,rfl⟩))
 ·congr 1
  exact List.map_congr_left fun a ha=>ih a ha fun v hv=>h v (AC.2 (.inr ⟨a,ha,hv⟩))
def ofL {α:Type}[Inhabited α](vars:List Str)(xs:List α):Str->α:=fun n=>xs.getD (ixS n vars) default
theorem N2 (vars:List Str)(xs:List A0)(t:Term):F9 vars xs t=pl (ofL vars xs) t:=by
 induction t using Af with
 | h t ih =>
 rw[TW,bT]
 split
 ·rfl
 ·congr 1
  exact List.map_congr_left fun a ha=>ih a ha
theorem Zi (vars:List Str)(xs:List Term)(t:Term):Cy vars xs t=app (ofL vars xs) t:=by
 induction t using Af with
 | h t ih =>
 rw[Lp,Py]
 split
 ·rfl
 ·congr 1
  exact List.map_congr_left fun a ha=>ih a ha
theorem vz {α β:Type}[Inhabited α][Inhabited β]{vars:List Str}{xs:List α}{f:α->β}(hl:xs.length=vars.length){n:Str}(hn:n∈vars):ofL vars (xs.map f) n=f (ofL vars xs n):=by
 obtain⟨h1,h2,h3⟩:=F6 hn
 unfold ofL
 simp[List.getD_eq_getElem?_getD,show ixS n vars<xs.length by omega]
theorem Sl {α:Type}[Inhabited α]{vars:List Str}(f:Str->α){n:Str}(hn:n∈vars):ofL vars (vars.map f) n=f n:=by
 obtain⟨h1,h2,h3⟩:=F6 hn
 unfold ofL
 rw[List.getD_eq_getElem?_getD,List.getElem?_map,List.getElem?_eq_getElem h2]
 rw[List.getD_eq_getElem?_getD,List.getElem?_eq_getElem h2]at h3
 exact congrArg f h3
theorem tn {α:Type}[Inhabited α]{vars:List Str}(hn:vars.Nodup){xs:List α}{i:Nat}(hi:i<vars.length):ofL vars xs (vars.getD i default)=xs.getD i default:=by
 unfold ofL;rw[eo hn hi]
theorem Vo {α:Type}[Inhabited α]{vars:List Str}{xs:List α}(hl:xs.length=vars.length){n:Str}(hn:n∈vars):ofL vars xs n∈xs:=by
 obtain⟨h1,h2,h3⟩:=F6 hn
 exact A4 (by omega)
theorem ZQ {r:List A2}{f:A2->Term}{g:Cj}(t:Term):Ae r f (pl g t)=app (fun v=>Ae r f (g v)) t:=by
 induction t using Af with
 | h t ih =>
 cases hv:t.var with
 | true=>rw[IN hv,Av hv]
 | false =>
  rw[I9 hv,B7 hv,D4,if_pos (by rfl)]
  simp only[A0.name,A0.var,A0.args,List.map_map]
  congr 1
  exact List.map_congr_left fun a ha=>ih a ha
theorem kC {r:List A2}{f:A2->Term}(hv:∀ x∈r,∀ v,occ v (f x)=true->v∈Az [x.left]){m:A0}(hm:OkM r m)(h0:0<m.rule):Ae r f m=app (fun v=>Ae r f (ofL (Az [(At r m).left]) m.args v)) (f (At r m)):=by
 obtain⟨k1,k2,k3,k4,k5,k6⟩:=hm.rule (by omega)
 rw[D4,if_neg (by omega),Zi]
 exact DB _ fun v h=>vz k4 (hv _ k3 v h)
theorem wc {f g:Sub}(t:Term):app f t=app g t->∀ v,occ v t=true->vfl t=true->f v=g v:=by
 induction t using Af with
 | h t ih =>
 intro h v ho ht
 cases hv:t.var with
 | true=>rw[Av hv,Av hv]at h;rw[<-(M2 ht hv).1 ho];exact h
 | false =>
  rw[B7 hv,B7 hv]at h
  injection h with _ _ h
  obtain⟨a,ha,h1⟩:=(LL hv).1 ho
  exact ih a ha (List.map_inj_left.1 h a ha) v h1 (BF ht ha)
theorem Wa {v:Str}{t:Term}:occ v t=true↔0<CZ v t:=by
 have:=TL v t
 cases h:occ v t with
 | true=>rw[h]at this;simp only[Bool.not_true,decide_eq_false_iff_not]at this;simp;omega
 | false=>rw[h]at this;simp only[Bool.not_false,decide_eq_true_eq]at this;simp[this]
theorem We {v:Str}{l:List Term}{a:Term}(h:a∈l):CZ v a<=BQ v l:=by
 induction l with
 | nil=>cases h
 | cons x l ih =>
  simp only[BQ]
  rcases List.mem_cons.1 h with rfl | h
  ·omega
  ·have:=ih h;omega
theorem mC.arg {t a:Term}(h:mC t)(ha:a∈t.args):mC a:=fun v=>by
 have h1:=h v
 rw[Lb]at h1
 have:=We (v:=v) ha
 omega
theorem OkM.rule0 {r:List A2}{m:A0}(hm:OkM r m):0<=m.rule/\m.rule<=r.length:=by
 have h1:=Gs hm.rg
 unfold BY at h1
 rw[Bool.and_eq_true,decide_eq_true_eq,decide_eq_true_eq]at h1
 exact h1
theorem tY {t:Term}{i:Nat}(hi:i<t.args.length):D7 t [(i:Int)]=some (t.args.getD i default):=by
 show (if 0<=(i:Int)/\(i:Int)<(t.args.length:Int) then D7 (t.args.getD (i:Int).toNat default) [] else none)=_
 rw[if_pos (by omega),Int.toNat_natCast];rfl
theorem lD {r:List A2}(h:CB r){i:Nat}(hi:i<r.length)(L:Term):∀ (p:List Int)(b:A0)(f:Sub),D7 (r.getD i default).left p=some L->OkM r b->(p=[]->b.rule=0)->mC L->vfl L=true->Ae r A2.left b=app f L ->
  ∃ g:Cj,b=pl g L/\∀ v,occ v L=true->OkM r (g v)/\Ae r A2.left (g v)=f v/\Ar (g v)<=Ar b:=by
 induction L using Af with
 | h L ih =>
 intro p b f hp hb hr hl hf hs
 cases hv:L.var with
 | true =>
  refine⟨fun _=>b,by rw[IN hv],fun v ho=>⟨hb,?_,Nat.le_refl _⟩⟩
  rw[Av hv]at hs
  rw[hs,(M2 hf hv).1 ho]
 | false =>
  have h0:b.rule=0:=by
   rcases Classical.em (b.rule=0)with h0 | h0
   ·exact h0
   ·exfalso
    have hpos:=hb.rule_pos h0
    obtain⟨k1,k2,k3,k4,k5,k6⟩:=hb.rule h0
    rw[kC (fun x _=>HG x) hb hpos]at hs
    exact h.nov i (b.rule-1).toNat hi (by omega) p L hp hv (fun e=>h0 (hr e.2)) _ _ hs.symm
  rw[D4,if_pos h0,B7 hv]at hs
  injection hs with e1 e2 e3
  have key:∀ (l:List Term)(bs:List A0),(∀ a∈l,a∈L.args)->(∀ x∈bs,x∈b.args)->(∀ v,BQ v l<=1)->bs.map (Ae r A2.left)=l.map (app f) ->
    ∃ g:Cj,bs=l.map (pl g)/\∀ v,Ex v l=true->OkM r (g v)/\Ae r A2.left (g v)=f v/\Ar (g v)<=Ar b:=by
   intro l
   induction l with
   | nil =>
    intro bs _ _ _ he
    have:bs=[]:=by simpa using he
    subst this
    exact⟨fun _=>zM,rfl,fun v ho=>by simp[Ex]at ho⟩
   | cons a l ihl =>
    intro bs hal hbl hc he
    cases bs with
    | nil=>simp at he
    | cons x bs =>
     simp only[List.map_cons,List.cons.injEq]at he
     have haL:=hal a (by simp)
     obtain⟨k,hk,hka⟩:=List.getElem_of_mem haL
     have hsub:D7 (r.getD i default).left (p++[(k:Int)])=some a:=by
      rw[ef,hp]
      show D7 L [(k:Int)]=_
      rw[tY hk,List.getD_eq_getElem?_getD,List.getElem?_eq_getElem hk,hka];rfl
     have hxb:=hbl x (by simp)
     have hms:=CE hxb
     have hmb:=AO b
     obtain⟨g1,h1,h2⟩:=ih a haL (p++[(k:Int)]) x f hsub (hb.arg hxb) (fun e=>by simp at e) (hl.arg haL) (BF hf haL) he.1
     obtain⟨g2,h3,h4⟩:=ihl bs (fun y hy=>hal y (by simp[hy])) (fun y hy=>hbl y (by simp[hy])) (fun v=>by have:=hc v;simp only[BQ]at this;omega) he.2
     refine⟨fun v=>if occ v a=true then g1 v else g2 v,?_,fun v ho=>?_⟩
     ·rw[List.map_cons]
      congr 1
      ·rw[h1];exact N7 a fun v hv=>(if_pos hv).symm
      ·rw[h3]
       refine List.map_congr_left fun c hc'=>N7 c fun v hv=>?_
       have h5:=hc v
       simp only[BQ]at h5
       have h6:=We (v:=v) hc'
       have h7:=Wa.1 hv
       exact (if_neg fun e=>by have:=Wa.1 e;omega).symm
     ·by_cases c:occ v a=true
      ·dsimp only;rw[if_pos c]
       obtain⟨q1,q2,q3⟩:=h2 v c
       exact⟨q1,q2,by omega⟩
      ·dsimp only;rw[if_neg c]
       simp only[Ex,Bool.or_eq_true]at ho
       exact h4 v (ho.resolve_left c)
  obtain⟨g,h1,h2⟩:=key L.args b.args (fun a ha=>ha) (fun x hx=>hx) (fun v=>by have:=hl v;rw[Lb]at this;omega) e3
  refine⟨g,?_,fun v ho=>h2 v ?_⟩
  ·rw[I9 hv,<-h1,<-e1,<-e2,<-h0];exact b.eta.symm
  ·rw[To,hv]at ho;simpa using ho
end Go.Dw
end
section
namespace Go.Dw
theorem nR {r:List A2}{k:Int}{ms:List A0}(h0:0<=k)(h1:k<r.length)(hl:ms.length=(Az [(r.getD k.toNat default).left]).length)(h:∀ a∈ms,OkM r a):OkM r (.mk (k+1) [] false ms):=by
 constructor
 ·rw[GU,Bool.and_eq_true]
  refine⟨?_,List.all_eq_true.2 fun a ha=>(h a ha).rg⟩
  unfold BY
  rw[Bool.and_eq_true,decide_eq_true_eq,decide_eq_true_eq]
  show 0<=k+1/\k+1<=(r.length:Int)
  omega
 ·rw[GU,Bool.and_eq_true]
  refine⟨?_,List.all_eq_true.2 fun a ha=>(h a ha).fm⟩
  unfold Bj
  have hk:(A0.mk (k+1) [] false ms).rule=k+1:=rfl
  rw[hk,if_pos (by omega)]
  have hru:At r (.mk (k+1) [] false ms)=r.getD k.toNat default:=by unfold At;rw[hk,show k+1-1=k by omega]
  rw[hru]
  simp[A0.name,A0.var,A0.args,hl]
theorem dk:∀ (p:List Int)(t y:Term),D7 t p=some y->y.var=true->occ y.name t=true
 | [],t,y,h,hv=>by cases h;rw[To,hv];simp
 | i::p,t,y,h,hv=>by
  simp only[D7]at h
  split at h
  ·rename_i hi
   have h1:=dk p _ y h hv
   rw[To,dN (A4 (by omega)) h1];simp
  ·cases h
end Go.Dw
end
section
namespace Go.Dw
def lft (r:List A2)(k:Nat):Term:=(r.getD k default).left
def rgt (r:List A2)(k:Nat):Term:=(r.getD k default).right
def vrs (r:List A2)(k:Nat):List Str:=Az [lft r k]
def ru (r:List A2)(k:Nat)(g:Cj):A0:=.mk ((k:Int)+1) [] false ((vrs r k).map g)
def fm (r:List A2)(k:Nat)(b:Bool)(g:Cj):A0:=if b then ru r k g else pl g (lft r k)
theorem GV {r:List A2}{k:Nat}{v:Str}:v∈vrs r k↔occ v (lft r k)=true:=DK v (lft r k)
theorem N1 (r:List A2)(k:Nat)(g:Cj):At r (ru r k g)=r.getD k default:=by
 unfold At ru
 show r.getD ((k:Int)+1-1).toNat default=_
 rw[show (k:Int)+1-1=k by omega,Int.toNat_natCast]
theorem DO (r:List A2)(k:Nat)(g:Cj):(ru r k g).rule=(k:Int)+1:=rfl
theorem CM (r:List A2)(k:Nat)(g:Cj):(ru r k g).args=(vrs r k).map g:=rfl
theorem cE {r:List A2}{k:Nat}{f g:Cj}(h:∀ v∈vrs r k,f v=g v):ru r k f=ru r k g:=by
 unfold ru
 rw[List.map_congr_left h]
theorem pk {r:List A2}{k:Nat}{b:Bool}{f g:Cj}(h:∀ v∈vrs r k,f v=g v):fm r k b f=fm r k b g:=by
 cases b with
 | true=>exact cE h
 | false=>exact N7 _ fun v hv=>h v (GV.2 hv)
section
variable {r:List A2} (h:CB r)
include h
theorem CB.left {k:Nat}(hk:k<r.length):(lft r k).var=false/\vfl (lft r k)=true/\mC (lft r k)/\C5 (lft r k)=true/\C5 (rgt r k)=true/\vfl (rgt r k)=true/\∀ v,occ v (rgt r k)=true->v∈vrs r k:=by
 have hm:=A4 (l:=r) hk
 have h1:=HS h.sys _ hm
 exact⟨Xo h.sys _ hm,Ui _ (N3 h.sys _ hm).1.1,h.lin _ hm,(Ng.1 h1.1).1,(Ng.1 h1.2).1,Ui _ (N3 h.sys _ hm).2.1,K9 h.sys _ hm⟩
omit h in
theorem uF {r:List A2}{n:Str}{ms:List A0}(hn:C6 n true=true)(hl:ms.length<=8)(ha:∀ a∈ms,OkM r a):OkM r (.mk 0 n false ms):=by
 constructor
 ·rw[GU,Bool.and_eq_true]
  exact⟨by simp[BY,A0.rule],List.all_eq_true.2 fun a h=>(ha a h).rg⟩
 ·rw[GU,Bool.and_eq_true]
  exact⟨by simp[Bj,A0.rule,A0.var,A0.name,A0.args,hn,hl],List.all_eq_true.2 fun a h=>(ha a h).fm⟩
omit h in
theorem pM {r:List A2}{g:Cj}(t:Term):C5 t=true->(∀ v,occ v t=true->OkM r (g v))->OkM r (pl g t):=by
 induction t using Af with
 | h t ih =>
 intro ht hg
 obtain⟨h1,h2⟩:=NC.1 ht
 cases hv:t.var with
 | true=>rw[IN hv];exact hg _ (AC.2 (.inl ⟨hv,rfl⟩))
 | false =>
  rw[hv]at h1
  simp only[Ud,Bool.false_eq_true,if_false,Bool.and_eq_true,decide_eq_true_eq]at h1
  rw[I9 hv]
  refine uF h1.2 (by simp;omega) fun c hc=>?_
  obtain⟨a,ha,rfl⟩:=List.mem_map.1 hc
  exact ih a ha (h2 a ha) fun v hv=>hg v (AC.2 (.inr ⟨a,ha,hv⟩))
omit h in
theorem zQ {r:List A2}{k:Nat}(hk:k<r.length){g:Cj}(hg:∀ v∈vrs r k,OkM r (g v)):OkM r (ru r k g):=by
 refine nR (by omega) (by omega) ?_ fun a ha=>?_
 ·rw[List.length_map];unfold vrs lft;rw[Int.toNat_natCast]
 ·obtain⟨v,hv,rfl⟩:=List.mem_map.1 ha
  exact hg v hv
theorem CB.ok_fm {k:Nat}(hk:k<r.length){b:Bool}{g:Cj}(hg:∀ v∈vrs r k,OkM r (g v)):OkM r (fm r k b g):=by
 cases b with
 | true=>exact zQ hk hg
 | false=>exact pM _ (h.left hk).2.2.2.1 fun v hv=>hg v (GV.2 hv)
omit h in
theorem Qb {r:List A2}{F:A2->Term}{k:Nat}{g:Cj}(hv:∀ v,occ v (F (r.getD k default))=true->v∈vrs r k):Ae r F (ru r k g)=app (fun v=>Ae r F (g v)) (F (r.getD k default)):=by
 rw[D4,if_neg (by rw[DO];omega),N1,Zi,CM]
 refine DB _ fun v ho=>?_
 show ofL (vrs r k) _ v=_
 rw[List.map_map,Sl _ (hv v ho)];rfl
theorem CB.src_fm {k:Nat}(hk:k<r.length){b:Bool}{g:Cj}:Ae r A2.left (fm r k b g)=app (fun v=>Ae r A2.left (g v)) (lft r k):=by
 have hSys:=h.sys
 cases b with
 | true=>exact Qb fun v hv=>GV.2 hv
 | false=>exact ZQ _
theorem CB.tgt_fm {k:Nat}(hk:k<r.length){b:Bool}{g:Cj}:Ae r A2.right (fm r k b g)=app (fun v=>Ae r A2.right (g v)) (if b then rgt r k else lft r k):=by
 cases b with
 | true=>exact Qb (h.left hk).2.2.2.2.2.2
 | false=>exact ZQ _
omit h in
theorem Vw {r:List A2}{a:A0}(ha:OkM r a)(h0:0<a.rule):∃ k,k<r.length/\a.rule=(k:Int)+1/\a=ru r k (ofL (vrs r k) a.args)/\a.args.length=(vrs r k).length:=by
 obtain⟨k1,k2,k3,k4,k5,k6⟩:=ha.rule (by omega)
 have hvs:vrs r (a.rule-1).toNat=Az [(At r a).left]:=rfl
 refine⟨(a.rule-1).toNat,by omega,by omega,?_,by rw[hvs];exact k4⟩
 have hmap:(vrs r (a.rule-1).toNat).map (ofL (vrs r (a.rule-1).toNat) a.args)=a.args:=by
  apply List.ext_getElem (by rw[List.length_map,hvs];omega)
  intro i h1 h2
  rw[List.getElem_map]
  have hi:i<(vrs r (a.rule-1).toNat).length:=by simpa using h1
  have:=tn (vars:=vrs r (a.rule-1).toNat) (Kb _) (xs:=a.args) hi
  rw[List.getD_eq_getElem?_getD,List.getElem?_eq_getElem hi,List.getD_eq_getElem?_getD,List.getElem?_eq_getElem h2]at this
  exact this
 unfold ru
 rw[hmap,<-k5,<-k6,show (((a.rule-1).toNat:Nat):Int)+1=a.rule by omega]
 exact a.eta.symm
theorem CB.form {a b:A0}(ha:OkM r a)(hb:OkM r b){k:Nat}(hk:k<r.length){f:Cj}(hf:a=ru r k f)(hs:Ae r A2.left b=Ae r A2.left a) :
  ∃ (β:Bool) (g:Cj),b=fm r k β g/\(β=true↔0<b.rule)/\∀ v∈vrs r k,OkM r (g v)/\Ae r A2.left (g v)=Ae r A2.left (f v)/\Ar (g v)<=Ar b:=by
 have hsa:Ae r A2.left a=app (fun v=>Ae r A2.left (f v)) (lft r k):=(congrArg (Ae r A2.left) hf).trans (Qb fun v hv=>GV.2 hv)
 obtain⟨q1,q2,q3,q4,q5,q6⟩:=h.left hk
 by_cases h0:0<b.rule
 ·obtain⟨j,hj,hjr,hbj,hlen⟩:=Vw hb h0
  have hjk:k=j:=by
   rcases Classical.em (k=j)with e | e
   ·exact e
   ·exfalso
    have hsb:Ae r A2.left b=app (fun v=>Ae r A2.left (ofL (vrs r j) b.args v)) (lft r j):=(congrArg (Ae r A2.left) hbj).trans (Qb fun v hv=>GV.2 hv)
    exact h.nov k j hk hj [] (lft r k) rfl q1 (fun e2=>e e2.1) _ _ (hsa.symm.trans (hs.symm.trans hsb))
  subst hjk
  refine⟨true,ofL (vrs r k) b.args,hbj,by simp[h0],fun v hv=>?_⟩
  have hm:=Vo hlen hv
  refine⟨hb.arg hm,?_,Nat.le_of_lt (by have:=CE hm;have:=AO b;omega)⟩
  have hsb:Ae r A2.left b=app (fun v=>Ae r A2.left (ofL (vrs r k) b.args v)) (lft r k):=(congrArg (Ae r A2.left) hbj).trans (Qb fun v hv=>GV.2 hv)
  exact wc (lft r k) (hsb.symm.trans (hs.trans hsa)) v (GV.1 hv) q2
 ·have h0':b.rule=0:=by have:=hb.rule0.1;omega
  obtain⟨g,h1,h2⟩:=lD h hk (lft r k) [] b _ rfl hb (fun _=>h0') q3 q2 (hs.trans hsa)
  exact⟨false,g,h1,by simp[h0],fun v hv=>h2 v (GV.1 hv)⟩
omit h in
theorem lT {r:List A2}{a b:A0}(ha:a.rule=0)(hb:b.rule=0)(hs:Ae r A2.left b=Ae r A2.left a):b=.mk 0 a.name a.var b.args/\b.args.map (Ae r A2.left)=a.args.map (Ae r A2.left):=by
 rw[D4,if_pos hb,D4,if_pos ha]at hs
 injection hs with e1 e2 e3
 refine⟨?_,e3⟩
 rw[<-e1,<-e2,<-hb];exact b.eta.symm
end
def Fv (vars:List Str)(L:Term)(b:A0):List A0:=vars.map fun v=>Wd b ((Xq L v).getD 0 [])
theorem CC (m:A0):0<Ar m:=by have:=AO m;omega
theorem Xw:∀ (p:List Int)(m:A0),Ar (Wd m p)<=Ar m
 | [],m=>Nat.le_refl _
 | i::p,m=>by
  show Ar (Wd (m.args.getD i.toNat default) p)<=_
  have h1:=Xw p (m.args.getD i.toNat default)
  by_cases hi:i.toNat<m.args.length
  ·have h2:=CE (A4 hi)
   have h3:=AO m
   omega
  ·have e:m.args.getD i.toNat default=default:=by simp[List.getD_eq_getElem?_getD,show m.args.length<=i.toNat by omega]
   rw[e]at h1 ⊢
   have e2:Ar (default:A0)=1:=rfl
   have:=CC m
   omega
theorem jm {g:Cj}:∀ (p:List Int)(L y:Term),vfl L=true->D7 L p=some y->Wd (pl g L) p=pl g y
 | [],L,y,_,h=>by cases h;rfl
 | i::p,L,y,hf,h=>by
  simp only[D7]at h
  split at h
  ·rename_i hi
   have hv:L.var=false:=by
    cases hv:L.var with
    | false=>rfl
    | true=>rw[(Kc.1 hf).1 hv]at hi;simp at hi;omega
   have hk:i.toNat<L.args.length:=by omega
   rw[I9 hv]
   show Wd ((L.args.map (pl g)).getD i.toNat default) p=_
   have e:(L.args.map (pl g)).getD i.toNat default=pl g (L.args.getD i.toNat default):=by simp[List.getD_eq_getElem?_getD,hk]
   rw[e]
   exact jm p _ y (BF hf (A4 hk)) h
  ·cases h
theorem SH {L:Term}(hf:vfl L=true)(g:Cj):Fv (Az [L]) L (pl g L)=(Az [L]).map g:=by
 refine List.map_congr_left fun v hv=>?_
 have hne:Xq L v≠[]:=by rw[oU];exact Tk v _ ((DK _ _).1 hv)
 generalize hps:Xq L v=ps at hne
 cases ps with
 | nil=>exact absurd rfl hne
 | cons p ps =>
  obtain⟨y,h1,h2,h3⟩:=tw (show p∈Xq L v by rw[hps];simp)
  show Wd _ p=_
  rw[jm p L y hf h1,IN h2,h3]
def RT (r:List A2):Nat->A0->A0->A0
 | 0,_,_=>zM
 | n+1,a,b =>
  if 0<b.rule then F9 (Az [(At r b).left]) (List.zipWith (RT r n) (if 0<a.rule then a.args else Fv (Az [(At r b).left]) (At r b).left a) b.args) (At r b).right
  else if 0<a.rule then .mk a.rule [] false (List.zipWith (RT r n) a.args (Fv (Az [(At r a).left]) (At r a).left b))
  else .mk 0 a.name a.var (List.zipWith (RT r n) a.args b.args)
def NL (r:List A2):Nat->A0->A0->A0
 | 0,_,_=>zM
 | n+1,a,b =>
  if 0<b.rule then .mk b.rule [] false (List.zipWith (NL r n) (if 0<a.rule then a.args else Fv (Az [(At r b).left]) (At r b).left a) b.args)
  else if 0<a.rule then .mk a.rule [] false (List.zipWith (NL r n) a.args (Fv (Az [(At r a).left]) (At r a).left b))
  else .mk 0 a.name a.var (List.zipWith (NL r n) a.args b.args)
theorem DD {α β γ:Type}{f g:α->β->γ}:∀ {l:List α} {m:List β},(∀ x∈l,∀ y∈m,f x y=g x y)->List.zipWith f l m=List.zipWith g l m
 | [],_,_=>by simp
 | _::_,[],_=>by simp
 | a::l,b::m,h=>by
  simp only[List.zipWith_cons_cons]
  rw[h a (by simp) b (by simp),DD fun x hx y hy=>h x (by simp[hx]) y (by simp[hy])]
theorem Ik {α β γ δ:Type}{f:β->γ->δ}{g:α->β}{k:α->γ}(l:List α):List.zipWith f (l.map g) (l.map k)=l.map fun x=>f (g x) (k x):=by
 induction l with
 | nil=>rfl
 | cons a l ih=>simp[ih]
theorem Fp {vars:List Str}{L:Term}{a x:A0}(h:x∈Fv vars L a):Ar x<=Ar a:=by
 obtain⟨v,_,rfl⟩:=List.mem_map.1 h
 exact Xw _ _
theorem Bm {a x:A0}(h:x∈a.args):Ar x<Ar a:=by have:=CE h;have:=AO a;omega
theorem GZ (r:List A2):∀ (n m:Nat)(a b:A0),Ar a+Ar b<=n->Ar a+Ar b<=m->RT r n a b=RT r m a b
 | 0,_,a,b,h,_=>by have:=CC a;omega
 | _+1,0,a,b,_,h=>by have:=CC a;omega
 | n+1,m+1,a,b,h1,h2=>by
  simp only[RT]
  split
  ·congr 1
   refine DD fun x hx y hy=>GZ r n m x y ?_ ?_ <;>
   ·have:=Bm hy
    split at hx
    ·have:=Bm hx;omega
    ·have:=Fp hx;omega
  ·split
   ·congr 1
    refine DD fun x hx y hy=>GZ r n m x y ?_ ?_ <;>
    ·have:=Bm hx
     have:=Fp hy;omega
   ·congr 1
    refine DD fun x hx y hy=>GZ r n m x y ?_ ?_ <;>
    ·have:=Bm hx
     have:=Bm hy;omega
theorem FJ (r:List A2):∀ (n m:Nat)(a b:A0),Ar a+Ar b<=n->Ar a+Ar b<=m->NL r n a b=NL r m a b
 | 0,_,a,b,h,_=>by have:=CC a;omega
 | _+1,0,a,b,_,h=>by have:=CC a;omega
 | n+1,m+1,a,b,h1,h2=>by
  simp only[NL]
  split
  ·congr 1
   refine DD fun x hx y hy=>FJ r n m x y ?_ ?_ <;>
   ·have:=Bm hy
    split at hx
    ·have:=Bm hx;omega
    ·have:=Fp hx;omega
  ·split
   ·congr 1
    refine DD fun x hx y hy=>FJ r n m x y ?_ ?_ <;>
    ·have:=Bm hx
     have:=Fp hy;omega
   ·congr 1
    refine DD fun x hx y hy=>FJ r n m x y ?_ ?_ <;>
    ·have:=Bm hx
     have:=Bm hy;omega
def rest (r:List A2)(a b:A0):A0:=RT r (Ar a+Ar b) a b
def uni (r:List A2)(a b:A0):A0:=NL r (Ar a+Ar b) a b
theorem Oj (r:List A2)(a b:A0):rest r a b =
  if 0<b.rule then F9 (Az [(At r b).left]) (List.zipWith (rest r) (if 0<a.rule then a.args else Fv (Az [(At r b).left]) (At r b).left a) b.args) (At r b).right
  else if 0<a.rule then .mk a.rule [] false (List.zipWith (rest r) a.args (Fv (Az [(At r a).left]) (At r a).left b))
  else .mk 0 a.name a.var (List.zipWith (rest r) a.args b.args):=by
 have e:rest r a b=RT r (Ar a+Ar b+1) a b:=GZ r _ _ a b (Nat.le_refl _) (by omega)
 rw[e]
 simp only[RT]
 split
 ·congr 1
  refine DD fun x hx y hy=>GZ r _ _ x y ?_ (Nat.le_refl _)
  have:=Bm hy
  split at hx
  ·have:=Bm hx;omega
  ·have:=Fp hx;omega
 ·split
  ·congr 1
   refine DD fun x hx y hy=>GZ r _ _ x y ?_ (Nat.le_refl _)
   have:=Bm hx
   have:=Fp hy;omega
  ·congr 1
   refine DD fun x hx y hy=>GZ r _ _ x y ?_ (Nat.le_refl _)
   have:=Bm hx
   have:=Bm hy;omega
theorem Pu (r:List A2)(a b:A0):uni r a b =
  if 0<b.rule then .mk b.rule [] false (List.zipWith (uni r) (if 0<a.rule then a.args else Fv (Az [(At r b).left]) (At r b).left a) b.args)
  else if 0<a.rule then .mk a.rule [] false (List.zipWith (uni r) a.args (Fv (Az [(At r a).left]) (At r a).left b))
  else .mk 0 a.name a.var (List.zipWith (uni r) a.args b.args):=by
 have e:uni r a b=NL r (Ar a+Ar b+1) a b:=FJ r _ _ a b (Nat.le_refl _) (by omega)
 rw[e]
 simp only[NL]
 split
 ·congr 1
  refine DD fun x hx y hy=>FJ r _ _ x y ?_ (Nat.le_refl _)
  have:=Bm hy
  split at hx
  ·have:=Bm hx;omega
  ·have:=Fp hx;omega
 ·split
  ·congr 1
   refine DD fun x hx y hy=>FJ r _ _ x y ?_ (Nat.le_refl _)
   have:=Bm hx
   have:=Fp hy;omega
  ·congr 1
   refine DD fun x hx y hy=>FJ r _ _ x y ?_ (Nat.le_refl _)
   have:=Bm hx
   have:=Bm hy;omega
theorem mM (r:List A2)(n:Str)(v:Bool)(la lb:List A0)(n':Str)(v':Bool):rest r (.mk 0 n v la) (.mk 0 n' v' lb)=.mk 0 n v (List.zipWith (rest r) la lb):=by
 rw[Oj,if_neg (by simp[A0.rule]),if_neg (by simp[A0.rule])];rfl
theorem nA (r:List A2)(n:Str)(v:Bool)(la lb:List A0)(n':Str)(v':Bool):uni r (.mk 0 n v la) (.mk 0 n' v' lb)=.mk 0 n v (List.zipWith (uni r) la lb):=by
 rw[Pu,if_neg (by simp[A0.rule]),if_neg (by simp[A0.rule])];rfl
theorem vG (r:List A2)(f g:Cj)(t:Term):rest r (pl f t) (pl g t)=pl (fun v=>rest r (f v) (g v)) t:=by
 induction t using Af with
 | h t ih =>
 cases hv:t.var with
 | true=>rw[IN hv,IN hv,IN hv]
 | false =>
  rw[I9 hv,I9 hv,I9 hv,mM,Ik]
  congr 1
  exact List.map_congr_left fun a ha=>ih a ha
theorem xH (r:List A2)(f g:Cj)(t:Term):uni r (pl f t) (pl g t)=pl (fun v=>uni r (f v) (g v)) t:=by
 induction t using Af with
 | h t ih =>
 cases hv:t.var with
 | true=>rw[IN hv,IN hv,IN hv]
 | false =>
  rw[I9 hv,I9 hv,I9 hv,nA,Ik]
  congr 1
  exact List.map_congr_left fun a ha=>ih a ha
theorem Jt {g:Cj}{t:Term}(h:t.var=false):(pl g t).rule=0:=by rw[I9 h];rfl
theorem O2 {r:List A2}(h:CB r){k:Nat}(hk:k<r.length)(α β:Bool)(f g:Cj):rest r (fm r k α f) (fm r k β g)=if β then pl (fun v=>rest r (f v) (g v)) (rgt r k) else fm r k α (fun v=>rest r (f v) (g v)):=by
 obtain⟨q1,q2,q3,q4,q5,q6,q7⟩:=h.left hk
 cases β with
 | true =>
  have hb:fm r k true g=ru r k g:=rfl
  rw[hb,Oj,if_pos (by rw[DO];omega),N1,CM]
  have hx:(if 0<(fm r k α f).rule then (fm r k α f).args else Fv (Az [(r.getD k default).left]) (r.getD k default).left (fm r k α f))=(vrs r k).map f:=by
   cases α with
   | true=>exact if_pos (by show 0<(ru r k f).rule;rw[DO];omega)
   | false =>
    rw[if_neg (by show ¬ 0<(pl f (lft r k)).rule;rw[Jt q1];omega)]
    exact SH q2 f
  rw[hx,Ik,N2]
  exact N7 _ fun v hv=>Sl _ (q7 v hv)
 | false =>
  cases α with
  | false=>exact vG r f g _
  | true =>
   have ha:fm r k true f=ru r k f:=rfl
   have hb:fm r k false g=pl g (lft r k):=rfl
   rw[ha,hb,Oj,if_neg (by rw[Jt q1];omega),if_pos (by rw[DO];omega),N1,CM]
   have:Fv (Az [(r.getD k default).left]) (r.getD k default).left (pl g (lft r k))=(vrs r k).map g:=SH q2 g
   rw[this,Ik];rfl
theorem WT {r:List A2}(h:CB r){k:Nat}(hk:k<r.length)(α β:Bool)(f g:Cj):uni r (fm r k α f) (fm r k β g)=fm r k (α || β) (fun v=>uni r (f v) (g v)):=by
 obtain⟨q1,q2,q3,q4,q5,q6,q7⟩:=h.left hk
 cases β with
 | true =>
  have hb:fm r k true g=ru r k g:=rfl
  rw[hb,Pu,if_pos (by rw[DO];omega),N1,CM,Bool.or_true]
  have hx:(if 0<(fm r k α f).rule then (fm r k α f).args else Fv (Az [(r.getD k default).left]) (r.getD k default).left (fm r k α f))=(vrs r k).map f:=by
   cases α with
   | true=>exact if_pos (by show 0<(ru r k f).rule;rw[DO];omega)
   | false =>
    rw[if_neg (by show ¬ 0<(pl f (lft r k)).rule;rw[Jt q1];omega)]
    exact SH q2 f
  rw[hx,Ik];rfl
 | false =>
  cases α with
  | false=>exact xH r f g _
  | true =>
   have ha:fm r k true f=ru r k f:=rfl
   have hb:fm r k false g=pl g (lft r k):=rfl
   rw[ha,hb,Pu,if_neg (by rw[Jt q1];omega),if_pos (by rw[DO];omega),N1,CM]
   have:Fv (Az [(r.getD k default).left]) (r.getD k default).left (pl g (lft r k))=(vrs r k).map g:=SH q2 g
   rw[this,Ik];rfl
end Go.Dw
end
section
namespace Go.Dw
theorem S8 {β:Type}{G:List AOv->β->List AOv×Int}:∀ (l:List β),mc G l->By G [] l=([],0)->∀ y∈l,G [] y=([],0)
 | [],_,_,y,hy=>by cases hy
 | z::l,hm,h,y,hy=>by
  simp only[By]at h
  rcases hm [] z (by simp)with h1 | ⟨h1,h2⟩
  ·rw[if_pos (by rw[h1];decide)]at h
   have:=congrArg Prod.snd h
   simp only at this
   rw[h1]at this;cases this
  ·rw[if_neg (by rw[h1];decide)]at h
   have h3:(G [] z).1=[]:=by
    rcases MI l (G [] z).1 fun o w hw=>hm o w (by simp[hw])with h4 | ⟨h4,h5⟩
    ·rw[h]at h4;cases h4
    ·rw[h]at h5
     exact List.length_eq_zero_iff.1 (by simpa using h5)
   have h4:G [] z=([],0):=Prod.ext h3 h1
   rw[h3]at h
   rcases List.mem_cons.1 hy with rfl | hy
   ·exact h4
   ·exact S8 l (fun o w hw=>hm o w (by simp[hw])) h y hy
theorem vZ {r:List A2}(h:(Ot r).2=0)(h0:(Ot r).1.length=0){i j:Nat}(hi:i<r.length)(hj:j<r.length){p:List Int}{y:Term}(hy:(p,y)∈Ap (r.getD i default).left [])(hv:y.var=false)(hne:¬ (i=j/\p=[])) :
  DF (Cc [120] (r.getD i default)) (Cc [121] (r.getD j default)) p (app (rho [120] (AF [] (r.getD i default).left)) y)=(false,0):=by
 have hS:By (Iy r) [] (List.range r.length)=([],0):=by
  unfold Ot at h h0
  split at h
  ·rename_i hc;exact absurd h hc
  ·rename_i hc
   rw[if_neg hc]at h0
   split at h
   ·cases h
   ·rename_i hc2
    rw[if_neg hc2]at h0
    exact Prod.ext (List.length_eq_zero_iff.1 h0) (by simpa using hc)
 have h1:=S8 _ (Uq r _) hS i (List.mem_range.2 hi)
 have h2:=S8 _ (Ps r i _) h1 (p,y) hy
 have h3:=S8 _ (PG r i p y _) h2 j (List.mem_range.2 hj)
 unfold Hi at h3
 rw[if_neg (by rw[hv];simp only[Bool.false_eq_true,false_or];exact hne)]at h3
 have he:=Rc (Cc [120] (r.getD i default)) (Cc [121] (r.getD j default)) p (app (rho [120] (AF [] (r.getD i default).left)) y)
 generalize DF (Cc [120] (r.getD i default)) (Cc [121] (r.getD j default)) p (app (rho [120] (AF [] (r.getD i default).left)) y)=v at h3 he ⊢
 obtain⟨ok,e⟩:=v
 simp only at h3 he
 rcases he with rfl | rfl
 ·cases ok with
  | false=>rfl
  | true=>simp at h3
 ·simp at h3
theorem kM {a b:A2}{pos:List Int}{sub:Term}(hs:BU sub)(hb:BU b.left){θ:Sub}(h:app θ sub=app θ b.left):DF a b pos sub≠(false,0):=by
 obtain⟨_,_,_,_,hm⟩:=Zq (Vs:=vs2 sub b.left) (l:=[sub]) (m:=[b.left]) (fun z hz=>by rw[List.mem_singleton.1 hz];exact⟨hs.vf,fun w hw=>K8.2 (.inl hw)⟩) (fun z hz=>by rw[List.mem_singleton.1 hz];exact⟨hb.vf,fun w hw=>K8.2 (.inr hw)⟩) rfl
 have h1:=(hm θ (by simp[h])).1
 have h2:(Ew sub b.left).2.1=false->(Ew sub b.left).2.2=3:=by
  unfold Ew JG
  rw[h1]
  simp only[Bool.true_eq_false,if_false]
  split
  ·intro _;rfl
  ·intro hc;cases hc
 intro he
 unfold DF at he
 split at he
 ·rename_i hc
  have:=congrArg Prod.snd he
  simp only at this
  rw[h2 hc]at this;cases this
 ·split at he
  ·cases he
  ·split at he
   ·cases he
   ·cases he
theorem YM {a b:Nat}(ha:a<10)(hb:b<10)(h:UInt8.ofNat (48+a)=UInt8.ofNat (48+b)):a=b:=by
 have:=congrArg UInt8.toNat h
 simp only[UInt8.toNat_ofNat']at this
 omega
theorem qp (n:Nat):dig n≠[]:=by
 unfold dig Lib.decDigits
 split <;> simp
theorem vq:∀ (m n:Nat),dig m=dig n->m=n:=by
 intro m
 induction m using Nat.strongRecOn with
 | ind m ih =>
 intro n h
 have hd:∀ k:Nat,dig k=if k<10 then [UInt8.ofNat (48+k)] else dig (k / 10)++[UInt8.ofNat (48+k % 10)]:=fun k=>by
  unfold dig
  conv=>lhs;unfold Lib.decDigits
  split <;> rfl
 rw[hd m,hd n]at h
 by_cases hm:m<10
 ·rw[if_pos hm]at h
  by_cases hn:n<10
  ·rw[if_pos hn]at h
   injection h with h _
   exact YM hm hn h
  ·rw[if_neg hn]at h
   have:=congrArg List.length h
   simp only[List.length_append,List.length_singleton]at this
   have h2:=List.length_pos_iff.2 (qp (n / 10))
   omega
 ·rw[if_neg hm]at h
  by_cases hn:n<10
  ·rw[if_pos hn]at h
   have:=congrArg List.length h
   simp only[List.length_append,List.length_singleton]at this
   have h2:=List.length_pos_iff.2 (qp (m / 10))
   omega
  ·rw[if_neg hn]at h
   obtain⟨h1,h2⟩:=List.append_inj' h (by simp)
   injection h2 with h2 _
   have e1:=ih (m / 10) (by omega) (n / 10) h1
   have e2:=YM (a:=m % 10) (b:=n % 10) (by omega) (by omega) h2
   omega
theorem cQ {l:List Str}{u v:Str}{j:Nat}(h1:EG l u=some j)(h2:EG l v=some j):u=v:=by
 induction l generalizing j with
 | nil=>cases h1
 | cons x l ih =>
  simp only[EG]at h1 h2
  by_cases e1:x=u
  ·rw[if_pos e1]at h1
   cases h1
   by_cases e2:x=v
   ·exact e1.symm.trans e2
   ·rw[if_neg e2]at h2
    cases hq:EG l v with
    | none=>rw[hq]at h2;cases h2
    | some i=>rw[hq]at h2;cases h2
  ·rw[if_neg e1]at h1
   by_cases e2:x=v
   ·rw[if_pos e2]at h2
    cases h2
    cases hq:EG l u with
    | none=>rw[hq]at h1;cases h1
    | some i=>rw[hq]at h1;cases h1
   ·rw[if_neg e2]at h2
    cases hq:EG l u with
    | none=>rw[hq]at h1;cases h1
    | some i =>
     cases hq2:EG l v with
     | none=>rw[hq2]at h2;cases h2
     | some k =>
      rw[hq]at h1
      rw[hq2]at h2
      simp only[Option.map_some,Option.some.injEq]at h1 h2
      have:i=k:=by omega
      subst this
      exact ih hq hq2
def nmP (pre:Str)(l:List Str)(v:Str):Option Str:=(EG l v).map fun j=>pre++dig j
theorem aI {c d:UInt8}{l m:List Str}{u v:Str}{w:Str}(h1:nmP [c] l u=some w)(h2:nmP [d] m v=some w):c=d/\∃ j,EG l u=some j/\EG m v=some j:=by
 unfold nmP at h1 h2
 cases hq:EG l u with
 | none=>rw[hq]at h1;cases h1
 | some i =>
  cases hq2:EG m v with
  | none=>rw[hq2]at h2;cases h2
  | some k =>
   rw[hq]at h1
   rw[hq2]at h2
   simp only[Option.map_some,Option.some.injEq]at h1 h2
   rw[<-h2]at h1
   simp only[List.cons_append,List.nil_append,List.cons.injEq]at h1
   refine⟨h1.1,i,rfl,?_⟩
   rw[vq i k h1.2]
open Classical in
noncomputable def S6 (l m:List Str)(f g:Sub):Sub:=fun w =>
 if h:∃ u,nmP [120] l u=some w then f h.choose else if h:∃ u,nmP [121] m u=some w then g h.choose else BS w
theorem tS {l m:List Str}{f g:Sub}{v:Str}(hv:v∈l):app (S6 l m f g) (rho [120] l v)=f v:=by
 unfold rho
 cases hq:EG l v with
 | none=>exact absurd hv (KC.1 hq)
 | some j =>
  have hn:nmP [120] l v=some ([120]++dig j):=by unfold nmP;rw[hq];rfl
  rw[Av (t:=BS ([120]++dig j)) rfl]
  show S6 l m f g ([120]++dig j)=f v
  unfold S6
  have h:∃ u,nmP [120] l u=some ([120]++dig j):=⟨v,hn⟩
  rw[dif_pos h]
  obtain⟨_,i,h1,h2⟩:=aI h.choose_spec hn
  rw[cQ h1 h2]
theorem vF {l m:List Str}{f g:Sub}{v:Str}(hv:v∈m):app (S6 l m f g) (rho [121] m v)=g v:=by
 unfold rho
 cases hq:EG m v with
 | none=>exact absurd hv (KC.1 hq)
 | some j =>
  have hn:nmP [121] m v=some ([121]++dig j):=by unfold nmP;rw[hq];rfl
  rw[Av (t:=BS ([121]++dig j)) rfl]
  show S6 l m f g ([121]++dig j)=g v
  unfold S6
  have hno:¬ ∃ u,nmP [120] l u=some ([121]++dig j):=fun ⟨u,hu⟩=>by
   have:=(aI hu hn).1
   exact absurd this (by decide)
  have h:∃ u,nmP [121] m u=some ([121]++dig j):=⟨v,hn⟩
  rw[dif_neg hno,dif_pos h]
  obtain⟨_,i,h1,h2⟩:=aI h.choose_spec hn
  rw[cQ h1 h2]
theorem Uo {v:Str}:∀ l:List Term,(∀ a∈l,0<CZ v a->occ v a=true)->0<BQ v l->∃ a∈l,occ v a=true
 | [],_,h=>by simp[BQ]at h
 | a::l,hs,h=>by
  simp only[BQ]at h
  by_cases ha:0<CZ v a
  ·exact⟨a,by simp,hs a (by simp) ha⟩
  ·obtain⟨b,hb,ho⟩:=Uo l (fun b hb=>hs b (by simp[hb])) (by omega)
   exact⟨b,by simp[hb],ho⟩
theorem hY {v:Str}(t:Term):0<CZ v t->occ v t=true:=by
 induction t using Af with
 | h t ih =>
 intro h
 rw[Lb]at h
 by_cases hc:(t.var && decide (t.name=v))=true
 ·rw[Bool.and_eq_true,decide_eq_true_eq]at hc
  exact AC.2 (.inl hc)
 ·rw[if_neg hc]at h
  obtain⟨a,ha,ho⟩:=Uo t.args ih (by omega)
  exact AC.2 (.inr ⟨a,ha,ho⟩)
theorem YU {v:Str}:∀ (p:List Int)(t y:Term),D7 t p=some y->occ v y=true->occ v t=true
 | [],t,y,h,ho=>by simp only[D7,Option.some.injEq]at h;subst h;exact ho
 | i::p,t,y,h,ho=>by
  simp only[D7]at h
  split at h
  ·rename_i hi
   exact AC.2 (.inr ⟨_,A4 (by omega),YU p _ y h ho⟩)
  ·cases h
theorem du {r:List A2}(h:ED r=(true,0)):CB r:=by
 have hsys:Al r=0:=by
  unfold ED at h
  by_cases hc:Al r=0
  ·exact hc
  ·rw[if_pos hc]at h
   exact absurd (congrArg Prod.fst h) (by simp)
 obtain⟨hg,hrl⟩:=HJ hsys
 unfold ED at h
 rw[if_neg (by simpa using hsys)]at h
 obtain⟨s1,s2⟩:=QQ hg
 have ha:(Nr r).2=0:=by
  by_cases hc:(Nr r).2=0
  ·exact hc
  ·rw[if_pos hc]at h
   exact absurd (congrArg Prod.fst h) (by simp)
 rw[if_neg (by simpa using ha)]at h
 have h:=congrArg Prod.fst h
 simp only[Bool.and_eq_true,decide_eq_true_eq,List.all_eq_true]at h
 obtain⟨h0,hlin⟩:=h
 refine⟨hsys,fun x hx v=>?_,fun i j hi hj p y hy hv hne f g he=>?_⟩
 ·have hb:=hlin x hx
  by_cases hc:CZ v x.left<=1
  ·exact hc
  ·exfalso
   have ho:=hY x.left (v:=v) (by omega)
   unfold OW at hb
   rw[Bool.not_eq_true']at hb
   rw[List.any_eq_false]at hb
   have:=hb v ((F4 v x.left []).2 (.inr ho))
   simp only[decide_eq_true_eq]at this
   omega
 ·have hxi:=hg _ (A4 hi)
  have hxj:=hg _ (A4 hj)
  have hvis:(p,y)∈Ap (r.getD i default).left []:=by
   have:=YV p (r.getD i default).left y [] hy
   simpa using this
  have hno:=vZ (s1▸ha) (by rw[<-s2 ha];exact h0) hi hj hvis hv hne
  have hsub:=ke hxi hy
  have hgi:=KF (pre:=[120]) rfl hxi
  have hgj:=KF (pre:=[121]) rfl hxj
  refine kM (a:=Cc [120] (r.getD i default)) (b:=Cc [121] (r.getD j default)) (pos:=p) (BU.sub p hgi.l hsub) hgj.l (θ:=S6 (AF [] (r.getD i default).left) (AF [] (r.getD j default).left) f g) ?_ hno
  have e1:app (S6 (AF [] (r.getD i default).left) (AF [] (r.getD j default).left) f g) (app (rho [120] (AF [] (r.getD i default).left)) y)=app f y:=by
   rw[O8]
   refine DB y fun v hvo=>tS ?_
   exact (Hl (r.getD i default).left []).2 hxi.l.vf v (YU p _ y hy hvo)
  have e2:app (S6 (AF [] (r.getD i default).left) (AF [] (r.getD j default).left) f g) (Cc [121] (r.getD j default)).left=app g (r.getD j default).left:=by
   show app _ (app (rho [121] (AF [] (r.getD j default).left)) (r.getD j default).left)=_
   rw[O8]
   exact DB _ fun v hvo=>vF ((Hl (r.getD j default).left []).2 hxj.l.vf v hvo)
  rw[e1,e2,he]
end Go.Dw
end
section
namespace Go.Dw
theorem vh {n k:Nat}{Z:List A0}(hk:k<n)(hZ:n<=Z.length):(Z.take k++List.replicate (n-k) zM).set k (Z.getD k default)=Z.take (k+1)++List.replicate (n-(k+1)) zM:=by
 have h1:(Z.take k).length=k:=by simp;omega
 rw[List.set_append,if_neg (by omega),h1,Nat.sub_self]
 obtain⟨m,hm⟩:∃ m,n-k=m+1:=⟨n-k-1,by omega⟩
 have h2:n-(k+1)=m:=by omega
 rw[hm,h2,List.replicate_succ,List.set_cons_zero,A9 (by omega),List.append_assoc];rfl
theorem FY {F:A0->A0->A0}{g:Nat}{caps:List V}(hc:∀ σ,AP σ caps=caps)(a b:List A0)(hla:a.length<=b.length)(hl:a.length<2^38)(h:∀ k,k<a.length->PF g (Aq (a.getD k default)::Aq (b.getD k default)::caps) (Aq (F (a.getD k default) (b.getD k default)))) :
  PF If [Cu a,Cu b,.fn (.func g) [] caps] (Cu (List.zipWith F a b)):=by
 have hz:∀ τ,List.map (AP τ) (List.replicate a.length [V.int IntKind.i64 0,V.str [],V.bool false,V.sl 4 []])=(List.replicate a.length zM).map cM:=fun τ=>by
  rw[List.map_replicate,List.map_replicate];rfl
 have hz0:List.replicate a.length [V.int IntKind.i64 0,V.str [],V.bool false,V.sl 4 []]=(List.replicate a.length zM).map cM:=by rw[List.map_replicate];rfl
 have m1:a.length<=Ag:=by unfold Ag;omega
 have m2:a.length*56<=Ag:=by unfold Ag;omega
 have hZl:(List.zipWith F a b).length=a.length:=by rw[List.length_zipWith];omega
 refine Aa HO.ok rfl ?_
 push_cast[hc,hz,hz0,m1,m2,C8]
 refine Ac (n:=a.length) (R:=fun k=>HO.L3 (Cu a) (Cu b) (.fn (.func g) [] caps) (.rw 0 4 a.length) (.int .i64 a.length) (.int .i64 k) 0 [.row A7 4 (((List.zipWith F a b).take k++List.replicate (a.length-k) zM).map cM)] (Bv 0 HO.rs fun x' H'=>x'=Cu (List.zipWith F a b)/\H'=[])) ?_ ?_ 0 (by omega)
 ·intro k hk ih
  have hkb:k<b.length:=by omega
  have hcall:=h k hk
  have hge:(List.zipWith F a b).getD k default=F (a.getD k default) (b.getD k default):=by
   have e1:(List.zipWith F a b)[k]?=some (F (a.getD k default) (b.getD k default)):=by
    have ea:a[k]?=some (a.getD k default):=by simp[List.getD_eq_getElem?_getD,hk]
    have eb:b[k]?=some (b.getD k default):=by simp[List.getD_eq_getElem?_getD,hkb]
    rw[List.getElem?_zipWith,ea,eb]
   rw[List.getD_eq_getElem?_getD,e1];rfl
  have hset:=vh (n:=a.length) (k:=k) (Z:=List.zipWith F a b) hk (by omega)
  rw[<-hset,hge]at ih
  have hlen:((List.zipWith F a b).take k++List.replicate (a.length-k) zM).length=a.length:=by simp;omega
  generalize (List.zipWith F a b).take k++List.replicate (a.length-k) zM=L at ih hlen
  generalize F (a.getD k default) (b.getD k default)=y at hcall ih
  have hset2:(L.map cM).set k (put 0 (cM y) ((L.map cM).getD k []))=(L.set k y).map cM:=by
   have e:(L.map cM).getD k []=cM (L.getD k default):=by simp[List.getD_eq_getElem?_getD,hlen,hk]
   rw[e,List.map_set];rfl
  have hg1:(L.map cM)[k]?=some (cM (L.getD k default)):=by simp[List.getD_eq_getElem?_getD,hlen,hk]
  refine A8.2 ?_
  push_cast[ilt hk,ilt hkb,hc]
  refine .of hcall ?_
  push_cast[hset2,hg1,hc,C8,List.length_map,hlen,ilt hk,w64 (show k<2^62 by omega)]
  push_cast at ih
  first | exact ih | exact⟨by omega,ih⟩
 ·refine A8.2 ?_
  have hfin:((List.zipWith F a b).take a.length++List.replicate (a.length-a.length) zM)=List.zipWith F a b:=by
   rw[List.take_of_length_le (by omega),Nat.sub_self,List.replicate_zero,List.append_nil]
  rw[hfin]
  push_cast[B6 (Nat.le_refl _),List.length_map,hZl,C8]
  exact A1 (by push_cast[HO.rs,C8];rfl)
end Go.Dw
end
section
namespace Go.Dw
def hU3 (n:Nat)(out:List A0):List Ob:=[.dead,.row A7 4 (out.map cM),.cells Qm [.rw 1 4 n]]
theorem nZ (n:Nat)(out:List A0):ID 3 (hU3 n out):=⟨rfl,by
 show [A5 (AK 3) .dead,A5 (AK 3) (.row A7 4 (out.map cM)),A5 (AK 3) (.cells Qm [.rw 1 4 n])]=_
 have h3:AK 3 1=some 1:=rfl
 push_cast[h3,C8,List.map_map];rfl⟩
theorem jn (n:Nat)(out:List A0)(J:List Ob):cut 3 (hU3 n out++J)=hU3 n out:=by
 show [A5 (AK 4) .dead,A5 (AK 4) (.row A7 4 (out.map cM)),A5 (AK 4) (.cells Qm [.rw 1 4 n])]=_
 have h3:AK 4 1=some 1:=rfl
 push_cast[h3,C8];rfl
def pc (L:Term)(g:Cj)(vars:List Str)(j:Nat)(out:List A0):Prop :=
 out.length=vars.length/\∀ k,k<vars.length->(∃ x∈(Ap L []).take j,x.2.var=true/\x.2.name=vars.getD k default)->out.getD k default=g (vars.getD k default)
theorem rU {L:Term}{g:Cj}{vars:List Str}{j:Nat}{out:List A0}(h:pc L g vars j out)(hj:j<(Ap L []).length)(hv:((Ap L []).getD j default).2.var=false):pc L g vars (j+1) out:=by
 refine⟨h.1,fun k hk hx=>h.2 k hk ?_⟩
 obtain⟨x,hx,h1,h2⟩:=hx
 rw[A9 hj,List.mem_append,List.mem_singleton]at hx
 rcases hx with hx | rfl
 ·exact⟨x,hx,h1,h2⟩
 ·rw[hv]at h1;cases h1
theorem nC {L:Term}{g:Cj}{vars:List Str}{j:Nat}{out:List A0}(hnd:vars.Nodup)(h:pc L g vars j out)(hj:j<(Ap L []).length){x:List Int×Term}(hx0:(Ap L []).getD j default=x){i:Nat}(hi:i<vars.length)(hn:vars.getD i default=x.2.name):pc L g vars (j+1) (out.set i (g x.2.name)):=by
 refine⟨by rw[List.length_set,h.1],fun k hk hx=>?_⟩
 obtain⟨y,hy,h1,h2⟩:=hx
 by_cases hik:i=k
 ·subst hik
  rw[hn]
  simp[List.getD_eq_getElem?_getD,h.1,hi]
 ·have e:(out.set i (g x.2.name)).getD k default=out.getD k default:=by simp[List.getD_eq_getElem?_getD,hik]
  rw[e]
  refine h.2 k hk ?_
  rw[A9 hj,List.mem_append,List.mem_singleton]at hy
  rcases hy with hy | rfl
  ·exact⟨y,hy,h1,h2⟩
  ·exact absurd (by
    have e1:vars[i]?=vars[k]?:=by
     rw[hx0]at h2
     have a1:vars[i]?=some (vars.getD i default):=by simp[List.getD_eq_getElem?_getD,hi]
     have a2:vars[k]?=some (vars.getD k default):=by simp[List.getD_eq_getElem?_getD,hk]
     rw[a1,a2,hn,h2]
    exact (List.getElem?_inj hi hnd).1 e1) hik
theorem uN {y z:Term}{i:Int}{p:List Int}(hf:vfl y=true)(h:D7 y (i::p)=some z):y.var=false/\0<=i/\i.toNat<y.args.length/\D7 (y.args.getD i.toNat default) p=some z:=by
 simp only[D7]at h
 split at h
 ·rename_i hi
  have hv:y.var=false:=by
   cases hv:y.var with
   | false=>rfl
   | true=>rw[(Kc.1 hf).1 hv]at hi;simp at hi;omega
  exact⟨hv,by omega,by omega,h⟩
 ·cases h
theorem fH {vars:List Str}{g:Cj}{x:List Int×Term}(O:Ob)(hO:A5 (AK 6) O=O)(out:List A0)(hol:out.length=vars.length)(hvl:vars.length<2^38)(y0:Term)(hy0:vfl y0=true)(hsub:D7 y0 x.1=some x.2)(hv:x.2.var=true)(hm:x.2.name∈vars)(hpl:x.1.length<2^38)(Q:X->T->List Ob->Prop)
  (hq:∀ T J,Q .fall T (hU3 vars.length (out.set (ixS x.2.name vars) (g x.2.name))++O::J)) :
  FX.L3 (.ro [Bl vars] 0) (.ptr 2 0) (.ro (cT x.2) 0) (.ptr 5 0) (Hk x.1) (.int .i64 x.1.length) (.int .i64 0) 4 (hU3 vars.length out++[O,.dead,.cells A7 (cM (pl g y0))]) Q:=by
 refine Ac (n:=x.1.length) (R:=fun k=>∀ y,vfl y=true->D7 y (x.1.drop k)=some x.2->FX.L3 (.ro [Bl vars] 0) (.ptr 2 0) (.ro (cT x.2) 0) (.ptr 5 0) (Hk x.1) (.int .i64 x.1.length) (.int .i64 k) 4 (hU3 vars.length out++[O,.dead,.cells A7 (cM (pl g y))]) Q) ?_ ?_ 0 (Nat.zero_le _) y0 hy0 (by rw[List.drop_zero];exact hsub)
 ·intro k hk ih y hy hs
  rw[Ak hk]at hs
  obtain⟨h1,h2,h3,h4⟩:=uN hy hs
  have ih:=ih _ (BF hy (A4 h3)) h4
  simp only[hU3,List.cons_append,List.nil_append]at ih ⊢
  refine A8.2 ?_
  have e:((y.args.map (pl g)).getD (x.1.getD k default).toNat default)=pl g (y.args.getD (x.1.getD k default).toNat default):=by
   generalize (x.1.getD k default).toNat=i at h3
   simp[List.getD_eq_getElem?_getD,h3]
  have e2:(A0.mk 0 y.name false (y.args.map (pl g))).args=y.args.map (pl g):=rfl
  push_cast[ilt hk,I9 h1,hO,C8,e2,e,List.length_map,w64 (show k<2^62 by omega)]
  exact⟨⟨by omega,by omega⟩,ih⟩
 ·intro y hy hs
  rw[List.drop_length]at hs
  have hs:y=x.2:=by simpa[D7]using hs
  subst hs
  have hix:=Fb vars x.2.name (by omega)
  obtain⟨i1,i2,i3⟩:=F6 hm
  rw[i1]at hix
  simp only[hU3,List.cons_append,List.nil_append]
  refine A8.2 ?_
  push_cast[B6 (Nat.le_refl _),hO]
  refine .of hix ?_
  have hset:(out.map cM).set (ixS x.2.name vars) (put 0 (cM (g x.2.name)) ((out.map cM).getD (ixS x.2.name vars) []))=(out.set (ixS x.2.name vars) (g x.2.name)).map cM:=by
   have e:(out.map cM).getD (ixS x.2.name vars) []=cM (out.getD (ixS x.2.name vars) default):=by simp[List.getD_eq_getElem?_getD,hol,i2]
   rw[e,List.map_set];rfl
  push_cast[hO,IN hv,hset,C8,List.length_map,hol]
  exact⟨by omega,i2,hq _ [_,_]⟩
theorem TJ {L:Term}(hL:vfl L=true)(hs:size L<2^38)(g:Cj):PF Jc [Ao L,Aq (pl g L)] (Cu ((Az [L]).map g)):=by
 have hvs:=Ej [L] (by simp only[Ab];omega)
 have hw:=LR L
 have hvl:(Az [L]).length<2^38:=by have:=F1 [L];simp only[Ab]at this;omega
 have hnd:=Kb L
 generalize hvars:Az [L]=vars at hvs hvl hnd
 have hz:∀ τ,List.map (AP τ) (List.replicate vars.length [V.int IntKind.i64 0,V.str [],V.bool false,V.sl 4 []])=(List.replicate vars.length zM).map cM:=fun τ=>by
  rw[List.map_replicate,List.map_replicate];rfl
 have hz0:List.replicate vars.length [V.int IntKind.i64 0,V.str [],V.bool false,V.sl 4 []]=(List.replicate vars.length zM).map cM:=by rw[List.map_replicate];rfl
 have m1:vars.length<=Ag:=by unfold Ag;omega
 have m2:vars.length*56<=Ag:=by unfold Ag;omega
 refine Aa FX.ok rfl ?_
 push_cast
 refine .of hvs ?_
 push_cast[hz,hz0,m1,m2,C8]
 refine .of hw ?_
 push_cast[hz,hz0,C8]
 refine Run.rf D3 [] [.ro (cT L) 0] ((Ap L []).map K7) (fun j H1=>∃ out,H1=hU3 vars.length out/\pc L g vars j out) (fun _ _=>False) rfl (HR L (by omega)) ?_ ⟨List.replicate vars.length zM,rfl,by simp,fun k hk hx=>by simp at hx⟩ ?_ ?_ ?_ ?_ ?_ ?_
 ·intro it hit
  obtain⟨x,_,rfl⟩:=List.mem_map.1 hit
  rfl
 ·push_cast
 ·rintro j H1 ⟨out,rfl,_⟩
  exact nZ _ out
 ·rintro e H1 h
  exact h.elim
 ·rintro lo rr j it H1 hit ⟨out,rfl,hI⟩
  rw[List.getElem?_map]at hit
  cases hx:(Ap L [])[j]? with
  | none=>rw[hx]at hit;cases hit
  | some x =>
  rw[hx]at hit
  have hit:it=K7 x:=by simpa using hit.symm
  subst hit
  have hj:j<(Ap L []).length:=(List.getElem?_eq_some_iff.1 hx).1
  have hxj:(Ap L []).getD j default=x:=by rw[List.getD_eq_getElem?_getD,hx];rfl
  have hxm:x∈Ap L []:=hxj▸A4 hj
  push_cast[OQ,K7,hU3]
  refine A8.2 ?_
  cases hv:x.2.var with
  | false =>
   push_cast[hv]
   refine⟨rfl,out,jn _ out _,rU hI hj (by rw[hxj];exact hv)⟩
  | true =>
   push_cast[hv]
   have hv1:=PL L [] x hxm
   obtain⟨p,hp,h2⟩:=hv1
   rw[List.nil_append]at hp
   rw[<-hp]at h2
   have h3:=(PZ L [] x hxm).2
   have hm:x.2.name∈vars:=by
    rw[<-hvars,DK]
    exact dk _ _ _ h2 hv
   obtain⟨i1,i2,i3⟩:=F6 hm
   rw[C8]
   refine fH (vars:=vars) (g:=g) (x:=x) (.lp lo .busy rr _) ?_ out hI.1 hvl L hL h2 hv hm (by simp only[List.length_nil]at h3;omega) _ ?_
   ·push_cast
   ·intro T J
    exact⟨rfl,_,jn _ _ (_::J),nC hnd hI hj hxj i2 i3⟩
 ·rintro H1 ⟨out,rfl,hI⟩
  have hout:out=vars.map g:=by
   refine List.ext_getElem? fun k=>?_
   by_cases hk:k<vars.length
   ·have e:=hI.2 k hk (by
     rw[List.length_map,List.take_length]
     have hm:vars.getD k default∈Az [L]:=by rw[hvars];exact A4 hk
     have hne:Xq L (vars.getD k default)≠[]:=by rw[oU];exact Tk _ _ ((DK _ _).1 hm)
     unfold Xq V4 at hne
     obtain⟨x,hx⟩:=List.exists_mem_of_ne_nil _ (fun h=>hne (by rw[h];rfl):((Ap L []).filter (isV (vars.getD k default)))≠[])
     obtain⟨h1,h2⟩:=List.mem_filter.1 hx
     simp only[isV,Bool.and_eq_true,decide_eq_true_eq]at h2
     exact⟨x,h1,by first | exact h2 | exact⟨h2.1,h2.2.symm⟩⟩)
    have e1:out[k]?=some (out.getD k default):=by simp[List.getD_eq_getElem?_getD,hI.1,hk]
    have e2:(vars.map g)[k]?=some (g (vars.getD k default)):=by simp[List.getD_eq_getElem?_getD,hk]
    rw[e1,e2,e]
   ·rw[List.getElem?_eq_none (by have:=hI.1;omega),List.getElem?_eq_none (by rw[List.length_map];omega)]
  subst hout
  push_cast[hU3,C8]
  refine⟨by rw[List.length_map,List.length_map],A1 ?_⟩
  push_cast[FX.rs,C8]
  rfl
 ·rintro e H1 h
  exact h.elim
end Go.Dw
end
section
namespace Go.Dw
theorem Nc (r:List A2)(m:A0)(hm:m.rule=0):PF Fa [Aq m,.ro [.int .i64 0] 0,.ro [Aj r] 0] (Cu m.args):=by
 refine Aa Dx.ok rfl ?_
 push_cast[hm]
 refine A1 ?_
 push_cast[Dx.rs]
theorem N9 {r:List A2}{k:Nat}(hk:k<r.length)(hkl:k<2^40)(hv:(lft r k).var=false)(hf:vfl (lft r k)=true)(hs:size (lft r k)<2^38)(β:Bool)(g:Cj):PF Fa [Aq (fm r k β g),.ro [.int .i64 (k+1)] 0,.ro [Aj r] 0] (Cu ((vrs r k).map g)):=by
 refine Aa Dx.ok rfl ?_
 cases β with
 | true =>
  have e:fm r k true g=ru r k g:=rfl
  have h1:(0:Int)<k+1:=by omega
  push_cast[e,DO,CM,h1]
  refine A1 ?_
  push_cast[Dx.rs]
 | false =>
  have e:fm r k false g=pl g (lft r k):=rfl
  have hu:=TJ hf hs g
  have h0:(pl g (lft r k)).rule=0:=Jt hv
  have h1:((k:Int)+1=0)=False:=by simp;omega
  have hw:IntKind.i64.wrap ((k:Int)+1-1)=k:=by
   rw[Int.add_sub_cancel];exact Bq (by omega) (by omega)
  push_cast[e,h0,h1,hw]
  refine⟨by omega,.of hu ?_⟩
  push_cast
  refine A1 ?_
  push_cast[Dx.rs]
  rfl
theorem Lg (r:List A2)(a b:A0)(ha:a.rule=0)(hb:b.rule=0):PF EB [Aj r,Aq a,Aq b] (.tup [.int .i64 0,Cu a.args,Cu b.args]):=by
 refine Aa FP.ok rfl ?_
 push_cast[ha,hb]
 refine .of (Nc r a ha) ?_
 push_cast
 refine .of (Nc r b hb) ?_
 push_cast
 refine A1 ?_
 push_cast[FP.rs]
theorem Hn {r:List A2}{k:Nat}(hk:k<r.length)(hkl:k<2^40)(hv:(lft r k).var=false)(hf:vfl (lft r k)=true)(hs:size (lft r k)<2^38)(β γ:Bool)(f g:Cj)(hβ:β=true\/γ=true):PF EB [Aj r,Aq (fm r k β f),Aq (fm r k γ g)] (.tup [.int .i64 (k+1),Cu ((vrs r k).map f),Cu ((vrs r k).map g)]):=by
 have c1:=N9 hk hkl hv hf hs β f
 have c2:=N9 hk hkl hv hf hs γ g
 have hr:∀ (δ:Bool)(f:Cj),(fm r k δ f).rule=if δ then (k:Int)+1 else 0:=fun δ f=>by
  cases δ with
  | true=>rfl
  | false=>exact Jt hv
 have hm:(if (fm r k β f).rule<(fm r k γ g).rule then (fm r k γ g).rule else (fm r k β f).rule)=(k:Int)+1:=by
  rw[hr,hr]
  rcases hβ with rfl | rfl
  ·cases γ <;> simp <;> omega
  ·cases β <;> simp <;> omega
 refine Aa FP.ok rfl ?_
 push_cast[hm]
 refine .of c1 ?_
 push_cast
 refine .of c2 ?_
 push_cast
 refine A1 ?_
 push_cast[FP.rs]
end Go.Dw
end
section
namespace Go.Dw
theorem It {r:List A2}{a b y:A0}(h:PF Bn [Aj r,Aq a,Aq b] (Aq y)):PF Db [Aq a,Aq b,.ro [Aj r] 0] (Aq y):=by
 refine Aa K1.ok rfl ?_
 push_cast
 refine .of h ?_
 push_cast
 refine A1 ?_
 push_cast[K1.rs]
theorem V3 {r:List A2}{a b:A0}(ha:a.rule=0)(hb:b.rule=0)(hl:a.args.length<=b.args.length)(hl2:a.args.length<2^38)(F:A0->A0->A0)
  (hF:∀ k,k<a.args.length->PF Bn [Aj r,Aq (a.args.getD k default),Aq (b.args.getD k default)] (Aq (F (a.args.getD k default) (b.args.getD k default)))) :
  PF Bn [Aj r,Aq a,Aq b] (Aq (.mk 0 a.name a.var (List.zipWith F a.args b.args))):=by
 have hz:=FY (F:=F) (g:=Db) (caps:=[.ro [Aj r] 0]) (fun σ=>by push_cast) a.args b.args hl hl2 (fun k hk=>It (hF k hk))
 refine Aa Eg.ok rfl ?_
 push_cast
 refine .of (Lg r a b ha hb) ?_
 push_cast
 refine .of hz ?_
 push_cast
 refine A1 ?_
 push_cast[Eg.rs]
 first | rfl | (rw[Aq,SE];rfl) | (simp only[Aq,cM];rfl)
theorem UZ {r:List A2}{k:Nat}(hk:k<r.length)(hkl:k<2^40)(hv:(lft r k).var=false)(hf:vfl (lft r k)=true)(hs:size (lft r k)<2^38)(f g:Cj)(F:A0->A0->A0)
  (hF:∀ v,v∈vrs r k->PF Bn [Aj r,Aq (f v),Aq (g v)] (Aq (F (f v) (g v)))) :
  PF Bn [Aj r,Aq (fm r k true f),Aq (fm r k false g)] (Aq (.mk (k+1) [] false (List.zipWith F ((vrs r k).map f) ((vrs r k).map g)))):=by
 have hvl:(vrs r k).length<2^38:=by have:=F1 [lft r k];simp only[Ab]at this;unfold vrs;omega
 have hz:=FY (F:=F) (g:=Db) (caps:=[.ro [Aj r] 0]) (fun σ=>by push_cast) ((vrs r k).map f) ((vrs r k).map g) (by simp) (by simpa using hvl) (fun j hj=>by
  rw[List.length_map]at hj
  have e:∀ f:Cj,((vrs r k).map f).getD j default=f ((vrs r k).getD j default):=fun f=>by simp[List.getD_eq_getElem?_getD,hj]
  rw[e,e]
  exact It (hF _ (A4 hj)))
 refine Aa Eg.ok rfl ?_
 push_cast
 refine .of (Hn hk hkl hv hf hs true false f g (.inl rfl)) ?_
 push_cast
 refine .of hz ?_
 have e0:(fm r k false g).rule=0:=Jt hv
 have h1:((k:Int)+1=0)=False:=by simp;omega
 push_cast[e0,h1]
 refine A1 ?_
 push_cast[Eg.rs]
 first | rfl | (rw[Aq,SE];rfl) | (simp only[Aq,cM];rfl)
theorem UX {r:List A2}{k:Nat}(hk:k<r.length)(hkl:k<2^40)(hv:(lft r k).var=false)(hf:vfl (lft r k)=true)(hs:size (lft r k)<2^38)(hs2:size (rgt r k)<2^40)(ho:∀ v,occ v (rgt r k)=true->v∈vrs r k)(β:Bool)(f g:Cj)(F:A0->A0->A0)
  (hF:∀ v,v∈vrs r k->PF Bn [Aj r,Aq (f v),Aq (g v)] (Aq (F (f v) (g v)))) :
  PF Bn [Aj r,Aq (fm r k β f),Aq (fm r k true g)] (Aq (F9 (vrs r k) (List.zipWith F ((vrs r k).map f) ((vrs r k).map g)) (rgt r k))):=by
 have hvl:(vrs r k).length<2^38:=by have:=F1 [lft r k];simp only[Ab]at this;unfold vrs;omega
 have hz:=FY (F:=F) (g:=Db) (caps:=[.ro [Aj r] 0]) (fun σ=>by push_cast) ((vrs r k).map f) ((vrs r k).map g) (by simp) (by simpa using hvl) (fun j hj=>by
  rw[List.length_map]at hj
  have e:∀ f:Cj,((vrs r k).map f).getD j default=f ((vrs r k).getD j default):=fun f=>by simp[List.getD_eq_getElem?_getD,hj]
  rw[e,e]
  exact It (hF _ (A4 hj)))
 have hvs:=Ej [lft r k] (by simp only[Ab];omega)
 have hp:=aW (vrs r k) (List.zipWith F ((vrs r k).map f) ((vrs r k).map g)) (by simp) (by omega) (rgt r k) hs2 ho
 refine Aa Eg.ok rfl ?_
 push_cast
 refine .of (Hn hk hkl hv hf hs β true f g (.inr rfl)) ?_
 push_cast
 refine .of hz ?_
 have e0:(fm r k true g).rule=(k:Int)+1:=rfl
 have h1:((k:Int)+1=0)=False:=by simp;omega
 have hw:IntKind.i64.wrap ((k:Int)+1-1)=k:=by
  rw[Int.add_sub_cancel];exact Bq (by omega) (by omega)
 push_cast[e0,h1,hw]
 refine⟨by omega,by omega,.of hvs ?_⟩
 push_cast
 refine .of hp ?_
 push_cast
 refine A1 ?_
 push_cast[Eg.rs]
end Go.Dw
end
section
namespace Go.Dw
section
variable {r:List A2} (h:CB r)
include h
theorem CB.shapes {a b:A0}(ha:OkM r a)(hb:OkM r b)(hs:Ae r A2.left b=Ae r A2.left a) :
  (a.rule=0/\b.rule=0/\b=.mk 0 a.name a.var b.args/\b.args.map (Ae r A2.left)=a.args.map (Ae r A2.left)) \/
  ∃ (k:Nat) (α β:Bool) (f g:Cj),k<r.length/\a=fm r k α f/\b=fm r k β g/\(α=true\/β=true)/\∀ v∈vrs r k,OkM r (f v)/\OkM r (g v)/\Ae r A2.left (g v)=Ae r A2.left (f v)/\Ar (f v)+Ar (g v)<Ar a+Ar b:=by
 by_cases h0:0<a.rule
 ·obtain⟨k,hk,hkr,hak,hlen⟩:=Vw ha h0
  obtain⟨β,g,h1,h2,h3⟩:=h.form ha hb hk hak hs
  refine .inr ⟨k,true,β,_,g,hk,hak,h1,.inl rfl,fun v hv=>?_⟩
  have hm:=Vo hlen hv
  obtain⟨q1,q2,q3⟩:=h3 v hv
  have:=CE hm
  have:=AO a
  exact⟨ha.arg hm,q1,q2,by omega⟩
 ·have ha0:a.rule=0:=by have:=ha.rule0.1;omega
  by_cases h1:0<b.rule
  ·obtain⟨k,hk,hkr,hbk,hlen⟩:=Vw hb h1
   obtain⟨α,f,h1,h2,h3⟩:=h.form hb ha hk hbk hs.symm
   refine .inr ⟨k,α,true,f,_,hk,h1,hbk,.inr rfl,fun v hv=>?_⟩
   have hm:=Vo hlen hv
   obtain⟨q1,q2,q3⟩:=h3 v hv
   have:=CE hm
   have:=AO b
   exact⟨q1,hb.arg hm,q2.symm,by omega⟩
  ·have hb0:b.rule=0:=by have:=hb.rule0.1;omega
   obtain⟨q1,q2⟩:=lT ha0 hb0 hs
   exact .inl ⟨ha0,hb0,q1,q2⟩
theorem JX (hrl:r.length<=64)(hsz:∀ k,k<r.length->size (lft r k)<2^38/\size (rgt r k)<2^38):∀ (n:Nat)(a b:A0),Ar a+Ar b<=n->OkM r a->OkM r b->Ae r A2.left b=Ae r A2.left a->PF Bn [Aj r,Aq a,Aq b] (Aq (rest r a b))
 | 0,a,b,hn,_,_,_=>by have:=CC a;omega
 | n+1,a,b,hn,ha,hb,hs=>by
  rcases h.shapes ha hb hs with ⟨a0,b0,hbe,hm⟩ | ⟨k,α,β,f,g,hk,rfl,rfl,hαβ,hp⟩
  ·have hl:b.args.length=a.args.length:=by have:=congrArg List.length hm;simpa using this
   have e:rest r a b=.mk 0 a.name a.var (List.zipWith (rest r) a.args b.args):=by
    rw[Oj,if_neg (by omega),if_neg (by omega)]
   rw[e]
   refine V3 a0 b0 (by omega) ?_ (rest r) fun k hk=>?_
   ·have hf:=Gs ha.fm
    unfold Bj at hf
    rw[if_neg (by omega)]at hf
    split at hf
    ·simp only[Bool.and_eq_true,decide_eq_true_eq]at hf;omega
    ·simp only[Bool.and_eq_true,decide_eq_true_eq]at hf;omega
   ·have h1:=A4 hk
    have h2:=A4 (l:=b.args) (k:=k) (by omega)
    have:=Bm h1
    have:=Bm h2
    refine JX hrl hsz n _ _ (by omega) (ha.arg h1) (hb.arg h2) ?_
    have e:=congrArg (fun l=>l.getD k default) hm
    have ea:(a.args.map (Ae r A2.left)).getD k default=Ae r A2.left (a.args.getD k default):=by simp[List.getD_eq_getElem?_getD,hk]
    have eb:(b.args.map (Ae r A2.left)).getD k default=Ae r A2.left (b.args.getD k default):=by simp[List.getD_eq_getElem?_getD,show k<b.args.length by omega]
    rw[<-ea,<-eb]
    exact e
  ·obtain⟨q1,q2,q3,q4,q5,q6,q7⟩:=h.left hk
   obtain⟨s1,s2⟩:=hsz k hk
   have hF:∀ v,v∈vrs r k->PF Bn [Aj r,Aq (f v),Aq (g v)] (Aq (rest r (f v) (g v))):=fun v hv=>by
    obtain⟨p1,p2,p3,p4⟩:=hp v hv
    exact JX hrl hsz n _ _ (by omega) p1 p2 p3
   rw[O2 h hk]
   cases β with
   | true =>
    have:=UX hk (by omega) q1 q2 s1 (by omega) q7 α f g (rest r) hF
    rw[Ik,N2]at this
    rw[if_pos rfl]
    have e:pl (ofL (vrs r k) (List.map (fun x=>rest r (f x) (g x)) (vrs r k))) (rgt r k)=pl (fun v=>rest r (f v) (g v)) (rgt r k):=N7 _ fun v hv=>Sl _ (q7 v hv)
    rw[e]at this
    exact this
   | false =>
    have hα:α=true:=by simpa using hαβ
    subst hα
    have:=UZ hk (by omega) q1 q2 s1 f g (rest r) hF
    rw[Ik]at this
    exact this
end
end Go.Dw
end
section
namespace Go.Dw
theorem Lt {r:List A2}{a b y:A0}(h:PF BJ [Aj r,Aq a,Aq b] (Aq y)):PF DI [Aq a,Aq b,.ro [Aj r] 0] (Aq y):=by
 refine Aa J9.ok rfl ?_
 push_cast
 refine .of h ?_
 push_cast
 refine A1 ?_
 push_cast[J9.rs]
theorem TG {r:List A2}{a b:A0}(ha:a.rule=0)(hb:b.rule=0)(hl:a.args.length<=b.args.length)(hl2:a.args.length<2^38)(F:A0->A0->A0)
  (hF:∀ k,k<a.args.length->PF BJ [Aj r,Aq (a.args.getD k default),Aq (b.args.getD k default)] (Aq (F (a.args.getD k default) (b.args.getD k default)))) :
  PF BJ [Aj r,Aq a,Aq b] (Aq (.mk 0 a.name a.var (List.zipWith F a.args b.args))):=by
 have hz:=FY (F:=F) (g:=DI) (caps:=[.ro [Aj r] 0]) (fun σ=>by push_cast) a.args b.args hl hl2 (fun k hk=>Lt (hF k hk))
 refine Aa Gd.ok rfl ?_
 push_cast
 refine .of (Lg r a b ha hb) ?_
 push_cast
 refine .of hz ?_
 push_cast
 refine A1 ?_
 push_cast[Gd.rs]
 first | rfl | (rw[Aq,SE];rfl) | (simp only[Aq,cM];rfl)
theorem TQ {r:List A2}{k:Nat}(hk:k<r.length)(hkl:k<2^40)(hv:(lft r k).var=false)(hf:vfl (lft r k)=true)(hs:size (lft r k)<2^38)(α β:Bool)(hαβ:α=true\/β=true)(f g:Cj)(F:A0->A0->A0)
  (hF:∀ v,v∈vrs r k->PF BJ [Aj r,Aq (f v),Aq (g v)] (Aq (F (f v) (g v)))) :
  PF BJ [Aj r,Aq (fm r k α f),Aq (fm r k β g)] (Aq (.mk (k+1) [] false (List.zipWith F ((vrs r k).map f) ((vrs r k).map g)))):=by
 have hvl:(vrs r k).length<2^38:=by have:=F1 [lft r k];simp only[Ab]at this;unfold vrs;omega
 have hz:=FY (F:=F) (g:=DI) (caps:=[.ro [Aj r] 0]) (fun σ=>by push_cast) ((vrs r k).map f) ((vrs r k).map g) (by simp) (by simpa using hvl) (fun j hj=>by
  rw[List.length_map]at hj
  have e:∀ f:Cj,((vrs r k).map f).getD j default=f ((vrs r k).getD j default):=fun f=>by simp[List.getD_eq_getElem?_getD,hj]
  rw[e,e]
  exact Lt (hF _ (A4 hj)))
 refine Aa Gd.ok rfl ?_
 push_cast
 refine .of (Hn hk hkl hv hf hs α β f g hαβ) ?_
 push_cast
 refine .of hz ?_
 have h1:((k:Int)+1=0)=False:=by simp;omega
 push_cast[h1]
 refine A1 ?_
 push_cast[Gd.rs]
 first | rfl | (rw[Aq,SE];rfl) | (simp only[Aq,cM];rfl)
section
variable {r:List A2} (h:CB r)
include h
theorem J7 (hrl:r.length<=64)(hsz:∀ k,k<r.length->size (lft r k)<2^38/\size (rgt r k)<2^38):∀ (n:Nat)(a b:A0),Ar a+Ar b<=n->OkM r a->OkM r b->Ae r A2.left b=Ae r A2.left a->PF BJ [Aj r,Aq a,Aq b] (Aq (uni r a b))
 | 0,a,b,hn,_,_,_=>by have:=CC a;omega
 | n+1,a,b,hn,ha,hb,hs=>by
  rcases h.shapes ha hb hs with ⟨a0,b0,hbe,hm⟩ | ⟨k,α,β,f,g,hk,rfl,rfl,hαβ,hp⟩
  ·have hl:b.args.length=a.args.length:=by have:=congrArg List.length hm;simpa using this
   have e:uni r a b=.mk 0 a.name a.var (List.zipWith (uni r) a.args b.args):=by
    rw[Pu,if_neg (by omega),if_neg (by omega)]
   rw[e]
   refine TG a0 b0 (by omega) ?_ (uni r) fun k hk=>?_
   ·have hf:=Gs ha.fm
    unfold Bj at hf
    rw[if_neg (by omega)]at hf
    split at hf
    ·simp only[Bool.and_eq_true,decide_eq_true_eq]at hf;omega
    ·simp only[Bool.and_eq_true,decide_eq_true_eq]at hf;omega
   ·have h1:=A4 hk
    have h2:=A4 (l:=b.args) (k:=k) (by omega)
    have:=Bm h1
    have:=Bm h2
    refine J7 hrl hsz n _ _ (by omega) (ha.arg h1) (hb.arg h2) ?_
    have e:=congrArg (fun l=>l.getD k default) hm
    have ea:(a.args.map (Ae r A2.left)).getD k default=Ae r A2.left (a.args.getD k default):=by simp[List.getD_eq_getElem?_getD,hk]
    have eb:(b.args.map (Ae r A2.left)).getD k default=Ae r A2.left (b.args.getD k default):=by simp[List.getD_eq_getElem?_getD,show k<b.args.length by omega]
    rw[<-ea,<-eb]
    exact e
  ·obtain⟨q1,q2,q3,q4,q5,q6,q7⟩:=h.left hk
   obtain⟨s1,s2⟩:=hsz k hk
   have hF:∀ v,v∈vrs r k->PF BJ [Aj r,Aq (f v),Aq (g v)] (Aq (uni r (f v) (g v))):=fun v hv=>by
    obtain⟨p1,p2,p3,p4⟩:=hp v hv
    exact J7 hrl hsz n _ _ (by omega) p1 p2 p3
   rw[WT h hk]
   have:=TQ hk (by omega) q1 q2 s1 α β hαβ f g (uni r) hF
   rw[Ik]at this
   have e:(α || β)=true:=by rcases hαβ with rfl | rfl <;> simp
   rw[e]
   exact this
end
end Go.Dw
end
section
namespace Go.Dw
theorem bQ {r:List A2}{a:A0}(ha:OkM r a)(h0:a.rule=0){l:List A0}(hl:l.length=a.args.length)(h:∀ x∈l,OkM r x):OkM r (.mk 0 a.name a.var l):=by
 refine⟨?_,?_⟩
 ·rw[GU,Bool.and_eq_true,List.all_eq_true]
  exact⟨by simp[BY,A0.rule],fun x hx=>(h x hx).rg⟩
 ·rw[GU,Bool.and_eq_true,List.all_eq_true]
  refine⟨?_,fun x hx=>(h x hx).fm⟩
  have hf:=Gs ha.fm
  cases a with
  | mk k n v l0 =>
   have h0:k=0:=h0
   subst h0
   have hl:l.length=l0.length:=hl
   unfold Bj at hf ⊢
   simp only[A0.rule,A0.var,A0.args,A0.name,hl]at hf ⊢
   exact hf
section
variable {r:List A2} (h:CB r)
include h
theorem CB.rest_ok:∀ (n:Nat)(a b:A0),Ar a+Ar b<=n->OkM r a->OkM r b->Ae r A2.left b=Ae r A2.left a->OkM r (rest r a b)/\Ae r A2.left (rest r a b)=Ae r A2.right b
 | 0,a,b,hn,_,_,_=>by have:=CC a;omega
 | n+1,a,b,hn,ha,hb,hs=>by
  rcases h.shapes ha hb hs with ⟨a0,b0,hbe,hm⟩ | ⟨k,α,β,f,g,hk,rfl,rfl,hαβ,hp⟩
  ·have hl:b.args.length=a.args.length:=by have:=congrArg List.length hm;simpa using this
   have e:rest r a b=.mk 0 a.name a.var (List.zipWith (rest r) a.args b.args):=by
    rw[Oj,if_neg (by omega),if_neg (by omega)]
   have hi:∀ k,k<a.args.length->OkM r (rest r (a.args.getD k default) (b.args.getD k default))/\Ae r A2.left (rest r (a.args.getD k default) (b.args.getD k default))=Ae r A2.right (b.args.getD k default):=fun k hk=>by
    have h1:=A4 hk
    have h2:=A4 (l:=b.args) (k:=k) (by omega)
    have:=Bm h1
    have:=Bm h2
    refine CB.rest_ok n _ _ (by omega) (ha.arg h1) (hb.arg h2) ?_
    have e:=congrArg (fun l=>l.getD k default) hm
    have ea:(a.args.map (Ae r A2.left)).getD k default=Ae r A2.left (a.args.getD k default):=by simp[List.getD_eq_getElem?_getD,hk]
    have eb:(b.args.map (Ae r A2.left)).getD k default=Ae r A2.left (b.args.getD k default):=by simp[List.getD_eq_getElem?_getD,show k<b.args.length by omega]
    rw[<-ea,<-eb]
    exact e
   have hz:∀ k,k<a.args.length->(List.zipWith (rest r) a.args b.args)[k]?=some (rest r (a.args.getD k default) (b.args.getD k default)):=fun k hk=>by
    have ea:a.args[k]?=some (a.args.getD k default):=by simp[List.getD_eq_getElem?_getD,hk]
    have eb:b.args[k]?=some (b.args.getD k default):=by simp[List.getD_eq_getElem?_getD,show k<b.args.length by omega]
    rw[List.getElem?_zipWith,ea,eb]
   have hzl:(List.zipWith (rest r) a.args b.args).length=a.args.length:=by rw[List.length_zipWith];omega
   rw[e]
   refine⟨bQ ha a0 hzl fun x hx=>?_,?_⟩
   ·obtain⟨k,hk,rfl⟩:=List.getElem_of_mem hx
    have h1:=hz k (by omega)
    rw[List.getElem?_eq_getElem hk]at h1
    injection h1 with h1
    rw[h1];exact (hi k (by omega)).1
   ·rw[D4,if_pos (show (A0.mk 0 a.name a.var (List.zipWith (rest r) a.args b.args)).rule=0 from rfl),D4,if_pos b0]
    have en:b.name=a.name:=by have:=congrArg A0.name hbe;exact this
    have ev:b.var=a.var:=by have:=congrArg A0.var hbe;exact this
    rw[en,ev]
    congr 1
    refine List.ext_getElem? fun k=>?_
    by_cases hk:k<a.args.length
    ·have eb:b.args[k]?=some (b.args.getD k default):=by simp[List.getD_eq_getElem?_getD,show k<b.args.length by omega]
     rw[List.getElem?_map,List.getElem?_map,eb]
     have e2:(A0.mk 0 a.name a.var (List.zipWith (rest r) a.args b.args)).args=List.zipWith (rest r) a.args b.args:=rfl
     rw[e2,hz k hk]
     exact congrArg some (hi k hk).2
    ·rw[List.getElem?_eq_none (by rw[List.length_map];show (List.zipWith (rest r) a.args b.args).length<=k;omega),List.getElem?_eq_none (by rw[List.length_map];omega)]
  ·obtain⟨q1,q2,q3,q4,q5,q6,q7⟩:=h.left hk
   have hi:∀ v∈vrs r k,OkM r (rest r (f v) (g v))/\Ae r A2.left (rest r (f v) (g v))=Ae r A2.right (g v):=fun v hv=>by
    obtain⟨p1,p2,p3,p4⟩:=hp v hv
    exact CB.rest_ok n _ _ (by omega) p1 p2 p3
   rw[O2 h hk,h.tgt_fm hk]
   cases β with
   | true =>
    refine⟨pM _ q5 fun v hv=>(hi v (q7 v hv)).1,?_⟩
    rw[if_pos rfl,if_pos rfl,ZQ]
    exact DB _ fun v hv=>(hi v (q7 v hv)).2
   | false =>
    refine⟨h.ok_fm hk fun v hv=>(hi v hv).1,?_⟩
    have e:=h.src_fm hk (b:=α) (g:=fun v=>rest r (f v) (g v))
    refine e.trans ?_
    rw[if_neg (by simp)]
    exact DB _ fun v hv=>(hi v (GV.2 hv)).2
end
end Go.Dw
end
section
namespace Go.Dw
section
variable {r:List A2} (h:CB r)
include h
theorem CB.uni_ok:∀ (n:Nat)(a b:A0),Ar a+Ar b<=n->OkM r a->OkM r b->Ae r A2.left b=Ae r A2.left a->OkM r (uni r a b)/\Ae r A2.left (uni r a b)=Ae r A2.left a
 | 0,a,b,hn,_,_,_=>by have:=CC a;omega
 | n+1,a,b,hn,ha,hb,hs=>by
  rcases h.shapes ha hb hs with ⟨a0,b0,hbe,hm⟩ | ⟨k,α,β,f,g,hk,rfl,rfl,hαβ,hp⟩
  ·have hl:b.args.length=a.args.length:=by have:=congrArg List.length hm;simpa using this
   have e:uni r a b=.mk 0 a.name a.var (List.zipWith (uni r) a.args b.args):=by
    rw[Pu,if_neg (by omega),if_neg (by omega)]
   have hi:∀ k,k<a.args.length->OkM r (uni r (a.args.getD k default) (b.args.getD k default))/\Ae r A2.left (uni r (a.args.getD k default) (b.args.getD k default))=Ae r A2.left (a.args.getD k default):=fun k hk=>by
    have h1:=A4 hk
    have h2:=A4 (l:=b.args) (k:=k) (by omega)
    have:=Bm h1
    have:=Bm h2
    refine CB.uni_ok n _ _ (by omega) (ha.arg h1) (hb.arg h2) ?_
    have e:=congrArg (fun l=>l.getD k default) hm
    have ea:(a.args.map (Ae r A2.left)).getD k default=Ae r A2.left (a.args.getD k default):=by simp[List.getD_eq_getElem?_getD,hk]
    have eb:(b.args.map (Ae r A2.left)).getD k default=Ae r A2.left (b.args.getD k default):=by simp[List.getD_eq_getElem?_getD,show k<b.args.length by omega]
    rw[<-ea,<-eb]
    exact e
   have hz:∀ k,k<a.args.length->(List.zipWith (uni r) a.args b.args)[k]?=some (uni r (a.args.getD k default) (b.args.getD k default)):=fun k hk=>by
    have ea:a.args[k]?=some (a.args.getD k default):=by simp[List.getD_eq_getElem?_getD,hk]
    have eb:b.args[k]?=some (b.args.getD k default):=by simp[List.getD_eq_getElem?_getD,show k<b.args.length by omega]
    rw[List.getElem?_zipWith,ea,eb]
   have hzl:(List.zipWith (uni r) a.args b.args).length=a.args.length:=by rw[List.length_zipWith];omega
   rw[e]
   refine⟨bQ ha a0 hzl fun x hx=>?_,?_⟩
   ·obtain⟨k,hk,rfl⟩:=List.getElem_of_mem hx
    have h1:=hz k (by omega)
    rw[List.getElem?_eq_getElem hk]at h1
    injection h1 with h1
    rw[h1];exact (hi k (by omega)).1
   ·rw[D4,if_pos (show (A0.mk 0 a.name a.var (List.zipWith (uni r) a.args b.args)).rule=0 from rfl),D4,if_pos a0]
    congr 1
    refine List.ext_getElem? fun k=>?_
    by_cases hk:k<a.args.length
    ·have ea:a.args[k]?=some (a.args.getD k default):=by simp[List.getD_eq_getElem?_getD,hk]
     rw[List.getElem?_map,List.getElem?_map,ea]
     have e2:(A0.mk 0 a.name a.var (List.zipWith (uni r) a.args b.args)).args=List.zipWith (uni r) a.args b.args:=rfl
     rw[e2,hz k hk]
     exact congrArg some (hi k hk).2
    ·rw[List.getElem?_eq_none (by rw[List.length_map];show (List.zipWith (uni r) a.args b.args).length<=k;omega),List.getElem?_eq_none (by rw[List.length_map];omega)]
  ·obtain⟨q1,q2,q3,q4,q5,q6,q7⟩:=h.left hk
   have hi:∀ v∈vrs r k,OkM r (uni r (f v) (g v))/\Ae r A2.left (uni r (f v) (g v))=Ae r A2.left (f v):=fun v hv=>by
    obtain⟨p1,p2,p3,p4⟩:=hp v hv
    exact CB.uni_ok n _ _ (by omega) p1 p2 p3
   rw[WT h hk]
   refine⟨h.ok_fm hk fun v hv=>(hi v hv).1,?_⟩
   rw[h.src_fm hk,h.src_fm hk]
   exact DB _ fun v hv=>(hi v (GV.2 hv)).2
end
end Go.Dw
end
section
namespace Go.Dw
def RA (σ:Sub)(L:Term):List Str->Nat
 | []=>0
 | v::vs=>(if occ v L then size (σ v) else 0)+RA σ L vs
def QK (σ:Sub)(l:List Term):List Str->Nat
 | []=>0
 | v::vs=>(if Ex v l then size (σ v) else 0)+QK σ l vs
theorem gb (σ:Sub)(a:Term)(l:List Term)(vs:List Str):QK σ (a::l) vs<=RA σ a vs+QK σ l vs:=by
 induction vs with
 | nil=>simp[QK,RA]
 | cons v vs ih =>
  simp only[QK,RA,Ex,Bool.or_eq_true]
  by_cases h1:occ v a=true <;> by_cases h2:Ex v l=true <;> simp[h1,h2] <;> omega
theorem eT (σ:Sub)(n:Str):∀ vs:List Str,vs.Nodup->RA σ (.mk n true []) vs<=size (σ n)
 | [],_=>by simp[RA]
 | v::vs,h=>by
  obtain⟨h1,h2⟩:=List.nodup_cons.1 h
  have ih:=eT σ n vs h2
  simp only[RA]
  by_cases he:n=v
  ·subst he
   have h0:∀ ws:List Str,n∉ws->RA σ (.mk n true []) ws=0:=by
    intro ws
    induction ws with
    | nil=>intro _;rfl
    | cons w ws ihw =>
     intro hw
     simp only[List.mem_cons,not_or]at hw
     simp only[RA,ihw hw.2,occ,Ex,Bool.or_false,Bool.true_and,decide_eq_true_eq]
     rw[if_neg hw.1]
   rw[h0 vs h1]
   split <;> omega
  ·have:occ v (.mk n true [])=false:=by simp[occ,Ex,he]
   rw[this]
   simp only[Bool.false_eq_true,if_false,Nat.zero_add]
   exact ih
mutual
theorem iU (σ:Sub)(vs:List Str)(hn:vs.Nodup):∀ L:Term,vfl L=true->RA σ L vs<=size (app σ L)/\(L.var=false->RA σ L vs<size (app σ L))
 | .mk n true l,hs=>by
  have ha:l=[]:=(Kc.1 hs).1 rfl
  subst ha
  refine⟨?_,fun h=>by cases h⟩
  rw[Py]
  exact eT σ n vs hn
 | .mk n false l,hs=>by
  have h:=bL σ vs hn l (Kc.1 hs).2
  have e:∀ ws,RA σ (.mk n false l) ws=QK σ l ws:=by
   intro ws
   induction ws with
   | nil=>rfl
   | cons w ws ih=>simp only[RA,QK,occ,Bool.false_and,Bool.false_or,ih]
  rw[e]
  have hi:size (app σ (.mk n false l))=1+Ab (l.map (app σ)):=by
   rw[Py];rfl
  rw[hi]
  exact⟨by omega,fun _=>by omega⟩
theorem bL (σ:Sub)(vs:List Str)(hn:vs.Nodup):∀ l:List Term,(∀ a∈l,vfl a=true)->QK σ l vs<=Ab (l.map (app σ))
 | [],_=>by
  have:∀ ws,QK σ [] ws=0:=by
   intro ws
   induction ws with
   | nil=>rfl
   | cons w ws ih=>simp[QK,Ex,ih]
  rw[this];exact Nat.zero_le _
 | a::l,hs=>by
  have h1:=gb σ a l vs
  have h2:=(iU σ vs hn a (hs a (by simp))).1
  have h3:=bL σ vs hn l fun b hb=>hs b (by simp[hb])
  simp only[List.map_cons,Ab];omega
end
theorem dV (f:Sub)(L:Term):∀ vs:List Str,(∀ v∈vs,occ v L=true)->RA f L vs=Ab (vs.map f)
 | [],_=>rfl
 | v::vs,h=>by
  simp only[RA,List.map_cons,Ab]
  rw[if_pos (h v (by simp)),dV f L vs fun w hw=>h w (by simp[hw])]
theorem QL {F:A0->Term}:∀ {l:List A0},(∀ a∈l,Ar a<=size (F a))->Bs l<=Ab (l.map F)
 | [],_=>Nat.le_refl _
 | a::l,h=>by
  have h1:=h a (by simp)
  have h2:=QL (l:=l) fun x hx=>h x (by simp[hx])
  simp only[Bs,List.map_cons,Ab]
  omega
theorem CB.size_le {r:List A2}(h:CB r):∀ (n:Nat)(m:A0),Ar m<=n->OkM r m->Ar m<=size (Ae r A2.left m)
 | 0,m,hn,_=>by have:=CC m;omega
 | n+1,m,hn,hm=>by
  have ih:Bs m.args<=Ab (m.args.map (Ae r A2.left)):=QL fun a ha=>h.size_le n a (by have:=Bm ha;omega) (hm.arg ha)
  have hsz:=AO m
  by_cases h0:0<m.rule
  ·obtain⟨k,hk,hkr,hmk,hlen⟩:=Vw hm h0
   obtain⟨q1,q2,q3,q4,q5,q6,q7⟩:=h.left hk
   have e:Ae r A2.left m=app (fun v=>Ae r A2.left (ofL (vrs r k) m.args v)) (lft r k):=(congrArg (Ae r A2.left) hmk).trans (Qb fun v hv=>GV.2 hv)
   have h1:=(iU (fun v=>Ae r A2.left (ofL (vrs r k) m.args v)) (vrs r k) (Kb _) (lft r k) q2).2 q1
   rw[dV _ _ _ fun v hv=>GV.1 hv]at h1
   have e2:(vrs r k).map (fun v=>Ae r A2.left (ofL (vrs r k) m.args v))=m.args.map (Ae r A2.left):=by
    have e3:m.args=(vrs r k).map (ofL (vrs r k) m.args):=congrArg A0.args hmk
    conv=>rhs;rw[e3]
    rw[List.map_map];rfl
   rw[e2]at h1
   rw[e];omega
  ·have m0:m.rule=0:=by have:=hm.rule0.1;omega
   rw[D4,if_pos m0]
   simp only[size]
   omega
end Go.Dw
end
section
namespace Go.Dw
theorem eQ {r:List A2}{a b:A0}(h:FA r a b=0):J1 r=0/\FR r a=0/\FR r b=0/\Lx r a=Lx r b:=by
 unfold FA at h
 split at h
 ·rename_i hc;exact absurd h hc
 ·rename_i h1
  split at h
  ·rename_i hc;exact absurd h hc
  ·rename_i h2
   split at h
   ·rename_i hc;exact absurd h hc
   ·rename_i h3
    split at h
    ·rename_i h4
     exact⟨Classical.not_not.1 h1,Classical.not_not.1 h2,Classical.not_not.1 h3,h4⟩
    ·cases h
theorem Qo {r:List A2}{a b:A0}(h:FA r a b=0):CB r/\OkM r a/\OkM r b/\Ae r A2.left b=Ae r A2.left a/\BK (Ae r A2.left a)=true/\BK (Ae r A2.right b)=true/\BK (Ae r A2.right a)=true/\r.length<=64/\∀ k,k<r.length->size (lft r k)<2^38/\size (rgt r k)<2^38:=by
 obtain⟨h1,h2,h3,h4⟩:=eQ h
 obtain⟨a1,a2,a3,a4,a5⟩:=Li h2
 obtain⟨b1,b2,b3,b4,b5⟩:=Li h3
 have hr:=di h1
 have hg:=HJ hr.2
 refine⟨du hr.1,(Fs a1).2.1,(Fs b1).2.1,by rw[<-a2,<-b2,h4],a4,b5,a5,hg.2,fun k hk=>?_⟩
 have hx:=hg.1 _ (A4 hk)
 have:=hx.l.sz
 have:=hx.r.sz
 exact⟨by unfold lft;omega,by unfold rgt;omega⟩
noncomputable def vm (r:List A2)(a b:A0):V:=if FA r a b≠0 then Pp none (FA r a b) else dY (rest r a b)
noncomputable def wy (r:List A2)(a b:A0):V:=if FA r a b≠0 then Pp none (FA r a b) else dY (uni r a b)
theorem Vl (m:A0):dY m=Pp (if LK m then some m else none) (if LK m then 0 else 3):=by unfold dY;split <;> rfl
theorem Gy {r:List A2}{a b:A0}(hr:rbs r<2^38)(ha:mb a<2^38)(hb:mb b<2^38):PF Do [Aj r,Aq a,Aq b] (vm r a b):=by
 have h0:=OF hr ha hb
 unfold vm
 refine Aa E2.ok rfl ?_
 push_cast
 refine .of h0 ?_
 by_cases hp:FA r a b=0
 ·obtain⟨g1,g2,g3,g4,g5,g6,g7,g8,g9⟩:=Qo hp
  have h1:=JX g1 g8 g9 _ a b (Nat.le_refl _) g2 g3 g4
  have hk:=g1.rest_ok _ a b (Nat.le_refl _) g2 g3 g4
  have h2:=UD (rest r a b) (by
   have:=g1.size_le _ _ (Nat.le_refl _) hk.1
   rw[hk.2]at this
   have:size (Ae r A2.right b)<=4000:=by
    unfold BK at g6
    simp only[Bool.and_eq_true,decide_eq_true_eq]at g6
    exact g6.1
   omega)
  rw[if_neg (by simp[hp]),Vl]
  rw[Vl]at h2
  push_cast[hp]
  refine .of h1 ?_
  push_cast
  refine .of h2 ?_
  split
  ·push_cast[Pp]
   exact A1 (by push_cast[E2.rs])
  ·push_cast[Pp]
   exact A1 (by push_cast[E2.rs])
 ·rw[if_pos hp]
  push_cast[hp]
  exact A1 (by push_cast[E2.rs,Pp];rfl)
theorem Tp {r:List A2}{a b:A0}(hr:rbs r<2^38)(ha:mb a<2^38)(hb:mb b<2^38):PF J6 [Aj r,Aq a,Aq b] (wy r a b):=by
 have h0:=OF hr ha hb
 unfold wy
 refine Aa FQ.ok rfl ?_
 push_cast
 refine .of h0 ?_
 by_cases hp:FA r a b=0
 ·obtain⟨g1,g2,g3,g4,g5,g6,g7,g8,g9⟩:=Qo hp
  have h1:=J7 g1 g8 g9 _ a b (Nat.le_refl _) g2 g3 g4
  have hk:=g1.uni_ok _ a b (Nat.le_refl _) g2 g3 g4
  have h2:=UD (uni r a b) (by
   have:=g1.size_le _ _ (Nat.le_refl _) hk.1
   rw[hk.2]at this
   have:size (Ae r A2.left a)<=4000:=by
    unfold BK at g5
    simp only[Bool.and_eq_true,decide_eq_true_eq]at g5
    exact g5.1
   omega)
  rw[if_neg (by simp[hp]),Vl]
  rw[Vl]at h2
  push_cast[hp]
  refine .of h1 ?_
  push_cast
  refine .of h2 ?_
  split
  ·push_cast[Pp]
   exact A1 (by push_cast[FQ.rs])
  ·push_cast[Pp]
   exact A1 (by push_cast[FQ.rs])
 ·rw[if_pos hp]
  push_cast[hp]
  exact A1 (by push_cast[FQ.rs,Pp];rfl)
end Go.Dw
end
section
namespace Go.Dw
theorem jN {α β γ:Type}[Inhabited α][Inhabited β]{F G:α->β->γ}:∀ {l:List α} {m:List β},m.length=l.length->(∀ k,k<l.length->F (l.getD k default) (m.getD k default)=G (l.getD k default) (m.getD k default))->List.zipWith F l m=List.zipWith G l m
 | [],_,_,_=>by simp
 | _::_,[],hl,_=>by simp at hl
 | a::l,b::m,hl,h=>by
  have h0:F a b=G a b:=h 0 (by simp)
  have ih:=jN (F:=F) (G:=G) (l:=l) (m:=m) (by simpa using hl) fun k hk=>h (k+1) (by simpa using hk)
  simp only[List.zipWith_cons_cons]
  rw[ih,h0]
theorem ZK {α β:Type}[Inhabited α][Inhabited β]{F:α->β}{l m:List α}(h:l.map F=m.map F){k:Nat}(hk:k<m.length):F (l.getD k default)=F (m.getD k default):=by
 have hl:l.length=m.length:=by have:=congrArg List.length h;simpa using this
 have e:=congrArg (fun l=>l.getD k default) h
 have ea:(l.map F).getD k default=F (l.getD k default):=by simp[List.getD_eq_getElem?_getD,show k<l.length by omega]
 have eb:(m.map F).getD k default=F (m.getD k default):=by simp[List.getD_eq_getElem?_getD,hk]
 rw[<-ea,<-eb];exact e
end Go.Dw
end
section
namespace Go.Dw
section
variable {r:List A2} (h:CB r)
include h
omit h in
theorem Abz {r:List A2}{a b:A0}(ha:a.rule=0)(hb:b.rule=0):rest r a b=.mk 0 a.name a.var (List.zipWith (rest r) a.args b.args):=by
 rw[Oj,if_neg (by omega),if_neg (by omega)]
end
end Go.Dw
end
section
namespace Go.Dw
noncomputable def Pc (r:List A2)(a b:A0):A0×Int:=if FA r a b≠0 then (zM,FA r a b) else if LK (rest r a b)=true then (rest r a b,0) else (zM,3)
noncomputable def U0 (r:List A2)(a b:A0):A0×Int:=if FA r a b≠0 then (zM,FA r a b) else if LK (uni r a b)=true then (uni r a b,0) else (zM,3)
theorem gQ (r:List A2)(a b:A0):vm r a b=.tup [Aq (Pc r a b).1,.int .i64 (Pc r a b).2]:=by
 unfold vm Pc dY
 split
 ·rfl
 ·split <;> rfl
theorem yU (r:List A2)(a b:A0):wy r a b=.tup [Aq (U0 r a b).1,.int .i64 (U0 r a b).2]:=by
 unfold wy U0 dY
 split
 ·rfl
 ·split <;> rfl
theorem kh {r:List A2}{a b:A0}(h:(Pc r a b).2=0):FA r a b=0/\LK (rest r a b)=true/\(Pc r a b).1=rest r a b:=by
 unfold Pc at h ⊢
 split at h
 ·rename_i hc;exact absurd h hc
 ·rename_i hc
  rw[if_neg hc]
  split at h
  ·rename_i h2;rw[if_pos h2];exact⟨Classical.not_not.1 hc,h2,rfl⟩
  ·cases h
theorem jf {r:List A2}{a b:A0}(h:(U0 r a b).2=0):FA r a b=0/\LK (uni r a b)=true/\(U0 r a b).1=uni r a b:=by
 unfold U0 at h ⊢
 split at h
 ·rename_i hc;exact absurd h hc
 ·rename_i hc
  rw[if_neg hc]
  split at h
  ·rename_i h2;rw[if_pos h2];exact⟨Classical.not_not.1 hc,h2,rfl⟩
  ·cases h
theorem ju {m:A0}(h:LK m=true):Ar m<=4000/\Ba m<=200:=by
 unfold LK at h
 simpa using h
end Go.Dw
end
section
namespace Go.Dw
theorem JD {l:List A0}{D:Nat}(h:∀ a∈l,Ba a<=D):AW l<=D:=by
 induction l with
 | nil=>exact Nat.zero_le _
 | cons a l ih =>
  have:=h a (by simp)
  have:=ih fun x hx=>h x (by simp[hx])
  simp only[AW];omega
theorem fb {g:Cj}{M:Nat}(t:Term):(∀ v,occ v t=true->Ba (g v)<=M)->Ba (pl g t)<=depth t+M:=by
 induction t using Af with
 | h t ih =>
 intro hg
 cases hv:t.var with
 | true=>rw[IN hv];have:=hg _ (AC.2 (.inl ⟨hv,rfl⟩));omega
 | false =>
  rw[I9 hv,E4]
  have h1:=F2 t
  have:AW (t.args.map (pl g))<=AA t.args+M:=by
   refine JD fun x hx=>?_
   obtain⟨a,ha,rfl⟩:=List.mem_map.1 hx
   have:=ih a ha fun v hv=>hg v (AC.2 (.inr ⟨a,ha,hv⟩))
   have:=KL ha
   omega
  show AW (t.args.map (pl g))+1<=_
  omega
theorem Su {F:A0->A0->A0}{x:A0}:∀ {l m:List A0},x∈List.zipWith F l m->∃ a∈l,∃ b∈m,x=F a b
 | [],_,h=>by simp at h
 | _::_,[],h=>by simp at h
 | a::l,b::m,h=>by
  rw[List.zipWith_cons_cons]at h
  rcases List.mem_cons.1 h with rfl | h
  ·exact⟨a,by simp,b,by simp,rfl⟩
  ·obtain⟨c,hc,d,hd,e⟩:=Su h
   exact⟨c,by simp[hc],d,by simp[hd],e⟩
theorem NN {r:List A2}{D:Nat}(hD:∀ m:A0,depth (At r m).right+1<=D):∀ (n:Nat)(a b:A0),Ar a+Ar b<=n->Ba (rest r a b)<=D*n
 | 0,a,b,hn=>by have:=CC a;omega
 | n+1,a,b,hn=>by
  have ha:=CC a
  have hb:=CC b
  have hD1:=hD a
  have hn1:1<=n:=by omega
  have hDn:D<=D*n:=Nat.le_mul_of_pos_right D hn1
  have hs:D*(n+1)=D*n+D:=Nat.mul_succ D n
  rw[Oj]
  split
  ·rw[N2]
   refine Nat.le_trans (fb (M:=D*n) _ fun v hv=>?_) (by have:=hD b;omega)
   unfold ofL
   by_cases hi:ixS v (Az [(At r b).left])<(List.zipWith (rest r) (if 0<a.rule then a.args else Fv (Az [(At r b).left]) (At r b).left a) b.args).length
   ·obtain⟨x,hx,y,hy,e⟩:=Su (A4 (l:=List.zipWith (rest r) (if 0<a.rule then a.args else Fv (Az [(At r b).left]) (At r b).left a) b.args) hi)
    rw[e]
    refine NN hD n x y ?_
    have:=Bm hy
    split at hx
    ·have:=Bm hx;omega
    ·have:=Fp hx;omega
   ·rw[List.getD_eq_getElem?_getD,List.getElem?_eq_none (by omega)]
    have:Ba (Option.getD none default:A0)=1:=rfl
    omega
  ·split
   ·rw[E4]
    have:AW (List.zipWith (rest r) a.args (Fv (Az [(At r a).left]) (At r a).left b))<=D*n:=JD fun z hz=>by
     obtain⟨x,hx,y,hy,rfl⟩:=Su hz
     have:=Bm hx
     have:=Fp hy
     exact NN hD n x y (by omega)
    show AW (List.zipWith (rest r) a.args (Fv (Az [(At r a).left]) (At r a).left b))+1<=_
    omega
   ·rw[E4]
    have:AW (List.zipWith (rest r) a.args b.args)<=D*n:=JD fun z hz=>by
     obtain⟨x,hx,y,hy,rfl⟩:=Su hz
     have:=Bm hx
     have:=Bm hy
     exact NN hD n x y (by omega)
    show AW (List.zipWith (rest r) a.args b.args)+1<=_
    omega
end Go.Dw
end
section
namespace Go.Dw
def cN (m:A0):List V:=cM m++[.int .i64 ((cap (Ar m):Nat):Int),.int .i64 ((Ba m:Nat):Int)]
def Pm (m:A0):V:=.agg (cN m)
abbrev UV (l:List A0):V:=Dz cN 6 l
theorem qK (t:A0):sto (Pm t)=some (cN t):=rfl
theorem yN (t:A0):(cN t).length=6:=rfl
theorem Ace (t:A0):(cN t)[4]?=some (.int .i64 ((cap (Ar t):Nat):Int)):=rfl
theorem AbT (t:A0):(cN t)[5]?=some (.int .i64 ((Ba t:Nat):Int)):=rfl
theorem zK (t:A0):sub 0 6 (cN t)=cN t:=rfl
theorem uv (t:A0):sub 0 4 (cN t)=cM t:=rfl
theorem mN (t:A0):V.agg (cN t)=Pm t:=rfl
theorem jB {σ:Nat->Option Nat}(t:A0):AP σ (cN t)=cN t:=rfl
theorem og {σ:Nat->Option Nat}(t:A0):ren σ (Pm t)=Pm t:=by unfold Pm;rw[Gi,jB]
theorem zB (t:A0)(a b c d e f:V):put 0 (cN t) [a,b,c,d,e,f]=cN t:=rfl
attribute [push_cast] zB qK yN Ace AbT zK uv mN og jB
theorem Rv (m:A0)(l:List A0)(hl:l.length<2^40)(hd:∀ a∈l,Ba a<2^50):PF J8 [Aq m,UV l] (Pm (.mk m.rule m.name m.var l)):=by
 have hD:=JD (l:=l) (D:=2^50) fun a ha=>Nat.le_of_lt (hd a ha)
 refine Aa PI.ok rfl ?_
 push_cast
 refine Ac (n:=l.length) (R:=fun k=>PI.L3 (.ptr 0 0) (.ptr 1 0) (UV l) (.int .i64 l.length) (.int .i64 k) 0
  [.cells Ax [.int .i64 0,.str [],.bool false,.sl 4 [],.int .i64 0,.int .i64 0],.cells Ax [.int .i64 m.rule,.str m.name,.bool m.var,Bc cM 2 4 (l.take k),.int .i64 ((cap (1+Bs (l.take k)):Nat):Int),.int .i64 ((AW (l.take k):Nat):Int)],.arr A7 4 k]
  (Bv 0 PI.rs fun x' H'=>x'=Pm (.mk m.rule m.name m.var l)/\H'=[])) ?_ ?_ 0 (by omega)
 ·intro k hk ih
  have hm:=A4 hk
  have hmd:=hd _ hm
  have hlt:(l.take k).length=k:=by simp;omega
  have h1:=IV l k hk
  have h2:=HY l k hk
  have hDk:AW (l.take k)<=2^50:=JD fun a ha=>Nat.le_of_lt (hd a (List.mem_of_mem_take ha))
  rw[h1,h2,A9 hk,<-Nat.add_assoc,<-Xy]at ih
  refine A8.2 ?_
  have c1:=U3 (1+Bs (l.take k))
  have c2:=U3 (Ar (l.getD k default))
  have hw:=Bq (x:=((cap (1+Bs (l.take k)):Nat):Int)+((cap (Ar (l.getD k default)):Nat):Int)) (by omega) (by omega)
  push_cast[ilt hk,hlt,w64 (show k<2^62 by omega),hw]
  push_cast at ih
  exact⟨by unfold Ag;omega,ih⟩
 ·refine A8.2 ?_
  have hw:IntKind.i64.wrap (((AW l:Nat):Int)+1)=((AW l+1:Nat):Int):=by rw[Bq (by omega) (by omega)];omega
  push_cast[B6 (Nat.le_refl _),List.take_length,hw]
  refine A1 ?_
  push_cast[PI.rs,hw]
  unfold Pm cN
  rw[SE,AO,E4]
  push_cast
  exact⟨rfl,rfl,rfl,rfl,rfl,rfl⟩
theorem fO (vars:List Str)(xs:List A0)(hv:vars.length<2^40)(hl:xs.length=vars.length)(M:Nat)(hM:∀ x∈xs,Ba x<=M)(hMM:M<2^45) :
  ∀ t:Term,size t<2^39->vfl t=true->(∀ v,occ v t=true->v∈vars)->PF Oe [Ao t,Bl vars,UV xs] (Pm (F9 vars xs t)):=by
 intro t
 induction t using Af with
 | h t ih =>
 intro hz hf ho
 rw[TW]
 have hst:=AH t
 have hll:=Ai t.args
 refine Aa Jz.ok rfl ?_
 cases hv2:t.var with
 | true =>
  rw[if_pos rfl]
  have hmem:t.name∈vars:=ho _ (AC.2 (.inl ⟨hv2,rfl⟩))
  obtain⟨i1,i2,i3⟩:=F6 hmem
  push_cast[hv2]
  refine Ac (n:=vars.length) (R:=fun k=>(∀ j,j<k->(fun x=>decide (t.name=x)) (vars.getD j default)=false)->Jz.L7 (Bl vars) (UV xs) (.ro (cT t) 0) (.ptr 0 0) (Bl vars) (.int .i64 vars.length) (.int .i64 k) 0
   [.cells Ax [.int .i64 0,.str [],.bool false,.sl 4 [],.int .i64 0,.int .i64 0]] (Bv 0 Jz.rs fun x' H'=>x'=Pm (xs.getD (ixS t.name vars) default)/\H'=[])) ?_ ?_ 0 (by omega) (fun j hj=>by omega)
  ·intro k hk ih2 hq
   refine A8.2 ?_
   generalize hx:vars.getD k default=s
   by_cases h:s=t.name
   ·have hi:=Gj (p:=fun x=>decide (t.name=x)) hk (by show decide (t.name=vars.getD k default)=true;rw[hx,h];simp) hq
    have hk2:ixS t.name vars=k:=by unfold ixS;rw[hi];simp
    push_cast[ilt hk,hx,eq_true h]
    exact⟨by omega,A1 (by push_cast[Jz.rs,hk2])⟩
   ·push_cast[ilt hk,hx,eq_false h,w64 (show k<2^62 by omega)]
    exact ih2 fun j hj=>by
     rcases Nat.lt_succ_iff_lt_or_eq.1 hj with hj | rfl
     ·exact hq j hj
     ·rw[hx];simpa using fun e=>h e.symm
  ·intro hq
   exfalso
   have:=hq _ i2
   rw[i3]at this
   simp at this
 | false =>
  rw[if_neg (by simp)]
  push_cast[hv2]
  refine Ac (n:=t.args.length) (R:=fun k=>Jz.L3 (Bl vars) (UV xs) (.ro (cT t) 0) (.ptr 0 0) (Bc cN 1 6 ((t.args.take k).map (F9 vars xs))) (Bd t.args) (.int .i64 t.args.length) (.int .i64 k) 0
   [.cells Ax [.int .i64 0,.str [],.bool false,.sl 4 [],.int .i64 0,.int .i64 0],.arr Ax 6 k] (Bv 0 Jz.rs fun x' H'=>x'=Pm (A0.mk 0 t.name false (List.map (F9 vars xs) t.args))/\H'=[])) ?_ ?_ 0 (by omega)
  ·intro k hk ih2
   have hm:=A4 hk
   have hm2:=Bp hm
   have hlen:((t.args.take k).map (F9 vars xs)).length=k:=by simp;omega
   rw[A9 hk,List.map_append,List.map_singleton]at ih2
   refine A8.2 ?_
   push_cast[ilt hk]
   refine .of (ih _ hm (by omega) (BF hf hm) fun v hv=>ho v (AC.2 (.inr ⟨_,hm,hv⟩))) ?_
   push_cast[hlen,w64 (show k<2^62 by omega)]
   exact⟨by unfold Ag;omega,ih2⟩
  ·have hd:∀ a∈t.args.map (F9 vars xs),Ba a<2^50:=fun a ha=>by
    obtain⟨b,hb,rfl⟩:=List.mem_map.1 ha
    have h1:=Bp hb
    have h2:=GB b
    rw[N2]
    have h3:=fb (g:=ofL vars xs) (M:=M) b fun v hv=>hM _ (Vo hl (ho v (AC.2 (.inr ⟨_,hb,hv⟩))))
    omega
   have hw:=Rv (.mk 0 t.name false []) (t.args.map (F9 vars xs)) (by simp;omega) hd
   refine A8.2 ?_
   push_cast[B6 (Nat.le_refl _),List.take_length]
   refine .of hw ?_
   push_cast
   exact A1 (by push_cast[Jz.rs];rfl)
end Go.Dw
end
section
namespace Go.Dw
def wrP (vars:List Str)(g:Cj)(p:Str->Bool)(l:List A0):List A0:=(List.range l.length).map fun k=>if p (vars.getD k default) then g (vars.getD k default) else l.getD k default
theorem M6 {vars:List Str}{g:Cj}{p:Str->Bool}{l:List A0}:(wrP vars g p l).length=l.length:=by simp[wrP]
theorem Qc {vars:List Str}{g:Cj}{p:Str->Bool}{l:List A0}{k:Nat}(hk:k<l.length):(wrP vars g p l)[k]?=some (if p (vars.getD k default) then g (vars.getD k default) else l.getD k default):=by
 unfold wrP;rw[List.getElem?_map,List.getElem?_range hk];rfl
theorem nP {vars:List Str}{g:Cj}{p:Str->Bool}{l:List A0}{k:Nat}(hk:k<l.length):(wrP vars g p l).getD k default=if p (vars.getD k default) then g (vars.getD k default) else l.getD k default:=by
 rw[List.getD_eq_getElem?_getD,Qc hk];rfl
theorem rG {vars:List Str}{g:Cj}{p:Str->Bool}(hp:∀ v,p v=false)(l:List A0):wrP vars g p l=l:=by
 apply List.ext_getElem? fun k=>?_
 by_cases hk:k<l.length
 ·rw[Qc hk,hp];simp[List.getD_eq_getElem?_getD,hk]
 ·rw[List.getElem?_eq_none (by rw[M6];omega),List.getElem?_eq_none (by omega)]
theorem uz {vars:List Str}{g:Cj}{p q:Str->Bool}{l:List A0}:wrP vars g p (wrP vars g q l)=wrP vars g (fun v=>q v || p v) l:=by
 apply List.ext_getElem? fun k=>?_
 by_cases hk:k<l.length
 ·rw[Qc (by rw[M6];exact hk),Qc hk,nP hk]
  cases p (vars.getD k default) <;> cases q (vars.getD k default) <;> simp
 ·rw[List.getElem?_eq_none (by rw[M6,M6];omega),List.getElem?_eq_none (by rw[M6];omega)]
theorem U4 {vars:List Str}{g:Cj}{p q:Str->Bool}{l:List A0}(h:∀ v,p v=q v):wrP vars g p l=wrP vars g q l:=by
 rw[show p=q from funext h]
theorem vp {vars:List Str}(hn:vars.Nodup){g:Cj}{v:Str}(hv:v∈vars){l:List A0}(hl:l.length=vars.length):wrP vars g (fun w=>decide (v=w)) l=l.set (ixS v vars) (g v):=by
 obtain⟨i1,i2,i3⟩:=F6 hv
 apply List.ext_getElem? fun k=>?_
 by_cases hk:k<l.length
 ·rw[Qc hk,List.getElem?_set]
  by_cases he:ixS v vars=k
  ·subst he
   rw[i3];simp[hk]
  ·have:v≠vars.getD k default:=fun e=>he (by rw[e];exact eo hn (by omega))
   have hd:decide (v=vars.getD k default)=false:=decide_eq_false this
   rw[if_neg he]
   simp only[hd]
   simp[List.getD_eq_getElem?_getD,hk]
 ·rw[List.getElem?_eq_none (by rw[M6];omega),List.getElem?_eq_none (by rw[List.length_set];omega)]
theorem uw {vars:List Str}{g:Cj}{p:Str->Bool}(hp:∀ v∈vars,p v=true){l:List A0}(hl:l.length=vars.length):wrP vars g p l=vars.map g:=by
 apply List.ext_getElem? fun k=>?_
 by_cases hk:k<l.length
 ·have hk2:k<vars.length:=by omega
  rw[Qc hk,hp _ (A4 hk2),List.getElem?_map]
  simp[List.getD_eq_getElem?_getD,hk2]
 ·rw[List.getElem?_eq_none (by rw[M6];omega),List.getElem?_eq_none (by simp;omega)]
theorem Zj (v:Str):∀ a b:List Term,Ex v (a++b)=(Ex v a || Ex v b)
 | [],b=>by simp[Ex]
 | x::a,b=>by simp only[List.cons_append,Ex,Zj v a b,Bool.or_assoc]
abbrev mRo (l:List A0):Ob:=.row A7 4 (l.map cM)
abbrev NS (l:List A0):List Ob:=[mRo l]
theorem Zc (l:List A0):ID 1 (NS l):=⟨rfl,by
 show [A5 (AK 1) (mRo l)]=_
 push_cast[C8]⟩
theorem qX {l:List A0}{i:Nat}(hi:i<l.length)(m:A0):(l.map cM).set i (put 0 (cM m) ((l.map cM).getD i []))=(l.set i m).map cM:=by
 have e:(l.map cM).getD i []=cM (l.getD i default):=by simp[List.getD_eq_getElem?_getD,hi]
 rw[e,List.map_set];rfl
theorem fk (vars:List Str)(hn:vars.Nodup)(hvl:vars.length<2^40)(g:Cj):∀ t:Term,size t<2^39->vfl t=true->(∀ v,occ v t=true->v∈vars)->∀ l:List A0,l.length=vars.length ->
  Spec prog LM [Ao t,Aq (pl g t),Bl vars,.rw 0 4 l.length] (NS l) (fun x' H'=>x'=.bool true/\H'=NS (wrP vars g (fun v=>occ v t) l)):=by
 intro t
 induction t using Af with
 | h t ih =>
 intro hz hf ho l hl
 have hst:=AH t
 have hll:=Ai t.args
 refine AJ mixed KI.ok rfl ?_
 cases hv:t.var with
 | true =>
  have hmem:t.name∈vars:=ho _ (AC.2 (.inl ⟨hv,rfl⟩))
  obtain⟨i1,i2,i3⟩:=F6 hmem
  have hw:wrP vars g (fun v=>occ v t) l=l.set (ixS t.name vars) (g t.name):=by
   rw[<-vp hn hmem hl]
   exact U4 fun v=>by
    by_cases e:t.name=v
    ·subst e;rw[(M2 hf hv).2 rfl];simp
    ·simp only[decide_eq_false e]
     cases ho2:occ v t with
     | false=>rfl
     | true=>exact absurd ((M2 hf hv).1 ho2) e
  rw[hw,IN hv]
  have hidx:=Uw vars t.name (by omega)
  rw[i1]at hidx
  push_cast[hv]
  refine .of hidx ?_
  push_cast[List.length_map,qX (l:=l) (i:=ixS t.name vars) (by omega),hl]
  exact⟨by omega,i2,Am (H:=NS (l.set (ixS t.name vars) (g t.name))) (J:=[]) (Zc _) rfl ⟨by push_cast[KI.rs],rfl⟩⟩
 | false =>
  rw[I9 hv]
  have e1:(A0.mk 0 t.name false (t.args.map (pl g))).rule=0:=rfl
  have e2:(A0.mk 0 t.name false (t.args.map (pl g))).name=t.name:=rfl
  have e3:(A0.mk 0 t.name false (t.args.map (pl g))).var=false:=rfl
  have e4:(A0.mk 0 t.name false (t.args.map (pl g))).args=t.args.map (pl g):=rfl
  push_cast[hv,e1,e2,e3,e4,List.length_map,C8]
  refine Ac (n:=t.args.length) (R:=fun k=>∀ l2:List A0,l2=wrP vars g (fun v=>Ex v (t.args.take k)) l->KI.L3 (Bl vars) (.rw 0 4 l.length) (.ro (cT t) 0) (.ro (cM (A0.mk 0 t.name false (t.args.map (pl g)))) 0) (.int .i64 t.args.length) (.int .i64 k) 1 (NS l2) (Bv 1 KI.rs fun x' H'=>x'=.bool true/\H'=NS (wrP vars g (fun v=>occ v t) l))) ?_ ?_ 0 (by omega) l (rG (fun v=>rfl) l).symm
  ·intro k hk ih2 l2 hl2
   have hm:=A4 hk
   have hm2:=Bp hm
   have hl3:l2.length=l.length:=by rw[hl2];exact M6
   have hcall:=ih _ hm (by omega) (BF hf hm) (fun v hv=>ho v (AC.2 (.inr ⟨_,hm,hv⟩))) l2 (by omega)
   rw[hl3]at hcall
   refine A8.2 ?_
   have e5:(t.args.map (pl g)).getD k default=pl g (t.args.getD k default):=by simp[List.getD_eq_getElem?_getD,hk]
   push_cast[ilt hk,e4,List.length_map,e5]
   have h0:Aw [0] 0=some 0:=rfl
   refine Bt.some [0] (by simp) (by simp) (R:=fun x' H'=>x'=.bool true/\H'=NS (wrP vars g (fun v=>occ v (t.args.getD k default)) l2)) ?_ ?_
   ·have e:give [0] (NS l2)=NS l2:=by
     show [A5 (Aw [0]) (mRo l2)]=_
     push_cast[C8]
    push_cast[h0,hl3]
    push_cast at e
    rw[e]
    exact hcall
   rintro x' H' ⟨rfl,rfl⟩ _
   have e:takeB [0] (NS l2) (NS (wrP vars g (fun v=>occ v (t.args.getD k default)) l2))=NS (wrP vars g (fun v=>occ v (t.args.getD k default)) l2):=by
    show [A5 (BT [0] 1) (mRo (wrP vars g (fun v=>occ v (t.args.getD k default)) l2))]=_
    push_cast[C8]
   push_cast at e
   rw[e]
   have this:=ih2 (wrP vars g (fun v=>occ v (t.args.getD k default)) l2) (by
    rw[hl2,uz,A9 hk]
    refine (U4 fun v=>?_).symm
    show Ex v (t.args.take k++[t.args.getD k default])=_
    rw[Zj]
    simp[Ex])
   push_cast[w64 (show k<2^62 by omega),C8]
   push_cast at this
   exact this
  ·intro l2 hl2
   refine A8.2 ?_
   push_cast[B6 (Nat.le_refl _)]
   have e:l2=wrP vars g (fun v=>occ v t) l:=by
    rw[hl2,List.take_length]
    exact U4 fun v=>by rw[To,hv];simp
   subst e
   exact Am (H:=NS _) (J:=[]) (Zc _) rfl ⟨by push_cast[KI.rs],rfl⟩
theorem Pb {x:A2}(hx:vfl x.left=true)(hs:tb x.left<2^38)(g:Cj):PF EO [JL x,Aq (pl g x.left)] (.tup [Cu ((Az [x.left]).map g),.bool true]):=by
 have hvs:=KO x (by omega)
 have hz:=AQ x.left
 have hvl:(Az [x.left]).length<2^38:=by have:=F1 [x.left];simp only[Ab]at this;omega
 have hm:=fk (Az [x.left]) (Kb _) (by omega) g x.left (by omega) hx (fun v hv=>(DK v _).2 hv) (List.replicate (Az [x.left]).length zM) (by simp)
 rw[uw (fun v hv=>(DK v _).1 hv) (by simp),List.length_replicate]at hm
 generalize Az [x.left]=vars at *
 refine Aa Tu.ok rfl ?_
 push_cast
 refine .of hvs ?_
 have hz0:List.replicate vars.length [V.int IntKind.i64 0,V.str [],V.bool false,V.sl 4 []]=(List.replicate vars.length zM).map cM:=by rw[List.map_replicate];rfl
 have h0:Aw [0] 0=some 0:=rfl
 push_cast[hz0]
 refine⟨⟨by unfold Ag;omega,by unfold Ag;omega⟩,?_⟩
 refine Bt.some [0] (by simp) (by simp) (R:=fun x' H'=>x'=.bool true/\H'=NS (vars.map g)) ?_ ?_
 ·have e:give [0] (NS (List.replicate vars.length zM))=NS (List.replicate vars.length zM):=by
   show [A5 (Aw [0]) (mRo (List.replicate vars.length zM))]=_
   push_cast[C8]
  push_cast[h0]
  push_cast at e
  rw[e]
  exact hm
 rintro x' H' ⟨rfl,rfl⟩ _
 have e:takeB [0] (NS (List.replicate vars.length zM)) (NS (vars.map g))=NS (vars.map g):=by
  show [A5 (BT [0] 1) (mRo (vars.map g))]=_
  push_cast[C8]
 push_cast at e
 rw[e]
 push_cast[C8]
 have e2:V.sl 4 ((vars.map g).map cM)=Cu (vars.map g):=rfl
 rw[e2]
 exact⟨by simp,A1 (by push_cast[Tu.rs])⟩
end Go.Dw
end
section
namespace Go.Dw
theorem Ol {r:List A2}{F:A0->A0->A0}(a b:List A0)(hla:a.length<=b.length)(hl:a.length<2^38)
  (h:∀ k,k<a.length->PF DJ [Aj r,Aq (a.getD k default),Aq (b.getD k default)] (Pm (F (a.getD k default) (b.getD k default)))) :
  PF Fe [Aj r,Cu a,Cu b] (UV (List.zipWith F a b)):=by
 have hZl:(List.zipWith F a b).length=a.length:=by rw[List.length_zipWith];omega
 refine Aa GD.ok rfl ?_
 push_cast
 refine Ac (n:=a.length) (R:=fun k=>GD.L3 (Aj r) (Cu a) (Cu b) (Bc cN 0 6 ((List.zipWith F a b).take k)) (.int .i64 a.length) (.int .i64 k) 0 [.arr Ax 6 k] (Bv 0 GD.rs fun x' H'=>x'=UV (List.zipWith F a b)/\H'=[])) ?_ ?_ 0 (by omega)
 ·intro k hk ih
  have hkb:k<b.length:=by omega
  have hcall:=h k hk
  have hge:(List.zipWith F a b).getD k default=F (a.getD k default) (b.getD k default):=by
   have e1:(List.zipWith F a b)[k]?=some (F (a.getD k default) (b.getD k default)):=by
    have ea:a[k]?=some (a.getD k default):=by simp[List.getD_eq_getElem?_getD,hk]
    have eb:b[k]?=some (b.getD k default):=by simp[List.getD_eq_getElem?_getD,hkb]
    rw[List.getElem?_zipWith,ea,eb]
   rw[List.getD_eq_getElem?_getD,e1];rfl
  have hlen:((List.zipWith F a b).take k).length=k:=by simp;omega
  rw[A9 (show k<(List.zipWith F a b).length by omega),hge]at ih
  refine A8.2 ?_
  push_cast[ilt hk,ilt hkb]
  refine .of hcall ?_
  push_cast[hlen,w64 (show k<2^62 by omega)]
  push_cast at ih
  first | exact⟨by unfold Ag;omega,ih⟩ | (trace_state;sorry)
 ·refine A8.2 ?_
  have e:(List.zipWith F a b).take a.length=List.zipWith F a b:=List.take_of_length_le (by omega)
  push_cast[B6 (Nat.le_refl _),e]
  exact A1 (by push_cast[GD.rs])
section
variable {r:List A2} (h:CB r)
include h
theorem CB.r18_residual_s (hrl:r.length<=64)(hsz:∀ k,k<r.length->tb (lft r k)<2^38/\size (rgt r k)<2^38)(hD:∀ m:A0,depth (At r m).right+1<=4001):∀ (n:Nat),n<=2^20->∀ (a b:A0),Ar a+Ar b<=n->OkM r a->OkM r b->Ae r A2.left b=Ae r A2.left a ->
  PF DJ [Aj r,Aq a,Aq b] (Pm (rest r a b))
 | 0,_,a,b,hn,_,_,_=>by have:=CC a;omega
 | n+1,hn2,a,b,hn,ha,hb,hs=>by
  have hdep:∀ x y:A0,Ar x+Ar y<=n+1->Ba (rest r x y)<=4001*2^20:=fun x y hxy=>by
   have h1:=NN hD (n+1) x y hxy
   have h2:=Nat.mul_le_mul_left 4001 hn2
   omega
  rcases h.shapes ha hb hs with ⟨a0,b0,hbe,hm⟩ | ⟨k,α,β,f,g,hk,rfl,rfl,hαβ,hp⟩
  ·have hl:b.args.length=a.args.length:=by have:=congrArg List.length hm;simpa using this
   have hal:a.args.length<2^38:=by
    have:=AS a.args
    have:=AO a
    omega
   have hres:=Ol (r:=r) (F:=rest r) a.args b.args (by omega) hal fun k hk=>by
    have h1:=A4 hk
    have h2:=A4 (l:=b.args) (k:=k) (by omega)
    have:=Bm h1
    have:=Bm h2
    exact CB.r18_residual_s hrl hsz hD n (by omega) _ _ (by omega) (ha.arg h1) (hb.arg h2) (ZK hm hk)
   have hwith:=Rv a (List.zipWith (rest r) a.args b.args) (by rw[List.length_zipWith];omega) fun z hz=>by
    obtain⟨x,hx,y,hy,rfl⟩:=Su hz
    have:=Bm hx
    have:=Bm hy
    have:=hdep x y (by omega)
    omega
   rw[Abz a0 b0]
   rw[a0]at hwith
   refine Aa Ef.ok rfl ?_
   push_cast[a0,b0]
   refine .of hres ?_
   push_cast
   refine .of hwith ?_
   push_cast
   exact A1 (by push_cast[Ef.rs])
  ·obtain⟨q1,q2,q3,q4,q5,q6,q7⟩:=h.left hk
   obtain⟨s1,s2⟩:=hsz k hk
   have hF:∀ v,v∈vrs r k->PF DJ [Aj r,Aq (f v),Aq (g v)] (Pm (rest r (f v) (g v))):=fun v hv=>by
    obtain⟨p1,p2,p3,p4⟩:=hp v hv
    exact CB.r18_residual_s hrl hsz hD n (by omega) _ _ (by omega) p1 p2 p3
   have hst:=AQ (lft r k)
   have hvl:(vrs r k).length<2^38:=by have:=F1 [lft r k];simp only[Ab]at this;unfold vrs;omega
   have hres:=Ol (r:=r) (F:=rest r) ((vrs r k).map f) ((vrs r k).map g) (by simp) (by simpa using hvl) fun j hj=>by
    rw[List.length_map]at hj
    have e:∀ f:Cj,((vrs r k).map f).getD j default=f ((vrs r k).getD j default):=fun f=>by simp[List.getD_eq_getElem?_getD,hj]
    rw[e,e]
    exact hF _ (A4 hj)
   rw[Ik]at hres
   have hd1:∀ z∈(vrs r k).map (fun v=>rest r (f v) (g v)),Ba z<=4001*2^20:=fun z hz=>by
    obtain⟨v,hv,rfl⟩:=List.mem_map.1 hz
    obtain⟨p1,p2,p3,p4⟩:=hp v hv
    exact hdep _ _ (by omega)
   have hkw:IntKind.i64.wrap ((k:Int)+1-1)=k:=by
    rw[Int.add_sub_cancel];exact Bq (by omega) (by omega)
   have h0:((k:Int)+1=0)=False:=by simp;omega
   have h1:(0:Int)<k+1:=by omega
   have hlr:(r.getD k default).left=lft r k:=rfl
   have hrr:(r.getD k default).right=rgt r k:=rfl
   have hv1:=KO (r.getD k default) (by rw[hlr];omega)
   rw[hlr]at hv1
   have hv1:PF FU [JL (r.getD k default)] (Bl (vrs r k)):=hv1
   rw[O2 h hk]
   cases β with
   | true =>
    have hfill:=fO (vrs r k) ((vrs r k).map fun v=>rest r (f v) (g v)) (by omega) (by simp) (4001*2^20) hd1 (by omega) (rgt r k) (by omega) q6 fun v hv=>q7 v hv
    have e:F9 (vrs r k) ((vrs r k).map fun v=>rest r (f v) (g v)) (rgt r k)=pl (fun v=>rest r (f v) (g v)) (rgt r k):=by
     rw[N2]
     exact N7 _ fun v hv=>Sl _ (q7 v hv)
    rw[e]at hfill
    rw[if_pos rfl]
    have eb:fm r k true g=ru r k g:=rfl
    have hlt:(k:Int)<r.length:=by omega
    refine Aa Ef.ok rfl ?_
    cases α with
    | true =>
     have ea:fm r k true f=ru r k f:=rfl
     push_cast[ea,eb,DO,CM,h0,h1,hkw]
     refine⟨hlt,.of hv1 ?_⟩
     push_cast[CM]
     refine .of hres ?_
     push_cast[hrr]
     refine .of hfill ?_
     push_cast
     exact A1 (by push_cast[Ef.rs])
    | false =>
     have ea:fm r k false f=pl f (lft r k):=rfl
     have hr0:(pl f (lft r k)).rule=0:=Jt q1
     have hmat:PF EO [JL (r.getD k default),Aq (pl f (lft r k))] (.tup [Cu ((vrs r k).map f),.bool true]):=Pb (x:=r.getD k default) q2 s1 f
     push_cast[ea,eb,DO,CM,h0,h1,hkw,hr0]
     refine⟨hlt,.of hmat ?_⟩
     push_cast
     refine .of hv1 ?_
     push_cast[CM]
     refine .of hres ?_
     push_cast[hrr]
     refine .of hfill ?_
     push_cast
     exact A1 (by push_cast[Ef.rs])
   | false =>
    have hα:α=true:=by simpa using hαβ
    subst hα
    rw[if_neg (by simp)]
    have ea:fm r k true f=ru r k f:=rfl
    have eb:fm r k false g=pl g (lft r k):=rfl
    have hr0:(pl g (lft r k)).rule=0:=Jt q1
    have hlt:(k:Int)<r.length:=by omega
    have hmat:PF EO [JL (r.getD k default),Aq (pl g (lft r k))] (.tup [Cu ((vrs r k).map g),.bool true]):=Pb (x:=r.getD k default) q2 s1 g
    have hwith:=Rv (ru r k f) ((vrs r k).map fun v=>rest r (f v) (g v)) (by simp;omega) fun z hz=>by have:=hd1 z hz;omega
    have hwith:PF J8 [Aq (ru r k f),UV ((vrs r k).map fun v=>rest r (f v) (g v))] (Pm (fm r k true fun v=>rest r (f v) (g v))):=hwith
    have h00:¬ (0:Int)<0:=by omega
    refine Aa Ef.ok rfl ?_
    push_cast[ea,eb,DO,CM,h0,h1,hkw,hr0]
    refine⟨hlt,.of hmat ?_⟩
    push_cast[CM]
    refine .of hres ?_
    push_cast
    refine .of hwith ?_
    push_cast
    exact A1 (by push_cast[Ef.rs])
end
end Go.Dw
end
section
namespace Go.Dw
theorem cz (m:A0):PF PC [Pm m] (.bool (LK m)):=by
 have hc:(((cap (Ar m):Nat):Int)<=4000)=(Ar m<=4000):=propext (by unfold cap;split <;> constructor <;> intro h <;> omega)
 have hd:(((Ba m:Nat):Int)<=200)=(Ba m<=200):=propext (by omega)
 refine Aa Qj.ok rfl ?_
 unfold LK
 by_cases h:Ar m<=4000
 ·push_cast[hc,hd,h]
  exact A1 (by push_cast[Qj.rs])
 ·push_cast[hc,hd,h]
  exact A1 (by push_cast[Qj.rs])
theorem ZL {r:List A2}{a b:A0}(h:PF DJ [Aj r,Aq a,Aq b] (Pm (rest r a b))) :
  PF NA [Aj r,Aq a,Aq b] (.tup [Aq (if LK (rest r a b) then rest r a b else zM),.bool (LK (rest r a b))]):=by
 have hs:=cz (rest r a b)
 refine Aa No.ok rfl ?_
 push_cast
 refine .of h ?_
 push_cast
 refine .of hs ?_
 cases hf:LK (rest r a b)with
 | true =>
  push_cast
  exact A1 (by push_cast[No.rs])
 | false =>
  push_cast
  exact A1 (by push_cast[No.rs];rfl)
section
variable {r:List A2} (h:CB r)
include h
theorem CB.uni_comm:∀ (n:Nat)(a b:A0),Ar a+Ar b<=n->OkM r a->OkM r b->Ae r A2.left b=Ae r A2.left a->uni r a b=uni r b a
 | 0,a,b,hn,_,_,_=>by have:=CC a;omega
 | n+1,a,b,hn,ha,hb,hs=>by
  rcases h.shapes ha hb hs with ⟨a0,b0,hbe,hm⟩ | ⟨k,α,β,f,g,hk,rfl,rfl,hαβ,hp⟩
  ·have hl:b.args.length=a.args.length:=by have:=congrArg List.length hm;simpa using this
   have e1:uni r a b=.mk 0 a.name a.var (List.zipWith (uni r) a.args b.args):=by
    rw[Pu,if_neg (by omega),if_neg (by omega)]
   have e2:uni r b a=.mk 0 b.name b.var (List.zipWith (uni r) b.args a.args):=by
    rw[Pu,if_neg (by omega),if_neg (by omega)]
   have en:b.name=a.name:=by have:=congrArg A0.name hbe;exact this
   have ev:b.var=a.var:=by have:=congrArg A0.var hbe;exact this
   have e4:List.zipWith (uni r) b.args a.args=List.zipWith (fun x y=>uni r y x) a.args b.args:=List.zipWith_comm ..
   have e3:=jN (F:=uni r) (G:=fun x y=>uni r y x) hl fun k hk=>by
    have h1:=A4 hk
    have h2:=A4 (l:=b.args) (k:=k) (by omega)
    have:=Bm h1
    have:=Bm h2
    exact CB.uni_comm n (a.args.getD k default) (b.args.getD k default) (by omega) (ha.arg h1) (hb.arg h2) (ZK hm hk)
   rw[e1,e2,en,ev,e4,e3]
  ·have hi:∀ v∈vrs r k,uni r (f v) (g v)=uni r (g v) (f v):=fun v hv=>by
    obtain⟨p1,p2,p3,p4⟩:=hp v hv
    exact CB.uni_comm n (f v) (g v) (by omega) p1 p2 p3
   rw[WT h hk,WT h hk,Bool.or_comm]
   exact pk hi
end
abbrev unG (a b:A0)(l:List A0):List Ob :=
 [.cells A7 (cM a),.cells A7 (cM b),.cells A7 [.int .i64 0,.str [],.bool false,.sl 4 []],.cells A7 [.int .i64 a.rule,.str a.name,.bool a.var,Bc cM 4 4 l],.arr A7 4 l.length]
theorem Wi {r:List A2}{F:A0->A0->A0}(a b:A0)(B:List A0)(hla:a.args.length<=B.length)(hl:a.args.length<2^38)
  (h:∀ k,k<a.args.length->PF EQ [Aj r,Aq (a.args.getD k default),Aq (B.getD k default)] (Aq (F (a.args.getD k default) (B.getD k default)))) :
  DX.L3 (Aj r) (.ptr 0 0) (.ptr 2 0) (Cu B) (.ptr 3 0) (.int .i64 a.args.length) (.int .i64 0) 0 (unG a b []) (Bv 0 DX.rs fun x' H'=>x'=Aq (.mk a.rule a.name a.var (List.zipWith F a.args B))/\H'=[]):=by
 have hZl:(List.zipWith F a.args B).length=a.args.length:=by rw[List.length_zipWith];omega
 refine Ac (n:=a.args.length) (R:=fun k=>DX.L3 (Aj r) (.ptr 0 0) (.ptr 2 0) (Cu B) (.ptr 3 0) (.int .i64 a.args.length) (.int .i64 k) 0 (unG a b ((List.zipWith F a.args B).take k)) (Bv 0 DX.rs fun x' H'=>x'=Aq (.mk a.rule a.name a.var (List.zipWith F a.args B))/\H'=[])) ?_ ?_ 0 (by omega)
 ·intro k hk ih
  have hkb:k<B.length:=by omega
  have hcall:=h k hk
  have hge:(List.zipWith F a.args B).getD k default=F (a.args.getD k default) (B.getD k default):=by
   have e1:(List.zipWith F a.args B)[k]?=some (F (a.args.getD k default) (B.getD k default)):=by
    have ea:a.args[k]?=some (a.args.getD k default):=by simp[List.getD_eq_getElem?_getD,hk]
    have eb:B[k]?=some (B.getD k default):=by simp[List.getD_eq_getElem?_getD,hkb]
    rw[List.getElem?_zipWith,ea,eb]
   rw[List.getD_eq_getElem?_getD,e1];rfl
  have hlen:((List.zipWith F a.args B).take k).length=k:=by simp;omega
  rw[A9 (show k<(List.zipWith F a.args B).length by omega),hge]at ih
  simp only[unG,List.length_append,List.length_singleton,hlen]at ih ⊢
  refine A8.2 ?_
  push_cast[ilt hk,ilt hkb]
  refine .of hcall ?_
  push_cast[hlen,w64 (show k<2^62 by omega)]
  push_cast at ih
  first | exact⟨by unfold Ag;omega,ih⟩ | (trace_state;sorry)
 ·have e:(List.zipWith F a.args B).take a.args.length=List.zipWith F a.args B:=List.take_of_length_le (by omega)
  rw[e]
  refine A8.2 ?_
  push_cast[B6 (Nat.le_refl _)]
  refine A1 ?_
  push_cast[DX.rs,rY]
  try rfl
end Go.Dw
end
section
namespace Go.Dw
section
variable {r:List A2} (h:CB r)
include h
theorem CB.r18_union_s (hrl:r.length<=64)(hsz:∀ k,k<r.length->tb (lft r k)<2^38):∀ (n:Nat),n<=2^20->∀ (a b:A0),Ar a+Ar b<=n->OkM r a->OkM r b->Ae r A2.left b=Ae r A2.left a ->
  PF EQ [Aj r,Aq a,Aq b] (Aq (uni r a b))
 | 0,_,a,b,hn,_,_,_=>by have:=CC a;omega
 | n+1,hn2,a,b,hn,ha,hb,hs=>by
  rcases h.shapes ha hb hs with ⟨a0,b0,hbe,hm⟩ | ⟨k,α,β,f,g,hk,rfl,rfl,hαβ,hp⟩
  ·have hl:b.args.length=a.args.length:=by have:=congrArg List.length hm;simpa using this
   have hal:a.args.length<2^38:=by
    have:=AS a.args
    have:=AO a
    omega
   have hloop:=Wi (r:=r) (F:=uni r) a b b.args (by omega) hal fun k hk=>by
    have h1:=A4 hk
    have h2:=A4 (l:=b.args) (k:=k) (by omega)
    have:=Bm h1
    have:=Bm h2
    exact CB.r18_union_s hrl hsz n (by omega) _ _ (by omega) (ha.arg h1) (hb.arg h2) (ZK hm hk)
   have e:uni r a b=.mk a.rule a.name a.var (List.zipWith (uni r) a.args b.args):=by
    rw[Pu,if_neg (by omega),if_neg (by omega),a0]
   rw[e]
   refine Aa DX.ok rfl ?_
   generalize (Bv 0 DX.rs fun x' H'=>x'=Aq (A0.mk a.rule a.name a.var (List.zipWith (uni r) a.args b.args))/\H'=[])=Q at *
   simp only[unG,a0]at hloop
   push_cast[a0,b0]
   exact hloop
  ·obtain⟨q1,q2,q3,q4,q5,q6,q7⟩:=h.left hk
   have s1:=hsz k hk
   have hst:=AQ (lft r k)
   have hvl:(vrs r k).length<2^38:=by have:=F1 [lft r k];simp only[Ab]at this;unfold vrs;omega
   have hget:∀ (f:Cj)(j:Nat),j<(vrs r k).length->((vrs r k).map f).getD j default=f ((vrs r k).getD j default):=fun f j hj=>by simp[List.getD_eq_getElem?_getD,hj]
   have hkw:IntKind.i64.wrap ((k:Int)+1-1)=k:=by
    rw[Int.add_sub_cancel];exact Bq (by omega) (by omega)
   have h0:((k:Int)+1=0)=False:=by simp;omega
   have h1:(0:Int)<k+1:=by omega
   have hlt:(k:Int)<r.length:=by omega
   have hloop:∀ (f g:Cj)(b:A0),(∀ v∈vrs r k,PF EQ [Aj r,Aq (f v),Aq (g v)] (Aq (uni r (f v) (g v)))) ->
     DX.L3 (Aj r) (.ptr 0 0) (.ptr 2 0) (Cu ((vrs r k).map g)) (.ptr 3 0) (.int .i64 ((vrs r k).length:Nat)) (.int .i64 0) 0 (unG (ru r k f) b []) (Bv 0 DX.rs fun x' H'=>x'=Aq (ru r k fun v=>uni r (f v) (g v))/\H'=[]):=fun f g b hF=>by
    have e:=Wi (r:=r) (F:=uni r) (ru r k f) b ((vrs r k).map g) (by rw[CM];simp) (by rw[CM];simpa using hvl) fun j hj=>by
     rw[CM,List.length_map]at hj
     rw[CM,hget _ _ hj,hget _ _ hj]
     exact hF _ (A4 hj)
    rw[CM,List.length_map,Ik]at e
    exact e
   have hF:∀ v,v∈vrs r k->PF EQ [Aj r,Aq (f v),Aq (g v)] (Aq (uni r (f v) (g v))):=fun v hv=>by
    obtain⟨p1,p2,p3,p4⟩:=hp v hv
    exact CB.r18_union_s hrl hsz n (by omega) _ _ (by omega) p1 p2 p3
   have hG:∀ v,v∈vrs r k->PF EQ [Aj r,Aq (g v),Aq (f v)] (Aq (uni r (g v) (f v))):=fun v hv=>by
    obtain⟨p1,p2,p3,p4⟩:=hp v hv
    exact CB.r18_union_s hrl hsz n (by omega) _ _ (by omega) p2 p1 p3.symm
   have hcm:∀ v∈vrs r k,uni r (g v) (f v)=uni r (f v) (g v):=fun v hv=>by
    obtain⟨p1,p2,p3,p4⟩:=hp v hv
    exact (h.uni_comm _ _ _ (Nat.le_refl _) p1 p2 p3).symm
   rw[WT h hk]
   have ea:∀ f,fm r k true f=ru r k f:=fun _=>rfl
   have eb:∀ f,fm r k false f=pl f (lft r k):=fun _=>rfl
   have hr0:∀ f,(pl f (lft r k)).rule=0:=fun f=>Jt q1
   have hmat:∀ f,PF EO [JL (r.getD k default),Aq (pl f (lft r k))] (.tup [Cu ((vrs r k).map f),.bool true]):=fun f=>Pb (x:=r.getD k default) q2 s1 f
   have n1:∀ f,(ru r k f).name=[]:=fun _=>rfl
   have n2:∀ f,(ru r k f).var=false:=fun _=>rfl
   cases α with
   | true =>
    have e:=hloop f g (fm r k β g) hF
    simp only[unG,DO,n1,n2]at e
    refine Aa DX.ok rfl ?_
    cases β with
    | true =>
     push_cast[ea,eb,DO,CM,h0,h1,hkw,n1,n2,List.length_map]
     exact e
    | false =>
     push_cast[ea,eb,DO,CM,h0,h1,hkw,hr0]
     refine⟨hlt,.of (hmat g) ?_⟩
     push_cast[DO,CM,n1,n2,List.length_map]
     exact e
   | false =>
    have hβ:β=true:=by simpa using hαβ
    subst hβ
    have e:=hloop g f (pl f (lft r k)) hG
    rw[cE hcm]at e
    simp only[unG,DO,n1,n2]at e
    refine Aa DX.ok rfl ?_
    push_cast[ea,eb,DO,CM,h0,h1,hkw,hr0]
    refine⟨hlt,.of (hmat f) ?_⟩
    push_cast[DO,CM,n1,n2,List.length_map]
    exact e
end
theorem YI {r:List A2}{a b:A0}(h:FA r a b=0):(∀ k,k<r.length->tb (lft r k)<2^38/\size (rgt r k)<2^38)/\(∀ m:A0,depth (At r m).right+1<=4001)/\Ar a+Ar b<=2^20:=by
 obtain⟨h1,h2,h3,h4⟩:=eQ h
 obtain⟨a1,a2,a3,a4,a5⟩:=Li h2
 obtain⟨b1,b2,b3,b4,b5⟩:=Li h3
 have hg:=HJ (di h1).2
 refine⟨fun k hk=>?_,fun m=>?_,?_⟩
 ·have hx:=hg.1 _ (A4 hk)
  have:=hx.l.tb
  have:=hx.r.sz
  exact⟨by unfold lft;omega,by unfold rgt;omega⟩
 ·unfold At
  by_cases hi:(m.rule-1).toNat<r.length
  ·have hx:=hg.1 _ (A4 (l:=r) hi)
   have:=hx.r.sz
   have:=GB (r.getD (m.rule-1).toNat default).right
   omega
  ·rw[List.getD_eq_getElem?_getD,List.getElem?_eq_none (by omega)]
   decide
 ·have:=(Fs a1).2.2.1
  have:=(Fs b1).2.2.1
  omega
theorem Xf {r:List A2}{a b:A0}(hr:rbs r<2^28)(ha:mb a<2^28)(hb:mb b<2^28):PF KS [Aj r,Aq a,Aq b] (.tup [Aq (Pc r a b).1,.int .i64 (Pc r a b).2]):=by
 have h0:=OE hr ha hb
 unfold Pc
 refine Aa Io.ok rfl ?_
 push_cast
 refine .of h0 ?_
 by_cases hp:FA r a b=0
 ·obtain⟨g1,g2,g3,g4,g5,g6,g7,g8,g9⟩:=Qo hp
  obtain⟨m1,m2,m3⟩:=YI hp
  have h1:=ZL (g1.r18_residual_s g8 m1 m2 _ m3 a b (Nat.le_refl _) g2 g3 g4)
  rw[if_neg (by simp[hp])]
  push_cast[hp]
  refine .of h1 ?_
  cases hf:LK (rest r a b)with
  | true =>
   push_cast
   exact A1 (by push_cast[Io.rs])
  | false =>
   push_cast
   exact A1 (by push_cast[Io.rs];rfl)
 ·rw[if_pos hp]
  push_cast[hp]
  exact A1 (by push_cast[Io.rs];rfl)
theorem eF {r:List A2}{a b:A0}(hr:rbs r<2^28)(ha:mb a<2^28)(hb:mb b<2^28):PF P1 [Aj r,Aq a,Aq b] (.tup [Aq (U0 r a b).1,.int .i64 (U0 r a b).2]):=by
 have h0:=OE hr ha hb
 unfold U0
 refine Aa N8.ok rfl ?_
 push_cast
 refine .of h0 ?_
 by_cases hp:FA r a b=0
 ·obtain⟨g1,g2,g3,g4,g5,g6,g7,g8,g9⟩:=Qo hp
  obtain⟨m1,m2,m3⟩:=YI hp
  have h1:=g1.r18_union_s g8 (fun k hk=>(m1 k hk).1) _ m3 a b (Nat.le_refl _) g2 g3 g4
  have hk:=g1.uni_ok _ a b (Nat.le_refl _) g2 g3 g4
  have h2:=Ut (uni r a b) (by
   have:=g1.size_le _ _ (Nat.le_refl _) hk.1
   rw[hk.2]at this
   have:=Z1 g5
   omega)
  rw[if_neg (by simp[hp])]
  push_cast[hp]
  refine .of h1 ?_
  push_cast
  refine .of h2 ?_
  cases hf:LK (uni r a b)with
  | true =>
   push_cast
   exact A1 (by push_cast[N8.rs])
  | false =>
   push_cast
   exact A1 (by push_cast[N8.rs];rfl)
 ·rw[if_pos hp]
  push_cast[hp]
  exact A1 (by push_cast[N8.rs];rfl)
end Go.Dw
end
section
namespace Go.Dw
theorem iw {a b:Term}(ha:a.var=false)(hb:b.var=false)(hn:a.name≠b.name):Ew a b=([],false,0):=by
 have h:AE (AX 1) [] [a] [b]=some ([],false):=by
  simp only[AE,AX,DE,ha,hb,Bool.false_eq_true,if_false]
  rw[if_pos (.inl hn)]
 unfold Ew JG
 rw[MO h,if_pos rfl]
theorem Up {a b:A2}{pos:List Int}{sub:Term}(h1:sub.var=false)(h2:b.left.var=false)(h3:sub.name≠b.left.name):DF a b pos sub=(false,0):=by
 unfold DF;rw[iw h1 h2 h3,if_pos rfl]
theorem bZ {r:List A2}{i j:Nat}{a:A2}{pos:List Int}{sub:Term}(h:DF a (Cc [121] (r.getD j default)) pos sub=(false,0)):K4 r i a pos sub [] j=([],0):=by
 unfold K4
 split
 ·rfl
 ·rw[h];rfl
theorem XG {r:List A2}{i:Nat}{a:A2}{sub:Term}:K4 r i a [] sub [] i=([],0):=by
 unfold K4
 rw[if_pos ⟨rfl,rfl⟩]
def vX8:Term:=.mk [120] true []
def tA8:Term:=.mk [97] false []
def tB8:Term:=.mk [98] false []
def DP:List A2:=[⟨.mk [102] false [vX8],.mk [103] false [vX8,vX8]⟩,⟨tA8,tB8⟩]
def mA8:A0:=.mk 0 [97] false []
def mB8:A0:=.mk 2 [] false []
def exA:A0:=.mk 1 [] false [mA8]
def exB:A0:=.mk 0 [102] false [mB8]
theorem xn (pre:Str):∃ w,(Cc pre (DP.getD 0 default)).left=.mk [102] false [.mk w true []]:=⟨_,rfl⟩
theorem od (pre:Str):(Cc pre (DP.getD 1 default)).left=.mk [97] false []:=rfl
theorem Xk:List.range DP.length=[0,1]:=rfl
theorem yj:LB DP [] 0=([],0):=by
 unfold LB
 obtain⟨w,hw⟩:=xn [120]
 rw[hw]
 have hv:Ap (.mk [102] false [.mk w true []]) []=[([],.mk [102] false [.mk w true []]),([0],.mk w true [])]:=rfl
 rw[hv]
 have h1:K6 DP 0 (Cc [120] (DP.getD 0 default)) [] ([],.mk [102] false [.mk w true []])=([],0):=by
  unfold K6
  rw[if_neg (by simp[Term.var]),Xk]
  have e:K4 DP 0 (Cc [120] (DP.getD 0 default)) [] (.mk [102] false [.mk w true []]) [] 1=([],0):=bZ (Up rfl (by rw[od];rfl) (by rw[od];show ([102]:Str)≠[97];decide))
  rw[Bu XG,Bu e];rfl
 have h2:K6 DP 0 (Cc [120] (DP.getD 0 default)) [] ([0],.mk w true [])=([],0):=by
  unfold K6
  exact if_pos rfl
 rw[Bu h1,Bu h2];rfl
theorem xx:LB DP [] 1=([],0):=by
 unfold LB
 rw[od]
 have hv:Ap (.mk [97] false []) []=[([],.mk [97] false [])]:=rfl
 rw[hv]
 have h1:K6 DP 1 (Cc [120] (DP.getD 1 default)) [] ([],.mk [97] false [])=([],0):=by
  unfold K6
  rw[if_neg (by simp[Term.var]),Xk]
  obtain⟨w,hw⟩:=xn [121]
  have e:K4 DP 1 (Cc [120] (DP.getD 1 default)) [] (.mk [97] false []) [] 0=([],0):=bZ (Up rfl (by rw[hw];rfl) (by rw[hw];show ([97]:Str)≠[102];decide))
  rw[Bu e,Bu XG];rfl
 rw[Bu h1];rfl
theorem xP:Nr DP=([],0):=by
 unfold Nr
 rw[Xk,Bu yj,Bu xx];rfl
theorem zU:Al DP=0:=by decide +kernel
theorem cf:ED DP=(true,0):=by
 unfold ED
 rw[if_neg (by rw[zU];simp),xP,if_neg (by simp)]
 have:(DP.all fun x=>OW x.left)=true:=by decide +kernel
 rw[this];rfl
theorem dC:J1 DP=0:=by
 unfold J1
 rw[cf];rfl
theorem iL:CB DP:=du cf
theorem oI:vrs DP 0=[[120]]:=by
 unfold vrs lft Az
 have:HA [] [(DP.getD 0 default).left]=[[120]]:=by decide
 rw[this]
 unfold Proofs.sortS
 exact List.mergeSort_of_pairwise (by decide)
theorem qT:vrs DP 1=[]:=by
 unfold vrs lft Az
 have:HA [] [(DP.getD 1 default).left]=[]:=by decide
 rw[this]
 unfold Proofs.sortS
 exact List.mergeSort_of_pairwise (by decide)
theorem pj:exA=fm DP 0 true fun _=>mA8:=by
 show exA=ru DP 0 _
 unfold ru;rw[oI];rfl
theorem pe:exB=fm DP 0 false fun _=>mB8:=rfl
theorem xh:mA8=fm DP 1 false fun _=>zM:=rfl
theorem xu:mB8=fm DP 1 true fun _=>zM:=by
 show mB8=ru DP 1 _
 unfold ru;rw[qT];rfl
theorem uj:rest DP mA8 mB8=.mk 0 [98] false []:=by
 rw[xh,xu,O2 iL (by decide),if_pos rfl];rfl
theorem uq:rest DP mB8 mA8=mB8:=by
 conv=>lhs;rw[xh,xu,O2 iL (by decide),if_neg (by simp)]
 show ru DP 1 _=_
 unfold ru;rw[qT];rfl
theorem xB:rest DP exA exB=.mk 1 [] false [.mk 0 [98] false []]:=by
 rw[pj,pe,O2 iL (by decide),if_neg (by simp)]
 show ru DP 0 _=_
 unfold ru;rw[oI,List.map_singleton,uj];rfl
theorem yw:rest DP exB exA=.mk 0 [103] false [mB8,mB8]:=by
 rw[pj,pe,O2 iL (by decide),if_pos rfl,uq];rfl
theorem Yz:FR DP exA=0/\FR DP exB=0/\Lx DP exA=Lx DP exB:=by decide +kernel
theorem Aa8:Pc DP exA exB=(.mk 1 [] false [.mk 0 [98] false []],0):=by
 unfold Pc FA
 rw[dC,Yz.1,Yz.2.1,Yz.2.2,if_neg (by simp),xB];rfl
theorem Aa7:Pc DP exB exA=(.mk 0 [103] false [mB8,mB8],0):=by
 unfold Pc FA
 rw[dC,Yz.1,Yz.2.1,Yz.2.2,if_neg (by simp),yw];rfl
theorem Ta:PF Kt [] (Aj DP):=by
 refine Aa Rm.ok rfl ?_
 push_cast
 exact A1 (by push_cast[Rm.rs];rfl)
theorem sU:PF PS [] (.bool true):=by
 have h1:=Gy (r:=DP) (a:=exA) (b:=exB) (by decide) (by decide) (by decide)
 have h2:=Gy (r:=DP) (a:=exB) (b:=exA) (by decide) (by decide) (by decide)
 rw[gQ,Aa8]at h1
 rw[gQ,Aa7]at h2
 refine Aa TA.ok rfl ?_
 push_cast
 refine .of Ta ?_
 push_cast
 refine .of h1 ?_
 push_cast
 refine .of Ta ?_
 push_cast
 refine .of h2 ?_
 push_cast
 refine .of (Jj _ (by decide)) ?_
 push_cast
 refine .of (Jj _ (by decide)) ?_
 push_cast
 exact A1 (by push_cast[TA.rs])
end Go.Dw
end
section
namespace Go.Dw
theorem tq (r:List A2)(a b:A0):Ar (Pc r a b).1<2^40:=by
 by_cases h:(Pc r a b).2=0
 ·have:=(ju (kh h).2.1).1
  rw[(kh h).2.2];omega
 ·have:(Pc r a b).1=zM:=by
   unfold Pc at h ⊢
   split
   ·rfl
   ·split
    ·rename_i h1 h2;rw[if_neg h1,if_pos h2]at h;exact absurd rfl h
    ·rfl
  rw[this];decide
theorem sR (r:List A2)(a b:A0):Ar (U0 r a b).1<2^40:=by
 by_cases h:(U0 r a b).2=0
 ·have:=(ju (jf h).2.1).1
  rw[(jf h).2.2];omega
 ·have:(U0 r a b).1=zM:=by
   unfold U0 at h ⊢
   split
   ·rfl
   ·split
    ·rename_i h1 h2;rw[if_neg h1,if_pos h2]at h;exact absurd rfl h
    ·rfl
  rw[this];decide
theorem T4 {r:List A2}{a b:A0}(hr:rbs r<2^28)(ha:mb a<2^28)(hb:mb b<2^28) :
  ec prog II [Aj r,Aq a,Aq b] [] (fun x' H'=>x'=.bool true/\H'=[]):=by
 have h1:=Gy (r:=r) (a:=a) (b:=b) (by omega) (by omega) (by omega)
 have h2:=Tp (r:=r) (a:=a) (b:=b) (by omega) (by omega) (by omega)
 rw[gQ]at h1
 rw[yU]at h2
 have h3:=Xf (r:=r) (a:=a) (b:=b) hr ha hb
 have h4:=eF (r:=r) (a:=a) (b:=b) hr ha hb
 refine NP mixed Gz.ok rfl ?_
 push_cast
 refine .of h1 ?_
 push_cast
 refine .of h2 ?_
 push_cast
 refine .of h3 ?_
 push_cast
 refine .of h4 ?_
 push_cast
 refine .of (Jj _ (tq r a b)) ?_
 push_cast
 refine .of (Jj _ (sR r a b)) ?_
 push_cast
 refine .of sU ?_
 push_cast
 exact A1 (by push_cast[Gz.rs])
end Go.Dw
end
