/-
  Contracts and lemmas for ResidualFull: part g of 11.
-/
import Derived.Test.YtkdcfkfdkimaeaaGreatDoorFaf
import Derived.Test.YtkdcfkfdkimaeaaGreatDoorFae
import Derived.Test.YtkdcfkfdkimaeaaGreatDoorFad
import Derived.Lib.LaidTab
import Derived.Stop.LaidErr
import Derived.Shelf.Strconv.Itoa4
import Derived.Test.YtkdcfkfdkimaeaaGreatDoorRows
import Derived.Ground.NamesProg
set_option linter.unusedVariables false
set_option linter.unusedSimpArgs false
set_option maxRecDepth 100000
namespace Go.Dw
theorem wy (m:A1)(v:V):put 3 [v] (cM m)=[.int .i64 m.rule,.str m.name,.bool m.var,v]:=by rw[gp];rfl
attribute [push_cast] wy
theorem ST (m:A1)(hs:AV m<2^40):PF Is [Be m] (.int .i64 (F9 m)):=by
 induction m using Ek with
 | h m ih =>
 refine Ad Js.ok rfl ?_
 have hst:=Bj m
 have hl:=Ca m.args
 rw[jg]
 push_cast
 refine Ae (n:=m.args.length) (R:=fun k=>∀ v:Nat,HC v (m.args.drop k)=HC 1 m.args->v<=1+Bm (m.args.take k)->Js.L3 (.int .i64 v) (Fk m.args) (.int .i64 m.args.length) (.int .i64 k) 0 [] (BH 0 Js.rs fun x' H'=>x'=.int .i64 (HC 1 m.args)/\H'=[])) ?_ ?_ 0 (Nat.zero_le _) 1 (by simp) (by omega)
 ·intro k hk ih2 v hv hb
  have h1:=UH _ _ hk
  have h2:=Xy m.args (k+1)
  have hm:=A4 hk
  have hsp:=XC (m.args.getD k default)
  have hih:=ih _ hm (by omega)
  rw[Ag hk]at hv
  simp only[HC]at hv
  generalize hx:m.args.getD k default=a at hm hv h1 hsp hih
  refine A7.2 ?_
  push_cast[BB hk,hx]
  refine .of hih ?_
  have hw:IntKind.i64.wrap ((v:Int)+(F9 a:Int))=((v+F9 a:Nat):Int):=by rw[Cr (by omega) (by omega)];omega
  by_cases hc:4000<v+F9 a
  ·rw[if_pos hc]at hv
   have hci:((4000:Int)<((v+F9 a:Nat):Int))=True:=eq_true (by omega)
   rw[hv]at hw hci
   generalize HC 1 m.args=w at hw hci
   push_cast[hw,hci]
   exact A0 (by push_cast[Js.rs])
  ·rw[if_neg hc]at hv
   have hci:((4000:Int)<((v+F9 a:Nat):Int))=False:=eq_false (by omega)
   have:=ih2 (v+F9 a) hv (by omega)
   generalize v+F9 a=w at hw hci this
   push_cast[hw,hci,Co (show k<2^62 by omega)]
   exact this
 ·intro v hv hb
  rw[Ar]at hv
  refine A7.2 ?_
  push_cast[AZ (Nat.le_refl _)]
  refine A0 ?_
  push_cast[Js.rs,<-hv]
  rfl
theorem Rv (m:A1)(hs:AV m<2^40):PF Hk [Be m] (.int .i64 (E2 m)):=by
 induction m using Ek with
 | h m ih =>
 refine Ad Mx.ok rfl ?_
 have hst:=Bj m
 have hl:=Ca m.args
 have hd:=T0 m.args
 push_cast
 refine Ae (n:=m.args.length) (R:=fun k=>Mx.L3 (.int .i64 (CF (m.args.take k):Nat)) (Fk m.args) (.int .i64 m.args.length) (.int .i64 k) 0 [] _) ?_ ?_ 0 (by omega)
 ·intro k hk ih2
  have h1:=SL _ _ hk
  have hm:=A4 hk
  have:=DU hm
  refine A7.2 ?_
  push_cast[BB hk]
  refine .of (ih _ hm (by omega)) ?_
  push_cast[Co (show k<2^62 by omega)]
  rw[h1]at ih2
  exact ih2
 ·refine A7.2 ?_
  push_cast[AZ (Nat.le_refl _),List.take_length]
  rw[Cr (by omega) (by omega)]
  refine A0 ?_
  push_cast[Mx.rs,List.take_length,Vi m]
theorem gR (m:A1)(hs:AV m<2^40):PF Mn [Be m] (Be m):=by
 induction m using Ek with
 | h m ih =>
 refine Ad R4.ok rfl ?_
 have hst:=Bj m
 have hl:=Ca m.args
 push_cast
 refine Ae (n:=m.args.length) (R:=fun k=>R4.L3 (.ptr 0 0) (.ptr 1 0) (Fk m.args) (.int .i64 m.args.length) (.int .i64 k) 0
  [.cells A8 [.int .i64 m.rule,.str m.name,.bool m.var,B8 cM 2 4 (m.args.take k)],.cells A8 [.int .i64 0,.str [],.bool false,.sl 4 []],.arr A8 4 k] _) ?_ ?_ 0 (by omega)
 ·intro k hk ih2
  have hm:=A4 hk
  have:=DU hm
  have hlt:(m.args.take k).length=k:=by simp;omega
  rw[Aa hk]at ih2
  refine A7.2 ?_
  push_cast[BB hk]
  refine .of (ih _ hm (by omega)) ?_
  push_cast[hlt,Co (show k<2^62 by omega)]
  refine⟨by unfold Ai;omega,?_⟩
  exact ih2
 ·refine A7.2 ?_
  push_cast[AZ (Nat.le_refl _)]
  refine A0 ?_
  push_cast[R4.rs,List.take_length,ZC]
  rw[A1.eta]
def zM:A1:=.mk 0 [] false []
def J1 (r:Option A1)(e:Int):V:=match r with
 | some m=>.tup [Be m,.int .i64 e]
 | none=>.tup [Be zM,.int .i64 e]
def iL (m:A1):Bool:=decide (AV m<=4000)&&decide (E2 m<=200)
def ir (m:A1):V:=if iL m then J1 (some m) 0 else J1 none 3
theorem qg:V.agg [.int .i64 0,.str [],.bool false,.sl 4 []]=Be zM:=rfl
theorem V0 (m:A1)(hs:AV m<2^40):PF Mi [Be m] (ir m):=by
 have hsz:=eo m
 refine Ad NB.ok rfl ?_
 push_cast
 refine .of (ST m hs) ?_
 unfold ir iL
 by_cases h1:4000<F9 m
 ·have hi:((4000:Int)<(F9 m:Int))=True:=eq_true (by omega)
  have h1':¬ AV m<=4000:=by omega
  push_cast[hi,h1']
  exact A0 (by push_cast[NB.rs,qg];rfl)
 ·have hi:((4000:Int)<(F9 m:Int))=False:=eq_false (by omega)
  have h1':AV m<=4000:=by omega
  push_cast[hi]
  refine .of (Rv m hs) ?_
  by_cases h2:200<E2 m
  ·have hj:((200:Int)<(E2 m:Int))=True:=eq_true (by omega)
   have h2':¬ E2 m<=200:=by omega
   push_cast[hj,h2']
   exact A0 (by push_cast[NB.rs,qg];rfl)
  ·have hj:((200:Int)<(E2 m:Int))=False:=eq_false (by omega)
   have h2':E2 m<=200:=by omega
   push_cast[hj]
   refine .of (gR m hs) ?_
   push_cast
   exact A0 (by push_cast[NB.rs];simp[h1',h2'];rfl)
theorem VC {p q:A1->Bool}{g:Nat}{caps:List V}{B:Nat}(hc:∀ σ,AN σ caps=caps)(h:∀ a,q a=true->mb a<=B->PF g (Be a::caps) (.bool (p a)))(hB:B<2^40)(m:A1)(hq:Pk q m=true)(hm:mb m<=B) :
  PF K5 [Be m,.fn (.func g) [] caps] (.bool (Pk p m)):=by
 induction m using Ek with
 | h m ih =>
 have hmb:=Wj m
 have hsz:=My m
 have hst:=Bj m
 have hl:=Ca m.args
 have hC:=Hg (p:=fun a=>!Pk p a) (g:=MQ) (caps:=[.ro [.fn (.func g) [] caps] 0]) (fun σ=>by push_cast) m.args (by omega) fun a ha=>by
  refine Ad PV.ok rfl ?_
  push_cast[hc]
  refine .of (ih a ha (WR hq ha) (by have:=Acr ha;omega)) ?_
  push_cast
  exact A0 (by push_cast[PV.rs])
 refine Ad QW.ok rfl ?_
 rw[Hu]
 push_cast[hc]
 refine .of (h m (J4 hq) hm) ?_
 cases hp:p m with
 | false =>
  push_cast[hc]
  exact A0 (by push_cast[QW.rs])
 | true =>
  push_cast[hc]
  refine .of hC ?_
  push_cast[hc]
  exact A0 (by push_cast[QW.rs,We])
theorem Y6 (r:List A3)(m:A1)(hr:Mg r<2^38)(hq:EY r.length m=true)(hm:mb m<2^40):PF M9 [As r,Be m] (.bool (Gb r m)):=by
 have hmb:=Wj m
 have hsz:=My m
 have hst:=Bj m
 have hl:=Ca m.args
 have hI:∀ b,PF DR [.str m.name,.bool b] (.bool (CJ m.name b)):=fun b=>Ro _ b (by omega)
 unfold EY at hq
 rw[Bool.and_eq_true,decide_eq_true_eq,decide_eq_true_eq]at hq
 refine Ad DJ.ok rfl ?_
 unfold Gb
 by_cases h1:0<m.rule
 ·have hm1:r.getD (m.rule-1).toNat default∈r:=A4 (by omega)
  have hrm:=Gc hm1
  have hst:=Bc (C8 r m).left
  have hru:r.getD (m.rule-1).toNat default=C8 r m:=rfl
  have hw:IntKind.i64.wrap (m.rule-1)=m.rule-1:=Cr (by have:=By r;omega) (by have:=By r;omega)
  have hc1:((0:Int)<=m.rule-1)=True:=eq_true (by omega)
  have hc2:(m.rule-1<(r.length:Int))=True:=eq_true (by omega)
  rw[hru]at hrm
  have hV:=DS [(C8 r m).left] (by simp[Af];omega)
  rw[if_pos h1]
  by_cases h2:m.name=[]
  ·cases h3:m.var with
   | true =>
    push_cast[eq_true h1,h2,h3]
    exact A0 (by push_cast[DJ.rs])
   | false =>
    push_cast[eq_true h1,h2,h3,hw,hc1,hc2,hru]
    refine .of hV ?_
    push_cast
    exact A0 (by push_cast[DJ.rs];exact decide_eq_decide.2 (by omega))
  ·push_cast[eq_true h1,eq_false h2]
   exact A0 (by push_cast[DJ.rs])
 ·rw[if_neg h1]
  cases hv:m.var with
  | true =>
   rw[if_pos rfl]
   by_cases h0:m.args.length=0
   ·push_cast[eq_false h1,hv,h0]
    refine .of (hI false) ?_
    push_cast
    exact A0 (by push_cast[DJ.rs])
   ·have hi:((m.args.length:Int)=0)=False:=eq_false (by omega)
    push_cast[eq_false h1,hv,hi]
    exact A0 (by push_cast[DJ.rs,h0])
  | false =>
   rw[if_neg (by simp)]
   by_cases h0:m.args.length<=8
   ·have hi:((m.args.length:Int)<=8)=True:=eq_true (by omega)
    push_cast[eq_false h1,hv,hi]
    refine .of (hI true) ?_
    push_cast
    exact A0 (by push_cast[DJ.rs,h0])
   ·have hi:((m.args.length:Int)<=8)=False:=eq_false (by omega)
    push_cast[eq_false h1,hv,hi]
    exact A0 (by push_cast[DJ.rs,h0])
theorem nM (m:A1):Pk (fun _=>true) m=true:=by
 induction m using Ek with
 | h m ih=>rw[Hu,Bool.true_and,List.all_eq_true];exact ih
theorem oF (r:List A3)(a:A1):PF Kh [Be a,.ro [As r] 0] (.bool (EY r.length a)):=by
 refine Ad JE.ok rfl ?_
 unfold EY
 by_cases h:0<=a.rule
 ·push_cast[eq_true h]
  exact A0 (by push_cast[JE.rs])
 ·push_cast[eq_false h]
  exact A0 (by push_cast[JE.rs])
theorem nN (r:List A3)(a:A1)(hr:Mg r<2^38)(hq:EY r.length a=true)(hm:mb a<2^40):PF Ki [Be a,.ro [As r] 0] (.bool (Gb r a)):=by
 refine Ad MV.ok rfl ?_
 push_cast
 refine .of (Y6 r a hr hq hm) ?_
 push_cast
 exact A0 (by push_cast[MV.rs])
theorem Zc (r:List A3)(m:A1)(hr:Mg r<2^38)(hm:mb m<2^39):PF N7 [As r,Be m] (.int .i64 (LF r m)):=by
 have hsz:=My m
 have hsp:=eo m
 refine Ad Ff.ok rfl ?_
 push_cast
 refine .of (Lt r hr) ?_
 generalize hT:LF r m=T
 unfold LF at hT
 by_cases h1:¬ Ao r=0
 ·rw[if_pos h1]at hT
  subst hT
  push_cast[eq_false h1]
  exact A0 (by push_cast[Ff.rs])
 have h1:Ao r=0:=Classical.not_not.1 h1
 rw[if_neg (by simpa using h1)]at hT
 push_cast[h1]
 refine .of (VC (p:=EY r.length) (q:=fun _=>true) (B:=2^39) (caps:=[.ro [As r] 0]) (fun σ=>by push_cast) (fun a _ _=>oF r a) (by omega) m (nM m) (by omega)) ?_
 cases h2:Pk (EY r.length) m with
 | false =>
  rw[h2,if_pos rfl]at hT
  subst hT
  push_cast
  exact A0 (by push_cast[Ff.rs])
 | true =>
 rw[h2,if_neg (by simp)]at hT
 push_cast
 refine .of (VC (p:=Gb r) (q:=EY r.length) (B:=2^39) (caps:=[.ro [As r] 0]) (fun σ=>by push_cast) (fun a hq hb=>nN r a hr hq (by omega)) (by omega) m h2 (by omega)) ?_
 cases h3:Pk (Gb r) m with
 | false =>
  rw[h3,if_pos rfl]at hT
  subst hT
  push_cast
  exact A0 (by push_cast[Ff.rs])
 | true =>
 rw[h3,if_neg (by simp)]at hT
 push_cast
 refine .of (ST m (by omega)) ?_
 by_cases h4:4000<F9 m
 ·have hi:((4000:Int)<(F9 m:Int))=True:=eq_true (by omega)
  rw[if_pos (by omega)]at hT
  subst hT
  push_cast[hi]
  exact A0 (by push_cast[Ff.rs])
 ·have hi:((4000:Int)<(F9 m:Int))=False:=eq_false (by omega)
  push_cast[hi]
  refine .of (Rv m (by omega)) ?_
  by_cases h5:200<E2 m
  ·have hj:((200:Int)<(E2 m:Int))=True:=eq_true (by omega)
   rw[if_pos (by omega)]at hT
   subst hT
   push_cast[hj]
   exact A0 (by push_cast[Ff.rs])
  ·have hj:((200:Int)<(E2 m:Int))=False:=eq_false (by omega)
   rw[if_neg (by omega)]at hT
   subst hT
   push_cast[hj]
   exact A0 (by push_cast[Ff.rs])
theorem Xc (t:Term)(p:List Int)(hp:p.length<2^62)(ht:size t<2^62):PF Q0 [An t,D0 p] (LU (Bt t p)):=by
 refine Ad Ut.ok rfl ?_
 push_cast
 refine Ae (n:=p.length) (R:=fun k=>∀ u,Bt u (p.drop k)=Bt t p->size u<2^62->Ut.L3 (.ptr 0 0) (.ptr 1 0) (D0 p) (.int .i64 p.length) (.int .i64 k) 0 [.cells A2 (cT u),.cells A2 [.str [],.bool false,.sl 3 []]] _) ?_ ?_ 0 (by omega) t rfl ht
 ·intro k hk ih u hu hsu
  rw[Ag hk]at hu
  simp only[Bt]at hu
  generalize hgi:p.getD k default=i at hu
  have hl:=Ap u.args
  have hst:=Aq u
  refine A7.2 ?_
  by_cases hi:i<0
  ·rw[if_neg (by omega)]at hu
   push_cast[BB hk,hgi,hi]
   refine A0 ?_
   push_cast[Ut.rs,<-hu]
   rfl
  ·by_cases hi2:(u.args.length:Int)<=i
   ·rw[if_neg (by omega)]at hu
    push_cast[BB hk,hgi,hi,hi2]
    refine A0 ?_
    push_cast[Ut.rs,<-hu]
    rfl
   ·rw[if_pos (by omega)]at hu
    push_cast[BB hk,hgi,hi,hi2,Co (show k<2^62 by omega)]
    have hm:u.args.getD i.toNat default∈u.args:=A4 (by omega)
    exact⟨by omega,ih _ hu (by have:=B4 hm;omega)⟩
 ·intro u hu hsu
  rw[Ar]at hu
  refine A7.2 ?_
  push_cast[AZ (Nat.le_refl _)]
  refine A0 ?_
  push_cast[Ut.rs,<-hu]
  rfl
theorem JT (s:List A5)(v:A9)(hl:s.length<2^62):PF Gm [B5 s,.str v] (An ((Ac s v).getD (.mk v true []))):=by
 refine Ad Nv.ok rfl ?_
 push_cast
 refine Ae (n:=s.length) (R:=fun k=>Ac (s.drop k) v=Ac s v->Nv.L3 (.str v) (.ptr 0 0) (B5 s) (.int .i64 s.length) (.int .i64 k) 0 [.cells A2 [.str [],.bool false,.sl 3 []]] _) ?_ ?_ 0 (by omega) rfl
 ·intro k hk ih hq
  rw[Ag hk]at hq
  simp only[Ac]at hq
  generalize hgi:s.getD k default=b at hq
  refine A7.2 ?_
  by_cases h:b.name=v
  ·rw[if_pos h]at hq
   push_cast[BB hk,hgi,h]
   refine A0 ?_
   push_cast[Nv.rs,<-hq]
   rfl
  ·rw[if_neg h]at hq
   push_cast[BB hk,hgi,h,Co (show k<2^62 by omega)]
   exact ih hq
 ·intro hq
  rw[Ar]at hq
  refine A7.2 ?_
  push_cast[AZ (Nat.le_refl _)]
  refine A0 ?_
  push_cast[Nv.rs,<-hq]
  rfl
theorem Fp (s:List A5)(hl:s.length<2^62)(t:Term)(ht:size t<2^40):PF Do [B5 s,An t] (An (Aw s t)):=by
 induction t using Ah with
 | h t ih =>
 have hst:=Aq t
 have hll:=Ap t.args
 refine Ad NN.ok rfl ?_
 rw[EW]
 cases hv:t.var with
 | true =>
  push_cast[hv]
  refine .of (JT s t.name hl) ?_
  push_cast
  exact A0 (by push_cast[NN.rs])
 | false =>
  push_cast[hv]
  refine Ae (n:=t.args.length) (R:=fun k=>NN.L3 (B5 s) (.ptr 0 0) (.ptr 1 0) (Bk t.args) (.int .i64 t.args.length) (.int .i64 k) 0 [.cells A2 [.str [],.bool false,.sl 3 []],.cells A2 [.str t.name,.bool false,B8 cT 2 3 ((t.args.take k).map (Aw s))],.arr A2 3 k] _) ?_ ?_ 0 (by omega)
  ·intro k hk ih2
   have hm:=A4 hk
   have hm2:=B4 hm
   have hlen:((t.args.take k).map (Aw s)).length=k:=by simp;omega
   rw[Aa hk,List.map_append,List.map_singleton]at ih2
   refine A7.2 ?_
   push_cast[BB hk]
   refine .of (ih _ hm (by omega)) ?_
   push_cast[hlen,Co (show k<2^62 by omega)]
   exact⟨Nat.le_trans (Nat.mul_le_mul_right 48 (show _<=2^41 by omega)) (by unfold Ai;decide),ih2⟩
  ·refine A7.2 ?_
   push_cast[AZ (Nat.le_refl _)]
   refine A0 ?_
   push_cast[NN.rs,List.take_length]
   unfold An
   rw[Qm];rfl
theorem Pz (s:List A5)(v:A9)(hl:s.length<2^62):PF K6 [B5 s,.str v] (.bool (bound s v)):=by
 refine Ad Nr.ok rfl ?_
 unfold bound
 push_cast
 refine Ae (n:=s.length) (R:=fun k=>Ac (s.drop k) v=Ac s v->Nr.L3 (.str v) (B5 s) (.int .i64 s.length) (.int .i64 k) 0 [] _) ?_ ?_ 0 (by omega) rfl
 ·intro k hk ih hq
  rw[Ag hk]at hq
  simp only[Ac]at hq
  generalize hgi:s.getD k default=b at hq
  refine A7.2 ?_
  by_cases h:b.name=v
  ·rw[if_pos h]at hq
   push_cast[BB hk,hgi,h]
   refine A0 ?_
   push_cast[Nr.rs,<-hq]
   rfl
  ·rw[if_neg h]at hq
   push_cast[BB hk,hgi,h,Co (show k<2^62 by omega)]
   exact ih hq
 ·intro hq
  rw[Ar]at hq
  refine A7.2 ?_
  push_cast[AZ (Nat.le_refl _)]
  refine A0 ?_
  push_cast[Nr.rs,<-hq]
  rfl
theorem gc {v:A9}:∀ {s:List A5},I6 v s<s.length->¬ (s.getD (I6 v s) default).name<v
 | [],h=>by simp at h
 | b::s,h=>by
  simp only[I6]at h ⊢
  split
  ·rename_i hx
   rw[if_pos hx]at h
   simpa using gc (s:=s) (by simpa using h)
  ·rename_i hx
   simpa using hx
theorem XW {i:Nat}{l:List A5}{n:A9}{t:Term}:(.own i 4 (l.map cB++[V.str n::cT t]):V)=B8 cB i 4 (l++[⟨n,t⟩]):=by simp[B8,cB]
theorem WI (s:List A5)(v:A9)(t:Term)(hl:s.length<2^40)(hn:∀ b∈s,b.name.length<2^62)(hv:v.length<2^62):PF OR [B5 s,.str v,An t] (B5 (Eh s v t)):=by
 have hle:=Sf v s
 have hge:=@gc v s
 have hlt:=fun j=>@XS v s j
 have tail:∀ m:Nat,m<=2^40->∀ b,b<=64->m*b<=Ai:=fun m hm b hb=>Nat.le_trans (Nat.mul_le_mul hm hb) (by unfold Ai;decide)
 unfold Eh
 generalize I6 v s=a at hle hge hlt
 have e1:(s.drop 0).take (a-0)=s.take a:=by simp
 have e2:(s.drop a).take (s.length-a)=s.drop a:=by rw[List.take_of_length_le];simp
 refine Ad PO.ok rfl ?_
 push_cast
 refine Ae (n:=a) (R:=fun k=>PO.L3 (B5 s) (.str v) (.ro (cT t) 0) (.int .i64 k) 0 [] _) ?_ ?_ 0 (by omega)
 ·intro k hk ih
  have hkl:k<s.length:=by omega
  have h1:Iy (s.getD k default).name v<0:=JN.2 (hlt k hk)
  refine A7.2 ?_
  push_cast[BB hkl]
  refine .of (Cp _ _ (hn _ (A4 hkl)) hv) ?_
  push_cast[h1,Co (show k<2^62 by omega)]
  exact ih
 ·refine A7.2 ?_
  rcases Nat.lt_or_ge a s.length with h | h
  ·have h2:¬ Iy (s.getD a default).name v<0:=fun hc=>hge h (JN.1 hc)
   push_cast[BB h]
   refine .of (Cp _ _ (hn _ (A4 h)) hv) ?_
   push_cast[h2,e1,e2,XW,List.cons_append,List.nil_append]
   refine⟨⟨by omega,hle⟩,tail _ (by simp;omega) _ (by omega),tail _ (by simp;omega) _ (by omega),hle,⟨by simp,tail _ (by simp;omega) _ (by omega)⟩,A0 ?_⟩
   push_cast[PO.rs]
  ·push_cast[AZ h,e1,e2,XW,List.cons_append,List.nil_append]
   refine⟨⟨by omega,hle⟩,tail _ (by simp;omega) _ (by omega),tail _ (by simp;omega) _ (by omega),hle,⟨by simp,tail _ (by simp;omega) _ (by omega)⟩,A0 ?_⟩
   push_cast[PO.rs]
mutual
def Ik (s:List A5):Term->Term->List A5×Bool
 | .mk n v l,t=>if v then (match Ac s n with | some x=>(s,decide (x=t)) | none=>(Eh s n t,true)) else
  if t.var\/t.name≠n\/t.args.length≠l.length then ([],false) else JC s l t.args
def JC (s:List A5):List Term->List Term->List A5×Bool
 | [],_=>(s,true)
 | _::_,[]=>(s,true)
 | a::l,b::m=>if (Ik s a b).2 then JC (Ik s a b).1 l m else ([],false)
end
theorem UI (s:List A5)(p t:Term):Ik s p t=if p.var then (match Ac s p.name with | some x=>(s,decide (x=t)) | none=>(Eh s p.name t,true)) else
  if t.var\/t.name≠p.name\/t.args.length≠p.args.length then ([],false) else JC s p.args t.args:=by
 cases p with | mk n v l=>simp only[Ik,Term.var,Term.name,Term.args];rfl
def zi (a b:List A5×Bool):Prop:=a.2=b.2/\(b.2=true->a.1=b.1)
theorem YL (p:Term):∀ (s:List A5)(t:Term),zi (Ik s p t) (AR s p t):=by
 induction p using Ah with
 | h p ih =>
 intro s t
 rw[UI,J3]
 cases hv:p.var with
 | true=>rw[if_pos rfl,if_pos rfl];exact⟨rfl,fun _=>rfl⟩
 | false =>
  have hf:¬ (false=true):=by simp
  rw[if_neg hf,if_neg hf]
  by_cases hc:t.var\/p.name≠t.name\/p.args.length≠t.args.length
  ·have hc':t.var\/t.name≠p.name\/t.args.length≠p.args.length:=by
    rcases hc with h | h | h
    ·exact .inl h
    ·exact .inr (.inl (Ne.symm h))
    ·exact .inr (.inr (Ne.symm h))
   rw[if_pos hc,if_pos hc'];exact⟨rfl,fun h=>by cases h⟩
  ·have hc':¬ (t.var\/t.name≠p.name\/t.args.length≠p.args.length):=by
    rintro (h | h | h)
    ·exact hc (.inl h)
    ·exact hc (.inr (.inl (Ne.symm h)))
    ·exact hc (.inr (.inr (Ne.symm h)))
   rw[if_neg hc,if_neg hc']
   have hlen:p.args.length=t.args.length:=Classical.byContradiction fun h=>hc (.inr (.inr h))
   have key:∀ (l m:List Term)(s:List A5),(∀ a∈l,a∈p.args)->l.length=m.length->zi (JC s l m) (D3 s l m):=by
    intro l
    induction l with
    | nil=>intro m s _ _;exact⟨rfl,fun _=>rfl⟩
    | cons a l ihl =>
     intro m s hl hm
     cases m with
     | nil=>simp at hm
     | cons b m =>
      obtain⟨h1,h2⟩:=ih a (hl a (by simp)) s b
      simp only[JC,D3]
      cases h3:(AR s a b).2 with
      | false =>
       rw[h3]at h1
       rw[if_neg (by rw[h1];simp),if_neg (by simp)]
       exact⟨rfl,fun h=>by cases h⟩
      | true =>
       rw[h3]at h1
       rw[if_pos h1,if_pos rfl,h2 h3]
       exact ihl m _ (fun x hx=>hl x (by simp[hx])) (by simpa using hm)
   exact key p.args t.args s (fun _ h=>h) hlen
structure Bs (M m:Nat) (s:List A5):Prop where
 len:s.length<=m
 nm:∀ b∈s,b.name.length<M
 tm:∀ b∈s,tb b.term<M
theorem Bs.mono {M m m':Nat}{s:List A5}(h:Bs M m s)(hm:m<=m'):Bs M m' s:=⟨Nat.le_trans h.len hm,h.nm,h.tm⟩
theorem Bs.nil {M m:Nat}:Bs M m []:=⟨by simp,by simp,by simp⟩
theorem oD {M:Nat}(p:Term):∀ (s:List A5)(t:Term)(m:Nat),tb p<=M->tb t<M->Bs M m s->Bs M (m+size p) (Ik s p t).1:=by
 induction p using Ah with
 | h p ih =>
 intro s t m hp ht hb
 have h1:=FZ p
 have h2:=FZ t
 have h3:=Aq p
 rw[UI]
 cases hv:p.var with
 | true =>
  rw[if_pos rfl]
  cases hx:Ac s p.name with
  | some x=>exact hb.mono (by omega)
  | none =>
   refine⟨by show (Eh s p.name t).length<=_;rw[NS];have:=hb.len;omega,fun b h=>?_,fun b h=>?_⟩
   ·rcases Nn h with h | rfl
    ·exact hb.nm b h
    ·show p.name.length<M;omega
   ·rcases Nn h with h | rfl
    ·exact hb.tm b h
    ·exact ht
 | false =>
  rw[if_neg (by simp)]
  split
  ·exact Bs.nil
  ·have key:∀ (l q:List Term)(s:List A5)(m:Nat),(∀ a∈l,a∈p.args)->tbs l<=M->tbs q<M->Bs M m s->Bs M (m+Af l) (JC s l q).1:=by
    intro l
    induction l with
    | nil=>intro q s m _ _ _ hb;exact hb
    | cons a l ihl =>
     intro q s m hl hM hq hb
     cases q with
     | nil=>exact hb.mono (by omega)
     | cons b q =>
      have e1:tbs (a::l)=tb a+tbs l:=rfl
      have e2:tbs (b::q)=tb b+tbs q:=rfl
      have h4:=ih a (hl a (by simp)) s b m (by omega) (by omega) hb
      simp only[JC]
      split
      ·have h5:=ihl q _ _ (fun x hx=>hl x (by simp[hx])) (by omega) (by omega) h4
       exact h5.mono (by simp only[Af];omega)
      ·exact Bs.nil
   have:=key p.args t.args s m (fun _ h=>h) (by omega) (by omega) hb
   exact this.mono (by omega)
mutual
def gf:Term->Term->Int
 | .mk n v l,t=>if v≠t.var then (if v then -1 else 1) else if Iy n t.name≠0 then Iy n t.name else if RQ l.length t.args.length≠0 then RQ l.length t.args.length else SH l t.args
def SH:List Term->List Term->Int
 | [],_=>0
 | _::_,[]=>0
 | a::l,b::m=>if gf a b≠0 then gf a b else SH l m
end
theorem lE (a t:Term):gf a t=if a.var≠t.var then (if a.var then -1 else 1) else if Iy a.name t.name≠0 then Iy a.name t.name else if RQ a.args.length t.args.length≠0 then RQ a.args.length t.args.length else SH a.args t.args:=by
 cases a;simp only[gf];rfl
theorem UP {a b:Int}:RQ a b=0↔a=b:=by unfold RQ;split<;>(try split)<;>omega
theorem Xk:∀ (l m:List Term),l.length=m.length->(∀ a∈l,∀ b,gf a b=0↔a=b)->(SH l m=0↔l=m)
 | [],[],_,_=>by simp[SH]
 | [],_::_,h,_=>by simp at h
 | _::_,[],h,_=>by simp at h
 | a::l,b::m,h,hc=>by
  have ih:=Xk l m (by simpa using h) fun x hx=>hc x (by simp[hx])
  have h1:=hc a (by simp) b
  simp only[SH]
  by_cases he:a=b
  ·rw[if_neg (by simpa using h1.2 he),ih]
   simp[he]
  ·have:¬ gf a b=0:=fun e=>he (h1.1 e)
   rw[if_pos this]
   simp[this,he]
theorem nW (a:Term):∀ b,gf a b=0↔a=b:=by
 induction a using Ah with
 | h a ih =>
 intro b
 rw[lE,V7]
 by_cases h1:a.var=b.var
 ·rw[if_neg (by simpa using h1)]
  by_cases h2:a.name=b.name
  ·rw[if_neg (by simpa using QS.2 h2)]
   by_cases h3:a.args.length=b.args.length
   ·rw[if_neg (by simpa using UP.2 (by omega)),Xk _ _ h3 ih]
    simp[h1,h2]
   ·have:¬ RQ a.args.length b.args.length=0:=fun e=>h3 (by have:=UP.1 e;omega)
    rw[if_pos this]
    simp only[this,false_iff,not_and]
    intro _ _ e;exact h3 (by rw[e])
  ·have:¬ Iy a.name b.name=0:=fun e=>h2 (QS.1 e)
   rw[if_pos this]
   simp[this,h2]
 ·rw[if_pos h1]
  simp only[h1,false_and,and_false,iff_false]
  split<;>decide
theorem YS (a:Term):∀ b,tb a<2^62->tb b<2^62->PF JD [An a,An b] (.int .i64 (gf a b)):=by
 induction a using Ah with
 | h a ih =>
 intro b ha hb
 have ha2:=FZ a
 have hb2:=FZ b
 have hla:=FQ a.args
 rw[lE]
 refine Ad EB.ok rfl ?_
 by_cases h1:a.var=b.var
 ·rw[if_neg (by simpa using h1)]
  push_cast[h1,show ∀ x y:Bool,(x != y)=!decide (x=y) from fun x y=>by cases x<;>cases y<;>rfl]
  refine .of (Cp _ _ (by omega) (by omega)) ?_
  by_cases h2:Iy a.name b.name=0
  ·rw[if_neg (by simpa using h2)]
   push_cast[h2]
   refine .of (Iq _ _) ?_
   by_cases h3:RQ a.args.length b.args.length=0
   ·have hll:a.args.length=b.args.length:=by have:=UP.1 h3;omega
    rw[if_neg (by simpa using h3)]
    push_cast[h3]
    refine Ae (n:=a.args.length) (R:=fun k=>SH (a.args.drop k) (b.args.drop k)=SH a.args b.args->EB.L3 (.ro (cT a) 0) (.ro (cT b) 0) (.int .i64 a.args.length) (.int .i64 k) 0 [] _) ?_ ?_ 0 (by omega) rfl
    ·intro k hk ih2 hq
     have hkb:k<b.args.length:=by omega
     rw[Ag hk,Ag hkb]at hq
     simp only[SH]at hq
     have hm:=A4 hk
     have hmb:=A4 hkb
     refine A7.2 ?_
     push_cast[BB hk,BB hkb]
     refine .of (ih _ hm _ (by have:=Km hm;omega) (by have:=Km hmb;omega)) ?_
     push_cast[Co (show k<2^62 by omega)]
     refine⟨fun h=>A0 ?_,fun h=>ih2 ?_⟩
     ·push_cast[EB.rs]
      rw[<-hq,if_pos (by simpa using h)]
     ·rw[<-hq,if_neg (by simpa using h)]
    ·intro hq
     refine A7.2 ?_
     push_cast[AZ (Nat.le_refl _)]
     refine A0 ?_
     push_cast[EB.rs]
     rw[<-hq,Ar];rfl
   ·rw[if_pos h3]
    push_cast[h3]
    exact A0 (by push_cast[EB.rs])
  ·rw[if_pos h2]
   push_cast[h2]
   exact A0 (by push_cast[EB.rs])
 ·rw[if_pos h1]
  have e:∀ x y:Bool,(x != y)=!decide (x=y):=fun x y=>by cases x<;>cases y<;>rfl
  cases hv:a.var<;>cases hv2:b.var
  ·exact absurd (hv.trans hv2.symm) h1
  ·push_cast[hv,hv2,e]
   exact A0 (by push_cast[EB.rs])
  ·push_cast[hv,hv2,e]
   exact A0 (by push_cast[EB.rs])
  ·exact absurd (hv.trans hv2.symm) h1
theorem fJ (a b:Term)(ha:tb a<2^62)(hb:tb b<2^62):PF Qy [An a,An b] (.bool (decide (a=b))):=by
 refine Ad UU.ok rfl ?_
 push_cast
 refine .of (YS a b ha hb) ?_
 push_cast
 refine A0 ?_
 push_cast[UU.rs,nW]
theorem gX (p:Term):∀ (s:List A5)(t:Term)(m:Nat),tb p<=2^38->tb t<2^38->Bs (2^38) m s->m+size p<2^38 ->
  PF MI [B5 s,An p,An t] (.tup [B5 (Ik s p t).1,.bool (Ik s p t).2]):=by
 induction p using Ah with
 | h p ih =>
 intro s t m hp ht hb hm
 have h1:=FZ p
 have h2:=FZ t
 have h3:=Aq p
 have hlt:=FQ t.args
 have hsl:=hb.len
 rw[UI]
 refine Ad F0.ok rfl ?_
 cases hv:p.var with
 | true =>
  rw[if_pos rfl]
  push_cast[hv]
  refine .of (Pz s p.name (by omega)) ?_
  cases hx:Ac s p.name with
  | some x =>
   push_cast[show bound s p.name=true by simp[bound,hx]]
   refine .of (JT s p.name (by omega)) ?_
   push_cast[hx,Option.getD_some]
   obtain⟨b,hbm,_,rfl⟩:=Ln hx
   refine .of (fJ b.term t (by have:=hb.tm b hbm;omega) (by omega)) ?_
   push_cast
   exact A0 (by push_cast[F0.rs])
  | none =>
   push_cast[show bound s p.name=false by simp[bound,hx]]
   refine .of (WI s p.name t (by omega) (fun b hbm=>by have:=hb.nm b hbm;omega) (by omega)) ?_
   push_cast
   exact A0 (by push_cast[F0.rs])
 | false =>
  rw[if_neg (show ¬ (false=true) by simp)]
  push_cast[hv]
  by_cases c1:t.var=true
  ·rw[if_pos (show t.var=true\/t.name≠p.name\/t.args.length≠p.args.length from .inl c1)]
   push_cast[c1]
   exact A0 (by push_cast[F0.rs];rfl)
  ·have c1':t.var=false:=by simpa using c1
   by_cases c2:t.name=p.name
   ·by_cases c3:t.args.length=p.args.length
    ·rw[if_neg (show ¬ (t.var=true\/t.name≠p.name\/t.args.length≠p.args.length) by simp[c1',c2,c3])]
     have c3':((t.args.length:Int)=(p.args.length:Int))=True:=eq_true (by omega)
     push_cast[c1',c2,c3']
     have key:∀ (l q:List Term)(s:List A5)(k:Nat),p.args.drop k=l->t.args.drop k=q->k+q.length=t.args.length->∀ m,Bs (2^38) m s->m+Af l<2^38 ->
       ∀ res,JC s l q=res->F0.L3 (B5 s) (.ro (cT p) 0) (.ro (cT t) 0) (.int .i64 t.args.length) (.int .i64 k) 0 [] (BH 0 F0.rs fun x' H'=>x'=.tup [B5 res.1,.bool res.2]/\H'=[]):=by
      intro l
      induction l with
      | nil =>
       intro q s k hl hq hk m hb hm res hr
       have hkl:t.args.length<=k:=by
        have:=congrArg List.length hl
        simp at this;omega
       refine A7.2 ?_
       push_cast[AZ hkl]
       refine A0 ?_
       push_cast[F0.rs,<-hr]
       simp[JC]
      | cons a l ihl =>
       intro q s k hl hq hk m hb hm res hr
       have hkp:k<p.args.length:=by
        rcases Nat.lt_or_ge k p.args.length with h | h
        ·exact h
        ·rw[List.drop_eq_nil_of_le h]at hl;cases hl
       have hkt:k<t.args.length:=by omega
       rw[Ag hkp]at hl
       rw[Ag hkt]at hq
       cases hl
       subst hq
       have hmp:=A4 hkp
       have hmt:=A4 hkt
       have hbp:=Km hmp
       have hbt:=Km hmt
       simp only[Af]at hm
       simp only[JC]at hr
       refine A7.2 ?_
       push_cast[BB hkt,BB hkp]
       refine .of (ih _ hmp s _ m (by omega) (by omega) hb (by omega)) ?_
       cases hq2:(Ik s (p.args.getD k default) (t.args.getD k default)).2 with
       | false =>
        rw[if_neg (by rw[hq2];simp)]at hr
        push_cast
        refine A0 ?_
        push_cast[F0.rs,<-hr]
        rfl
       | true =>
        rw[if_pos hq2]at hr
        push_cast[Co (show k<2^62 by omega)]
        have:=ihl _ _ (k+1) rfl rfl (by simp;omega) _ (oD _ s _ m (by omega) (by omega) hb) (by omega) res hr
        push_cast at this
        exact this
     have:=key p.args t.args s 0 rfl rfl (by simp) m hb (by omega) _ rfl
     push_cast[c3']at this
     exact this
    ·rw[if_pos (show t.var=true\/t.name≠p.name\/t.args.length≠p.args.length from .inr (.inr c3))]
     have c3':((t.args.length:Int)=(p.args.length:Int))=False:=eq_false (by omega)
     push_cast[c1',c2,c3']
     exact A0 (by push_cast[F0.rs];rfl)
   ·rw[if_pos (show t.var=true\/t.name≠p.name\/t.args.length≠p.args.length from .inr (.inl c2))]
    push_cast[c1',c2]
    exact A0 (by push_cast[F0.rs];rfl)
theorem Pv (p t:Term)(hp:tb p<2^37)(ht:tb t<2^37):PF GF [An p,An t] (.tup [B5 (Ik [] p t).1,.bool (Ik [] p t).2]):=by
 have:=Bc p
 refine Ad Ud.ok rfl ?_
 push_cast
 refine .of (gX p [] t 0 (by omega) (by omega) Bs.nil (by omega)) ?_
 push_cast
 exact A0 (by push_cast[Ud.rs])
theorem zu {l:List Term}{k:Nat}(h:k<l.length):(l.map cT)[k]?=some (cT (l.getD k default)):=by
 rw[List.getElem?_map];simp[List.getD_eq_getElem?_getD,h]
theorem ng {σ:Nat->Option Nat}{l:List Term}:(l.map cT).map (AN σ)=l.map cT:=by rw[List.map_map];rfl
theorem oc (p:List Int):∀ (t x y:Term),short t=true->Bt t p=some y->size t<2^40->p.length<2^40->PF R1 [An t,D0 p,An x] (An (ID t p x)):=by
 induction p with
 | nil =>
  intro t x y _ _ _ _
  refine Ad Tj.ok rfl ?_
  push_cast
  exact A0 (by push_cast[Tj.rs];rfl)
 | cons i p ih =>
  intro t x y ht hy hs hp
  simp only[Bt]at hy
  split at hy
  case isFalse=>cases hy
  rename_i hi
  have hst:=Aq t
  have hll:=Ap t.args
  have hk:i.toNat<t.args.length:=by omega
  have hm:=A4 hk
  have hm2:=B4 hm
  have hne:¬ (((i::p).length:Nat):Int)=0:=by rw[List.length_cons];omega
  have hsub:=ih _ x y ((C0.1 ht).2.2 _ hm) hy (by omega) (by simp at hp;omega)
  refine Ad Tj.ok rfl ?_
  have hv:t.var=false:=by
   cases h:t.var with
   | false=>rfl
   | true=>have:=(C0.1 ht).2.1 h;rw[this]at hk;simp at hk
  have hres:ID t (i::p) x=.mk t.name false (t.args.set i.toNat (ID (t.args.getD i.toNat default) p x)):=by
   simp only[ID];rw[if_pos hi,hv]
  rw[hres]
  have e1:((i::p).drop 1).take ((i::p).length-1)=p:=by simp
  have e2:(i::p).getD 0 default=i:=rfl
  have e3:((0:Int)<(((i::p).length:Nat):Int))=True:=eq_true (by rw[List.length_cons];omega)
  have e4:(1:Nat)<=(i::p).length:=by simp
  generalize (i::p)=q at hne e1 e2 e3 e4
  have hi0:(0<=i)=True:=eq_true hi.1
  have hi1:(i<(t.args.length:Int))=True:=eq_true hi.2
  have hroom:t.args.length*48<=Ai:=Nat.le_trans (Nat.mul_le_mul_right 48 (show _<=2^41 by omega)) (by unfold Ai;decide)
  have hsetC:(t.args.map cT).set i.toNat (put 0 (cT (ID (t.args.getD i.toNat default) p x)) ((t.args.map cT).getD i.toNat []))=(t.args.set i.toNat (ID (t.args.getD i.toNat default) p x)).map cT:=by
   have e5:(t.args.map cT).getD i.toNat []=cT (t.args.getD i.toNat default):=by
    rw[List.getD_eq_getElem?_getD (l:=t.args.map cT),zu hk];rfl
   rw[List.map_set,e5,lD]
  push_cast[hne,zu hk,e1,e2,e3,e4,hi0,hi1,List.length_map,hroom]
  refine .of hsub ?_
  push_cast[hi0,hi1,List.length_map,hk,hsetC,List.length_set,ng]
  refine A0 ?_
  push_cast[Tj.rs]
  unfold An
  rw[Qm];rfl
theorem NC {l:List Term}{a:Term}(h:a∈l):depth a<=Bg l:=by
 induction l with
 | nil=>cases h
 | cons x xs ih=>rcases List.mem_cons.1 h with rfl | h<;>simp only[Bg];omega;have:=ih h;omega
theorem XF:∀ (p:List Int)(t x:Term),Bt t p=some x->depth x<=depth t
 | [],t,x,h=>by cases h;exact Nat.le_refl _
 | i::p,t,x,h=>by
  simp only[Bt]at h
  split at h
  case isFalse=>cases h
  rename_i hi
  have h1:=XF p _ x h
  have h2:=NC (A4 (show i.toNat<t.args.length by omega))
  have h3:=EL t
  omega
def Wr (r:List A3)(p:List Int)(s:Term):Nat->List BZ
 | 0=>[]
 | k+1=>Wr r p s k++(if (AR [] (r.getD k default).left s).2 then [⟨k,p⟩] else [])
def lR (r:List A3)(p:List Int)(s:Term):List BZ:=if s.var then [] else Wr r p s r.length
theorem Wh (r:List A3)(p:List Int)(s:Term):∀ k,(Wr r p s k).length<=k
 | 0=>by simp[Wr]
 | k+1=>by have:=Wh r p s k;simp only[Wr,List.length_append];split<;>simp<;>omega
theorem vE (r:List A3)(p:List Int)(s:Term):(lR r p s).length<=r.length:=by
 unfold lR
 split
 ·simp
 ·exact Wh _ _ _ _
theorem bL (r:List A3)(p:List Int)(s:Term)(hl:r.length<2^38)(hr:∀ x∈r,size x.left<2^38)(hs:size s<2^62)(hp:p.length<2^40):PF OL [As r,D0 p,An s] (Cq (lR r p s)):=by
 refine Ad Jp.ok rfl ?_
 unfold lR
 push_cast
 cases hv:s.var with
 | true =>
  rw[if_pos rfl]
  by_cases h0:r.length=0
  ·have hi:((0:Int)<(r.length:Int))=False:=eq_false (by omega)
   refine A7.2 ?_
   push_cast[hi]
   exact A0 (by push_cast[Jp.rs];rfl)
  ·have hi:((0:Int)<(r.length:Int))=True:=eq_true (by omega)
   refine A7.2 ?_
   push_cast[hi,hv]
   exact A0 (by push_cast[Jp.rs];rfl)
 | false =>
  rw[if_neg (by simp)]
  rw[show (V.own 0 2 []:V)=B8 Pi 0 2 (Wr r p s 0) from rfl]
  refine Ae (n:=r.length) (R:=fun k=>Jp.L4 (D0 p) (.ro (cT s) 0) (B8 Pi 0 2 (Wr r p s k)) (As r) (.int .i64 r.length) (.int .i64 k) 0 [.arr DN 2 (Wr r p s k).length] _) ?_ ?_ 0 (by omega)
  ·intro k hk ih
   have hm:=A4 hk
   have hal:=Wh r p s k
   simp only[Wr]at ih
   refine A7.2 ?_
   push_cast[BB hk,hv]
   refine .of (dx _ s (hr _ hm) hs) ?_
   cases hb:(AR [] (r.getD k default).left s).2 with
   | false =>
    rw[hb,if_neg (by simp),List.append_nil]at ih
    push_cast[Co (show k<2^62 by omega)]
    exact ih
   | true =>
    rw[hb,if_pos rfl]at ih
    push_cast
    refine NR (HM p hp) ?_
    push_cast[List.map_cons,List.map_nil,rM,Co (show k<2^62 by omega)]
    refine⟨Nat.le_trans (Nat.mul_le_mul_right 32 (show _<=2^41 by omega)) (by unfold Ai;decide),?_⟩
    push_cast at ih
    exact ih
  ·refine A7.2 ?_
   push_cast[AZ (Nat.le_refl _)]
   exact A0 (by push_cast[Jp.rs])
def Q4 (r:List A3)(l:List (List Int×Term)):List BZ:=l.flatMap fun x=>lR r x.1 x.2
def EN (r:List A3)(t:Term):List BZ:=Q4 r (Ab t [])
theorem SZ (r:List A3):∀ l,(Q4 r l).length<=l.length*r.length
 | []=>by simp[Q4]
 | x::l=>by
  have h1:=SZ r l
  have h2:=vE r x.1 x.2
  unfold Q4 at h1 ⊢
  rw[List.flatMap_cons,List.length_append,List.length_cons,Nat.succ_mul]
  omega
theorem Uv (r:List A3)(l:List (List Int×Term))(x:List Int×Term):Q4 r (l++[x])=Q4 r l++lR r x.1 x.2:=by simp[Q4]
mutual
theorem I0:∀ (t:Term)(p:List Int),∀ x∈Ab t p,size x.2<=size t/\x.1.length<=p.length+size t
 | .mk n v l,p,x,hx=>by
  rw[Hq]at hx
  rcases List.mem_cons.1 hx with rfl | hx
  ·exact⟨Nat.le_refl _,Nat.le_add_right _ _⟩
  ·have:=Yy l p 0 x hx
   simp only[size]
   omega
theorem Yy:∀ (l:List Term)(p:List Int)(i:Nat),∀ x∈Bb l p i,size x.2<=Af l/\x.1.length<=p.length+1+Af l
 | [],p,i,x,hx=>by simp[Bb]at hx
 | a::l,p,i,x,hx=>by
  simp only[Bb,List.mem_append]at hx
  simp only[Af]
  rcases hx with hx | hx
  ·have:=I0 a _ x hx
   simp only[List.length_append,List.length_singleton]at this
   omega
  ·have:=Yy l _ _ x hx;omega
end
theorem YU (r:List A3)(t:Term)(hl:r.length<2^38)(hr:∀ x∈r,size x.left<2^38)(hs:size t<2^38)(hm:size t*r.length<2^38):PF MP [As r,An t] (Cq (EN r t)):=by
 have hvl:(Ab t []).length=size t:=FV t []
 refine Ad Qs.ok rfl ?_
 push_cast
 refine .of (Gw _) ?_
 push_cast
 refine Ax.rf C6 [] [.ro (cT t) 0] ((Ab t []).map EO) (fun j H1=>H1=[.cells ft [B8 Pi 1 2 (Q4 r ((Ab t []).take j))],.arr DN 2 (Q4 r ((Ab t []).take j)).length]) (fun _ _=>False) rfl (E4 t (by omega)) ?_ (by rfl) ?_ ?_ (fun _ _ h=>h.elim) ?_ ?_ (fun _ _ h=>h.elim)
 ·intro it hit
  obtain⟨x,_,rfl⟩:=List.mem_map.1 hit
  rfl
 ·push_cast
 ·rintro j H1 rfl
  refine⟨rfl,?_⟩
  push_cast
 ·rintro lo rr j it H1 hit rfl
  rw[List.getElem?_map]at hit
  cases hx:(Ab t [])[j]? with
  | none=>rw[hx]at hit;cases hit
  | some x =>
  rw[hx]at hit
  have hit:it=EO x:=by simpa using hit.symm
  subst hit
  have hj:j<(Ab t []).length:=(List.getElem?_eq_some_iff.1 hx).1
  have hxj:(Ab t [])[j]=x:=(List.getElem?_eq_some_iff.1 hx).2
  have hxm:x∈Ab t []:=hxj▸List.getElem_mem hj
  have htk:(Ab t []).take (j+1)=(Ab t []).take j++[x]:=by rw[List.take_succ_eq_append_getElem hj,hxj]
  have hsub:=I0 t [] x hxm
  have hal:=SZ r ((Ab t []).take (j+1))
  rw[List.length_take,Nat.min_eq_left (by omega)]at hal
  have hmul:(j+1)*r.length<=size t*r.length:=Nat.mul_le_mul_right _ (by omega)
  rw[htk,Uv,List.length_append]at hal
  rw[htk,Uv]
  push_cast[MF,EO]
  refine A7.2 ?_
  push_cast
  refine .of (bL r x.1 x.2 hl hr (by omega) (by simp at hsub;omega)) ?_
  push_cast
  refine⟨Nat.le_trans (Nat.mul_le_mul_right 32 (show _<=2^41 by rw[List.length_map];omega)) (by unfold Ai;decide),rfl,?_⟩
  push_cast[cut]
  rw[List.length_map]
 ·rintro H1 rfl
  have:(Ab t []).take ((Ab t []).map EO).length=Ab t []:=by rw[List.length_map,List.take_length]
  rw[this]
  push_cast
  exact A0 (by push_cast[Qs.rs];rfl)
def cO (n:A9)(v:Bool)(k:Nat):Bool:=if v then decide (k=0)&&CJ n false else decide (k<=8)&&CJ n true
theorem S9 {t:Term}:CI t=true↔cO t.name t.var t.args.length=true/\∀ a∈t.args,CI a=true:=by
 rw[F8]
 unfold cO
 cases t.var with
 | true =>
  simp only[if_true,Bool.and_eq_true,decide_eq_true_eq]
  refine⟨fun h=>⟨h,fun a ha=>?_⟩,fun h=>h.1⟩
  rw[List.length_eq_zero_iff.1 h.1]at ha;cases ha
 | false=>simp[and_assoc]
theorem FW {t:Term}:DH t=0↔CI t=true/\BU t=true:=by
 unfold DH
 cases CI t<;>cases BU t<;>simp
theorem Ml {r:List A3}(h:Ao r=0):∀ x∈r,DH x.left=0/\DH x.right=0:=by
 have h1:Bu r=0:=by
  unfold Ao at h
  split at h
  ·rename_i h1;exact absurd h h1
  ·rename_i h1;simpa using h1
 unfold Bu at h1
 split at h1
 ·omega
 ·exact Ng h1
theorem Adr {σ:Nat->Option Nat}{l:List Term}:(l.map cT).map (AN σ)=l.map cT:=by rw[List.map_map];rfl
namespace wK
end wK
theorem np {σ:Nat->Option Nat}{l:List BZ}:(l.map Pi).map (AN σ)=l.map Pi:=by rw[List.map_map];rfl
attribute [push_cast] np
mutual
def DZ:Term->List (List Int)
 | .mk n v l=>[]::GE l 0
def GE:List Term->Nat->List (List Int)
 | [],_=>[]
 | a::l,i=>(DZ a).map ((i:Int)::·)++GE l (i+1)
end
theorem wM (t:Term):DZ t=[]::GE t.args 0:=by cases t;simp[DZ,Term.args]
mutual
theorem Jh:∀ (t:Term)(p:List Int),(Ab t p).map Prod.fst=(DZ t).map (p++·)
 | .mk n v l,p=>by
  simp only[Ab,DZ,List.map_cons,List.append_nil,Yr l p 0]
theorem Yr:∀ (l:List Term)(p:List Int)(i:Nat),(Bb l p i).map Prod.fst=(GE l i).map (p++·)
 | [],p,i=>rfl
 | a::l,p,i=>by
  simp only[Bb,GE,List.map_append,Jh a,Yr l p (i+1),List.map_map]
  congr 1
  apply List.map_congr_left
  intro q _;simp
end
theorem bS (a b:List Term)(i:Nat):GE (a++b) i=GE a i++GE b (i+a.length):=by
 induction a generalizing i with
 | nil=>simp[GE]
 | cons x xs ih=>simp only[List.cons_append,GE,ih,List.append_assoc,List.length_cons];congr 3;omega
theorem jG (l:List Term){k:Nat}(hk:k<l.length):GE (l.take (k+1)) 0=GE (l.take k) 0++(DZ (l.getD k default)).map ((k:Int)::·):=by
 rw[List.take_succ_eq_append_getElem hk,bS,List.length_take,Nat.min_eq_left (by omega)]
 simp[GE,List.getD_eq_getElem?_getD,List.getElem?_eq_getElem hk]
theorem T1 (t:Term):(DZ t).length=size t:=by
 have h:=congrArg List.length (Jh t [])
 simp only[List.length_map]at h
 rw[<-h];exact FV t []
theorem ZT:∀ (l:List Term)(i:Nat),(GE l i).length=Af l
 | [],i=>rfl
 | a::l,i=>by simp only[GE,List.length_append,List.length_map,T1,ZT l (i+1),Af]
theorem YE (t:Term):∀ p∈DZ t,p.length<=size t:=by
 intro p hp
 have h:=Jh t []
 have:p∈(DZ t).map ([]++·):=by simpa using hp
 rw[<-h]at this
 obtain⟨x,hx,rfl⟩:=List.mem_map.1 this
 have:=(I0 t [] x hx).2
 simpa using this
theorem yO {i:Nat}{l:List (List Int)}{p:List Int}:(.own i 1 (l.map km++[[D0 p]]):V)=B8 km i 1 (l++[p]):=by simp[B8,km]
theorem Pc (t:Term)(hs:size t<2^38):PF FP [An t] (JZ (DZ t)):=by
 induction t using Ah with
 | h t ih =>
 refine Ad EF.ok rfl ?_
 have hst:=Aq t
 have hl:=Ap t.args
 push_cast
 rw[show (V.own 0 1 [[V.sl 1 []]]:V)=B8 km 0 1 ([]::GE (t.args.take 0) 0) from rfl]
 refine Ae (n:=t.args.length) (R:=fun k=>EF.L6 (B8 km 0 1 ([]::GE (t.args.take k) 0)) (Bk t.args) (.int .i64 t.args.length) (.int .i64 k) 0 [.arr MA 1 (1+Af (t.args.take k))] (BH 0 EF.rs fun x' H'=>x'=JZ (DZ t)/\H'=[])) ?_ ?_ 0 (Nat.zero_le _)
 ·intro k hk ih2
  have hm:=A4 hk
  have hsn:=jG t.args hk
  have hss:=Eo t.args k hk
  have hsl:=EI t.args (k+1)
  have hsz:=B4 hm
  refine A7.2 ?_
  generalize hx:t.args.getD k default=a at hm hsn hss hsz
  push_cast[BB hk,hx]
  refine .of (ih a hm (by omega)) ?_
  push_cast
  have hpl:=T1 a
  have h0:=Ae (n:=(DZ a).length) (R:=fun j=>EF.L4 (B8 km 0 1 ([]::(GE (t.args.take k) 0++((DZ a).take j).map ((k:Int)::·)))) (.int .i64 k) (Bk t.args) (.int .i64 t.args.length) (.int .i64 k) (JZ (DZ a)) (.int .i64 (DZ a).length) (.int .i64 j) 0 [.arr MA 1 (1+Af (t.args.take k)+j),.dead] (BH 0 EF.rs fun x' H'=>x'=JZ (DZ t)/\H'=[])) ?_ ?_ 0 (Nat.zero_le _)
  ·simp only[List.take_zero,List.map_nil,List.append_nil,Nat.add_zero]at h0
   exact h0
  ·intro j hj ih3
   have hmj:=A4 hj
   have hsj:=YE a _ hmj
   refine A7.2 ?_
   have htk:(DZ a).take (j+1)=(DZ a).take j++[(DZ a).getD j default]:=by rw[List.take_succ_eq_append_getElem hj];simp[List.getD_eq_getElem?_getD,hj]
   generalize hq:(DZ a).getD j default=q at hmj hsj htk
   push_cast[BB hj,hq]
   have e1:(GE (t.args.take k) 0).length=Af (t.args.take k):=ZT _ _
   have e2:(List.map (fun x=>(k:Int)::x) ((DZ a).take j)).length=j:=by simp;omega
   have e3:(List.map cI q).length=q.length:=by simp
   have e4:∀ X:List (List Int),V.own 0 1 (km []::(List.map km X++[[V.sl 1 ([V.int IntKind.i64 ↑k]::List.map cI q)]]))=B8 km 0 1 ([]::(X++[(k:Int)::q])):=fun X=>by simp[B8,km,Dp,cI]
   rw[e1,e2,e3,e4,Co (show j<2^62 by omega)]
   rw[htk,List.map_append,<-List.append_assoc]at ih3
   have hme:Ai=140737488355328:=rfl
   refine⟨by omega,⟨by omega,by omega⟩,?_⟩
   rw[show Af (t.args.take k)+j+1+1=1+Af (t.args.take k)+(j+1) by omega]
   exact ih3
  ·refine A7.2 ?_
   push_cast[AZ (Nat.le_refl _)]
   rw[List.take_length,Co (show k<2^62 by omega),<-hsn,hpl,Nat.add_assoc,<-hss]
   exact ih2
 ·refine A7.2 ?_
  push_cast[AZ (Nat.le_refl _)]
  refine A0 ?_
  push_cast[EF.rs,List.take_length,wM t]
  try rfl
theorem fG (p:List Int)(hp:p.length<2^40):PF Ak [D0 p] (D0 p):=by
 refine Ad Bn.ok rfl ?_
 push_cast
 intro c hc
 refine⟨fun h=>?_,fun h=>⟨by rw[List.length_map];unfold Ai;omega,?_⟩⟩
 ·have hp0:p=[]:=by simpa using hc (by cases c<;>simp_all)
  subst hp0
  exact A0 (by push_cast[Bn.rs];rfl)
 ·exact A0 (by push_cast[Bn.rs];rfl)
def xw (v:A9)(x:List Int×Term):Bool:=x.2.var&&decide (x.2.name=v)
def JX (v:A9)(l:List (List Int×Term)):List (List Int):=(l.filter (xw v)).map Prod.fst
def FJ (t:Term)(v:A9):List (List Int):=JX v (Ab t [])
theorem pg (v:A9)(l:List (List Int×Term))(x:List Int×Term):JX v (l++[x])=if xw v x then JX v l++[x.1] else JX v l:=by
 unfold JX
 rw[List.filter_append,List.map_append]
 cases h:xw v x<;>simp[h]
theorem eB (v:A9)(l:List (List Int×Term)):(JX v l).length<=l.length:=by
 unfold JX;rw[List.length_map];exact List.length_filter_le _ _
theorem Rh (t:Term)(v:A9)(hs:size t<2^38):PF Ha [An t,.str v] (JZ (FJ t v)):=by
 refine Ad Ir.ok rfl ?_
 push_cast
 refine .of (Gw _) ?_
 push_cast
 have hlen:=FV t []
 have hss:=I0 t []
 refine Ax.rf C6 [] [.ro (cT t) 0] ((Ab t []).map EO) (fun j H1=>H1=[.cells aw [B8 km 1 1 (JX v ((Ab t []).take j))],.arr MA 1 (JX v ((Ab t []).take j)).length]) (fun _ _=>False) rfl (E4 t (by omega)) ?_ rfl ?_ ?_ (fun _ _ h=>h.elim) ?_ ?_ (fun _ _ h=>h.elim)
 ·intro it hit
  obtain⟨x,_,rfl⟩:=List.mem_map.1 hit
  rfl
 ·push_cast
 ·rintro j H1 rfl
  refine⟨rfl,?_⟩
  push_cast
 ·rintro lo r j it H1 hit rfl
  rw[List.getElem?_map]at hit
  cases hx:(Ab t [])[j]? with
  | none=>rw[hx]at hit;cases hit
  | some x =>
  rw[hx]at hit
  have hit:it=EO x:=by simpa using hit.symm
  subst hit
  have hj:j<(Ab t []).length:=(List.getElem?_eq_some_iff.1 hx).1
  have hxj:(Ab t [])[j]=x:=(List.getElem?_eq_some_iff.1 hx).2
  have htk:(Ab t []).take (j+1)=(Ab t []).take j++[x]:=by rw[List.take_succ_eq_append_getElem hj,hxj]
  have hxl:=(hss x (List.mem_of_getElem? hx)).2
  have hol:=eB v ((Ab t []).take j)
  rw[List.length_take]at hol
  have hsn:=pg v ((Ab t []).take j) x
  rw[<-htk]at hsn
  push_cast[MF,EO]
  refine A7.2 ?_
  cases hv:x.2.var with
  | false =>
   have hvs:JX v ((Ab t []).take (j+1))=JX v ((Ab t []).take j):=by rw[hsn];simp[xw,hv]
   push_cast[hv]
   refine⟨rfl,?_⟩
   push_cast[cut,hvs]
  | true =>
   by_cases hn:x.2.name=v
   ·have hvs:JX v ((Ab t []).take (j+1))=JX v ((Ab t []).take j)++[x.1]:=by rw[hsn];simp[xw,hv,hn]
    push_cast[hv,hn]
    refine .of (fG x.1 (by simp at hxl;omega)) ?_
    push_cast
    refine⟨by unfold Ai;omega,?_⟩
    rw[yO]
    refine⟨rfl,?_⟩
    push_cast[cut,hvs,List.length_append]
   ·have hvs:JX v ((Ab t []).take (j+1))=JX v ((Ab t []).take j):=by rw[hsn];simp[xw,hv,hn]
    push_cast[hv,eq_false hn]
    refine⟨rfl,?_⟩
    push_cast[cut,hvs]
 ·rintro H1 rfl
  have:(Ab t []).take ((Ab t []).map EO).length=Ab t []:=by rw[List.length_map,List.take_length]
  rw[this]
  push_cast
  exact A0 (by push_cast[Ir.rs];rfl)
end Go.Dw
section
namespace Go.Dw
namespace kR
def nd:Nat->C
 | 0=>.R [.mv 4 (.i (-1))] (.ret)
 | 1=>.gh [.ks 0 [0,1,7,8]] (.m 3)
 | 2=>.seq (.blk 1 (.R [.A 10 8,.A 5 10] (.R [.A 11 1,.A 12 0,.A 13 5,.G 14 3 12 13,.E 15 3 14,.callv (some 16) (.s 11) [.s 15]] (.W 16 (.R [.A 17 5,.A 4 17] (.ret)) (.skip))))) (.reg [.X 18 .add 8 1,.A 8 18])
 | 3=>.R [.V 9 .lss 8 7] (.seq (.W 9 (.skip) (.exit 0)) (.n 2))
 | _=>.skip
def body:C:=.R [.mv 4 (.i 0)] (.seq (.R [.A 6 0,.Y 7 6,.mv 8 (.i 0)] (.J 0 1)) (.n 0))
def rs:List RV:=[.t 4]
attribute [push_cast] nd body
theorem ok:Bh prog Bf nd body 2 rs=true:=by kernel_rfl
abbrev L3 (a b c d:V)(B:Nat)(H:Di)(Q:QX):Prop:=Ax prog nd B (E1 3 1 0 0) [(0,a),(1,b),(7,c),(8,d)] H Q
end kR
namespace zU
def nd (_:Nat):C:=.skip
def body:C:=.R [.mv 4 (.c (.bool false))] (.R [.A 5 0,.A 6 1,.call (some 7) Bf [.s 5,.s 6],.X 8 .geq 7 0,.A 4 8] (.ret))
def rs:List RV:=[.t 4]
attribute [push_cast] nd body
theorem ok:Bh prog AL nd body 2 rs=true:=by kernel_rfl
end zU
def Vf {S:Type}(F:S->Term->S×Bool)(s:S):List Term->S×Bool
 | []=>(s,false)
 | a::l=>if (F s a).2 then ((F s a).1,true) else Vf F (F s a).1 l
def qd {S:Type}(F:S->Term->S×Bool)(s:S)(k:Nat):List Term->Int
 | []=>-1
 | a::l=>if (F s a).2 then k else qd F (F s a).1 (k+1) l
theorem sd {S:Type}(F:S->Term->S×Bool):∀ (l:List Term)(s:S)(k:Nat),0<=qd F s k l↔(Vf F s l).2=true
 | [],s,k=>by simp[qd,Vf]
 | a::l,s,k=>by
  unfold qd Vf
  by_cases h:(F s a).2=true
  ·rw[if_pos h,if_pos h];simp
  ·rw[if_neg h,if_neg h];exact sd F l _ _
section
variable {S:Type} {F:S->Term->S × Bool} {Hs:S->List Ob} {Inv:S->Prop} {g n:Nat} {caps:List V} (hn:∀ s,(Hs s).length = n) (hc:AN (AI n) caps = caps) (hH:∀ s,(Hs s).map (A6 (AI n)) = Hs s)
 (l:List Term) (hl:l.length<2^62) (h:∀ a∈l,∀ s,Inv s->Spec prog g (An a::caps) (Hs s) fun x H'=>x=.bool (F s a).2/\H'=Hs (F s a).1) (hi:∀ a∈l,∀ s,Inv s->(F s a).2=false->Inv (F s a).1)
include hn hc hH hl h hi
theorem cE (s0:S)(h0:Inv s0):Spec prog Bf [Bk l,.fn (.func g) [] caps] (Hs s0) fun x H'=>x=.int .i64 (qd F s0 0 l)/\H'=Hs (Vf F s0 l).1:=by
 have htk:∀ s,(Hs s).take n=Hs s:=fun s=>List.take_of_length_le (by rw[hn];exact Nat.le_refl _)
 refine AC mixed kR.ok rfl ?_
 push_cast[hc,hH,hn,htk]
 refine Ae (n:=l.length) (R:=fun k=>∀ s,Inv s->qd F s k (l.drop k)=qd F s0 0 l->Vf F s (l.drop k)=Vf F s0 l->kR.L3 (Bk l) (.fn (.func g) [] caps) (.int .i64 l.length) (.int .i64 k) n (Hs s) (BH n kR.rs fun x H'=>x=.int .i64 (qd F s0 0 l)/\H'=Hs (Vf F s0 l).1)) ?_ ?_ 0 (Nat.zero_le _) s0 h0 rfl rfl
 ·intro k hk ih s hs hq1 hq2
  refine A7.2 ?_
  have hm:=A4 hk
  rw[Ag hk]at hq1 hq2
  generalize hx:l.getD k default=a at hm hq1 hq2
  simp only[qd,Vf]at hq1 hq2
  push_cast[BB hk,hx]
  refine Bl.all (R:=fun x H'=>x=.bool (F s a).2/\H'=Hs (F s a).1) (h a hm s hs) ?_
  rintro x H' ⟨rfl,rfl⟩
  cases hp:(F s a).2 with
  | true =>
   rw[hp,if_pos rfl]at hq1 hq2
   push_cast
   exact Ck (.inl rfl) rfl ⟨by rw[<-hq1];rfl,by rw[<-hq2]⟩
  | false =>
   rw[hp,if_neg (by simp)]at hq1 hq2
   push_cast[hc,hH,hn,htk,Co (show k<2^62 by omega)]
   have:=ih _ (hi a hm s hs hp) hq1 hq2
   push_cast at this
   exact this
 ·intro s hs hq1 hq2
  refine A7.2 ?_
  push_cast[AZ (Nat.le_refl _)]
  rw[Ar]at hq1 hq2
  exact Ck (.inl rfl) rfl ⟨by rw[<-hq1];rfl,by rw[<-hq2];rfl⟩
theorem Pf (s0:S)(h0:Inv s0):Spec prog AL [Bk l,.fn (.func g) [] caps] (Hs s0) fun x H'=>x=.bool (Vf F s0 l).2/\H'=Hs (Vf F s0 l).1:=by
 refine AC mixed zU.ok rfl ?_
 push_cast
 refine Bl.all (R:=fun x H'=>x=.int .i64 (qd F s0 0 l)/\H'=Hs (Vf F s0 l).1) (cE hn hc hH l hl h hi s0 h0) ?_
 rintro x H' ⟨rfl,rfl⟩
 push_cast
 have hd:decide (0<=qd F s0 0 l)=(Vf F s0 l).2:=by
  have:=sd F l s0 0
  cases hq:(Vf F s0 l).2 with
  | true=>rw[hq]at this;simpa using this
  | false=>rw[hq]at this;simpa using this
 rw[hn]
 exact Ck (.inl rfl) rfl ⟨by rw[<-hd];rfl,rfl⟩
end
mutual
def Pm (n:Int):Term->Int×Bool
 | .mk _ _ l=>if n-1<0 then (n-1,true) else Tu (n-1) l
def Tu (n:Int):List Term->Int×Bool
 | []=>(n,false)
 | a::l=>if (Pm n a).2 then ((Pm n a).1,true) else Tu (Pm n a).1 l
end
theorem yG (n:Int)(t:Term):Pm n t=if n-1<0 then (n-1,true) else Tu (n-1) t.args:=by cases t;rfl
theorem rn (n:Int)(l:List Term):Tu n l=Vf Pm n l:=by
 induction l generalizing n with
 | nil=>rfl
 | cons a l ih=>simp only[Tu,Vf,ih]
mutual
theorem XA:∀ (t:Term)(n:Int),0<=n->((size t:Int)<=n->Pm n t=(n-size t,false))/\(n<(size t:Int)->(Pm n t).2=true)
 | .mk x v l,n,hn=>by
  have hs:size (.mk x v l)=1+Af l:=rfl
  rw[hs]
  simp only[Pm]
  by_cases h:n-1<0
  ·rw[if_pos h]
   exact⟨fun h2=>by omega,fun _=>rfl⟩
  ·rw[if_neg h]
   have:=Zr l (n-1) (by omega)
   refine⟨fun h2=>?_,fun h2=>this.2 (by omega)⟩
   rw[this.1 (by omega)]
   congr 1;omega
theorem Zr:∀ (l:List Term)(n:Int),0<=n->((Af l:Int)<=n->Tu n l=(n-Af l,false))/\(n<(Af l:Int)->(Tu n l).2=true)
 | [],n,hn=>⟨fun _=>by simp[Tu,Af],fun h=>by simp[Af]at h;omega⟩
 | a::l,n,hn=>by
  have hs:Af (a::l)=size a+Af l:=rfl
  rw[hs]
  simp only[Tu]
  have h1:=XA a n hn
  by_cases h2:(size a:Int)<=n
  ·have h3:=Zr l (n-size a) (by omega)
   rw[h1.1 h2]
   simp only[Bool.false_eq_true,if_false]
   refine⟨fun h4=>?_,fun h4=>h3.2 (by omega)⟩
   rw[h3.1 (by omega)]
   congr 1;omega
  ·rw[h1.2 (by omega),if_pos rfl]
   exact⟨fun h4=>by omega,fun _=>rfl⟩
end
theorem pR {n:Int}{t:Term}(hn:0<=n/\n<=4000)(h:(Pm n t).2=false):0<=(Pm n t).1/\(Pm n t).1<=4000:=by
 have:=XA t n hn.1
 by_cases h2:(size t:Int)<=n
 ·rw[this.1 h2];simp;omega
 ·rw[this.2 (by omega)]at h;cases h
mutual
def Dr:Term->Nat
 | .mk _ _ l=>max l.length (JO l)
def JO:List Term->Nat
 | []=>0
 | a::l=>max (Dr a) (JO l)
end
theorem Em (t:Term):t.args.length<=Dr t/\JO t.args<=Dr t:=by cases t;simp only[Dr,Term.args];omega
theorem T9 {l:List Term}{a:Term}(h:a∈l):Dr a<=JO l:=by
 induction l with
 | nil=>cases h
 | cons x xs ih=>rcases List.mem_cons.1 h with rfl | h<;>simp only[JO];omega;have:=ih h;omega
def Q8 (n:Int):List Ob:=[.cells t_int [.int .i64 n],.cells GO [.fn (.func Dz) [] [.ptr 0 0,.ptr 1 0]]]
theorem gF (n:Int):(Q8 n).map (A6 (AI 2))=Q8 n:=rfl
theorem VN (W:Nat)(hW:W<2^60)(t:Term)(hw:Dr t<=W):∀ n:Int,0<=n/\n<=4000->Spec prog Dz [An t,.ptr 0 0,.ptr 1 0] (Q8 n) fun x H'=>x=.bool (Pm n t).2/\H'=Q8 (Pm n t).1:=by
 induction t using Ah with
 | h t ih =>
 intro n hn
 have hwa:=Em t
 have hw1:IntKind.i64.wrap (n-1)=n-1:=Cr (by omega) (by omega)
 refine AC mixed RC.ok rfl ?_
 rw[yG]
 by_cases h:n-1<0
 ·rw[if_pos h]
  unfold Q8
  push_cast[hw1,eq_true h]
  exact Ck (.inl rfl) rfl ⟨rfl,rfl⟩
 ·rw[if_neg h,rn]
  have hC:=Pf (S:=Int) (F:=Pm) (Hs:=Q8) (Inv:=fun n=>0<=n/\n<=4000) (g:=Dz) (n:=2) (caps:=[.ptr 0 0,.ptr 1 0]) (fun _=>rfl) rfl gF t.args (by omega)
   (fun a ha s hs=>ih a ha (by have:=T9 ha;omega) s hs) (fun a ha s hs hf=>pR hs hf) (n-1) (by omega)
  unfold Q8 at hC ⊢
  push_cast[hw1,eq_false h]
  refine Bl.all (R:=fun x H'=>x=.bool (Vf Pm (n-1) t.args).2/\H'=[.cells t_int [.int .i64 (Vf Pm (n-1) t.args).1],.cells GO [.fn (.func Dz) [] [.ptr 0 0,.ptr 1 0]]]) hC ?_
  rintro x H' ⟨rfl,rfl⟩
  push_cast
  exact Ck (.inl rfl) rfl ⟨rfl,rfl⟩
theorem Zn (t:Term)(hw:Dr t<2^60):PF Nc [An t] (.bool (decide (4000<size t))):=by
 refine Ad Qc.ok rfl ?_
 push_cast
 have hL:=VN _ hw t (Nat.le_refl _) 4000 (by omega)
 unfold Q8 at hL
 refine Bl.all (R:=fun x H'=>x=.bool (Pm 4000 t).2/\H'=[.cells t_int [.int .i64 (Pm 4000 t).1],.cells GO [.fn (.func Dz) [] [.ptr 0 0,.ptr 1 0]]]) hL ?_
 rintro x H' ⟨rfl,rfl⟩
 push_cast
 refine A0 ?_
 push_cast[Qc.rs]
 have:=XA t 4000 (by omega)
 by_cases h:4000<size t
 ·rw[this.2 (by omega)];simpa using h
 ·rw[this.1 (by omega)];simpa using h
end Go.Dw
end
section
namespace Go.Dw
mutual
theorem Lz:∀ (t:Term)(p:List Int),∀ x∈Ab t p,∃ q,x.1=p++q/\Bt t q=some x.2
 | .mk n v l,p,x,hx=>by
  simp only[Ab]at hx
  rcases List.mem_cons.1 hx with rfl | hx
  ·exact⟨[],by simp,rfl⟩
  ·obtain⟨k,q,h1,h2,h3⟩:=aH l p 0 x hx
   refine⟨(k:Int)::q,by simpa using h1,?_⟩
   rw[show Bt (.mk n v l) ((k:Int)::q)=if 0<=(k:Int)/\(k:Int)<l.length then Bt (l.getD (k:Int).toNat default) q else none from rfl,if_pos ⟨by omega,by omega⟩]
   simpa using h3
theorem aH:∀ (l:List Term)(p:List Int)(i:Nat),∀ x∈Bb l p i,∃ (k:Nat) (q:List Int),x.1=p++((i+k:Nat):Int)::q/\k<l.length/\Bt (l.getD k default) q=some x.2
 | [],p,i,x,hx=>by simp[Bb]at hx
 | a::l,p,i,x,hx=>by
  simp only[Bb,List.mem_append]at hx
  rcases hx with hx | hx
  ·obtain⟨q,h1,h2⟩:=Lz a _ x hx
   exact⟨0,q,by simpa using h1,by simp,by simpa using h2⟩
  ·obtain⟨k,q,h1,h2,h3⟩:=aH l p (i+1) x hx
   refine⟨k+1,q,?_,by simp;omega,by simpa using h3⟩
   rw[h1];congr 3;omega
end
theorem Zs (t:Term){k:Nat}(hk:k<(DZ t).length):Bt t ((DZ t).getD k default)=some ((Ab t []).getD k default).2/\((Ab t []).getD k default).1=(DZ t).getD k default:=by
 have hl:k<(Ab t []).length:=by rw[FV];rw[T1]at hk;exact hk
 have hm:(Ab t []).getD k default∈Ab t []:=A4 hl
 obtain⟨q,h1,h2⟩:=Lz t [] _ hm
 have h3:=Jh t []
 have h4:((Ab t []).map Prod.fst).getD k default=((DZ t).map ([]++·)).getD k default:=by rw[h3]
 have h5:((Ab t []).getD k default).1=(DZ t).getD k default:=by
  simp only[List.getD_eq_getElem?_getD,List.getElem?_map,List.getElem?_eq_getElem hl,List.getElem?_eq_getElem hk,Option.map_some,Option.getD_some,List.nil_append]at h4 ⊢
  exact h4
 refine⟨?_,h5⟩
 rw[<-h5,h1,List.nil_append];exact h2
theorem lS {r:List A3}{p:List Int}{s:Term}(hnv:∀ x∈r,x.left.var=false)(hs:s.var=true):∀ k,k<=r.length->Wr r p s k=[]
 | 0,_=>rfl
 | k+1,hk=>by
  simp only[Wr,lS hnv hs k (by omega),List.nil_append]
  rw[J3,hnv _ (A4 (show k<r.length by omega))]
  simp[hs]
theorem Adf {r:List A3}{p:List Int}{s:Term}(hnv:∀ x∈r,x.left.var=false):lR r p s=Wr r p s r.length:=by
 unfold lR
 split
 ·rename_i h;exact (lS hnv h _ (Nat.le_refl _)).symm
 ·rfl
theorem lY {i:Nat}{l:List BZ}{s:BZ}:(.own i 2 (l.map Pi++[Pi s]):V)=B8 Pi i 2 (l++[s]):=by simp[B8]
theorem nI (r:List A3)(l:List (List Int×Term)){k:Nat}(hk:k<l.length):Q4 r (l.take (k+1))=Q4 r (l.take k)++lR r (l.getD k default).1 (l.getD k default).2:=by
 rw[List.take_succ_eq_append_getElem hk,Uv];simp[List.getD_eq_getElem?_getD,hk]
theorem oC (r:List A3)(t:Term)(hr:Mg r<2^28)(hnv:∀ x∈r,x.left.var=false)(ht:tb t<2^28)(hm:size t*r.length<2^38):PF UQ [As r,An t] (Cq (EN r t)):=by
 have hst:=Bc t
 have hvl:(Ab t []).length=size t:=FV t []
 have hpl:=T1 t
 have hrl:=By r
 refine Ad Oz.ok rfl ?_
 push_cast
 refine .of (Pc t (by omega)) ?_
 push_cast
 have hAl:∀ k,(Q4 r ((Ab t []).take k)).length<=size t*r.length:=fun k=>Nat.le_trans (SZ r _) (Nat.mul_le_mul_right _ (by rw[List.length_take];omega))
 refine Ae (n:=(DZ t).length) (R:=fun k=>Oz.L6 (As r) (.ro (cT t) 0) (B8 Pi 0 2 (Q4 r ((Ab t []).take k))) (JZ (DZ t)) (.int .i64 (DZ t).length) (.int .i64 k) 0 [.arr DN 2 (Q4 r ((Ab t []).take k)).length] (BH 0 Oz.rs fun x' H'=>x'=Cq (EN r t)/\H'=[])) ?_ ?_ 0 (Nat.zero_le _)
 ·intro k hk ih
  have hkv:k<(Ab t []).length:=by omega
  obtain⟨hv1,hv2⟩:=Zs t hk
  have hvm:=A4 hkv
  have hsub:=I0 t [] _ hvm
  have htk:=nI r (Ab t []) hkv
  have hAk:=hAl k
  have hAk1:=hAl (k+1)
  have hps:=YE t _ (A4 hk)
  rw[htk]at ih hAk1
  refine A7.2 ?_
  generalize hx:(Ab t []).getD k default=x at hv1 hv2 hsub htk ih hAk1 hvm
  generalize hp:(DZ t).getD k default=p at hv1 hv2 hps
  rw[hv2,Adf hnv]at ih hAk1
  rw[List.length_append]at hAk1
  generalize Q4 r ((Ab t []).take k)=A at ih hAk hAk1 ⊢
  push_cast[BB hk,hp]
  refine .of (Xc t p (by omega) (by omega)) ?_
  rw[hv1]
  push_cast[LU]
  have h0:=Ae (n:=r.length) (R:=fun j=>Oz.L4 (As r) (.ro (cT t) 0) (B8 Pi 0 2 (A++Wr r p x.2 j)) (D0 p) (.ro (cT x.2) 0) (JZ (DZ t)) (.int .i64 (DZ t).length) (.int .i64 k) (.int .i64 r.length) (.int .i64 j) 0 [.arr DN 2 (A++Wr r p x.2 j).length,.dead] (BH 0 Oz.rs fun x' H'=>x'=Cq (EN r t)/\H'=[])) ?_ ?_ 0 (Nat.zero_le _)
  ·simp only[Wr,List.append_nil]at h0
   exact h0
  ·intro j hj ih2
   have hmj:=A4 hj
   have hmm:=Gc hmj
   refine A7.2 ?_
   have hsucc:Wr r p x.2 (j+1)=Wr r p x.2 j++(if (AR [] (r.getD j default).left x.2).2 then [⟨j,p⟩] else []):=rfl
   rw[hsucc]at ih2
   have hjl:=Wh r p x.2 j
   generalize hru:r.getD j default=ru at hmm ih2
   have hM:=YL ru.left [] x.2
   push_cast[BB hj,hru]
   refine .of (Pv ru.left x.2 (by omega) (by have:=kJ _ _ _ hv1;omega)) ?_
   rw[hM.1]
   cases hb:(AR [] ru.left x.2).2 with
   | false =>
    rw[hb]at ih2
    push_cast[Co (show j<2^62 by omega)]
    simp only[Bool.false_eq_true,if_false,List.append_nil]at ih2
    rw[List.length_append]at ih2
    push_cast at ih2
    exact ih2
   | true =>
    rw[hb]at ih2
    have hsn:(V.int .i64 j::[D0 p])=Pi ⟨j,p⟩:=rfl
    push_cast[Co (show j<2^62 by omega)]
    simp only[if_true,<-List.append_assoc]at ih2
    have hme:Ai=140737488355328:=rfl
    refine⟨by omega,?_⟩
    rw[show (V.own 0 2 (List.map Pi (A++Wr r p x.snd j)++[[V.int IntKind.i64 ↑j,Dp cI 1 p]]):V)=B8 Pi 0 2 (A++Wr r p x.snd j++[⟨j,p⟩]) from lY (s:=⟨j,p⟩),List.append_assoc]
    rw[List.length_append,List.length_append,List.length_singleton]at ih2
    push_cast at ih2
    exact ih2
  ·refine A7.2 ?_
   push_cast[AZ (Nat.le_refl _),Co (show k<2^62 by omega)]
   rw[List.length_append]at ih
   push_cast at ih
   exact ih
 ·refine A7.2 ?_
  push_cast[AZ (Nat.le_refl _)]
  rw[List.take_of_length_le (by omega)]
  exact A0 (by push_cast[Oz.rs];rfl)
section
variable {P:Program} {N:Nat->C} {B:Nat} {ds:List Nat} {g l:List S} {s:List K} {t:T} {H:List Ob} {Q:X->T->List Ob->Prop}
theorem AcU:gP P N B true ds g l s t H Q (.bool true)=Ax P N B (.r (g++l)::s) t H Q:=by simp[gP]
theorem AdA:gP P N B false ds g l s t H Q (.bool false)=Ax P N B (.r (g++l)::s) t H Q:=by simp[gP]
theorem Adh:gP P N B true ds g l s t H Q (.bool false)=Ax P N B (.r l::s) (ds.map (fun d=>(d,V.tup []))++t) H Q:=by simp[gP]
theorem AdK:gP P N B false ds g l s t H Q (.bool true)=Ax P N B (.r l::s) (ds.map (fun d=>(d,V.tup []))++t) H Q:=by simp[gP]
theorem AeG {a b:C}:cP P N B a b s t H Q (.bool true)=Ax P N B (.c a::s) t H Q:=by simp[cP]
theorem AeR {a b:C}:cP P N B a b s t H Q (.bool false)=Ax P N B (.c b::s) t H Q:=by simp[cP]
end
theorem YT (r:List A3)(t:Term)(hr:Mg r<2^28)(hnv:∀ x∈r,x.left.var=false)(ht:tb t<2^28)(hm:size t*r.length<2^38):PF MZ [As r,An t,.int .i64 1] (Cq (EN r t)):=by
 refine Ad K1.ok rfl ?_
 push_cast
 refine .of (oC r t hr hnv ht hm) ?_
 push_cast
 have hA:(EN r t).length<=size t*r.length:=by have h1:=SZ r (Ab t []);rw[FV]at h1;exact h1
 generalize EN r t=L at hA ⊢
 rw[show (V.own 0 2 []:V)=B8 Pi 0 2 (L.take 0) from rfl]
 refine Ae (n:=L.length) (R:=fun k=>K1.L7 (.int .i64 1) (Cq L) (B8 Pi 0 2 (L.take k)) (Cq L) (.int .i64 L.length) (.int .i64 k) 0 [.arr DN 2 k] (BH 0 K1.rs fun x' H'=>x'=Cq L/\H'=[])) ?_ ?_ 0 (Nat.zero_le _)
 ·intro k hk ih
  have htk:L.take (k+1)=L.take k++[L.getD k default]:=by rw[List.take_succ_eq_append_getElem hk];simp[List.getD_eq_getElem?_getD,hk]
  have hlk:(L.take k).length=k:=by simp;omega
  rw[htk]at ih
  refine A7.2 ?_
  generalize hs:L.getD k default=s at ih
  generalize L.take k=A at ih hlk ⊢
  have c2:((1:Int)=2)=False:=eq_false (by omega)
  have c3:((1:Int)=3)=False:=eq_false (by omega)
  have c4:((1:Int)=4)=False:=eq_false (by omega)
  have c5:((1:Int)=5)=False:=eq_false (by omega)
  push_cast[-mq,-me,AcU,AdA,Adh,AdK,AeG,AeR,BB hk,hs,c2,c3,c4,c5]
  push_cast[lY,hlk,Co (show k<2^62 by omega)]
  push_cast at ih
  exact⟨by unfold Ai;omega,ih⟩
 ·refine A7.2 ?_
  push_cast[AZ (Nat.le_refl _)]
  rw[List.take_length]
  exact A0 (by push_cast[K1.rs])
end Go.Dw
end
namespace Go.Dw
theorem M5 {r:List A3}(h:Ao r=0):∀ x∈r,x.left.var=false:=by
 unfold Ao at h
 split at h
 ·rename_i h1;exact absurd h h1
 ·split at h
  ·cases h
  ·split at h
   ·cases h
   ·split at h
    ·cases h
    ·rename_i h3
     intro x hx
     have h4:M8 x=false:=by
      cases he:M8 x with
      | false=>rfl
      | true=>exact absurd (List.any_eq_true.2 ⟨x,hx,he⟩) h3
     unfold M8 at h4
     simp only[Bool.or_eq_false_iff]at h4
     exact h4.1
theorem U3 (v:A9)(t:Term):CX v t=((t.var&&decide (t.name=v))||ER v t.args):=by cases t;rfl
theorem fp {v:A9}{l:List Term}{a:Term}(h:a∈l)(ho:CX v a=true):ER v l=true:=by
 induction l with
 | nil=>cases h
 | cons x xs ih =>
  simp only[ER,Bool.or_eq_true]
  rcases List.mem_cons.1 h with rfl | h
  ·exact .inl ho
  ·exact .inr (ih h)
theorem ly {v:A9}{t a:Term}(h:a∈t.args)(ho:CX v a=true):CX v t=true:=by rw[U3,fp h ho,Bool.or_true]
theorem fq {t:Term}(h:t.var=true):CX t.name t=true:=by rw[U3,h];simp
theorem bA (vars:List A9)(x:List Term)(hva:vars.length<=x.length)(hl:vars.length<2^40)(t:Term)(ht:size t<2^40)(ho:∀ v,CX v t=true->v∈vars):PF KG [An t,C7 vars,Bk x] (An (NA vars x t)):=by
 induction t using Ah with
 | h t ih =>
 have hst:=Aq t
 have hll:=Ap t.args
 refine Ad M1.ok rfl ?_
 rw[Yq]
 cases hv:t.var with
 | true =>
  obtain⟨h1,h2,h3⟩:=KK (ho _ (fq hv))
  have hI:=Fv vars t.name (by omega)
  rw[h1]at hI
  have hlt:((XM t.name vars:Int)<(x.length:Int))=True:=eq_true (by omega)
  push_cast[hv]
  refine .of hI ?_
  push_cast[hlt]
  exact A0 (by push_cast[M1.rs])
 | false =>
  push_cast[hv]
  refine Ae (n:=t.args.length) (R:=fun k=>M1.L3 (C7 vars) (Bk x) (.ptr 0 0) (.ptr 1 0) (Bk t.args) (.int .i64 t.args.length) (.int .i64 k) 0 [.cells A2 [.str [],.bool false,.sl 3 []],.cells A2 [.str t.name,.bool false,B8 cT 2 3 ((t.args.take k).map (NA vars x))],.arr A2 3 k] _) ?_ ?_ 0 (by omega)
  ·intro k hk ih2
   have hm:=A4 hk
   have hm2:=B4 hm
   have hlen:((t.args.take k).map (NA vars x)).length=k:=by simp;omega
   rw[Aa hk,List.map_append,List.map_singleton]at ih2
   refine A7.2 ?_
   push_cast[BB hk]
   refine .of (ih _ hm (by omega) fun v hv2=>ho v (ly hm hv2)) ?_
   push_cast[hlen,Co (show k<2^62 by omega)]
   exact⟨Nat.le_trans (Nat.mul_le_mul_right 48 (show _<=2^41 by omega)) (by unfold Ai;decide),ih2⟩
  ·refine A7.2 ?_
   push_cast[AZ (Nat.le_refl _)]
   refine A0 ?_
   push_cast[M1.rs,List.take_length,zq]
   try rfl
theorem bO (r:List A3)(f:A3->Term)(g:Nat)(hr:Mg r<2^38)(hof:∀ x∈r,PF g [Oh x] (An (f x)))(hsz:∀ x∈r,size (f x)<2^40)(hvs:∀ x∈r,∀ v,CX v (f x)=true->v∈AD [x.left])(m:A1)(hok:Kc r m)(hm:AV m<2^39) :
  PF KU [As r,Be m,.fn (.func g) [] []] (An (Az r f m)):=by
 induction m using Ek with
 | h m ih =>
 have hst:=Bj m
 have hll:=Ca m.args
 refine Ad M0.ok rfl ?_
 rw[FL]
 push_cast
 refine Ae (n:=m.args.length) (R:=fun k=>M0.L4 (As r) (.fn (.func g) [] []) (.ro (cM m) 0) (.ptr 0 0) (B8 cT 1 3 ((m.args.take k).map (Az r f))) (Fk m.args) (.int .i64 m.args.length) (.int .i64 k) 0 [.cells A2 [.str [],.bool false,.sl 3 []],.arr A2 3 k] _) ?_ ?_ 0 (by omega)
 ·intro k hk ih2
  have hmm:=A4 hk
  have hm2:=DU hmm
  have hlen:((m.args.take k).map (Az r f)).length=k:=by simp;omega
  rw[Aa hk,List.map_append,List.map_singleton]at ih2
  refine A7.2 ?_
  push_cast[BB hk]
  refine .of (ih _ hmm (hok.arg hmm) (by omega)) ?_
  push_cast[hlen,Co (show k<2^62 by omega)]
  exact⟨Nat.le_trans (Nat.mul_le_mul_right 48 (show _<=2^41 by omega)) (by unfold Ai;decide),ih2⟩
 ·refine A7.2 ?_
  push_cast[AZ (Nat.le_refl _),List.take_length]
  by_cases h0:m.rule=0
  ·push_cast[eq_true h0]
   refine A0 ?_
   push_cast[M0.rs]
   show V.agg [.str m.name,.bool m.var,Bk (m.args.map (Az r f))]=An (.mk m.name m.var (m.args.map (Az r f)))
   unfold An;rw[Qm];rfl
  ·obtain⟨k1,k2,k3,k4,k5,k6⟩:=hok.rule h0
   have hw:IntKind.i64.wrap (m.rule-1)=m.rule-1:=Cr (by have:=By r;omega) (by have:=By r;omega)
   have hc1:((0:Int)<=m.rule-1)=True:=eq_true (by omega)
   have hc2:(m.rule-1<(r.length:Int))=True:=eq_true (by omega)
   have hru:r.getD (m.rule-1).toNat default=C8 r m:=rfl
   have hrm:=Gc k3
   have hsl:=Bc (C8 r m).left
   have hV:=DS [(C8 r m).left] (by simp[Af];omega)
   push_cast[eq_false h0,hw,hc1,hc2,hru]
   refine .of (hof _ k3) ?_
   push_cast
   refine .of hV ?_
   push_cast
   refine .of (bA (AD [(C8 r m).left]) (m.args.map (Az r f)) (by rw[List.length_map,k4];exact Nat.le_refl _) (by rw[<-k4];omega) _ (hsz _ k3) (hvs _ k3)) ?_
   push_cast
   exact A0 (by push_cast[M0.rs])
theorem UV {α:Type}{f:α->Term}{W:Nat}:∀ {l:List α},(∀ a∈l,Dr (f a)<=W)->JO (l.map f)<=W
 | [],_=>by simp[JO]
 | a::l,h=>by
  simp only[List.map_cons,JO]
  have h1:=h a (by simp)
  have h2:=UV (f:=f) (l:=l) fun b hb=>h b (by simp[hb])
  omega
theorem jk {l:List Term}{k:Nat}:Dr (l.getD k default)<=JO l:=by
 by_cases h:k<l.length
 ·exact T9 (A4 h)
 ·rw[List.getD_eq_getElem?_getD,List.getElem?_eq_none (by omega)]
  exact Nat.zero_le _
theorem nT (vars:List A9)(x:List Term)(t:Term):Dr (NA vars x t)<=max (JO x) (size t):=by
 induction t using Ah with
 | h t ih =>
  rw[Yq]
  have hst:=Aq t
  have hll:=Ap t.args
  split
  ·have:=jk (l:=x) (k:=XM t.name vars);omega
  ·simp only[Dr,List.length_map]
   have:=UV (f:=NA vars x) (W:=max (JO x) (size t)) (l:=t.args) fun a ha=>by
    have:=ih a ha
    have:=B4 ha
    omega
   omega
theorem oV (r:List A3)(f:A3->Term){W:Nat}(hsz:∀ x∈r,size (f x)<=W)(m:A1)(hok:Kc r m)(hm:AV m<=W):Dr (Az r f m)<=W:=by
 induction m using Ek with
 | h m ih =>
  rw[FL]
  have hst:=Bj m
  have hll:=Ca m.args
  have hw:=UV (f:=Az r f) (W:=W) (l:=m.args) fun a ha=>ih a ha (hok.arg ha) (by have:=DU ha;omega)
  split
  ·simp only[Dr,List.length_map];omega
  ·rename_i h0
   have:=nT (AD [(C8 r m).left]) (m.args.map (Az r f)) (f (C8 r m))
   have:=hsz _ (hok.rule h0).2.2.1
   omega
theorem V3 (r:List A3)(f:A3->Term)(g:Nat)(m:A1)(hr:Mg r<2^38)(hm:mb m<2^38)(hof:∀ x∈r,PF g [Oh x] (An (f x)))(hsz:∀ x∈r,size (f x)<2^40)(hvs:Ao r=0->∀ x∈r,∀ v,CX v (f x)=true->v∈AD [x.left]) :
  PF Mw [As r,Be m,.fn (.func g) [] []] (I2 (MX r f m).1 (MX r f m).2):=by
 have hmz:=My m
 refine Ad Ll.ok rfl ?_
 push_cast
 refine .of (Zc r m hr (by omega)) ?_
 unfold MX
 by_cases h1:¬ LF r m=0
 ·rw[if_pos h1]
  push_cast[eq_false h1]
  exact A0 (by push_cast[Ll.rs];rfl)
 have h1:LF r m=0:=Classical.not_not.1 h1
 rw[if_neg (by simpa using h1)]
 obtain⟨c1,c2,c3,c4⟩:=Uk h1
 have hS:=bO r f g hr hof hsz (hvs c1) m c2 (by omega)
 have hwd:=oV r f (W:=2^40) (fun x hx=>by have:=hsz x hx;omega) m c2 (by omega)
 generalize Az r f m=t at hS hwd
 push_cast[h1]
 refine .of hS ?_
 push_cast
 refine .of (Zn t (by omega)) ?_
 by_cases h2:4000<size t
 ·have hf:BU t=false:=by unfold BU;simp;omega
  rw[hf]
  push_cast[eq_true h2]
  exact A0 (by push_cast[Ll.rs];rfl)
 ·push_cast[eq_false h2]
  refine .of (OA t (by omega)) ?_
  push_cast
  refine .of (Xd t (by omega)) ?_
  cases hf:BU t with
  | true =>
   rw[if_pos rfl,if_pos rfl]
   unfold I2
   push_cast
   exact A0 (by push_cast[Ll.rs];try rfl)
  | false =>
   rw[if_neg (by simp),if_neg (by simp)]
   unfold I2
   push_cast
   exact A0 (by push_cast[Ll.rs];try rfl)
theorem Vq (x:A3):∀ v,CX v x.left=true->v∈AD [x.left]:=fun v h=>(E5 v x.left).2 h
theorem Oy {r:List A3}(h:Ao r=0):∀ x∈r,∀ v,CX v x.right=true->v∈AD [x.left]:=by
 unfold Ao at h
 split at h
 ·rename_i h1;exact absurd h h1
 ·split at h
  ·cases h
  ·split at h
   ·cases h
   ·split at h
    ·cases h
    ·rename_i h3
     intro x hx v hv
     have h4:M8 x=false:=by
      cases he:M8 x with
      | false=>rfl
      | true=>exact absurd (List.any_eq_true.2 ⟨x,hx,he⟩) h3
     unfold M8 at h4
     simp only[Bool.or_eq_false_iff]at h4
     have:=List.any_eq_false.1 h4.2 v ((E5 v x.right).2 hv)
     simpa using this
theorem Un (x:A3):PF GN [Oh x] (An x.left):=by
 refine Ad Ls.ok rfl ?_
 push_cast
 exact A0 (by push_cast[Ls.rs];try rfl)
theorem Ua (x:A3):PF GV [Oh x] (An x.right):=by
 refine Ad LR.ok rfl ?_
 push_cast
 exact A0 (by push_cast[LR.rs];try rfl)
theorem WH (r:List A3)(m:A1)(hr:Mg r<2^38)(hm:mb m<2^38):PF LV [As r,Be m] (I2 (MX r A3.left m).1 (MX r A3.left m).2):=by
 refine Ad O5.ok rfl ?_
 have hE:=V3 r A3.left GN m hr hm (fun x _=>Un x) (fun x hx=>by have:=Gc hx;have:=Bc x.left;omega) (fun _ x _=>Vq x)
 push_cast
 refine .of hE ?_
 generalize (MX r A3.left m)=p
 obtain⟨o,e⟩:=p
 cases o<;>(unfold I2;push_cast;exact A0 (by push_cast[O5.rs];try rfl))
theorem Y8 (r:List A3)(m:A1)(hr:Mg r<2^38)(hm:mb m<2^38):PF LC [As r,Be m] (I2 (MX r A3.right m).1 (MX r A3.right m).2):=by
 refine Ad Oa.ok rfl ?_
 have hE:=V3 r A3.right GV m hr hm (fun x _=>Ua x) (fun x hx=>by have:=Gc hx;have:=Bc x.right;omega) (fun h=>Oy h)
 push_cast
 refine .of hE ?_
 generalize (MX r A3.right m)=p
 obtain⟨o,e⟩:=p
 cases o<;>(unfold I2;push_cast;exact A0 (by push_cast[Oa.rs];try rfl))
end Go.Dw
section
namespace Go.Dw
section
variable {P:Program} {N:Nat->C} {B:Nat} {ds:List Nat} {g l:List S} {s:List K} {t:T} {H:List Ob} {Q:X->T->List Ob->Prop}
theorem Ad6:gP P N B true ds g l s t H Q (.bool true)=Ax P N B (.r (g++l)::s) t H Q:=by simp[gP]
theorem AdN:gP P N B false ds g l s t H Q (.bool false)=Ax P N B (.r (g++l)::s) t H Q:=by simp[gP]
theorem AcZ:gP P N B true ds g l s t H Q (.bool false)=Ax P N B (.r l::s) (ds.map (fun d=>(d,V.tup []))++t) H Q:=by simp[gP]
theorem Adi:gP P N B false ds g l s t H Q (.bool true)=Ax P N B (.r l::s) (ds.map (fun d=>(d,V.tup []))++t) H Q:=by simp[gP]
theorem AeP {a b:C}:cP P N B a b s t H Q (.bool true)=Ax P N B (.c a::s) t H Q:=by simp[cP]
theorem Aeu {a b:C}:cP P N B a b s t H Q (.bool false)=Ax P N B (.c b::s) t H Q:=by simp[cP]
end
attribute [push_cast] Ad6 AdN AcZ Adi AeP Aeu
end Go.Dw
end
namespace Go.Dw
def T6 (s:A9):List A9->List A9
 | []=>[s]
 | x::l=>if x<s then x::T6 s l else if x=s then x::l else s::x::l
theorem qN (s:A9):∀ l:List A9,Ph l s=T6 s l
 | []=>rfl
 | x::l=>by
  have ih:=qN s l
  unfold Ph at ih ⊢
  simp only[Z1,T6]
  by_cases h:x<s
  ·simp only[h,decide_true,if_true]
   rw[<-ih]
   simp only[List.length_cons,Nat.add_lt_add_iff_right,List.getD_cons_succ,List.take_succ_cons,List.drop_succ_cons]
   split<;>simp
  ·simp only[h,decide_false,Bool.false_eq_true,if_false,List.length_cons,Nat.zero_lt_succ,true_and,List.getD_cons_zero,List.take_zero,List.drop_zero,List.nil_append]
def SS (l:List A9):Prop:=l.Pairwise (· < ·)
theorem be {s v:A9}:∀ {l:List A9},v∈T6 s l->v∈l\/v=s
 | [],h=>.inr (by simpa[T6]using h)
 | x::l,h=>by
  unfold T6 at h
  split at h
  ·rcases List.mem_cons.1 h with rfl | h
   ·exact .inl (by simp)
   ·rcases be h with h | h
    ·exact .inl (by simp[h])
    ·exact .inr h
  ·split at h
   ·exact .inl h
   ·rcases List.mem_cons.1 h with rfl | h
    ·exact .inr rfl
    ·exact .inl h
theorem T5 {s:A9}:∀ {l:List A9},SS l->SS (T6 s l)
 | [],_=>by simp[T6,SS]
 | x::l,h=>by
  unfold SS at h ⊢
  rw[List.pairwise_cons]at h
  unfold T6
  split
  ·rename_i hx
   rw[List.pairwise_cons]
   refine⟨fun v hv=>?_,T5 h.2⟩
   rcases be hv with hv | rfl
   ·exact h.1 v hv
   ·exact hx
  ·rename_i hx
   split
   ·rw[List.pairwise_cons];exact h
   ·rename_i hne
    have hsx:s<x:=by
     rcases Classical.em (s<x)with hc | hc
     ·exact hc
     ·exact absurd (YA hc hx).symm hne
    rw[List.pairwise_cons,List.pairwise_cons]
    refine⟨fun v hv=>?_,h⟩
    rcases List.mem_cons.1 hv with rfl | hv
    ·exact hsx
    ·exact Lf hsx (h.1 v hv)
mutual
theorem Kp:∀ (t:Term)(l:List A9),SS l->SS (DD l t)
 | .mk n b ar,l,h=>by
  simp only[DD]
  refine ND ar _ ?_
  split
  ·rw[qN];exact T5 h
  ·exact h
theorem ND:∀ (ar:List Term)(l:List A9),SS l->SS (BC l ar)
 | [],l,h=>h
 | a::ar,l,h=>by simp only[BC];exact ND ar _ (Kp a l h)
end
theorem XH (l:List A9):∀ ks:List A9,ks.Nodup->(l.foldl VM ks).Nodup:=by
 induction l with
 | nil=>intro ks h;exact h
 | cons x l ih =>
  intro ks h
  refine ih _ ?_
  unfold VM
  split
  ·exact h
  ·rename_i hx
   rw[List.nodup_append]
   exact⟨h,by simp,fun a ha b hb e=>by rw[List.mem_singleton]at hb;subst hb;subst e;exact hx ha⟩
theorem XE (t:Term):DT t=AD [t]:=by
 have h1:SS (DT t):=Kp t [] List.Pairwise.nil
 have h2:(HV [] [t]).Nodup:=by
  show (Ra [] (Ab t [])).Nodup
  exact XH _ _ List.nodup_nil
 have hm:∀ v,v∈DT t↔v∈HV [] [t]:=fun v=>by
  have e1:v∈DT t↔CX v t=true:=by
   unfold DT;rw[FA];simp
  have e2:=E5 v t
  unfold AD at e2
  rw[(List.mergeSort_perm _ _).mem_iff]at e2
  rw[e1,e2]
 have hnd:(DT t).Nodup:=h1.imp fun hab e=>by rw[e]at hab;exact Cs _ hab
 have hp:(DT t).Perm (HV [] [t]):=(List.perm_ext_iff_of_nodup hnd h2).2 hm
 unfold AD
 have e3:Proofs.sortS (HV [] [t])=Proofs.sortS (DT t):=Go.mergeSort_of_perm hp.symm
 rw[e3]
 unfold Proofs.sortS
 refine (List.mergeSort_of_pairwise ?_).symm
 refine h1.imp fun {a b} hab=>?_
 simpa using List.le_of_lt hab
end Go.Dw
section
namespace Go.Dw
open Go.Proofs Go.Proofs.YtkdcfkfdkimaeaaGreatDoor
theorem rC {P:Program}{W:World}{name:String}{cs:Array Value}{g:Nat}(hg:P.globalNamed name=some g)(h:W.var? P name=some cs):∃ e fz,W.heap[g]?=some (.cells cs e fz):=by
 unfold World.var? at h
 rw[hg]at h
 simp only[Option.bind_some]at h
 split at h
 ·rename_i c e fz hh
  injection h with h
  subst h
  exact⟨_,_,hh⟩
 ·cases h
theorem zW : prog.globalNamed "internal/strconv.uint64pow10" = some 1 := by kernel_rfl
theorem Adq:(prog.globals[1]?).map (·.type)=some 323:=by kernel_rfl
theorem Adc:prog.underlying 323=some (.array 20 254):=by kernel_rfl
theorem zX:prog.underlying 254=some (.int .u64):=by kernel_rfl
theorem Acd:prog.cellsOf 254=1:=by kernel_rfl
theorem AdG:prog.cellsOf 323=20:=by kernel_rfl
theorem nv {L:List (String×DataW Unit)}{W:World}(hL:laidMetH prog L W)
  (he : L=[("math/bits.deBruijn32tab",Rows.laid_math_bits_deBruijn32tab),("math/bits.deBruijn64tab",Rows.laid_math_bits_deBruijn64tab),("internal/strconv.uint64pow10",Rows.laid_internal_strconv_uint64pow10)]) : jb ⟨W,okW W,fun _ => none,[]⟩ := by
 subst he
 have h3 : laidMet prog [("internal/strconv.uint64pow10",Lib.tabData .u64 Lib.pow10Tab)] W := laidMet.tail (laidMet.tail hL)
 have ht:=Lib.tabIs_of_head zW Adq Adc zX Acd AdG h3
 obtain⟨e,fz,hh⟩:=rC zW ht
 intro p hp
 simp only[Ack,List.mem_singleton]at hp
 subst hp
 refine⟨⟨e,fz,?_⟩,fun ⟨i,k,hi,_⟩=>by cases hi⟩
 show W.heap[1]?=_
 rw[hh,Lib.pow10Tab,List.map_map]
 rfl
def RO:DataW Unit->Array Value
 | .agg l=>(l.map fun x=>match x with | .lit (.int k z)=>Value.int k z | _=>Value.bool false).toArray
 | _=>#[]
noncomputable def jd (w:World)(i:Nat)(cs:Array Value):World:={ w with heap:=w.heap.modify i fun o=>match o with
 | .cells _ t frozen=>.cells cs t frozen
 | o=>o }
noncomputable def jl (w:World):World :=
 jd (jd (jd w 1 (RO Rows.laid_internal_strconv_uint64pow10)) 2 (RO Rows.laid_math_bits_deBruijn32tab)) 3 (RO Rows.laid_math_bits_deBruijn64tab)
end Go.Dw
end
section
namespace Go.Proofs
open Go.RowKit Go.Shelf Go.Sort
def Tryz.laysFmt_ren:Go.Shelf.Ren:=⟨fun | 246=>310 | 283=>316 | 284=>317 | 285=>318 | 286=>319 | 129=>244 | 317=>322 | 318=>323 | 319=>324 | 320=>325 | 337=>327 | 338=>328 | n=>n,fun | 2=>2 | 3=>3 | 9=>9 | 4=>4 | 171=>315 | 0=>0 | 53=>254 | 37=>221 | 5=>5 | 173=>317 | 212=>323 | 51=>252 | 20=>20 | 213=>324 | 46=>208 | 232=>326 | 233=>327 | n=>n,fun | 17=>1 | 18=>2 | 19=>3 | n=>n⟩
theorem Tryz.laysFmt:Go.Proofs.LaysM.n246 Tryz.prog Tryz.laysFmt_ren:={
 mixed:=by kernel_rfl
 f129:=Tryz.func244.trans (congrArg some (by kernel_rfl))
 f246:=Tryz.func310.trans (congrArg some (by kernel_rfl))
 f283:=Tryz.func316.trans (congrArg some (by kernel_rfl))
 f284:=Tryz.func317.trans (congrArg some (by kernel_rfl))
 f285:=Tryz.func318.trans (congrArg some (by kernel_rfl))
 f286:=Tryz.func319.trans (congrArg some (by kernel_rfl))
 f317:=Tryz.func322.trans (congrArg some (by kernel_rfl))
 f318:=Tryz.func323.trans (congrArg some (by kernel_rfl))
 f319:=Tryz.func324.trans (congrArg some (by kernel_rfl))
 f320:=Tryz.func325.trans (congrArg some (by kernel_rfl))
 f337:=Tryz.func327.trans (congrArg some (by kernel_rfl))
 f338:=Tryz.func328.trans (congrArg some (by kernel_rfl))
 t0:=Tryz.underlying0
 a0:=Tryz.isAgg0
 z0:=Tryz.sizeOf0
 v0:=Tryz.zeroValue0
 t2:=Tryz.underlying2
 a2:=Tryz.isAgg2
 z2:=Tryz.sizeOf2
 v2:=Tryz.zeroValue2
 t3:=Tryz.underlying3
 a3:=Tryz.isAgg3
 z3:=Tryz.sizeOf3
 v3:=Tryz.zeroValue3
 t4:=Tryz.underlying4
 a4:=Tryz.isAgg4
 z4:=Tryz.sizeOf4
 v4:=Tryz.zeroValue4
 t5:=Tryz.underlying5
 a5:=Tryz.isAgg5
 z5:=Tryz.sizeOf5
 v5:=Tryz.zeroValue5
 t9:=Tryz.underlying9
 a9:=Tryz.isAgg9
 z9:=Tryz.sizeOf9
 v9:=Tryz.zeroValue9
 t20:=Tryz.underlying20
 a20:=Tryz.isAgg20
 z20:=Tryz.sizeOf20
 v20:=Tryz.zeroValue20
 t37:=Tryz.underlying221
 a37:=Tryz.isAgg221
 z37:=Tryz.sizeOf221
 v37:=Tryz.zeroValue221
 t46:=Tryz.underlying208
 a46:=Tryz.isAgg208
 z46:=Tryz.sizeOf208
 v46:=Tryz.zeroValue208
 t51:=Tryz.underlying252
 a51:=Tryz.isAgg252
 z51:=Tryz.sizeOf252
 v51:=Tryz.zeroValue252
 t53:=Tryz.underlying254
 a53:=Tryz.isAgg254
 z53:=Tryz.sizeOf254
 v53:=Tryz.zeroValue254
 t171:=Tryz.underlying315
 a171:=Tryz.isAgg315
 z171:=Tryz.sizeOf315
 v171:=Tryz.zeroValue315
 t173:=Tryz.underlying317
 a173:=Tryz.isAgg317
 z173:=Tryz.sizeOf317
 v173:=Tryz.zeroValue317
 t212:=Tryz.underlying323
 a212:=Tryz.isAgg323
 z212:=Tryz.sizeOf323
 v212:=Tryz.zeroValue323
 t213:=Tryz.underlying324
 a213:=Tryz.isAgg324
 z213:=Tryz.sizeOf324
 t232:=Tryz.underlying326
 a232:=Tryz.isAgg326
 z232:=Tryz.sizeOf326
 v232:=Tryz.zeroValue326
 t233:=Tryz.underlying327
 a233:=Tryz.isAgg327
 z233:=Tryz.sizeOf327
 v233:=Tryz.zeroValue327
 g17:=by kernel_rfl
 g18:=by kernel_rfl
 g19:=by kernel_rfl
 i0:=by kernel_rfl
 i2:=by kernel_rfl
 i3:=by kernel_rfl
 i4:=by kernel_rfl
 i5:=by kernel_rfl
 i9:=by kernel_rfl
 i20:=by kernel_rfl
 i37:=by kernel_rfl
 i46:=by kernel_rfl
 i51:=by kernel_rfl
 i53:=by kernel_rfl
 i171:=by kernel_rfl
 i173:=by kernel_rfl
 i212:=by kernel_rfl
 i232:=by kernel_rfl
 i233:=by kernel_rfl
 m17:=by kernel_rfl
 m18:=by kernel_rfl
 m19:=by kernel_rfl }
theorem Tryz.fmt_num:Tryz.laysFmt_ren.f 246=Go.Dw.n_strconv_FormatInt:=by kernel_rfl
theorem Tryz.fmt_in (args:Array Value)(w:World):(callFunc Go.Dw.n_strconv_FormatInt args).run Tryz.prog w=.ok (.enter Go.Dw.n_strconv_FormatInt args) w:=by
 have:=enters_of (P:=Tryz.prog) Tryz.laysFmt.f246 (by kernel_rfl) rfl args w
 rw[Tryz.fmt_num]at this
 exact this
theorem Tryz.fmt_c (n : Int)(h0 : -9223372036854775808 <= n)(h1 : n <= 9223372036854775807)(w : World) (htab : Lib.TabIs Tryz.prog w "internal/strconv.uint64pow10" .u64 Lib.pow10Tab) :
  Calls Tryz.prog Go.Dw.n_strconv_FormatInt #[.int .i64 n,.int .i64 10] w fun e w'=>e=.returned (.string ⟨(Lib.itoa n).toArray⟩)/\∃ k os,w'=grow (w.drewN k) os:=by
 have:=Any.internal_strconv_FormatInt_10 Tryz.laysFmt n h0 h1 w htab
 rw[Tryz.fmt_num]at this
 exact this
theorem Tryz.pow10_at : Tryz.prog.globalNamed "internal/strconv.uint64pow10" = some 1 := by kernel_rfl
end Go.Proofs
namespace Go.Dw
open Go.Proofs Go.Sort
theorem jp {c : Cx}(h : jb c) : Lib.TabIs Tryz.prog c.w "internal/strconv.uint64pow10" .u64 Lib.pow10Tab := by
 obtain⟨⟨e,fz,h1⟩,_⟩:=h (1,(List.range 20).map fun i=>Value.int .u64 ((10^i:Nat):Int)) (by simp[Ack])
 unfold Lib.TabIs World.var?
 rw[Tryz.pow10_at]
 simp only[Option.bind_some,h1]
 rw[Lib.pow10Tab,List.map_map]
 rfl
theorem Rg (n:Int)(h0:-9223372036854775808<=n)(h1:n<=9223372036854775807):PF n_strconv_FormatInt [.int .i64 n,.int .i64 10] (.str (Lib.itoa n)):=by
 intro c vs hH hc hr
 obtain⟨v,vs',rfl,r1,v2,vs2,rfl,r2,r3⟩:=hr
 have r1:v=.int .i64 n:=r1
 have r2:v2=.int .i64 10:=r2
 have r3:vs2=[]:=r3
 subst r1;subst r2;subst r3
 left
 refine⟨Tryz.fmt_in _ _,(Tryz.fmt_c n h0 h1 c.w (jp hc.glob)).mono ?_⟩
 rintro e w' ⟨rfl,k,os,rfl⟩
 have hno:∀ b,¬ c.owns b:=fun b ⟨i,k,h,_⟩=>by rw[hH]at h;simp at h
 have hlt:∀ b,b<c.w.heap.size->(grow (c.w.drewN k) os).heap[b]?=c.w.heap[b]?:=fun b hb=>Array.getElem?_append_left hb
 have hown:∀ b,¬ (⟨grow (c.w.drewN k) os,c.ok,c.ρ,[]⟩:Cx).owns b:=fun b ⟨i,k,h,_⟩=>by simp at h
 refine⟨_,.str (Lib.itoa n),⟨grow (c.w.drewN k) os,c.ok,c.ρ,[]⟩,rfl,rfl,⟨rfl,rfl⟩,?_,rfl,?_⟩
 ·refine⟨fun i j b1 k1 k2 h1=>by simp at h1,fun b o h=>?_,fun i o hi=>by simp at hi,hc.glob.keep (fun b hb _=>hlt b hb) fun b h=>absurd h (hown b)⟩
  have:=hc.okLt b o h
  show b<(c.w.heap++os).size
  rw[Array.size_append];omega
 ·refine⟨fun _ _ h=>h,fun b o h=>?_,?_,fun _ _ h=>.inl h,fun b hb _=>hlt b hb,fun b h=>absurd h (hown b),fun i o hi=>?_,rfl,rfl,rfl,Nat.le_add_right _ _⟩
  ·simp only[World.cell?]
   rw[hlt b (hc.okLt _ _ h)]
  ·show c.w.heap.size<=(c.w.heap++os).size
   rw[Array.size_append];omega
  ·rw[hH]at hi;simp at hi
theorem Uf (n:Int)(h0:-9223372036854775808<=n)(h1:n<=9223372036854775807):PF Kn [.int .i64 n] (.str (Lib.itoa n)):=by
 refine Ad N4.ok rfl ?_
 push_cast
 refine .of (Rg n h0 h1) ?_
 push_cast
 exact A0 (by push_cast[N4.rs])
theorem Y5 (n:Int)(h0:-9223372036854775808<=n)(h1:n<=9223372036854775807):PF GI [.int .i64 n] (.str (Lib.itoa n)):=by
 refine Ad Oc.ok rfl ?_
 push_cast
 refine .of (Uf n h0 h1) ?_
 push_cast
 exact A0 (by push_cast[Oc.rs])
abbrev IS (n:Nat):A9:=Lib.decDigits n
theorem Pu (n:Nat)(h:n<2^62):PF GI [.int .i64 n] (.str (IS n)):=by
 have:=Y5 n (by omega) (by omega)
 rw[show Lib.itoa (n:Int)=IS n from if_neg (by omega)]at this
 exact this
end Go.Dw
end
namespace Go.Dw
theorem TP (a b:List A5)(n:A9):Ac (a++b) n=match Ac a n with | some x=>some x | none=>Ac b n:=by
 induction a with
 | nil=>rfl
 | cons x a ih =>
  simp only[List.cons_append,Ac]
  split
  ·rfl
  ·exact ih
theorem Dq {s:List A5}{v:A9}{t:Term}(h:Ac s v=none)(n:A9):Ac (Eh s v t) n=if v=n then some t else Ac s n:=by
 unfold Eh
 have h0:=TP (s.take (I6 v s)) (s.drop (I6 v s)) n
 rw[List.take_append_drop]at h0
 rw[TP]
 by_cases hv:v=n
 ·subst hv
  rw[h]at h0
  rw[if_pos rfl]
  cases ha:Ac (s.take (I6 v s)) v with
  | some x=>rw[ha]at h0;cases h0
  | none=>simp only[Ac,if_true]
 ·rw[if_neg hv,h0]
  cases Ac (s.take (I6 v s)) n with
  | some x=>rfl
  | none=>simp only[Ac,if_neg hv]
def Q9 (a b:List A5):Prop:=∀ n x,Ac a n=some x->Ac b n=some x
theorem Q9.refl (a:List A5):Q9 a a:=fun _ _ h=>h
theorem Q9.trans {a b c:List A5}(h:Q9 a b)(h2:Q9 b c):Q9 a c:=fun n x hx=>h2 n x (h n x hx)
theorem ak {s:List A5}{v:A9}{t:Term}(h:Ac s v=none):Q9 s (Eh s v t):=fun n x hx=>by
 rw[Dq h]
 split
 ·rename_i e;subst e;rw[h]at hx;cases hx
 ·exact hx
theorem xE (t:Term):t=.mk t.name t.var t.args:=by cases t;rfl
theorem cu (p:Term):∀ (s:List A5)(t:Term),(AR s p t).2=true->Q9 s (AR s p t).1/\∀ s2,Q9 (AR s p t).1 s2->Aw s2 p=t:=by
 induction p using Ah with
 | h p ih =>
 intro s t
 rw[J3]
 cases hv:p.var with
 | true =>
  rw[if_pos rfl]
  cases hx:Ac s p.name with
  | some x =>
   intro h
   have h:x=t:=by simpa using h
   subst h
   refine⟨.refl s,fun s2 h2=>?_⟩
   rw[EW,hv,if_pos rfl,h2 _ _ hx];rfl
  | none =>
   intro _
   refine⟨ak hx,fun s2 h2=>?_⟩
   rw[EW,hv,if_pos rfl,h2 p.name t (by rw[Dq hx,if_pos rfl])];rfl
 | false =>
  rw[if_neg (by simp)]
  by_cases hc:t.var\/p.name≠t.name\/p.args.length≠t.args.length
  ·rw[if_pos hc];intro h;cases h
  ·rw[if_neg hc]
   simp only[not_or,Classical.not_not]at hc
   have key:∀ (l m:List Term)(s:List A5),(∀ a∈l,a∈p.args)->l.length=m.length->(D3 s l m).2=true->Q9 s (D3 s l m).1/\∀ s2,Q9 (D3 s l m).1 s2->l.map (Aw s2)=m:=by
    intro l
    induction l with
    | nil =>
     intro m s _ hl _
     cases m with
     | nil=>exact⟨.refl s,fun _ _=>rfl⟩
     | cons b m=>cases hl
    | cons a l ihl =>
     intro m s hm hl h
     cases m with
     | nil=>cases hl
     | cons b m =>
      simp only[D3]at h ⊢
      by_cases hab:(AR s a b).2=true
      ·rw[if_pos hab]at h ⊢
       obtain⟨h1,h2⟩:=ih a (hm a (by simp)) s b hab
       obtain⟨h3,h4⟩:=ihl m _ (fun x hx=>hm x (by simp[hx])) (by simpa using hl) h
       refine⟨h1.trans h3,fun s2 hs2=>?_⟩
       rw[List.map_cons,h2 s2 (h3.trans hs2),h4 s2 hs2]
      ·rw[if_neg hab]at h;cases h
   intro h
   obtain⟨h1,h2⟩:=key p.args t.args s (fun _ h=>h) hc.2.2 h
   refine⟨h1,fun s2 hs2=>?_⟩
   rw[EW,hv,if_neg (by simp),h2 s2 hs2,hc.2.1]
   rw[xE t]
   have:t.var=false:=by simpa using hc.1
   simp only[Term.name,Term.args,this]
theorem Su {p t:Term}(h:(AR [] p t).2=true):Aw (AR [] p t).1 p=t:=(cu p [] t h).2 _ (.refl _)
end Go.Dw
section
namespace Go.Dw
abbrev EQ:=A9->Term
mutual
def app (f:EQ):Term->Term
 | .mk n v l=>if v then f n else .mk n false (xN f l)
def xN (f:EQ):List Term->List Term
 | []=>[]
 | a::l=>app f a::xN f l
end
theorem sP (f:EQ)(l:List Term):xN f l=l.map (app f):=by induction l with | nil=>rfl | cons a l ih=>simp[xN,ih]
theorem PQ (f:EQ)(t:Term):app f t=if t.var then f t.name else .mk t.name false (t.args.map (app f)):=by
 cases t with | mk n v l=>simp only[app,sP,Term.var,Term.name,Term.args];rfl
theorem Av {f:EQ}{t:Term}(h:t.var=true):app f t=f t.name:=by rw[PQ,if_pos h]
theorem B7 {f:EQ}{t:Term}(h:t.var=false):app f t=.mk t.name false (t.args.map (app f)):=by rw[PQ,if_neg (by simp[h])]
theorem ov {v:A9}{l:List Term}:ER v l=true↔∃ a∈l,CX v a=true:=by
 induction l with
 | nil=>simp[ER]
 | cons a l ih=>simp[ER,ih]
theorem AO {v:A9}{t:Term}:CX v t=true↔(t.var=true/\t.name=v)\/∃ a∈t.args,CX v a=true:=by
 cases t with | mk n b l =>
 show ((b&&decide (n=v))||ER v l)=true↔_
 rw[Bool.or_eq_true,Bool.and_eq_true,decide_eq_true_eq,ov]
 exact Iff.rfl
def C2 (v:A9):Term:=.mk v true []
theorem QC {v w:A9}:CX w (C2 v)=true↔v=w:=by
 rw[AO];simp[C2,Term.var,Term.name,Term.args]
mutual
def vfl:Term->Bool
 | .mk _ v l=>(!v||l.isEmpty)&&ue l
def ue:List Term->Bool
 | []=>true
 | a::l=>vfl a&&ue l
end
theorem tV {l:List Term}:ue l=true↔∀ a∈l,vfl a=true:=by
 induction l with
 | nil=>simp[ue]
 | cons a l ih=>simp[ue,ih]
theorem KE {t:Term}:vfl t=true↔(t.var=true->t.args=[])/\∀ a∈t.args,vfl a=true:=by
 cases t with | mk n v l=>cases v<;>simp[vfl,tV,Term.var,Term.args]
theorem BR {t a:Term}(h:vfl t=true)(ha:a∈t.args):vfl a=true:=(KE.1 h).2 a ha
theorem Uq (t:Term):short t=true->vfl t=true:=by
 induction t using Ah with
 | h t ih =>
 intro h
 have h:=C0.1 h
 exact KE.2 ⟨h.2.1,fun a ha=>ih a ha (h.2.2 a ha)⟩
theorem QV {t:Term}(h:vfl t=true)(hv:t.var=true):t=C2 t.name:=by
 have:=(KE.1 h).1 hv
 cases t with | mk n v l =>
 simp only[Term.args]at this
 simp only[Term.var]at hv
 subst this;subst hv;rfl
theorem JG {t:Term}{v:A9}(h:vfl t=true)(hv:t.var=true):CX v t=true↔t.name=v:=by
 rw[QV h hv,QC];rfl
theorem KM {t:Term}{v:A9}(hv:t.var=false):CX v t=true↔∃ a∈t.args,CX v a=true:=by
 rw[AO,hv];simp
theorem DW {f g:EQ}(t:Term):(∀ v,CX v t=true->f v=g v)->app f t=app g t:=by
 induction t using Ah with
 | h t ih =>
 intro h
 rw[PQ,PQ]
 split
 ·rename_i hv;exact h _ (AO.2 (.inl ⟨hv,rfl⟩))
 ·congr 1
  exact List.map_congr_left fun a ha=>ih a ha fun v hv=>h v (AO.2 (.inr ⟨a,ha,hv⟩))
theorem Og (f g:EQ)(t:Term):app g (app f t)=app (fun v=>app g (f v)) t:=by
 induction t using Ah with
 | h t ih =>
 cases hv:t.var with
 | true=>rw[Av hv,Av hv]
 | false =>
  rw[B7 hv,B7 hv,B7 rfl]
  simp only[Term.name,Term.args,List.map_map]
  congr 1
  exact List.map_congr_left fun a ha=>ih a ha
theorem pU {f:EQ}(t:Term):vfl t=true->(∀ v,CX v t=true->f v=C2 v)->app f t=t:=by
 induction t using Ah with
 | h t ih =>
 intro ht h
 cases hv:t.var with
 | true =>
  rw[Av hv,h _ (AO.2 (.inl ⟨hv,rfl⟩))]
  exact (QV ht hv).symm
 | false =>
  rw[B7 hv]
  have e:t.args.map (app f)=t.args:=by
   conv=>rhs;rw[<-List.map_id t.args]
   exact List.map_congr_left fun a ha=>ih a ha (BR ht ha) fun v hv=>h v (AO.2 (.inr ⟨a,ha,hv⟩))
  rw[e]
  cases t;simp only[Term.var]at hv;subst hv;rfl
theorem Tq {f:EQ}{w:A9}(t:Term):vfl t=true->(CX w (app f t)=true↔∃ v,CX v t=true/\CX w (f v)=true):=by
 induction t using Ah with
 | h t ih =>
 intro ht
 cases hv:t.var with
 | true =>
  rw[Av hv]
  constructor
  ·intro h;exact⟨_,(JG ht hv).2 rfl,h⟩
  ·rintro ⟨v,h1,h2⟩
   rw[(JG ht hv).1 h1];exact h2
 | false =>
  rw[B7 hv,KM rfl]
  simp only[Term.args,List.mem_map]
  constructor
  ·rintro ⟨_,⟨a,ha,rfl⟩,h⟩
   obtain⟨v,h1,h2⟩:=(ih a ha (BR ht ha)).1 h
   exact⟨v,(KM hv).2 ⟨a,ha,h1⟩,h2⟩
  ·rintro ⟨v,h1,h2⟩
   obtain⟨a,ha,h3⟩:=(KM hv).1 h1
   exact⟨_,⟨a,ha,rfl⟩,(ih a ha (BR ht ha)).2 ⟨v,h3,h2⟩⟩
theorem kw {f:EQ}(t:Term):(∀ v,CX v t=true->vfl (f v)=true)->vfl (app f t)=true:=by
 induction t using Ah with
 | h t ih =>
 intro h
 cases hv:t.var with
 | true=>rw[Av hv];exact h _ (AO.2 (.inl ⟨hv,rfl⟩))
 | false =>
  rw[B7 hv]
  refine KE.2 ⟨fun e=>by simp[Term.var]at e,fun a ha=>?_⟩
  simp only[Term.args,List.mem_map]at ha
  obtain⟨b,hb,rfl⟩:=ha
  exact ih b hb fun v hv=>h v (AO.2 (.inr ⟨b,hb,hv⟩))
def TY (θ:EQ)(s:List A5):Prop:=∀ v t,Ac s v=some t->θ v=app θ t
structure Gk (s:List A5) (σ:EQ) (rk:A9->Nat):Prop where
 srt:CK s
 vf:∀ v t,Ac s v=some t->vfl t=true
 free:∀ v,Ac s v=none->σ v=C2 v
 fix:∀ v t,Ac s v=some t->σ v=app σ t
 low:∀ v t,Ac s v=some t->∀ w,CX w t=true->rk w<rk v
theorem Gk.nil:Gk [] C2 (fun _=>0):=⟨List.Pairwise.nil,fun v t h=>(by cases h),fun v _=>rfl,fun v t h=>(by cases h),fun v t h=>(by cases h)⟩
section
variable {s:List A5} {σ:EQ} {rk:A9->Nat}
theorem Gk.sat (h:Gk s σ rk):TY σ s:=h.fix
theorem Gk.ind {P:A9->Prop}(h:Gk s σ rk)(step:∀ v,(∀ t w,Ac s v=some t->CX w t=true->P w)->P v):∀ v,P v:=by
 have:∀ n v,rk v<n->P v:=by
  intro n
  induction n with
  | zero=>intro v hv;omega
  | succ n ih =>
   intro v hv
   exact step v fun t w h1 h2=>ih w (by have:=h.low v t h1 w h2;omega)
 exact fun v=>this (rk v+1) v (by omega)
theorem Gk.vfl (h:Gk s σ rk):∀ v,Dw.vfl (σ v)=true:=by
 refine h.ind fun v ih=>?_
 cases hi:Ac s v with
 | none=>rw[h.free v hi];rfl
 | some t=>rw[h.fix v t hi];exact kw t fun w hw=>ih t w hi hw
theorem Gk.occ_free (h:Gk s σ rk){w:A9}:∀ v,CX w (σ v)=true->Ac s w=none:=by
 refine h.ind fun v ih=>?_
 cases hi:Ac s v with
 | none =>
  rw[h.free v hi,QC]
  rintro rfl;exact hi
 | some t =>
  rw[h.fix v t hi,Tq t (h.vf v t hi)]
  rintro ⟨u,h1,h2⟩
  exact ih t u hi h1 h2
theorem Gk.idem (h:Gk s σ rk)(v:A9):app σ (σ v)=σ v:=pU _ (h.vfl v) fun w hw=>h.free w (h.occ_free v hw)
theorem Gk.uniq {σ':EQ}{rk':A9->Nat}(h:Gk s σ rk)(h':Gk s σ' rk'):σ=σ':=by
 funext v
 revert v
 refine h.ind fun v ih=>?_
 cases hi:Ac s v with
 | none=>rw[h.free v hi,h'.free v hi]
 | some t=>rw[h.fix v t hi,h'.fix v t hi];exact DW t fun w hw=>ih t w hi hw
inductive Pw (s:List A5) (v:A9):Term->Prop
 | here {t:Term}:t.var=true->t.name=v->Pw s v t
 | bound {t x:Term}:t.var=true->Ac s t.name=some x->Pw s v x->Pw s v t
 | arg {t a:Term}:t.var=false->a∈t.args->Pw s v a->Pw s v t
theorem Gk.occ_sem (h:Gk s σ rk){v:A9}(hv:Ac s v=none){t:Term}(ht:Dw.vfl t=true):Pw s v t↔CX v (app σ t)=true:=by
 constructor
 ·intro ho
  induction ho with
  | here h1 h2=>rw[Av h1,h2,h.free v hv,QC]
  | bound h1 h2 _ ih=>rw[Av h1,h.fix _ _ h2];exact ih (h.vf _ _ h2)
  | arg h1 h2 _ ih =>
   rw[B7 h1,KM rfl]
   exact⟨_,List.mem_map_of_mem h2,ih (BR ht h2)⟩
 ·have B:∀ t:Term,Dw.vfl t=true->(∀ u,CX u t=true->CX v (σ u)=true->∀ t':Term,t'.var=true->t'.name=u->Pw s v t')->CX v (app σ t)=true->Pw s v t:=by
   intro t
   induction t using Ah with
   | h t ih =>
   intro ht hu ho
   cases hv:t.var with
   | true =>
    rw[Av hv]at ho
    exact hu _ (AO.2 (.inl ⟨hv,rfl⟩)) ho t hv rfl
   | false =>
    rw[B7 hv,KM rfl]at ho
    obtain⟨b,hb,ho⟩:=ho
    simp only[Term.args,List.mem_map]at hb
    obtain⟨a,ha,rfl⟩:=hb
    exact .arg hv ha (ih a ha (BR ht ha) (fun u h1=>hu u (AO.2 (.inr ⟨a,ha,h1⟩))) ho)
  have A:∀ u,CX v (σ u)=true->∀ t':Term,t'.var=true->t'.name=u->Pw s v t':=by
   refine h.ind fun u ih=>?_
   intro ho t' h1 h2
   cases hi:Ac s u with
   | none =>
    rw[h.free u hi,QC]at ho
    exact .here h1 (h2.trans ho)
   | some x =>
    rw[h.fix u x hi]at ho
    exact .bound h1 (h2▸hi) (B x (h.vf u x hi) (fun w hw=>ih x w hi hw) ho)
  exact fun ho=>B t ht (fun u _=>A u) ho
theorem YB (rk:A9->Nat)(t:Term):∃ M,∀ w,CX w t=true->rk w<=M:=by
 have key:∀ l:List A9,∃ M,∀ w∈l,rk w<=M:=by
  intro l
  induction l with
  | nil=>exact⟨0,by simp⟩
  | cons x l ih =>
   obtain⟨M,hM⟩:=ih
   refine⟨M+rk x,fun w hw=>?_⟩
   rcases List.mem_cons.1 hw with rfl | hw
   ·omega
   ·have:=hM w hw;omega
 obtain⟨M,hM⟩:=key (DT t)
 exact⟨M,fun w hw=>hM w ((FA w t []).2 (.inr hw))⟩
theorem Gk.bind (h:Gk s σ rk){v:A9}(hv:Ac s v=none){t:Term}(ht:Dw.vfl t=true)(hn:¬ Pw s v t):∃ σ' rk',Gk (Eh s v t) σ' rk'/\∀ w,σ' w=app σ' (σ w):=by
 have hno:¬ CX v (app σ t)=true:=fun e=>hn ((h.occ_sem hv ht).2 e)
 obtain⟨M,hM⟩:=YB rk t
 let τ:EQ:=fun u=>if u=v then app σ t else C2 u
 have hτ:∀ u,u≠v->τ u=C2 u:=fun u hu=>if_neg hu
 have hτt:app τ (app σ t)=app σ t:=pU _ (kw t fun w _=>h.vfl w) fun u hu=>hτ u fun e=>hno (e▸hu)
 refine⟨fun w=>app τ (σ w),fun w=>if CX v (σ w)=true then rk w+(M+1) else rk w,⟨OQ h.srt hv,?_,?_,?_,?_⟩,?_⟩
 ·intro w x hx
  rw[Dq hv]at hx
  split at hx
  ·cases hx;exact ht
  ·exact h.vf w x hx
 ·intro w hw
  rw[Dq hv]at hw
  split at hw
  ·cases hw
  ·rename_i hne
   show app τ (σ w)=_
   rw[h.free w hw,C2,Av rfl]
   exact hτ w fun e=>hne e.symm
 ·intro w x hx
  show app τ (σ w)=app (fun w=>app τ (σ w)) x
  rw[<-Og]
  rw[Dq hv]at hx
  split at hx
  ·rename_i e
   cases hx
   subst e
   rw[h.free v hv,C2,Av rfl,hτt]
   exact if_pos rfl
  ·rw[h.fix w x hx]
 ·intro u x hx w hw
  show (if CX v (σ w)=true then _ else _)<(if CX v (σ u)=true then _ else _)
  rw[Dq hv]at hx
  split at hx
  ·rename_i e
   cases hx
   subst e
   have h1:=hM w hw
   have h2:¬ CX v (σ w)=true:=fun e=>hno ((Tq t ht).2 ⟨w,hw,e⟩)
   rw[if_neg h2,h.free v hv,if_pos (QC.2 rfl)]
   omega
  ·have h1:=h.low u x hx w hw
   have h2:CX v (σ w)=true->CX v (σ u)=true:=fun e=>by
    rw[h.fix u x hx]
    exact (Tq x (h.vf u x hx)).2 ⟨w,hw,e⟩
   by_cases c:CX v (σ w)=true
   ·rw[if_pos c,if_pos (h2 c)];omega
   ·rw[if_neg c];split<;>omega
 ·intro w
  show app τ (σ w)=app (fun w=>app τ (σ w)) (σ w)
  rw[<-Og,h.idem]
end
def E7:Nat->List A5->Term->Option Term
 | 0,_,_=>none
 | n+1,s,t=>if t.var then (match Ac s t.name with | some x=>E7 n s x | none=>some t) else some t
open Classical in
noncomputable def LH (s:List A5)(v:A9)(t:Term):List A5×Bool:=if Pw s v t then (s,false) else (Eh s v t,true)
def AF (f:List A5->Term->Term->Option (List A5×Bool)):List A5->List Term->List Term->Option (List A5×Bool)
 | s,a::l,b::m=>match f s a b with
  | none=>none
  | some (s',false)=>some (s',false)
  | some (s',true)=>AF f s' l m
 | s,_,_=>some (s,true)
noncomputable def B3:Nat->List A5->Term->Term->Option (List A5×Bool)
 | 0,_,_,_=>none
 | n+1,s,a,b=>match E7 (n+1) s a,E7 (n+1) s b with
  | some x,some y =>
   if x.var then (if y.var/\x.name=y.name then some (s,true) else some (LH s x.name y))
   else if y.var then some (LH s y.name x)
   else if x.name≠y.name\/x.args.length≠y.args.length then some (s,false)
   else AF (B3 n) s x.args y.args
  | _,_=>none
theorem LQ {s:List A5}:∀ {n m:Nat} {t x:Term},E7 n s t=some x->n<=m->E7 m s t=some x
 | 0,_,_,_,h,_=>by cases h
 | n+1,0,_,_,_,h=>by omega
 | n+1,m+1,t,x,h,hm=>by
  simp only[E7]at h ⊢
  split at h
  ·rename_i hv
   rw[if_pos hv]
   cases hi:Ac s t.name with
   | none=>rw[hi]at h;exact h
   | some y=>rw[hi]at h;exact LQ h (by omega)
  ·rename_i hv
   rw[if_neg hv];exact h
theorem FE {f g:List A5->Term->Term->Option (List A5×Bool)}(hfg:∀ s a b r,f s a b=some r->g s a b=some r):∀ (l m:List Term)(s:List A5)(r:List A5×Bool),AF f s l m=some r->AF g s l m=some r
 | [],_,s,r,h=>h
 | _::_,[],s,r,h=>h
 | a::l,b::m,s,r,h=>by
  simp only[AF]at h ⊢
  cases hf:f s a b with
  | none=>rw[hf]at h;cases h
  | some p =>
   obtain⟨s',ok⟩:=p
   rw[hf]at h
   rw[hfg _ _ _ _ hf]
   cases ok with
   | false=>exact h
   | true=>exact FE hfg l m s' r h
theorem Fo:∀ (n m:Nat)(s:List A5)(a b:Term)(r:List A5×Bool),B3 n s a b=some r->n<=m->B3 m s a b=some r
 | 0,_,_,_,_,_,h,_=>by cases h
 | n+1,0,_,_,_,_,_,h=>by omega
 | n+1,m+1,s,a,b,r,h,hm=>by
  simp only[B3]at h ⊢
  cases hx:E7 (n+1) s a with
  | none=>rw[hx]at h;cases h
  | some x =>
   cases hy:E7 (n+1) s b with
   | none=>rw[hx,hy]at h;cases h
   | some y =>
    rw[hx,hy]at h
    rw[LQ hx (by omega),LQ hy (by omega)]
    simp only at h ⊢
    by_cases c1:x.var=true
    ·rw[if_pos c1]at h ⊢;exact h
    ·rw[if_neg c1]at h ⊢
     by_cases c2:y.var=true
     ·rw[if_pos c2]at h ⊢;exact h
     ·rw[if_neg c2]at h ⊢
      by_cases c3:x.name≠y.name\/x.args.length≠y.args.length
      ·rw[if_pos c3]at h ⊢;exact h
      ·rw[if_neg c3]at h ⊢
       exact FE (fun s a b r hr=>Fo n m s a b r hr (by omega)) _ _ _ _ h
theorem JW {n:Nat}{s:List A5}{a b:Term}{r:List A5×Bool}(h:B3 (n+1) s a b=some r):∃ x y,E7 (n+1) s a=some x/\E7 (n+1) s b=some y /\
  ((x.var=true/\y.var=true/\x.name=y.name/\r=(s,true))\/(x.var=true/\¬ (y.var=true/\x.name=y.name)/\r=LH s x.name y)\/(x.var=false/\y.var=true/\r=LH s y.name x) \/
   (x.var=false/\y.var=false/\(x.name≠y.name\/x.args.length≠y.args.length)/\r=(s,false)) \/
   (x.var=false/\y.var=false/\x.name=y.name/\x.args.length=y.args.length/\AF (B3 n) s x.args y.args=some r)):=by
 simp only[B3]at h
 cases hx:E7 (n+1) s a with
 | none=>rw[hx]at h;cases h
 | some x =>
  cases hy:E7 (n+1) s b with
  | none=>rw[hx,hy]at h;cases h
  | some y =>
   rw[hx,hy]at h
   simp only at h
   refine⟨x,y,rfl,rfl,?_⟩
   by_cases c1:x.var=true
   ·rw[if_pos c1]at h
    by_cases c2:y.var=true/\x.name=y.name
    ·rw[if_pos c2]at h;cases h;exact .inl ⟨c1,c2.1,c2.2,rfl⟩
    ·rw[if_neg c2]at h;cases h;exact .inr (.inl ⟨c1,c2,rfl⟩)
   ·rw[if_neg c1]at h
    have c1:x.var=false:=by simpa using c1
    by_cases c2:y.var=true
    ·rw[if_pos c2]at h;cases h;exact .inr (.inr (.inl ⟨c1,c2,rfl⟩))
    ·rw[if_neg c2]at h
     have c2:y.var=false:=by simpa using c2
     by_cases c3:x.name≠y.name\/x.args.length≠y.args.length
     ·rw[if_pos c3]at h;cases h;exact .inr (.inr (.inr (.inl ⟨c1,c2,c3,rfl⟩)))
     ·rw[if_neg c3]at h
      simp only[not_or,Classical.not_not]at c3
      exact .inr (.inr (.inr (.inr ⟨c1,c2,c3.1,c3.2,h⟩)))
theorem Es {s:List A5}:∀ {n:Nat} {t x:Term},E7 n s t=some x->x.var=true->Ac s x.name=none
 | 0,_,_,h,_=>by cases h
 | n+1,t,x,h,hx=>by
  simp only[E7]at h
  split at h
  ·cases hi:Ac s t.name with
   | none=>rw[hi]at h;cases h;exact hi
   | some y=>rw[hi]at h;exact Es h hx
  ·rename_i hv;cases h;exact absurd hx hv
theorem IR {θ:EQ}{s:List A5}(hθ:TY θ s):∀ {n:Nat} {t x:Term},E7 n s t=some x->app θ x=app θ t
 | 0,_,_,h=>by cases h
 | n+1,t,x,h=>by
  simp only[E7]at h
  split at h
  ·rename_i hv
   cases hi:Ac s t.name with
   | none=>rw[hi]at h;cases h;rfl
   | some y=>rw[hi]at h;rw[IR hθ h,Av hv];exact (hθ _ _ hi).symm
  ·cases h;rfl
theorem C9 {P:Term->Prop}{s:List A5}(hs:∀ v t,Ac s v=some t->P t):∀ {n:Nat} {t x:Term},P t->E7 n s t=some x->P x
 | 0,_,_,_,h=>by cases h
 | n+1,t,x,ht,h=>by
  simp only[E7]at h
  split at h
  ·cases hi:Ac s t.name with
   | none=>rw[hi]at h;cases h;exact ht
   | some y=>rw[hi]at h;exact C9 hs (hs _ _ hi) h
  ·cases h;exact ht
theorem Ur {s:List A5}{σ:EQ}{rk:A9->Nat}(h:Gk s σ rk):∀ (n:Nat)(t:Term),(t.var=true->rk t.name<n)->∃ x,E7 (n+1) s t=some x
 | n,t,ht=>by
  simp only[E7]
  split
  ·rename_i hv
   cases hi:Ac s t.name with
   | none=>exact⟨t,rfl⟩
   | some y =>
    cases n with
    | zero=>exact absurd (ht hv) (by omega)
    | succ n =>
     refine Ur h n y fun hy=>?_
     have:=h.low _ _ hi y.name (AO.2 (.inl ⟨hy,rfl⟩))
     have:=ht hv
     omega
  ·exact⟨t,rfl⟩
end Go.Dw
end
section
namespace Go.Dw
theorem DL {s:List A5}(hs:CK s){b:A5}(hb:b∈s):Ac s b.name=some b.term:=by
 induction s with
 | nil=>cases hb
 | cons c s ih =>
  obtain⟨h1,h2⟩:=List.pairwise_cons.1 hs
  simp only[Ac]
  rcases List.mem_cons.1 hb with rfl | hb
  ·rw[if_pos rfl]
  ·rw[if_neg fun e=>by have:=h1 b hb;rw[e]at this;exact Cs _ this]
   exact ih h2 hb
theorem LG (s:List A5)(v:A9)(t:Term):(Pw s v t/\LH s v t=(s,false))\/(¬ Pw s v t/\LH s v t=(Eh s v t,true)):=by
 unfold LH
 by_cases h:Pw s v t
 ·exact .inl ⟨h,if_pos h⟩
 ·exact .inr ⟨h,if_neg h⟩
theorem rS {s:List A5}{θ:EQ}{v:A9}(hθ:TY θ s){t:Term}(h:Pw s v t):size (θ v)<=size (app θ t)/\(t.var=false->size (θ v)<size (app θ t)):=by
 induction h with
 | here h1 h2=>rw[Av h1,h2];exact⟨Nat.le_refl _,fun h=>by rw[h1]at h;cases h⟩
 | bound h1 h2 _ ih=>rw[Av h1,hθ _ _ h2];exact⟨ih.1,fun h=>by rw[h1]at h;cases h⟩
 | @arg t a h1 h2 _ ih =>
  have h3:size (app θ t)=1+Af (t.args.map (app θ)):=by rw[B7 h1];rfl
  have h4:=B4 (List.mem_map_of_mem (f:=app θ) h2)
  have:=ih.1
  omega
theorem TY.mono {θ:EQ}{s s':List A5}(h:TY θ s')(he:Q9 s s'):TY θ s:=fun v t hi=>h v t (he v t hi)
structure le (s:List A5) (σ:EQ) (A:EQ->Prop) (r:List A5×Bool) (σ':EQ) (rk':A9->Nat):Prop where
 ok:Gk r.1 σ' rk'
 ext:Q9 s r.1
 len:r.1=s\/s.length<r.1.length
 comp:∀ w,σ' w=app σ' (σ w)
 eq:r.2=true->A σ'
 mgu:∀ θ,TY θ s->A θ->r.2=true/\TY θ r.1
theorem WO {σ σ':EQ}(h:∀ w,σ' w=app σ' (σ w))(t:Term):app σ' t=app σ' (app σ t):=by
 rw[Og];exact DW t fun v _=>h v
theorem lI {s:List A5}{σ:EQ}{rk:A9->Nat}(h:Gk s σ rk){v:A9}{t:Term}(hv:Ac s v=none)(ht:vfl t=true)(hne:t.var=true->Ac s t.name=none/\t.name≠v) :
  ∃ σ' rk',le s σ (fun θ=>θ v=app θ t) (LH s v t) σ' rk':=by
 rcases LG s v t with ⟨ho,e⟩|⟨ho,e⟩
 ·rw[e]
  refine⟨σ,rk,h,Q9.refl s,.inl rfl,fun w=>(h.idem w).symm,(fun e=>by cases e),fun θ hθ he=>?_⟩
  exfalso
  cases hv2:t.var with
  | true =>
   obtain⟨h1,h2⟩:=hne hv2
   cases ho with
   | here _ h4=>exact h2 h4
   | bound _ h4 _=>rw[h1]at h4;cases h4
   | arg h3 _ _=>rw[hv2]at h3;cases h3
  | false =>
   have:=(rS hθ ho).2 hv2
   rw[<-he]at this
   omega
 ·rw[e]
  obtain⟨σ',rk',h1,h2⟩:=h.bind hv ht ho
  refine⟨σ',rk',h1,ak hv,.inr (by rw[NS];omega),h2,fun _=>h1.fix v t (by rw[Dq hv,if_pos rfl]),fun θ hθ he=>⟨rfl,fun w x hx=>?_⟩⟩
  rw[Dq hv]at hx
  split at hx
  ·rename_i e;cases hx;subst e;exact he
  ·exact hθ w x hx
theorem Sj {n:Nat}(ih:∀ (s:List A5)(σ:EQ)(rk:A9->Nat)(a b:Term)(r:List A5×Bool),Gk s σ rk->vfl a=true->vfl b=true->B3 n s a b=some r->∃ σ' rk',le s σ (fun θ=>app θ a=app θ b) r σ' rk') :
  ∀ (l m:List Term)(s:List A5)(σ:EQ)(rk:A9->Nat)(r:List A5×Bool),Gk s σ rk->(∀ a∈l,vfl a=true)->(∀ b∈m,vfl b=true)->l.length=m.length->AF (B3 n) s l m=some r->∃ σ' rk',le s σ (fun θ=>l.map (app θ)=m.map (app θ)) r σ' rk'
 | [],[],s,σ,rk,r,h,_,_,_,hr=>by
  simp only[AF,Option.some.injEq]at hr
  subst hr
  exact⟨σ,rk,h,Q9.refl s,.inl rfl,fun w=>(h.idem w).symm,fun _=>rfl,fun θ hθ _=>⟨rfl,hθ⟩⟩
 | a::l,b::m,s,σ,rk,r,h,hl,hm,hlen,hr=>by
  simp only[AF]at hr
  cases hf:B3 n s a b with
  | none=>rw[hf]at hr;cases hr
  | some p =>
   obtain⟨s1,ok⟩:=p
   rw[hf]at hr
   obtain⟨σ1,rk1,h1⟩:=ih s σ rk a b _ h (hl a (by simp)) (hm b (by simp)) hf
   cases ok with
   | false =>
    simp only[Option.some.injEq]at hr
    subst hr
    refine⟨σ1,rk1,h1.ok,h1.ext,h1.len,h1.comp,(fun e=>by cases e),fun θ hθ he=>?_⟩
    simp only[List.map_cons,List.cons.injEq]at he
    have:=(h1.mgu θ hθ he.1).1
    cases this
   | true =>
    simp only at hr
    obtain⟨σ2,rk2,h2⟩:=Sj ih l m s1 σ1 rk1 r h1.ok (fun x hx=>hl x (by simp[hx])) (fun x hx=>hm x (by simp[hx])) (by simpa using hlen) hr
    refine⟨σ2,rk2,h2.ok,h1.ext.trans h2.ext,?_,fun w=>?_,fun e=>?_,fun θ hθ he=>?_⟩
    ·rcases h1.len with e1 | e1<;>rcases h2.len with e2 | e2
     ·exact .inl (e2.trans e1)
     ·right;rw[<-e1];exact e2
     ·right;rw[e2];exact e1
     ·right;simp only at e1;omega
    ·rw[h2.comp w,h1.comp w,<-WO h2.comp]
    ·have h3:app σ1 a=app σ1 b:=h1.eq rfl
     simp only[List.map_cons]
     rw[WO h2.comp a,WO h2.comp b,h3,h2.eq e]
    ·simp only[List.map_cons,List.cons.injEq]at he
     have h3:=h1.mgu θ hθ he.1
     exact h2.mgu θ h3.2 he.2
 | [],_::_,_,_,_,_,_,_,_,hlen,_=>by simp at hlen
 | _::_,[],_,_,_,_,_,_,_,hlen,_=>by simp at hlen
theorem FR:∀ (n:Nat)(s:List A5)(σ:EQ)(rk:A9->Nat)(a b:Term)(r:List A5×Bool),Gk s σ rk->vfl a=true->vfl b=true->B3 n s a b=some r->∃ σ' rk',le s σ (fun θ=>app θ a=app θ b) r σ' rk'
 | 0,_,_,_,_,_,_,_,_,_,h=>by cases h
 | n+1,s,σ,rk,a,b,r,h,ha,hb,hr=>by
  obtain⟨x,y,hx,hy,hc⟩:=JW hr
  have hxa:=fun θ (hθ:TY θ s)=>IR hθ hx
  have hyb:=fun θ (hθ:TY θ s)=>IR hθ hy
  have hvx:vfl x=true:=C9 (P:=fun t=>vfl t=true) h.vf ha hx
  have hvy:vfl y=true:=C9 (P:=fun t=>vfl t=true) h.vf hb hy
  rcases hc with ⟨c1,c2,c3,rfl⟩|⟨c1,c2,rfl⟩|⟨c1,c2,rfl⟩|⟨c1,c2,c3,rfl⟩|⟨c1,c2,c3,c4,c5⟩
  ·refine⟨σ,rk,h,Q9.refl s,.inl rfl,fun w=>(h.idem w).symm,fun _=>?_,fun θ hθ _=>⟨rfl,hθ⟩⟩
   rw[<-hxa σ h.sat,<-hyb σ h.sat,Av c1,Av c2,c3]
  ·obtain⟨σ',rk',k⟩:=lI h (Es hx c1) hvy (fun e=>⟨Es hy e,fun e2=>c2 ⟨e,e2.symm⟩⟩)
   refine⟨σ',rk',k.ok,k.ext,k.len,k.comp,fun e=>?_,fun θ hθ he=>k.mgu θ hθ ?_⟩
   ·have hs:=k.ok.sat.mono k.ext
    rw[<-hxa σ' hs,<-hyb σ' hs,Av c1];exact k.eq e
   ·rw[<-Av (f:=θ) c1,hxa θ hθ,hyb θ hθ];exact he
  ·obtain⟨σ',rk',k⟩:=lI h (v:=y.name) (t:=x) (Es hy c2) hvx (fun e=>by rw[c1]at e;cases e)
   refine⟨σ',rk',k.ok,k.ext,k.len,k.comp,fun e=>?_,fun θ hθ he=>k.mgu θ hθ ?_⟩
   ·have hs:=k.ok.sat.mono k.ext
    rw[<-hxa σ' hs,<-hyb σ' hs,Av c2];exact (k.eq e).symm
   ·rw[<-Av (f:=θ) c2,hxa θ hθ,hyb θ hθ];exact he.symm
  ·refine⟨σ,rk,h,Q9.refl s,.inl rfl,fun w=>(h.idem w).symm,(fun e=>by cases e),fun θ hθ he=>?_⟩
   exfalso
   rw[<-hxa θ hθ,<-hyb θ hθ,B7 c1,B7 c2]at he
   injection he with e1 _ e3
   rcases c3 with c3 | c3
   ·exact c3 e1
   ·have:=congrArg List.length e3
    simp only[List.length_map]at this
    exact c3 this
  ·obtain⟨σ',rk',k⟩:=Sj (FR n) x.args y.args s σ rk r h (fun z hz=>BR hvx hz) (fun z hz=>BR hvy hz) c4 c5
   refine⟨σ',rk',k.ok,k.ext,k.len,k.comp,fun e=>?_,fun θ hθ he=>k.mgu θ hθ ?_⟩
   ·have hs:=k.ok.sat.mono k.ext
    rw[<-hxa σ' hs,<-hyb σ' hs,B7 c1,B7 c2,c3,k.eq e]
   ·rw[<-hxa θ hθ,<-hyb θ hθ,B7 c1,B7 c2]at he
    injection he
theorem aK {P:Term->Prop}{Q:A9->Prop}{s:List A5}{v:A9}{t:Term}(hs:∀ v t,Ac s v=some t->P t/\Q v)(hv:Ac s v=none)(ht:P t)(hq:Q v):∀ w x,Ac (LH s v t).1 w=some x->P x/\Q w:=by
 rcases LG s v t with ⟨_,e⟩|⟨_,e⟩
 ·rw[e];exact hs
 ·rw[e]
  intro w x hx
  rw[Dq hv]at hx
  split at hx
  ·rename_i e;cases hx;subst e;exact⟨ht,hq⟩
  ·exact hs w x hx
theorem JU {P:Term->Prop}{Q:A9->Prop}(hP:∀ t a,P t->a∈t.args->P a)(hQ:∀ t,P t->t.var=true->Q t.name):∀ (n:Nat)(s:List A5)(a b:Term)(r:List A5×Bool),(∀ v t,Ac s v=some t->P t/\Q v)->P a->P b->B3 n s a b=some r->∀ v t,Ac r.1 v=some t->P t/\Q v
 | 0,_,_,_,_,_,_,_,h=>by cases h
 | n+1,s,a,b,r,hs,ha,hb,hr=>by
  obtain⟨x,y,hx,hy,hc⟩:=JW hr
  have hvx:P x:=C9 (fun v t h=>(hs v t h).1) ha hx
  have hvy:P y:=C9 (fun v t h=>(hs v t h).1) hb hy
  rcases hc with ⟨c1,c2,c3,rfl⟩|⟨c1,c2,rfl⟩|⟨c1,c2,rfl⟩|⟨c1,c2,c3,rfl⟩|⟨c1,c2,c3,c4,c5⟩
  ·exact hs
  ·exact aK hs (Es hx c1) hvy (hQ x hvx c1)
  ·exact aK hs (Es hy c2) hvx (hQ y hvy c2)
  ·exact hs
  ·have key:∀ (l m:List Term)(s:List A5),(∀ a∈l,P a)->(∀ b∈m,P b)->(∀ v t,Ac s v=some t->P t/\Q v)->AF (B3 n) s l m=some r->∀ v t,Ac r.1 v=some t->P t/\Q v:=by
    intro l
    induction l with
    | nil=>intro m s _ _ hs h;simp only[AF,Option.some.injEq]at h;subst h;exact hs
    | cons a l ihl =>
     intro m s hl hm hs h
     cases m with
     | nil=>simp only[AF,Option.some.injEq]at h;subst h;exact hs
     | cons b m =>
      simp only[AF]at h
      cases hf:B3 n s a b with
      | none=>rw[hf]at h;cases h
      | some p =>
       obtain⟨s1,ok⟩:=p
       rw[hf]at h
       have h1:=JU hP hQ n s a b _ hs (hl a (by simp)) (hm b (by simp)) hf
       cases ok with
       | false=>simp only[Option.some.injEq]at h;subst h;exact h1
       | true=>exact ihl m s1 (fun x hx=>hl x (by simp[hx])) (fun x hx=>hm x (by simp[hx])) h1 h
   exact key x.args y.args s (fun z hz=>hP x z hvx hz) (fun z hz=>hP y z hvy hz) hs c5
theorem aZ:∀ (s:List A5)(Vs:List A9),CK s->(∀ b∈s,b.name∈Vs)->s.length<=Vs.length
 | [],_,_,_=>by simp
 | b::s,Vs,hs,h=>by
  obtain⟨h1,h2⟩:=List.pairwise_cons.1 hs
  have hb:=h b (by simp)
  have:=aZ s (Vs.erase b.name) h2 fun c hc=>(List.mem_erase_of_ne (fun e=>by have:=h1 c hc;rw[e]at this;exact Cs _ this)).2 (h c (by simp[hc]))
  rw[List.length_erase_of_mem hb]at this
  have:=List.length_pos_of_mem hb
  simp only[List.length_cons];omega
def C1 (Vs:List A9)(t:Term):Prop:=vfl t=true/\∀ w,CX w t=true->w∈Vs
theorem C1.arg {Vs:List A9}{t a:Term}(h:C1 Vs t)(ha:a∈t.args):C1 Vs a:=⟨BR h.1 ha,fun w hw=>h.2 w (AO.2 (.inr ⟨a,ha,hw⟩))⟩
theorem I3 {Vs:List A9}{s:List A5}(hs:CK s)(h:∀ v t,Ac s v=some t->C1 Vs t/\v∈Vs):s.length<=Vs.length:=aZ s Vs hs fun b hb=>(h _ _ (DL hs hb)).2
theorem M6 {Vs:List A9}{n:Nat}{s:List A5}{a b:Term}{r:List A5×Bool}(hs:∀ v t,Ac s v=some t->C1 Vs t/\v∈Vs)(ha:C1 Vs a)(hb:C1 Vs b)(hr:B3 n s a b=some r):∀ v t,Ac r.1 v=some t->C1 Vs t/\v∈Vs :=
 JU (P:=C1 Vs) (Q:=fun v=>v∈Vs) (fun t a h ha=>h.arg ha) (fun t h hv=>h.2 _ (AO.2 (.inl ⟨hv,rfl⟩))) n s a b r hs ha hb hr
theorem fR (Vs:List A9):∀ (k m:Nat)(s:List A5)(σ:EQ)(rk:A9->Nat)(a b:Term),Gk s σ rk->(∀ v t,Ac s v=some t->C1 Vs t/\v∈Vs)->C1 Vs a->C1 Vs b->Vs.length-s.length=k->size (app σ a)=m->∃ n r,B3 n s a b=some r:=by
 intro k
 induction k using Nat.strongRecOn with
 | ind k ihk =>
 intro m
 induction m using Nat.strongRecOn with
 | ind m ihm =>
 intro s σ rk a b h hs ha hb hk hm
 obtain⟨x,hx⟩:=Ur h (rk a.name+rk b.name+1) a (fun _=>by omega)
 obtain⟨y,hy⟩:=Ur h (rk a.name+rk b.name+1) b (fun _=>by omega)
 generalize hN:rk a.name+rk b.name+1=N at hx hy
 by_cases c1:x.var=true
 ·by_cases c2:y.var=true/\x.name=y.name
  ·exact⟨N+1,_,by simp only[B3,hx,hy];rw[if_pos c1,if_pos c2]⟩
  ·exact⟨N+1,_,by simp only[B3,hx,hy];rw[if_pos c1,if_neg c2]⟩
 ·by_cases c2:y.var=true
  ·exact⟨N+1,_,by simp only[B3,hx,hy];rw[if_neg c1,if_pos c2]⟩
  ·by_cases c3:x.name≠y.name\/x.args.length≠y.args.length
   ·exact⟨N+1,_,by simp only[B3,hx,hy];rw[if_neg c1,if_neg c2,if_pos c3]⟩
   ·have hxv:x.var=false:=by simpa using c1
    have hax:C1 Vs x:=C9 (P:=C1 Vs) (fun v t h=>(hs v t h).1) ha hx
    have hay:C1 Vs y:=C9 (P:=C1 Vs) (fun v t h=>(hs v t h).1) hb hy
    have hsz:1+Af (x.args.map (app σ))=m:=by
     rw[<-hm,<-IR h.sat hx,B7 hxv];rfl
    have key:∀ (l m':List Term)(s1:List A5)(σ1:EQ)(rk1:A9->Nat),Gk s1 σ1 rk1->(∀ v t,Ac s1 v=some t->C1 Vs t/\v∈Vs)->(∀ z∈l,z∈x.args)->(∀ z∈m',C1 Vs z)->(s1=s\/s.length<s1.length)->∃ n r,AF (B3 n) s1 l m'=some r:=by
     intro l
     induction l with
     | nil=>intro m' s1 _ _ _ _ _ _ _;exact⟨0,(s1,true),by simp only[AF]⟩
     | cons a' l ihl =>
      intro m' s1 σ1 rk1 h1 hs1 hl hm' hlen
      cases m' with
      | nil=>exact⟨0,(s1,true),by simp only[AF]⟩
      | cons b' m' =>
       have haa:C1 Vs a':=hax.arg (hl a' (by simp))
       have hbb:C1 Vs b':=hm' b' (by simp)
       have hone:∃ n r,B3 n s1 a' b'=some r:=by
        rcases hlen with e | e
        ·subst e
         have e:=h.uniq h1
         subst e
         have h3:=B4 (List.mem_map_of_mem (f:=app σ) (hl a' (by simp)))
         exact ihm (size (app σ a')) (by omega) s1 σ rk a' b' h hs1 haa hbb hk rfl
        ·have h3:=I3 h1.srt hs1
         exact ihk (Vs.length-s1.length) (by omega) _ s1 σ1 rk1 a' b' h1 hs1 haa hbb rfl rfl
       obtain⟨n1,⟨s2,ok⟩,hr1⟩:=hone
       cases ok with
       | false=>exact⟨n1,(s2,false),by simp only[AF,hr1]⟩
       | true =>
        obtain⟨σ2,rk2,h2⟩:=FR n1 s1 σ1 rk1 a' b' _ h1 haa.1 hbb.1 hr1
        obtain⟨n2,r2,hr2⟩:=ihl m' s2 σ2 rk2 h2.ok (M6 hs1 haa hbb hr1) (fun z hz=>hl z (by simp[hz])) (fun z hz=>hm' z (by simp[hz])) (by
         have h5:=h2.len
         simp only at h5
         rcases h5 with e | e
         ·rw[e];exact hlen
         ·rcases hlen with e2 | e2
          ·rw[e2]at e;exact .inr e
          ·exact .inr (by omega))
        refine⟨n1+n2,r2,?_⟩
        simp only[AF]
        rw[Fo n1 (n1+n2) _ _ _ _ hr1 (by omega)]
        exact FE (fun s a b r hr=>Fo n2 (n1+n2) s a b r hr (by omega)) _ _ _ _ hr2
    obtain⟨n,r,hr⟩:=key x.args y.args s σ rk h hs (fun z hz=>hz) (fun z hz=>hay.arg hz) (.inl rfl)
    refine⟨N+n+1,r,?_⟩
    simp only[B3]
    rw[LQ hx (by omega),LQ hy (by omega)]
    simp only
    rw[if_neg c1,if_neg c2,if_neg c3]
    exact FE (fun s a b r hr=>Fo n (N+n) s a b r hr (by omega)) _ _ _ _ hr
theorem Ix (Vs:List A9):∀ (l m:List Term)(s:List A5)(σ:EQ)(rk:A9->Nat),Gk s σ rk->(∀ v t,Ac s v=some t->C1 Vs t/\v∈Vs)->(∀ z∈l,C1 Vs z)->(∀ z∈m,C1 Vs z)->∃ n r,AF (B3 n) s l m=some r
 | [],_,s,_,_,_,_,_,_=>⟨0,(s,true),by simp only[AF]⟩
 | _::_,[],s,_,_,_,_,_,_=>⟨0,(s,true),by simp only[AF]⟩
 | a::l,b::m,s,σ,rk,h,hs,hl,hm=>by
  have haa:=hl a (by simp)
  have hbb:=hm b (by simp)
  obtain⟨n1,⟨s2,ok⟩,hr1⟩:=fR Vs _ _ s σ rk a b h hs haa hbb rfl rfl
  cases ok with
  | false=>exact⟨n1,(s2,false),by simp only[AF,hr1]⟩
  | true =>
   obtain⟨σ2,rk2,h2⟩:=FR n1 s σ rk a b _ h haa.1 hbb.1 hr1
   obtain⟨n2,r2,hr2⟩:=Ix Vs l m s2 σ2 rk2 h2.ok (M6 hs haa hbb hr1) (fun z hz=>hl z (by simp[hz])) (fun z hz=>hm z (by simp[hz]))
   refine⟨n1+n2,r2,?_⟩
   simp only[AF]
   rw[Fo n1 (n1+n2) _ _ _ _ hr1 (by omega)]
   exact FE (fun s a b r hr=>Fo n2 (n1+n2) s a b r hr (by omega)) _ _ _ _ hr2
theorem gk {n m:Nat}{s:List A5}{l k:List Term}{r q:List A5×Bool}(h:AF (B3 n) s l k=some r)(h2:AF (B3 m) s l k=some q):r=q:=by
 have e1:=FE (g:=B3 (n+m)) (fun s a b r hr=>Fo n (n+m) s a b r hr (by omega)) _ _ _ _ h
 have e2:=FE (g:=B3 (n+m)) (fun s a b r hr=>Fo m (n+m) s a b r hr (by omega)) _ _ _ _ h2
 rw[e1]at e2;exact Option.some.inj e2
open Classical in
noncomputable def HN (l m:List Term):List A5×Bool:=if h:∃ r,∃ n,AF (B3 n) [] l m=some r then h.choose else ([],false)
theorem NT {n:Nat}{l m:List Term}{r:List A5×Bool}(h:AF (B3 n) [] l m=some r):HN l m=r:=by
 unfold HN
 have he:∃ r,∃ n,AF (B3 n) [] l m=some r:=⟨r,n,h⟩
 rw[dif_pos he]
 obtain⟨k,hk⟩:=he.choose_spec
 exact gk hk h
open Classical in
noncomputable def Td (s:List A5):EQ:=if h:∃ σ,∃ rk,Gk s σ rk then h.choose else C2
theorem SG {s:List A5}{σ:EQ}{rk:A9->Nat}(h:Gk s σ rk):Td s=σ:=by
 unfold Td
 have he:∃ σ,∃ rk,Gk s σ rk:=⟨σ,rk,h⟩
 rw[dif_pos he]
 obtain⟨rk',h'⟩:=he.choose_spec
 exact h'.uniq h
noncomputable def DA (s:List A5):List A5:=s.map fun b=>⟨b.name,Td s b.name⟩
noncomputable def FH (s:List A5):Bool:=s.any fun b=>!BU (Td s b.name)
noncomputable def Ka (l m:List Term):List A5×Bool×Int :=
 if (HN l m).2=false then ([],false,0) else if FH (HN l m).1 then ([],false,3) else (DA (HN l m).1,true,0)
theorem aT {Vs:List A9}{l m:List Term}(hl:∀ z∈l,C1 Vs z)(hm:∀ z∈m,C1 Vs z)(hlen:l.length=m.length):∃ rk,Gk (HN l m).1 (Td (HN l m).1) rk/\(∀ v t,Ac (HN l m).1 v=some t->C1 Vs t/\v∈Vs) /\
  ((HN l m).2=true->l.map (app (Td (HN l m).1))=m.map (app (Td (HN l m).1)))/\∀ θ:EQ,l.map (app θ)=m.map (app θ)->(HN l m).2=true/\TY θ (HN l m).1:=by
 have hnil:∀ v t,Ac [] v=some t->C1 Vs t/\v∈Vs:=fun v t h=>by cases h
 obtain⟨n,r,hr⟩:=Ix Vs l m [] C2 (fun _=>0) Gk.nil hnil hl hm
 rw[NT hr]
 obtain⟨σ,rk,h⟩:=Sj (FR n) l m [] C2 (fun _=>0) r Gk.nil (fun z hz=>(hl z hz).1) (fun z hz=>(hm z hz).1) hlen hr
 rw[SG h.ok]
 refine⟨rk,h.ok,?_,h.eq,fun θ hθ=>h.mgu θ (fun v t h=>by cases h) hθ⟩
 clear h
 revert hr
 have key:∀ (l m:List Term)(s:List A5),(∀ z∈l,C1 Vs z)->(∀ z∈m,C1 Vs z)->(∀ v t,Ac s v=some t->C1 Vs t/\v∈Vs)->AF (B3 n) s l m=some r->∀ v t,Ac r.1 v=some t->C1 Vs t/\v∈Vs:=by
  intro l
  induction l with
  | nil=>intro m s _ _ hs h;simp only[AF,Option.some.injEq]at h;subst h;exact hs
  | cons a l ihl =>
   intro m s hl hm hs h
   cases m with
   | nil=>simp only[AF,Option.some.injEq]at h;subst h;exact hs
   | cons b m =>
    simp only[AF]at h
    cases hf:B3 n s a b with
    | none=>rw[hf]at h;cases h
    | some p =>
     obtain⟨s1,ok⟩:=p
     rw[hf]at h
     have h1:=M6 hs (hl a (by simp)) (hm b (by simp)) hf
     cases ok with
     | false=>simp only[Option.some.injEq]at h;subst h;exact h1
     | true=>exact ihl m s1 (fun x hx=>hl x (by simp[hx])) (fun x hx=>hm x (by simp[hx])) h1 h
 exact key l m [] hl hm hnil
end Go.Dw
end
namespace Go.Dw
theorem my {n:Nat}{seen:List Nat}{k:Nat}(hm:n<=seen.length)(hnd:seen.Nodup)(hlt:∀ i∈seen,i<n)(hk:k∉seen)(hkn:k<n):False:=by
 have h1:(seen++[k]).Nodup:=by simp[List.nodup_append,hnd];intro a ha e;exact hk (e▸ha)
 have h2:(seen++[k]).length<=(List.range n).length:=List.Nodup.length_le_of_subset h1 (by
  intro i hi
  rw[List.mem_range]
  rcases List.mem_append.1 hi with h | h
  ·exact hlt i h
  ·simp only[List.mem_singleton]at h;subst h;exact hkn)
 simp at h2;omega
theorem rJ (n:Nat)(R:List Nat->Prop)(h:∀ seen,seen.Nodup->(∀ i∈seen,i<n)->seen.length<=n->(∀ k,k<n->k∉seen->R (seen++[k]))->R seen):R []:=by
 have key:∀ (f:Nat)(seen:List Nat),n-seen.length<f->seen.Nodup->(∀ i∈seen,i<n)->R seen:=by
  intro f
  induction f with
  | zero=>intro seen hf;omega
  | succ f ih =>
   intro seen hf hnd hlt
   have hl:seen.length<=n:=by simpa using List.Nodup.length_le_of_subset hnd (l₂:=List.range n) fun i hi=>List.mem_range.2 (hlt i hi)
   refine h seen hnd hlt hl fun k hkn hk=>?_
   have hlen:seen.length<n:=by
    rcases Nat.lt_or_ge seen.length n with h | h
    ·exact h
    ·exact (my h hnd hlt hk hkn).elim
   refine ih (seen++[k]) (by simp;omega) (by simp[List.nodup_append,hnd];intro a ha e;exact hk (e▸ha)) fun i hi=>?_
   rcases List.mem_append.1 hi with h | h
   ·exact hlt i h
   ·simp only[List.mem_singleton]at h;subst h;exact hkn
 exact key (n+1) [] (by simp) List.nodup_nil (by simp)
theorem cX {i:Nat}{l:List A9}{s:A9}:(.own i 1 (l.map cS++[[V.str s]]):V)=B8 cS i 1 (l++[s]):=by simp[B8,cS]
end Go.Dw
section
namespace Go.Dw
section
variable {κ α:Type} [DecidableEq κ]
def Cd:List (κ×α)->κ->Option α
 | [],_=>none
 | p::m,k=>if p.1=k then some p.2 else Cd m k
def Fu:List (κ×α)->κ->α->List (κ×α)
 | [],k,x=>[(k,x)]
 | p::m,k,x=>if p.1=k then (k,x)::m else p::Fu m k x
theorem HZ (m:List (κ×α))(k j:κ)(x:α):Cd (Fu m k x) j=if k=j then some x else Cd m j:=by
 induction m with
 | nil=>simp only[Fu,Cd]
 | cons p m ih =>
  simp only[Fu]
  split
  ·rename_i h
   simp only[Cd,h]
   split<;>rfl
  ·rename_i h
   simp only[Cd,ih]
   by_cases h2:p.1=j
   ·rw[if_pos h2,if_neg (fun e=>h (h2.trans e.symm)),if_pos h2]
   ·rw[if_neg h2,if_neg h2]
theorem uR {m:List (κ×α)}{k:κ}{x:α}(h:Cd m k=some x):(k,x)∈m:=by
 induction m with
 | nil=>cases h
 | cons p m ih =>
  simp only[Cd]at h
  split at h
  ·rename_i e;cases h;subst e;exact List.mem_cons_self
  ·exact List.mem_cons_of_mem _ (ih h)
def nf (m:List (κ×α)):Prop:=(m.map (·.1)).Nodup
theorem ou {m:List (κ×α)}(h:nf m)(k:κ)(x:α):nf (Fu m k x):=by
 have hm:∀ (m:List (κ×α)) (j:κ),j∈(Fu m k x).map (·.1)->j=k\/j∈m.map (·.1):=by
  intro m
  induction m with
  | nil=>intro j hj;simp[Fu]at hj;exact .inl hj
  | cons p m ih =>
   intro j hj
   simp only[Fu]at hj
   split at hj
   ·simp only[List.map_cons,List.mem_cons]at hj ⊢
    rcases hj with h | h
    ·exact .inl h
    ·exact .inr (.inr h)
   ·simp only[List.map_cons,List.mem_cons]at hj ⊢
    rcases hj with h | h
    ·exact .inr (.inl h)
    ·rcases ih j h with h | h
     ·exact .inl h
     ·exact .inr (.inr h)
 unfold nf at h ⊢
 induction m with
 | nil=>simp[Fu]
 | cons p m ih =>
  simp only[List.map_cons,List.nodup_cons]at h
  simp only[Fu]
  split
  ·rename_i e
   simp only[List.map_cons,List.nodup_cons]
   subst e;exact h
  ·rename_i e
   simp only[List.map_cons,List.nodup_cons]
   refine⟨fun hc=>?_,ih h.2⟩
   rcases hm m _ hc with h2 | h2
   ·exact e h2
   ·exact h.1 h2
theorem Vj {m:List (κ×α)}(h:nf m){k:κ}{x:α}(hm:(k,x)∈m):Cd m k=some x:=by
 unfold nf at h
 induction m with
 | nil=>cases hm
 | cons p m ih =>
  simp only[List.map_cons,List.nodup_cons]at h
  simp only[Cd]
  rcases List.mem_cons.1 hm with e | hm
  ·subst e;rw[if_pos rfl]
  ·rw[if_neg (fun e=>h.1 (by rw[e];exact List.mem_map_of_mem (f:=(·.1)) hm))]
   exact ih h.2 hm
end
section
variable {α:Type}
def Bp (f:α->V)(m:List (A9×α)):List (V×V):=m.map fun p=>(.str p.1,f p.2)
theorem SU (f:α->V)(m:List (A9×α)):(Bp f m).length=m.length:=by simp[Bp]
theorem RU (f:α->V)(k:A9):∀ (m:List (A9×α)) (i:Nat),(Cd m k=none/\GA (.str k) (Bp f m) i=some none)\/∃ x j,Cd m k=some x/\GA (.str k) (Bp f m) i=some (some (i+j,f x))/\∀ y,(Bp f m).set j (.str k,f y)=Bp f (Fu m k y)
 | [],i=>.inl ⟨rfl,rfl⟩
 | p::m,i=>by
  by_cases h:p.1=k
  ·refine .inr ⟨p.2,0,?_,?_,fun y=>?_⟩
   ·simp[Cd,h]
   ·simp[Bp,GA,HX,h]
   ·simp[Bp,Fu,h]
  ·have h':k≠p.1:=fun e=>h e.symm
   have hb:(k==p.1)=false:=by simpa using h'
   have e:∀ (i:Nat) ,GA (.str k) (Bp f (p::m)) i=GA (.str k) (Bp f m) (i+1):=fun i=>by simp[Bp,GA,HX,hb]
   have eg:Cd (p::m) k=Cd m k:=by simp only[Cd];rw[if_neg h]
   rw[eg,e]
   rcases RU f k m (i+1)with h1 | ⟨x,j,h1,h2,h3⟩
   ·exact .inl h1
   ·refine .inr ⟨x,j+1,h1,by rw[h2];congr 3;omega,fun y=>?_⟩
    have:=h3 y
    simp only[Bp,Fu,if_neg h,List.map_cons,List.set_cons_succ]at this ⊢
    rw[this]
theorem KX (f:α->V)(m:List (A9×α))(k:A9)(ok:Bool)(z:V){H:List Ob}{i:Nat}(hi:H[i]?=some (.map (Bp f m))):LN H true ok z (.map i) (.str k)=some (if ok then .tup [((Cd m k).map f).getD z,.bool (Cd m k).isSome] else ((Cd m k).map f).getD z):=by
 have he:DF H (.map i)=some (Bp f m):=by simp[DF,hi]
 unfold LN
 rw[he]
 rcases RU f k m 0 with ⟨h1,h2⟩|⟨x,j,h1,h2,_⟩
 ·simp[mr,h1,h2,Nd]
 ·simp[mr,h1,h2,Nd]
theorem WK {κ:Type}[DecidableEq κ]{m:List (κ×α)}{k:κ}(h:Cd m k=none)(x:α):Fu m k x=m++[(k,x)]:=by
 induction m with
 | nil=>rfl
 | cons p m ih =>
  simp only[Cd]at h
  split at h
  ·cases h
  ·rename_i e
   simp only[Fu,if_neg e,List.cons_append,ih h]
theorem Q3 (f:α->V)(m:List (A9×α))(k:A9)(x:α):Yh (.str k) (f x) (Bp f m)=some (Bp f (Fu m k x)):=by
 unfold Yh
 rcases RU f k m 0 with ⟨h1,h2⟩|⟨y,j,h1,h2,h3⟩
 ·rw[h2,WK h1];simp[Bp]
 ·rw[h2]
  simp only[Nat.zero_add]
  rw[h3]
theorem TL {σ:Nat->Option Nat}{f:α->V}(hf:∀ x,ren σ (f x)=f x)(m:List (A9×α)):((Bp f m).map fun p=>(ren σ p.1,ren σ p.2))=Bp f m:=by
 unfold Bp
 rw[List.map_map]
 refine List.map_congr_left fun p _=>?_
 show (ren σ (V.str p.1),ren σ (f p.2))=_
 rw[hf];rfl
abbrev Qk:=A9×A9
def Po (k:Qk):V:=.agg [.str k.1,.str k.2]
def GW (f:α->V)(m:List (Qk×α)):List (V×V):=m.map fun p=>(Po p.1,f p.2)
theorem S1 (a b:Qk):OT (Po a) (Po b)=some (decide (a=b)):=by
 obtain⟨a1,a2⟩:=a
 obtain⟨b1,b2⟩:=b
 by_cases h1:a1=b1
 ·by_cases h2:a2=b2
  ·subst h1;subst h2
   simp[OT,Po,TO,HX]
  ·have:(a2==b2)=false:=by simpa using h2
   subst h1
   simp[OT,Po,TO,HX,this,h2]
 ·have:(a1==b1)=false:=by simpa using h1
  simp[OT,Po,TO,HX,this,h1]
theorem Se (f:α->V)(k:Qk):∀ (m:List (Qk×α)) (i:Nat),(Cd m k=none/\NP (Po k) (GW f m) i=some none)\/∃ x j,Cd m k=some x/\NP (Po k) (GW f m) i=some (some (i+j,f x))/\∀ y,(GW f m).set j (Po k,f y)=GW f (Fu m k y)
 | [],i=>.inl ⟨rfl,rfl⟩
 | p::m,i=>by
  by_cases h:p.1=k
  ·refine .inr ⟨p.2,0,?_,?_,fun y=>?_⟩
   ·simp[Cd,h]
   ·simp only[GW,List.map_cons,NP,S1,h,decide_true];rfl
   ·simp[GW,Fu,h]
  ·have h':k≠p.1:=fun e=>h e.symm
   have e:∀ (i:Nat) ,NP (Po k) (GW f (p::m)) i=NP (Po k) (GW f m) (i+1):=fun i=>by simp only[GW,List.map_cons,NP,S1,h',decide_false]
   have eg:Cd (p::m) k=Cd m k:=by simp only[Cd];rw[if_neg h]
   rw[eg,e]
   rcases Se f k m (i+1)with h1 | ⟨x,j,h1,h2,h3⟩
   ·exact .inl h1
   ·refine .inr ⟨x,j+1,h1,by rw[h2];congr 3;omega,fun y=>?_⟩
    have:=h3 y
    simp only[GW,Fu,if_neg h,List.map_cons,List.set_cons_succ]at this ⊢
    rw[this]
theorem mU (f:α->V)(m:List (Qk×α))(k:Qk)(ok:Bool)(z:V){H:List Ob}{i:Nat}(hi:H[i]?=some (.map (GW f m))):RH H [true,true] ok z (.map i) (Po k)=some (if ok then .tup [((Cd m k).map f).getD z,.bool (Cd m k).isSome] else ((Cd m k).map f).getD z):=by
 have he:DF H (.map i)=some (GW f m):=by simp[DF,hi]
 have hs:vh [true,true] (Po k)=true:=rfl
 unfold RH
 rw[he,if_pos hs]
 rcases Se f k m 0 with ⟨h1,h2⟩|⟨x,j,h1,h2,_⟩
 ·simp[h1,h2,Nd]
 ·simp[h1,h2,Nd]
theorem pW (f:α->V)(m:List (Qk×α))(k:Qk)(x:α):mu (Po k) (f x) (GW f m)=some (GW f (Fu m k x)):=by
 unfold mu
 rcases Se f k m 0 with ⟨h1,h2⟩|⟨y,j,h1,h2,h3⟩
 ·rw[h2,WK h1];simp[GW]
 ·rw[h2]
  simp only[Nat.zero_add]
  rw[h3]
theorem qn {σ:Nat->Option Nat}{f:α->V}(hf:∀ x,ren σ (f x)=f x)(m:List (Qk×α)):((GW f m).map fun p=>(ren σ p.1,ren σ p.2))=GW f m:=by
 unfold GW
 rw[List.map_map]
 refine List.map_congr_left fun p _=>?_
 show (ren σ (Po p.1),ren σ (f p.2))=_
 rw[hf];rfl
end
def Gj (s:List A5):Nat->Term->Prop
 | 0,_=>False
 | n+1,t=>if t.var then ∀ x,Ac s t.name=some x->Gj s n x else ∀ a∈t.args,Gj s n a
theorem Gj.mono {s:List A5}:∀ {n m:Nat} {t:Term},Gj s n t->n<=m->Gj s m t
 | 0,_,_,h,_=>h.elim
 | n+1,0,_,_,h=>by omega
 | n+1,m+1,t,h,hm=>by
  simp only[Gj]at h ⊢
  split
  ·rename_i hv
   rw[if_pos hv]at h
   exact fun x hx=>(h x hx).mono (by omega)
  ·rename_i hv
   rw[if_neg hv]at h
   exact fun a ha=>(h a ha).mono (by omega)
theorem aE {s:List A5}:∀ l:List Term,(∀ a∈l,∃ n,Gj s n a)->∃ n,∀ a∈l,Gj s n a
 | [],_=>⟨0,by simp⟩
 | a::l,h=>by
  obtain⟨n,hn⟩:=h a (by simp)
  obtain⟨m,hm⟩:=aE l fun b hb=>h b (by simp[hb])
  refine⟨n+m,fun b hb=>?_⟩
  rcases List.mem_cons.1 hb with rfl | hb
  ·exact hn.mono (by omega)
  ·exact (hm b hb).mono (by omega)
theorem Gk.need {s:List A5}{σ:EQ}{rk:A9->Nat}(h:Gk s σ rk)(t:Term):∃ n,Gj s n t:=by
 have B:∀ t:Term,(∀ u,CX u t=true->∀ x,Ac s u=some x->∃ n,Gj s n x)->∃ n,Gj s n t:=by
  intro t
  induction t using Ah with
  | h t ih =>
  intro hu
  cases hv:t.var with
  | true =>
   cases hi:Ac s t.name with
   | none=>exact⟨1,by simp only[Gj,hv,if_pos];intro x hx;rw[hi]at hx;cases hx⟩
   | some x =>
    obtain⟨n,hn⟩:=hu t.name (AO.2 (.inl ⟨hv,rfl⟩)) x hi
    exact⟨n+1,by simp only[Gj,hv,if_pos];intro y hy;rw[hi]at hy;cases hy;exact hn⟩
  | false =>
   obtain⟨n,hn⟩:=aE (s:=s) t.args fun a ha=>ih a ha fun u hu'=>hu u (AO.2 (.inr ⟨a,ha,hu'⟩))
   exact⟨n+1,by simp only[Gj,hv,Bool.false_eq_true,if_false];exact hn⟩
 have A:∀ u,∀ x,Ac s u=some x->∃ n,Gj s n x:=h.ind fun u ih x hx=>B x fun w hw y hy=>ih x w hx hw y hy
 exact B t fun u _=>A u
end Go.Dw
end
section
namespace Go.Dw
abbrev NM:=List (A9×A9)
abbrev oh (nm:NM)(J:List Ob):List Ob:=.map (Bp V.str nm)::.cells Bi [.map 0]::J
abbrev nH (nm:NM):List Ob:=oh nm []
theorem oq {σ:Nat->Option Nat}(m:NM):((Bp V.str m).map fun p=>(ren σ p.1,ren σ p.2))=Bp V.str m:=TL (fun x=>rfl) m
attribute [push_cast] oq
theorem ke (nm:NM):I4 2 (nH nm):=⟨rfl,by
 show [A6 (AI 2) (.map (Bp V.str nm)),A6 (AI 2) (.cells Bi [.map 0])]=_
 have h0:AI 2 0=some 0:=rfl
 push_cast[h0]⟩
theorem qQ (nm:NM)(J:List Ob):give [0,1] (oh nm J)=nH nm:=by
 show [A6 (Ay [0,1]) (.map (Bp V.str nm)),A6 (Ay [0,1]) (.cells Bi [.map 0])]=_
 have h0:Ay [0,1] 0=some 0:=rfl
 push_cast[h0]
theorem AbO (nm nm':NM)(J:List Ob):takeB [0,1] (oh nm J) (nH nm')=oh nm' J:=by
 apply List.ext_getElem?
 intro i
 rw[DX (by simp)]
 have h0:∀ n,BG [0,1] n 0=some 0:=fun _=>rfl
 match i with
 | 0=>rw[if_pos (by simp)];show some (A6 _ (.map (Bp V.str nm')))=some _;push_cast
 | 1=>rw[if_pos (by simp)];show some (A6 _ (.cells Bi [.map 0]))=some _;push_cast[h0]
 | i+2 =>
  have hp:Ay [0,1] (i+2)=none:=by simp[Ay,List.findIdx?_cons]
  by_cases h:i<J.length
  ·rw[if_pos (by simp;omega),hp]
   simp[List.getD_eq_getElem?_getD,h]
  ·rw[if_neg (by simp;omega)]
   have e1:(oh nm' J)[i+2]?=none:=List.getElem?_eq_none (by simp;omega)
   have e2:(nH nm')[[0,1].length+(i+2-(oh nm J).length)]?=none:=List.getElem?_eq_none (by simp)
   rw[e1,e2];rfl
section
variable {N:Nat->C} {B:Nat} {k:List K} {t:T} {Q:X->T->List Ob->Prop} {dd:Option Nat} {l:List S} {F:Fn} {vs vs':List V} {nm nm':NM} {J:List Ob} {x:V}
theorem cH (hv:AN (Ay [0,1]) vs=vs')(h:Hl prog F vs' (nH nm) fun x' H'=>x'=x/\H'=nH nm')(k':Ax prog N B (.r l::k) (Fd dd (ren (BG [0,1] (J.length+2)) x) t) (oh nm' J) Q):Bl prog N B dd l k t Q F vs (oh nm J):=by
 refine Bl.some [0,1] (by simp) (by simp) (R:=fun x' H'=>x'=x/\H'=nH nm') (by rw[qQ,hv];exact h) ?_
 rintro x' H' ⟨rfl,rfl⟩ _
 rw[AbO];exact k'
end
abbrev pw (P:List Ob)(nm:NM)(J:List Ob):List Ob:=P++(.map (Bp V.str nm)::.cells Bi [.map P.length]::J)
theorem zx (p:Nat):Ay [p,p+1] p=some 0:=by simp[Ay,List.findIdx?_cons]
theorem Abn (p:Nat):Ay [p,p+1] (p+1)=some 1:=by simp[Ay,List.findIdx?_cons]
theorem zf (P:List Ob)(nm:NM)(J:List Ob):give [P.length,P.length+1] (pw P nm J)=nH nm:=by
 unfold give
 have e1:(pw P nm J).getD P.length .dead=.map (Bp V.str nm):=by simp[List.getD_eq_getElem?_getD]
 have e2:(pw P nm J).getD (P.length+1) .dead=.cells Bi [.map P.length]:=by
  rw[List.getD_eq_getElem?_getD,List.getElem?_append_right (by omega)]
  simp
 simp only[List.map_cons,List.map_nil,e1,e2]
 push_cast[zx]
theorem xD (P:List Ob)(nm nm':NM)(J:List Ob):takeB [P.length,P.length+1] (pw P nm J) (nH nm')=pw P nm' J:=by
 apply List.ext_getElem?
 intro i
 rw[DX (by simp)]
 have hb0:∀ n,BG [P.length,P.length+1] n 0=some P.length:=fun _=>rfl
 have hlen:(pw P nm J).length=P.length+(J.length+2):=by simp
 by_cases h1:i<P.length
 ·have hp:Ay [P.length,P.length+1] i=none:=by
   have a1:¬ P.length=i:=by omega
   have a2:¬ P.length+1=i:=by omega
   simp[Ay,List.findIdx?_cons,a1,a2]
  rw[if_pos (by omega),hp,List.getElem?_append_left h1,List.getD_eq_getElem?_getD,List.getElem?_append_left h1]
  simp[h1]
 ·rw[List.getElem?_append_right (by omega)]
  by_cases h2:i=P.length
  ·subst h2
   rw[if_pos (by omega),zx]
   simp only[Nat.sub_self,List.getElem?_cons_zero]
   show some (A6 _ (.map (Bp V.str nm')))=_
   push_cast
  ·by_cases h3:i=P.length+1
   ·subst h3
    rw[if_pos (by omega),Abn]
    have e:P.length+1-P.length=1:=by omega
    rw[e]
    simp only[List.getElem?_cons_succ,List.getElem?_cons_zero]
    show some (A6 _ (.cells Bi [.map 0]))=_
    push_cast[hb0]
   ·have hp:Ay [P.length,P.length+1] i=none:=by
     have a1:¬ P.length=i:=by omega
     have a2:¬ P.length+1=i:=by omega
     simp[Ay,List.findIdx?_cons,a1,a2]
    obtain⟨j,rfl⟩:∃ j,i=P.length+2+j:=⟨i-P.length-2,by omega⟩
    have e:P.length+2+j-P.length=j+2:=by omega
    rw[e]
    simp only[List.getElem?_cons_succ]
    by_cases h4:j<J.length
    ·rw[if_pos (by omega),hp]
     simp only[List.getD_eq_getElem?_getD]
     rw[List.getElem?_append_right (by omega),e]
     simp[h4]
    ·rw[if_neg (by omega)]
     have e1:J[j]?=none:=List.getElem?_eq_none (by omega)
     have e2:(nH nm')[[P.length,P.length+1].length+(P.length+2+j-(pw P nm J).length)]?=none:=List.getElem?_eq_none (by simp)
     rw[e1,e2];rfl
theorem FK {N:Nat->C}{B:Nat}{k:List K}{t:T}{Q:X->T->List Ob->Prop}{dd:Option Nat}{l:List S}{F:Fn}{vs vs':List V}{nm nm':NM}{x:V}(P J:List Ob)(hv:AN (Ay [P.length,P.length+1]) vs=vs')(h:Hl prog F vs' (nH nm) fun x' H'=>x'=x/\H'=nH nm')
  (k':Ax prog N B (.r l::k) (Fd dd (ren (BG [P.length,P.length+1] (pw P nm J).length) x) t) (pw P nm' J) Q):Bl prog N B dd l k t Q F vs (pw P nm J):=by
 refine Bl.some [P.length,P.length+1] (by simp) (by simp) (R:=fun x' H'=>x'=x/\H'=nH nm') (by rw[zf,hv];exact h) ?_
 rintro x' H' ⟨rfl,rfl⟩ _
 rw[xD];exact k'
def K9 (pre:A9)(nm:NM)(v:A9):NM×A9:=if (Cd nm v).getD []=[] then (Fu nm v (pre++IS nm.length),pre++IS nm.length) else (nm,(Cd nm v).getD [])
theorem uj {κ α:Type}[DecidableEq κ](m:List (κ×α))(k:κ)(x:α):(Fu m k x).length<=m.length+1:=by
 induction m with
 | nil=>simp[Fu]
 | cons p m ih=>simp only[Fu];split<;>simp;exact ih
theorem oO (pre:A9)(nm:NM)(v:A9):(K9 pre nm v).1.length<=nm.length+1:=by
 unfold K9
 split
 ·exact uj _ _ _
 ·exact Nat.le_succ _
theorem Wv (n:Nat):(IS n).length<=n+1:=by
 induction n using Nat.strongRecOn with
 | ind n ih =>
  unfold IS Lib.decDigits
  split
  ·simp
  ·have:=ih (n / 10) (by omega)
   unfold IS at this
   simp only[List.length_append,List.length_singleton]
   omega
theorem RT (nm:NM)(v:A9)(hl:nm.length<2^62):Spec prog ES [.str v,.ptr 1 0] (nH nm) fun x H'=>x=.str (K9 [120] nm v).2/\H'=nH (K9 [120] nm v).1:=by
 have hlk:∀ nm l,_:=fun (nm:NM) (l:List Ob)=>KX V.str nm v false (.str []) (H:=oh nm l) (i:=0) rfl
 have hup:=Q3 V.str nm v (120::IS nm.length)
 have hcap:1+(IS nm.length).length<=BJ:=by have:=Wv nm.length;unfold BJ;omega
 have hlm:∀ l,W8 (oh nm l) (.map 0)=some (.int .i64 nm.length):=fun l=>by unfold W8;simp[DF,SU]
 have hI:=Pu nm.length hl
 refine AC mixed Mv.ok rfl ?_
 unfold K9
 have e2:∀ nm:NM,((Cd nm v).map V.str).getD (.str [])=.str ((Cd nm v).getD []):=fun nm=>by cases Cd nm v<;>rfl
 simp only[e2,Bool.false_eq_true,if_false]at hlk
 by_cases h:(Cd nm v).getD []=[]
 ·rw[if_pos h]
  have h3:(Cd (Fu nm v (120::IS nm.length)) v).getD []=120::IS nm.length:=by rw[HZ,if_pos rfl];rfl
  push_cast[hlk,h,hlm]
  refine .of hI ?_
  push_cast[hup,hlk,h3,hcap]
  exact⟨rfl,Ck (.inl rfl) rfl ⟨rfl,rfl⟩⟩
 ·rw[if_neg h]
  push_cast[hlk,h]
  exact Ck (.inl rfl) rfl ⟨rfl,rfl⟩
theorem Mm (nm:NM)(v:A9)(hl:nm.length<2^40):Spec prog CP [.str v,.ptr 1 0] (nH nm) fun x H'=>x=.str (K9 [121] nm v).2/\H'=nH (K9 [121] nm v).1:=by
 have hlk:∀ nm l,_:=fun (nm:NM) (l:List Ob)=>KX V.str nm v false (.str []) (H:=oh nm l) (i:=0) rfl
 have hup:=Q3 V.str nm v (121::IS nm.length)
 have hcap:1+(IS nm.length).length<=BJ:=by have:=Wv nm.length;unfold BJ;omega
 have hlm:∀ l,W8 (oh nm l) (.map 0)=some (.int .i64 nm.length):=fun l=>by unfold W8;simp[DF,SU]
 have hI:=Pu nm.length (by omega)
 refine AC mixed P1.ok rfl ?_
 unfold K9
 have e2:∀ nm:NM,((Cd nm v).map V.str).getD (.str [])=.str ((Cd nm v).getD []):=fun nm=>by cases Cd nm v<;>rfl
 simp only[e2,Bool.false_eq_true,if_false]at hlk
 by_cases h:(Cd nm v).getD []=[]
 ·rw[if_pos h]
  have h3:(Cd (Fu nm v (121::IS nm.length)) v).getD []=121::IS nm.length:=by rw[HZ,if_pos rfl];rfl
  push_cast[hlk,h,hlm]
  refine .of hI ?_
  push_cast[hup,hlk,h3,hcap]
  exact⟨rfl,Ck (.inl rfl) rfl ⟨rfl,rfl⟩⟩
 ·rw[if_neg h]
  push_cast[hlk,h]
  exact Ck (.inl rfl) rfl ⟨rfl,rfl⟩
mutual
def Hd (pre:A9)(nm:NM):Term->NM×Term
 | .mk n v l=>if v then ((K9 pre nm n).1,.mk (K9 pre nm n).2 true []) else ((Eg pre nm l).1,.mk n false (Eg pre nm l).2)
def Eg (pre:A9)(nm:NM):List Term->NM×List Term
 | []=>(nm,[])
 | a::l=>((Eg pre (Hd pre nm a).1 l).1,(Hd pre nm a).2::(Eg pre (Hd pre nm a).1 l).2)
end
theorem bh (pre:A9)(nm:NM)(t:Term):Hd pre nm t=if t.var then ((K9 pre nm t.name).1,.mk (K9 pre nm t.name).2 true []) else ((Eg pre nm t.args).1,.mk t.name false (Eg pre nm t.args).2):=by cases t;simp only[Hd];rfl
theorem Tg (pre:A9):∀ (a b:List Term)(nm:NM),Eg pre nm (a++b)=((Eg pre (Eg pre nm a).1 b).1,(Eg pre nm a).2++(Eg pre (Eg pre nm a).1 b).2)
 | [],b,nm=>rfl
 | x::a,b,nm=>by simp only[List.cons_append,Eg,Tg pre a b]
theorem aS (pre:A9):∀ (a:List Term)(nm:NM),(Eg pre nm a).2.length=a.length
 | [],nm=>rfl
 | x::a,nm=>by simp only[Eg,List.length_cons,aS pre a]
theorem Nz (pre:A9)(t:Term):∀ nm:NM,(Hd pre nm t).1.length<=nm.length+size t:=by
 induction t using Ah with
 | h t ih =>
 intro nm
 have hst:=Aq t
 rw[bh]
 split
 ·have:=oO pre nm t.name;simp only;omega
 ·have key:∀ (l:List Term)(nm:NM),(∀ a∈l,a∈t.args)->(Eg pre nm l).1.length<=nm.length+Af l:=by
   intro l
   induction l with
   | nil=>intro nm _;simp[Eg,Af]
   | cons a l ihl =>
    intro nm hl
    have h1:=ih a (hl a (by simp)) nm
    have h2:=ihl (Hd pre nm a).1 fun b hb=>hl b (by simp[hb])
    simp only[Eg,Af]
    omega
  have:=key t.args nm fun _ h=>h
  simp only;omega
theorem Mb {g:Nat}{pre:A9}(hg:∀ (nm:NM)(v:A9),nm.length<2^40->Spec prog g [.str v,.ptr 1 0] (nH nm) fun x H'=>x=.str (K9 pre nm v).2/\H'=nH (K9 pre nm v).1)(t:Term) :
  ∀ nm:NM,nm.length+size t<2^40->Spec prog Dn [An t,.fn (.func g) [] [.ptr 1 0]] (nH nm) fun x H'=>x=An (Hd pre nm t).2/\H'=nH (Hd pre nm t).1:=by
 induction t using Ah with
 | h t ih =>
 intro nm hl
 have hst:=Aq t
 have hla:=Ap t.args
 have p1:Ay [0,1] 1=some 1:=rfl
 have c1:AI 2 1=some 1:=rfl
 refine AC mixed KH.ok rfl ?_
 rw[bh]
 cases hv:t.var with
 | true =>
  rw[if_pos rfl]
  push_cast[hv]
  refine cH (by push_cast[p1]) (AT▸hg nm t.name (by omega)) ?_
  push_cast
  exact Am (H:=nH (K9 pre nm t.name).1) (J:=[_]) (ke _) rfl ⟨by push_cast;rfl,rfl⟩
 | false =>
  rw[if_neg (by simp)]
  push_cast[hv]
  refine Ae (n:=t.args.length) (R:=fun k=>KH.L3 (.fn (.func g) [] [.ptr 1 0]) (.ptr 2 0) (.ptr 3 0) (Bk t.args) (.int .i64 t.args.length) (.int .i64 k) 2
   (oh (Eg pre nm (t.args.take k)).1 [.cells A2 [.str [],.bool false,.sl 3 []],.cells A2 [.str t.name,.bool false,B8 cT 4 3 (Eg pre nm (t.args.take k)).2],.arr A2 3 k]) _) ?_ ?_ 0 (by omega)
  ·intro k hk ih2
   have hme:=A4 hk
   have hlt:(Eg pre nm (t.args.take k)).2.length=k:=by rw[aS];simp;omega
   have hsz:=B4 hme
   have hpre:(Eg pre nm (t.args.take k)).1.length+size (t.args.getD k default)<2^40:=by
    have key:∀ (l:List Term)(nm:NM),(Eg pre nm l).1.length<=nm.length+Af l:=by
     intro l
     induction l with
     | nil=>intro nm;simp[Eg,Af]
     | cons a l ihl =>
      intro nm
      have h1:=Nz pre a nm
      have h2:=ihl (Hd pre nm a).1
      simp only[Eg,Af];omega
    have h1:=key (t.args.take k) nm
    have h2:Af (t.args.take k)+size (t.args.getD k default)<=Af t.args:=by
     have h3:Af (t.args.take (k+1))=Af (t.args.take k)+size (t.args.getD k default):=by rw[Aa hk,Dk];simp[Af]
     have h4:Af t.args=Af (t.args.take (k+1))+Af (t.args.drop (k+1)):=by rw[<-Dk,List.take_append_drop]
     omega
    omega
   have hc:=ih _ hme (Eg pre nm (t.args.take k)).1 hpre
   rw[Aa hk,Tg]at ih2
   simp only[Eg]at ih2
   generalize Eg pre nm (t.args.take k)=q at hlt hc ih2
   generalize Hd pre q.1 (t.args.getD k default)=u at hc ih2
   refine A7.2 ?_
   push_cast[BB hk]
   refine⟨⟨?_,?_⟩,?_⟩
   all_goals
    refine cH (J:=[_,_,_,_]) (by push_cast[p1]) hc ?_
    push_cast[hlt,Um (show k<2^40 by omega) (show 48<=64 by omega),Co (show k<2^62 by omega),c1]
    push_cast at ih2
    exact ih2
  ·refine A7.2 ?_
   push_cast[AZ (Nat.le_refl _)]
   rw[List.take_length]
   refine Am (H:=nH _) (J:=[_,_,_]) (ke _) rfl ⟨?_,rfl⟩
   push_cast[KH.rs]
   rw[An,Qm];rfl
theorem VV:Spec prog FF [] [] fun x H'=>x=.fn (.func Dt) [] [.ptr 1 0]/\H'=nH []:=by
 refine AC mixed RB.ok rfl ?_
 push_cast
 refine cZ (.inl rfl) [0,1] (by simp) (by simp) rfl ⟨?_,?_⟩
 ·have p1:Ay (List.range 0++[0,1]) 1=some 1:=rfl
  push_cast[p1]
 ·exact qQ [] []
theorem Ez (nm:NM)(t:Term)(hl:nm.length+size t<2^40):Spec prog Dt [An t,.ptr 1 0] (nH nm) fun x H'=>x=An (Hd [120] nm t).2/\H'=nH (Hd [120] nm t).1:=by
 have hR:=Mb (g:=ES) (pre:=[120]) (fun nm v h=>RT nm v (by omega)) t nm hl
 have p1:Ay [0,1] 1=some 1:=rfl
 refine AC mixed P3.ok rfl ?_
 push_cast
 refine cH (J:=[_]) (by push_cast[p1]) hR ?_
 push_cast
 exact Am (H:=nH (Hd [120] nm t).1) (J:=[_]) (ke _) rfl ⟨by push_cast,rfl⟩
def qC (pre:A9)(x:A3):A3:=⟨(Hd pre [] x.left).2,(Hd pre (Hd pre [] x.left).1 x.right).2⟩
theorem VR (x:A3)(hl:size x.left+size x.right<2^39):PF Kr [Oh x] (Oh (qC [121] x)):=by
 have hL:=Mb (g:=CP) (pre:=[121]) Mm x.left [] (by simp;omega)
 have hR:=Mb (g:=CP) (pre:=[121]) Mm x.right (Hd [121] [] x.left).1 (by have:=Nz [121] x.left [];simp only[List.length_nil]at this;omega)
 have p1:Ay [0,1] 1=some 1:=rfl
 refine Ad N0.ok rfl ?_
 push_cast
 have q1:Ay [1,2] 2=some 1:=rfl
 refine FK (vs:=[An x.left,V.fn (Fn.func CP) [] [V.ptr 2 0]]) (nm:=[]) [.cells Ch [V.str [],V.bool false,V.sl 3 [],V.str [],V.bool false,V.sl 3 []]] [] (by push_cast[q1]) (AT▸hL) ?_
 push_cast
 refine FK (vs:=[An x.right,V.fn (Fn.func CP) [] [V.ptr 2 0]]) [.cells Ch [V.str [],V.bool false,V.sl 3 [],V.str [],V.bool false,V.sl 3 []]] [_] (by push_cast[q1]) (AT▸hR) ?_
 push_cast
 refine A0 ?_
 push_cast[N0.rs,qC]
 rfl
end Go.Dw
end
namespace Go.Dw
def VK (l:List A9)(x:A9):Bool:=l.any fun y=>decide (y=x)
theorem ge {l:List A9}{x:A9}:VK l x=true↔x∈l:=by
 unfold VK;simp[List.any_eq_true]
theorem UN (l:List A9)(x:A9)(hl:l.length<2^62):PF NE [C7 l,.str x] (.bool (VK l x)):=by
 refine Ad R8.ok rfl ?_
 push_cast
 refine Ae (n:=l.length) (R:=fun k=>VK (l.drop k) x=VK l x->R8.L3 (.str x) (C7 l) (.int .i64 l.length) (.int .i64 k) 0 [] (BH 0 R8.rs fun y H=>y=.bool (VK l x)/\H=[])) ?_ ?_ 0 (Nat.zero_le _) rfl
 ·intro k hk ih hq
  rw[Ag hk]at hq
  refine A7.2 ?_
  generalize hy:l.getD k default=y at hq
  simp only[VK,List.any_cons]at hq
  by_cases h:y=x
  ·push_cast[BB hk,hy,eq_true h]
   simp only[h,decide_true,Bool.true_or]at hq
   exact A0 (by push_cast[R8.rs,VK,h,<-hq])
  ·push_cast[BB hk,hy,eq_false h,Co (show k<2^62 by omega)]
   simp only[h,decide_false,Bool.false_or]at hq
   push_cast at ih
   exact ih hq
 ·intro hq
  refine A7.2 ?_
  rw[List.drop_length]at hq
  push_cast[AZ (Nat.le_refl _)]
  exact A0 (by push_cast[R8.rs,<-hq];simp[VK])
theorem Uu {l:List A9}{x:A9}(h:x∈l):VK l x=true:=ge.2 h
theorem S4 {l:List A9}{x:A9}(h:x∉l):VK l x=false:=by
 cases e:VK l x with
 | false=>rfl
 | true=>exact absurd (ge.1 e) h
theorem bQ (n:Nat):n<2^62->PF IO [.int .i64 n] (.str (IS n)):=by
 induction n using Nat.strongRecOn with
 | ind n ih =>
 intro hn
 refine Ad ON.ok rfl ?_
 unfold IS Lib.decDigits
 by_cases h:n<10
 ·have hi:((n:Int)<10)=True:=eq_true (by omega)
  rw[dif_pos h]
  have hb:jh [[V.int .u8 (IntKind.u8.wrap (IntKind.i64.wrap (48+(n:Int))))]]=some [UInt8.ofNat (48+n)]:=by
   have:n=0\/n=1\/n=2\/n=3\/n=4\/n=5\/n=6\/n=7\/n=8\/n=9:=by omega
   rcases this with rfl | rfl | rfl | rfl | rfl | rfl | rfl | rfl | rfl | rfl<;>rfl
  push_cast[hi,hb]
  exact A0 (by push_cast[ON.rs])
 ·have hi:((n:Int)<10)=False:=eq_false (by omega)
  rw[dif_neg h]
  have h1:=ih (n / 10) (by omega) (by omega)
  have h2:=ih (n % 10) (by omega) (by omega)
  have e1:IntKind.i64.wrap ((n:Int).tdiv 10)=((n / 10:Nat):Int):=by
   rw[Int.tdiv_eq_ediv_of_nonneg (by omega),Cr (by omega) (by omega)];omega
  have e2:(n:Int).tmod 10=((n % 10:Nat):Int):=by
   rw[Int.tmod_eq_emod_of_nonneg (by omega)];omega
  have h3:IS (n % 10)=[UInt8.ofNat (48+n % 10)]:=by
   unfold IS Lib.decDigits;rw[dif_pos (by omega)]
  have hcap:(IS (n / 10)).length+1<=BJ:=by have:=Wv (n / 10);unfold BJ;omega
  rw[h3]at h2
  push_cast[hi]
  rw[e1]
  refine .of h1 ?_
  push_cast
  rw[e2]
  refine .of h2 ?_
  push_cast[hcap]
  exact A0 (by push_cast[ON.rs])
mutual
def AG (l:List A9):Term->List A9
 | .mk n v ar=>if v then (if n∈l then l else l++[n]) else BQ l ar
def BQ (l:List A9):List Term->List A9
 | []=>l
 | a::ar=>BQ (AG l a) ar
end
theorem Lc (l:List A9)(t:Term):AG l t=if t.var then (if t.name∈l then l else l++[t.name]) else BQ l t.args:=by cases t;simp only[AG];rfl
theorem PW:∀ (a b:List Term)(l:List A9),BQ l (a++b)=BQ (BQ l a) b
 | [],b,l=>rfl
 | x::a,b,l=>by simp only[List.cons_append,BQ,PW a b]
theorem Ql (t:Term):∀ l:List A9,(AG l t).length<=l.length+size t:=by
 induction t using Ah with
 | h t ih =>
 intro l
 have hst:=Aq t
 rw[Lc]
 split
 ·split
  ·omega
  ·simp;omega
 ·have key:∀ (ar:List Term)(l:List A9),(∀ a∈ar,a∈t.args)->(BQ l ar).length<=l.length+Af ar:=by
   intro ar
   induction ar with
   | nil=>intro l _;simp[BQ,Af]
   | cons a ar ihl =>
    intro l hl
    have h1:=ih a (hl a (by simp)) l
    have h2:=ihl (AG l a) fun b hb=>hl b (by simp[hb])
    simp only[BQ,Af]
    omega
  have:=key t.args l fun _ h=>h
  omega
theorem cv (ar:List Term)(l:List A9):(BQ l ar).length<=l.length+Af ar:=by
 induction ar generalizing l with
 | nil=>simp[BQ,Af]
 | cons a ar ih =>
  have h1:=Ql a l
  have h2:=ih (AG l a)
  simp only[BQ,Af];omega
theorem Vw (t:Term):∀ l:List A9,l.length+size t<2^40->PF K2 [An t,C7 l] (C7 (AG l t)):=by
 induction t using Ah with
 | h t ih =>
 intro l hl
 have hst:=Aq t
 have hla:=Ap t.args
 refine Ad La.ok rfl ?_
 rw[Lc]
 cases hv:t.var with
 | true =>
  rw[if_pos rfl]
  have hH:=UN l t.name (by omega)
  push_cast[hv]
  refine .of hH ?_
  by_cases hm:t.name∈l
  ·rw[Uu hm,if_pos hm]
   push_cast
   exact A0 (by push_cast[La.rs])
  ·rw[S4 hm,if_neg hm]
   have hr1:l.length*16<=Ai:=by unfold Ai;omega
   have hr2:(l.length+1)*16<=Ai:=by unfold Ai;omega
   have ho:∀ i,(.own i 1 (l.map cS):V)=B8 cS i 1 l:=fun i=>rfl
   push_cast[hr1,hr2,ho,cX,List.length_map]
   exact A0 (by push_cast[La.rs])
 | false =>
  rw[if_neg (by simp)]
  push_cast[hv]
  refine Ae (n:=t.args.length) (R:=fun k=>La.L3 (C7 (BQ l (t.args.take k))) (Bk t.args) (.int .i64 t.args.length) (.int .i64 k) 0 [] _) ?_ ?_ 0 (by omega)
  ·intro k hk ih2
   have hme:=A4 hk
   have h1:=cv (t.args.take k) l
   have h3:Af (t.args.take (k+1))=Af (t.args.take k)+size (t.args.getD k default):=by rw[Aa hk,Dk];simp[Af]
   have h4:Af t.args=Af (t.args.take (k+1))+Af (t.args.drop (k+1)):=by rw[<-Dk,List.take_append_drop]
   have hc:=ih _ hme (BQ l (t.args.take k)) (by omega)
   rw[Aa hk,PW]at ih2
   simp only[BQ]at ih2
   refine A7.2 ?_
   push_cast[BB hk]
   refine .of hc ?_
   push_cast[Co (show k<2^62 by omega)]
   push_cast at ih2
   exact ih2
  ·refine A7.2 ?_
   push_cast[AZ (Nat.le_refl _)]
   exact A0 (by push_cast[La.rs];rw[List.take_length])
def CE (l:List A9):List A9:=l.foldl Ph []
theorem LP {v:A9}:∀ (l m:List A9),v∈l.foldl Ph m↔v∈m\/v∈l
 | [],m=>by simp
 | x::l,m=>by
  simp only[List.foldl_cons,LP l,WN,List.mem_cons]
  constructor
  ·rintro ((h | h) | h)
   ·exact .inl h
   ·exact .inr (.inl h)
   ·exact .inr (.inr h)
  ·rintro (h | h | h)
   ·exact .inl (.inl h)
   ·exact .inl (.inr h)
   ·exact .inr h
theorem Il:∀ (l m:List A9),(l.foldl Ph m).length<=m.length+l.length
 | [],m=>by simp
 | x::l,m=>by
  have:=Il l (Ph m x)
  have:=WZ m x
  simp only[List.foldl_cons,List.length_cons];omega
theorem cc (l:List A9)(hl:l.length<2^38)(hn:∀ x∈l,x.length<2^62):PF O7 [C7 l] (C7 (CE l)):=by
 refine Ad OG.ok rfl ?_
 push_cast
 refine Ae (n:=l.length) (R:=fun k=>OG.L3 (C7 ((l.take k).foldl Ph [])) (C7 l) (.int .i64 l.length) (.int .i64 k) 0 [] _) ?_ ?_ 0 (by omega)
 ·intro k hk ih
  have hm:=A4 hk
  have h1:=Il (l.take k) []
  have h2:(l.take k).length<=k:=by simp;omega
  have hI:=SD ((l.take k).foldl Ph []) (l.getD k default) (by simp only[List.length_nil]at h1;omega) (fun x hx=>by
   rcases (LP _ _).1 hx with h | h
   ·cases h
   ·exact hn x (List.mem_of_mem_take h)) (hn _ hm)
  rw[Aa hk,List.foldl_append]at ih
  simp only[List.foldl_cons,List.foldl_nil]at ih
  refine A7.2 ?_
  push_cast[BB hk]
  refine .of hI ?_
  push_cast[Co (show k<2^62 by omega)]
  push_cast at ih
  exact ih
 ·refine A7.2 ?_
  push_cast[AZ (Nat.le_refl _)]
  exact A0 (by push_cast[OG.rs];rw[List.take_length];rfl)
def IV (pre v:A9):Nat->List A9->List A5
 | _,[]=>[]
 | i,x::l=>(if x=v then [⟨v,C2 (pre++IS i)⟩] else [])++IV pre v (i+1) l
def RJ (l:List A9)(pre:A9):List A5:=(CE l).flatMap fun v=>IV pre v 0 l
theorem TK (pre v:A9):∀ (l:List A9)(i:Nat),(IV pre v i l).length<=l.length
 | [],i=>by simp[IV]
 | x::l,i=>by
  have:=TK pre v l (i+1)
  simp only[IV,List.length_append,List.length_cons]
  split<;>simp<;>omega
theorem fU {l:List A9}{F:A9->List A5}{m:Nat}(h:∀ v,(F v).length<=m):(l.flatMap F).length<=l.length*m:=by
 induction l with
 | nil=>simp
 | cons x l ih =>
  have:=h x
  simp only[List.flatMap_cons,List.length_append,List.length_cons,Nat.succ_mul];omega
theorem Zt (pre v:A9):∀ (l:List A9)(i k:Nat),k<l.length->IV pre v i (l.take (k+1))=IV pre v i (l.take k)++(if l.getD k default=v then [⟨v,C2 (pre++IS (i+k))⟩] else [])
 | [],i,k,h=>by simp at h
 | x::l,i,0,h=>by simp[IV]
 | x::l,i,k+1,h=>by
  have:=Zt pre v l (i+1) k (by simpa using h)
  simp only[List.take_succ_cons,IV,this,List.getD_cons_succ]
  rw[show i+1+k=i+(k+1) by omega,List.append_assoc]
theorem PB (l:List A9)(pre:A9)(hl:l.length<2^19)(hn:∀ x∈l,x.length<2^62)(hp:pre.length<2^20):PF IC [C7 l,.str pre] (B5 (RJ l pre)):=by
 have hS:=cc l (by omega) hn
 have hsl:(CE l).length<=l.length:=by have:=Il l [];simpa[CE]using this
 refine Ad DK.ok rfl ?_
 push_cast
 refine .of hS ?_
 push_cast
 have hsq:l.length*l.length<=2^19*2^19:=Nat.mul_le_mul (by omega) (by omega)
 refine Ae (n:=(CE l).length) (R:=fun k=>DK.L6 (C7 l) (.str pre) (B8 cB 0 4 (((CE l).take k).flatMap fun v=>IV pre v 0 l)) (C7 (CE l)) (.int .i64 (CE l).length) (.int .i64 k) 0 [.arr Cg 4 (((CE l).take k).flatMap fun v=>IV pre v 0 l).length] (BH 0 DK.rs fun x H=>x=B5 (RJ l pre)/\H=[])) ?_ ?_ 0 (by omega)
 ·intro k hk ih
  have hm:=A4 hk
  rw[Aa hk,List.flatMap_append]at ih
  simp only[List.flatMap_cons,List.flatMap_nil,List.append_nil]at ih
  have hbl:(((CE l).take k).flatMap fun v=>IV pre v 0 l).length<=k*l.length:=by
   have h1:=fU (l:=(CE l).take k) (F:=fun v=>IV pre v 0 l) (m:=l.length) fun v=>TK pre v l 0
   have h2:((CE l).take k).length=k:=by simp;omega
   rw[h2]at h1;exact h1
  have hkl:k*l.length<=l.length*l.length:=Nat.mul_le_mul_right _ (by omega)
  generalize ((CE l).take k).flatMap (fun v=>IV pre v 0 l)=B0 at ih hbl
  refine A7.2 ?_
  push_cast[BB hk]
  generalize hv:(CE l).getD k default=v at hm ih
  have inner:DK.L4 (C7 l) (.str pre) (B8 cB 0 4 (B0++IV pre v 0 (l.take 0))) (.str v) (C7 (CE l)) (.int .i64 (CE l).length) (.int .i64 k) (C7 l) (.int .i64 l.length) (.int .i64 (0:Nat)) 0 [.arr Cg 4 (B0++IV pre v 0 (l.take 0)).length] (BH 0 DK.rs fun x H=>x=B5 (RJ l pre)/\H=[]):=by
   refine Ae (n:=l.length) (R:=fun j=>DK.L4 (C7 l) (.str pre) (B8 cB 0 4 (B0++IV pre v 0 (l.take j))) (.str v) (C7 (CE l)) (.int .i64 (CE l).length) (.int .i64 k) (C7 l) (.int .i64 l.length) (.int .i64 j) 0 [.arr Cg 4 (B0++IV pre v 0 (l.take j)).length] (BH 0 DK.rs fun x H=>x=B5 (RJ l pre)/\H=[])) ?_ ?_ 0 (by omega)
   ·intro j hj ih2
    have hjl:=TK pre v (l.take j) 0
    have hjt:(l.take j).length<=l.length:=by simp;omega
    have htot:(B0++IV pre v 0 (l.take j)).length<2^40:=by simp only[List.length_append];omega
    rw[Zt pre v l 0 j hj]at ih2
    have hD:=bQ j (by omega)
    refine A7.2 ?_
    generalize hx:l.getD j default=x at ih2
    by_cases e:x=v
    ·rw[if_pos e,<-List.append_assoc]at ih2
     generalize B0++IV pre v 0 (l.take j)=B1 at ih2 htot
     push_cast[BB hj,hx,e]
     refine .of hD ?_
     have hcap:pre.length+(IS j).length<=BJ:=by have:=Wv j;unfold BJ;omega
     have hob:∀ i,(.own i 4 (B1.map cB++[[V.str v,V.str (pre++IS j),V.bool true,V.sl 3 []]]):V)=B8 cB i 4 (B1++[⟨v,C2 (pre++IS (0+j))⟩]):=fun i=>by simp[B8,cB,C2,cT,ji,ai,Term.name,Term.var]
     push_cast[hcap,hob,Um htot (show 64<=64 by omega),Co (show j<2^62 by omega)]
     push_cast at ih2
     exact ih2
    ·rw[if_neg e,List.append_nil]at ih2
     push_cast[BB hj,hx,e,Co (show j<2^62 by omega)]
     push_cast at ih2
     exact ih2
   ·refine A7.2 ?_
    push_cast[AZ (Nat.le_refl _),Co (show k<2^62 by omega)]
    rw[List.take_length]
    push_cast at ih
    exact ih
  simp only[List.take_zero,IV,List.append_nil]at inner
  exact inner
 ·refine A7.2 ?_
  push_cast[AZ (Nat.le_refl _)]
  exact A0 (by push_cast[DK.rs];rw[List.take_length];rfl)
def Fa:List A9->A9->Option Nat
 | [],_=>none
 | x::l,v=>if x=v then some 0 else (Fa l v).map (·+1)
theorem Le {l:List A9}{v:A9}:Fa l v=none↔v∉l:=by
 induction l with
 | nil=>simp[Fa]
 | cons x l ih =>
  simp only[Fa]
  by_cases h:x=v
  ·simp[h]
  ·have h':v≠x:=fun e=>h e.symm
   rw[if_neg h];simp[ih,h']
theorem tx {l m:List A9}{v:A9}(h:v∈l):Fa (l++m) v=Fa l v:=by
 induction l with
 | nil=>cases h
 | cons x l ih =>
  simp only[List.cons_append,Fa]
  by_cases e:x=v
  ·rw[if_pos e,if_pos e]
  ·rw[if_neg e,if_neg e]
   rcases List.mem_cons.1 h with h | h
   ·exact absurd h.symm e
   ·rw[ih h]
theorem om {l:List A9}{v:A9}(h:v∉l):Fa (l++[v]) v=some l.length:=by
 induction l with
 | nil=>simp[Fa]
 | cons x l ih =>
  simp only[List.mem_cons,not_or]at h
  simp only[List.cons_append,Fa]
  rw[if_neg (fun e=>h.1 e.symm),ih h.2];rfl
def bC (pre:A9):Nat->List A9->NM
 | _,[]=>[]
 | i,v::l=>(v,pre++IS i)::bC pre (i+1) l
abbrev Z4 (pre:A9)(l:List A9):NM:=bC pre 0 l
theorem fj (pre:A9):∀ (l:List A9)(i:Nat),(bC pre i l).length=l.length
 | [],_=>rfl
 | v::l,i=>by simp[bC,fj pre l]
theorem UC (pre:A9)(v:A9):∀ (l:List A9)(i:Nat),Cd (bC pre i l) v=(Fa l v).map fun j=>pre++IS (i+j)
 | [],i=>rfl
 | x::l,i=>by
  simp only[bC,Cd,Fa]
  by_cases h:x=v
  ·rw[if_pos h,if_pos h];rfl
  ·rw[if_neg h,if_neg h,UC pre v l (i+1)]
   cases Fa l v with
   | none=>rfl
   | some j=>simp only[Option.map_some];rw[show i+1+j=i+(j+1) by omega]
theorem ZP (pre:A9)(v:A9):∀ (l:List A9)(i:Nat),bC pre i (l++[v])=bC pre i l++[(v,pre++IS (i+l.length))]
 | [],i=>rfl
 | x::l,i=>by
  simp only[List.cons_append,bC,ZP pre v l (i+1),List.length_cons]
  rw[show i+1+l.length=i+(l.length+1) by omega]
def Nh (pre:A9)(l:List A9):EQ:=fun v=>C2 (match Fa l v with | some j=>pre++IS j | none=>v)
theorem ui {pre:A9}(hp:pre≠[])(l:List A9)(v:A9):K9 pre (Z4 pre l) v=(Z4 pre (if v∈l then l else l++[v]),(match Fa (if v∈l then l else l++[v]) v with | some j=>pre++IS j | none=>v)):=by
 unfold K9
 rw[UC]
 by_cases h:v∈l
 ·rw[if_pos h]
  cases hq:Fa l v with
  | none=>exact absurd h (Le.1 hq)
  | some j =>
   have hne:pre++IS (0+j)≠[]:=fun e=>hp (List.append_eq_nil_iff.1 e).1
   simp only[Option.map_some,Option.getD_some]
   rw[if_neg hne,Nat.zero_add]
 ·rw[if_neg h]
  have hq:=Le.2 h
  rw[hq]
  simp only[Option.map_none,Option.getD_none,if_true]
  rw[om h]
  have hk:Cd (Z4 pre l) v=none:=by rw[UC,hq];rfl
  rw[WK hk,fj]
  have e:Z4 pre (l++[v])=Z4 pre l++[(v,pre++IS l.length)]:=by
   have e:=ZP pre v l 0
   rw[Nat.zero_add]at e
   exact e
  rw[e]
def RZ (l:List A9)(t:Term):Prop:=∀ v,CX v t=true->v∈l
theorem HO (t:Term):∀ l:List A9,(∃ m,AG l t=l++m)/\(vfl t=true->RZ (AG l t) t):=by
 induction t using Ah with
 | h t ih =>
 intro l
 rw[Lc]
 cases hv:t.var with
 | true =>
  rw[if_pos rfl]
  refine⟨?_,fun ht v ho=>?_⟩
  ·split
   ·exact⟨[],by simp⟩
   ·exact⟨_,rfl⟩
  ·have e:=(JG ht hv).1 ho
   subst e
   split
   ·assumption
   ·simp
 | false =>
  rw[if_neg (by simp)]
  have key:∀ (ar:List Term)(l:List A9),(∀ a∈ar,a∈t.args)->(∃ m,BQ l ar=l++m)/\((∀ a∈ar,vfl a=true)->∀ a∈ar,RZ (BQ l ar) a):=by
   intro ar
   induction ar with
   | nil=>intro l _;exact⟨⟨[],by simp[BQ]⟩,by simp⟩
   | cons a ar ihl =>
    intro l hl
    obtain⟨⟨m1,h1⟩,h2⟩:=ih a (hl a (by simp)) l
    obtain⟨⟨m2,h3⟩,h4⟩:=ihl (AG l a) fun b hb=>hl b (by simp[hb])
    simp only[BQ]
    refine⟨⟨m1++m2,by rw[h3,h1,List.append_assoc]⟩,fun hvf b hb=>?_⟩
    rcases List.mem_cons.1 hb with rfl | hb
    ·intro v ho
     have:=h2 (hvf _ (by simp)) v ho
     rw[h3];exact List.mem_append_left _ this
    ·exact h4 (fun c hc=>hvf c (by simp[hc])) b hb
  obtain⟨h1,h2⟩:=key t.args l fun _ h=>h
  refine⟨h1,fun ht v ho=>?_⟩
  obtain⟨a,ha,ho⟩:=(KM hv).1 ho
  exact h2 (fun a ha=>BR ht ha) a ha v ho
theorem yQ {pre:A9}{l m:List A9}{t:Term}(h:RZ l t):app (Nh pre (l++m)) t=app (Nh pre l) t :=
 DW t fun v hv=>by unfold Nh;rw[tx (h v hv)]
theorem WP {pre:A9}(hp:pre≠[])(t:Term):∀ l:List A9,vfl t=true->Hd pre (Z4 pre l) t=(Z4 pre (AG l t),app (Nh pre (AG l t)) t):=by
 induction t using Ah with
 | h t ih =>
 intro l ht
 rw[bh,Lc]
 cases hv:t.var with
 | true =>
  rw[if_pos rfl,if_pos rfl,ui hp,Av hv];rfl
 | false =>
  rw[if_neg (by simp),if_neg (by simp),B7 hv]
  have key:∀ (ar:List Term)(l:List A9),(∀ a∈ar,a∈t.args)->Eg pre (Z4 pre l) ar=(Z4 pre (BQ l ar),ar.map (app (Nh pre (BQ l ar)))):=by
   intro ar
   induction ar with
   | nil=>intro l _;rfl
   | cons a ar ihl =>
    intro l hl
    have hvf:∀ b∈a::ar,vfl b=true:=fun b hb=>BR ht (hl b hb)
    simp only[Eg,BQ]
    rw[ih a (hl a (by simp)) l (hvf a (by simp))]
    simp only
    rw[ihl (AG l a) fun b hb=>hl b (by simp[hb])]
    simp only[List.map_cons]
    have h1:=(HO a l).2 (hvf a (by simp))
    have h2:∃ m,BQ (AG l a) ar=AG l a++m:=by
     clear ihl hvf h1
     have:∀ (ar:List Term)(l:List A9),∃ m,BQ l ar=l++m:=by
      intro ar
      induction ar with
      | nil=>intro l;exact⟨[],by simp[BQ]⟩
      | cons b ar ihm =>
       intro l
       obtain⟨m1,e1⟩:=(HO b l).1
       obtain⟨m2,e2⟩:=ihm (AG l b)
       exact⟨m1++m2,by simp only[BQ];rw[e2,e1,List.append_assoc]⟩
     exact this ar _
    obtain⟨m,hm⟩:=h2
    rw[hm,yQ h1]
  rw[key t.args l fun _ h=>h]
theorem Sq {a b:List A5}{v:A9}:Ac (a++b) v=(Ac a v).or (Ac b v):=by
 induction a with
 | nil=>simp[Ac]
 | cons x a ih =>
  simp only[List.cons_append,Ac]
  split
  ·rfl
  ·exact ih
theorem RD {pre u v:A9}(h:u≠v):∀ (l:List A9)(i:Nat),Ac (IV pre u i l) v=none
 | [],i=>rfl
 | x::l,i=>by
  simp only[IV,Sq]
  rw[RD h l (i+1)]
  have h2:Ac (if x=u then [(⟨u,C2 (pre++IS i)⟩:A5)] else []) v=none:=by
   split
   ·simp only[Ac];rw[if_neg h]
   ·rfl
  rw[h2];rfl
theorem Yc {pre v:A9}:∀ (l:List A9)(i:Nat),Ac (IV pre v i l) v=(Fa l v).map fun j=>C2 (pre++IS (i+j))
 | [],i=>rfl
 | x::l,i=>by
  simp only[IV,Sq,Fa]
  by_cases h:x=v
  ·rw[if_pos h,if_pos h];simp[Ac]
  ·rw[if_neg h,if_neg h,Yc l (i+1)]
   cases Fa l v with
   | none=>rfl
   | some j=>simp only[Ac,Option.map_some,Option.none_or];rw[show i+1+j=i+(j+1) by omega]
theorem jS (l:List A9)(pre v:A9):Ac (RJ l pre) v=(Fa l v).map fun j=>C2 (pre++IS j):=by
 unfold RJ
 have key:∀ S:List A9,Ac (S.flatMap fun u=>IV pre u 0 l) v=if v∈S then (Fa l v).map fun j=>C2 (pre++IS j) else none:=by
  intro S
  induction S with
  | nil=>rfl
  | cons u S ih =>
   simp only[List.flatMap_cons,Sq,ih]
   by_cases h:u=v
   ·subst h
    rw[Yc]
    simp only[List.mem_cons,true_or,if_true,Nat.zero_add]
    cases Fa l u with
    | none=>simp
    | some j=>rfl
   ·have h':v≠u:=fun e=>h e.symm
    rw[RD h]
    simp[h']
 rw[key]
 by_cases h:v∈l
 ·have h2:v∈CE l:=(LP l []).2 (.inr h)
  rw[if_pos h2]
 ·rw[Le.2 h];split<;>rfl
theorem eV (s:List A5)(t:Term):Aw s t=app (fun v=>(Ac s v).getD (C2 v)) t:=by
 induction t using Ah with
 | h t ih =>
 rw[PQ]
 cases t with | mk n v l =>
 cases v with
 | true=>simp only[Aw,Term.var,Term.name,if_true,C2]
 | false =>
  simp only[Aw,Term.var,Term.name,Term.args,ZZ,Bool.false_eq_true,if_false]
  congr 1
  exact List.map_congr_left fun a ha=>ih a ha
theorem Us (l:List A9)(pre:A9)(t:Term):Aw (RJ l pre) t=app (Nh pre l) t:=by
 rw[eV]
 refine DW t fun v _=>?_
 rw[jS]
 unfold Nh
 cases Fa l v<;>rfl
def Cn (pre:A9)(x:A3):A3:=⟨app (Nh pre (AG [] x.left)) x.left,app (Nh pre (AG [] x.left)) x.right⟩
theorem bH {l:List A9}(t:Term):RZ l t->vfl t=true->AG l t=l:=by
 induction t using Ah generalizing l with
 | h t ih =>
 intro h ht
 rw[Lc]
 cases hv:t.var with
 | true=>rw[if_pos rfl,if_pos (h _ ((JG ht hv).2 rfl))]
 | false =>
  rw[if_neg (by simp)]
  have key:∀ (ar:List Term),(∀ a∈ar,a∈t.args)->BQ l ar=l:=by
   intro ar
   induction ar with
   | nil=>intro _;rfl
   | cons a ar ihl =>
    intro hl
    simp only[BQ]
    rw[ih a (hl a (by simp)) (fun v hv'=>h v ((KM hv).2 ⟨a,hl a (by simp),hv'⟩)) (BR ht (hl a (by simp)))]
    exact ihl fun b hb=>hl b (by simp[hb])
  exact key t.args fun _ h=>h
theorem ZL {pre:A9}(hp:pre≠[]){x:A3}(hl:vfl x.left=true)(hr:vfl x.right=true)(hx:∀ v,CX v x.right=true->CX v x.left=true):qC pre x=Cn pre x:=by
 unfold qC Cn
 have e1:=WP hp x.left [] hl
 have e0:Z4 pre []=[]:=rfl
 rw[e0]at e1
 rw[e1]
 simp only
 rw[WP hp x.right _ hr]
 have hs:RZ (AG [] x.left) x.right:=fun v hv=>(HO x.left []).2 hl v (hx v hv)
 rw[bH x.right hs hr]
theorem Vt {s:List A5}{t:Term}(ht:tb t<2^24)(hs:YO s<2^34):size (Aw s t)<=2^60:=by
 have h1:=nP s t
 have h2:=Bc t
 have:size t*(1+YO s)<=2^24*2^35:=Nat.mul_le_mul (by omega) (by omega)
 omega
theorem VT (s:List A5)(hs:CK s)(hb:YO s<2^34)(t:Term)(ht:tb t<2^24):PF Ie [B5 s,An t] (.agg [.int .i64 (size (Aw s t)),.int .i64 (depth (Aw s t))]):=by
 have hl:=RG s
 induction t using Ah with
 | h t ih =>
 have hI:=TA s t.name hs (by omega)
 have htb:=FZ t
 have hlt:=FQ t.args
 have hsm:=Vt ht hb
 refine Ad GY.ok rfl ?_
 cases hv:t.var with
 | true =>
  push_cast[hv]
  refine .of hI ?_
  rw[EW,hv]
  cases hx:Ac s t.name with
  | some x =>
   have h1:=Sa hx
   have h2:=Bc x
   push_cast[LU]
   refine .of (Va x (by omega)) ?_
   push_cast
   refine .of (TT x (by omega)) ?_
   push_cast
   refine A0 ?_
   push_cast[GY.rs]
   exact⟨rfl,rfl⟩
  | none =>
   push_cast[LU]
   refine A0 ?_
   push_cast[GY.rs]
   exact⟨rfl,rfl⟩
 | false =>
  have he:Aw s t=.mk t.name false (t.args.map (Aw s)):=by rw[EW,hv];rfl
  rw[he]at hsm
  rw[he]
  simp only[size]at hsm
  have hd:=Er (t.args.map (Aw s))
  push_cast[hv]
  refine Ae (n:=t.args.length) (R:=fun k=>GY.L3 (B5 s) (.ptr 0 0) (.ptr 1 0) (Bk t.args) (.int .i64 t.args.length) (.int .i64 k) 0
   [.cells GU [.int .i64 0,.int .i64 0],.cells GU [.int .i64 (1+Af ((t.args.take k).map (Aw s)):Nat),.int .i64 (Bg ((t.args.take k).map (Aw s)):Nat)]] _) ?_ ?_ 0 (by omega)
  ·intro k hk ih2
   have hm:=A4 hk
   have hs1:Af ((t.args.take (k+1)).map (Aw s))=Af ((t.args.take k).map (Aw s))+size (Aw s (t.args.getD k default)):=by
    rw[Aa hk,List.map_append,Dk];simp[Af]
   have hd1:Bg ((t.args.take (k+1)).map (Aw s))=max (Bg ((t.args.take k).map (Aw s))) (depth (Aw s (t.args.getD k default))):=by
    rw[Aa hk,List.map_append,Hp];simp[Bg]
   have hle:Af ((t.args.take (k+1)).map (Aw s))<=Af (t.args.map (Aw s)):=by
    rw[List.map_take];exact EI _ _
   have htm:=Km hm
   rw[hs1,hd1]at ih2
   refine A7.2 ?_
   push_cast[BB hk]
   refine .of (ih _ hm (by omega)) ?_
   push_cast[Co (show k<2^62 by omega)]
   rw[Cr (by omega) (by omega),Int.add_assoc]
   push_cast at ih2
   exact ih2
  ·refine A7.2 ?_
   push_cast[AZ (Nat.le_refl _)]
   refine A0 ?_
   rw[Cr (by rw[List.take_length];omega) (by rw[List.take_length];omega)]
   push_cast[GY.rs,size,depth,List.take_length]
theorem Jk (s:List A5)(hs:CK s)(hb:YO s<2^34)(t:Term)(ht:tb t<2^24):PF FG [B5 s,An t] (if BU (Aw s t) then I2 (some (Aw s t)) 0 else I2 none 3):=by
 rw[<-oM]
 refine Ad Hi.ok rfl ?_
 push_cast
 refine .of (VT s hs hb t ht) ?_
 by_cases h1:4000<size (Aw s t)
 ·have h1':((4000:Int)<(size (Aw s t):Int))=True:=eq_true (by omega)
  push_cast[h1']
  refine A0 ?_
  push_cast[Hi.rs]
  rw[if_pos (.inl h1)];rfl
 ·have h1':((4000:Int)<(size (Aw s t):Int))=False:=eq_false (by omega)
  by_cases h2:200<depth (Aw s t)
  ·have h2':((200:Int)<(depth (Aw s t):Int))=True:=eq_true (by omega)
   push_cast[h1',h2']
   refine A0 ?_
   push_cast[Hi.rs]
   rw[if_pos (.inr h2)];rfl
  ·have h2':((200:Int)<(depth (Aw s t):Int))=False:=eq_false (by omega)
   push_cast[h1',h2']
   refine .of (Ys s hs (by omega) t (by omega)) ?_
   push_cast
   refine A0 ?_
   push_cast[Hi.rs]
   rw[if_neg (by omega)];rfl
theorem bR (s:List A5)(hl:s.length<2^62)(hs:YO s<2^34)(t:Term)(ht:tb t<2^24):PF ML [B5 s,An t] (.tup [.int .i64 (size (Aw s t)),.int .i64 (depth (Aw s t))]):=by
 induction t using Ah with
 | h t ih =>
 have hst:=Aq t
 have htb:=FZ t
 have hll:=Ap t.args
 have hz:=Bc t
 have hsm:=Vt ht hs
 refine Ad NG.ok rfl ?_
 cases hv:t.var with
 | true =>
  have he:Aw s t=(Ac s t.name).getD (.mk t.name true []):=by rw[EW,if_pos hv]
  rw[he]at hsm ⊢
  push_cast[hv]
  refine .of (JT s t.name hl) ?_
  push_cast
  refine .of (Sr _ (by omega)) ?_
  push_cast
  refine .of (PS _ (by omega)) ?_
  push_cast
  exact A0 (by push_cast[NG.rs])
 | false =>
  have he:Aw s t=.mk t.name false (t.args.map (Aw s)):=by rw[EW,hv];rfl
  rw[he]at hsm ⊢
  have hs1:size (Term.mk t.name false (t.args.map (Aw s)))=1+Af (t.args.map (Aw s)):=by simp[size]
  have hd1:depth (Term.mk t.name false (t.args.map (Aw s)))=Bg (t.args.map (Aw s))+1:=by simp[depth]
  have hds:=Er (t.args.map (Aw s))
  rw[hs1]at hsm
  rw[hs1,hd1]
  push_cast[hv]
  refine Ae (n:=t.args.length) (R:=fun k=>NG.L3 (B5 s) (.int .i64 (1+Af ((t.args.take k).map (Aw s)):Nat)) (.int .i64 (Bg ((t.args.take k).map (Aw s)):Nat)) (Bk t.args) (.int .i64 t.args.length) (.int .i64 k) 0 [] _) ?_ ?_ 0 (by omega)
  ·intro k hk ih2
   have hm:=A4 hk
   have hm2:=Km hm
   have hsum:Af ((t.args.take k).map (Aw s))+size (Aw s (t.args.getD k default))<=Af (t.args.map (Aw s)):=by
    have:Af ((t.args.take (k+1)).map (Aw s))<=Af (t.args.map (Aw s)):=by rw[List.map_take];exact EI _ _
    rw[Aa hk,List.map_append,Dk]at this
    simpa[Af]using this
   rw[Aa hk,List.map_append,List.map_singleton,Dk,Hp]at ih2
   simp only[Af,Bg,Nat.add_zero,Nat.max_zero]at ih2
   refine A7.2 ?_
   push_cast[BB hk]
   refine .of (ih _ hm (by omega)) ?_
   push_cast[Co (show k<2^62 by omega)]
   rw[Cr (by omega) (by omega)]
   push_cast at ih2
   simpa[Int.add_assoc]using ih2
  ·refine A7.2 ?_
   push_cast[AZ (Nat.le_refl _),List.take_length]
   rw[Cr (by omega) (by omega)]
   refine A0 ?_
   push_cast[NG.rs]
theorem Q2 (s:List A5)(hl:s.length<2^62)(hs:YO s<2^34)(t:Term)(ht:tb t<2^24):PF LB [B5 s,An t] (.bool (BU (Aw s t))):=by
 refine Ad TS.ok rfl ?_
 push_cast
 refine .of (bR s hl hs t ht) ?_
 by_cases h:size (Aw s t)<=4000
 ·have hi:((size (Aw s t):Int)<=4000)=True:=eq_true (by omega)
  push_cast[hi]
  exact A0 (by push_cast[TS.rs,BU,h];simp;omega)
 ·have hi:((size (Aw s t):Int)<=4000)=False:=eq_false (by omega)
  push_cast[hi]
  exact A0 (by push_cast[TS.rs,BU,h])
end Go.Dw
