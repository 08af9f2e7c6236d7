/-
  Contracts and lemmas for ResidualProjects: part j of 11.
-/
import Derived.Test.YtkdcfkfdkimaeaaGreatDoorPai
import Derived.Test.YtkdcfkfdkimaeaaGreatDoorPah
set_option linter.unusedVariables false
set_option linter.unusedSimpArgs false
set_option maxRecDepth 100000
namespace Go.Dw
theorem Do (l:List A0)(hf:∀ m∈l,F7 m=true)(hl:l.length<2^30):PF Gd [Av l] (Av l):=by
 refine Ab FJ.ok rfl ?_
 push_cast
 refine Ac (n:=l.length) (R:=fun k=>FJ.L3 (Bf cM 0 4 (l.take k)) (Av l) (.int .i64 l.length) (.int .i64 k) 0 [.arr A8 4 k] (Bo 0 FJ.rs fun x' H'=>x'=Av l/\H'=[])) ?_ ?_ 0 (by omega)
 ·intro k hk ih
  have hm:=A4 hk
  have hfm:=hf _ hm
  have hc:=VE (l.getD k default) (by have:=(OT hfm).1;omega)
  rw[Yi hfm]at hc
  have hlen:(l.take k).length=k:=by simp;omega
  rw[Aa hk]at ih
  refine A5.2 ?_
  push_cast[BC hk]
  refine .of hc ?_
  push_cast[hlen,CD (show k<2^62 by omega)]
  push_cast at ih
  exact⟨by unfold Ah;omega,ih⟩
 ·refine A5.2 ?_
  push_cast[AZ (Nat.le_refl _),List.take_length]
  exact A1 (by push_cast[FJ.rs])
noncomputable def F3 (r:List A2)(x y:List A0):Int :=
 if EY r≠0 then EY r else if Py r x≠0 then Py r x else if Py r y≠0 then Py r y
 else if (AW r D5 D5 0 x).2=false\/(AW r D5 D5 0 y).2=false\/(0<x.length/\0<y.length/\(AW r D5 D5 0 x).1≠(AW r D5 D5 0 y).1) then 9 else 0
noncomputable def Jm (r:List A2)(x y:List A0):V:=if F3 r x y≠0 then .tup [Av [],Av [],.int .i64 (F3 r x y)] else OZ (E4 r x y)
theorem Ra {r:List A2}{l:List A0}(h:Py r l=0):l.length<=4096/\∀ m∈l,Ec r m=0:=by
 unfold Py at h
 split at h
 ·cases h
 ·refine⟨by omega,?_⟩
  induction l with
  | nil=>intro m hm;cases hm
  | cons a l ih =>
   simp only[KN]at h
   split at h
   ·rename_i hc;exact absurd h hc
   ·rename_i hc _
    intro m hm
    rcases List.mem_cons.1 hm with rfl | hm
    ·exact Classical.not_not.1 (by assumption)
    ·exact ih (by simp only[List.length_cons]at *;omega) h m hm
theorem sB {r:List A2}:∀ (l:List A0)(f la:Term)(k:Nat),(∀ m∈l,Ec r m=0)->(AW r f la (k+1) l).2=true->FK r la l/\(AW r f la (k+1) l).1=f
 | [],f,la,k,_,_=>by simp[FK,AW]
 | m::l,f,la,k,he,h=>by
  simp only[AW]at h ⊢
  split at h
  ·rename_i hc
   rw[if_pos hc]
   obtain⟨a1,a2,a3,a4,a5⟩:=LW (he m (by simp))
   obtain⟨c1,c2,c3,c4⟩:=GY a1
   obtain⟨i1,i2⟩:=sB l f (Ps r m) (k+1) (fun x hx=>he x (by simp[hx])) h
   refine⟨⟨c2,?_,by rw[hc,a2],a3▸i1⟩,i2⟩
   unfold F7;simp[c3,c4]
  ·cases h
theorem lu {r:List A2}{l:List A0}(he:∀ m∈l,Ec r m=0)(h:(AW r D5 D5 0 l).2=true):FK r (AW r D5 D5 0 l).1 l:=by
 cases l with
 | nil=>trivial
 | cons m l =>
  simp only[AW]at h ⊢
  obtain⟨a1,a2,a3,a4,a5⟩:=LW (he m (by simp))
  obtain⟨c1,c2,c3,c4⟩:=GY a1
  obtain⟨i1,i2⟩:=sB l (HM r m) (Ps r m) 0 (fun x hx=>he x (by simp[hx])) h
  rw[i2]
  refine⟨c2,?_,a2.symm,a3▸i1⟩
  unfold F7;simp[c3,c4]
theorem Xc {r:List A2}{x y:List A0}(h:F3 r x y=0):EY r=0/\x.length<=4096/\y.length<=4096/\∃ s,FK r s x/\FK r s y:=by
 unfold F3 at h
 split at h
 ·rename_i hc;exact absurd h hc
 ·rename_i h1
  split at h
  ·rename_i hc;exact absurd h hc
  ·rename_i h2
   split at h
   ·rename_i hc;exact absurd h hc
   ·rename_i h3
    split at h
    ·cases h
    ·rename_i h4
     obtain⟨x1,x2⟩:=Ra (Classical.not_not.1 h2)
     obtain⟨y1,y2⟩:=Ra (Classical.not_not.1 h3)
     have hx:(AW r D5 D5 0 x).2=true:=by
      cases hq:(AW r D5 D5 0 x).2 with
      | true=>rfl
      | false=>exact absurd (.inl hq) h4
     have hy:(AW r D5 D5 0 y).2=true:=by
      cases hq:(AW r D5 D5 0 y).2 with
      | true=>rfl
      | false=>exact absurd (.inr (.inl hq)) h4
     have lx:=lu x2 hx
     have ly:=lu y2 hy
     refine⟨Classical.not_not.1 h1,x1,y1,?_⟩
     cases x with
     | nil=>exact⟨_,trivial,ly⟩
     | cons a x =>
      cases y with
      | nil=>exact⟨_,lx,trivial⟩
      | cons b y =>
       have e:(AW r D5 D5 0 (a::x)).1=(AW r D5 D5 0 (b::y)).1:=by
        rcases Classical.em ((AW r D5 D5 0 (a::x)).1=(AW r D5 D5 0 (b::y)).1)with e | e
        ·exact e
        ·exact absurd (.inr (.inr ⟨by simp,by simp,e⟩)) h4
       exact⟨_,lx,e▸ly⟩
theorem jZ {r:List A2}{m:A0}(h:Ec r m=0):size (Ps r m)<2^62/\size (HM r m)<2^62:=by
 obtain⟨a1,a2,a3,a4,a5⟩:=LW h
 rw[a2,a3]
 have:=QO a4
 have:=QO a5
 exact⟨by omega,by omega⟩
theorem jy {r:List A2}{l:List A0}(he:∀ m∈l,Ec r m=0):size (AW r D5 D5 0 l).1<2^62:=by
 have key:∀ (l:List A0)(f la:Term)(k:Nat),(AW r f la (k+1) l).1=f:=by
  intro l
  induction l with
  | nil=>intro f la k;simp[AW]
  | cons m l ih =>
   intro f la k
   simp only[AW]
   split
   ·exact ih f _ (k+1)
   ·rfl
 cases l with
 | nil=>simp[AW,D5,size,Ae]
 | cons m l =>
  simp only[AW]
  rw[key]
  exact (jZ (he m (by simp))).2
theorem SI {r:List A2}{x y:List A0}(hr:KJ r<2^38)(hx:∀ m∈x,mb m<2^38)(hy:∀ m∈y,mb m<2^38):PF HW [Al r,Av x,Av y] (Jm r x y):=by
 have h0:=O5 hr
 have h1:=KC hr hx
 have h2:=KC hr hy
 refine Ab B6.ok rfl ?_
 push_cast
 refine .of h0 ?_
 by_cases c0:EY r=0
 ·push_cast[c0]
  have hw1:IntKind.i64.wrap 1=1:=rfl
  have hw2:IntKind.i64.wrap 2=2:=rfl
  refine A5.2 ?_
  push_cast
  refine .of h1 ?_
  by_cases c1:Py r x=0
  ·push_cast[c1,hw1]
   refine A5.2 ?_
   push_cast
   refine .of h2 ?_
   by_cases c2:Py r y=0
   ·push_cast[c2,hw2]
    refine A5.2 ?_
    obtain⟨x1,x2⟩:=Ra c1
    obtain⟨y1,y2⟩:=Ra c2
    have h3:=MK hr x1 hx fun m hm=>(jZ (x2 m hm)).1
    have h4:=MK hr y1 hy fun m hm=>(jZ (y2 m hm)).1
    push_cast
    refine .of h3 ?_
    push_cast
    refine .of h4 ?_
    have hEq:=Ok (AW r D5 D5 0 x).1 (AW r D5 D5 0 y).1 (jy x2)
    by_cases hp:F3 r x y=0
    ·obtain⟨_,_,_,s,ls1,ls2⟩:=Xc hp
     have hS:=uY c0
     have hpr:=S1 hS x y s ls1 ls2 (by omega) (by omega)
     have hv:Jm r x y=OZ (E4 r x y):=by unfold Jm;rw[if_neg (by simp[hp])]
     rw[hv]
     unfold F3 at hp
     rw[if_neg (by simp[c0]),if_neg (by simp[c1]),if_neg (by simp[c2])]at hp
     split at hp
     ·cases hp
     rename_i hn
     have d1:(AW r D5 D5 0 x).2=true:=by
      cases hq:(AW r D5 D5 0 x).2 with
      | true=>rfl
      | false=>exact absurd (.inl hq) hn
     have d2:(AW r D5 D5 0 y).2=true:=by
      cases hq:(AW r D5 D5 0 y).2 with
      | true=>rfl
      | false=>exact absurd (.inr (.inl hq)) hn
     have h3c:(¬ 0<x.length)\/(0<x.length/\¬ 0<y.length)\/(0<x.length/\0<y.length/\(AW r D5 D5 0 x).1=(AW r D5 D5 0 y).1):=by
      rcases Classical.em (0<x.length)with p1 | p1
      ·rcases Classical.em (0<y.length)with p2 | p2
       ·rcases Classical.em ((AW r D5 D5 0 x).1=(AW r D5 D5 0 y).1)with p3 | p3
        ·exact .inr (.inr ⟨p1,p2,p3⟩)
        ·exact absurd (.inr (.inr ⟨p1,p2,p3⟩)) hn
       ·exact .inr (.inl ⟨p1,p2⟩)
      ·exact .inl p1
     rcases h3c with p1 | ⟨p1,p2⟩|⟨p1,p2,p3⟩
     ·have i1:((0:Int)<((x.length:Nat):Int))=False:=eq_false (by omega)
      push_cast[d1,d2,i1]
      refine .of hpr ?_
      cases hQ:E4 r x y with
      | none =>
       unfold OZ
       push_cast
       exact A1 (by push_cast[B6.rs];rfl)
      | some w =>
       obtain⟨p,q⟩:=w
       obtain⟨e1,e2,e3,e4,e5⟩:=hS.ortho.proj_ok x y p q s ls1 ls2 hQ
       unfold OZ
       push_cast
       refine .of (Do p (fun m hm=>(e1.fit m hm).2) (by omega)) ?_
       push_cast
       refine .of (Do q (fun m hm=>(e2.fit m hm).2) (by omega)) ?_
       push_cast
       exact A1 (by push_cast[B6.rs])
     ·have i1:((0:Int)<((x.length:Nat):Int))=True:=eq_true (by omega)
      have i2:((0:Int)<((y.length:Nat):Int))=False:=eq_false (by omega)
      push_cast[d1,d2,i1,i2]
      refine .of hpr ?_
      cases hQ:E4 r x y with
      | none =>
       unfold OZ
       push_cast
       exact A1 (by push_cast[B6.rs];rfl)
      | some w =>
       obtain⟨p,q⟩:=w
       obtain⟨e1,e2,e3,e4,e5⟩:=hS.ortho.proj_ok x y p q s ls1 ls2 hQ
       unfold OZ
       push_cast
       refine .of (Do p (fun m hm=>(e1.fit m hm).2) (by omega)) ?_
       push_cast
       refine .of (Do q (fun m hm=>(e2.fit m hm).2) (by omega)) ?_
       push_cast
       exact A1 (by push_cast[B6.rs])
     ·have i1:((0:Int)<((x.length:Nat):Int))=True:=eq_true (by omega)
      have i2:((0:Int)<((y.length:Nat):Int))=True:=eq_true (by omega)
      push_cast[d1,d2,i1,i2]
      refine .of hEq ?_
      push_cast[p3]
      refine .of hpr ?_
      cases hQ:E4 r x y with
      | none =>
       unfold OZ
       push_cast
       exact A1 (by push_cast[B6.rs];rfl)
      | some w =>
       obtain⟨p,q⟩:=w
       obtain⟨e1,e2,e3,e4,e5⟩:=hS.ortho.proj_ok x y p q s ls1 ls2 hQ
       unfold OZ
       push_cast
       refine .of (Do p (fun m hm=>(e1.fit m hm).2) (by omega)) ?_
       push_cast
       refine .of (Do q (fun m hm=>(e2.fit m hm).2) (by omega)) ?_
       push_cast
       exact A1 (by push_cast[B6.rs])
    ·have hE:F3 r x y=9:=by
      unfold F3 at hp ⊢
      rw[if_neg (by simp[c0]),if_neg (by simp[c1]),if_neg (by simp[c2])]at hp ⊢
      split at hp
      ·rename_i hc;exact if_pos hc
      ·exact absurd rfl hp
     have hv:Jm r x y=.tup [Av [],Av [],.int .i64 9]:=by unfold Jm;rw[hE,if_pos (by decide)]
     rw[hv]
     unfold F3 at hp
     rw[if_neg (by simp[c0]),if_neg (by simp[c1]),if_neg (by simp[c2])]at hp
     split at hp
     ·rename_i hc
      cases d1:(AW r D5 D5 0 x).2 with
      | false =>
       push_cast[d1]
       exact A1 (by push_cast[B6.rs];rfl)
      | true =>
       cases d2:(AW r D5 D5 0 y).2 with
       | false =>
        push_cast[d1,d2]
        exact A1 (by push_cast[B6.rs];rfl)
       | true =>
        obtain⟨p1,p2,p3⟩:=(hc.resolve_left (by simp[d1])).resolve_left (by simp[d2])
        have i1:((0:Int)<((x.length:Nat):Int))=True:=eq_true (by omega)
        have i2:((0:Int)<((y.length:Nat):Int))=True:=eq_true (by omega)
        push_cast[d1,d2,i1,i2]
        refine .of hEq ?_
        push_cast[eq_false p3]
        exact A1 (by push_cast[B6.rs];rfl)
     ·exact absurd rfl hp
   ·have e:F3 r x y=Py r y:=by unfold F3;rw[if_neg (by simp[c0]),if_neg (by simp[c1]),if_pos c2]
    unfold Jm
    rw[e,if_pos c2]
    push_cast[c2]
    exact A1 (by push_cast[B6.rs];rfl)
  ·have e:F3 r x y=Py r x:=by unfold F3;rw[if_neg (by simp[c0]),if_pos c1]
   unfold Jm
   rw[e,if_pos c1]
   push_cast[c1]
   exact A1 (by push_cast[B6.rs];rfl)
 ·have e:F3 r x y=EY r:=by unfold F3;rw[if_pos c0]
  unfold Jm
  rw[e,if_pos c0]
  push_cast[c0]
  exact A1 (by push_cast[B6.rs];rfl)
end Go.Dw
section
namespace Go.Dw
theorem KD {r:List A2}{l:List A0}(hr:KJ r<2^28)(hm:∀ m∈l,mb m<2^28):PF Ho [Al r,Av l] (.int .i64 (Py r l)):=by
 unfold Py
 refine Ab CM.ok rfl ?_
 by_cases hl:4096<l.length
 ·have hl':(4096:Int)<l.length:=by omega
  push_cast[hl,hl']
  exact A1 (by push_cast[CM.rs])
 ·have hl':¬ (4096:Int)<l.length:=by omega
  push_cast[hl,hl']
  generalize hT:KN r l=T
  refine Ac (n:=l.length) (R:=fun k=>KN r (l.drop k)=T->CM.L3 (Al r) (Av l) (.int .i64 l.length) (.int .i64 k) 0 [] (Bo 0 CM.rs fun x' H'=>x'=.int .i64 T/\H'=[])) ?_ ?_ 0 (Nat.zero_le _) (by rw[List.drop_zero];exact hT)
  ·intro k hk ih hq
   rw[Ag hk]at hq
   have hc:=V5 hr (hm _ (A4 hk))
   simp only[KN]at hq
   refine A5.2 ?_
   push_cast[BC hk]
   refine .of hc ?_
   by_cases he:Ec r (l.getD k default)=0
   ·rw[if_neg (fun hne=>hne he)]at hq
    have ih:=ih hq
    push_cast at ih
    push_cast[he,CD (show k<2^62 by omega)]
    exact ih
   ·rw[if_pos he]at hq
    subst hq
    push_cast[he]
    exact A1 (by push_cast[CM.rs])
  ·intro hq
   rw[List.drop_length]at hq
   have hq:(0:Int)=T:=hq
   subst hq
   refine A5.2 ?_
   push_cast[AZ (Nat.le_refl _)]
   exact A1 (by push_cast[CM.rs])
theorem Wv {r:List A2}{m:A0}(hr:KJ r<2^28)(h:Ec r m=0) :
  PF DD [Al r,AP m,.bool false] (.tup [An (HM r m),.int .i64 0])/\PF DD [Al r,AP m,.bool true] (.tup [An (Ps r m),.int .i64 0])/\tb (HM r m)<2^28/\tb (Ps r m)<2^28:=by
 obtain⟨a1,a2,a3,a4,a5⟩:=LW h
 obtain⟨d1,d2,d3,d4⟩:=GY a1
 have t1:=Oe r false hr (fun x _=>MO x) m d2 (by omega) d4
 have t2:=Oe r true hr (IH d1) m d2 (by omega) d4
 rw[Oi,<-QI (f:=sd false) a1]at t1
 rw[Oi,<-QI (f:=sd true) a1]at t2
 have e1:Ga r (sd false) m=Ga r A2.left m:=rfl
 have e2:Ga r (sd true) m=Ga r A2.right m:=rfl
 rw[e1,kO a1,if_pos a4]at t1
 rw[e2,kO a1,if_pos a5]at t2
 refine⟨?_,?_,?_,?_⟩
 ·rw[a2];exact t1
 ·rw[a3];exact t2
 ·rw[a2];exact (um a1).1 a4
 ·rw[a3];exact (um a1).2 a5
open Classical in
noncomputable def Rk (r:List A2):List A0->Bool
 | a::b::l=>decide (Ps r a=HM r b)&&Rk r (b::l)
 | _=>true
theorem hJ {r:List A2}:∀ (l:List A0)(a:A0)(f:Term)(k:Nat),(AW r f (Ps r a) (k+1) l).2=Rk r (a::l)
 | [],a,f,k=>by simp[AW,Rk]
 | b::l,a,f,k=>by
  simp only[AW,Rk]
  split
  ·rename_i h;rw[hJ l b f (k+1)];simp[h]
  ·rename_i h;simp[h]
theorem bt {r:List A2}(l:List A0):(AW r D5 D5 0 l).2=Rk r l:=by
 cases l with
 | nil=>simp[AW,Rk]
 | cons a l=>simp only[AW];exact hJ l a _ 0
theorem Pk {r:List A2}{l:List A0}(hr:KJ r<2^28)(hl:l.length<=4096)(he:∀ m∈l,Ec r m=0):PF HK [Al r,Av l] (.bool (Rk r l)):=by
 refine Ab FT.ok rfl ?_
 push_cast
 generalize hT:Rk r l=T
 refine Ac (n:=l.length-1) (R:=fun k=>Rk r (l.drop k)=T->FT.L3 (Al r) (Av l) (.int .i64 ((k+1:Nat):Int)) 0 [] (Bo 0 FT.rs fun x' H'=>x'=.bool T/\H'=[])) ?_ ?_ 0 (Nat.zero_le _) (by rw[List.drop_zero];exact hT)
 ·intro k hk ih hq
  have k1:k<l.length:=by omega
  have k2:k+1<l.length:=by omega
  rw[Ag k1,Ag k2]at hq
  simp only[Rk]at hq
  rw[<-Ag k2]at hq
  obtain⟨_,ta,_,sa⟩:=Wv hr (he _ (A4 k1))
  obtain⟨tb,_,sb,_⟩:=Wv hr (he _ (A4 k2))
  have hEq:=Q2 (Ps r (l.getD k default)) (HM r (l.getD (k+1) default)) (by omega) (by omega)
  have i1:(((k:Int)+1)<(l.length:Nat))=True:=eq_true (by omega)
  have i2:IntKind.i64.wrap ((k:Int)+1-1)=k:=by rw[Int.add_sub_cancel];exact Bn (by omega) (by omega)
  have i3:IntKind.i64.wrap ((k:Int)+1+1)=(k:Int)+1+1:=Bn (by omega) (by omega)
  have i4:((k:Int)+1).toNat=k+1:=by omega
  have i5:(0:Int)<=(k:Int)+1:=by omega
  refine A5.2 ?_
  push_cast[i1,i2,BC k1,i5,i4]
  refine .of ta ?_
  push_cast[i1,i5,i4]
  refine .of tb ?_
  push_cast
  refine .of hEq ?_
  by_cases hc:Ps r (l.getD k default)=HM r (l.getD (k+1) default)
  ·have ih:=ih (by rw[<-hq,decide_eq_true hc,Bool.true_and])
   push_cast at ih
   push_cast[hc,i3]
   exact ih
  ·have hT0:T=false:=by rw[<-hq,decide_eq_false hc,Bool.false_and]
   subst hT0
   push_cast[hc]
   exact A1 (by push_cast[FT.rs])
 ·intro hq
  have hT0:T=true:=by
   rw[<-hq]
   have:(l.drop (l.length-1)).length<=1:=by simp;omega
   generalize l.drop (l.length-1)=w at this
   match w with
   | []=>simp[Rk]
   | [a]=>simp[Rk]
   | a::b::w=>simp at this
  subst hT0
  have i1:((((l.length-1+1:Nat):Int))<(l.length:Nat))=False:=eq_false (by omega)
  push_cast at i1
  refine A5.2 ?_
  push_cast[i1]
  exact A1 (by push_cast[FT.rs])
def Zf:Option (List A0×List A0)->V
 | some p=>.tup [Av p.1,Av p.2,.bool true]
 | none=>.tup [Av [],Av [],.bool false]
theorem Yh.divide {r:List A2}(h:Yh r){a b:A0}(ha:Hm r a)(hb:Hm r b)(fa:F7 a=true)(fb:F7 b=true)(hs:Ad r A2.left b=Ad r A2.left a) :
  PF IZ [Al r,AP a,AP b] (.tup [AP (if F7 (rest r a b) then rest r a b else zM),.bool (F7 (rest r a b))]):=by
 have h1:=(OT fa).1
 have h2:=(OT fb).1
 exact dx (h.ortho.r18_residual_s h.len h.tbl h.dp (As a+As b) (by omega) a b (Nat.le_refl _) ha hb hs)
theorem Zt {r:List A2}(hR:Yh r)(x y:List A0)(s:Term)(hx:FK r s x)(hy:FK r s y)(hxl:x.length<2^30)(hyl:y.length<2^30) :
  PF Nh [Al r,Av x,Av y] (Zf (E4 r x y)):=by
 refine Ab Dk.ok rfl ?_
 push_cast
 generalize hT:E4 r x y=T
 refine Ac (n:=x.length) (R:=fun k=>∀ (out y2:List A0)(s:Term),out.length=k->y2.length=y.length->FK r s (x.drop k)->FK r s y2->(E4 r (x.drop k) y2).map (fun q=>(out++q.1,q.2))=T ->
  Dk.L8 (Al r) (Av y2) (Bf cM 0 4 out) (Av x) (.int .i64 x.length) (.int .i64 k) 0 [.arr A8 4 out.length] (Bo 0 Dk.rs fun x' H'=>x'=Zf T/\H'=[])) ?_ ?_ 0 (by omega) [] y s rfl rfl hx hy (by rw[List.drop_zero,hT];cases T<;>rfl)
 ·intro k hk ih out y2 s hol hyl2 hx hy hq
  rw[Ag hk]at hx hq
  simp only[E4]at hq
  generalize hax:x.getD k default=a at hx hq
  obtain⟨ha,haf,has,hx⟩:=hx
  subst has
  have ih2:∀ (a2:A0)(y3:List A0),LH r a y2=some (a2,y3)->Dk.L8 (Al r) (Av y3) (Bf cM 0 4 (out++[a2])) (Av x) (.int .i64 x.length) (.int .i64 ((k+1:Nat):Int)) 0 [.arr A8 4 (out++[a2]).length] (Bo 0 Dk.rs fun x' H'=>x'=Zf T/\H'=[]):=fun a2 y3 hrow=>by
   obtain⟨e1,e2,e3,e4,e5,e6⟩:=hR.ortho.row_ok y2 a a2 y3 ha haf hy hrow
   rw[hrow]at hq
   refine ih (out++[a2]) y3 _ (by simp[hol]) (by omega) hx e4 ?_
   have hq2:((E4 r (x.drop (k+1)) y3).map fun q=>(a2::q.1,q.2)).map (fun q=>(out++q.1,q.2))=T:=hq
   rw[<-hq2]
   cases E4 r (x.drop (k+1)) y3 with
   | none=>rfl
   | some q=>simp
  have hnone:LH r a y2=none->T=none:=fun e=>by rw[e]at hq;exact hq.symm
  clear ih hq
  refine A5.2 ?_
  push_cast[BC hk,hax]
  refine Ac (n:=y2.length) (R:=fun j=>∀ (a1:A0)(dn:List A0),dn.length=j->Hm r a1->F7 a1=true->FK r (Ad r A2.left a1) (y2.drop j)->(LH r a1 (y2.drop j)).map (fun p=>(p.1,dn++p.2))=LH r a y2 ->
   Dk.L6 (Al r) (Bf cM 0 4 out) (.ptr 1 0) (.rw 2 4 dn.length) (Av x) (.int .i64 x.length) (.int .i64 k) (Av y2) (.int .i64 y2.length) (.int .i64 j) 0 [.arr A8 4 out.length,.cells A8 (cM a1),Aap dn]
    (Bo 0 Dk.rs fun x' H'=>x'=Zf T/\H'=[])) ?_ ?_ 0 (by omega) a [] rfl ha haf hy (by rw[List.drop_zero];cases LH r a y2<;>simp)
  ·intro j hj ihj a1 dn hdn ha1 hf1 hl1 hrow
   rw[Ag hj]at hl1 hrow
   generalize hbx:y2.getD j default=b at hl1 hrow
   obtain⟨hb,hbf,hbs,hl2⟩:=hl1
   simp only[LH]at hrow
   have c1:=hR.divide hb ha1 hbf hf1 hbs.symm
   have c2:=hR.divide ha1 hb hf1 hbf hbs
   refine A5.2 ?_
   push_cast[BC hj,hbx]
   refine .of c1 ?_
   push_cast
   refine .of c2 ?_
   cases f1:F7 (rest r b a1)with
   | false =>
    have hT0:T=none:=hnone (by rw[<-hrow,if_neg (by simp[f1])];rfl)
    subst hT0
    push_cast
    exact A1 (by push_cast[Dk.rs];rfl)
   | true =>
    cases f2:F7 (rest r a1 b)with
    | false =>
     have hT0:T=none:=hnone (by rw[<-hrow,if_neg (by simp[f2])];rfl)
     subst hT0
     push_cast
     exact A1 (by push_cast[Dk.rs];rfl)
    | true =>
     obtain⟨k1,k2⟩:=hR.ortho.rest_ok _ a1 b (Nat.le_refl _) ha1 hb hbs
     have ih3:=ihj (rest r a1 b) (dn++[rest r b a1]) (by simp[hdn]) k1 f2 (k2▸hl2) (by
      rw[<-hrow,if_pos ⟨f1,f2⟩]
      cases LH r (rest r a1 b) (y2.drop (j+1))<;>simp)
     have e1:dn.map cM++[cM (rest r b a1)]=(dn++[rest r b a1]).map cM:=by simp
     push_cast[CD (show j<2^62 by omega),e1,Bq]
     push_cast at ih3
     exact⟨⟨by simp,by unfold Ah;omega⟩,ih3⟩
  ·intro a1 dn hdn ha1 hf1 hl1 hrow
   rw[List.drop_length]at hrow
   simp only[LH,Option.map_some,List.append_nil]at hrow
   have ih3:=ih2 a1 dn hrow.symm
   refine A5.2 ?_
   push_cast[AZ (Nat.le_refl _),CD (show k<2^62 by omega),Bq]
   have e:(out++[a1]).length=out.length+1:=by simp
   have e2:V.sl 4 (dn.map cM)=Av dn:=rfl
   rw[e]at ih3
   rw[e2]
   push_cast at ih3
   exact⟨by unfold Ah;omega,by simp,ih3⟩
 ·intro out y2 s hol hyl2 hx hy hq
  rw[Ak]at hq
  simp only[E4,Option.map_some,List.append_nil]at hq
  subst hq
  refine A5.2 ?_
  push_cast[AZ (Nat.le_refl _)]
  exact A1 (by push_cast[Dk.rs];rfl)
end Go.Dw
end
namespace Go.Dw
theorem iO {a b:Term}(ha:a.var=false)(hb:b.var=false)(hn:a.name≠b.name):F0 a b=([],false,0):=by
 have h:AF (B5 1) [] [a] [b]=some ([],false):=by
  simp only[AF,B5,E3,ha,hb,Bool.false_eq_true,if_false]
  rw[if_pos (.inl hn)]
 unfold F0 Kb
 rw[NB h,if_pos rfl]
theorem Vx {a b:A2}{pos:List Int}{sub:Term}(h1:sub.var=false)(h2:b.left.var=false)(h3:sub.name≠b.left.name):E0 a b pos sub=(false,0):=by
 unfold E0;rw[iO h1 h2 h3,if_pos rfl]
theorem eW {r:List A2}{i j:Nat}{a:A2}{pos:List Int}{sub:Term}(h:E0 a (Cn [121] (r.getD j default)) pos sub=(false,0)):KK r i a pos sub [] j=([],0):=by
 unfold KK
 split
 ·rfl
 ·rw[h];rfl
theorem Yp {r:List A2}{i:Nat}{a:A2}{sub:Term}:KK r i a [] sub [] i=([],0):=by
 unfold KK
 rw[if_pos ⟨rfl,rfl⟩]
def vX8:Term:=.mk [120] true []
def tA8:Term:=.mk [97] false []
def tB8:Term:=.mk [98] false []
def Eb:List A2:=[⟨.mk [102] false [vX8],.mk [103] false [vX8,vX8]⟩,⟨tA8,tB8⟩]
def mA8:A0:=.mk 0 [97] false []
def ra:A0:=.mk 2 [] false []
def vv:A0:=.mk 1 [] false [mA8]
def zg:A0:=.mk 0 [102] false [ra]
theorem zG (pre:A9):∃ w,(Cn pre (Eb.getD 0 default)).left=.mk [102] false [.mk w true []]:=⟨_,rfl⟩
theorem tM (pre:A9):(Cn pre (Eb.getD 1 default)).left=.mk [97] false []:=rfl
theorem YR:List.range Eb.length=[0,1]:=rfl
theorem Acc:Mq Eb [] 0=([],0):=by
 unfold Mq
 obtain⟨w,hw⟩:=zG [120]
 rw[hw]
 have hv:Aq (.mk [102] false [.mk w true []]) []=[([],.mk [102] false [.mk w true []]),([0],.mk w true [])]:=rfl
 rw[hv]
 have h1:KH Eb 0 (Cn [120] (Eb.getD 0 default)) [] ([],.mk [102] false [.mk w true []])=([],0):=by
  unfold KH
  rw[if_neg (by simp[Term.var]),YR]
  have e:KK Eb 0 (Cn [120] (Eb.getD 0 default)) [] (.mk [102] false [.mk w true []]) [] 1=([],0):=eW (Vx rfl (by rw[tM];rfl) (by rw[tM];show ([102]:A9)≠[97];decide))
  rw[BE Yp,BE e];rfl
 have h2:KH Eb 0 (Cn [120] (Eb.getD 0 default)) [] ([0],.mk w true [])=([],0):=by
  unfold KH
  exact if_pos rfl
 rw[BE h1,BE h2];rfl
theorem AbH:Mq Eb [] 1=([],0):=by
 unfold Mq
 rw[tM]
 have hv:Aq (.mk [97] false []) []=[([],.mk [97] false [])]:=rfl
 rw[hv]
 have h1:KH Eb 1 (Cn [120] (Eb.getD 1 default)) [] ([],.mk [97] false [])=([],0):=by
  unfold KH
  rw[if_neg (by simp[Term.var]),YR]
  obtain⟨w,hw⟩:=zG [121]
  have e:KK Eb 1 (Cn [120] (Eb.getD 1 default)) [] (.mk [97] false []) [] 0=([],0):=eW (Vx rfl (by rw[hw];rfl) (by rw[hw];show ([97]:A9)≠[102];decide))
  rw[BE e,BE Yp];rfl
 rw[BE h1];rfl
theorem Abe:OB Eb=([],0):=by
 unfold OB
 rw[YR,BE Acc,BE AbH];rfl
theorem Ack:Ao Eb=0:=by decide +kernel
theorem eh:F4 Eb=(true,0):=by
 unfold F4
 rw[if_neg (by rw[Ack];simp),Abe,if_neg (by simp)]
 have:(Eb.all fun x=>PM x.left)=true:=by decide +kernel
 rw[this];rfl
theorem fH:EY Eb=0:=by
 unfold EY
 rw[eh];rfl
theorem lj:Df Eb:=Xl eh
theorem rj:ET Eb 0=[[120]]:=by
 unfold ET Io AA
 have:I7 [] [(Eb.getD 0 default).left]=[[120]]:=by decide
 rw[this]
 unfold Proofs.sortS
 exact List.mergeSort_of_pairwise (by decide)
theorem pZ:ET Eb 1=[]:=by
 unfold ET Io AA
 have:I7 [] [(Eb.getD 1 default).left]=[]:=by decide
 rw[this]
 unfold Proofs.sortS
 exact List.mergeSort_of_pairwise (by decide)
theorem rW:vv=fm Eb 0 true fun _=>mA8:=by
 show vv=ru Eb 0 _
 unfold ru;rw[rj];rfl
theorem uZ:zg=fm Eb 0 false fun _=>ra:=rfl
theorem Aae:mA8=fm Eb 1 false fun _=>zM:=rfl
theorem zz:ra=fm Eb 1 true fun _=>zM:=by
 show ra=ru Eb 1 _
 unfold ru;rw[pZ];rfl
theorem za:rest Eb mA8 ra=.mk 0 [98] false []:=by
 rw[Aae,zz,KW lj (by decide),if_pos rfl];rfl
theorem wF:rest Eb ra mA8=ra:=by
 conv=>lhs;rw[Aae,zz,KW lj (by decide),if_neg (by simp)]
 show ru Eb 1 _=_
 unfold ru;rw[pZ];rfl
theorem Ab6:rest Eb vv zg=.mk 1 [] false [.mk 0 [98] false []]:=by
 rw[rW,uZ,KW lj (by decide),if_neg (by simp)]
 show ru Eb 0 _=_
 unfold ru;rw[rj,List.map_singleton,za];rfl
theorem AaX:rest Eb zg vv=.mk 0 [103] false [ra,ra]:=by
 rw[rW,uZ,KW lj (by decide),if_pos rfl,wF];rfl
theorem aw:Ec Eb vv=0/\Ec Eb zg=0/\HM Eb vv=HM Eb zg:=by decide +kernel
theorem Aeh:iY Eb vv zg=(.mk 1 [] false [.mk 0 [98] false []],0):=by
 unfold iY Ph
 rw[fH,aw.1,aw.2.1,aw.2.2,if_neg (by simp),Ab6];rfl
theorem AdY:iY Eb zg vv=(.mk 0 [103] false [ra,ra],0):=by
 unfold iY Ph
 rw[fH,aw.1,aw.2.1,aw.2.2,if_neg (by simp),AaX];rfl
theorem Tr:PF KZ [] (Al Eb):=by
 refine Ab S3.ok rfl ?_
 push_cast
 exact A1 (by push_cast[S3.rs];rfl)
theorem yl:PF Qi [] (.bool true):=by
 have h1:=KB (r:=Eb) (a:=vv) (b:=zg) (by decide) (by decide) (by decide)
 have h2:=KB (r:=Eb) (a:=zg) (b:=vv) (by decide) (by decide) (by decide)
 rw[sn,Aeh]at h1
 rw[sn,AdY]at h2
 refine Ab V8.ok rfl ?_
 push_cast
 refine .of Tr ?_
 push_cast
 refine .of h1 ?_
 push_cast
 refine .of Tr ?_
 push_cast
 refine .of h2 ?_
 push_cast
 refine .of (Na _ (by decide)) ?_
 push_cast
 refine .of (Na _ (by decide)) ?_
 push_cast
 exact A1 (by push_cast[V8.rs])
theorem qe {r:List A2}(m:A0)(l:List A0):(AW r D5 D5 0 (m::l)).1=HM r m:=by
 have key:∀ (l:List A0)(f la:Term)(k:Nat),(AW r f la (k+1) l).1=f:=by
  intro l
  induction l with
  | nil=>intro f la k;simp[AW]
  | cons m l ih =>
   intro f la k
   simp only[AW]
   split
   ·exact ih f _ (k+1)
   ·rfl
 simp only[AW]
 exact key l _ _ 0
theorem ae {r:List A2}{l:List A0}(h:0<l.length):(AW r D5 D5 0 l).1=HM r (l.getD 0 default):=by
 cases l with
 | nil=>simp at h
 | cons a l=>exact qe a l
theorem Z9 {r:List A2}{x y:List A0}(hr:KJ r<2^28)(hx:∀ m∈x,mb m<2^28)(hy:∀ m∈y,mb m<2^28):PF Ns [Al r,Av x,Av y] (Jm r x y):=by
 have h0:=U3 (r:=r) (by omega)
 have h1:=KD hr hx
 have h2:=KD hr hy
 refine Ab Cj.ok rfl ?_
 push_cast
 refine .of h0 ?_
 by_cases c0:EY r=0
 ·push_cast[c0]
  have hw1:IntKind.i64.wrap 1=1:=rfl
  have hw2:IntKind.i64.wrap 2=2:=rfl
  have ht1:(1:Int).toNat=1:=rfl
  have gM0:[[Av x],[Av y]].getD 0 []=[Av x]:=rfl
  have gM1:[[Av x],[Av y]].getD 1 []=[Av y]:=rfl
  refine A5.2 ?_
  push_cast[gM0]
  refine .of h1 ?_
  by_cases c1:Py r x=0
  ·push_cast[c1,hw1]
   refine A5.2 ?_
   push_cast[gM1,ht1]
   refine .of h2 ?_
   by_cases c2:Py r y=0
   ·push_cast[c2,hw2]
    refine A5.2 ?_
    obtain⟨x1,x2⟩:=Ra c1
    obtain⟨y1,y2⟩:=Ra c2
    have h3:=Pk hr x1 x2
    have h4:=Pk hr y1 y2
    have hE:F3 r x y=if Rk r x=false\/Rk r y=false\/(0<x.length/\0<y.length/\(AW r D5 D5 0 x).1≠(AW r D5 D5 0 y).1) then 9 else 0:=by
     unfold F3
     rw[if_neg (by simp[c0]),if_neg (by simp[c1]),if_neg (by simp[c2]),bt,bt]
    have bad:F3 r x y=9->Jm r x y=.tup [Av [],Av [],.int .i64 9]:=fun h=>by unfold Jm;rw[h,if_pos (by decide)]
    push_cast
    refine .of h3 ?_
    cases d1:Rk r x with
    | false =>
     rw[bad (by rw[hE,if_pos (.inl d1)])]
     push_cast
     exact A1 (by push_cast[Cj.rs];rfl)
    | true =>
     push_cast
     refine .of h4 ?_
     cases d2:Rk r y with
     | false =>
      rw[bad (by rw[hE,if_pos (.inr (.inl d2))])]
      push_cast
      exact A1 (by push_cast[Cj.rs];rfl)
     | true =>
      have hT1:0<x.length->PF DD [Al r,AP (x.getD 0 default),.bool false] (.tup [An (AW r D5 D5 0 x).1,.int .i64 0])/\tb (AW r D5 D5 0 x).1<2^28:=fun h=>by
       obtain⟨t1,_,t2,_⟩:=Wv hr (x2 _ (A4 h))
       rw[ae h];exact⟨t1,t2⟩
      have hT2:0<y.length->PF DD [Al r,AP (y.getD 0 default),.bool false] (.tup [An (AW r D5 D5 0 y).1,.int .i64 0])/\tb (AW r D5 D5 0 y).1<2^28:=fun h=>by
       obtain⟨t1,_,t2,_⟩:=Wv hr (y2 _ (A4 h))
       rw[ae h];exact⟨t1,t2⟩
      by_cases hp:F3 r x y=0
      ·obtain⟨_,_,_,s,ls1,ls2⟩:=Xc hp
       have hS:=uY c0
       have hpr:=Zt hS x y s ls1 ls2 (by omega) (by omega)
       have hv:Jm r x y=OZ (E4 r x y):=by unfold Jm;rw[if_neg (by simp[hp])]
       rw[hv]
       have hn:¬ (0<x.length/\0<y.length/\(AW r D5 D5 0 x).1≠(AW r D5 D5 0 y).1):=fun c=>by
        rw[hE,if_pos (.inr (.inr c))]at hp;cases hp
       rcases Classical.em (0<x.length)with p1 | p1
       ·have i1:((0:Int)<((x.length:Nat):Int))=True:=eq_true (by omega)
        rcases Classical.em (0<y.length)with p2 | p2
        ·have i2:((0:Int)<((y.length:Nat):Int))=True:=eq_true (by omega)
         have p3:(AW r D5 D5 0 x).1=(AW r D5 D5 0 y).1:=by
          rcases Classical.em ((AW r D5 D5 0 x).1=(AW r D5 D5 0 y).1)with p3 | p3
          ·exact p3
          ·exact absurd ⟨p1,p2,p3⟩ hn
         obtain⟨u1,u2⟩:=hT1 p1
         obtain⟨u3,u4⟩:=hT2 p2
         have hEq:=Q2 (AW r D5 D5 0 x).1 (AW r D5 D5 0 y).1 (by omega) (by omega)
         push_cast[i1,i2]
         refine .of u1 ?_
         push_cast[i2]
         refine .of u3 ?_
         push_cast
         refine .of hEq ?_
         push_cast[p3]
         refine .of hpr ?_
         cases hQ:E4 r x y with
         | none =>
          unfold Zf OZ
          push_cast
          exact A1 (by push_cast[Cj.rs];rfl)
         | some w =>
          unfold Zf OZ
          push_cast
          exact A1 (by push_cast[Cj.rs])
        ·have i2:((0:Int)<((y.length:Nat):Int))=False:=eq_false (by omega)
         push_cast[i1,i2]
         refine .of hpr ?_
         cases hQ:E4 r x y with
         | none =>
          unfold Zf OZ
          push_cast
          exact A1 (by push_cast[Cj.rs];rfl)
         | some w =>
          unfold Zf OZ
          push_cast
          exact A1 (by push_cast[Cj.rs])
       ·have i1:((0:Int)<((x.length:Nat):Int))=False:=eq_false (by omega)
        push_cast[i1]
        refine .of hpr ?_
        cases hQ:E4 r x y with
        | none =>
         unfold Zf OZ
         push_cast
         exact A1 (by push_cast[Cj.rs];rfl)
        | some w =>
         unfold Zf OZ
         push_cast
         exact A1 (by push_cast[Cj.rs])
      ·have hc:0<x.length/\0<y.length/\(AW r D5 D5 0 x).1≠(AW r D5 D5 0 y).1:=by
        rw[hE]at hp
        split at hp
        ·rename_i hc;exact (hc.resolve_left (by simp[d1])).resolve_left (by simp[d2])
        ·exact absurd rfl hp
       obtain⟨p1,p2,p3⟩:=hc
       rw[bad (by rw[hE,if_pos (.inr (.inr ⟨p1,p2,p3⟩))])]
       have i1:((0:Int)<((x.length:Nat):Int))=True:=eq_true (by omega)
       have i2:((0:Int)<((y.length:Nat):Int))=True:=eq_true (by omega)
       obtain⟨u1,u2⟩:=hT1 p1
       obtain⟨u3,u4⟩:=hT2 p2
       have hEq:=Q2 (AW r D5 D5 0 x).1 (AW r D5 D5 0 y).1 (by omega) (by omega)
       push_cast[i1,i2]
       refine .of u1 ?_
       push_cast[i2]
       refine .of u3 ?_
       push_cast
       refine .of hEq ?_
       push_cast[eq_false p3]
       exact A1 (by push_cast[Cj.rs];rfl)
   ·have e:F3 r x y=Py r y:=by unfold F3;rw[if_neg (by simp[c0]),if_neg (by simp[c1]),if_pos c2]
    unfold Jm
    rw[e,if_pos c2]
    push_cast[c2]
    exact A1 (by push_cast[Cj.rs];rfl)
  ·have e:F3 r x y=Py r x:=by unfold F3;rw[if_neg (by simp[c0]),if_pos c1]
   unfold Jm
   rw[e,if_pos c1]
   push_cast[c1]
   exact A1 (by push_cast[Cj.rs];rfl)
 ·have e:F3 r x y=EY r:=by unfold F3;rw[if_pos c0]
  unfold Jm
  rw[e,if_pos c0]
  push_cast[c0]
  exact A1 (by push_cast[Cj.rs];rfl)
theorem MP (l:List A0)(hl:l.length<2^38)(hz:∀ m∈l,As m<2^40):PF Jb [Av l,Av l] (.bool true):=by
 refine Ab IM.ok rfl ?_
 push_cast
 refine Ac (n:=l.length) (R:=fun k=>IM.L3 (Av l) (Av l) (.int .i64 l.length) (.int .i64 k) 0 [] (Bo 0 IM.rs fun x' H'=>x'=.bool true/\H'=[])) ?_ ?_ 0 (by omega)
 ·intro k hk ih
  refine A5.2 ?_
  push_cast[BC hk]
  refine .of (Na _ (hz _ (A4 hk))) ?_
  push_cast[CD (show k<2^62 by omega)]
  exact ih
 ·refine A5.2 ?_
  push_cast[AZ (Nat.le_refl _)]
  exact A1 (by push_cast[IM.rs])
noncomputable def RH (r:List A2)(x y:List A0):List A0×List A0×Int :=
 if F3 r x y≠0 then ([],[],F3 r x y) else match E4 r x y with
  | some p=>(p.1,p.2,0)
  | none=>([],[],3)
theorem xx (r:List A2)(x y:List A0):Jm r x y=.tup [Av (RH r x y).1,Av (RH r x y).2.1,.int .i64 (RH r x y).2.2]:=by
 unfold Jm RH
 split
 ·rfl
 ·cases E4 r x y<;>rfl
theorem vj (r:List A2)(x y:List A0):((RH r x y).1.length<2^38/\∀ m∈(RH r x y).1,As m<2^40)/\((RH r x y).2.1.length<2^38/\∀ m∈(RH r x y).2.1,As m<2^40):=by
 unfold RH
 split
 ·exact⟨⟨by simp,by simp⟩,⟨by simp,by simp⟩⟩
 ·rename_i hp
  obtain⟨h1,h2,h3,s,ls1,ls2⟩:=Xc (Classical.not_not.1 hp)
  cases hQ:E4 r x y with
  | none=>exact⟨⟨by simp,by simp⟩,⟨by simp,by simp⟩⟩
  | some w =>
   obtain⟨p,q⟩:=w
   obtain⟨e1,e2,e3,e4,e5⟩:=(uY h1).ortho.proj_ok x y p q s ls1 ls2 hQ
   refine⟨⟨by show p.length<_;omega,fun m hm=>?_⟩,⟨by show q.length<_;omega,fun m hm=>?_⟩⟩
   ·have:=(OT (e1.fit m hm).2).1;omega
   ·have:=(OT (e2.fit m hm).2).1;omega
theorem Sx {r:List A2}{x y:List A0}(hr:KJ r<2^28)(hx:∀ m∈x,mb m<2^28)(hy:∀ m∈y,mb m<2^28) :
  fc prog Iw [Al r,Av x,Av y] [] (fun x' H'=>x'=.bool true/\H'=[]):=by
 have h1:=SI (r:=r) (x:=x) (y:=y) (by omega) (fun m hm=>by have:=hx m hm;omega) (fun m hm=>by have:=hy m hm;omega)
 have h2:=Z9 (r:=r) (x:=x) (y:=y) hr hx hy
 rw[xx]at h1 h2
 obtain⟨⟨z1,z2⟩,⟨z3,z4⟩⟩:=vj r x y
 generalize RH r x y=P at h1 h2 z1 z2 z3 z4
 obtain⟨p,q,e⟩:=P
 refine ON mixed ED.ok rfl ?_
 have main:∀ (a b c d:Prop),True:=fun _ _ _ _=>trivial
 have f1:((6:Int)<((x.length:Nat):Int))=(6<x.length):=propext (by omega)
 have f2:(((x.length:Nat):Int)<=4096)=(x.length<=4096):=propext (by omega)
 have f3:((6:Int)<((y.length:Nat):Int))=(6<y.length):=propext (by omega)
 have f4:(((y.length:Nat):Int)<=4096)=(y.length<=4096):=propext (by omega)
 by_cases g1:6<x.length<;>by_cases g2:x.length<=4096<;>by_cases g3:6<y.length<;>by_cases g4:y.length<=4096<;>push_cast[f1,f2,f3,f4,g1,g2,g3,g4] <;>
  first
  | (exact A1 (by push_cast[ED.rs]))
  | exact .of h1 (by push_cast;exact .of h2 (by push_cast;exact .of (MP p z1 z2) (by push_cast;exact .of (MP q z3 z4) (by push_cast;exact .of yl (by push_cast;exact A1 (by push_cast[ED.rs]))))))
end Go.Dw
