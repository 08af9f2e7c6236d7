/-
  Contracts and lemmas for ResidualProjects: part c of 11.
-/
import Derived.Test.YtkdcfkfdkimaeaaGreatDoorPab
import Derived.Orders
import Derived.RangeFuncIn
import Derived.RangeFuncRecord
set_option linter.unusedVariables false
set_option linter.unusedSimpArgs false
namespace Go.Dw
theorem If {idx:List Nat}{i k:Nat}(h:Az idx i=some k):idx[k]?=some i:=by
 unfold Az at h
 rw[List.findIdx?_eq_some_iff_getElem]at h
 obtain⟨h1,h2,_⟩:=h
 rw[List.getElem?_eq_getElem h1]
 simp at h2
 rw[h2]
theorem aD {idx:List Nat}{i:Nat}(h:Az idx i=none):∀ k:Nat,idx[k]?≠some i:=by
 unfold Az at h
 rw[List.findIdx?_eq_none_iff]at h
 intro k hk
 have:=h i (List.mem_of_getElem? hk)
 simp at this
theorem aQ {idx:List Nat}(h:idx.Nodup){i j:Nat}(hi:i<idx.length)(hj:j<idx.length)(e:idx[i]=idx[j]):i=j:=by
 have h:=List.pairwise_iff_getElem.1 h
 rcases Nat.lt_trichotomy i j with q | q | q
 ·exact absurd e (h i j hi hj q)
 ·exact q
 ·exact absurd e.symm (h j i hj hi q)
theorem sJ {idx:List Nat}(hnd:idx.Nodup){i k:Nat}(h:idx[k]?=some i):Az idx i=some k:=by
 cases hp:Az idx i with
 | none=>exact absurd h (aD hp k)
 | some k' =>
  have h':=If hp
  have hk:=(List.getElem?_eq_some_iff.1 h).1
  have hk':=(List.getElem?_eq_some_iff.1 h').1
  have e1:=(List.getElem?_eq_some_iff.1 h).2
  have e2:=(List.getElem?_eq_some_iff.1 h').2
  have:=aQ hnd hk hk' (e1.trans e2.symm)
  rw[this]
def Cx.give (c:Cx)(idx:List Nat):Cx:=⟨c.w,c.ok,fun k=>match idx[k]? with | some i=>c.ρ i | none=>none,Dw.give idx c.H⟩
theorem Qk {idx:List Nat}{H:List Ob}(k:Nat):(give idx H)[k]?=(idx[k]?).map fun i=>A6 (Az idx) (H.getD i .dead):=by simp[give]
theorem QV {c:Cx}{idx:List Nat}{k:Nat}(h:k<(c.give idx).H.length):k<idx.length:=by simpa[Cx.give,give]using h
theorem Hu {H:List Ob}{i:Nat}{o:Ob}(h:H[i]?=some o):H.getD i .dead=o:=by simp[List.getD_eq_getElem?_getD,h]
theorem dY {c:Cx}{idx:List Nat}:∀ i j o,Az idx i=some j->c.H[i]?=some o->(c.give idx).H[j]?=some (A6 (Az idx) o)/\(c.give idx).ρ j=c.ρ i:=fun i j o hi ho=>by
 have hj:=If hi
 refine⟨?_,by simp[Cx.give,hj]⟩
 simp only[Cx.give,Qk,hj,Option.map_some,Hu ho]
theorem SU {c:Cx}{idx:List Nat}(hnd:idx.Nodup)(hlt:∀ i∈idx,i<c.H.length){x:V}{v:Value}(h:BI c x v):BI (c.give idx) (ren (Az idx) x) v :=
 WJ (c:=c) (c':=c.give idx) (fun _ _ _=>rfl) (fun _ _ h=>h) dY h
theorem aL {c:Cx}{idx:List Nat}(hnd:idx.Nodup)(hlt:∀ i∈idx,i<c.H.length):∀ {xs:List V} {vs:List Value},CZ c xs vs->CZ (c.give idx) (AS (Az idx) xs) vs
 | [],_,h=>h
 | _::_,_,⟨v,vs',h1,h2,h3⟩=>⟨v,vs',h1,SU hnd hlt h2,aL hnd hlt h3⟩
theorem Yy {c c':Cx}{σ:Nat->Option Nat}(hw:c'.w=c.w)(hok:c'.ok=c.ok)(hrep:∀ x v,BI c x v->BI c' (ren σ x) v)(hσ:∀ i j o,σ i=some j->c.H[i]?=some o->c'.H[j]?=some (A6 σ o)/\c'.ρ j=c.ρ i){o:Ob}{r:Option (Nat×Nat)}(h:Xb c o r):Xb c' (A6 σ o) r:=by
 cases o with
 | cells e cs =>
  obtain⟨b,vs,q1,q2,q3,q4,q5⟩:=h
  refine⟨b,vs,q1,by rw[hw];exact q2,by rw[Kh];exact q3,by rw[hok];exact q4,fun j x hx=>?_⟩
  rw[Ma]at hx
  cases hy:cs[j]? with
  | none=>simp[hy]at hx
  | some y =>
   simp[hy]at hx;subst hx
   obtain⟨v,r1,r2,r3⟩:=q5 j y hy
   exact⟨v,r1,r2,hrep _ _ r3⟩
 | arr e sz n =>
  refine⟨h.1,fun b k hb=>?_⟩
  obtain⟨vs,q1,q2,q3,q4,q5⟩:=h.2 b k hb
  exact⟨vs,by rw[hw];exact q1,q2,q3,q4,by rw[hok];exact q5⟩
 | map es =>
  obtain⟨b,ents,q1,q2,q3,q4⟩:=h
  exact⟨b,ents,q1,by rw[hw];simpa[A6]using q2,by rw[hok];exact q3,q4.ren hrep⟩
 | iter m n seen =>
  obtain⟨b,bm,q1,q2,q3,q4⟩:=h
  exact⟨b,bm,q1,by rw[hw];exact q2,by rw[hok];exact q3,q4.ren hσ⟩
 | dead=>exact h
 | row e sz els =>
  refine⟨fun hr=>by simpa[A6]using h.1 hr,fun b k hb=>?_⟩
  obtain⟨vs,q1,q2,q3,q4,q5,q6⟩:=h.2 b k hb
  exact⟨vs,by rw[hw];exact q1,q2,by simpa using q3,q4,by rw[hok];exact q5,q6.ren hrep⟩
 | lp l st lr ts =>
  obtain⟨q1,q2,q3,q4⟩:=h
  exact⟨q1,by rw[hw];exact q2,by rw[hok];exact q3,q4.ren hrep⟩
theorem Uj {c:Cx}(hc:Bb c){idx:List Nat}(hnd:idx.Nodup)(hlt:∀ i∈idx,i<c.H.length):Bb (c.give idx):=by
 refine⟨fun i j b k k' hi hj h1 h2=>?_,hc.okLt,fun k o hk=>?_,hc.glob.keep (fun _ _ _=>rfl) ?_⟩
 ·have hi:=QV hi
  have hj:=QV hj
  have e1:idx[i]?=some idx[i]:=List.getElem?_eq_getElem hi
  have e2:idx[j]?=some idx[j]:=List.getElem?_eq_getElem hj
  simp only[Cx.give,e1,e2]at h1 h2
  have:=hc.inj _ _ b k k' (hlt _ (List.getElem_mem hi)) (hlt _ (List.getElem_mem hj)) h1 h2
  exact aQ hnd hi hj this
 ·simp only[Cx.give,Qk]at hk
  cases he:idx[k]? with
  | none=>simp[he]at hk
  | some i =>
   simp[he]at hk
   have hil:=hlt i (List.mem_of_getElem? he)
   have ho:=List.getElem?_eq_getElem hil
   have hd:=Hu ho
   have hk':A6 (Az idx) c.H[i]=o:=by rw[<-hd];simpa using hk
   subst hk'
   have:=Yy (c:=c) (c':=c.give idx) rfl rfl (fun x v h=>SU hnd hlt h) dY (hc.obj i _ ho)
   simpa[Cx.give,he]using this
 ·rintro b ⟨k,m,hk,hr⟩
  have hk:=QV hk
  have e1:idx[k]?=some idx[k]:=List.getElem?_eq_getElem hk
  simp only[Cx.give,e1]at hr
  exact .inl ⟨_,m,hlt _ (List.getElem_mem hk),hr⟩
def Cx.takeB (c:Cx)(idx:List Nat)(c1:Cx):Cx :=
 ⟨c1.w,c1.ok,fun i=>if i<c.H.length then (match Az idx i with | some k=>c1.ρ k | none=>c.ρ i) else c1.ρ (idx.length+(i-c.H.length)),Dw.takeB idx c.H c1.H⟩
theorem DW {idx:List Nat}{H H1:List Ob}(hl:idx.length<=H1.length)(i:Nat):(takeB idx H H1)[i]? =
  if i<H.length then some (match Az idx i with | some k=>A6 (C5 idx H.length) (H1.getD k .dead) | none=>H.getD i .dead) else (H1[idx.length+(i-H.length)]?).map (A6 (C5 idx H.length)):=by
 unfold takeB
 by_cases hi:i<H.length
 ·rw[List.getElem?_append_left (by simpa[PD]using hi),if_pos hi]
  simp only[PD,List.getElem?_map,List.getElem?_range hi,Option.map_some]
  congr 1
  cases hp:Az idx i with
  | none=>rfl
  | some k =>
   have hk:k<H1.length:=by have:=(List.getElem?_eq_some_iff.1 (If hp)).1;omega
   simp[List.getD_eq_getElem?_getD,hk]
 ·rw[List.getElem?_append_right (by simp[PD];omega),if_neg hi]
  simp only[PD,List.length_map,List.length_range,List.getElem?_map,List.getElem?_drop]
theorem TP {idx:List Nat}{H H1:List Ob}:(takeB idx H H1).length=H.length+(H1.length-idx.length):=by simp[takeB,PD]
theorem kX {idx:List Nat}{n k:Nat}(h:k<idx.length):C5 idx n k=some idx[k]:=by simp[C5,h]
theorem mo {idx:List Nat}{n k:Nat}(h:¬ k<idx.length):C5 idx n k=some (n+(k-idx.length)):=by simp[C5,h]
theorem jE {P:Program}{c:Cx}(hc:Bb c){idx:List Nat}(hnd:idx.Nodup)(hlt:∀ i∈idx,i<c.H.length){c1:Cx}(hc1:Bb c1)(hf1:Fr (c.give idx) c1) :
  idx.length<=c1.H.length/\Bb (c.takeB idx c1)/\Fr c (c.takeB idx c1)/\∀ x v,BI c1 x v->BI (c.takeB idx c1) (ren (C5 idx c.H.length) x) v:=by
 have hlen:(give idx c.H).length=idx.length:=by simp[give]
 have hle:idx.length<=c1.H.length:=by
  by_cases h0:idx.length=0
  ·omega
  ·have:=hf1.ext.lt (i:=idx.length-1) (by show _<(give idx c.H).length;omega)
   omega
 have hown1:∀ b,(c.give idx).owns b->∃ i∈idx,∃ k,c.ρ i=some (b,k):=by
  rintro b ⟨k,m,hk,hr⟩
  have hk:=QV hk
  have e1:idx[k]?=some idx[k]:=List.getElem?_eq_getElem hk
  simp only[Cx.give,e1]at hr
  exact⟨_,List.getElem_mem hk,m,hr⟩
 have hownc:∀ b,(c.give idx).owns b->c.owns b:=fun b hb=>by
  obtain⟨i,hi,k,hr⟩:=hown1 b hb
  exact⟨i,k,hlt i hi,hr⟩
 have hother:∀ i b k,i<c.H.length->Az idx i=none->c.ρ i=some (b,k)->¬ (c.give idx).owns b:=by
  intro i b k hi hp hr hb
  obtain⟨j,hj,k',hr'⟩:=hown1 b hb
  have:=hc.inj i j b k k' hi (hlt j hj) hr hr'
  subst this
  obtain⟨m,hm,e⟩:=List.getElem_of_mem hj
  exact aD hp m (by rw[List.getElem?_eq_getElem hm,e])
 have hothlt:∀ i b k,i<c.H.length->c.ρ i=some (b,k)->b<c.w.heap.size:=fun i b k hi hr=>JJ hc hi hr
 have hsig:∀ k i o,C5 idx c.H.length k=some i->c1.H[k]?=some o->(c.takeB idx c1).H[i]?=some (A6 (C5 idx c.H.length) o)/\(c.takeB idx c1).ρ i=c1.ρ k:=fun k i o hi ho=>by
   have hk:=(List.getElem?_eq_some_iff.1 ho).1
   by_cases h1:k<idx.length
   ·rw[kX h1]at hi;cases hi
    have e1:idx[k]?=some idx[k]:=List.getElem?_eq_getElem h1
    have hil:=hlt _ (List.getElem_mem h1)
    have hp:=sJ hnd e1
    refine⟨?_,by simp[Cx.takeB,hil,hp]⟩
    simp only[Cx.takeB,DW hle,if_pos hil,hp,Hu ho]
   ·rw[mo h1]at hi;cases hi
    have e2:idx.length+(c.H.length+(k-idx.length)-c.H.length)=k:=by omega
    refine⟨?_,by simp only[Cx.takeB,if_neg (show ¬ c.H.length+(k-idx.length)<c.H.length by omega),e2]⟩
    simp only[Cx.takeB,DW hle,if_neg (show ¬ c.H.length+(k-idx.length)<c.H.length by omega),e2,ho,Option.map_some]
 have hrep:∀ x v,BI c1 x v->BI (c.takeB idx c1) (ren (C5 idx c.H.length) x) v:=fun x v h =>
  WJ (c:=c1) (c':=c.takeB idx c1) (fun _ _ _=>rfl) (fun _ _ h=>h) hsig h
 have hf:Fr c (c.takeB idx c1):=by
  refine⟨hf1.okS,hf1.cell,hf1.size,fun b o h=>?_,fun b hb hno=>hf1.heap b hb (fun h=>hno (hownc b h)),fun b hb=>?_,fun i o hi=>?_,hf1.os,hf1.tape,hf1.output,hf1.drawn⟩
  ·rcases hf1.okN b o h with h | h | h
   ·exact .inl h
   ·exact .inr (.inl h)
   ·exact .inr (.inr (hownc b h))
  ·obtain⟨i,k,hi,hr⟩:=hb
   have g:∀ m,m<c1.H.length->c1.ρ m=some (b,k)->c.owns b\/c.w.heap.size<=b:=fun m hm hr=>by
    rcases hf1.own b ⟨m,k,hm,hr⟩with h | h
    ·exact .inl (hownc b h)
    ·exact .inr h
   simp only[Cx.takeB]at hi hr
   rw[TP]at hi
   by_cases h1:i<c.H.length
   ·rw[if_pos h1]at hr
    cases hp:Az idx i with
    | none=>rw[hp]at hr;exact .inl ⟨i,k,h1,hr⟩
    | some m =>
     rw[hp]at hr
     exact g m (by have:=(List.getElem?_eq_some_iff.1 (If hp)).1;omega) hr
   ·rw[if_neg h1]at hr
    exact g _ (by omega) hr
  ·have h1:=(List.getElem?_eq_some_iff.1 hi).1
   simp only[Cx.takeB,DW hle,if_pos h1]
   refine⟨_,rfl,?_⟩
   cases hp:Az idx i with
   | none =>
    simp only[Hu hi]
    cases o<;>simp[CG]
   | some k =>
    have hk:=If hp
    have hg:(c.give idx).H[k]?=some (A6 (Az idx) o):=by
     simp only[Cx.give,Qk,hk,Option.map_some,Hu hi]
    obtain⟨o',q1,q2⟩:=hf1.ext k _ hg
    have hρ:(c.give idx).ρ k=c.ρ i:=by simp[Cx.give,hk]
    simp only[Hu q1]
    rw[hρ]at q2
    cases o<;>cases o'<;>simp only[CG,A6,List.length_map]at q2 ⊢<;>exact q2
 refine⟨hle,⟨fun i j b k k' hi hj h1 h2=>?_,hc1.okLt,fun i o hi=>?_,hc.globFr hf⟩,hf,hrep⟩
 ·simp only[Cx.takeB]at hi hj h1 h2
  rw[TP]at hi hj
  have cls:∀ i k,i<c.H.length+(c1.H.length-idx.length)->(if i<c.H.length then (match Az idx i with | some k=>c1.ρ k | none=>c.ρ i) else c1.ρ (idx.length+(i-c.H.length)))=some (b,k) ->
    (∃ m,m<c1.H.length/\c1.ρ m=some (b,k)/\C5 idx c.H.length m=some i)\/(i<c.H.length/\Az idx i=none/\c.ρ i=some (b,k)):=by
   intro i k hi hr
   by_cases e1:i<c.H.length
   ·rw[if_pos e1]at hr
    cases hp:Az idx i with
    | none=>rw[hp]at hr;exact .inr ⟨e1,rfl,hr⟩
    | some m =>
     rw[hp]at hr
     have hm:=(List.getElem?_eq_some_iff.1 (If hp)).1
     refine .inl ⟨m,by omega,hr,?_⟩
     rw[kX hm,(List.getElem?_eq_some_iff.1 (If hp)).2]
   ·rw[if_neg e1]at hr
    refine .inl ⟨_,by omega,hr,?_⟩
    rw[mo (by omega)];congr 1;omega
  rcases cls i k hi h1 with ⟨m,a1,a2,a3⟩|⟨a1,a2,a3⟩<;>rcases cls j k' hj h2 with ⟨m',b1,b2,b3⟩|⟨b1,b2,b3⟩
  ·have:=hc1.inj m m' b k k' a1 b1 a2 b2
   subst this
   rw[a3]at b3;cases b3;rfl
  ·exfalso
   rcases hf1.own b ⟨m,k,a1,a2⟩with h | h
   ·exact hother j b k' b1 b2 b3 h
   ·have:=hothlt j b k' b1 b3
    have h':c.w.heap.size<=b:=h
    omega
  ·exfalso
   rcases hf1.own b ⟨m',k',b1,b2⟩with h | h
   ·exact hother i b k a1 a2 a3 h
   ·have:=hothlt i b k a1 a3
    have h':c.w.heap.size<=b:=h
    omega
  ·exact hc.inj i j b k k' a1 b1 a3 b3
 ·simp only[Cx.takeB,DW hle]at hi
  by_cases h1:i<c.H.length
  ·rw[if_pos h1]at hi
   cases hp:Az idx i with
   | none =>
    rw[hp]at hi
    have ho:=List.getElem?_eq_getElem h1
    simp only[Hu ho,Option.some.injEq]at hi
    subst hi
    have hρ:(c.takeB idx c1).ρ i=c.ρ i:=by simp[Cx.takeB,h1,hp]
    rw[hρ]
    refine Ds hf (hc.obj i _ ho) fun b k hr=>?_
    have hno:=hother i b k h1 hp hr
    have hbl:=hothlt i b k h1 hr
    refine⟨hf1.heap b hbl hno,fun x hx=>?_⟩
    rcases hf1.okN b x hx with h | h | h
    ·exact h
    ·have h':c.w.heap.size<=b:=h
     omega
    ·exact absurd h hno
   | some k =>
    rw[hp]at hi
    have hk:=(List.getElem?_eq_some_iff.1 (If hp)).1
    have ho:c1.H[k]?=some c1.H[k]:=List.getElem?_eq_getElem (by omega)
    simp only[Hu ho,Option.some.injEq]at hi
    subst hi
    have hρ:(c.takeB idx c1).ρ i=c1.ρ k:=by simp[Cx.takeB,h1,hp]
    rw[hρ]
    exact Yy (c:=c1) (c':=c.takeB idx c1) rfl rfl hrep hsig (hc1.obj k _ ho)
  ·rw[if_neg h1]at hi
   cases ho:c1.H[idx.length+(i-c.H.length)]? with
   | none=>simp[ho]at hi
   | some o' =>
    simp[ho]at hi
    subst hi
    have hρ:(c.takeB idx c1).ρ i=c1.ρ (idx.length+(i-c.H.length)):=by simp[Cx.takeB,h1]
    rw[hρ]
    exact Yy (c:=c1) (c':=c.takeB idx c1) rfl rfl hrep hsig (hc1.obj _ _ ho)
theorem tq {P:Program}{c:Cx}(hc:Bb c){idx:List Nat}(hnd:idx.Nodup)(hlt:∀ i∈idx,i<c.H.length){F:Fn}{args:List V}{vs:List Value}(hr:CZ c args vs){R:V->List Ob->Prop}(hs:HC P F (AS (Az idx) args) (give idx c.H) R) :
  VF P F vs.toArray c.w fun e w'=>∃ v x c1,e=.returned v/\R x c1.H/\idx.length<=c1.H.length/\(c.takeB idx c1).w=w'/\Bb (c.takeB idx c1)/\Fr c (c.takeB idx c1) /\
   BI (c.takeB idx c1) (ren (C5 idx c.H.length) x) v/\BI (c.takeB idx c1) (ren (fun _=>none) x) v:=by
 refine (hs (c.give idx) vs rfl (Uj hc hnd hlt) (aL hnd hlt hr)).mono ?_
 rintro e w' ⟨v,x,c1,rfl,rfl,hR,h1,h2,h3⟩
 obtain⟨q1,q2,q3,q4⟩:=jE (P:=P) hc hnd hlt h1 h3
 exact⟨v,x,c1,rfl,hR,q1,rfl,q2,q3,q4 _ _ h2,WJ (c:=c1) (c':=c.takeB idx c1) (fun _ _ _=>rfl) (fun _ _ h=>h) (fun i j o hi=>by cases hi) h2⟩
theorem pW:Az []=fun _=>none:=rfl
theorem oG (H:List Ob):takeB [] H []=H:=by
 apply List.ext_getElem?
 intro i
 rw[DW (by simp)]
 by_cases hi:i<H.length
 ·rw[if_pos hi,pW]
  simp[List.getElem?_eq_getElem hi]
 ·rw[if_neg hi,List.getElem?_eq_none (by omega)]
  simp;omega
end Go.Dw
section
namespace Go.Dw
section
variable {P:Program} {c0:Cx} {N:Nat} {D:List Deferred} {o:Oper} {a:Act} {w:World} {t:T} {H:List Ob}
theorem rX {c:Cx}(hf1:tG c0 D c){idx:List Nat}(hlt:∀ i∈idx,i<c.H.length)(hB:∀ i,i<c0.H.length->idx[i]?=some i):tG c0 D (c.give idx):=by
 have hf0:=hf1.fr
 have hown:∀ b,(c.give idx).owns b->c.owns b:=by
  rintro b ⟨j,k,hj,hr⟩
  have hjl:=QV hj
  simp only[Cx.give,List.getElem?_eq_getElem hjl]at hr
  exact⟨idx[j],k,hlt _ (List.getElem_mem hjl),hr⟩
 have hf:Fr c0 (c.give idx):=by
  refine⟨hf0.okS,hf0.cell,hf0.size,hf0.okN,hf0.heap,fun b hb=>hf0.own b (hown b hb),fun i o ho=>?_,hf0.os,hf0.tape,hf0.output,hf0.drawn⟩
  obtain⟨o',h1,h2⟩:=hf0.ext i o ho
  have hi:i<c0.H.length:=(List.getElem?_eq_some_iff.1 ho).1
  have hx:=hB i hi
  refine⟨A6 (Az idx) o',?_,?_⟩
  ·show (give idx c.H)[i]?=_
   rw[Qk,hx,Option.map_some,Hu h1]
  ·have hρ:(c.give idx).ρ i=c.ρ i:=by simp only[Cx.give,hx]
   rw[hρ]
   cases o<;>cases o'<;>simp only[CG,A6,List.length_map]at h2 ⊢<;>exact h2
 refine⟨hf,fun d hd=>?_,hf1.nodup⟩
 obtain⟨b,p1,p2,p3,p4,p5⟩:=hf1.marks d hd
 exact⟨b,p1,p2,p3,fun ho=>p4 (hown b ho),p5⟩
theorem Adl {idx l:List Nat}(hnd:idx.Nodup)(hlt:∀ i∈idx,i<H.length)(hB:∀ i,i<c0.H.length->idx[i]?=some i)(hs:Sm c0 N D t H a w)(hl:∀ n∈l,n<N) :
  Sm c0 N D (l.map fun n=>(n,ren (Az idx) (lk t n))) (give idx H) a w:=by
 obtain⟨g1,g2,c,rfl,rfl,hc,hf1,h7⟩:=hs
 refine⟨g1,g2,c.give idx,rfl,rfl,Uj hc hnd hlt,rX hf1 hlt hB,fun s x hx=>?_⟩
 have key:∀ (l:List Nat),(∀ n∈l,n<N)->find (l.map fun n=>(n,ren (Az idx) (lk t n))) s=some x->s<N/\x=ren (Az idx) (lk t s):=by
  intro l
  induction l with
  | nil=>intro _ h;simp[find]at h
  | cons n l ih =>
   intro hl h
   simp only[List.map_cons,find]at h
   split at h
   ·rename_i e1;subst e1;cases h;exact⟨hl _ (by simp),rfl⟩
   ·exact ih (fun k hk=>hl k (by simp[hk])) h
 obtain⟨h1,rfl⟩:=key l hl hx
 exact⟨h1,SU hnd hlt (Ky h7 s)⟩
theorem AdV {l:List Nat}(hs:Sm c0 N D t H a w)(hl:∀ n∈l,n<N):Sm c0 N D (l.map fun n=>(n,lk t n)) H a w:=by
 obtain⟨g1,g2,c,rfl,rfl,hc,hf1,h7⟩:=hs
 refine⟨g1,g2,c,rfl,rfl,hc,hf1,fun s x hx=>?_⟩
 have key:∀ (l:List Nat),(∀ n∈l,n<N)->find (l.map fun n=>(n,lk t n)) s=some x->s<N/\x=lk t s:=by
  intro l
  induction l with
  | nil=>intro _ h;simp[find]at h
  | cons n l ih =>
   intro hl h
   simp only[List.map_cons,find]at h
   split at h
   ·rename_i e1;subst e1;cases h;exact⟨hl _ (by simp),rfl⟩
   ·exact ih (fun k hk=>hl k (by simp[hk])) h
 obtain⟨h1,rfl⟩:=key l hl hx
 exact⟨h1,Ky h7 s⟩
end
end Go.Dw
end
section
namespace Go.Dw
theorem fk {N c t}{a:Act}(h:Kl N c t a):∀ {ys:List Operand} {xs:List O},zh ys xs=true->CZ c (xs.map (ev t)) (ys.map a.eval)
 | [],[],_=>rfl
 | y::ys,x::xs,ho=>by
  simp only[zh,Bool.and_eq_true]at ho
  exact⟨_,_,rfl,Ar h ho.1,fk h ho.2⟩
def TJ (N:Nat)(o:Oper)(d:Option Nat)(g:O)(args:List O):Bool :=
 match o.op with
 | .call cl=>(match cl.callee with | .value y=>BA y g | _=>false)&&zh cl.args.toList args&&o.dst==d&&(match d with | some d=>decide (d<N) | none=>true)
 | _=>false
section
variable {P:Program} {c0:Cx} {N:Nat} {D:List Deferred} {o:Oper} {a:Act} {w:World} {t:T} {H:List Ob} {Q:Act->World->Prop}
theorem D3.wp {t' H'}(h:D3 P c0 N D o a w t' H'){next:Act->World->Prop}(hn:∀ v w',Sm c0 N D t' H' (a.put o.dst v) w'->next (a.put o.dst v) w'):dL P o a w next:=by
 obtain⟨v,w',h1,h2⟩:=h
 unfold dL
 rcases h1 with h1 | ⟨rfl,h1⟩<;>rw[h1]
 ·exact hn v w' h2
 ·exact hn undef w' h2
theorem ZM {d:Option Nat}{g:O}{args:List O}{F:Fn}{fst caps:List V}(hs:Sm c0 N D t H a w)(hb:TJ N o d g args=true)(hg:ev t g=.fn F fst caps){c:Cx}(h3:c.w=w)(h4:c.H=H)(h5:Bb c)(h7:Kl N c t a) :
  ∃ vs,CZ c (fst++args.map (ev t)++caps) vs/\(∀ R,VF P F vs.toArray w R->((∃ f,F=.func f)\/caps=[])->(∀ e w',R e w'->∃ v,e=.returned v)->∀ next:Act->World->Prop,(∀ v w',R (.returned v) w'->next (a.put o.dst v) w')->dL P o a w next)/\o.dst=d/\∀ d',d=some d'->d'<N:=by
 unfold TJ at hb
 split at hb
 case h_2=>cases hb
 rename_i cl hop
 simp only[Bool.and_eq_true,beq_iff_eq]at hb
 obtain⟨⟨⟨hb1,hb2⟩,hb3⟩,hb4⟩:=hb
 split at hb1
 case h_2=>cases hb1
 rename_i y hcal
 have hr:=Ar h7 hb1
 rw[hg]at hr
 obtain⟨va,vc,e1,e2,e3⟩:=hr
 refine⟨va.toList++cl.args.toList.map a.eval++vc.toList,GN (GN e2 (fk h7 hb2)) e3,?_,hb3,fun d' hd=>by subst hd;simpa using hb4⟩
 have:(va.toList++cl.args.toList.map a.eval++vc.toList).toArray=va++cl.args.map a.eval++vc:=by
  apply Array.ext';simp
 rw[this]
 intro R hcall hF hret next hn
 have hrun:(execOp a.eval o).run P w=(invoke (.fn F vc) (va++cl.args.map a.eval)).run P w:=by simp[execOp,hop,resolve,hcal,e1,Deferred.ofValue]
 unfold dL
 rw[hrun]
 cases F<;>simp only[VF]at hcall
 case func f =>
  simp only[invoke]
  rcases hcall with ⟨h1,h2⟩|⟨v,w',h1,h2⟩
  ·rw[h1]
   refine h2.mono fun e w' he=>?_
   obtain⟨v,rfl⟩:=hret e w' he
   exact⟨v,rfl,hn v w' he⟩
  ·rw[h1]
   exact hn v w' h2
 case yield l =>
  obtain⟨f,tmps,assign,body,h1,h2⟩:=hcall
  have hvc:vc=#[]:=by
   rcases hF with ⟨f,hf⟩ | hF
   ·cases hf
   ·subst hF
    have:vc.toList=[]:=e3
    simpa using this
  subst hvc
  simp only[invoke]
  rw[Array.append_empty]at h1
  rw[h1]
  exact fun c cs=>let ⟨v,w',q1,q2⟩:=h2 c cs;⟨v,w',hn v w' q1,q2⟩
theorem Qs {d:Option Nat}{g:O}{args:List O}{F:Fn}{fst caps:List V}(hs:Sm c0 N D t H a w)(hb:TJ N o d g args=true)(hg:ev t g=.fn F fst caps)(hF:(∃ f,F=.func f)\/caps=[]){idx:List Nat}(hnd:idx.Nodup)(hlt:∀ i∈idx,i<H.length)
  {R:V->List Ob->Prop} (hsp:HC P F (AS (Az idx) (fst++args.map (ev t)++caps)) (give idx H) R) {next:Act->World->Prop}
  (hn:∀ x H' v w',R x H'->idx.length<=H'.length->Sm c0 N D (FZ d (ren (C5 idx H.length) x) t) (takeB idx H H') (a.put o.dst v) w'->Sm c0 N D (FZ d (ren (fun _=>none) x) t) (takeB idx H H') (a.put o.dst v) w'->next (a.put o.dst v) w'):dL P o a w next:=by
 obtain⟨q1,q2,c,h3,h4,h5,h6,h7⟩:=id hs
 obtain⟨vs,e1,e2,e3,e4⟩:=ZM (P:=P) (o:=o) hs hb hg h3 h4 h5 h7
 subst h3;subst h4
 refine e2 _ (tq h5 hnd hlt e1 hsp) hF ?_ _ ?_
 ·rintro e w' ⟨v',x,c1,ev1,_⟩
  exact⟨v',ev1⟩
 ·rintro v w' ⟨v',x,c1,ev1,hR,hle,hw,r1,r2,r3,r4⟩
  cases ev1
  have key:∀ y,BI (c.takeB idx c1) y v->Sm c0 N D (FZ d y t) (takeB idx c.H c1.H) (a.put o.dst v) w':=fun y hy=>by
   refine⟨by rw[J4];exact q1,by rw[FB];exact q2,c.takeB idx c1,hw,rfl,r1,h6.trans r2,?_⟩
   rw[e3]
   cases d with
   | none=>exact EE r2 h7
   | some d=>exact Hx q1 (e4 d rfl) hy (EE r2 h7)
  exact hn x c1.H v w' hR hle (key _ r3) (key _ r4)
theorem QK {d:Option Nat}{g:O}{args:List O}{F:Fn}{fst caps:List V}(hs:Sm c0 N D t H a w)(hb:TJ N o d g args=true)(hg:ev t g=.fn F fst caps)(hF:(∃ f,F=.func f)\/caps=[])
  {R:V->List Ob->Prop} (hsp:HC P F (fst++args.map (ev t)++caps) H R) {next:Act->World->Prop}
  (hn:∀ x H' v w',R x H'->Sm c0 N D (FZ d x t) H' (a.put o.dst v) w'->next (a.put o.dst v) w'):dL P o a w next:=by
 obtain⟨q1,q2,c,h3,h4,h5,h6,h7⟩:=id hs
 obtain⟨vs,e1,e2,e3,e4⟩:=ZM (P:=P) (o:=o) hs hb hg h3 h4 h5 h7
 subst h3;subst h4
 refine e2 _ (hsp c vs rfl h5 e1) hF ?_ _ ?_
 ·rintro e w' ⟨v',x,c1,ev1,_⟩
  exact⟨v',ev1⟩
 ·rintro v w' ⟨v',x,c1,ev1,hw,hR,r1,r2,r3⟩
  cases ev1
  refine hn x c1.H v w' hR ⟨by rw[J4];exact q1,by rw[FB];exact q2,c1,hw,rfl,r1,h6.trans r3,?_⟩
  rw[e3]
  cases d with
  | none=>exact EE r3 h7
  | some d=>exact Hx q1 (e4 d rfl) r2 (EE r3 h7)
theorem QZ {d:Option Nat}{g:O}{args:List O}{f:Nat}{fst caps:List V}(hs:Sm c0 N D t H a w)(hb:TJ N o d g args=true)(hg:ev t g=.fn (.func f) fst caps)
  {x:V} (hsp:Spec P f (AS (fun _=>none) (fst++args.map (ev t)++caps)) [] (fun x' H'=>x'=x/\H'=[])) {next:Act->World->Prop}
  (hn:∀ v w',Sm c0 N D (FZ d (ren (fun _=>none) x) t) H (a.put o.dst v) w'->next (a.put o.dst v) w'):dL P o a w next:=by
 refine Qs (F:=.func f) (idx:=[]) hs hb hg (.inl ⟨f,rfl⟩) (by simp) (by simp) (R:=fun x' H'=>x'=x/\H'=[]) hsp ?_
 rintro x' H' v w' ⟨rfl,rfl⟩ _ _ h2
 rw[oG]at h2
 exact hn v w' h2
def tF (P:Program)(N:Nat)(o:Oper):S->Bool
 | .op i=>wB P N o i
 | .call d f args=>TJ N o d (.f f) args
 | .callv d g args=>TJ N o d g args
 | .callp d f args=>TJ N o d (.f f) args
 | .callvp d g args=>TJ N o d g args
 | .nx d x=>match o.op with | .next y false=>o.dst==some d&&decide (d<N)&&BA y x | _=>false
 | .nl d ne x=>match o.op with
  | .binOp op ty y (.const (.slice none 0 0)) _=>o.dst==some d&&decide (d<N)&&(op==if ne then .neq else .eql)&&(Rx P ty).isSome&&BA y x
  | _=>false
 | .gd .. | .alt ..=>false
theorem kF {nd:Nat->C}{B:Nat}{s:S}{l:List S}{k:List K}{QX:X->T->List Ob->Prop}(hs:Sm c0 N D t H a w)(hok:tF P N o s=true)(hrun:Ax P nd B (.r (s::l)::k) t H QX){next:Act->World->Prop}
  (hn:∀ t' H' v w',Ax P nd B (.r l::k) t' H' QX->Sm c0 N D t' H' (a.put o.dst v) w'->next (a.put o.dst v) w'):dL P o a w next:=by
 cases s with
 | op i =>
  cases hrun with
  | op t' H' he hr=>exact (fW hok he hs).wp fun v w' h=>hn t' H' v w' hr h
 | call d f args =>
  cases hrun with
  | callA R h3 h4=>exact QK (F:=.func f) (fst:=[]) (caps:=[]) hs hok rfl (.inl ⟨f,rfl⟩) (by rw[Bj];simpa using h3) fun x H' v w' hR hS=>hn _ _ v w' (h4 x H' hR) hS
  | call idx R h1 h2 h3 h4=>exact Qs (F:=.func f) (fst:=[]) (caps:=[]) hs hok rfl (.inl ⟨f,rfl⟩) h1 h2 (by rw[Bj];simpa using h3) fun x H' v w' hR hle hS _=>hn _ _ v w' (h4 x H' hR hle) hS
 | callv d g args =>
  cases hrun with
  | callvA F fst caps R h0 hF h3 h4=>exact QK hs hok h0 hF h3 fun x H' v w' hR hS=>hn _ _ v w' (h4 x H' hR) hS
  | callv f fst caps idx R h0 hF h1 h2 h3 h4=>exact Qs hs hok h0 hF h1 h2 h3 fun x H' v w' hR hle hS _=>hn _ _ v w' (h4 x H' hR hle) hS
 | callp d f args =>
  cases hrun with
  | callp x h1 h2=>exact QZ (fst:=[]) (caps:=[]) hs hok rfl (by simpa using h1) fun v w' hS=>hn _ _ v w' h2 hS
 | callvp d g args =>
  cases hrun with
  | callvp f fst caps x h0 h1 h2=>exact QZ hs hok h0 h1 fun v w' hS=>hn _ _ v w' h2 hS
 | nx d x =>
  cases hrun with
  | nx j i n seen es h1 h2 h3 h4 h5 h6 =>
   simp only[tF]at hok
   split at hok
   case h_2=>cases hok
   rename_i y ho
   simp only[Bool.and_eq_true,beq_iff_eq,decide_eq_true_eq]at hok
   obtain⟨⟨hd,hN⟩,hx⟩:=hok
   exact AdA hs hd hN ho hx h1 h2 h3 h4 (fun hk v w' hS=>hn _ _ v w' (h5 hk) hS) fun k p hp hk v w' hS=>hn _ _ v w' (h6 k p hp hk) hS
 | nl d ne x =>
  cases hrun with
  | nl els h1 h2 =>
   simp only[tF]at hok
   split at hok
   case h_2=>cases hok
   rename_i op ty y ty2 ho
   simp only[Bool.and_eq_true,beq_iff_eq,decide_eq_true_eq,Option.isSome_iff_exists]at hok
   obtain⟨⟨⟨⟨hd,hN⟩,rfl⟩,⟨e,he⟩⟩,hx⟩:=hok
   obtain⟨c,hc,hdo⟩:=Ab7 (P:=P) hs hd hN ho (PT he) hx h1
   exact hdo.wp fun v w' hS=>hn _ _ v w' (h2 c hc) hS
 | gd=>cases hok
 | alt=>cases hok
def VM:I->Bool
 | .noz .. | .kt .. | .kk .. | .non .. | .ono .. | .ks .. | .rnon .. | .rono .. | .frz .. | .e2r .. | .frc ..=>true
 | _=>false
def okG (N:Nat):I->Bool
 | .noz .. | .non .. | .ono .. | .rnon .. | .rono .. | .frz .. | .e2r .. | .frc ..=>true
 | .ks _ l=>l.all fun n=>decide (n<N)
 | .kt l=>l.all fun n=>decide (n<N)
 | .kk _ l=>l.all fun n=>decide (n<N)
 | _=>false
def VZ (P:Program)(N:Nat)(ops:Array Oper)(n:Nat)(b:Bool):List Nat->List S->List Nat->Bool
 | [],[],[]=>true
 | ds,s::l,j::js=>match ops[j]? with
  | some o=>tF P N o s&&(match o.guard with | some (k,b')=>b'==b&&((ops[k]?).bind (·.dst))==some n | none=>false)&&(match o.dst with
   | some d=>(match ds with | d'::ds'=>d==d'&&decide (d≠n)&&decide (d<N)&&VZ P N ops n b ds' l js | []=>false)
   | none=>VZ P N ops n b ds l js)
  | none=>false
 | _,_,_=>false
def Vt (P:Program)(N:Nat)(ops:Array Oper):List S->List Nat->Bool
 | [],js=>js.isEmpty
 | .gd x b ds g::l,js=>(match x with | .s n=>VZ P N ops n b ds g (js.take g.length) | _=>false)&&decide (g.length<=js.length)&&Vt P N ops l (js.drop g.length)
 | .op i::l,js=>if VM i then okG N i&&Vt P N ops l js else match js with
  | j::js=>(match ops[j]? with | some o=>o.guard.isNone&&wB P N o i | none=>false)&&Vt P N ops l js
  | []=>false
 | s::l,j::js=>(match ops[j]? with | some o=>o.guard.isNone&&tF P N o s | none=>false)&&Vt P N ops l js
 | _,_=>false
theorem ey {B:Nat}(hB:c0.H.length<=B){i:I}{t' H'}(hg:okG N i=true)(he:AB B i t H=some (t',H'))(hs:Sm c0 N D t H a w):Sm c0 N D t' H' a w:=by
 cases i<;>simp only[okG,Bool.false_eq_true]at hg<;>simp only[AB]at he
 case non d e sz =>
  split at he
  case h_2=>cases he
  rename_i h
  cases he
  exact kj hs h
 case ono e sz k x =>
  split at he
  case h_2=>cases he
  rename_i i off h1
  split at he
  case h_2=>cases he
  rename_i e' cs h2
  split at he
  case h_2=>cases he
  rename_i h3
  cases he
  exact AbW hs h2 h3
 case rnon d e sz =>
  split at he
  case h_2=>cases he
  rename_i h
  cases he
  exact xw hs h
 case rono e sz k x =>
  split at he
  case h_2=>cases he
  rename_i i off h1
  split at he
  case h_2=>cases he
  rename_i e' cs h2
  split at he
  case h_2=>cases he
  rename_i h3
  cases he
  exact wC hs h2 h3
 case frz d =>
  split at he
  case h_2=>cases he
  rename_i i z n h1
  split at he
  case h_2=>cases he
  rename_i e sz els h2
  split at he
  case isFalse=>cases he
  rename_i h3
  cases he
  exact Acd hs h1 h2 h3
 case noz d e sz =>
  split at he
  ·rename_i h1;cases he;exact kj hs h1
  ·cases he;exact hs
  ·cases he
 case e2r d =>
  split at he
  case h_2=>cases he
  rename_i i z h1
  split at he
  case h_2=>cases he
  rename_i e sz h2
  split at he
  case isFalse=>cases he
  rename_i h3
  cases he
  subst h3
  exact AbY hs h1 h2
 case frc k x =>
  split at he
  case h_2=>cases he
  rename_i i off h1
  split at he
  case h_2=>cases he
  rename_i e cs h2
  split at he
  case h_3=>cases he
  case h_2=>cases he;exact hs
  rename_i j z n h3
  split at he
  case h_2=>cases he
  rename_i e' sz els h4
  split at he
  case isFalse=>cases he
  rename_i h5
  cases he
  exact Abh hs h2 h3 h4 h5
 case kt l =>
  cases he
  exact AdV hs fun n hn=>by
   have:=List.all_eq_true.1 hg n hn
   simpa using this
 case kk rs l =>
  split at he
  case h_2=>cases he
  rename_i js hj
  split at he
  case isFalse=>cases he
  rename_i hb
  cases he
  simp only[kkB,Bool.and_eq_true,decide_eq_true_eq,List.all_eq_true]at hb
  exact Adl hb.1 hb.2 (fun i hi=>by
   have hiB:i<B:=by omega
   rw[List.getElem?_append_left (by rw[List.length_range];exact hiB),List.getElem?_range hiB]) hs fun n hn=>by
   have:=List.all_eq_true.1 hg n hn
   simpa using this
 case ks m l =>
  cases he
  exact AdN (B:=B) (by omega) hs fun n hn=>by
   have:=List.all_eq_true.1 hg n hn
   simpa using this
theorem Q1 {ops:Array Oper}{i:Nat}{js:List Nat}{o:Oper}(ho:ops[i]?=some o)(h:if Region.wanted o (yielded ops a.tmps) then dL P o a w (Gy P ops Q js) else Gy P ops Q js (a.put o.dst undef) w):Gy P ops Q (i::js) a w:=by
 unfold Gy Pl
 simp only[ho]
 exact h
theorem PX {ops:Array Oper}{o:Oper}(h:o.guard=none)(tm:Array Value):Region.wanted o (yielded ops tm)=true:=by simp[Region.wanted,h]
theorem GE {ops:Array Oper}{k n:Nat}{tm:Array Value}{v:Value}(hk:(ops[k]?).bind (·.dst)=some n)(hn:tm[n]?=some v):yielded ops tm k=(match v with | .bool b=>some b | _=>none):=by
 unfold yielded
 rw[hk]
 simp only[Option.bind_some,hn]
 cases v<;>rfl
theorem XA {d:Option Nat}{n:Nat}{v:Value}(h:d≠some n):(a.put d v).tmps[n]?=a.tmps[n]?:=by
 cases d with
 | none=>rfl
 | some d =>
  simp only[Act.put]
  exact Array.getElem?_setIfInBounds_ne (fun e=>h (by rw[e]))
theorem bQ {t':T}(hs:Sm c0 N D t H a w)(h:∀ s x,find t' s=some x->find t s=some x):Sm c0 N D t' H a w:=by
 obtain⟨q1,q2,c,h3,h4,h5,h6,h7⟩:=hs
 exact⟨q1,q2,c,h3,h4,h5,h6,fun s x hx=>h7 s x (h s x hx)⟩
theorem fQ {d:Nat}(hs:Sm c0 N D t H a w)(hd:d<N):Sm c0 N D ((d,.tup [])::t) H (a.put (some d) undef) w :=
 Xq hs hd fun c _ _ _ _=>⟨#[],rfl,rfl⟩
theorem Vb {ops:Array Oper}{n:Nat}{b:Bool}{nd:Nat->C}{B:Nat}{l:List S}{k:List K}{QX:X->T->List Ob->Prop}{js2:List Nat} :
  ∀ (g:List S)(js:List Nat)(ds:List Nat)(t:T)(H:List Ob)(a:Act)(w:World),VZ P N ops n b ds g js=true->Ax P nd B (.r (g++l)::k) t H QX->Sm c0 N D t H a w->a.tmps[n]?=some (.bool b) ->
   (∀ t' H' a' w',Ax P nd B (.r l::k) t' H' QX->Sm c0 N D t' H' a' w'->Gy P ops Q js2 a' w')->Gy P ops Q (js++js2) a w
 | [],[],_,t,H,a,w,_,hr,hs,_,hn=>hn t H a w hr hs
 | [],_::_,ds,t,H,a,w,hk,_,_,_,_=>by cases ds<;>simp[VZ]at hk
 | s::g,[],ds,t,H,a,w,hk,_,_,_,_=>by cases ds<;>simp[VZ]at hk
 | s::g,j::js,ds,t,H,a,w,hk,hr,hs,hv,hn=>by
  simp only[VZ]at hk
  split at hk
  case h_2=>cases hk
  rename_i o ho
  simp only[Bool.and_eq_true]at hk
  obtain⟨⟨hk1,hk2⟩,hk3⟩:=hk
  split at hk2
  case h_2=>cases hk2
  rename_i k' b' hg
  simp only[Bool.and_eq_true,beq_iff_eq]at hk2
  obtain⟨rfl,hkn⟩:=hk2
  have hw:Region.wanted o (yielded ops a.tmps)=true:=by
   simp[Region.wanted,hg,GE hkn hv]
  refine Q1 ho ?_
  rw[if_pos hw]
  refine kF hs hk1 hr fun t' H' v w' hr' hs'=>?_
  split at hk3
  ·rename_i d hd
   split at hk3
   case h_2=>cases hk3
   rename_i d' ds'
   simp only[Bool.and_eq_true,beq_iff_eq,decide_eq_true_eq]at hk3
   obtain⟨⟨⟨rfl,hne⟩,hdN⟩,hk4⟩:=hk3
   exact Vb g js ds' t' H' _ w' hk4 hr' hs' (by rw[hd,XA (by simpa using hne)];exact hv) hn
  ·rename_i hd
   exact Vb g js ds t' H' _ w' hk3 hr' hs' (by rw[hd];exact hv) hn
theorem WK {ops:Array Oper}{n:Nat}{b:Bool}{js2:List Nat}{u:Value}(hu:∀ k,(ops[k]?).bind (·.dst)=some n->∀ tm:Array Value,tm[n]?=some u->yielded ops tm k≠some b) :
  ∀ (g:List S)(js:List Nat)(ds:List Nat)(t:T)(H:List Ob)(a:Act)(w:World),VZ P N ops n b ds g js=true->Sm c0 N D t H a w->a.tmps[n]?=some u ->
   (∀ t' a',(∀ s x,find (ds.map (fun d=>(d,V.tup []))++t) s=some x->find t' s=some x)->Sm c0 N D t' H a' w->Gy P ops Q js2 a' w)->Gy P ops Q (js++js2) a w
 | [],[],ds,t,H,a,w,hk,hs,_,hn=>by
  cases ds with
  | nil=>exact hn t a (fun s x h=>h) hs
  | cons d ds=>simp[VZ]at hk
 | [],_::_,ds,t,H,a,w,hk,_,_,_=>by cases ds<;>simp[VZ]at hk
 | s::g,[],ds,t,H,a,w,hk,_,_,_=>by cases ds<;>simp[VZ]at hk
 | s::g,j::js,ds,t,H,a,w,hk,hs,hv,hn=>by
  simp only[VZ]at hk
  split at hk
  case h_2=>cases hk
  rename_i o ho
  simp only[Bool.and_eq_true]at hk
  obtain⟨⟨hk1,hk2⟩,hk3⟩:=hk
  split at hk2
  case h_2=>cases hk2
  rename_i k' b' hg
  simp only[Bool.and_eq_true,beq_iff_eq]at hk2
  obtain⟨rfl,hkn⟩:=hk2
  have hw:Region.wanted o (yielded ops a.tmps)=false:=by
   simp only[Region.wanted,hg,beq_eq_false_iff_ne]
   exact hu k' hkn _ hv
  refine Q1 ho ?_
  rw[if_neg (by rw[hw];simp)]
  split at hk3
  ·rename_i d hd
   split at hk3
   case h_2=>cases hk3
   rename_i d' ds'
   simp only[Bool.and_eq_true,beq_iff_eq,decide_eq_true_eq]at hk3
   obtain⟨⟨⟨rfl,hne⟩,hdN⟩,hk4⟩:=hk3
   rw[hd]
   refine WK hu g js ds' ((d,.tup [])::t) H _ w hk4 (fQ hs hdN) (by rw[XA (by simpa using hne)];exact hv) fun t' a' h=>hn t' a' fun s x hx=>h s x ?_
   have key:∀ (l:List Nat),find ((l.map fun d=>(d,V.tup []))++((d,V.tup [])::t)) s=find ((d,V.tup [])::((l.map fun d=>(d,V.tup []))++t)) s:=by
    intro l
    induction l with
    | nil=>rfl
    | cons e l ih =>
     simp only[List.map_cons,List.cons_append,find]at ih ⊢
     by_cases e1:e=s<;>by_cases e2:d=s<;>simp_all
   rw[key]
   exact hx
  ·rename_i hd
   rw[hd]
   exact WK hu g js ds t H _ w hk3 hs hv hn
theorem R0 {n:Nat}{x:V}(hs:Sm c0 N D t H a w)(h:find t n=some x):∃ v,a.tmps[n]?=some v/\∃ c,c.w=w/\c.H=H/\BI c x v:=by
 obtain⟨q1,q2,c,h3,h4,h5,h6,h7⟩:=hs
 obtain⟨h8,h9⟩:=h7 n x h
 have hlt:n<a.tmps.size:=by omega
 refine⟨a.tmps[n],Array.getElem?_eq_getElem hlt,c,h3,h4,?_⟩
 simpa[Array.getD_eq_getD_getElem?,Array.getElem?_eq_getElem hlt]using h9
theorem Rc {n:Nat}{x:V}(h:lk t n=x)(hx:x≠.any):find t n=some x:=by
 unfold lk at h
 cases hf:find t n with
 | none=>rw[hf]at h;exact absurd h.symm hx
 | some y=>rw[hf]at h;exact congrArg some h
theorem af {ops:Array Oper}{nd:Nat->C}{B:Nat}(hB:c0.H.length<=B){k:List K}{QX:X->T->List Ob->Prop}(hn:∀ t' H' a' w',Ax P nd B k t' H' QX->Sm c0 N D t' H' a' w'->Q a' w') :
  ∀ (l:List S)(js:List Nat)(t:T)(H:List Ob)(a:Act)(w:World),Vt P N ops l js=true->Ax P nd B (.r l::k) t H QX->Sm c0 N D t H a w->Gy P ops Q js a w:=by
 intro l
 induction l with
 | nil =>
  intro js t H a w hk hr hs
  have:js=[]:=by simpa[Vt]using hk
  subst this
  cases hr with
  | rend hr=>exact hn t H a w hr hs
 | cons s l ih =>
  intro js t H a w hk hr hs
  have single:∀ s,tF P N=tF P N->(∀ j js',js=j::js'->(match ops[j]? with | some o=>o.guard.isNone&&tF P N o s | none=>false)=true->Vt P N ops l js'=true->Ax P nd B (.r (s::l)::k) t H QX->Gy P ops Q js a w):=by
   intro s _ j js' e h1 h2 h3
   subst e
   split at h1
   case h_2=>cases h1
   rename_i o ho
   simp only[Bool.and_eq_true,Option.isNone_iff_eq_none]at h1
   refine Q1 ho ?_
   rw[if_pos (PX h1.1 _)]
   exact kF hs h1.2 h3 fun t' H' v w' hr' hs'=>ih js' t' H' _ w' h2 hr' hs'
  cases s with
  | op i =>
   simp only[Vt]at hk
   by_cases hg:VM i=true
   ·simp only[hg,if_true,Bool.and_eq_true]at hk
    cases hr with
    | op t' H' he hr=>exact ih js t' H' a w hk.2 hr (ey hB hk.1 he hs)
   ·simp only[hg,Bool.false_eq_true,if_false]at hk
    cases js with
    | nil=>cases hk
    | cons j js =>
     simp only[Bool.and_eq_true]at hk
     exact single (.op i) rfl j js rfl hk.1 hk.2 hr
  | call d f args =>
   cases js with
   | nil=>simp[Vt]at hk
   | cons j js=>simp only[Vt,Bool.and_eq_true]at hk;exact single _ rfl j js rfl hk.1 hk.2 hr
  | callv d f args =>
   cases js with
   | nil=>simp[Vt]at hk
   | cons j js=>simp only[Vt,Bool.and_eq_true]at hk;exact single _ rfl j js rfl hk.1 hk.2 hr
  | callp d f args =>
   cases js with
   | nil=>simp[Vt]at hk
   | cons j js=>simp only[Vt,Bool.and_eq_true]at hk;exact single _ rfl j js rfl hk.1 hk.2 hr
  | callvp d f args =>
   cases js with
   | nil=>simp[Vt]at hk
   | cons j js=>simp only[Vt,Bool.and_eq_true]at hk;exact single _ rfl j js rfl hk.1 hk.2 hr
  | nx d x =>
   cases js with
   | nil=>simp[Vt]at hk
   | cons j js=>simp only[Vt,Bool.and_eq_true]at hk;exact single _ rfl j js rfl hk.1 hk.2 hr
  | nl d ne x =>
   cases js with
   | nil=>simp[Vt]at hk
   | cons j js=>simp only[Vt,Bool.and_eq_true]at hk;exact single _ rfl j js rfl hk.1 hk.2 hr
  | alt ls =>
   cases js with
   | nil=>simp[Vt]at hk
   | cons j js =>
    simp only[Vt,tF]at hk
    split at hk<;>simp at hk
  | gd x b ds g =>
   simp only[Vt,Bool.and_eq_true,decide_eq_true_eq]at hk
   obtain⟨⟨hk1,hk2⟩,hk3⟩:=hk
   split at hk1
   case h_2=>cases hk1
   rename_i n
   rw[<-List.take_append_drop g.length js]
   cases hr with
   | gd c hx hr =>
    have hf:=Rc hx (by simp)
    obtain⟨v,hv,c',hw',hH',hrep⟩:=R0 hs hf
    have hrep':v=.bool c:=hrep
    subst hrep'
    by_cases hcb:c=b
    ·subst hcb
     simp only[if_true]at hr
     exact Vb g _ ds t H a w hk1 hr hs hv fun t' H' a' w' hr' hs'=>ih _ t' H' a' w' hk3 hr' hs'
    ·simp only[hcb,if_false,List.nil_append]at hr
     refine WK (u:=.bool c) (fun k hk tm htm=>by rw[GE hk htm];simpa using hcb) g _ ds t H a w hk1 hs hv fun t' a' hf' hs'=>?_
     exact ih _ _ H a' w hk3 hr (bQ hs' hf')
   | gdU hx hr =>
    have hf:=Rc hx (by simp)
    obtain⟨v,hv,c',hw',hH',hrep⟩:=R0 hs hf
    obtain⟨vs,hrep',hvs⟩:=hrep
    subst hrep'
    refine WK (u:=.tuple vs) (fun k hk tm htm=>by rw[GE hk htm];simp) g _ ds t H a w hk1 hs hv fun t' a' hf' hs'=>?_
    exact ih _ _ H a' w hk3 hr (bQ hs' hf')
end
end Go.Dw
end
section
namespace Go.Dw
def AG:Option (Nat×V)->T->T
 | some p,t=>p::t
 | none,t=>t
def Qc:O->List Nat
 | .s n=>[n]
 | _=>[]
def AaW:Option O->List Nat
 | some x=>Qc x
 | none=>[]
def rdP:List (Nat×Nat×O)->List Nat
 | []=>[]
 | (_,_,x)::l=>Qc x++rdP l
def kI:List O->List Nat
 | []=>[]
 | x::l=>Qc x++kI l
def U9:I->List Nat
 | .mv _ x | .bx _ _ x | .br _ _ x | .ldr _ x | .lar _ _ x | .far _ _ x | .ld _ x | .la _ _ x | .fa _ _ x | .nc _ x | .fd _ _ _ x | .un _ _ x | .cvi _ _ x | .cvs _ x | .s2b _ x | .b2s _ x | .len _ x | .lens _ x | .ex _ x _=>Qc x
 | .pick _ c a b=>Qc c++Qc a++Qc b
 | .al .. | .mkm ..=>[]
 | .mk _ _ _ _ _ x=>Qc x
 | .rg _ x | .en _ x=>Qc x
 | .lkp _ _ _ _ m k=>Qc m++Qc k
 | .lnm _ m=>Qc m
 | .lkq _ _ _ _ m k=>Qc m++Qc k
 | .iaa _ _ _ x i=>Qc x++Qc i
 | .mup _ m k x=>Qc m++Qc k++Qc x
 | .muq _ m k x=>Qc m++Qc k++Qc x
 | .eqs _ _ _ x y=>Qc x++Qc y
 | .apz _ _ _ _ k y=>k::Qc y
 | .sf d _ x=>d::Qc x
 | .st _ a x=>Qc a++Qc x
 | .bd _ _ ps=>rdP ps
 | .bs _ _ xs | .bo _ _ _ xs=>kI xs
 | .bin _ _ x y | .bb _ _ x y | .sh _ _ x y | .ia _ _ x y | .ix _ x y | .ixa _ _ _ _ x y | .app _ _ _ _ x y | .apr _ _ _ _ x y | .mx _ x y | .mn _ x y=>Qc x++Qc y
 | .mf _ _ f c=>kI f++kI c
 | .sx _ _ x lo hi | .sxs _ x lo hi=>Qc x++AaW lo++AaW hi
 | .noz .. | .kt .. | .kk .. | .non .. | .ono .. | .ks .. | .rnon .. | .rono .. | .frz .. | .e2r .. | .frc ..=>[]
def AaP:I->Option Nat
 | .mv d _ | .bx d _ _ | .br d _ _ | .ldr d _ | .lar d _ _ | .far d _ _ | .ld d _ | .la d _ _ | .fa d _ _ | .nc d _ | .fd d _ _ _ | .un d _ _ | .cvi d _ _ | .cvs d _ | .s2b d _ | .b2s d _ | .len d _ | .lens d _ | .ex d _ _
 | .pick d _ _ _ | .al d _ _ | .sf d _ _ | .bd d _ _ | .bs d _ _ | .bo d _ _ _ | .bin d _ _ _ | .bb d _ _ _ | .sh d _ _ _ | .ia d _ _ _ | .ix d _ _ | .ixa d _ _ _ _ _ | .app d _ _ _ _ _ | .apr d _ _ _ _ _ | .mx d _ _ | .mn d _ _
 | .mk d _ _ _ _ _ | .mkm d | .rg d _ | .en d _ | .lkp d _ _ _ _ _ | .lnm d _ | .lkq d _ _ _ _ _ | .iaa d _ _ _ _ | .eqs d _ _ _ _ | .apz d _ _ _ _ _=>some d
 | .mup .. | .muq ..=>none
 | .mf d _ _ _ | .sx d _ _ _ _ | .sxs d _ _ _=>some d
 | .st ..=>none
 | .noz .. | .kt .. | .kk .. | .non .. | .ono .. | .ks .. | .rnon .. | .rono .. | .frz .. | .e2r .. | .frc ..=>none
def Vk:I->Bool
 | .ldr .. | .lar .. | .far .. | .mv .. | .br .. | .fd .. | .un .. | .cvi .. | .cvs .. | .s2b .. | .b2s .. | .len .. | .lens .. | .ex .. | .pick .. | .bd .. | .bs .. | .bin .. | .eqs .. | .bb .. | .sh .. | .ia .. | .ix .. | .ixa .. | .mx .. | .mn .. | .mf .. | .sx .. | .sxs ..=>true
 | _=>false
def gT:I->Bool
 | .ld .. | .la .. | .fa .. | .nc .. | .lkp .. | .lnm .. | .lkq .. | .iaa ..=>true
 | i=>Vk i
def tQ:I->Bool
 | .fa .. | .nc ..=>true
 | _=>false
def fO:I->Bool
 | .st .. | .app .. | .apr ..=>true
 | _=>false
def Z2:I->Bool
 | .al .. | .bx .. | .mkm .. | .mk .. | .bo ..=>true
 | _=>false
def AaB:I->Bool
 | .app ..=>true
 | _=>false
theorem AV {t t2:T}{x:O}(h:∀ n∈Qc x,lk t n=lk t2 n):ev t2 x=ev t x:=by
 cases x<;>simp only[Qc,ev,List.mem_singleton]at h ⊢
 exact (h _ rfl).symm
theorem OO {t t2:T}:∀ {xs:List O},(∀ n∈kI xs,lk t n=lk t2 n)->xs.map (ev t2)=xs.map (ev t)
 | [],_=>rfl
 | x::xs,h=>by
  simp only[List.map_cons]
  rw[AV fun n hn=>h n (by simp only[kI,List.mem_append];exact .inl hn),OO fun n hn=>h n (by simp only[kI,List.mem_append];exact .inr hn)]
theorem WM {t t2:T}:∀ {x:Option O},(∀ n∈AaW x,lk t n=lk t2 n)->x.map (ev t2)=x.map (ev t)
 | none,_=>rfl
 | some x,h=>by simp only[Option.map_some];rw[AV h]
theorem pO {t t2:T}:∀ {ps:List (Nat×Nat×O)} {z:List V},(∀ n∈rdP ps,lk t n=lk t2 n)->ti t2 ps z=ti t ps z
 | [],_,_=>rfl
 | (o,k,x)::ps,z,h=>by
  simp only[ti]
  rw[AV fun n hn=>h n (by simp only[rdP,List.mem_append];exact .inl hn)]
  split
  ·split
   ·exact pO fun n hn=>h n (by simp only[rdP,List.mem_append];exact .inr hn)
   ·rfl
  ·rfl
theorem jk {t t2:T}{sz:Nat}:∀ {xs:List O},(∀ n∈kI xs,lk t n=lk t2 n)->ij t2 sz xs=ij t sz xs
 | [],_=>rfl
 | x::xs,h=>by
  simp only[ij]
  rw[AV fun n hn=>h n (by simp only[kI,List.mem_append];exact .inl hn),jk fun n hn=>h n (by simp only[kI,List.mem_append];exact .inr hn)]
theorem Hb {d:Nat}{o:Option V}{t t':T}{H H':List Ob}(h:B4 d o t H=some (t',H')):∃ v,o=some v/\t'=(d,v)::t/\H'=H:=by
 unfold B4 at h
 split at h
 ·cases h;exact⟨_,rfl,rfl,rfl⟩
 ·cases h
theorem lD {B:Nat}{i:I}{t t':T}{H H':List Ob}(hg:VM i=false)(h:AB B i t H=some (t',H')) :
  ∃ b:Option (Nat×V),t'=AG b t/\b.map (·.1)=AaP i/\∀ B2 t2,(∀ n∈U9 i,lk t n=lk t2 n)->AB B2 i t2 H=some (AG b t2,H'):=by
 cases i<;>simp only[VM,Bool.true_eq_false,reduceCtorEq]at hg<;>simp only[AB]at h
 case mv=>cases h;exact⟨some _,rfl,rfl,fun B2 t2 hag=>by simp only[AB,AV hag,AG]⟩
 case al=>cases h;exact⟨some _,rfl,rfl,fun B2 t2 hag=>by simp only[AB,AG]⟩
 case mf =>
  cases h
  refine⟨some _,rfl,rfl,fun B2 t2 hag=>?_⟩
  simp only[U9,List.mem_append]at hag
  simp only[AB,OO fun n hn=>hag n (.inl hn),OO fun n hn=>hag n (.inr hn),AG]
 case mkm=>cases h;exact⟨some _,rfl,rfl,fun B2 t2 hag=>by simp only[AB,AG]⟩
 case mk d e sz bytes z x =>
  split at h
  case h_2=>cases h
  rename_i k n hev
  split at h
  case isFalse=>cases h
  rename_i hc
  cases h
  refine⟨some _,rfl,rfl,fun B2 t2 hag=>?_⟩
  simp only[U9]at hag
  simp only[AB,AV hag,hev,if_pos hc,AG]
 case rg d m =>
  split at h
  case h_2=>cases h
  rename_i i hi
  split at h
  case h_2=>cases h
  rename_i es hes
  cases h
  exact⟨some _,rfl,rfl,fun B2 t2 hag=>by simp only[AB,AV hag,hi,hes,AG]⟩
 case mup ks m k x =>
  split at h
  case h_2=>cases h
  rename_i i hi
  split at h
  case h_2=>cases h
  rename_i es hes
  split at h
  case isFalse=>cases h
  rename_i hks
  split at h
  case h_2=>cases h
  rename_i es' hu
  cases h
  refine⟨none,rfl,rfl,fun B2 t2 hag=>?_⟩
  simp only[U9,List.mem_append]at hag
  simp only[AB,AV fun n hn=>hag n (.inl (.inl hn)),AV fun n hn=>hag n (.inl (.inr hn)),AV fun n hn=>hag n (.inr hn),hi,hes,hks,if_true,hu,AG]
 case muq sh m k x =>
  split at h
  case h_2=>cases h
  rename_i i hi
  split at h
  case h_2=>cases h
  rename_i es hes
  split at h
  case isFalse=>cases h
  rename_i hks
  split at h
  case h_2=>cases h
  rename_i es' hu
  cases h
  refine⟨none,rfl,rfl,fun B2 t2 hag=>?_⟩
  simp only[U9,List.mem_append]at hag
  simp only[AB,AV fun n hn=>hag n (.inl (.inl hn)),AV fun n hn=>hag n (.inl (.inr hn)),AV fun n hn=>hag n (.inr hn),hi,hes,hks,if_true,hu,AG]
 case bx =>
  split at h
  ·rename_i cs hc;cases h;exact⟨some _,rfl,rfl,fun B2 t2 hag=>by simp only[AB,AV hag,hc,AG]⟩
  ·cases h
 case br =>
  split at h
  ·rename_i cs hc;cases h;exact⟨some _,rfl,rfl,fun B2 t2 hag=>by simp only[AB,AV hag,hc,AG]⟩
  ·cases h
 case cvi =>
  split at h
  ·rename_i cs hc;cases h;exact⟨some _,rfl,rfl,fun B2 t2 hag=>by simp only[AB,AV hag,hc,AG]⟩
  ·cases h
 case cvs =>
  split at h
  ·rename_i cs hc;cases h;exact⟨some _,rfl,rfl,fun B2 t2 hag=>by simp only[AB,AV hag,hc,AG]⟩
  ·cases h
 case s2b =>
  split at h
  ·rename_i cs hc
   split at h
   ·rename_i hl;cases h;exact⟨some _,rfl,rfl,fun B2 t2 hag=>by simp only[AB,AV hag,hc,AG,hl,if_true]⟩
   ·cases h
  ·cases h
 case b2s =>
  split at h
  ·rename_i cs hc
   split at h
   ·rename_i l hl;cases h;exact⟨some _,rfl,rfl,fun B2 t2 hag=>by simp only[AB,AV hag,hc,AG,hl]⟩
   ·cases h
  ·cases h
 case pick =>
  split at h
  ·rename_i c hc
   cases h
   refine⟨some _,rfl,rfl,fun B2 t2 hag=>?_⟩
   simp only[U9,List.mem_append]at hag
   simp only[AB,AV fun n hn=>hag n (.inl (.inl hn)),AV fun n hn=>hag n (.inl (.inr hn)),AV fun n hn=>hag n (.inr hn),hc,AG]
  ·cases h
 case sf d k x =>
  split at h
  case h_2=>cases h
  rename_i i hp
  split at h
  case h_2=>cases h
  rename_i e cs hH
  split at h
  case h_2=>cases h
  rename_i new hn
  split at h
  case isFalse=>cases h
  rename_i hl
  cases h
  refine⟨some _,rfl,rfl,fun B2 t2 hag=>?_⟩
  simp only[U9,List.mem_cons]at hag
  simp only[AB,<-hag d (.inl rfl),AV fun n hn=>hag n (.inr hn),hp,hH,hn,hl,and_self,if_true,AG]
 case st k x y =>
  split at h
  case h_3=>cases h
  case h_2 =>
   rename_i i n j off hp
   split at h
   case h_2=>cases h
   rename_i e sz els hH
   split at h
   case h_2=>cases h
   rename_i new hn
   split at h
   case isFalse=>cases h
   rename_i hl
   cases h
   refine⟨none,rfl,rfl,fun B2 t2 hag=>?_⟩
   simp only[U9,List.mem_append]at hag
   simp only[AB,AV fun n hn=>hag n (.inl hn),AV fun n hn=>hag n (.inr hn),hp,hH,hn]
   rw[if_pos hl];rfl
  rename_i i off hp
  split at h
  case h_2=>cases h
  rename_i e cs hH
  split at h
  case h_2=>cases h
  rename_i new hn
  split at h
  case isFalse=>cases h
  rename_i hl
  cases h
  refine⟨none,rfl,rfl,fun B2 t2 hag=>?_⟩
  simp only[U9,List.mem_append]at hag
  simp only[AB,AV fun n hn=>hag n (.inl hn),AV fun n hn=>hag n (.inr hn),hp,hH,hn,hl,and_self,if_true,AG]
 case bo =>
  split at h
  ·rename_i els hc;cases h;exact⟨some _,rfl,rfl,fun B2 t2 hag=>by simp only[AB,jk hag,hc,AG]⟩
  ·cases h
 case app =>
  obtain⟨v,H2,hr,rfl,rfl⟩:=DV h
  refine⟨some _,rfl,rfl,fun B2 t2 hag=>?_⟩
  simp only[U9,List.mem_append]at hag
  simp only[AB,AV fun n hn=>hag n (.inl hn),AV fun n hn=>hag n (.inr hn),hr,AG,Qg]
 case apz d e sz bytes k y =>
  split at h
  ·rename_i hk
   obtain⟨v,H2,hr,rfl,rfl⟩:=DV h
   refine⟨some _,rfl,rfl,fun B2 t2 hag=>?_⟩
   simp only[U9]at hag
   simp only[AB,<-hag k List.mem_cons_self,hk,AV fun n hn=>hag n (List.mem_cons_of_mem _ hn),hr,AG,Qg]
  ·rename_i i0 z0 l0 hk
   obtain⟨v,H2,hr,rfl,rfl⟩:=DV h
   refine⟨some _,rfl,rfl,fun B2 t2 hag=>?_⟩
   simp only[U9]at hag
   rw[hk]at hr
   simp only[AB,<-hag k List.mem_cons_self,hk,AV fun n hn=>hag n (List.mem_cons_of_mem _ hn),hr,AG,Qg]
  ·cases h
 case apr =>
  obtain⟨v,H2,hr,rfl,rfl⟩:=DV h
  refine⟨some _,rfl,rfl,fun B2 t2 hag=>?_⟩
  simp only[U9,List.mem_append]at hag
  simp only[AB,AV fun n hn=>hag n (.inl hn),AV fun n hn=>hag n (.inr hn),hr,AG,Qg]
 case mx =>
  split at h
  case h_2=>cases h
  rename_i h1 h2
  split at h
  case isFalse=>cases h
  rename_i hk
  cases h
  refine⟨some _,rfl,rfl,fun B2 t2 hag=>?_⟩
  simp only[U9,List.mem_append]at hag
  simp only[AB,AV fun n hn=>hag n (.inl hn),AV fun n hn=>hag n (.inr hn),h1,h2,hk,if_true,AG]
 case mn =>
  split at h
  case h_2=>cases h
  rename_i h1 h2
  split at h
  case isFalse=>cases h
  rename_i hk
  cases h
  refine⟨some _,rfl,rfl,fun B2 t2 hag=>?_⟩
  simp only[U9,List.mem_append]at hag
  simp only[AB,AV fun n hn=>hag n (.inl hn),AV fun n hn=>hag n (.inr hn),h1,h2,hk,if_true,AG]
 all_goals
  obtain⟨v,hv,rfl,rfl⟩:=Hb h
  refine⟨some _,rfl,rfl,fun B2 t2 hag=>?_⟩
 case ldr=>simp only[AB,AV hag,hv,B4,AG]
 case lar=>simp only[AB,AV hag,hv,B4,AG]
 case far=>simp only[AB,AV hag,hv,B4,AG]
 case ld=>simp only[AB,AV hag,hv,B4,AG]
 case en=>simp only[AB,AV hag,hv,B4,AG]
 case lkp=>simp only[U9,List.mem_append]at hag;simp only[AB,AV fun n hn=>hag n (.inl hn),AV fun n hn=>hag n (.inr hn),hv,B4,AG]
 case lnm=>simp only[AB,AV hag,hv,B4,AG]
 case lkq=>simp only[U9,List.mem_append]at hag;simp only[AB,AV fun n hn=>hag n (.inl hn),AV fun n hn=>hag n (.inr hn),hv,B4,AG]
 case iaa=>simp only[U9,List.mem_append]at hag;simp only[AB,AV fun n hn=>hag n (.inl hn),AV fun n hn=>hag n (.inr hn),hv,B4,AG]
 case la=>simp only[AB,AV hag,hv,B4,AG]
 case fa=>simp only[AB,AV hag,hv,B4,AG]
 case nc=>simp only[AB,AV hag,hv,B4,AG]
 case fd=>simp only[AB,AV hag,hv,B4,AG]
 case un=>simp only[AB,AV hag,hv,B4,AG]
 case len=>simp only[AB,AV hag,hv,B4,AG]
 case lens=>simp only[AB,AV hag,hv,B4,AG]
 case ex=>simp only[AB,AV hag,hv,B4,AG]
 case bd=>simp only[AB,pO hag,hv,B4,AG]
 case bs=>simp only[AB,jk hag,hv,B4,AG]
 case bin=>simp only[U9,List.mem_append]at hag;simp only[AB,AV fun n hn=>hag n (.inl hn),AV fun n hn=>hag n (.inr hn),hv,B4,AG]
 case eqs=>simp only[U9,List.mem_append]at hag;simp only[AB,AV fun n hn=>hag n (.inl hn),AV fun n hn=>hag n (.inr hn),hv,B4,AG]
 case bb=>simp only[U9,List.mem_append]at hag;simp only[AB,AV fun n hn=>hag n (.inl hn),AV fun n hn=>hag n (.inr hn),hv,B4,AG]
 case sh=>simp only[U9,List.mem_append]at hag;simp only[AB,AV fun n hn=>hag n (.inl hn),AV fun n hn=>hag n (.inr hn),hv,B4,AG]
 case ia=>simp only[U9,List.mem_append]at hag;simp only[AB,AV fun n hn=>hag n (.inl hn),AV fun n hn=>hag n (.inr hn),hv,B4,AG]
 case ix=>simp only[U9,List.mem_append]at hag;simp only[AB,AV fun n hn=>hag n (.inl hn),AV fun n hn=>hag n (.inr hn),hv,B4,AG]
 case ixa=>simp only[U9,List.mem_append]at hag;simp only[AB,AV fun n hn=>hag n (.inl hn),AV fun n hn=>hag n (.inr hn),hv,B4,AG]
 case sx=>simp only[U9,List.mem_append]at hag;simp only[AB,AV fun n hn=>hag n (.inl (.inl hn)),WM fun n hn=>hag n (.inl (.inr hn)),WM fun n hn=>hag n (.inr hn),hv,B4,AG]
 case sxs=>simp only[U9,List.mem_append]at hag;simp only[AB,AV fun n hn=>hag n (.inl (.inl hn)),WM fun n hn=>hag n (.inl (.inr hn)),WM fun n hn=>hag n (.inr hn),hv,B4,AG]
theorem Lw {B:Nat}{i:I}{t t':T}{H H':List Ob}(hp:Vk i=true)(h:AB B i t H=some (t',H')):H'=H/\∀ H2,AB B i t H2=some (t',H2):=by
 cases i<;>simp only[Vk,Bool.false_eq_true]at hp<;>simp only[AB]at h ⊢
 all_goals first
  | (cases h;exact⟨rfl,fun _=>rfl⟩)
  | (obtain⟨v,hv,rfl,rfl⟩:=Hb h;exact⟨rfl,fun _=>by simp only[hv,B4]⟩)
  | (repeat' split at h)
 all_goals first
  | (cases h;done)
  | (cases h;exact⟨rfl,fun _=>by simp only[*,if_true,if_false,Bool.false_eq_true]⟩)
  | skip
theorem Gm {H:List Ob}{i:Nat}{o:Ob}(h:H[i]?=some o)(os:List Ob):(H++os)[i]?=some o:=by
 rw[List.getElem?_append_left (List.getElem?_eq_some_iff.1 h).1];exact h
theorem aR {B:Nat}{i:I}{t t':T}{H H':List Ob}(hp:gT i=true)(h:AB B i t H=some (t',H')):H'=H/\∀ os,AB B i t (H++os)=some (t',H++os):=by
 by_cases hp':Vk i=true
 ·exact⟨(Lw hp' h).1,fun os=>(Lw hp' h).2 _⟩
 cases i<;>simp only[gT,Vk,not_true_eq_false]at hp hp'<;>simp only[AB]at h ⊢<;>first | cases hp;done | skip
 case ld d x =>
  obtain⟨v,hv,rfl,rfl⟩:=Hb h
  refine⟨rfl,fun os=>?_⟩
  have:aB (H'++os) (ev t x)=some v:=by
   unfold aB at hv ⊢
   split at hv
   ·exact hv
   ·split at hv
    ·rename_i hh;simp only[Gm hh];exact hv
    ·cases hv
   ·split at hv
    ·rename_i hh;simp only[Gm hh];exact hv
    ·cases hv
   ·cases hv
  simp only[this,B4]
 case la d k x =>
  obtain⟨v,hv,rfl,rfl⟩:=Hb h
  refine⟨rfl,fun os=>?_⟩
  have:aW k (H'++os) (ev t x)=some v:=by
   unfold aW at hv ⊢
   split at hv
   ·exact hv
   ·split at hv
    ·rename_i hh;simp only[Gm hh];exact hv
    ·cases hv
   ·split at hv
    ·rename_i hh;simp only[Gm hh];exact hv
    ·cases hv
   ·cases hv
  simp only[this,B4]
 case lkp d ks ok z m k =>
  obtain⟨v,hv,rfl,rfl⟩:=Hb h
  refine⟨rfl,fun os=>?_⟩
  have key:∀ m es,DI H' m=some es->DI (H'++os) m=some es:=fun m es hm=>by
   unfold DI at hm ⊢
   split at hm
   ·exact hm
   ·split at hm
    ·rename_i hh;simp only[Gm hh];exact hm
    ·cases hm
   ·cases hm
  have:M8 (H'++os) ks ok z (ev t m) (ev t k)=some v:=by
   unfold M8 at hv ⊢
   split at hv
   case isFalse=>cases hv
   rename_i h1
   rw[if_pos h1]
   split at hv
   case h_2=>cases hv
   rename_i es hes
   rw[key _ _ hes]
   exact hv
  simp only[this,B4]
 case lkq d sh ok z m k =>
  obtain⟨v,hv,rfl,rfl⟩:=Hb h
  refine⟨rfl,fun os=>?_⟩
  have key:∀ m es,DI H' m=some es->DI (H'++os) m=some es:=fun m es hm=>by
   unfold DI at hm ⊢
   split at hm
   ·exact hm
   ·split at hm
    ·rename_i hh;simp only[Gm hh];exact hm
    ·cases hm
   ·cases hm
  have:Rv (H'++os) sh ok z (ev t m) (ev t k)=some v:=by
   unfold Rv at hv ⊢
   split at hv
   case isFalse=>cases hv
   rename_i h1
   rw[if_pos h1]
   split at hv
   case h_2=>cases hv
   rename_i es hes
   rw[key _ _ hes]
   exact hv
  simp only[this,B4]
 case lnm d m =>
  obtain⟨v,hv,rfl,rfl⟩:=Hb h
  refine⟨rfl,fun os=>?_⟩
  have key:∀ m es,DI H' m=some es->DI (H'++os) m=some es:=fun m es hm=>by
   unfold DI at hm ⊢
   split at hm
   ·exact hm
   ·split at hm
    ·rename_i hh;simp only[Gm hh];exact hm
    ·cases hm
   ·cases hm
  have:W3 (H'++os) (ev t m)=some v:=by
   unfold W3 at hv ⊢
   rw[Option.map_eq_some_iff]at hv ⊢
   obtain⟨es,h1,h2⟩:=hv
   exact⟨es,key _ _ h1,h2⟩
  simp only[this,B4]
 case iaa d sz n x i =>
  obtain⟨v,hv,rfl,rfl⟩:=Hb h
  refine⟨rfl,fun os=>?_⟩
  have key:∀ k x v,Ua k H' x=some v->Ua k (H'++os) x=some v:=fun k x v hv=>by
   unfold Ua at hv ⊢
   split at hv
   ·exact hv
   ·split at hv
    ·rename_i hh;simp only[Gm hh];exact hv
    ·cases hv
   ·exact hv
   ·cases hv
  have:cz (H'++os) sz n (ev t x) (ev t i)=some v:=by
   unfold cz at hv ⊢
   cases hi:ev t i with
   | int k m =>
    rw[hi]at hv
    simp only at hv ⊢
    split at hv
    ·rename_i hh;rw[if_pos hh];exact key _ _ _ hv
    ·cases hv
   | _=>rw[hi]at hv;cases hv
  simp only[this,B4]
 case fa d k x =>
  obtain⟨v,hv,rfl,rfl⟩:=Hb h
  refine⟨rfl,fun os=>?_⟩
  have:Ua k (H'++os) (ev t x)=some v:=by
   unfold Ua at hv ⊢
   split at hv
   ·exact hv
   ·split at hv
    ·rename_i hh;simp only[Gm hh];exact hv
    ·cases hv
   ·exact hv
   ·cases hv
  simp only[this,B4]
 case nc d x =>
  obtain⟨v,hv,rfl,rfl⟩:=Hb h
  refine⟨rfl,fun os=>?_⟩
  have:lg (H'++os) (ev t x)=some v:=by
   unfold lg at hv ⊢
   split at hv
   ·exact hv
   ·split at hv
    ·rename_i hh;simp only[Gm hh];exact hv
    ·cases hv
   ·exact hv
   ·cases hv
  simp only[this,B4]
theorem mW {H:List Ob}{i j:Nat}{e:Nat}{cs:List V}{o:Ob}(hi:H[i]?=some (.cells e cs)){e2:Nat}{c2:List V}(hj:H[j]?=some (.cells e2 c2)){c3:List V}:∃ c4,(H.set j (.cells e2 c3))[i]?=some (.cells e c4):=by
 by_cases e1:j=i
 ·subst e1
  rw[hi]at hj;cases hj
  exact⟨c3,by simp[(List.getElem?_eq_some_iff.1 hi).1]⟩
 ·exact⟨cs,by rw[List.getElem?_set_ne e1];exact hi⟩
def aG (H H':List Ob):Prop:=∀ (i e:Nat)(cs:List V),H[i]?=some (Ob.cells e cs)->∃ c2:List V,H'[i]?=some (Ob.cells e c2)
theorem nj {B:Nat}{i:I}{t t':T}{H H':List Ob}(hp:fO i=true)(h:AB B i t H=some (t',H')):aG H H':=by
 cases i<;>simp only[fO,Bool.false_eq_true]at hp<;>simp only[AB]at h
 case st k x y =>
  split at h
  case h_3=>cases h
  case h_2 =>
   rename_i i n j off hp
   split at h
   case h_2=>cases h
   rename_i e sz els hH
   split at h
   case h_2=>cases h
   split at h
   case isFalse=>cases h
   cases h
   intro i2 e cs hi
   refine⟨cs,?_⟩
   rw[List.getElem?_set_ne]
   ·exact hi
   ·intro e1
    subst e1
    rw[hi]at hH;cases hH
  rename_i i off hp
  split at h
  case h_2=>cases h
  rename_i e cs hH
  split at h
  case h_2=>cases h
  rename_i new hn
  split at h
  case isFalse=>cases h
  cases h
  intro i e cs hi
  exact mW (o:=.dead) hi hH
 case app d e sz bytes x y =>
  obtain⟨v,H2,hr,rfl,rfl⟩:=DV h
  unfold Px at hr
  repeat' split at hr
  all_goals first | (cases hr;done) | skip
  all_goals
   cases hr
   rename_i hH _
   intro i e cs hi
   refine⟨cs,?_⟩
   rw[List.getElem?_set_ne]
   ·exact hi
   ·intro e1
    subst e1
    simp_all
 case apr d e sz bytes x y =>
  obtain⟨v,H2,hr,rfl,rfl⟩:=DV h
  unfold gH at hr
  repeat' split at hr
  all_goals first | (cases hr;done) | skip
  all_goals
   cases hr
   rename_i hH _
   intro i e cs hi
   refine⟨cs,?_⟩
   rw[List.getElem?_set_ne]
   ·exact hi
   ·intro e1
    subst e1
    simp_all
theorem bq {B:Nat}{i:I}{t t':T}{H H':List Ob}(hp:tQ i=true)(h:AB B i t H=some (t',H')):H'=H/\∀ H2,aG H H2->AB B i t H2=some (t',H2):=by
 cases i<;>simp only[tQ,Bool.false_eq_true]at hp<;>simp only[AB]at h ⊢
 case fa d k x =>
  obtain⟨v,hv,rfl,rfl⟩:=Hb h
  refine⟨rfl,fun H2 hst=>?_⟩
  have:Ua k H2 (ev t x)=some v:=by
   unfold Ua at hv ⊢
   split at hv
   ·exact hv
   ·split at hv
    ·rename_i hh
     obtain⟨c2,hh2⟩:=hst _ _ _ hh
     simp only[hh2];exact hv
    ·cases hv
   ·exact hv
   ·cases hv
  simp only[this,B4]
 case nc d x =>
  obtain⟨v,hv,rfl,rfl⟩:=Hb h
  refine⟨rfl,fun H2 hst=>?_⟩
  have:lg H2 (ev t x)=some v:=by
   unfold lg at hv ⊢
   split at hv
   ·exact hv
   ·split at hv
    ·rename_i hh
     obtain⟨c2,hh2⟩:=hst _ _ _ hh
     simp only[hh2];exact hv
    ·cases hv
   ·exact hv
   ·cases hv
  simp only[this,B4]
theorem iV {B:Nat}{i:I}{t t':T}{H H':List Ob}(hp:Z2 i=true)(h:AB B i t H=some (t',H')):∃ os,H'=H++os:=by
 cases i<;>simp only[Z2,Bool.false_eq_true]at hp<;>simp only[AB]at h
 case al=>cases h;exact⟨_,rfl⟩
 case mkm=>cases h;exact⟨_,rfl⟩
 case mk =>
  split at h
  ·split at h
   ·cases h;exact⟨_,rfl⟩
   ·cases h
  ·cases h
 case bo =>
  split at h
  ·cases h;exact⟨_,rfl⟩
  ·cases h
 case bx =>
  split at h
  ·cases h;exact⟨_,rfl⟩
  ·cases h
theorem gg {B:Nat}{i:I}{t t':T}{H os:List Ob}(hp:Z2 i=true)(h:AB B i t H=some (t',H++os)):∀ H2:List Ob,H2.length=H.length->AB B i t H2=some (t',H2++os):=by
 intro H2 hl
 cases i<;>simp only[Z2,Bool.false_eq_true]at hp<;>simp only[AB]at h ⊢
 case al=>simp only[Option.some.injEq,Prod.mk.injEq,List.append_cancel_left_eq]at h;rw[hl,h.1,h.2]
 case mkm=>simp only[Option.some.injEq,Prod.mk.injEq,List.append_cancel_left_eq]at h;rw[hl,h.1,h.2]
 case mk =>
  split at h
  ·split at h
   ·rename_i hc
    simp only[Option.some.injEq,Prod.mk.injEq,List.append_cancel_left_eq]at h;rw[if_pos hc,hl,h.1,h.2]
   ·cases h
  ·cases h
 case bo =>
  split at h
  ·simp only[Option.some.injEq,Prod.mk.injEq,List.append_cancel_left_eq]at h;rw[hl,h.1,h.2]
  ·cases h
 case bx =>
  split at h
  ·simp only[Option.some.injEq,Prod.mk.injEq,List.append_cancel_left_eq]at h;rw[hl,h.1,h.2]
  ·cases h
theorem Wu {H:List Ob}{i:Nat}{o o':Ob}(h:H[i]?=some o)(os:List Ob):(H++os).set i o'=H.set i o'++os:=by
 have hl:=(List.getElem?_eq_some_iff.1 h).1
 rw[List.set_append_left _ _ hl]
theorem YD {B:Nat}{i:I}{t t':T}{H H':List Ob}(hp:fO i=true)(h:AB B i t H=some (t',H')):H'.length=H.length/\∀ os,AB B i t (H++os)=some (t',H'++os):=by
 cases i<;>simp only[fO,Bool.false_eq_true]at hp<;>simp only[AB]at h ⊢
 case st k x y =>
  split at h
  case h_3=>cases h
  case h_2 =>
   rename_i i n j off hp
   split at h
   case h_2=>cases h
   rename_i e sz els hH
   split at h
   case h_2=>cases h
   rename_i new hn
   split at h
   case isFalse=>cases h
   rename_i hl
   cases h
   refine⟨by simp,fun os=>?_⟩
   simp only[hp,Gm hH,hn]
   rw[if_pos hl,Wu hH]
  rename_i i off hp
  split at h
  case h_2=>cases h
  rename_i e cs hH
  split at h
  case h_2=>cases h
  rename_i new hn
  split at h
  case isFalse=>cases h
  rename_i hl
  cases h
  refine⟨by simp,fun os=>?_⟩
  simp only[hp,Gm hH,hn]
  rw[if_pos hl,Wu hH]
 case app d e sz bytes x y =>
  obtain⟨v,H2,hr,rfl,rfl⟩:=DV h
  unfold Px at hr
  split at hr
  case h_2=>cases hr
  rename_i i sz1 els new hp hq
  split at hr
  case h_2=>cases hr
  rename_i e' sz' n hH
  split at hr
  case isFalse=>cases hr
  rename_i hc
  cases hr
  refine⟨by simp,fun os=>?_⟩
  simp only[Px,hp,hq,Gm hH]
  rw[if_pos hc]
  simp only[Wu hH,Qg]
 case apr d e sz bytes x y =>
  obtain⟨v,H2,hr,rfl,rfl⟩:=DV h
  unfold gH at hr
  split at hr
  case h_2=>cases hr
  rename_i i z0 n new hp hq
  split at hr
  case h_2=>cases hr
  rename_i e' sz' els hH
  split at hr
  case isFalse=>cases hr
  rename_i hc
  cases hr
  refine⟨by simp,fun os=>?_⟩
  simp only[gH,hp,hq,Gm hH]
  rw[if_pos hc]
  simp only[Wu hH,Qg]
def Qf (H H2:List Ob):Prop:=∃ j e sz n n',H[j]?=some (.arr e sz n)/\H2=H.set j (.arr e sz n')
theorem Qf.symm {H H2:List Ob}(h:Qf H H2):Qf H2 H:=by
 obtain⟨j,e,sz,n,n',h1,rfl⟩:=h
 obtain⟨hl,he⟩:=List.getElem?_eq_some_iff.1 h1
 refine⟨j,e,sz,n',n,by simp[hl],?_⟩
 apply List.ext_getElem?
 intro i
 rw[List.getElem?_set,List.getElem?_set]
 by_cases e1:j=i
 ·subst e1;simp[hl,he]
 ·simp[e1]
theorem Qf.get {H H2:List Ob}(h:Qf H H2){i:Nat}{o:Ob}(hi:H[i]?=some o)(ho:∀ e sz n,o≠.arr e sz n):H2[i]?=some o:=by
 obtain⟨j,e,sz,n,n',h1,rfl⟩:=h
 rw[List.getElem?_set_ne]
 ·exact hi
 ·intro e1;subst e1;rw[hi]at h1;cases h1;exact ho _ _ _ rfl
theorem pH {B:Nat}{i:I}{t t':T}{H H':List Ob}(hp:AaB i=true)(h:AB B i t H=some (t',H')):Qf H H':=by
 cases i<;>simp only[AaB,Bool.false_eq_true]at hp
 simp only[AB]at h
 obtain⟨v,H2,hr,rfl,rfl⟩:=DV h
 unfold Px at hr
 split at hr
 case h_2=>cases hr
 rename_i i sz1 els new hp hq
 split at hr
 case h_2=>cases hr
 rename_i e' sz' n hH
 split at hr
 case isFalse=>cases hr
 rename_i hc
 obtain⟨rfl,rfl,rfl,hc2⟩:=hc
 cases hr
 exact⟨_,_,_,_,_,hH,rfl⟩
theorem RJ {B:Nat}{i:I}{t t':T}{H H':List Ob}(hp:gT i=true)(h:AB B i t H=some (t',H')):H'=H/\∀ H2,Qf H H2->AB B i t H2=some (t',H2):=by
 by_cases hp':Vk i=true
 ·exact⟨(Lw hp' h).1,fun H2 _=>(Lw hp' h).2 _⟩
 cases i<;>simp only[gT,Vk,not_true_eq_false]at hp hp'<;>simp only[AB]at h ⊢<;>first | cases hp;done | skip
 all_goals
  obtain⟨v,hv,rfl,rfl⟩:=Hb h
  refine⟨rfl,fun H2 ha=>?_⟩
 case ld d x =>
  have:aB H2 (ev t x)=some v:=by
   unfold aB at hv ⊢
   split at hv
   ·exact hv
   ·split at hv
    ·rename_i hh;simp only[ha.get hh (by simp)];exact hv
    ·cases hv
   ·split at hv
    ·rename_i hh;simp only[ha.get hh (by simp)];exact hv
    ·cases hv
   ·cases hv
  simp only[this,B4]
 case la d k x =>
  have:aW k H2 (ev t x)=some v:=by
   unfold aW at hv ⊢
   split at hv
   ·exact hv
   ·split at hv
    ·rename_i hh;simp only[ha.get hh (by simp)];exact hv
    ·cases hv
   ·split at hv
    ·rename_i hh;simp only[ha.get hh (by simp)];exact hv
    ·cases hv
   ·cases hv
  simp only[this,B4]
 case lkp d ks ok z m k =>
  have key:∀ m es,DI H' m=some es->DI H2 m=some es:=fun m es hm=>by
   unfold DI at hm ⊢
   split at hm
   ·exact hm
   ·split at hm
    ·rename_i hh;simp only[ha.get hh (by simp)];exact hm
    ·cases hm
   ·cases hm
  have:M8 H2 ks ok z (ev t m) (ev t k)=some v:=by
   unfold M8 at hv ⊢
   split at hv
   case isFalse=>cases hv
   rename_i h1
   rw[if_pos h1]
   split at hv
   case h_2=>cases hv
   rename_i es hes
   rw[key _ _ hes]
   exact hv
  simp only[this,B4]
 case lkq d sh ok z m k =>
  have key:∀ m es,DI H' m=some es->DI H2 m=some es:=fun m es hm=>by
   unfold DI at hm ⊢
   split at hm
   ·exact hm
   ·split at hm
    ·rename_i hh;simp only[ha.get hh (by simp)];exact hm
    ·cases hm
   ·cases hm
  have:Rv H2 sh ok z (ev t m) (ev t k)=some v:=by
   unfold Rv at hv ⊢
   split at hv
   case isFalse=>cases hv
   rename_i h1
   rw[if_pos h1]
   split at hv
   case h_2=>cases hv
   rename_i es hes
   rw[key _ _ hes]
   exact hv
  simp only[this,B4]
 case lnm d m =>
  have key:∀ m es,DI H' m=some es->DI H2 m=some es:=fun m es hm=>by
   unfold DI at hm ⊢
   split at hm
   ·exact hm
   ·split at hm
    ·rename_i hh;simp only[ha.get hh (by simp)];exact hm
    ·cases hm
   ·cases hm
  have:W3 H2 (ev t m)=some v:=by
   unfold W3 at hv ⊢
   rw[Option.map_eq_some_iff]at hv ⊢
   obtain⟨es,h1,h2⟩:=hv
   exact⟨es,key _ _ h1,h2⟩
  simp only[this,B4]
 case iaa d sz n x i =>
  have key:∀ k x v,Ua k H' x=some v->Ua k H2 x=some v:=fun k x v hv=>by
   unfold Ua at hv ⊢
   split at hv
   ·exact hv
   ·split at hv
    ·rename_i hh;simp only[ha.get hh (by simp)];exact hv
    ·cases hv
   ·exact hv
   ·cases hv
  have:cz H2 sz n (ev t x) (ev t i)=some v:=by
   unfold cz at hv ⊢
   cases hi:ev t i with
   | int k m =>
    rw[hi]at hv
    simp only at hv ⊢
    split at hv
    ·rename_i hh;rw[if_pos hh];exact key _ _ _ hv
    ·cases hv
   | _=>rw[hi]at hv;cases hv
  simp only[this,B4]
 case fa d k x =>
  have:Ua k H2 (ev t x)=some v:=by
   unfold Ua at hv ⊢
   split at hv
   ·exact hv
   ·split at hv
    ·rename_i hh;simp only[ha.get hh (by simp)];exact hv
    ·cases hv
   ·exact hv
   ·cases hv
  simp only[this,B4]
 case nc d x =>
  have:lg H2 (ev t x)=some v:=by
   unfold lg at hv ⊢
   split at hv
   ·exact hv
   ·split at hv
    ·rename_i hh;simp only[ha.get hh (by simp)];exact hv
    ·cases hv
   ·exact hv
   ·cases hv
  simp only[this,B4]
structure E where
 g:Option (Nat×Bool)
 s:S
def rdB:S->List Nat
 | .op i=>U9 i
 | .callp _ _ args=>kI args
 | .callvp _ g args=>Qc g++kI args
 | .call _ _ args=>kI args
 | .callv _ g args=>Qc g++kI args
 | _=>[]
def RU:S->Option Nat
 | .op i=>AaP i
 | .callp d _ _=>d
 | .callvp d _ _=>d
 | .call d _ _=>d
 | .callv d _ _=>d
 | _=>none
def vo (e:E):List Nat:=match e.g with
 | some (n,_)=>n::rdB e.s
 | none=>rdB e.s
def XM (e:E):Bool:=match e.s with
 | .op i=>Vk i
 | .callp .. | .callvp ..=>true
 | _=>false
def RB (e:E):Bool:=match e.s with
 | .op i=>gT i
 | .callp .. | .callvp ..=>true
 | _=>false
def lW (e:E):Bool:=match e.s with
 | .op i=>tQ i
 | _=>false
def RE (e:E):Bool:=match e.s with
 | .op i=>fO i
 | _=>false
def QH (e:E):Bool:=match e.s with
 | .op i=>Z2 i
 | _=>false
def B8 (P:Program):S->T->List Ob->Option (Nat×V)->List Ob->Prop
 | .op i,t,H,b,H'=>VM i=false/\AB 0 i t H=some (AG b t,H')/\b.map (·.1)=AaP i
 | .callp d f args,t,H,b,H'=>H'=H/\∃ x,Spec P f (AS (fun _=>none) (args.map (ev t))) [] (fun x' H'=>x'=x/\H'=[])/\b=d.map (·,ren (fun _=>none) x)
 | .callvp d g args,t,H,b,H'=>H'=H/\∃ f fst caps x,ev t g=.fn (.func f) fst caps/\Spec P f (AS (fun _=>none) (fst++args.map (ev t)++caps)) [] (fun x' H'=>x'=x/\H'=[])/\b=d.map (·,ren (fun _=>none) x)
 | _,_,_,_,_=>False
def Pn (P:Program)(e:E)(t:T)(H:List Ob)(b:Option (Nat×V))(H':List Ob):Prop:=match e.g with
 | none=>B8 P e.s t H b H'
 | some (n,w)=>(lk t n=.bool w/\B8 P e.s t H b H')\/(((∃ c,lk t n=.bool c/\c≠w)\/lk t n=.tup [])/\H'=H/\b=(RU e.s).map (·,.tup []))
theorem oT {t:T}:∀ {b b':Option (Nat×V)},AG b t=AG b' t->b=b'
 | none,none,_=>rfl
 | none,some p,h=>absurd (congrArg List.length h) (by simp[AG])
 | some p,none,h=>absurd (congrArg List.length h) (by simp[AG])
 | some p,some q,h=>by simp only[AG,List.cons.injEq,and_true]at h;rw[h]
section
variable {P:Program} {t t2:T} {H H':List Ob} {b:Option (Nat × V)}
theorem eI {s:S}(h:B8 P s t H b H')(hag:∀ n∈rdB s,lk t n=lk t2 n):B8 P s t2 H b H':=by
 cases s<;>simp only[B8]at h ⊢
 case op i =>
  obtain⟨hg,h,hd⟩:=h
  obtain⟨b',e1,e2,e3⟩:=lD hg h
  cases oT e1
  exact⟨hg,e3 0 t2 hag,hd⟩
 case callp d f args =>
  obtain⟨rfl,x,h1,h2⟩:=h
  exact⟨rfl,x,by rw[OO hag];exact h1,h2⟩
 case callvp d g args =>
  simp only[rdB,List.mem_append]at hag
  obtain⟨rfl,f,fst,caps,x,h0,h1,h2⟩:=h
  exact⟨rfl,f,fst,caps,x,by rw[AV fun n hn=>hag n (.inl hn)];exact h0,by rw[OO fun n hn=>hag n (.inr hn)];exact h1,h2⟩
theorem cw {e:E}(h:Pn P e t H b H')(hag:∀ n∈vo e,lk t n=lk t2 n):Pn P e t2 H b H':=by
 unfold Pn at h ⊢
 unfold vo at hag
 cases hg:e.g with
 | none=>simp only[hg]at h hag ⊢;exact eI h hag
 | some g =>
  obtain⟨n,w⟩:=g
  simp only[hg]at h hag ⊢
  rw[hag n (by simp)]at h
  rcases h with ⟨h1,h2⟩ | h
  ·exact .inl ⟨h1,eI h2 fun m hm=>hag m (List.mem_cons_of_mem _ hm)⟩
  ·exact .inr h
theorem bv {s:S}(h:B8 P s t H b H'):b.map (·.1)=RU s:=by
 cases s<;>simp only[B8]at h
 case op i=>exact h.2.2
 case callp d f args=>obtain⟨_,x,_,h2⟩:=h;subst h2;cases d<;>rfl
 case callvp d g args=>obtain⟨_,f,fst,caps,x,_,_,h2⟩:=h;subst h2;cases d<;>rfl
theorem O9 {e:E}(h:Pn P e t H b H'):b.map (·.1)=RU e.s:=by
 unfold Pn at h
 split at h
 ·exact bv h
 ·rcases h with ⟨_,h⟩|⟨_,_,h⟩
  ·exact bv h
  ·subst h;cases RU e.s<;>rfl
theorem WW {e:E}(hp:XM e=true)(h:Pn P e t H b H'):H'=H/\∀ H2,Pn P e t H2 b H2:=by
 have key:B8 P e.s t H b H'->H'=H/\∀ H2,B8 P e.s t H2 b H2:=by
  unfold XM at hp
  intro h
  cases hs:e.s<;>simp only[hs,Bool.false_eq_true]at hp<;>simp only[hs,B8]at h ⊢
  case op i =>
   obtain⟨hg,h1,h2⟩:=h
   exact⟨(Lw hp h1).1,fun H2=>⟨hg,(Lw hp h1).2 H2,h2⟩⟩
  case callp=>exact⟨h.1,fun H2=>⟨trivial,h.2⟩⟩
  case callvp=>exact⟨h.1,fun H2=>⟨trivial,h.2⟩⟩
 unfold Pn at h ⊢
 split at h
 ·exact key h
 ·rcases h with ⟨h1,h⟩|⟨h1,h2,h3⟩
  ·exact⟨(key h).1,fun H2=>.inl ⟨h1,(key h).2 H2⟩⟩
  ·exact⟨h2,fun H2=>.inr ⟨h1,rfl,h3⟩⟩
theorem fg {e:E}(hp:RB e=true)(h:Pn P e t H b H'):H'=H/\∀ os,Pn P e t (H++os) b (H++os):=by
 have key:B8 P e.s t H b H'->H'=H/\∀ os,B8 P e.s t (H++os) b (H++os):=by
  unfold RB at hp
  intro h
  cases hs:e.s<;>simp only[hs,Bool.false_eq_true]at hp<;>simp only[hs,B8]at h ⊢
  case op i =>
   obtain⟨hg,h1,h2⟩:=h
   exact⟨(aR hp h1).1,fun os=>⟨hg,(aR hp h1).2 os,h2⟩⟩
  case callp=>exact⟨h.1,fun H2=>⟨trivial,h.2⟩⟩
  case callvp=>exact⟨h.1,fun H2=>⟨trivial,h.2⟩⟩
 unfold Pn at h ⊢
 split at h
 ·exact key h
 ·rcases h with ⟨h1,h⟩|⟨h1,h2,h3⟩
  ·exact⟨(key h).1,fun H2=>.inl ⟨h1,(key h).2 H2⟩⟩
  ·exact⟨h2,fun H2=>.inr ⟨h1,rfl,h3⟩⟩
theorem bI {e:E}(hp:QH e=true)(h:Pn P e t H b H'):∃ os,H'=H++os:=by
 have key:B8 P e.s t H b H'->∃ os,H'=H++os:=by
  unfold QH at hp
  intro h
  cases hs:e.s<;>simp only[hs,Bool.false_eq_true]at hp
  simp only[hs,B8]at h
  exact iV hp h.2.1
 unfold Pn at h
 split at h
 ·exact key h
 ·rcases h with ⟨h1,h⟩|⟨h1,h2,h3⟩
  ·exact key h
  ·exact⟨[],by simp[h2]⟩
theorem ux {e:E}(hp:lW e=true)(h:Pn P e t H b H'):H'=H/\∀ H2,aG H H2->Pn P e t H2 b H2:=by
 have key:B8 P e.s t H b H'->H'=H/\∀ H2,aG H H2->B8 P e.s t H2 b H2:=by
  unfold lW at hp
  intro h
  cases hs:e.s<;>simp only[hs,Bool.false_eq_true]at hp
  simp only[hs,B8]at h ⊢
  obtain⟨hg,h1,h2⟩:=h
  exact⟨(bq hp h1).1,fun H2 hst=>⟨hg,(bq hp h1).2 H2 hst,h2⟩⟩
 unfold Pn at h ⊢
 split at h
 ·exact key h
 ·rcases h with ⟨h1,h⟩|⟨h1,h2,h3⟩
  ·exact⟨(key h).1,fun H2 hst=>.inl ⟨h1,(key h).2 H2 hst⟩⟩
  ·exact⟨h2,fun H2 _=>.inr ⟨h1,rfl,h3⟩⟩
theorem sA {e:E}(hp:RE e=true)(h:Pn P e t H b H'):aG H H':=by
 have key:B8 P e.s t H b H'->aG H H':=by
  unfold RE at hp
  intro h
  cases hs:e.s<;>simp only[hs,Bool.false_eq_true]at hp
  simp only[hs,B8]at h
  exact nj hp h.2.1
 unfold Pn at h
 split at h
 ·exact key h
 ·rcases h with ⟨h1,h⟩|⟨h1,h2,h3⟩
  ·exact key h
  ·subst h2;exact fun i e cs hi=>⟨cs,hi⟩
theorem nr {e:E}(hp:RE e=true)(h:Pn P e t H b H'):H'.length=H.length/\∀ os,Pn P e t (H++os) b (H'++os):=by
 have key:B8 P e.s t H b H'->H'.length=H.length/\∀ os,B8 P e.s t (H++os) b (H'++os):=by
  unfold RE at hp
  intro h
  cases hs:e.s<;>simp only[hs,Bool.false_eq_true]at hp
  simp only[hs,B8]at h ⊢
  obtain⟨hg,h1,h2⟩:=h
  exact⟨(YD hp h1).1,fun os=>⟨hg,(YD hp h1).2 os,h2⟩⟩
 unfold Pn at h ⊢
 split at h
 ·exact key h
 ·rcases h with ⟨h1,h⟩|⟨h1,h2,h3⟩
  ·exact⟨(key h).1,fun os=>.inl ⟨h1,(key h).2 os⟩⟩
  ·exact⟨by rw[h2],fun os=>.inr ⟨h1,by rw[h2],h3⟩⟩
theorem jJ {e:E}{os:List Ob}(hp:QH e=true)(h:Pn P e t H b (H++os)):∀ H2:List Ob,H2.length=H.length->Pn P e t H2 b (H2++os):=by
 intro H2 hl
 have key:B8 P e.s t H b (H++os)->B8 P e.s t H2 b (H2++os):=by
  unfold QH at hp
  intro h
  cases hs:e.s<;>simp only[hs,Bool.false_eq_true]at hp
  simp only[hs,B8]at h ⊢
  obtain⟨hg,h1,h2⟩:=h
  exact⟨hg,gg hp h1 H2 hl,h2⟩
 unfold Pn at h ⊢
 split at h
 ·exact key h
 ·rcases h with ⟨h1,h⟩|⟨h1,h2,h3⟩
  ·exact .inl ⟨h1,key h⟩
  ·have:os=[]:=by simpa using h2
   subst this
   exact .inr ⟨h1,by simp,h3⟩
def oy (e:E):Bool:=match e.s with
 | .op i=>AaB i
 | _=>false
theorem lY {e:E}(hp:oy e=true)(h:Pn P e t H b H'):H'=H\/Qf H H':=by
 have key:B8 P e.s t H b H'->Qf H H':=by
  unfold oy at hp
  intro h
  cases hs:e.s<;>simp only[hs,Bool.false_eq_true]at hp
  simp only[hs,B8]at h
  exact pH hp h.2.1
 unfold Pn at h
 split at h
 ·exact .inr (key h)
 ·rcases h with ⟨h1,h⟩|⟨h1,h2,h3⟩
  ·exact .inr (key h)
  ·exact .inl h2
theorem SP {e:E}(hp:RB e=true)(h:Pn P e t H b H'):H'=H/\∀ H2,Qf H H2->Pn P e t H2 b H2:=by
 have key:B8 P e.s t H b H'->H'=H/\∀ H2,Qf H H2->B8 P e.s t H2 b H2:=by
  unfold RB at hp
  intro h
  cases hs:e.s<;>simp only[hs,Bool.false_eq_true]at hp<;>simp only[hs,B8]at h ⊢
  case op i =>
   obtain⟨hg,h1,h2⟩:=h
   exact⟨(RJ hp h1).1,fun H2 ha=>⟨hg,(RJ hp h1).2 H2 ha,h2⟩⟩
  case callp=>exact⟨h.1,fun H2 _=>⟨trivial,h.2⟩⟩
  case callvp=>exact⟨h.1,fun H2 _=>⟨trivial,h.2⟩⟩
 unfold Pn at h ⊢
 split at h
 ·exact key h
 ·rcases h with ⟨h1,h⟩|⟨h1,h2,h3⟩
  ·exact⟨(key h).1,fun H2 ha=>.inl ⟨h1,(key h).2 H2 ha⟩⟩
  ·exact⟨h2,fun H2 _=>.inr ⟨h1,rfl,h3⟩⟩
def cm (x y:E):Bool :=
 (match RU x.s with | some d=>!(vo y).contains d&&RU y.s != some d | none=>true)&&(match RU y.s with | some d=>!(vo x).contains d | none=>true)
def T7 (x y:E):Bool:=cm x y&&(XM x||XM y||(RB x&&(RB y||QH y))||(lW x&&RE y)||(RB x&&oy y)||(oy x&&RB y)||(RE x&&QH y))
theorem SN {b:Option (Nat×V)}{n:Nat}(h:b.map (·.1)≠some n):lk (AG b t) n=lk t n:=by
 cases b with
 | none=>rfl
 | some p =>
  obtain⟨d,v⟩:=p
  have:d≠n:=fun e=>h (by simp[e])
  simp[AG,lk,find,this]
theorem sv {x y:E}{bx bY:Option (Nat×V)}{H1 H2:List Ob}(hc:T7 x y=true)(hx:Pn P x t H bx H1)(hy:Pn P y (AG bx t) H1 bY H2) :
  ∃ H3,Pn P y t H bY H3/\Pn P x (AG bY t) H3 bx H2:=by
 simp only[T7,cm,Bool.and_eq_true]at hc
 obtain⟨⟨ha1,ha2⟩,hk⟩:=hc
 have hdx:=O9 hx
 have hdy:=O9 hy
 have agy:∀ n∈vo y,lk (AG bx t) n=lk t n:=fun n hn=>SN (by
  rw[hdx];intro e;rw[e]at ha1
  simp[hn]at ha1)
 have agx:∀ n∈vo x,lk t n=lk (AG bY t) n:=fun n hn=>(SN (by
  rw[hdy];intro e;rw[e]at ha2
  simp[hn]at ha2)).symm
 have hy':=cw hy agy
 have hx':=cw hx agx
 simp only[Bool.or_eq_true,Bool.and_eq_true]at hk
 rcases hk with (((((hk | hk) | ⟨hk,hk2⟩) | ⟨hk,hk2⟩) | ⟨hk,hk2⟩) | ⟨hk,hk2⟩) | ⟨hk,hk2⟩
 ·obtain⟨rfl,q⟩:=WW hk hx'
  exact⟨H2,hy',q H2⟩
 ·obtain⟨rfl,q⟩:=WW hk hy'
  exact⟨H,q H,hx'⟩
 ·obtain⟨rfl,q⟩:=fg hk hx'
  refine⟨H2,hy',?_⟩
  rcases hk2 with hk2 | hk2
  ·obtain⟨rfl,_⟩:=fg hk2 hy'
   exact hx'
  ·obtain⟨os,rfl⟩:=bI hk2 hy'
   exact q os
 ·obtain⟨rfl,q⟩:=ux hk hx'
  exact⟨H2,hy',q H2 (sA hk2 hy')⟩
 ·obtain⟨rfl,q⟩:=SP hk hx'
  rcases lY hk2 hy' with rfl | ha
  ·exact⟨H2,hy',hx'⟩
  ·exact⟨H2,hy',q H2 ha⟩
 ·obtain⟨rfl,q⟩:=SP hk2 hy'
  rcases lY hk hx' with rfl | ha
  ·exact⟨_,hy',hx'⟩
  ·exact⟨H,q H ha.symm,hx'⟩
 ·obtain⟨hl,q⟩:=nr hk hx'
  obtain⟨os,rfl⟩:=bI hk2 hy'
  exact⟨H++os,jJ hk2 hy' H hl.symm,q os⟩
theorem aA {x y:E}(hc:T7 x y=true){bx bY:Option (Nat×V)}(hx:bx.map (·.1)=RU x.s)(hy:bY.map (·.1)=RU y.s)(n:Nat):find (AG bY (AG bx t)) n=find (AG bx (AG bY t)) n:=by
 simp only[T7,cm,Bool.and_eq_true]at hc
 obtain⟨⟨ha1,_⟩,_⟩:=hc
 cases bx with
 | none=>rfl
 | some p =>
  cases bY with
  | none=>rfl
  | some q =>
   obtain⟨d,v⟩:=p
   obtain⟨d',v'⟩:=q
   simp only[Option.map_some]at hx hy
   rw[<-hx,<-hy]at ha1
   simp only[Bool.and_eq_true,bne_iff_ne,ne_eq,Option.some.injEq]at ha1
   have hne:d'≠d:=ha1.2
   simp only[AG,find]
   by_cases e1:d'=n<;>by_cases e2:d=n<;>simp_all
end
def ep (P:Program)(e:E)(t:T)(H:List Ob)(K:T->List Ob->Prop):Prop:=(∀ n w,e.g=some (n,w)->lk t n=.bool w)/\match e.s with
 | .call d f args=>(∃ (R:V->List Ob->Prop),Spec P f (args.map (ev t)) H R/\∀ x H',R x H'->K (FZ d x t) H')\/∃ (idx:List Nat) (R:V->List Ob->Prop),idx.Nodup/\(∀ i∈idx,i<H.length)/\Spec P f (AS (Az idx) (args.map (ev t))) (give idx H) R /\
   ∀ x H',R x H'->idx.length<=H'.length->K (FZ d (ren (C5 idx H.length) x) t) (takeB idx H H')
 | .callv d g args=>(∃ (F:Fn) (fst caps:List V) (R:V->List Ob->Prop),ev t g=.fn F fst caps/\((∃ f,F=.func f)\/caps=[])/\HC P F (fst++args.map (ev t)++caps) H R/\∀ x H',R x H'->K (FZ d x t) H')\/∃ (F:Fn) (fst caps:List V) (idx:List Nat) (R:V->List Ob->Prop),ev t g=.fn F fst caps/\((∃ f,F=.func f)\/caps=[])/\idx.Nodup/\(∀ i∈idx,i<H.length)/\HC P F (AS (Az idx) (fst++args.map (ev t)++caps)) (give idx H) R /\
   ∀ x H',R x H'->idx.length<=H'.length->K (FZ d (ren (C5 idx H.length) x) t) (takeB idx H H')
 | _=>False
def ZP (e:E):Bool:=match e.s with
 | .call .. | .callv ..=>true
 | _=>false
def dh (P:Program)(e:E)(t:T)(H:List Ob)(K:T->List Ob->Prop):Prop:=(∃ b H',Pn P e t H b H'/\K (AG b t) H')\/ep P e t H K
theorem Ib {d:Option Nat}{x:V}{t:T}:FZ d x t=AG (d.map (·,x)) t:=by cases d<;>rfl
theorem ep.ag {P:Program}{e:E}{t t2:T}{H:List Ob}{K K':T->List Ob->Prop}(h:ep P e t H K)(hag:∀ n∈vo e,lk t n=lk t2 n)(hk:∀ b H',b.map (·.1)=RU e.s->K (AG b t) H'->K' (AG b t2) H'):ep P e t2 H K':=by
 unfold ep at h ⊢
 obtain⟨hg,h⟩:=h
 refine⟨fun n w hgw=>by rw[<-hag n (by simp[vo,hgw])];exact hg n w hgw,?_⟩
 have hag:∀ n∈rdB e.s,lk t n=lk t2 n:=fun n hn=>hag n (by
  unfold vo
  split
  ·exact List.mem_cons_of_mem _ hn
  ·exact hn)
 cases hs:e.s<;>simp only[hs,rdB]at h hag ⊢
 case call d f args =>
  rcases h with ⟨R,h3,h4⟩ | h
  ·refine .inl ⟨R,by rw[OO hag];exact h3,fun x H' hR=>?_⟩
   have:=h4 x H' hR
   rw[Ib]at this ⊢
   exact hk _ _ (by rw[hs];cases d<;>rfl) this
  obtain⟨idx,R,h1,h2,h3,h4⟩:=h
  refine .inr ⟨idx,R,h1,h2,by rw[OO hag];exact h3,fun x H' hR hl=>?_⟩
  have:=h4 x H' hR hl
  rw[Ib]at this ⊢
  exact hk _ _ (by rw[hs];cases d<;>rfl) this
 case callv d g args =>
  simp only[List.mem_append]at hag
  rcases h with ⟨f,fst,caps,R,h0,hF,h3,h4⟩ | h
  ·refine .inl ⟨f,fst,caps,R,by rw[AV fun n hn=>hag n (.inl hn)];exact h0,hF,by rw[OO fun n hn=>hag n (.inr hn)];exact h3,fun x H' hR=>?_⟩
   have:=h4 x H' hR
   rw[Ib]at this ⊢
   exact hk _ _ (by rw[hs];cases d<;>rfl) this
  obtain⟨f,fst,caps,idx,R,h0,hF,h1,h2,h3,h4⟩:=h
  refine .inr ⟨f,fst,caps,idx,R,by rw[AV fun n hn=>hag n (.inl hn)];exact h0,hF,h1,h2,by rw[OO fun n hn=>hag n (.inr hn)];exact h3,fun x H' hR hl=>?_⟩
  have:=h4 x H' hR hl
  rw[Ib]at this ⊢
  exact hk _ _ (by rw[hs];cases d<;>rfl) this
 all_goals exact h.elim
theorem dh.ag {P:Program}{e:E}{t t2:T}{H:List Ob}{K K':T->List Ob->Prop}(h:dh P e t H K)(hag:∀ n∈vo e,lk t n=lk t2 n)(hk:∀ b H',b.map (·.1)=RU e.s->K (AG b t) H'->K' (AG b t2) H'):dh P e t2 H K':=by
 rcases h with ⟨b,H',h1,h2⟩ | h
 ·exact .inl ⟨b,H',cw h1 hag,hk b H' (O9 h1) h2⟩
 ·exact .inr (h.ag hag hk)
def fo (P:Program)(md:Region.Mode)(ops:Array Oper)(all:List (Nat×E))(Q:T->List Ob->Prop):Nat->Array Bool->T->List Ob->Prop
 | 0,listed,t,H=>Region.ready md ops listed=[]/\Q t H
 | n+1,listed,t,H=>(Region.ready md ops listed=[]->Q t H) /\
  ∀ i∈Region.ready md ops listed,∃ e,(i,e)∈all/\dh P e t H (fo P md ops all Q n (listed.setIfInBounds i true))
inductive vz (md:Region.Mode) (ops:Array Oper):Nat->Nat->Prop
 | dir {j o e}:ops[j]?=some o->e∈o.after->Region.binds md e=true->vz md ops j e.on
 | tr {j o e i}:ops[j]?=some o->e∈o.after->Region.binds md e=true->vz md ops e.on i->vz md ops j i
def Xn (md:Region.Mode)(ops:Array Oper)(listed:Array Bool):Prop:=∀ j o,ops[j]?=some o->listed.getD j false=true->∀ e∈o.after,Region.binds md e=true->listed.getD e.on false=true
theorem iN {md:Region.Mode}{ops:Array Oper}{listed:Array Bool}(hc:Xn md ops listed){j i:Nat}(h:vz md ops j i):(∀ o,ops[j]?=some o->∀ e∈o.after,Region.binds md e=true->listed.getD e.on false=true)->listed.getD i false=true:=by
 induction h with
 | dir ho he hb=>exact fun h=>h _ ho _ he hb
 | tr ho he hb _ ih=>exact fun h=>ih fun o ho' e he' hb'=>hc _ o ho' (h _ ho _ he hb) e he' hb'
theorem LY {md:Region.Mode}{ops:Array Oper}{listed:Array Bool}(hc:Xn md ops listed){i:Nat}(hr:i∈Region.ready md ops listed):Xn md ops (listed.setIfInBounds i true):=by
 intro j o ho hj e he hb
 refine getD_set_true ?_
 by_cases hji:i=j
 ·subst hji
  obtain⟨_,o',ho',hall⟩:=mem_ready.1 hr
  rw[ho]at ho';cases ho'
  exact hall e he hb
 ·rw[getD_set_ne false hji]at hj
  exact hc j o ho hj e he hb
section
variable {P:Program} {md:Region.Mode} {ops:Array Oper} {all:List (Nat × E)} {Q:T->List Ob->Prop}
theorem jh {t t2:T}(h:∀ n,find t n=find t2 n)(n:Nat):lk t n=lk t2 n:=by simp only[lk,h]
theorem jP {t t2:T}(h:∀ n,find t n=find t2 n)(b:Option (Nat×V))(n:Nat):find (AG b t) n=find (AG b t2) n:=by
 cases b with
 | none=>exact h n
 | some p=>obtain⟨d,v⟩:=p;simp only[AG,find,h]
theorem Ut (hQ:∀ t t2 H,(∀ n,find t n=find t2 n)->Q t H->Q t2 H):∀ (n:Nat)(listed:Array Bool)(t t2:T)(H:List Ob),(∀ n,find t n=find t2 n)->fo P md ops all Q n listed t H->fo P md ops all Q n listed t2 H
 | 0,_,_,_,_,hf,h=>⟨h.1,hQ _ _ _ hf h.2⟩
 | n+1,_,_,_,_,hf,h=>⟨fun h0=>hQ _ _ _ hf (h.1 h0),fun i hi=>by
  obtain⟨e,h1,h2⟩:=h.2 i hi
  exact⟨e,h1,h2.ag (fun n _=>jh hf n) fun b H' _ h3=>Ut hQ n _ _ _ _ (jP hf b) h3⟩⟩
theorem pm {listed:Array Bool}{t:T}{H:List Ob}(hr:Region.ready md ops listed=[])(h:Q t H):∀ n,fo P md ops all Q n listed t H
 | 0=>⟨hr,h⟩
 | _+1=>⟨fun _=>h,by rw[hr];simp⟩
theorem jq (hQ:∀ t t2 H,(∀ n,find t n=find t2 n)->Q t H->Q t2 H){i:Nat}{ei:E}(hi:(i,ei)∈all):∀ (fuel:Nat)(listed:Array Bool)(t:T)(H:List Ob) (b:Option (Nat×V)) (H1:List Ob),Xn md ops listed ->
  (∀ j oj ej,ops[j]?=some oj->(j,ej)∈all->j≠i->listed.getD j true=false->¬ vz md ops j i->T7 ei ej=true) ->
  i∈Region.ready md ops listed->Pn P ei t H b H1->fo P md ops all Q fuel (listed.setIfInBounds i true) (AG b t) H1->fo P md ops all Q (fuel+1) listed t H:=by
 intro fuel
 induction fuel with
 | zero =>
  intro listed t H b H1 _ _ hr hs HH
  refine⟨fun h=>(by rw[h]at hr;cases hr),fun j hj=>?_⟩
  by_cases hji:j=i
  ·subst hji;exact⟨ei,hi,.inl ⟨b,H1,hs,HH⟩⟩
  ·have:=ready_mono hj hji
   rw[HH.1]at this
   cases this
 | succ fuel ih =>
  intro listed t H b H1 hcl hfree hr hs HH
  refine⟨fun h=>(by rw[h]at hr;cases hr),fun j hj=>?_⟩
  by_cases hji:j=i
  ·subst hji;exact⟨ei,hi,.inl ⟨b,H1,hs,HH⟩⟩
  ·obtain⟨ej,hj1,hjW⟩:=HH.2 j (ready_mono hj hji)
   obtain⟨hjun,oj,hoj,hall⟩:=mem_ready.1 hj
   have hnot:¬ vz md ops j i:=fun ha=>by
    have h1:=iN hcl ha (fun o ho e he hb=>by rw[hoj]at ho;cases ho;exact hall e he hb)
    have h0:=(mem_ready.1 hr).1
    rcases Nat.lt_or_ge i listed.size with h' | h'
    ·simp[h']at h0 h1;rw[h0]at h1;cases h1
    ·simp[Array.getElem?_eq_none h']at h1
   have hcomm:=hfree j oj ej hoj hj1 hji hjun hnot
   have hfree':∀ k ok ek,ops[k]?=some ok->(k,ek)∈all->k≠i->(listed.setIfInBounds j true).getD k true=false->¬ vz md ops k i->T7 ei ek=true:=fun k ok ek hk hek hki hun hno=>by
    refine hfree k ok ek hk hek hki ?_ hno
    by_cases hjk:j=k
    ·subst hjk;exact hjun
    ·rw[getD_set_ne true hjk]at hun;exact hun
   refine⟨ej,hj1,?_⟩
   rcases hjW with ⟨bj,H2,hj2,hj3⟩ | hjW
   ·obtain⟨H3,q1,q2⟩:=sv hcomm hs hj2
    refine .inl ⟨bj,H3,q1,?_⟩
    refine ih (listed.setIfInBounds j true) (AG bj t) H3 b H2 (LY hcl hj) hfree' (ready_mono hr (Ne.symm hji)) q2 ?_
    rw[Array.setIfInBounds_comm _ _ hji]
    exact Ut hQ _ _ _ _ _ (aA hcomm (O9 hs) (O9 hj2)) hj3
   ·-- a call that touches own objects: what goes before it looks at none
    have hpure:XM ei=true:=by
     have hw:lW ei=true->RE ej=true->False:=fun _ hk=>by
      obtain⟨_,h⟩:=hjW
      unfold RE at hk
      split at hk
      ·rename_i hs;rw[hs]at h;exact h
      ·cases hk
     have hnp:XM ej=false/\RB ej=false/\QH ej=false/\RE ej=false/\oy ej=false:=by
      obtain⟨_,h⟩:=hjW
      unfold XM RB QH RE oy
      cases hs:ej.s<;>simp only[hs]at h ⊢<;>first | exact h.elim | simp
     simp only[T7,hnp.1,hnp.2.1,hnp.2.2.1,hnp.2.2.2.1,hnp.2.2.2.2,Bool.or_false,Bool.and_false,Bool.and_eq_true]at hcomm
     exact hcomm.2
    obtain⟨rfl,hsp⟩:=WW hpure hs
    have hap:=hcomm
    simp only[T7,cm,Bool.and_eq_true]at hap
    obtain⟨⟨ha1,ha2⟩,_⟩:=hap
    refine .inr (hjW.ag (fun n hn=>SN (by
     rw[O9 hs];intro e;rw[e]at ha1
     simp[hn]at ha1)) fun bj H' hbj hA=>?_)
    refine ih (listed.setIfInBounds j true) (AG bj t) H' b H' (LY hcl hj) hfree' (ready_mono hr (Ne.symm hji)) (cw (hsp H') fun n hn=>(SN (by
     rw[hbj];intro e;rw[e]at ha2
     simp[hn]at ha2)).symm) ?_
    rw[Array.setIfInBounds_comm _ _ hji]
    exact Ut hQ _ _ _ _ _ (aA hcomm (O9 hs) hbj) hA
end
def XN (acc:List Nat)(es:List Edge):Nat:=es.foldr (fun e s=>if Region.binds .any e then (2^e.on ||| acc.getD e.on 0) ||| s else s) 0
def AeQ (l:List Oper):List Nat:=l.foldl (fun acc o=>acc++[XN acc o.after.toList]) []
theorem So {acc:List Nat}{i:Nat}:∀ {es:List Edge},(XN acc es).testBit i=true->∃ e∈es,Region.binds .any e=true/\(e.on=i\/(acc.getD e.on 0).testBit i=true)
 | [],h=>by simp[XN]at h
 | e::es,h=>by
  simp only[XN,List.foldr_cons]at h
  by_cases hb:Region.binds .any e=true
  ·simp only[hb,if_true,Nat.testBit_or,Bool.or_eq_true,Nat.testBit_two_pow,decide_eq_true_eq]at h
   rcases h with (h | h) | h
   ·exact⟨e,by simp,hb,.inl h⟩
   ·exact⟨e,by simp,hb,.inr h⟩
   ·obtain⟨e',h1,h2⟩:=So (es:=es) h
    exact⟨e',List.mem_cons_of_mem _ h1,h2⟩
  ·simp only[hb]at h
   obtain⟨e',h1,h2⟩:=So (es:=es) h
   exact⟨e',List.mem_cons_of_mem _ h1,h2⟩
theorem Xx {ops:Array Oper}:∀ (l2:List Oper)(l1:List Oper)(acc:List Nat),ops.toList=l1++l2->acc.length=l1.length->(∀ j i,(acc.getD j 0).testBit i=true->vz .any ops j i) ->
  ∀ j i,((l2.foldl (fun acc o=>acc++[XN acc o.after.toList]) acc).getD j 0).testBit i=true->vz .any ops j i
 | [],_,_,_,_,h=>h
 | o::l2,l1,acc,ho,hl,h=>by
  simp only[List.foldl_cons]
  refine Xx l2 (l1++[o]) _ (by simp[ho]) (by simp[hl]) fun j i hb=>?_
  by_cases hj:j<acc.length
  ·rw[List.getD_eq_getElem?_getD,List.getElem?_append_left hj,<-List.getD_eq_getElem?_getD]at hb
   exact h j i hb
  ·by_cases hj2:j=acc.length
   ·subst hj2
    have hget:ops[acc.length]?=some o:=by
     rw[<-Array.getElem?_toList,ho,hl]
     simp
    simp only[List.getD_eq_getElem?_getD,List.getElem?_append_right (Nat.le_refl _),Nat.sub_self,List.getElem?_cons_zero,Option.getD_some]at hb
    obtain⟨e,h1,h2,h3⟩:=So hb
    have h1':e∈o.after:=by simpa using h1
    rcases h3 with rfl | h3
    ·exact .dir hget h1' h2
    ·exact .tr hget h1' h2 (h _ _ h3)
   ·rw[List.getD_eq_getElem?_getD,List.getElem?_eq_none (by simp;omega)]at hb
    simp at hb
def Ti:S->Bool
 | .op i=>!VM i
 | .callp .. | .callvp ..=>true
 | _=>false
def zU:S->Bool
 | .call .. | .callv ..=>true
 | _=>false
def toE:S->Option E
 | .call d f args=>some ⟨none,.call d f args⟩
 | .callv d g args=>some ⟨none,.callv d g args⟩
 | .gd (.s n) b ds [s]=>if (Ti s||zU s)&&ds==(RU s).toList then some ⟨some (n,b),s⟩ else none
 | s=>if Ti s then some ⟨none,s⟩ else none
def Eg:Nat->List Nat->List S->Option (List (Nat×E))
 | 0,_,_=>none
 | _+1,[],[]=>some []
 | m+1,[],[.alt ls]=>ls.foldr (fun p r=>match Eg m p.1 p.2,r with | some a,some b=>some (a++b) | _,_=>none) (some [])
 | m+1,i::π,s::l=>match toE s,Eg m π l with
  | some e,some es=>some ((i,e)::es)
  | _,_=>none
 | _,_,_=>none
def AdC (ops:Array Oper)(an:List Nat)(all:List (Nat×E))(listed:Array Bool)(i:Nat)(e:E):Bool :=
 all.all fun p=>p.1==i||listed.getD p.1 true||(an.getD p.1 0).testBit i||T7 e p.2
def bO (ops:Array Oper)(an:List Nat)(all:List (Nat×E)):Nat->Bool->Nat->List Nat->List S->Array Bool->Bool
 | 0,_,_,_,_,_=>false
 | _+1,false,_,[],[],listed=>(Region.ready .any ops listed).isEmpty
 | m+1,false,n,[],[.alt ls],listed=>!(Region.ready .any ops listed).isEmpty&&decide (0<n)&&(Region.ready .any ops listed).all (fun i=>ls.any fun p=>p.1.head?==some i)&&ls.all fun p=>bO ops an all m true n p.1 p.2 listed
 | m+1,br,n+1,i::π,s::l,listed=>match toE s with
  | some e=>(Region.ready .any ops listed).contains i&&(br||(if ZP e then Region.ready .any ops listed==[i] else AdC ops an all listed i e))&&bO ops an all m false n π l (listed.setIfInBounds i true)
  | none=>false
 | _,_,_,_,_,_=>false
def oM (P:Program)(N:Nat)(ops:Array Oper)(i:Nat)(e:E):Bool:=match ops[i]? with
 | some o=>tF P N o e.s&&(match o.guard,e.g with
  | none,none=>true
  | some (k,b'),some (n,b)=>b'==b&&((ops[k]?).bind (·.dst))==some n&&o.dst==RU e.s&&(match RU e.s with | some d=>decide (d<N) | none=>true)
  | _,_=>false)
 | none=>false
def AbG (P:Program)(N:Nat)(ops:Array Oper)(π:List Nat)(l:List S):Bool:=match Eg 1000 π l with
 | some es=>es.all (fun p=>oM P N ops p.1 p.2)&&bO ops (AeQ ops.toList) es 1000 false ops.size π l (Array.replicate ops.size false)
 | none=>false
section
variable {P:Program} {c0:Cx} {N:Nat} {D:List Deferred} {o:Oper} {a:Act} {w:World} {t:T} {H H':List Ob} {Q:Act->World->Prop} {b:Option (Nat × V)} {ops:Array Oper}
theorem fR {s:S}(hok:tF P N o s=true)(h:B8 P s t H b H')(hs:Sm c0 N D t H a w){next:Act->World->Prop}(hn:∀ v w',Sm c0 N D (AG b t) H' (a.put o.dst v) w'->next (a.put o.dst v) w'):dL P o a w next:=by
 cases s<;>simp only[B8]at h
 case op i=>exact (fW hok h.2.1 hs).wp fun v w' h=>hn v w' h
 case callp d f args =>
  obtain⟨rfl,x,h1,rfl⟩:=h
  exact QZ (fst:=[]) (caps:=[]) hs hok rfl (by simpa using h1) fun v w' hS=>hn v w' (by rw[<-Ib];exact hS)
 case callvp d g args =>
  obtain⟨rfl,f,fst,caps,x,h0,h1,rfl⟩:=h
  exact QZ hs hok h0 h1 fun v w' hS=>hn v w' (by rw[<-Ib];exact hS)
theorem AbJ {i:Nat}{e:E}(hok:oM P N ops i e=true)(h:Pn P e t H b H')(hs:Sm c0 N D t H a w){next:Act->World->Prop}(hn:∀ a' w',Sm c0 N D (AG b t) H' a' w'->next a' w'):Pl P ops i next a w:=by
 unfold oM at hok
 unfold Pl
 split at hok
 case h_2=>cases hok
 rename_i o ho
 simp only[Bool.and_eq_true]at hok
 obtain⟨hok,hg⟩:=hok
 unfold Pn at h
 split at hg
 ·rename_i hg1 hg2
  simp only[ho,hg2]at h ⊢
  rw[if_pos (PX hg1 _)]
  exact (fR hok h hs fun v w' hS=>hn _ _ hS)
 ·rename_i k b' n bb hg1 hg2
  simp only[Bool.and_eq_true,beq_iff_eq]at hg
  obtain⟨⟨⟨rfl,hkn⟩,hd⟩,hdN⟩:=hg
  simp only[ho,hg2]at h ⊢
  rcases h with ⟨h1,h⟩|⟨h1,rfl,rfl⟩
  ·obtain⟨v,hv,c',hw',hH',hrep⟩:=R0 hs (Rc h1 (by simp))
   have hrep':v=.bool b':=hrep
   subst hrep'
   have hw:Region.wanted o (yielded ops a.tmps)=true:=by simp[Region.wanted,hg1,GE hkn hv]
   rw[if_pos hw]
   exact (fR hok h hs fun v w' hS=>hn _ _ hS)
  ·have hw:Region.wanted o (yielded ops a.tmps)=false:=by
    simp only[Region.wanted,hg1,beq_eq_false_iff_ne]
    rcases h1 with ⟨c,h1,h2⟩ | h1
    ·obtain⟨v,hv,c',hw',hH',hrep⟩:=R0 hs (Rc h1 (by simp))
     have hrep':v=.bool c:=hrep
     subst hrep'
     rw[GE hkn hv]
     simpa using h2
    ·obtain⟨v,hv,c',hw',hH',hrep⟩:=R0 hs (Rc h1 (by simp))
     obtain⟨vs,hrep',hvs⟩:=hrep
     subst hrep'
     rw[GE hkn hv]
     simp
   rw[if_neg (by rw[hw];simp)]
   refine hn _ _ ?_
   rw[hd]
   cases hdst:RU e.s with
   | none=>exact hs
   | some d=>rw[hdst]at hdN;exact fQ hs (by simpa using hdN)
 ·cases hg
theorem wq {i:Nat}{e:E}{K:T->List Ob->Prop}(hok:oM P N ops i e=true)(h:dh P e t H K)(hs:Sm c0 N D t H a w){next:Act->World->Prop}(hn:∀ t' H' a' w',K t' H'->Sm c0 N D t' H' a' w'->next a' w'):Pl P ops i next a w:=by
 rcases h with ⟨b,H',h1,h2⟩|⟨hg,h⟩
 ·exact AbJ hok h1 hs fun a' w' hS=>hn _ _ _ _ h2 hS
 ·unfold oM at hok
  unfold Pl
  split at hok
  case h_2=>cases hok
  rename_i o ho
  simp only[Bool.and_eq_true]at hok
  obtain⟨hok,hgd⟩:=hok
  have hwt:Region.wanted o (yielded ops a.tmps)=true:=by
   split at hgd
   ·rename_i hg1 hg2;exact PX hg1 _
   ·rename_i k b' n bb hg1 hg2
    simp only[Bool.and_eq_true,beq_iff_eq]at hgd
    obtain⟨⟨⟨rfl,hkn⟩,hd⟩,hdN⟩:=hgd
    have h1:=hg _ _ hg2
    obtain⟨v,hv,c',hw',hH',hrep⟩:=R0 hs (Rc h1 (by simp))
    have hrep':v=.bool b':=hrep
    subst hrep'
    simp[Region.wanted,hg1,GE hkn hv]
   ·cases hgd
  simp only[ho]
  rw[if_pos hwt]
  cases hes:e.s<;>simp only[hes]at h hok
  case call d f args =>
   rcases h with ⟨R,h3,h4⟩|⟨idx,R,h1,h2,h3,h4⟩
   ·exact QK (F:=.func f) (fst:=[]) (caps:=[]) hs hok rfl (.inl ⟨f,rfl⟩) (by rw[Bj];simpa using h3) fun x H' v w' hR hS=>hn _ _ _ _ (h4 x H' hR) hS
   exact Qs (F:=.func f) (fst:=[]) (caps:=[]) hs hok rfl (.inl ⟨f,rfl⟩) h1 h2 (by rw[Bj];simpa using h3) fun x H' v w' hR hle hS _=>hn _ _ _ _ (h4 x H' hR hle) hS
  case callv d g args =>
   rcases h with ⟨f,fst,caps,R,h0,hF,h3,h4⟩|⟨f,fst,caps,idx,R,h0,hF,h1,h2,h3,h4⟩
   ·exact QK hs hok h0 hF h3 fun x H' v w' hR hS=>hn _ _ _ _ (h4 x H' hR) hS
   exact Qs hs hok h0 hF h1 h2 h3 fun x H' v w' hR hle hS _=>hn _ _ _ _ (h4 x H' hR hle) hS
  all_goals exact h.elim
theorem Xe {all:List (Nat×E)}{QR:T->List Ob->Prop}(hok:∀ p∈all,oM P N ops p.1 p.2=true)(hQ:∀ t H a w,QR t H->Sm c0 N D t H a w->Q a w) :
  ∀ (n:Nat)(listed:Array Bool)(t:T)(H:List Ob)(a:Act)(w:World),fo P .any ops all QR n listed t H->Sm c0 N D t H a w->Y9 P .any ops Q n listed a w
 | 0,_,_,_,_,_,h,hs=>⟨h.1,hQ _ _ _ _ h.2 hs⟩
 | n+1,_,_,_,_,_,h,hs=>⟨fun h0=>hQ _ _ _ _ (h.1 h0) hs,fun i hi=>by
  obtain⟨e,h1,h2⟩:=h.2 i hi
  exact wq (hok (i,e) h1) h2 hs fun t' H' a' w' h3 hS=>Xe hok hQ n _ _ _ _ _ h3 hS⟩
theorem aY {nd:Nat->C}{B:Nat}{k:List K}{QX:X->T->List Ob->Prop}{s:S}{l:List S}(hb:Ti s=true)(h:Ax P nd B (.r (s::l)::k) t H QX):∃ b H',B8 P s t H b H'/\Ax P nd B (.r l::k) (AG b t) H' QX:=by
 cases s<;>simp only[Ti,Bool.false_eq_true,Bool.not_eq_true']at hb
 case op i =>
  cases h with
  | op t' H' he hr =>
   obtain⟨b,rfl,hd,hag⟩:=lD hb he
   exact⟨b,H',⟨hb,hag 0 t fun _ _=>rfl,hd⟩,hr⟩
 case callp d f args =>
  cases h with
  | callp x h1 h2=>exact⟨_,_,⟨rfl,x,h1,rfl⟩,by rw[<-Ib];exact h2⟩
 case callvp d g args =>
  cases h with
  | callvp f fst caps x h0 h1 h2=>exact⟨_,_,⟨rfl,f,fst,caps,x,h0,h1,rfl⟩,by rw[<-Ib];exact h2⟩
theorem gE {nd:Nat->C}{B:Nat}{k:List K}{QX:X->T->List Ob->Prop}{s:S}{l:List S}{e:E}(he:toE s=some e)(hcE:ZP e=false)(h:Ax P nd B (.r (s::l)::k) t H QX):∃ b H',Pn P e t H b H'/\Ax P nd B (.r l::k) (AG b t) H' QX:=by
 have undo:∀ (d:Option Nat),((d.toList.map fun d=>(d,V.tup []))++t)=AG (d.map (·,V.tup [])) t:=fun d=>by cases d<;>rfl
 unfold toE at he
 split at he
 ·cases he;cases hcE
 ·cases he;cases hcE
 ·rename_i n bb ds s
  split at he
  case isFalse=>cases he
  rename_i hc
  simp only[Bool.and_eq_true,Bool.or_eq_true,beq_iff_eq]at hc
  obtain⟨hc,rfl⟩:=hc
  cases he
  have hc:Ti s=true:=by
   rcases hc with hc | hc
   ·exact hc
   ·cases s<;>simp only[zU,Bool.false_eq_true]at hc<;>cases hcE
  cases h with
  | gd c hx hr =>
   by_cases hcb:c=bb
   ·subst hcb
    simp only[if_true]at hr
    obtain⟨b,H',h1,h2⟩:=aY hc hr
    exact⟨b,H',.inl ⟨hx,h1⟩,h2⟩
   ·simp only[hcb,if_false,List.nil_append,undo]at hr
    exact⟨_,H,.inr ⟨.inl ⟨c,hx,hcb⟩,rfl,rfl⟩,hr⟩
  | gdU hx hr =>
   rw[undo]at hr
   exact⟨_,H,.inr ⟨.inr hx,rfl,rfl⟩,hr⟩
 ·split at he
  case isFalse=>cases he
  rename_i hc
  cases he
  obtain⟨b,H',h1,h2⟩:=aY hc h
  exact⟨b,H',h1,h2⟩
theorem bg {nd:Nat->C}{B:Nat}{k:List K}{QX:X->T->List Ob->Prop}{s:S}{l:List S}{e:E}(he:toE s=some e)(h:Ax P nd B (.r (s::l)::k) t H QX):dh P e t H fun t' H'=>Ax P nd B (.r l::k) t' H' QX:=by
 have undo:∀ (d:Option Nat),((d.toList.map fun d=>(d,V.tup []))++t)=AG (d.map (·,V.tup [])) t:=fun d=>by cases d<;>rfl
 by_cases hc:ZP e=true
 ·unfold toE at he
  split at he
  ·cases he
   right
   cases h with
   | callA R h3 h4=>exact⟨fun _ _ h=>(by cases h),.inl ⟨R,h3,h4⟩⟩
   | call idx R h1 h2 h3 h4=>exact⟨fun _ _ h=>(by cases h),.inr ⟨idx,R,h1,h2,h3,h4⟩⟩
  ·cases he
   right
   cases h with
   | callvA f fst caps R h0 hF h3 h4=>exact⟨fun _ _ h=>(by cases h),.inl ⟨f,fst,caps,R,h0,hF,h3,h4⟩⟩
   | callv f fst caps idx R h0 hF h1 h2 h3 h4=>exact⟨fun _ _ h=>(by cases h),.inr ⟨f,fst,caps,idx,R,h0,hF,h1,h2,h3,h4⟩⟩
  ·rename_i n bb ds s
   split at he
   case isFalse=>cases he
   rename_i hb
   simp only[Bool.and_eq_true,Bool.or_eq_true,beq_iff_eq]at hb
   obtain⟨hb,rfl⟩:=hb
   cases he
   cases h with
   | gd c hx hr =>
    by_cases hcb:c=bb
    ·subst hcb
     simp only[if_true,List.singleton_append]at hr
     right
     cases s<;>simp only[ZP,Bool.false_eq_true]at hc
     case call =>
      cases hr with
      | callA R h3 h4=>exact⟨fun _ _ h=>(by cases h;exact hx),.inl ⟨R,h3,h4⟩⟩
      | call idx R h1 h2 h3 h4=>exact⟨fun _ _ h=>(by cases h;exact hx),.inr ⟨idx,R,h1,h2,h3,h4⟩⟩
     case callv =>
      cases hr with
      | callvA f fst caps R h0 hF h3 h4=>exact⟨fun _ _ h=>(by cases h;exact hx),.inl ⟨f,fst,caps,R,h0,hF,h3,h4⟩⟩
      | callv f fst caps idx R h0 hF h1 h2 h3 h4=>exact⟨fun _ _ h=>(by cases h;exact hx),.inr ⟨f,fst,caps,idx,R,h0,hF,h1,h2,h3,h4⟩⟩
    ·simp only[hcb,if_false,List.nil_append,undo]at hr
     exact .inl ⟨_,H,.inr ⟨.inl ⟨c,hx,hcb⟩,rfl,rfl⟩,hr⟩
   | gdU hx hr =>
    rw[undo]at hr
    exact .inl ⟨_,H,.inr ⟨.inr hx,rfl,rfl⟩,hr⟩
  ·split at he
   ·rename_i hb
    cases he
    unfold ZP at hc
    split at hc
    ·rename_i hs;simp only at hs;subst hs;cases hb
    ·rename_i hs;simp only at hs;subst hs;cases hb
    ·cases hc
   ·cases he
 ·obtain⟨b,H',h1,h2⟩:=gE he (by simpa using hc) h
  exact .inl ⟨b,H',h1,h2⟩
theorem dh.mono {e:E}{K K':T->List Ob->Prop}(h:dh P e t H K)(hk:∀ t' H',K t' H'->K' t' H'):dh P e t H K':=h.ag (fun _ _=>rfl) fun _ _ _ h=>hk _ _ h
theorem iy:∀ {m:Nat} {π:List Nat} {l:List S} {es:List (Nat×E)} {i:Nat},Eg m π l=some es->π.head?=some i ->
  ∃ m' π' s l' e es',m=m'+1/\π=i::π'/\l=s::l'/\toE s=some e/\Eg m' π' l'=some es'/\es=(i,e)::es'
 | 0,_,_,_,_,h,_=>by simp[Eg]at h
 | _+1,[],_,_,_,_,h=>by simp at h
 | _+1,_::_,[],_,_,h,_=>by simp[Eg]at h
 | m+1,i'::π',s::l',es,i,hes,hpi=>by
  simp only[List.head?_cons,Option.some.injEq]at hpi
  subst hpi
  simp only[Eg]at hes
  split at hes
  case h_2=>cases hes
  rename_i e es2 he hes2
  cases hes
  exact⟨m,π',s,l',e,es2,rfl,rfl,rfl,he,hes2,rfl⟩
theorem jm {nd:Nat->C}{B:Nat}{k:List K}{QX:X->T->List Ob->Prop}{all:List (Nat×E)}{an:List Nat}(han:∀ j i,(an.getD j 0).testBit i=true->vz .any ops j i){QR:T->List Ob->Prop}(hQ:∀ t t2 H,(∀ n,find t n=find t2 n)->QR t H->QR t2 H)(hk:∀ t H,Ax P nd B k t H QX->QR t H) :
  ∀ (m:Nat)(n:Nat)(π:List Nat)(l:List S) (es:List (Nat×E)) (listed:Array Bool) (t:T) (H:List Ob),Eg m π l=some es->(∀ p∈es,p∈all)->Xn .any ops listed->bO ops an all m false n π l listed=true->Ax P nd B (.r l::k) t H QX->fo P .any ops all QR n listed t H:=by
 intro m
 induction m using Nat.strongRecOn with
 | _ m ih =>
 intro n π l es listed t H hz hm hcl hl hr
 match m,n,π,l,hz,hl with
 | 0,_,_,_,hz,_=>simp[Eg]at hz
 | m+1,n,[],[],hz,hl =>
  cases hr with
  | rend hr =>
   simp only[bO,List.isEmpty_iff]at hl
   exact pm hl (hk t H hr) n
 | m+1,n,[],[.alt ls],hz,hl =>
  simp only[bO,Bool.and_eq_true,decide_eq_true_eq]at hl
  obtain⟨⟨⟨hl1,hl2⟩,hl3⟩,hl4⟩:=hl
  cases hr with
  | alt hr =>
   obtain⟨n,rfl⟩:∃ n',n=n'+1:=⟨n-1,by omega⟩
   refine⟨fun h0=>(by rw[h0]at hl1;simp at hl1),fun i hi=>?_⟩
   have h3:=List.all_eq_true.1 hl3 i hi
   obtain⟨p,hp,hpi⟩:=List.any_eq_true.1 h3
   have h4:=List.all_eq_true.1 hl4 p hp
   have hrp:=hr p hp
   have hez:∀ (ls:List (List Nat×List S)) (es:List (Nat×E)),p∈ls->ls.foldr (fun p r=>match Eg m p.1 p.2,r with | some a,some b=>some (a++b) | _,_=>none) (some [])=some es->∃ es',Eg m p.1 p.2=some es'/\∀ q∈es',q∈es:=by
    intro ls
    induction ls with
    | nil=>intro es hp;cases hp
    | cons q ls ihl =>
     intro es hp hz
     simp only[List.foldr_cons]at hz
     split at hz
     case h_2=>cases hz
     rename_i a b ha hb
     cases hz
     rcases List.mem_cons.1 hp with rfl | hp
     ·exact⟨a,ha,fun q hq=>List.mem_append_left _ hq⟩
     ·obtain⟨es',q1,q2⟩:=ihl b hp hb
      exact⟨es',q1,fun q hq=>List.mem_append_right _ (q2 q hq)⟩
   simp only[Eg]at hz
   obtain⟨es',hes,hesm⟩:=hez ls es hp hz
   obtain⟨π',l'⟩:=p
   simp only[beq_iff_eq]at hrp hes h4 hpi
   obtain⟨m',π'',s,l'',e,es2,rfl,rfl,rfl,he,hes2,rfl⟩:=iy hes hpi
   simp only[bO,he,Bool.true_or,Bool.and_true,Bool.and_eq_true]at h4
   exact⟨e,hm _ (hesm _ (by simp)),(bg he hrp).mono fun t' H' g2=>ih m' (by omega) n π'' l'' es2 _ _ _ hes2 (fun q hq=>hm q (hesm q (List.mem_cons_of_mem _ hq))) (LY hcl hi) h4.2 g2⟩
 | m+1,0,i::π,s::l,hz,hl=>simp[bO]at hl
 | m+1,n+1,i::π,s::l,hz,hl =>
  simp only[Eg]at hz
  split at hz
  case h_2=>cases hz
  rename_i e es' he hz'
  cases hz
  simp only[bO,he,Bool.false_or,Bool.and_eq_true]at hl
  obtain⟨⟨hl1,hl2⟩,hl3⟩:=hl
  have hri:i∈Region.ready .any ops listed:=by simpa using hl1
  by_cases hcE:ZP e=true
  ·rw[if_pos hcE]at hl2
   simp only[beq_iff_eq]at hl2
   refine⟨fun h0=>(by rw[h0]at hri;cases hri),fun j hj=>?_⟩
   rw[hl2]at hj
   have hj:j=i:=by simpa using hj
   subst hj
   exact⟨e,hm (j,e) (by simp),(bg he hr).mono fun t' H' g2=>ih m (by omega) n π l es' _ _ _ hz' (fun p hp=>hm p (List.mem_cons_of_mem _ hp)) (LY hcl hri) hl3 g2⟩
  rw[if_neg hcE]at hl2
  obtain⟨b,H',h1,h2⟩:=gE he (by simpa using hcE) hr
  refine jq hQ (hm (i,e) (by simp)) n listed t H b H' hcl (fun j oj ej hoj hej hji hun hno=>?_) hri h1 (ih m (by omega) n π l es' _ _ _ hz' (fun p hp=>hm p (List.mem_cons_of_mem _ hp)) (LY hcl hri) hl3 h2)
  have:=List.all_eq_true.1 hl2 _ hej
  simp only[Bool.or_eq_true,beq_iff_eq,hji,false_or,hun,Bool.false_eq_true]at this
  rcases this with this | this
  ·exact absurd (han j i this) hno
  ·exact this
 | _+1,_,[],_::_::_,hz,_=>simp[Eg]at hz
 | _+1,_,_::_,[],hz,_=>simp[Eg]at hz
 | _+1,_,[],[.op _],hz,_=>simp[Eg]at hz
 | _+1,_,[],[.call ..],hz,_=>simp[Eg]at hz
 | _+1,_,[],[.callv ..],hz,_=>simp[Eg]at hz
 | _+1,_,[],[.callp ..],hz,_=>simp[Eg]at hz
 | _+1,_,[],[.callvp ..],hz,_=>simp[Eg]at hz
 | _+1,_,[],[.gd ..],hz,_=>simp[Eg]at hz
theorem tE {nd:Nat->C}{B:Nat}{k:List K}{QX:X->T->List Ob->Prop}(hn:∀ t' H' a' w',Ax P nd B k t' H' QX->Sm c0 N D t' H' a' w'->Q a' w'){π:List Nat}{l:List S}(hk:AbG P N ops π l=true)(hr:Ax P nd B (.r l::k) t H QX)
  (hs:Sm c0 N D t H a w):Y9 P .any ops Q ops.size (Array.replicate ops.size false) a w:=by
 unfold AbG at hk
 split at hk
 case h_2=>cases hk
 rename_i es hz
 simp only[Bool.and_eq_true]at hk
 obtain⟨h3,h4⟩:=hk
 have han:=Xx (ops:=ops) ops.toList [] [] (by simp) rfl (fun j i h=>by simp at h)
 refine Xe (QR:=fun t H=>∃ t2,(∀ n,find t2 n=find t n)/\Ax P nd B k t2 H QX) (all:=es) (fun p hp=>List.all_eq_true.1 h3 p hp) ?_ _ _ t H a w (jm (nd:=nd) (B:=B) (k:=k) (QX:=QX) han ?_ (fun t H h=>⟨t,fun _=>rfl,h⟩) 1000 _ π l es _ t H hz (fun _ h=>h) (fun j o ho hj=>?_) h4 hr) hs
 ·rintro t H a w ⟨t2,hf,hr⟩ hs
  exact hn t2 H a w hr (bQ hs fun s x hx=>by rw[<-hf];exact hx)
 ·rintro t t2 H hf ⟨t3,h5,h6⟩
  exact⟨t3,fun n=>by rw[h5,hf],h6⟩
 ·exfalso
  simp only[Array.getD_eq_getD_getElem?,Array.getElem?_replicate]at hj
  split at hj<;>simp at hj
end
end Go.Dw
end
section
namespace Go.Dw
def Cx.addNew (c:Cx)(ob:Obj):Cx:=⟨{ c.w with heap:=c.w.heap.push ob },c.ok,c.ρ,c.H⟩
theorem Vh {c:Cx}(hc:Bb c)(ob:Obj):Fr c (c.addNew ob) where
 okS _ _ h:=h
 cell b o h:=NV (hc.okLt _ _ h)
 size:=by simp[Cx.addNew]
 okN b _ h:=.inl h
 heap b hb _:=BZ hb
 own b:=.inl
 ext i o' h:=⟨o',h,by cases o'<;>simp[CG,Cx.addNew]⟩
 os:=rfl
 tape:=rfl
 output:=rfl
 drawn:=Nat.le_refl _
theorem gw {c:Cx}(hc:Bb c)(ob:Obj):Bb (c.addNew ob) where
 inj:=hc.inj
 okLt b o h:=by have:=hc.okLt _ _ h;simp[Cx.addNew];omega
 obj i o h:=NH hc (Vh hc ob) ob rfl (fun b o hb h=>h) h
 glob:=hc.globFr (Vh hc ob)
def Cx.letGo (c:Cx)(b:Nat)(ob:Obj)(i:Nat):Cx:=⟨{ c.w with heap:=c.w.heap.setIfInBounds b ob },c.ok,Pb c.ρ i none,c.H.set i .dead⟩
theorem uL {c:Cx}(hc:Bb c){b i k:Nat}{o0:Ob}(hi:c.H[i]?=some o0)(hρ:c.ρ i=some (b,k))(hno:∀ x,¬ c.ok b x)(ob:Obj):Fr c (c.letGo b ob i)/\Bb (c.letGo b ob i):=by
 have hil:i<c.H.length:=(List.getElem?_eq_some_iff.1 hi).1
 have hf:Fr c (c.letGo b ob i):=by
  refine⟨fun _ _ h=>h,fun b' o' h=>?_,by simp[Cx.letGo],fun b' o' h=>.inl h,fun b' hb' hn=>?_,fun b' hb'=>?_,fun j o' hj=>?_,rfl,rfl,rfl,Nat.le_refl _⟩
  ·have hne:b'≠b:=by intro e;subst e;exact hno _ h
   simp only[Cx.letGo,World.cell?,Ig hne]
  ·have hne:b'≠b:=by intro e;subst e;exact hn ⟨i,k,hil,hρ⟩
   exact Ig hne
  ·obtain⟨j,k',hj,hr⟩:=hb'
   simp only[Cx.letGo,List.length_set]at hj hr
   by_cases e1:j=i
   ·subst e1;rw[Au]at hr;cases hr
   ·rw[AN e1]at hr;exact .inl ⟨j,k',hj,hr⟩
  ·simp only[Cx.letGo,Ci hil]
   by_cases e:i=j
   ·subst e
    exact⟨.dead,by simp,by cases o'<;>trivial⟩
   ·refine⟨o',by simp[e,hj],?_⟩
    rw[AN (Ne.symm e)]
    cases o'<;>simp[CG]
 refine⟨hf,fun j1 j2 b' k1 k2 h1 h2 h3 h4=>?_,fun b' o' h=>by simpa[Cx.letGo]using hc.okLt b' o' h,fun j o' hj=>?_,hc.globFr hf⟩
 ·simp only[Cx.letGo,List.length_set]at h1 h2 h3 h4
  by_cases e1:j1=i
  ·subst e1;rw[Au]at h3;cases h3
  ·by_cases e2:j2=i
   ·subst e2;rw[Au]at h4;cases h4
   ·rw[AN e1]at h3;rw[AN e2]at h4
    exact hc.inj j1 j2 b' k1 k2 h1 h2 h3 h4
 ·simp only[Cx.letGo,Ci hil]at hj
  by_cases e:i=j
  ·subst e
   simp at hj;subst hj;exact Au _ _ _
  ·simp only[e,if_false]at hj
   have:(c.letGo b ob i).ρ j=c.ρ j:=AN (Ne.symm e)
   rw[this]
   refine Ds hf (hc.obj j o' hj) fun b' k' hr=>?_
   have hne:b'≠b:=by
    intro eb;subst eb
    exact e (hc.inj i j _ _ _ hil (List.getElem?_eq_some_iff.1 hj).1 hρ hr)
   exact⟨Ig hne,fun x hx=>hx⟩
theorem ap {N:Nat}{c:Cx}:∀ {ps:List Nat} {it:List V} {vs:List Value} {t:T} {tm:Array Value} (d:List Deferred),(∀ p∈ps,p<N)->CZ c it vs->tm.size=N->Kl N c t { tmps:=tm,defers:=d } ->
  ((ps.zip vs).foldl (fun tmps p=>tmps.setIfInBounds p.1 p.2) tm).size=N/\Kl N c (Q5 ps it t) { tmps:=(ps.zip vs).foldl (fun tmps p=>tmps.setIfInBounds p.1 p.2) tm,defers:=d }
 | [],it,vs,t,tm,d,_,_,hN,h=>by cases it<;>exact⟨hN,h⟩
 | p::ps,[],vs,t,tm,d,_,hr,hN,h=>by
  simp only[CZ]at hr
  subst hr
  exact⟨hN,h⟩
 | p::ps,x::it,vs,t,tm,d,hp,hr,hN,h=>by
  obtain⟨v,vs',rfl,h2,h3⟩:=hr
  simp only[List.zip_cons_cons,List.foldl_cons,Q5]
  refine ap d (fun q hq=>hp q (by simp[hq])) h3 (by simpa using hN) ?_
  have:=Hx (N:=N) (c:=c) (t:=t) (a:={ tmps:=tm,defers:=d }) hN (hp p (by simp)) h2 h
  exact this
def Ji:X->LS
 | .fall=>.ready
 | .ret=>.done .ret
 | .exit id=>.done (.exit id)
def rV:X->Option Code
 | .fall=>none
 | .ret=>some .ret
 | .exit id=>some (.exit id)
section
variable {P:Program}
theorem gK {c' c5:Cx}(hc5:Bb c5)(hf5:Fr c' c5){n l:Nat}{r:Loop}{t:T}(hn:c'.H.length=n+1)(hl:c5.H[n]?=some (.lp l .busy r t))(htr:ic c' t r.tmps)(e:X) :
  ∃ c8 w6,(Instr.endRound l (rV e)).run P c5.w=.ok (.bool (rV e).isNone) w6/\c8.w=w6/\Bb c8/\Fr c' c8/\c8.H=cut n c5.H++[.lp l (Ji e) r t]:=by
 have hnl:n<c5.H.length:=(List.getElem?_eq_some_iff.1 hl).1
 obtain⟨q1,q2,q3,q4⟩:=hc5.obj n _ hl
 have hrun:=run_endRound (P:=P) (w:=c5.w) (l:=l) (r:=Jj .busy r) (rV e) q2
 have hob:(({ Jj .busy r with state:=if (rV e).isNone then .ready else .done,pending:=rV e }:Loop))=Jj (Ji e) r:=by cases e<;>rfl
 rw[hob]at hrun
 have hext:CG (.lp l .busy r t) (.lp l (Ji e) r t) (c5.ρ n) (c5.ρ n):=⟨rfl,rfl⟩
 have hf6:=aX hc5 hl q1 q3 (.loop (Jj (Ji e) r)) hext
 have hlt:l<c5.w.heap.size:=(Array.getElem?_eq_some_iff.1 q2).1
 have hc6:Bb (c5.pt l (.loop (Jj (Ji e) r)) n (.lp l (Ji e) r t)):=by
  refine TZ hc5 hl q1 q3 _ hext ⟨q1,?_,q3,q4.mono fun _ _=>B3 hf6⟩
  simp[Cx.pt,hlt]
 generalize hg6:c5.pt l (.loop (Jj (Ji e) r)) n (.lp l (Ji e) r t)=c6 at hf6 hc6
 have hw6:c6.w=c5.w.putObj l (.loop (Jj (Ji e) r)):=by rw[<-hg6];rfl
 have hH6:c6.H=c5.H.set n (.lp l (Ji e) r t):=by rw[<-hg6];rfl
 have hn6:n<c6.H.length:=by rw[hH6];simpa using hnl
 have hfr6:Fr c' c6:=hf5.trans hf6
 obtain⟨hc7,⟨hf7,_,_⟩,hr7⟩:=ZZ hc6 (D:=[]) ⟨hfr6,fun d hd=>(by cases hd),List.nodup_nil⟩ (m:=n+1) (by omega)
 have hH7:(c6.H.take (n+1)).map (A6 (AM (n+1)))=cut n c5.H++[A6 (AM (n+1)) (.lp l (Ji e) r t)]:=by
  rw[List.take_succ_eq_append_getElem hn6,List.map_append]
  congr 1
  ·simp only[cut,hH6]
   rw[List.take_set_of_le (Nat.le_refl n)]
  ·simp only[List.map_cons,List.map_nil,hH6,List.getElem_set_self]
 have hcl:(cut n c5.H).length=n:=by simp[cut];omega
 let c8:Cx:=⟨c6.w,c6.ok,c6.ρ,cut n c5.H++[.lp l (Ji e) r t]⟩
 rw[hH7]at hc7 hf7 hr7
 have hgetlt:∀ i,i<n->(cut n c5.H++[A6 (AM (n+1)) (.lp l (Ji e) r t)])[i]?=c8.H[i]?:=fun i hi=>by
  simp only[c8]
  rw[List.getElem?_append_left (by omega),List.getElem?_append_left (by omega)]
 have hf8:Fr ⟨c6.w,c6.ok,c6.ρ,cut n c5.H++[A6 (AM (n+1)) (.lp l (Ji e) r t)]⟩ c8:=by
  refine⟨fun _ _ h=>h,fun _ _ _=>rfl,Nat.le_refl _,fun _ _ h=>.inl h,fun _ _ _=>rfl,fun b hb=>?_,fun i o hi=>?_,rfl,rfl,rfl,Nat.le_refl _⟩
  ·obtain⟨j,k,hj,hr⟩:=hb
   exact .inl ⟨j,k,by simpa[c8]using hj,hr⟩
  ·have hi2:=(List.getElem?_eq_some_iff.1 hi).1
   simp only[List.length_append,List.length_cons,List.length_nil,hcl]at hi2
   by_cases e1:i<n
   ·rw[hgetlt i e1]at hi
    exact⟨o,hi,by cases o<;>simp[CG,c8]⟩
   ·have e2:i=(cut n c5.H).length:=by omega
    subst e2
    simp only[List.getElem?_concat_length,Option.some.injEq]at hi
    subst hi
    exact⟨.lp l (Ji e) r t,by simp[c8],rfl,rfl⟩
 have hf8':Fr c' c8:=hf7.trans hf8
 have hc8:Bb c8:=by
  refine⟨fun i j b k k' h1 h2 h3 h4=>hc7.inj i j b k k' (by simpa[c8]using h1) (by simpa[c8]using h2) h3 h4,hc7.okLt,fun i o hi=>?_,hc7.globFr hf8⟩
  have hi2:=(List.getElem?_eq_some_iff.1 hi).1
  simp only[c8,List.length_append,List.length_cons,List.length_nil,hcl]at hi2
  by_cases e1:i<n
  ·exact Ds hf8 (hc7.obj i o (by rw[hgetlt i e1];exact hi)) fun b k _=>⟨rfl,fun _ h=>h⟩
  ·have e2:i=n:=by omega
   subst e2
   have ho:o=.lp l (Ji e) r t:=by
    have:c8.H[i]?=some (.lp l (Ji e) r t):=by
     simp only[c8]
     rw[List.getElem?_append_right (by omega),hcl];simp
    rw[this]at hi;cases hi;rfl
   subst ho
   obtain⟨p1,p2,p3,_⟩:=hc6.obj i (.lp l (Ji e) r t) (by rw[hH6];simp[hnl])
   exact⟨p1,p2,p3,htr.mono fun _ _=>B3 hf8'⟩
 exact⟨c8,_,hrun,hw6,hc8,hf8',rfl⟩
end
end Go.Dw
end
section
namespace Go.Dw
def KG (P:Program)(N:Nat)(nd:Nat->C)(top:Bool):Nat->Code->C->Bool
 | 0,_,_=>false
 | m+1,code,c=>match c with
  | .n k=>KG P N nd top m code (nd k)
  | .m k=>KG P N nd top m code (nd k)
  | .bad=>true
  | .gh l c=>l.all (okG N)&&l.all VM&&KG P N nd top m code c
  | .skip=>match code with | .skip=>true | _=>false
  | .reg l=>match code with | .region _ ops false=>Vt P N ops l (List.range ops.size) | _=>false
  | .dr π l=>match code with | .region _ ops true=>AbG P N ops π l | _=>false
  | .seq x y=>match code with | .seq a b=>KG P N nd top m a x&&KG P N nd top m b y | _=>false
  | .cond z x y=>match code with | .cond c a b=>BA c z&&KG P N nd top m a x&&KG P N nd top m b y | _=>false
  | .blk id x=>match code with | .block id' a=>id==id'&&KG P N nd top m a x | _=>false
  | .loop x=>match code with | .loop a=>KG P N nd top m a x | _=>false
  | .exit id=>match code with | .exit id'=>id==id' | _=>false
  | .ret=>match code with | .ret=>true | _=>false
  | .rf x ps y z=>match code with | .rangeFunc g ps' a b=>top&&BA g x&&ps'.toList==ps&&ps.all (fun p=>decide (p<N))&&KG P N nd false m a y&&KG P N nd false m b z | _=>false
def Mv (P:Program)(N:Nat)(nd:Nat->C)(ro:Option Nat):List K->List Item->Prop
 | [],k=>k=[]
 | .c c::s,.code code::k=>(∃ m,KG P N nd ro.isNone m code c=true)/\Mv P N nd ro s k
 | .c (.loop x)::s,.inLoop a::k=>(∃ m,KG P N nd ro.isNone m a x=true)/\Mv P N nd ro s k
 | .mk id::s,.inBlock id'::k=>id=id'/\Mv P N nd ro s k
 | .br l _::s,.beginRound::k=>ro=some l/\Mv P N nd ro s k
 | _,_=>False
def Fin (P:Program)(m:Machine)(b:Frame)(cs:List Frame)(e:X)(a:Act)(w:World):Prop:=match e with
 | .fall=>Steps P m (lone (b.atR a []) cs w)
 | .ret=>∃ todo,Steps P m (lone (b.atR a (.code .ret::todo)) cs w)
 | .exit id=>∃ k,exitTo id k=none/\Steps P m (lone (b.atR a (.code (.exit id)::k)) cs w)
theorem Fin.of_steps {P m m1 b cs e a w}(h:Steps P m m1)(h':Fin P m1 b cs e a w):Fin P m b cs e a w:=by
 cases e with
 | fall=>exact h.trans h'
 | ret=>obtain⟨t,q⟩:=h';exact⟨t,h.trans q⟩
 | exit id=>obtain⟨k,q1,q2⟩:=h';exact⟨k,q1,h.trans q2⟩
def Wk (P:Program)(N:Nat)(nd:Nat->C)(ro:Option Nat)(B:Nat)(s:List K)(t:T)(H:List Ob)(Q:X->T->List Ob->Prop):Prop :=
 ∀ c0 D a w k,c0.H.length<=B->Mv P N nd ro s k->Sm c0 N D t H a w->∀ b cs,b.roundOf=ro->∃ D' e t' H' a' w',Q e t' H'/\Sm c0 N D' t' H' a' w'/\Fin P (lone (b.atR a k) cs w) b cs e a' w'
def Mo (P:Program)(N:Nat)(nd:Nat->C)(ro:Option Nat)(B:Nat):List K->T->List Ob->(X->T->List Ob->Prop)->Prop
 | .r l::s,t,H,Q=>Ax P nd B [.r l] t H (fun e t' H'=>e=.fall/\Wk P N nd ro B s t' H' Q)
 | s,t,H,Q=>Wk P N nd ro B s t H Q
section
variable {P:Program} {c0:Cx} {N:Nat} {D:List Deferred} {nd:Nat->C} {B:Nat} {Q:X->T->List Ob->Prop} {t:T} {H:List Ob} {s:List K}
theorem Wk.of_mo {ro:Option Nat}(h:Mo P N nd ro B s t H Q):Wk P N nd ro B s t H Q:=by
 cases s with
 | nil=>exact h
 | cons x s =>
  cases x with
  | c c=>exact h
  | mk id=>exact h
  | br l n=>exact h
  | r l=>intro c0 D a w k hB hk;cases k<;>simp[Mv]at hk
theorem DF {ro:Option Nat}{c:C}{k:List Item}(h:Mv P N nd ro (.c c::s) k):(∃ code k' m,k=.code code::k'/\KG P N nd ro.isNone m code c=true/\Mv P N nd ro s k')\/∃ x a k' m,c=.loop x/\k=.inLoop a::k'/\KG P N nd ro.isNone m a x=true/\Mv P N nd ro s k':=by
 cases k with
 | nil=>cases c<;>simp[Mv]at h
 | cons i k =>
  cases i
  case code code =>
   left
   obtain⟨⟨m,h1⟩,h2⟩:(∃ m,KG P N nd ro.isNone m code c=true)/\Mv P N nd ro s k:=by cases c<;>simpa[Mv]using h
   exact⟨code,k,m,rfl,h1,h2⟩
  case inLoop a =>
   right
   cases c<;>simp only[Mv]at h
   obtain⟨⟨m,h1⟩,h2⟩:=h
   exact⟨_,a,k,m,rfl,rfl,h1,h2⟩
  all_goals (cases c<;>simp[Mv]at h)
theorem TA {ro:Option Nat}{id:Nat}:∀ {s s':List K} {k:List Item},KE id s=some s'->Mv P N nd ro s k->∃ k',exitTo id k=some k'/\Mv P N nd ro s' k'
 | [],_,_,h,_=>by simp[KE]at h
 | .mk j::s,s',k,h,hk=>by
  cases k with
  | nil=>simp[Mv]at hk
  | cons i k =>
   cases i<;>simp only[Mv]at hk
   obtain⟨rfl,hk⟩:=hk
   simp only[KE]at h
   simp only[exitTo,beq_iff_eq]
   by_cases e:j=id
   ·rw[if_pos e]at h ⊢
    cases h
    exact⟨k,rfl,hk⟩
   ·rw[if_neg e]at h ⊢
    exact TA h hk
 | .c c::s,s',k,h,hk=>by
  simp only[KE]at h
  rcases DF hk with ⟨code,k',m,rfl,_,h2⟩|⟨x,a,k',m,rfl,rfl,_,h2⟩
  ·simp only[exitTo];exact TA h h2
  ·simp only[exitTo];exact TA h h2
 | .r l::s,_,k,_,hk=>by cases k<;>simp[Mv]at hk
 | .br l n::s,s',k,h,hk=>by
  cases k with
  | nil=>simp[Mv]at hk
  | cons i k =>
   cases i<;>simp only[Mv]at hk
   simp only[KE]at h
   simp only[exitTo]
   exact TA h hk.2
theorem Iz {ro:Option Nat}{id:Nat}:∀ {s:List K} {k:List Item},KE id s=none->Mv P N nd ro s k->exitTo id k=none
 | [],k,_,hk=>by simp only[Mv]at hk;subst hk;rfl
 | .mk j::s,k,h,hk=>by
  cases k with
  | nil=>simp[Mv]at hk
  | cons i k =>
   cases i<;>simp only[Mv]at hk
   obtain⟨rfl,hk⟩:=hk
   simp only[KE]at h
   simp only[exitTo,beq_iff_eq]
   by_cases e:j=id
   ·rw[if_pos e]at h;cases h
   ·rw[if_neg e]at h ⊢
    exact Iz h hk
 | .c c::s,k,h,hk=>by
  simp only[KE]at h
  rcases DF hk with ⟨code,k',m,rfl,_,h2⟩|⟨x,a,k',m,rfl,rfl,_,h2⟩
  ·simp only[exitTo];exact Iz h h2
  ·simp only[exitTo];exact Iz h h2
 | .r l::s,k,_,hk=>by cases k<;>simp[Mv]at hk
 | .br l n::s,k,h,hk=>by
  cases k with
  | nil=>simp[Mv]at hk
  | cons i k =>
   cases i<;>simp only[Mv]at hk
   simp only[KE]at h
   simp only[exitTo]
   exact Iz h hk.2
theorem XY {ops:Array Oper}:∀ {l:List I},l.all (okG N)=true->l.all VM=true->Vt P N ops (l.map .op) []=true
 | [],_,_=>rfl
 | i::l,h,h'=>by
  simp only[List.all_cons,Bool.and_eq_true]at h h'
  simp only[List.map_cons,Vt,h'.1,if_true,h.1,Bool.true_and]
  exact XY h.2 h'.2
theorem rz {a:Act}{w:World}(hs:Sm c0 N D t H a w)(n:Nat)(hn:w.drawn<=n):Sm c0 N D t H a { w with drawn:=n }:=by
 obtain⟨q1,q2,c,h3,h4,h5,h6,h7⟩:=hs
 subst h3
 have hf:Fr c { c with w:={ c.w with drawn:=n } }:=⟨fun _ _ h=>h,fun _ _ _=>rfl,Nat.le_refl _,fun _ _ h=>.inl h,fun _ _ _=>rfl,fun _ h=>.inl h,fun i o hi=>⟨o,hi,by cases o<;>simp[CG]⟩,rfl,rfl,rfl,hn⟩
 exact⟨q1,q2,{ c with w:={ c.w with drawn:=n } },rfl,h4,⟨h5.inj,h5.okLt,fun i o ho=>Ds hf (h5.obj i o ho) fun b k hr=>⟨rfl,fun _ h=>h⟩,h5.globFr hf⟩,h6.trans hf,EE hf h7⟩
theorem eZ {l n:Nat}{r:Loop}{a' b':C}{t:T}{it:List V}{H1:List Ob}{next:List Ob->Prop}{stop:X->List Ob->Prop}(hps:∀ p∈r.params.toList,p<N)(hit:it.length=r.params.size)(hN:r.tmps.size=N)(hn:H1.length=n)
  (ha:∃ m,KG P N nd false m r.assign a'=true) (hb:∃ m,KG P N nd false m r.body b'=true)
  (hbody:Wk P N nd (some l) (n+1) [.c a',.br l n,.c b'] (Q5 r.params.toList it t) (H1++[.lp l .ready r t]) (Yb l n r t next stop)) :
  HC P (.yield l) it (H1++[.lp l .ready r t]) fun x H'=>∃ e,x=.bool (rV e).isNone/\∃ H2,H'=H2++[.lp l (Ji e) r t]/\H2.length=n/\match e with | .fall=>next H2 | e=>stop e H2:=by
 intro c' vs hH hc hr
 have hlast:c'.H[n]?=some (.lp l .ready r t):=by rw[hH,List.getElem?_append_right (by omega),hn];simp
 have hlen:c'.H.length=n+1:=by rw[hH];simp[hn]
 obtain⟨q1,q2,q3,q4⟩:=hc.obj n _ hlast
 have hvl:=C8 hr
 refine⟨_,_,_,_,run_yield (r:=Jj .ready r) q2 (by simp[Jj];omega),fun c cs=>?_⟩
 have hzip:(((Jj .ready r).params.zip vs.toArray).foldl (fun tmps (p:Nat×Value)=>tmps.setIfInBounds p.1 p.2) (Jj .ready r).tmps)=((r.params.toList.zip vs).foldl (fun tmps p=>tmps.setIfInBounds p.1 p.2) r.tmps):=by
  rw[<-Array.foldl_toList,Array.toList_zip];rfl
 generalize htm:((r.params.toList.zip vs).foldl (fun tmps p=>tmps.setIfInBounds p.1 p.2) r.tmps)=tm at hzip
 obtain⟨hsz,htr⟩:=ap (N:=N) (c:=c') (ps:=r.params.toList) (it:=it) (vs:=vs) (t:=t) (tm:=r.tmps) [] hps hr hN (fun s x hx=>⟨by have:=(q4 s x hx).1;omega,(q4 s x hx).2⟩)
 rw[htm]at hsz htr
 let fr:Frame:={ (default:Frame)with fn:=r.fn,kind:=.normal,roundOf:=some l }
 have hfr:Frame.round l (Jj .ready r).fn (((Jj .ready r).params.zip vs.toArray).foldl (fun tmps (t,a)=>tmps.setIfInBounds t a) (Jj .ready r).tmps) (Jj .ready r).assign (Jj .ready r).body .normal=fr.atR { tmps:=tm,defers:=[] } [.code r.assign,.beginRound,.code r.body]:=by
  rw[hzip];simp[Frame.round,Frame.atR,fr,Jj]
 rw[hfr]
 have hS:Sm c' N [] (Q5 r.params.toList it t) (H1++[.lp l .ready r t]) { tmps:=tm,defers:=[] } c'.w:=⟨hsz,rfl,c',rfl,hH,hc,⟨.refl c',fun d hd=>(by cases hd),List.nodup_nil⟩,htr⟩
 obtain⟨D',e,t',H',a1,w1,⟨he1,he2⟩,⟨g1,g2,c5,g3,g4,g5,g6,g7⟩,hfin⟩:=hbody c' [] { tmps:=tm,defers:=[] } c'.w [.code r.assign,.beginRound,.code r.body] (by omega) (by simp only[Mv];exact⟨ha,trivial,hb,trivial⟩) hS fr (c::cs) rfl
 subst g3 g4
 obtain⟨c8,w6,hrun,hw8,hc8,hf8,hH8⟩:=gK (P:=P) g5 g6.fr hlen he1 q4 e
 have hlen5:n<c5.H.length:=(List.getElem?_eq_some_iff.1 he1).1
 refine⟨.bool (rV e).isNone,w6,⟨_,.bool (rV e).isNone,c8,rfl,hw8,⟨e,rfl,_,hH8,by simp[cut];omega,?_⟩,hc8,rfl,hf8⟩,?_⟩
 ·cases e<;>exact he2
 ·cases e with
  | fall=>exact Steps.trans hfin (.one (stepR_round_end rfl rfl hrun))
  | ret=>obtain⟨todo,hst⟩:=hfin;exact hst.trans (.one (stepR_round_ret rfl rfl hrun))
  | exit id=>obtain⟨k,hk,hst⟩:=hfin;exact hst.trans (.one (stepR_round_exit rfl rfl hk hrun))
theorem rM {a:Act}{w:World}(hs:Sm c0 N D t H a w){x:O}{g:Operand}(hg:BA g x=true){f:Nat}{fst caps:List V}(hx:ev t x=.fn (.func f) fst caps){items:List (List V)}(hit:Yf P f fst caps items)
  {ps:Array Nat} (hlen:∀ it∈items,it.length=ps.size) (hps:∀ p∈ps.toList,p<N) {Good:Nat->List Ob->Prop} {Stop:X->List Ob->Prop} (h0:Good 0 H) (htS:(t.map fun p=>(p.1,ren (AM H.length) p.2))=t) (hGs:∀ k H1,Good k H1->Je H.length H1) (hSs:∀ e H1,Stop e H1->Je H.length H1) {asg bd:Code} {a' b':C}
  (ha:∃ m,KG P N nd false m asg a'=true) (hb:∃ m,KG P N nd false m bd b'=true)
  (hbody:∀ l r k it H1,items[k]?=some it->Good k H1->Wk P N nd (some l) (H.length+1) [.c a',.br l H.length,.c b'] (Q5 ps.toList it t) (H1++[.lp l .ready r t]) (Yb l H.length r t (Good (k+1)) Stop))
  {b:Frame} (hro:b.roundOf=none) (k:List Item) (cs:List Frame) :
  ∃ D' a1 w1 H1 e,Sm c0 N D' t (H1++[.dead]) a1 w1/\Steps P (lone (b.atR a (.code (.rangeFunc g ps asg bd)::k)) cs w) (lone (b.atR a1 ((rV e).map Item.code |>.toList |>.append k)) cs w1)/\H1.length=H.length/\match e with | .fall=>Good items.length H1 | e=>Stop e H1:=by
 have hGl:∀ k H1,Good k H1->H1.length=H.length:=fun k H1 h=>(hGs k H1 h).1
 obtain⟨g1,g2,c,rfl,rfl,hc,hfd,h7⟩:=hs
 have hshut:∀ l st r H1,Je c.H.length H1->Je (c.H.length+1) (H1++[.lp l st r t]):=fun l st r H1 h=>by
  refine⟨by simp[h.1],?_⟩
  rw[List.map_append,fy h.2 (ze (by omega))]
  simp only[List.map_cons,List.map_nil,A6,Aff htS (Nat.le_succ _)]
 have hrf:=Ar h7 hg
 rw[hx]at hrf
 obtain⟨va,vc,e1,e2,e3⟩:=hrf
 let rec0:Loop:={ state:=.ready,pending:=none,fn:=b.fn,tmps:=a.tmps,params:=ps,assign:=asg,body:=bd,defers:=c.w.heap.size }
 have hfA:=Vh hc (.deferred (some []))
 have hcA:=gw hc (.deferred (some []))
 have hDA:tG c0 (OS c.w.heap.size::D) (c.addNew (.deferred (some []))):=by
  refine⟨hfd.fr.trans hfA,fun d hd=>?_,List.nodup_cons.2 ⟨fun hd=>?_,hfd.nodup⟩⟩
  case refine_2 =>
   obtain⟨b',p1,p2,p3,_⟩:=hfd.marks _ hd
   have hlt:=(Array.getElem?_eq_some_iff.1 p3).1
   simp only[OS,Deferred.mk.injEq,Target.collected.injEq,and_true]at p1
   omega
  rcases List.mem_cons.1 hd with rfl | hd
  ·refine⟨_,rfl,hfd.fr.size,heap_alloc_new _ _,?_,fun o ho=>absurd (hc.okLt _ _ ho) (Nat.lt_irrefl _)⟩
   rintro ⟨i,k',hi,hr⟩
   exact absurd (JJ hc hi hr) (Nat.lt_irrefl _)
  ·exact (hfd.trans hfA).marks d hd
 generalize hcAg:c.addNew (.deferred (some []))=cA at hfA hcA hDA
 have hAw:cA.w=c.w.alloc (.deferred (some [])):=by rw[<-hcAg];rfl
 have hAH:cA.H=c.H:=by rw[<-hcAg];rfl
 have hAs:cA.w.heap.size=c.w.heap.size+1:=by rw[hAw];simp
 have hfB:=I8 hcA (.loop rec0) (.lp cA.w.heap.size .ready rec0 t) 0 (fun _=>False)
 have hcB:Bb (cA.addOwn (.loop rec0) (.lp cA.w.heap.size .ready rec0 t) 0 fun _=>False):=by
  refine I9 hcA _ _ _ _ ⟨rfl,heap_alloc_new _ _,fun o ho=>absurd (hcA.okLt _ _ (ho.resolve_right (by simp))) (Nat.lt_irrefl _),fun s y hy=>⟨by have:=(h7 s y hy).1;show s<a.tmps.size;omega,B3 hfB (B3 hfA (h7 s y hy).2)⟩⟩
 generalize hcBg:(cA.addOwn (.loop rec0) (.lp cA.w.heap.size .ready rec0 t) 0 fun _=>False)=cB at hfB hcB
 have hBw:cB.w=(c.w.alloc (.deferred (some []))).alloc (.loop rec0):=by rw[<-hcBg,<-hAw];rfl
 have hBH:cB.H=c.H++[.lp (c.w.heap.size+1) .ready rec0 t]:=by rw[<-hcBg,<-hAs,<-hAH];rfl
 have henter:(Instr.enterLoop b.fn a.tmps ps asg bd b.roundOf).run P c.w=.ok (c.w.heap.size+1,[OS c.w.heap.size]) cB.w:=by
  rw[hro,run_enterLoop_outer,hBw];rfl
 generalize hl:c.w.heap.size+1=l at *
 have hcall:=hit (.yield l) (fun k' H'=>∃ H1,H'=H1++[.lp l .ready rec0 t]/\Good k' H1) (fun H'=>∃ e H1,H'=H1++[.lp l (Ji e) rec0 t]/\H1.length=c.H.length/\e≠.fall/\Stop e H1) (c.H.length+1) (fun k' H' ⟨H1,h1,h2⟩=>h1▸hshut _ _ _ _ (hGs _ _ h2)) (fun H' ⟨e,H1,h1,_,_,h2⟩=>h1▸hshut _ _ _ _ (hSs _ _ h2)) (by
  rintro k' it H' hk' ⟨H1,rfl,hG⟩
  have hmem:=List.mem_of_getElem? hk'
  have:=eZ (P:=P) (nd:=nd) (N:=N) (l:=l) (n:=c.H.length) (r:=rec0) (a':=a') (b':=b') (t:=t) (it:=it) (H1:=H1) (next:=Good (k'+1)) (stop:=Stop) hps (hlen it hmem) g1 (hGl _ _ hG) ha hb (hbody l rec0 k' it H1 hk' hG)
  intro c' vs h1 h2 h3
  refine (this c' vs h1 h2 h3).mono ?_
  rintro e w' ⟨v,x',c'',p1,p2,⟨ex,rfl,H2,p3,p4,p5⟩,p6⟩
  refine⟨v,_,c'',p1,p2,?_,p6⟩
  cases ex with
  | fall=>exact .inl ⟨rfl,H2,p3,p5⟩
  | ret=>exact .inr ⟨rfl,.ret,H2,p3,p4,by simp,p5⟩
  | exit id=>exact .inr ⟨rfl,.exit id,H2,p3,p4,by simp,p5⟩) cB.H ⟨c.H,hBH,h0⟩
 obtain⟨hin,hcalls⟩:=hcall cB (va.toList++[.func (.yield l) #[] #[]]++vc.toList) rfl hcB (GN (GN (TT hfB (TT hfA e2)) ⟨_,[],rfl,⟨#[],#[],rfl,rfl,rfl⟩,rfl⟩) (TT hfB (TT hfA e3)))
 have hargs:(va.toList++[Value.func (.yield l) #[] #[]]++vc.toList).toArray=va++#[Value.func (.yield l) #[] #[]]++vc:=by apply Array.ext';simp
 rw[hargs]at hin hcalls
 have hres:(resolve a.eval (rangeCall g l) 0).run P cB.w=.ok { target:=.fn (.func f) vc,args:=va++#[Value.func (.yield l) #[] #[]] } cB.w:=by
  have hcst:∀ v,a.eval (.const v)=v:=fun _=>rfl
  simp[resolve,rangeCall,e1,Deferred.ofValue,hcst]
 have hstep:=stepR_rangeFunc (P:=P) (b:=b) (a:=a) (k:=k) (cs:=cs) (w:=c.w) (g:=g) (ps:=ps) (assign:=asg) (body:=bd) henter hres (by simpa[invoke]using hin)
 obtain⟨ev,w3,fr,⟨v,xv,c3,rfl,rfl,hQ,hc3,_,hf3⟩,hsteps,_,hleave⟩:=hcalls (b.atR { a with defers:=[OS c.w.heap.size]++a.defers } (.inRangeFunc l::k)::cs)
 have hback:Steps P (lone (b.atR a (.code (.rangeFunc g ps asg bd)::k)) cs c.w) (lone (b.atR { a with defers:=OS c.w.heap.size::a.defers } (.endRangeFunc l::k)) cs c3.w):=by
  refine .head hstep (Steps.trans hsteps (.one ?_))
  rw[step_leave_returned hleave,finish_atR_inRangeFunc];rfl
 obtain⟨e,H1,hH3,hl1,hpost⟩:∃ e H1,c3.H=H1++[.lp l (Ji e) rec0 t]/\H1.length=c.H.length/\match e with | .fall=>Good items.length H1 | e=>Stop e H1:=by
  rcases hQ with ⟨H1,h1,h2⟩|⟨e,H1,h1,h2,h3,h4⟩
  ·exact⟨.fall,H1,h1,hGl _ _ h2,h2⟩
  ·refine⟨e,H1,h1,h2,?_⟩
   cases e with
   | fall=>exact absurd rfl h3
   | ret=>exact h4
   | exit id=>exact h4
 have hlast:c3.H[c.H.length]?=some (.lp l (Ji e) rec0 t):=by rw[hH3,List.getElem?_append_right (by omega),hl1];simp
 obtain⟨q1,q2,q3,q4⟩:=hc3.obj _ _ hlast
 have hpend:(Jj (Ji e) rec0).pending=rV e:=by cases e<;>rfl
 have hend:(Instr.endLoop l).run P c3.w=.ok (rV e) (c3.w.putObj l (.loop { Jj (Ji e) rec0 with state:=.exhausted })):=by
  rw[<-hpend]
  exact run_endLoop (P:=P) (w:=c3.w) (l:=l) (r:=Jj (Ji e) rec0) q2 (by cases e<;>simp[Ji,Jj])
 obtain⟨hf4,hc4⟩:=uL hc3 hlast q1 q3 (.loop { Jj (Ji e) rec0 with state:=.exhausted })
 have hfr:=(hfA.trans hfB).trans (hf3.trans hf4)
 refine⟨OS c.w.heap.size::D,{ a with defers:=OS c.w.heap.size::a.defers },_,H1,e,⟨g1,by rw[g2],c3.letGo l (.loop { Jj (Ji e) rec0 with state:=.exhausted }) c.H.length,rfl,?_,hc4,(hDA.trans hfB).trans (hf3.trans hf4),fun s y hy=>⟨(h7 s y hy).1,B3 hfr (h7 s y hy).2⟩⟩,?_,hl1,hpost⟩
 ·show c3.H.set c.H.length .dead=_
  rw[hH3,<-hl1,List.set_append_right _ _ (Nat.le_refl _)]
  simp
 ·exact hback.trans (.one (stepR_endRangeFunc hend))
theorem Abx (hm:P.follows .mixedOrders=true)(h:Ax P nd B s t H Q):∀ ro,Mo P N nd ro B s t H Q:=by
 induction h with
 | done hq =>
  intro ro c0 D a w k hB hk hs b cs hb
  simp only[Mv]at hk
  subst hk
  exact⟨D,.fall,_,_,a,w,hq,hs,.refl _ _⟩
 | skip _ ih =>
  intro ro
  have ih:=Wk.of_mo (ih ro)
  intro c0 D a w k hB hk hs b cs hb
  rcases DF hk with ⟨code,k,m,rfl,h1,h2⟩|⟨x,a,k',m,h0,_⟩
  ·cases m with
   | zero=>simp[KG]at h1
   | succ m =>
    cases code<;>simp only[KG,Bool.false_eq_true]at h1
    obtain⟨D',e,t',H',a',w',r1,r2,r3⟩:=ih c0 D a w k hB h2 hs b cs hb
    exact⟨D',e,t',H',a',w',r1,r2,.of_steps (.one stepR_skip) r3⟩
  ·cases h0
 | seq _ ih =>
  intro ro
  have ih:=Wk.of_mo (ih ro)
  intro c0 D a w k hB hk hs b cs hb
  rcases DF hk with ⟨code,k,m,rfl,h1,h2⟩|⟨x,a,k',m,h0,_⟩
  ·cases m with
   | zero=>simp[KG]at h1
   | succ m =>
    cases code<;>simp only[KG,Bool.false_eq_true,Bool.and_eq_true]at h1
    rename_i c1 c2
    obtain⟨D',e,t',H',a',w',r1,r2,r3⟩:=ih c0 D a w (.code c1::.code c2::k) hB (by simp only[Mv];exact⟨⟨m,h1.1⟩,⟨m,h1.2⟩,h2⟩) hs b cs hb
    exact⟨D',e,t',H',a',w',r1,r2,.of_steps (.one stepR_seq) r3⟩
  ·cases h0
 | reg _ ih =>
  intro ro c0 D a w k hB hk hs b cs hb
  rcases DF hk with ⟨code,k,m,rfl,h1,h2⟩|⟨x,a,k',m,h0,_⟩
  ·cases m with
   | zero=>simp[KG]at h1
   | succ m =>
    cases code<;>simp only[KG,Bool.false_eq_true]at h1
    rename_i id ops draw
    cases draw<;>simp only[Bool.false_eq_true]at h1
    have:=af (Q:=fun a' w'=>∃ t' H',Sm c0 N D t' H' a' w'/\Wk P N nd ro _ _ t' H' _) hB (fun t' H' a' w' hr' hs'=>⟨t',H',hs',by cases hr' with | done hq=>exact hq.2⟩) _ _ _ _ a w h1 (ih ro) hs
    obtain⟨a1,w1,⟨t1,H1,hs1,hc1⟩,harr⟩:=dt (id:=id) this b k cs
    obtain⟨D',e,t',H',a',w',r1,r2,r3⟩:=hc1 c0 D a1 w1 k hB h2 hs1 b cs hb
    exact⟨D',e,t',H',a',w',r1,r2,.of_steps harr r3⟩
  ·cases h0
 | dr _ ih =>
  intro ro c0 D a w k hB hk hs b cs hb
  rcases DF hk with ⟨code,k,m,rfl,h1,h2⟩|⟨x,a,k',m,h0,_⟩
  ·cases m with
   | zero=>simp[KG]at h1
   | succ m =>
    cases code<;>simp only[KG,Bool.false_eq_true]at h1
    rename_i id ops draw
    cases draw<;>simp only[Bool.false_eq_true]at h1
    have:=tE (Q:=fun a' w'=>∃ t' H',Sm c0 N D t' H' a' w'/\Wk P N nd ro _ _ t' H' _) (fun t' H' a' w' hr' hs'=>⟨t',H',hs',by cases hr' with | done hq=>exact hq.2⟩) h1 (ih ro) (rz hs (w.drawn+1) (Nat.le_succ _))
    obtain⟨a1,w1,⟨t1,H1,hs1,hc1⟩,harr⟩:=TV hm (id:=id) this b k cs
    obtain⟨D',e,t',H',a',w',r1,r2,r3⟩:=hc1 c0 D a1 w1 k hB h2 hs1 b cs hb
    exact⟨D',e,t',H',a',w',r1,r2,.of_steps harr r3⟩
  ·cases h0
 | gh _ ih =>
  intro ro c0 D a w k hB hk hs b cs hb
  rcases DF hk with ⟨code,k,m,rfl,h1,h2⟩|⟨x,a,k',m,h0,_⟩
  ·cases m with
   | zero=>simp[KG]at h1
   | succ m =>
    simp only[KG,Bool.and_eq_true]at h1
    have:=af (ops:=#[]) (Q:=fun a' w'=>∃ t' H',Sm c0 N D t' H' a' w'/\Wk P N nd ro _ _ t' H' _) hB (fun t' H' a' w' hr' hs'=>⟨t',H',hs',by cases hr' with | done hq=>exact hq.2⟩) _ [] _ _ a w (XY h1.1.1 h1.1.2) (ih ro) hs
    obtain⟨t1,H1,hs1,hc1⟩:=this
    exact hc1 c0 D a w (.code code::k) hB (by simp only[Mv];exact⟨⟨m,h1.2⟩,h2⟩) hs1 b cs hb
  ·cases h0
 | rend _ ih=>exact fun ro=>.rend (.done ⟨rfl,Wk.of_mo (ih ro)⟩)
 | op t' H' he _ ih=>exact fun ro=>.op t' H' he (ih ro)
 | call idx R h1 h2 h3 _ ih=>exact fun ro=>.call idx R h1 h2 h3 fun x H' hR hl=>ih x H' hR hl ro
 | callv f fst caps idx R h0 hF h1 h2 h3 _ ih=>exact fun ro=>.callv f fst caps idx R h0 hF h1 h2 h3 fun x H' hR hl=>ih x H' hR hl ro
 | callA R h3 _ ih=>exact fun ro=>.callA R h3 fun x H' hR=>ih x H' hR ro
 | callvA F fst caps R h0 hF h3 _ ih=>exact fun ro=>.callvA F fst caps R h0 hF h3 fun x H' hR=>ih x H' hR ro
 | callp x h1 _ ih=>exact fun ro=>.callp x h1 (ih ro)
 | callvp f fst caps x h0 h1 _ ih=>exact fun ro=>.callvp f fst caps x h0 h1 (ih ro)
 | alt _ ih=>exact fun ro=>.alt fun p hp=>ih p hp ro
 | nx j i n seen es h1 h2 h3 h4 _ _ ih5 ih6=>exact fun ro=>.nx j i n seen es h1 h2 h3 h4 (fun h=>ih5 h ro) fun k p hp hk=>ih6 k p hp hk ro
 | gd c hx _ ih=>exact fun ro=>.gd c hx (ih ro)
 | gdU hx _ ih=>exact fun ro=>.gdU hx (ih ro)
 | cond c hx _ ih =>
  intro ro
  have ih:=Wk.of_mo (ih ro)
  intro c0 D a w k hB hk hs b cs hb
  rcases DF hk with ⟨code,k,m,rfl,h1,h2⟩|⟨x,a,k',m,h0,_⟩
  ·cases m with
   | zero=>simp[KG]at h1
   | succ m =>
    cases code<;>simp only[KG,Bool.false_eq_true,Bool.and_eq_true]at h1
    rename_i y c1 c2
    obtain⟨_,_,_,_,_,hr⟩:=JC hs h1.1.1
    rw[hx]at hr
    have hr':a.eval y=.bool c:=hr
    obtain⟨D',e,t',H',a',w',r1,r2,r3⟩:=ih c0 D a w (.code (if c then c1 else c2)::k) hB (by
     simp only[Mv]
     refine⟨⟨m,?_⟩,h2⟩
     cases c
     ·exact h1.2
     ·exact h1.1.2) hs b cs hb
    exact⟨D',e,t',H',a',w',r1,r2,.of_steps (.one (stepR_cond hr')) r3⟩
  ·cases h0
 | blk _ ih =>
  intro ro
  have ih:=Wk.of_mo (ih ro)
  intro c0 D a w k hB hk hs b cs hb
  rcases DF hk with ⟨code,k,m,rfl,h1,h2⟩|⟨x,a,k',m,h0,_⟩
  ·cases m with
   | zero=>simp[KG]at h1
   | succ m =>
    cases code<;>simp only[KG,Bool.false_eq_true,Bool.and_eq_true,beq_iff_eq]at h1
    rename_i id c1
    obtain⟨D',e,t',H',a',w',r1,r2,r3⟩:=ih c0 D a w (.code c1::.inBlock id::k) hB (by simp only[Mv];exact⟨⟨m,h1.2⟩,h1.1,h2⟩) hs b cs hb
    exact⟨D',e,t',H',a',w',r1,r2,.of_steps (.one stepR_block) r3⟩
  ·cases h0
 | mk _ ih =>
  intro ro
  have ih:=Wk.of_mo (ih ro)
  intro c0 D a w k hB hk hs b cs hb
  cases k with
  | nil=>simp[Mv]at hk
  | cons i k =>
   cases i<;>simp only[Mv]at hk
   obtain⟨D',e,t',H',a',w',r1,r2,r3⟩:=ih c0 D a w k hB hk.2 hs b cs hb
   exact⟨D',e,t',H',a',w',r1,r2,.of_steps (.one stepR_inBlock) r3⟩
 | loop _ ih =>
  intro ro
  have ih:=Wk.of_mo (ih ro)
  intro c0 D a w k hB hk hs b cs hb
  rcases DF hk with ⟨code,k,m,rfl,h1,h2⟩|⟨x,c,k,m,h0,rfl,h1,h2⟩
  ·cases m with
   | zero=>simp[KG]at h1
   | succ m =>
    cases code<;>simp only[KG,Bool.false_eq_true]at h1
    rename_i c1
    obtain⟨D',e,t',H',a',w',r1,r2,r3⟩:=ih c0 D a w (.code c1::.inLoop c1::k) hB (by simp only[Mv];exact⟨⟨m,h1⟩,⟨m,h1⟩,h2⟩) hs b cs hb
    exact⟨D',e,t',H',a',w',r1,r2,.of_steps (.one stepR_loop) r3⟩
  ·cases h0
   obtain⟨D',e,t',H',a',w',r1,r2,r3⟩:=ih c0 D a w (.code c::.inLoop c::k) hB (by simp only[Mv];exact⟨⟨m,h1⟩,⟨m,h1⟩,h2⟩) hs b cs hb
   exact⟨D',e,t',H',a',w',r1,r2,.of_steps (.one stepR_inLoop) r3⟩
 | exit s' hp _ ih =>
  intro ro
  have ih:=Wk.of_mo (ih ro)
  intro c0 D a w k hB hk hs b cs hb
  rcases DF hk with ⟨code,k,m,rfl,h1,h2⟩|⟨x,a,k',m,h0,_⟩
  ·cases m with
   | zero=>simp[KG]at h1
   | succ m =>
    cases code<;>simp only[KG,Bool.false_eq_true,beq_iff_eq]at h1
    subst h1
    obtain⟨k',e1,e2⟩:=TA hp h2
    obtain⟨D',e,t',H',a',w',r1,r2,r3⟩:=ih c0 D a w k' hB e2 hs b cs hb
    exact⟨D',e,t',H',a',w',r1,r2,.of_steps (.one (stepR_exit e1)) r3⟩
  ·cases h0
 | exitX hp hq =>
  intro ro c0 D a w k hB hk hs b cs hb
  rcases DF hk with ⟨code,k,m,rfl,h1,h2⟩|⟨x,a,k',m,h0,_⟩
  ·cases m with
   | zero=>simp[KG]at h1
   | succ m =>
    cases code<;>simp only[KG,Bool.false_eq_true,beq_iff_eq]at h1
    subst h1
    exact⟨D,_,_,_,a,w,hq,hs,k,Iz hp h2,.refl _ _⟩
  ·cases h0
 | ret hq =>
  intro ro c0 D a w k hB hk hs b cs hb
  rcases DF hk with ⟨code,k,m,rfl,h1,h2⟩|⟨x,a,k',m,h0,_⟩
  ·cases m with
   | zero=>simp[KG]at h1
   | succ m =>
    cases code<;>simp only[KG,Bool.false_eq_true]at h1
    exact⟨D,_,_,_,a,w,hq,hs,k,.refl _ _⟩
  ·cases h0
 | n _ ih =>
  intro ro
  have ih:=Wk.of_mo (ih ro)
  intro c0 D a w k hB hk hs b cs hb
  rcases DF hk with ⟨code,k,m,rfl,h1,h2⟩|⟨x,a,k',m,h0,_⟩
  ·cases m with
   | zero=>simp[KG]at h1
   | succ m =>
    simp only[KG]at h1
    exact ih c0 D a w (.code code::k) hB (by simp only[Mv];exact⟨⟨m,h1⟩,h2⟩) hs b cs hb
  ·cases h0
 | m _ ih =>
  intro ro
  have ih:=Wk.of_mo (ih ro)
  intro c0 D a w k hB hk hs b cs hb
  rcases DF hk with ⟨code,k,m,rfl,h1,h2⟩|⟨x,a,k',m,h0,_⟩
  ·cases m with
   | zero=>simp[KG]at h1
   | succ m =>
    simp only[KG]at h1
    exact ih c0 D a w (.code code::k) hB (by simp only[Mv];exact⟨⟨m,h1⟩,h2⟩) hs b cs hb
  ·cases h0
 | nl els h1 _ ih=>exact fun ro=>.nl els h1 fun c hc=>ih c hc ro
 | br hH _ ih =>
  rename_i l n r ts s t H Q _
  intro ro
  have ih:=Wk.of_mo (ih ro)
  intro c0 D a w k hB hk hs b cs hb
  cases k with
  | nil=>simp[Mv]at hk
  | cons i k =>
   cases i<;>simp only[Mv]at hk
   obtain⟨rfl,hk⟩:=hk
   obtain⟨g1,g2,c,rfl,rfl,hc,hfd,h7⟩:=hs
   obtain⟨q1,q2,q3,q4⟩:=hc.obj n _ hH
   have hrun:=run_beginRound (P:=P) (w:=c.w) (l:=l) (r:=Jj .ready r) q2 rfl
   have hext:CG (.lp l .ready r ts) (.lp l .busy r ts) (c.ρ n) (c.ρ n):=⟨rfl,rfl⟩
   have hlt:l<c.w.heap.size:=(Array.getElem?_eq_some_iff.1 q2).1
   have hf:=aX hc hH q1 q3 (.loop (Jj .busy r)) hext
   have hcn:Bb (c.pt l (.loop (Jj .busy r)) n (.lp l .busy r ts)):=TZ hc hH q1 q3 _ hext ⟨q1,by simp[Cx.pt,hlt],q3,q4.mono fun _ _=>B3 hf⟩
   obtain⟨D',e,t',H',a',w',r1,r2,r3⟩:=ih c0 D a (c.pt l (.loop (Jj .busy r)) n (.lp l .busy r ts)).w k hB hk ⟨g1,g2,_,rfl,rfl,hcn,hfd.trans hf,EE hf h7⟩ b cs hb
   exact⟨D',e,t',H',a',w',r1,r2,.of_steps (.one (stepR_beginRound hb hrun)) r3⟩
 | rf f fst caps items Good Stop hx hit hlen h0 htS hGs hSs _ _ _ ihb ihg ihs =>
  rename_i x ps a' b' s t H Q _ _ _
  intro ro c0 D a w k hB hk hs b cs hb
  rcases DF hk with ⟨code,k,m,rfl,h1,h2⟩|⟨x,a,k',m,h0,_⟩
  ·cases m with
   | zero=>simp[KG]at h1
   | succ m =>
    cases code<;>simp only[KG,Bool.false_eq_true,Bool.and_eq_true,beq_iff_eq,Option.isNone_iff_eq_none]at h1
    rename_i g ps' asg bd
    obtain⟨⟨⟨⟨⟨rfl,h3⟩,rfl⟩,h4⟩,h5⟩,h6⟩:=h1
    obtain⟨D1,a1,w1,H1,e,hs1,hst,hl1,hpost⟩:=rM (P:=P) (nd:=nd) (N:=N) hs h3 hx hit (by simpa using hlen) (fun p hp=>by have:=List.all_eq_true.1 h4 p hp;simpa using this) h0 htS hGs hSs ⟨m,h5⟩ ⟨m,h6⟩ (fun l r k it H1 hk hg=>Wk.of_mo (ihb l r k it H1 hk hg (some l))) hb k cs
    cases e with
    | fall =>
     obtain⟨D',e,t',H',a',w',r1,r2,r3⟩:=Wk.of_mo (ihg H1 hpost none) c0 D1 a1 w1 k hB h2 hs1 b cs hb
     exact⟨D',e,t',H',a',w',r1,r2,.of_steps hst r3⟩
    | ret =>
     obtain⟨D',e,t',H',a',w',r1,r2,r3⟩:=Wk.of_mo (ihs .ret H1 hpost none) c0 D1 a1 w1 (.code .ret::k) hB (by simp only[Mv];exact⟨⟨1,rfl⟩,h2⟩) hs1 b cs hb
     exact⟨D',e,t',H',a',w',r1,r2,.of_steps hst r3⟩
    | exit id =>
     obtain⟨D',e,t',H',a',w',r1,r2,r3⟩:=Wk.of_mo (ihs (.exit id) H1 hpost none) c0 D1 a1 w1 (.code (.exit id)::k) hB (by simp only[Mv];exact⟨⟨1,by simp[KG,eM]⟩,h2⟩) hs1 b cs hb
     exact⟨D',e,t',H',a',w',r1,r2,.of_steps hst r3⟩
  ·cases h0
end
end Go.Dw
end
section
namespace Go.Dw
def Zz (P:Program):List ResultVar->List RV->Bool
 | [],[]=>true
 | .tmp n::l,.t n'::r=>n==n'&&Zz P l r
 | .cell n ty::l,.c n'::r=>n==n'&&Ko P ty&&Zz P l r
 | .cell n ty::l,.a n' k::r=>n==n'&&cF P ty&&DR P ty k&&Zz P l r
 | _,_=>false
def gq (tmps:Array Value):ResultVar->Sem Value
 | .tmp t=>pure (tmps.getD t undef)
 | .cell a t=>do loadVar t (<- asAddr (tmps.getD a undef))
theorem Nk {P:Program}{α:Type}(f:α->Sem Value)(w:World):∀ (l:List α)(vs:List Value),l.length=vs.length->(∀ (i:Nat)(x:α)(v:Value),l[i]?=some x->vs[i]?=some v->(f x).run P w=.ok v w)->(l.mapM f).run P w=.ok vs w
 | [],[],_,_=>by simp
 | x::l,v::vs,hl,h=>by
  have h1:=h 0 x v rfl rfl
  have h2:=Nk f w l vs (by simpa using hl) fun i x v hx hv=>h (i+1) x v (by simpa using hx) (by simpa using hv)
  simp[List.mapM_cons,h1,h2]
 | [],_::_,hl,_=>by simp at hl
 | _::_,[],hl,_=>by simp at hl
section
variable {P:Program} {c0:Cx} {N:Nat} {D:List Deferred} {t:T} {H:List Ob} {a:Act} {w:World}
theorem YL {c:Cx}(h3:c.w=w)(h4:c.H=H)(h5:Bb c)(h7:Kl N c t a):∀ {l:List ResultVar} {rs:List RV} {xs:List V},Zz P l rs=true->rvs t H rs=some xs ->
  ∃ vs:List Value,l.length=vs.length/\CZ c xs vs/\∀ (i:Nat)(x:ResultVar)(v:Value),l[i]?=some x->vs[i]?=some v->(gq a.tmps x).run P w=.ok v w
 | [],[],xs,_,h=>by
  simp only[rvs,Option.some.injEq]at h
  subst h
  exact⟨[],rfl,rfl,by simp⟩
 | [],_::_,_,h,_=>by simp[Zz]at h
 | r::l,[],_,h,_=>by cases r<;>simp[Zz]at h
 | r::l,y::rs,xs,hk,h=>by
  simp only[rvs]at h
  split at h
  case h_2=>cases h
  rename_i x xs' hx hxs
  cases h
  have key:Zz P l rs=true/\∃ v,(gq a.tmps r).run P w=.ok v w/\BI c x v:=by
   subst h3;subst h4
   cases r<;>cases y<;>simp only[Zz,Bool.false_eq_true,Bool.and_eq_true,beq_iff_eq]at hk
   case tmp.t n n' =>
    obtain⟨rfl,hk⟩:=hk
    simp only[rvV,Option.some.injEq]at hx
    subst hx
    exact⟨hk,_,by simp[gq],Ky h7 n⟩
   case cell.c n ty n' =>
    obtain⟨⟨rfl,hp⟩,hk⟩:=hk
    simp only[rvV]at hx
    obtain⟨b,off,u,q1,q2,q3⟩:=YM h5 hx (Ky h7 n)
    refine⟨hk,u,?_,q3⟩
    simp only[gq,q1]
    simp[asAddr,Pa hp q2]
   case cell.a n ty n' k =>
    obtain⟨⟨⟨rfl,hp⟩,hz⟩,hk⟩:=hk
    simp only[rvV]at hx
    obtain⟨b,off,vs,q1,q2,q3,q4⟩:=YE h5 hx (Ky h7 n)
    refine⟨hk,_,?_,q4⟩
    simp only[gq,q1]
    simp[asAddr,Pq hp hz q2 q3]
  obtain⟨hk,v,hv,hr⟩:=key
  obtain⟨vs,q1,q2,q3⟩:=YL h3 h4 h5 h7 hk hxs
  refine⟨v::vs,by simp[q1],⟨v,vs,rfl,hr,q2⟩,fun i x' v' h1 h2=>?_⟩
  cases i with
  | zero=>simp at h1 h2;subst h1;subst h2;exact hv
  | succ i=>exact q3 i x' v' (by simpa using h1) (by simpa using h2)
theorem T2 (fn:Func)(tmps:Array Value):results fn tmps=(do let vs <- fn.results.mapM (gq tmps);pure (if h:vs.size=1 then vs[0] else .tuple vs)):=by
 unfold results
 congr 1
theorem Y1 {fn:Func}{rs:List RV}{x:V}{c:Cx}(h3:c.w=w)(h4:c.H=H)(h5:Bb c)(h7:Kl N c t a)(hk:Zz P fn.results.toList rs=true)(h:Uh rs t H=some x) :
  ∃ v,(results fn a.tmps).run P w=.ok v w/\BI c x v:=by
 unfold Uh at h
 have hrun:∀ vs:List Value,(fn.results.toList.mapM (gq a.tmps)).run P w=.ok vs w->(fn.results.mapM (gq a.tmps)).run P w=.ok vs.toArray w:=by
  intro vs hv
  rw[Array.mapM_eq_mapM_toList]
  simp[hv]
 split at h
 ·rename_i x' hx
  cases h
  obtain⟨vs,q1,q2,q3⟩:=YL h3 h4 h5 h7 hk hx
  obtain⟨v,vs',rfl,r1,r2⟩:=q2
  cases r2
  refine⟨v,?_,r1⟩
  rw[T2]
  simp[hrun _ (Nk _ w _ _ q1 q3)]
 ·rename_i xs hne hx
  cases h
  obtain⟨vs,q1,q2,q3⟩:=YL h3 h4 h5 h7 hk hx
  refine⟨.tuple vs.toArray,?_,⟨vs.toArray,rfl,q2⟩⟩
  rw[T2]
  have hl:vs.length≠1:=by
   intro e
   have:=C8 q2
   match xs,this with
   | [y],_=>exact hne y rfl
   | [],h=>simp[e]at h
   | _::_::_,h=>simp[e]at h
  simp[hrun _ (Nk _ w _ _ q1 q3),hl]
 ·cases h
end
def vr:Nat->List V->T
 | _,[]=>[]
 | k,x::xs=>(k,x)::vr (k+1) xs
theorem dU:∀ {xs:List V} {k s:Nat} {x:V},find (vr k xs) s=some x->k<=s/\xs[s-k]?=some x
 | [],_,_,_,h=>by simp[vr,find]at h
 | y::ys,k,s,x,h=>by
  simp only[vr,find]at h
  by_cases e:k=s
  ·subst e;rw[if_pos rfl]at h;cases h
   exact⟨Nat.le_refl _,by simp⟩
  ·rw[if_neg e]at h
   obtain⟨h1,h2⟩:=dU h
   refine⟨by omega,?_⟩
   have:s-k=(s-(k+1))+1:=by omega
   rw[this]
   simpa using h2
theorem yK {c c':Cx}(hf:Fr c c'){ex:List Nat}(hex:∀ i∈ex,i<c'.H.length):Fr c (c'.give (List.range c.H.length++ex)):=by
 refine⟨hf.okS,hf.cell,hf.size,hf.okN,hf.heap,fun b hb=>?_,fun i o hi=>?_,hf.os,hf.tape,hf.output,hf.drawn⟩
 ·obtain⟨k,m,hk,hr⟩:=hb
  have hk:=QV hk
  have e1:=List.getElem?_eq_getElem hk
  simp only[Cx.give,e1]at hr
  refine hf.own b ⟨_,m,?_,hr⟩
  rcases List.mem_append.1 (List.getElem_mem hk)with h | h
  ·have:=hf.ext.lt (List.mem_range.1 h)
   exact this
  ·exact hex _ h
 ·have hlt:=(List.getElem?_eq_some_iff.1 hi).1
  obtain⟨o',q1,q2⟩:=hf.ext i o hi
  have e1:(List.range c.H.length++ex)[i]?=some i:=by
   rw[List.getElem?_append_left (by simpa using hlt)]
   simp[hlt]
  refine⟨_,by simp only[Cx.give,Qk,e1,Option.map_some,Hu q1];rfl,?_⟩
  simp only[Cx.give,e1]
  cases o<;>cases o'<;>simp only[CG,A6,List.length_map]at q2 ⊢<;>exact q2
def Bd (P:Program)(f:Nat)(nd:Nat->C)(c:C)(n:Nat)(rs:List RV):Bool:=match P.funcs[f]? with
 | some fn => fn.name != "runtime.NumGoroutine" && decide (n <= fn.ntmps)&&Zz P fn.results.toList rs&&(match fn.body with | some b => KG P fn.ntmps nd true 1000 b c | none => false)
 | none=>false
theorem Vp {P:Program}{c0:Cx}:∀ (D:List Deferred)(c:Cx)(fr:Frame)(cs:List Frame),Bb c->tG c0 D c->fr.mode=.returning->fr.defers=D ->
  ∃ c',Steps P (lone fr cs c.w) (lone { fr with defers:=[] } cs c'.w)/\Bb c'/\Fr c0 c'/\c'.H=c.H/\∀ x v,BI c x v->BI c' x v
 | [],c,fr,cs,hc,hf,hm,hd=>⟨c,by rw[show { fr with defers:=[] }=fr by cases fr;simp_all];exact .refl _ _,hc,hf.fr,rfl,fun _ _ h=>h⟩
 | d::D,c,fr,cs,hc,hf,hm,hd=>by
  obtain⟨b,rfl,p2,p3,p4,p5⟩:=hf.marks d (by simp)
  have hlt:=(Array.getElem?_eq_some_iff.1 p3).1
  have hstep:=step_collected (P:=P) (fr:=fr) (cs:=cs) (w:=c.w) (d:=OS b) (r:=b) (ds:=D) (by rw[hm];simp) hd rfl (run_takeDeferred p3)
  let c1:Cx:=⟨c.w.putObj b (.deferred none),c.ok,c.ρ,c.H⟩
  have hcell:∀ b' o,c.ok b' o->c1.w.cell? ⟨b',o,none⟩=c.w.cell? ⟨b',o,none⟩:=fun b' o h=>by
   have hne:b'≠b:=by intro e;subst e;exact p5 _ h
   simp only[c1,World.cell?,World.putObj_heap_other hne]
  have hext:pw c c1:=fun i o h=>⟨o,h,by cases o<;>simp[CG,c1]⟩
  have hrep:∀ x v,BI c x v->BI c1 x v:=Tz hcell (fun _ _ h=>h) hext
  have hother:∀ i b' k,i<c.H.length->c.ρ i=some (b',k)->c1.w.heap[b']?=c.w.heap[b']?:=fun i b' k hi hr=>by
   have hne:b'≠b:=by intro e;subst e;exact p4 ⟨i,k,hi,hr⟩
   simp only[c1,World.putObj_heap_other hne]
  have hc1:Bb c1:=by
   refine⟨hc.inj,fun b' o h=>by simpa[c1]using hc.okLt b' o h,fun i o hi=>?_,fun p hp=>by
    obtain⟨⟨e,fz,g1⟩,g2⟩:=hc.glob p hp
    have hne:p.1≠b:=fun h=>by rw[h,p3]at g1;cases g1
    exact⟨⟨e,fz,by simp only[c1,World.putObj_heap_other hne];exact g1⟩,g2⟩⟩
   have hil:=(List.getElem?_eq_some_iff.1 hi).1
   have h:=hc.obj i o hi
   cases o with
   | cells e cs =>
    obtain⟨b,vs,q1,q2,q3,q4,q5⟩:=h
    exact⟨b,vs,q1,(hother i b 0 hil q1).trans q2,q3,q4,fun i x hx=>(q5 i x hx).imp fun v hv=>⟨hv.1,hv.2.1,hrep _ _ hv.2.2⟩⟩
   | arr e sz n =>
    refine⟨h.1,fun b k hr=>?_⟩
    obtain⟨vs,q1,q2⟩:=h.2 b k hr
    exact⟨vs,(hother i b k hil hr).trans q1,q2⟩
   | map es =>
    obtain⟨b,ents,q1,q2,q3,q4⟩:=h
    exact⟨b,ents,q1,(hother i b 0 hil q1).trans q2,q3,q4.mono hrep⟩
   | iter m n seen =>
    obtain⟨b,bm,q1,q2,q3,q4⟩:=h
    exact⟨b,bm,q1,(hother i b bm hil q1).trans q2,q3,q4.mono hext⟩
   | dead=>exact h
   | row e sz els =>
    refine⟨h.1,fun b k hr=>?_⟩
    obtain⟨vs,q1,q2,q3,q4,q5,q6⟩:=h.2 b k hr
    exact⟨vs,(hother i b k hil hr).trans q1,q2,q3,q4,q5,q6.mono hrep⟩
   | lp l st r ts =>
    obtain⟨q1,q2,q3,q4⟩:=h
    exact⟨q1,(hother i l 0 hil q1).trans q2,q3,q4.mono hrep⟩
  have hnd:=List.nodup_cons.1 hf.nodup
  have hf1:tG c0 D c1:=by
   have h:=hf.fr
   refine⟨⟨h.okS,fun b' o hb=>(hcell b' o (h.okS _ _ hb)).trans (h.cell b' o hb),by simpa[c1]using h.size,h.okN,fun b' hb' hno=>?_,h.own,h.ext.trans hext,h.os,h.tape,h.output,h.drawn⟩,fun d' hd'=>?_,hnd.2⟩
   ·have hne:b'≠b:=by omega
    simp only[c1,World.putObj_heap_other hne]
    exact h.heap b' hb' hno
   ·obtain⟨b',rfl,r2,r3,r4,r5⟩:=hf.marks d' (by simp[hd'])
    have hne:b'≠b:=by intro e;subst e;exact hnd.1 hd'
    exact⟨b',rfl,r2,by simp only[c1,World.putObj_heap_other hne];exact r3,r4,r5⟩
  obtain⟨c',s1,s2,s3,s4,s5⟩:=Vp D c1 { fr with defers:=[]++D } cs hc1 hf1 hm rfl
  exact⟨c',.head hstep s1,s2,s3,s4,fun x v h=>s5 _ _ (hrep _ _ h)⟩
theorem ON {P:Program}{f:Nat}{nd:Nat->C}{c:C}{n:Nat}{rs:List RV}(hm:P.follows .mixedOrders=true)(hok:Bd P f nd c n rs=true){args:List V}{H:List Ob}{Q:V->List Ob->Prop}(hn:args.length=n)
  (hrun:Ax P nd H.length [.c c] (vr 0 args) H (Bo H.length rs Q)):fc P f args H Q:=by
 intro cx vs hH hc hr
 subst hH
 unfold Bd at hok
 split at hok
 case h_2=>cases hok
 rename_i fn hfn
 simp only[Bool.and_eq_true,bne_iff_ne,ne_eq,decide_eq_true_eq]at hok
 obtain⟨⟨⟨h1,h2⟩,h3⟩,h4⟩:=hok
 split at h4
 case h_2=>cases h4
 rename_i body hb
 have hlen:vs.length=args.length:=(C8 hr).symm
 refine⟨by simp[callFunc,hfn,h1,hb],fun cs=>?_⟩
 let b:Frame:={ (default:Frame)with fn:=f,kind:=.normal }
 let a0:Act:={ tmps:=vs.toArray++Array.replicate (fn.ntmps-vs.toArray.size) undef,defers:=[] }
 have hro:b.roundOf=none:=rfl
 have henter:Frame.enter P f vs.toArray .normal=b.atR a0 [.code body]:=by rw[Frame.atR_of_none hro];simp[Frame.enter,Frame.at,hfn,hb,b,a0]
 have hs:Sm cx fn.ntmps [] (vr 0 args) cx.H a0 cx.w:=by
  refine⟨by simp[a0];omega,rfl,cx,rfl,rfl,hc,⟨.refl cx,fun d hd=>(by cases hd),List.nodup_nil⟩,fun s x hx=>?_⟩
  obtain⟨_,hx⟩:=dU hx
  simp only[Nat.sub_zero]at hx
  have hlt:=(List.getElem?_eq_some_iff.1 hx).1
  obtain⟨v,q1,q2⟩:=FG hr hx
  refine⟨by omega,?_⟩
  have:a0.tmps.getD s undef=v:=by
   have hlt2:=(List.getElem?_eq_some_iff.1 q1).1
   simp only[a0,Array.getD_eq_getD_getElem?]
   rw[Array.getElem?_append_left (by simpa using hlt2)]
   simp[q1]
  rw[this];exact q2
 have hcon:=Wk.of_mo (Abx (N:=fn.ntmps) hm hrun none)
 obtain⟨D',e,t',H',a',w',⟨he,hends⟩,⟨s1,s2,c',s3,s4,s5,s6,s7⟩,hfin⟩:=hcon cx [] a0 cx.w [.code body] (Nat.le_refl _) (by simp only[Mv];exact⟨⟨1000,h4⟩,trivial⟩) hs b cs hro
 subst s3;subst s4
 have hsteps:∃ fr,Steps P (lone (Frame.enter P f vs.toArray .normal) cs cx.w) (lone fr cs c'.w)/\fr.fn=f/\fr.mode=.returning/\fr.defers=D'/\fr.kind=.normal/\fr.tmps=a'.tmps:=by
  rw[henter]
  rcases he with rfl | rfl
  ·obtain⟨todo,hst⟩:=hfin
   exact⟨_,hst.trans (.one (stepR_ret hro)),rfl,rfl,s2,rfl,rfl⟩
  ·exact⟨_,Steps.trans hfin (.one (stepR_end hro)),rfl,rfl,s2,rfl,rfl⟩
 obtain⟨fr,e1,e2,e3,e4,e5,e6⟩:=hsteps
 obtain⟨c2,m1,m2,m3,m4,m5⟩:=Vp (P:=P) D' c' fr cs s5 s6 e3 e4
 have s7':Kl fn.ntmps c2 t' a':=fun s x hx=>⟨(s7 s x hx).1,m5 _ _ (s7 s x hx).2⟩
 rw[<-m4]at hends
 rcases hends with ⟨x,hx,hQ⟩|⟨ex,x,hnd,hex,hx,hQ⟩
 ·obtain⟨v,hv,hrep⟩:=Y1 (P:=P) (fn:=fn) rfl rfl m2 s7' h3 hx
  exact⟨.returned v,c2.w,{ fr with defers:=[] },⟨v,_,c2,rfl,rfl,hQ,m2,hrep,m3⟩,e1.trans m1,e2,e3,rfl,e5,fn,by rw[e2];exact hfn,by rw[e6];exact hv⟩
 ·obtain⟨v,hv,hrep⟩:=Y1 (P:=P) (fn:=fn) rfl rfl m2 s7' h3 hx
  have hlt:∀ i∈List.range cx.H.length++ex,i<c2.H.length:=fun i hi=>by
   rcases List.mem_append.1 hi with h | h
   ·exact m3.ext.lt (List.mem_range.1 h)
   ·exact hex i h
  exact⟨.returned v,c2.w,{ fr with defers:=[] },⟨v,_,c2.give (List.range cx.H.length++ex),rfl,rfl,hQ,Uj m2 hnd hlt,SU hnd hlt hrep,yK m3 hex⟩,e1.trans m1,e2,e3,rfl,e5,fn,by rw[e2];exact hfn,by rw[e6];exact hv⟩
theorem AK {P:Program}{f:Nat}{nd:Nat->C}{c:C}{n:Nat}{rs:List RV}(hm:P.follows .mixedOrders=true)(hok:Bd P f nd c n rs=true){args:List V}{H:List Ob}{Q:V->List Ob->Prop}(hn:args.length=n)
  (hrun:Ax P nd H.length [.c c] (vr 0 args) H (Bo H.length rs Q)):Spec P f args H Q:=(ON hm hok hn hrun).spec
end Go.Dw
end
