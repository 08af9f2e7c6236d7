/-
  Contracts and lemmas for ResidualDivides: part b of 10.
-/
import Derived.Test.YtkdcfkfdkimaeaaGreatDoorVaa
import Derived.Laws.BytesArg
import Derived.Laws.IdiomStrings
import Derived.Laws.MakeOwn
set_option linter.unusedVariables false
set_option linter.unusedSimpArgs false
section
namespace Go.Dw
theorem Do {c c':Cx}(hf:Fr c c'){o:Ob}{r:Option (Nat×Nat)}(h:WM c o r)(hb:∀ b k,r=some (b,k)->c'.w.heap[b]?=c.w.heap[b]?/\∀ x,c'.ok b x->c.ok b x):WM c' o r:=by
 cases o with
 | cells e cs =>
  obtain⟨b,vs,q1,q2,q3,q4,q5⟩:=h
  obtain⟨p1,p2⟩:=hb b 0 q1
  exact⟨b,vs,q1,p1.trans q2,q3,fun o ho=>q4 o (p2 _ ho),fun i x hx=>(q5 i x hx).imp fun v hv=>⟨hv.1,hv.2.1,AW hf hv.2.2⟩⟩
 | arr e sz n =>
  refine⟨h.1,fun b k hr=>?_⟩
  obtain⟨vs,q1,q2,q3,q4,q5⟩:=h.2 b k hr
  obtain⟨p1,p2⟩:=hb b k hr
  exact⟨vs,p1.trans q1,q2,q3,q4,fun o ho hh=>q5 o ho (p2 _ hh)⟩
 | map es =>
  obtain⟨b,ents,q1,q2,q3,q4⟩:=h
  obtain⟨p1,p2⟩:=hb b 0 q1
  exact⟨b,ents,q1,p1.trans q2,fun o ho=>q3 o (p2 _ ho),q4.mono fun _ _=>AW hf⟩
 | iter m n seen =>
  obtain⟨b,bm,q1,q2,q3,q4⟩:=h
  obtain⟨p1,p2⟩:=hb b bm q1
  exact⟨b,bm,q1,p1.trans q2,fun o ho=>q3 o (p2 _ ho),q4.mono hf.ext⟩
 | dead=>exact h
 | row e sz els =>
  refine⟨h.1,fun b k hr=>?_⟩
  obtain⟨vs,q1,q2,q3,q4,q5,q6⟩:=h.2 b k hr
  obtain⟨p1,p2⟩:=hb b k hr
  exact⟨vs,p1.trans q1,q2,q3,q4,fun o ho=>q5 o (p2 _ ho),q6.mono fun _ _=>AW hf⟩
 | lp l st r ts =>
  obtain⟨q1,q2,q3,q4⟩:=h
  obtain⟨p1,p2⟩:=hb l 0 q1
  exact⟨q1,p1.trans q2,fun o ho=>q3 o (p2 _ ho),q4.mono fun _ _=>AW hf⟩
theorem Cd {H:List Ob}{i j:Nat}{o:Ob}(hi:i<H.length):(H.set i o)[j]?=if i=j then some o else H[j]?:=by
 rw[List.getElem?_set]
 by_cases e:i=j
 ·subst e;simp[hi]
 ·simp[e]
def Cx.wr (c:Cx)(b:Nat)(vs':Array Value)(i:Nat)(o:Ob)(m:Nat->Nat->Prop)(ρ':Nat->Option (Nat×Nat)):Cx:=⟨c.w.setRow b vs',fun b o=>c.ok b o\/m b o,ρ',c.H.set i o⟩
theorem bp {c:Cx}(hc:B5 c){b:Nat}{i k:Nat}{o0:Ob}(hi:c.H[i]?=some o0)(hρ:c.ρ i=some (b,k))(q4:∀ x,¬ c.ok b x)(vs':Array Value)(o:Ob)(m:Nat->Nat->Prop)(hm:∀ b' o,m b' o->b'=b)(ρ':Nat->Option (Nat×Nat))
  (hρ':∀ j,j≠i->ρ' j=c.ρ j) (hρi:ρ' i=c.ρ i\/ρ' i=none) (ho:CC o0 o (c.ρ i) (ρ' i)):Fr c (c.wr b vs' i o m ρ'):=by
 have hil:i<c.H.length:=(List.getElem?_eq_some_iff.1 hi).1
 have hown:c.owns b:=⟨i,k,hil,hρ⟩
 refine⟨fun _ _ h=>.inl h,fun b' o' h=>?_,by simp[Cx.wr,World.setRow],fun b' o' h=>?_,fun b' hb' hno=>?_,fun b' hb'=>?_,fun j o' hj=>?_,rfl,rfl,rfl,Nat.le_refl _⟩
 ·have hne:b'≠b:=by intro e;subst e;exact q4 _ h
  simp only[Cx.wr,World.cell?,setRow_other c.w b b' vs' hne]
 ·rcases h with h | h
  ·exact .inl h
  ·exact .inr (.inr (by rw[hm _ _ h];exact hown))
 ·have hne:b'≠b:=by intro e;subst e;exact hno hown
  exact setRow_other c.w b b' vs' hne
 ·obtain⟨j,k',hj,hr⟩:=hb'
  simp only[Cx.wr,List.length_set]at hj hr
  by_cases e:j=i
  ·subst e
   rcases hρi with h | h
   ·rw[h]at hr;exact .inl ⟨j,k',hj,hr⟩
   ·rw[h]at hr;cases hr
  ·rw[hρ' j e]at hr;exact .inl ⟨j,k',hj,hr⟩
 ·simp only[Cx.wr,Cd hil]
  by_cases e:i=j
  ·subst e
   rw[hi]at hj;cases hj
   exact⟨o,by simp,ho⟩
  ·refine⟨o',by simp[e,hj],?_⟩
   rw[hρ' j (Ne.symm e)]
   cases o'<;>simp[CC]
theorem XT {c:Cx}(hc:B5 c){b:Nat}{i k:Nat}{o0:Ob}(hi:c.H[i]?=some o0)(hρ:c.ρ i=some (b,k))(q4:∀ x,¬ c.ok b x)(vs':Array Value)(o:Ob)(m:Nat->Nat->Prop)(hm:∀ b' o,m b' o->b'=b)(ρ':Nat->Option (Nat×Nat))
  (hρ':∀ j,j≠i->ρ' j=c.ρ j) (hρi:ρ' i=c.ρ i\/ρ' i=none) (ho:CC o0 o (c.ρ i) (ρ' i)) (hor:WM (c.wr b vs' i o m ρ') o (ρ' i)):B5 (c.wr b vs' i o m ρ'):=by
 have hf:=bp hc hi hρ q4 vs' o m hm ρ' hρ' hρi ho
 have hil:i<c.H.length:=(List.getElem?_eq_some_iff.1 hi).1
 have hlt:=Jh hc hil hρ
 refine⟨fun j1 j2 b' k1 k2 h1 h2 h3 h4=>?_,fun b' o' h=>?_,fun j o' hj=>?_,hc.globFr hf⟩
 ·simp only[Cx.wr,List.length_set]at h1 h2 h3 h4
  have g:∀ j k',ρ' j=some (b',k')->∃ k'',c.ρ j=some (b',k''):=fun j k' h=>by
   by_cases e:j=i
   ·subst e
    rcases hρi with q | q
    ·exact⟨k',q▸h⟩
    ·rw[q]at h;cases h
   ·exact⟨k',hρ' j e▸h⟩
  obtain⟨k1',g1⟩:=g j1 k1 h3
  obtain⟨k2',g2⟩:=g j2 k2 h4
  exact hc.inj j1 j2 b' k1' k2' h1 h2 g1 g2
 ·rcases h with h | h
  ·simpa[Cx.wr,World.setRow]using hc.okLt _ _ h
  ·rw[hm _ _ h];simpa[Cx.wr,World.setRow]using hlt
 ·simp only[Cx.wr,Cd hil]at hj
  by_cases e:i=j
  ·subst e
   simp at hj;subst hj;exact hor
  ·simp only[e,if_false]at hj
   have:(c.wr b vs' i o m ρ').ρ j=c.ρ j:=hρ' j (Ne.symm e)
   rw[this]
   refine Do hf (hc.obj j o' hj) fun b' k' hr=>?_
   have hne:b'≠b:=by
    intro eb;subst eb
    exact e (hc.inj i j _ _ _ hil (List.getElem?_eq_some_iff.1 hj).1 hρ hr)
   exact⟨setRow_other c.w b b' vs' hne,fun x hx=>hx.resolve_right fun h=>hne (hm _ _ h)⟩
theorem au {c:Cx}(hc:B5 c){b:Nat}{i k e:Nat}{cs:List V}(hi:c.H[i]?=some (.cells e cs))(hρ:c.ρ i=some (b,k)):∀ x,¬ c.ok b x:=by
 obtain⟨b',vs,q1,q2,q3,q4,q5⟩:=hc.obj i _ hi
 rw[hρ]at q1;cases q1;exact q4
theorem zc {c:Cx}(hc:B5 c){b:Nat}{i k e:Nat}{cs:List V}(hi:c.H[i]?=some (.cells e cs))(hρ:c.ρ i=some (b,k))(vs':Array Value)(o:Ob)(m:Nat->Nat->Prop)(hm:∀ b' o,m b' o->b'=b)(ρ':Nat->Option (Nat×Nat))
  (hρ':∀ j,j≠i->ρ' j=c.ρ j) (hρi:ρ' i=c.ρ i\/ρ' i=none) (ho:CC (.cells e cs) o (c.ρ i) (ρ' i)):Fr c (c.wr b vs' i o m ρ'):=bp hc hi hρ (au hc hi hρ) vs' o m hm ρ' hρ' hρi ho
theorem kF {c:Cx}(hc:B5 c){b:Nat}{i k e:Nat}{cs:List V}(hi:c.H[i]?=some (.cells e cs))(hρ:c.ρ i=some (b,k))(vs':Array Value)(o:Ob)(m:Nat->Nat->Prop)(hm:∀ b' o,m b' o->b'=b)(ρ':Nat->Option (Nat×Nat))
  (hρ':∀ j,j≠i->ρ' j=c.ρ j) (hρi:ρ' i=c.ρ i\/ρ' i=none) (ho:CC (.cells e cs) o (c.ρ i) (ρ' i)) (hor:WM (c.wr b vs' i o m ρ') o (ρ' i)):B5 (c.wr b vs' i o m ρ'):=XT hc hi hρ (au hc hi hρ) vs' o m hm ρ' hρ' hρi ho hor
section
variable {P:Program} {c0:Cx} {N:Nat} {D:List Deferred} {o:Oper} {a:Act} {w:World} {t:T} {H:List Ob}
theorem NY {ty k:Nat}(hk:DH P ty k=true){b off:Nat}{v:Value}{vs:Array Value}{e:Nat}(hh:w.heap[b]?=some (.cells vs e (0,0)))(hv:v.cells.size=k)(hl:off+k<=vs.size)(h1:∀ u∈v.cells.toList,Co u=true) :
  (storeVar ty ⟨b,off,none⟩ v).run P w=.ok () (w.setRow b (vs.toList.take off++v.cells.toList++vs.toList.drop (off+v.cells.toList.length)).toArray):=by
 have:=run_storeCells_at P b off e v.cells.toList 0 vs w hh (by simp[hv];omega) (fun u hu=>by rw[TA];exact h1 u hu)
 simp only[Nat.add_zero]at this
 simp[storeVar,En hk,hv,this]
theorem lV {vs:Array Value}{off:Nat}{c:Cx}{new cs:List V}{nl:List Value}(h1:D2 c new nl)(h2:∀ u∈nl,Co u=true)(h3:∀ (i:Nat)(x:V),cs[i]?=some x->∃ v,vs[i]?=some v/\Co v=true/\BD c x v)(hs:vs.size=cs.length)(hl:off+new.length<=cs.length) :
  (vs.toList.take off++nl++vs.toList.drop (off+nl.length)).toArray.size=(put off new cs).length/\∀ (i:Nat)(x:V),(put off new cs)[i]?=some x->∃ v,(vs.toList.take off++nl++vs.toList.drop (off+nl.length)).toArray[i]?=some v/\Co v=true/\BD c x v:=by
 have hn:=C1 h1
 have hcs:D2 c cs vs.toList:=jM (by simp[hs]) fun i x hx=>by obtain⟨v,q1,q2,q3⟩:=h3 i x hx;exact⟨v,by simpa using q1,q3⟩
 have hp:=eU (off:=off) h1 hcs
 refine⟨by have:=C1 hp;simpa using this.symm,fun i x hx=>?_⟩
 obtain⟨v,q1,q2⟩:=Fx hp hx
 refine⟨v,by simpa using q1,?_,q2⟩
 rw[List.getElem?_append,List.getElem?_append]at q1
 split at q1
 ·split at q1
  ·rename_i h
   rw[List.getElem?_take]at q1
   split at q1
   ·have hi:i<cs.length:=by simp at h;omega
    obtain⟨v',p1,p2,_⟩:=h3 i _ (List.getElem?_eq_getElem hi)
    rw[show vs[i]?=some v by simpa using q1]at p1
    cases p1;exact p2
   ·cases q1
  ·exact h2 v (List.mem_of_getElem? q1)
 ·rename_i h
  rw[List.getElem?_drop]at q1
  have q1':vs[(off+nl.length+(i-(List.take off vs.toList++nl).length))]?=some v:=by simpa using q1
  have hi:=(Array.getElem?_eq_some_iff.1 q1').1
  obtain⟨v',p1,p2,_⟩:=h3 _ _ (List.getElem?_eq_getElem (show _<cs.length by rw[<-hs];exact hi))
  rw[q1']at p1
  cases p1;exact p2
theorem vh {k ty i off e:Nat}{x y:O}{xo yo:Operand}{cs new:List V}(hs:Sm c0 N D t H a w)(hd:o.dst=none)(ho:o.op=.store ty xo yo)(hk:DH P ty k=true)(hx:Bw xo x=true)(hy:Bw yo y=true)
  (h1:ev t x=.ptr i off) (h2:H[i]?=some (.cells e cs)) (h3:Kt (ev t y)=some new) (h4:new.length=k) (h5:off+k<=cs.length):D0 P c0 N D o a w t (H.set i (.cells e (put off new cs))):=by
 obtain⟨g1,g2,c,rfl,rfl,hc,hf0,h7⟩:=hs
 have q1:=At h7 hx
 rw[h1]at q1
 obtain⟨b,vs,r1,r2,r3,r4,r5,r6⟩:=SF hc q1 h2
 obtain⟨s1,s2⟩:=Ot h3 (At h7 hy)
 have hvl:=C1 s1
 simp only[Array.length_toList]at hvl
 have hrun:=NY (P:=P) (w:=c.w) (v:=a.eval yo) hk r3 (by omega) (by omega) s2 (off:=off)
 have hob:=hc.obj i _ h2
 obtain⟨b',vs',p1,p2,p3,p4,p5⟩:=hob
 rw[r2]at p1;cases p1
 rw[r3]at p2;cases p2
 have hfr:=zc hc h2 r2 (vs.toList.take off++(a.eval yo).cells.toList++vs.toList.drop (off+(a.eval yo).cells.toList.length)).toArray (.cells e (put off new cs)) (fun _ _=>False) (by simp) c.ρ (fun _ _=>rfl) (.inl rfl) ⟨rfl,rfl⟩
 have hcn:B5 (c.wr b (vs.toList.take off++(a.eval yo).cells.toList++vs.toList.drop (off+(a.eval yo).cells.toList.length)).toArray i (.cells e (put off new cs)) (fun _ _=>False) c.ρ):=by
  refine kF hc h2 r2 _ _ _ (by simp) _ (fun _ _=>rfl) (.inl rfl) ⟨rfl,rfl⟩ ?_
  obtain⟨w1,w2⟩:=lV (off:=off) s1 s2 p5 p3 (by omega)
  exact⟨b,_,r2,setRow_heap c.w b vs _ e _ r3,w1,fun o ho=>p4 o (ho.resolve_right (by simp)),fun j z hz=>by obtain⟨v,u1,u2,u3⟩:=w2 j z hz;exact⟨v,u1,u2,AW hfr u3⟩⟩
 refine⟨undef,c.w.setRow b (vs.toList.take off++(a.eval yo).cells.toList++vs.toList.drop (off+(a.eval yo).cells.toList.length)).toArray,.inr ⟨rfl,?_⟩,?_⟩
 ·simp only[execOp,ho,Sem.run_bind,Instr.storeAt,r1,Instr.sureAddr,Sem.run_pure,Result.andThen_ok,hrun]
 ·rw[hd]
  exact⟨g1,g2,_,rfl,rfl,hcn,hf0.trans hfr,Ef hfr h7⟩
theorem yH {k ty i e d:Nat}{y:O}{yo:Operand}{cs new:List V}(hs:Sm c0 N D t H a w)(hn:d<N)(hd:o.dst=none)(ho:o.op=.store ty (.tmp d) yo)(hk:DH P ty k=true)(hy:Bw yo y=true)
  (h1:lk t d=.ptr i 0) (h2:H[i]?=some (.cells e cs)) (h3:Kt (ev t y)=some new) (h4:new.length=k) (h5:cs.length=k):D0 P c0 N D o a w ((d,.ro (AR (fun _=>none) new) 0)::t) (H.set i .dead):=by
 obtain⟨g1,g2,c,rfl,rfl,hc,hf0,h7⟩:=hs
 have q1:=Ke h7 d
 rw[h1]at q1
 obtain⟨b,vs,r1,r2,r3,r4,r5,r6⟩:=SF hc q1 h2
 obtain⟨s1,s2⟩:=Ot h3 (At h7 hy)
 have hvl:=C1 s1
 simp only[Array.length_toList]at hvl
 have hrun:=NY (P:=P) (w:=c.w) (v:=a.eval yo) hk r3 (by omega) (by omega) s2 (off:=0)
 have hfull:(vs.toList.take 0++(a.eval yo).cells.toList++vs.toList.drop (0+(a.eval yo).cells.toList.length)).toArray=(a.eval yo).cells:=by
  apply Array.ext'
  simp
  omega
 rw[hfull]at hrun
 have hfr:=zc hc h2 r2 (a.eval yo).cells .dead (fun b' _=>b'=b) (by simp) (P2 c.ρ i none) (fun j hj=>AO hj) (.inr (Av _ _ _)) trivial
 have hcn:B5 (c.wr b (a.eval yo).cells i .dead (fun b' _=>b'=b) (P2 c.ρ i none)) :=
  kF hc h2 r2 _ _ _ (by simp) _ (fun j hj=>AO hj) (.inr (Av _ _ _)) trivial (Av _ _ _)
 refine⟨undef,c.w.setRow b (a.eval yo).cells,.inr ⟨rfl,?_⟩,?_⟩
 ·have hev:a.eval (.tmp d)=.pointer (some ⟨b,0,none⟩):=r1
  simp only[execOp,ho,Sem.run_bind,Instr.storeAt,hev,Instr.sureAddr,Sem.run_pure,Result.andThen_ok,hrun]
 ·rw[hd]
  refine⟨g1,g2,_,rfl,rfl,hcn,hf0.trans hfr,fun s x hx=>?_⟩
  simp only[find]at hx
  split at hx
  ·rename_i e;subst e;cases hx
   refine⟨hn,?_⟩
   show BD _ _ (a.tmps.getD d undef)
   rw[r1]
   refine⟨b,0,rfl,IF fun j z hz=>?_⟩
   rw[LX]at hz
   cases hy':new[j]? with
   | none=>simp[hy']at hz
   | some z' =>
    simp[hy']at hz;subst hz
    obtain⟨v,u1,u2⟩:=Fx s1 hy'
    refine⟨v,?_,.inr rfl,s2 v (List.mem_of_getElem? u1),W6 (AW hfr u2)⟩
    simp only[Cx.wr]
    rw[BV (setRow_heap c.w b vs _ e _ r3)]
    simpa using u1
  ·exact⟨(h7 s x hx).1,AW hfr (h7 s x hx).2⟩
end
theorem XO {w:World}{ok:Nat->Nat->Prop}{b o:Nat}:∀ {xs:List V} {k:Nat},Pm w ok b o xs k ->
  ∃ vs:List Value,vs.length=xs.length/\(∀ (j:Nat)(u:Value),vs[j]?=some u->w.cell? ⟨b,o+k+j,none⟩=some u/\Co u=true)/\∀ (j:Nat)(x:V),xs[j]?=some x->∃ v,vs[j]?=some v/\Gv w ok x v
 | [],k,_=>⟨[],rfl,by simp,by simp⟩
 | x::xs,k,⟨⟨v,h1,h2,h3,h4⟩,h5⟩=>by
  obtain⟨vs,q1,q2,q3⟩:=XO h5
  refine⟨v::vs,by simp[q1],?_,?_⟩
  ·intro j u hu
   cases j with
   | zero=>simp at hu;subst hu;exact⟨by simpa using h1,h3⟩
   | succ j =>
    simp at hu
    have:=q2 j u hu
    rwa [show o+(k+1)+j=o+k+(j+1) by omega]at this
  ·intro j y hy
   cases j with
   | zero=>simp at hy;subst hy;exact⟨v,rfl,h4⟩
   | succ j=>simp at hy ⊢;exact q3 j y hy
theorem LE {w:World}{ok:Nat->Nat->Prop}{b o sz:Nat}:∀ {es:List (List V)} {k:Nat},Ro w ok b o sz es k ->
  ∃ vs:List Value,vs.length=es.length*sz/\(∀ (j:Nat)(u:Value),vs[j]?=some u->w.cell? ⟨b,o+k*sz+j,none⟩=some u/\Co u=true) /\
   ∀ (i:Nat)(e:List V),es[i]?=some e->e.length=sz/\∀ (j:Nat)(x:V),e[j]?=some x->∃ v,vs[i*sz+j]?=some v/\Gv w ok x v
 | [],k,_=>⟨[],by simp,by simp,by simp⟩
 | e::es,k,⟨h1,h2,h3⟩=>by
  obtain⟨us,p1,p2,p3⟩:=XO h2
  obtain⟨vs,q1,q2,q3⟩:=LE h3
  have hl:us.length=sz:=by omega
  refine⟨us++vs,by simp[q1,hl,Nat.add_mul];omega,?_,?_⟩
  ·intro j u hu
   rw[List.getElem?_append]at hu
   split at hu
   ·have:=p2 j u hu
    simpa using this
   ·have:=q2 _ u hu
    rwa [show o+(k+1)*sz+(j-us.length)=o+k*sz+j by rw[Nat.add_mul,Nat.one_mul];omega]at this
  ·intro i x hx
   cases i with
   | zero =>
    simp at hx;subst hx
    refine⟨h1,fun j y hy=>?_⟩
    obtain⟨v,r1,r2⟩:=p3 j y hy
    have:j<us.length:=(List.getElem?_eq_some_iff.1 r1).1
    exact⟨v,by rw[Nat.zero_mul,Nat.zero_add,List.getElem?_append,if_pos this,r1],r2⟩
   | succ i =>
    simp at hx
    obtain⟨r1,r2⟩:=q3 i x hx
    refine⟨r1,fun j y hy=>?_⟩
    obtain⟨v,s1,s2⟩:=r2 j y hy
    refine⟨v,?_,s2⟩
    rw[List.getElem?_append,if_neg (by rw[Nat.add_mul,Nat.one_mul];omega),<-s1]
    congr 1
    rw[Nat.add_mul,Nat.one_mul];omega
def bX (w:World)(ok:Nat->Nat->Prop)(sz:Nat)(els:List (List V))(vs:List Value):Prop :=
 vs.length=els.length*sz/\∀ (i:Nat)(e:List V),els[i]?=some e->e.length=sz/\∀ (j:Nat)(x:V),e[j]?=some x->∃ v,vs[i*sz+j]?=some v/\Gv w ok x v
theorem bX.append {w ok sz a b us vs}(h:bX w ok sz a us)(h':bX w ok sz b vs):bX w ok sz (a++b) (us++vs):=by
 refine⟨by simp[h.1,h'.1,Nat.add_mul],fun i e he=>?_⟩
 rw[List.getElem?_append]at he
 split at he
 ·rename_i hi
  obtain⟨q1,q2⟩:=h.2 i e he
  refine⟨q1,fun j x hx=>?_⟩
  obtain⟨v,r1,r2⟩:=q2 j x hx
  have:=(List.getElem?_eq_some_iff.1 r1).1
  exact⟨v,by rw[List.getElem?_append,if_pos this,r1],r2⟩
 ·rename_i hi
  obtain⟨q1,q2⟩:=h'.2 _ e he
  refine⟨q1,fun j x hx=>?_⟩
  obtain⟨v,r1,r2⟩:=q2 j x hx
  refine⟨v,?_,r2⟩
  have h3:a.length*sz<=i*sz:=Nat.mul_le_mul_right _ (by omega)
  rw[List.getElem?_append,if_neg (by rw[h.1];omega),<-r1]
  congr 1
  rw[h.1,Nat.mul_sub_right_distrib]
  omega
def Cx.reArr (c:Cx)(ob:Obj)(i e sz n k:Nat):Cx:=⟨{ c.w with heap:=c.w.heap.push ob },fun b o=>c.ok b o\/b=c.w.heap.size/\o<n*sz,P2 c.ρ i (some (c.w.heap.size,k)),c.H.set i (.arr e sz n)⟩
theorem rv {c:Cx}(hc:B5 c)(ob:Obj){i e sz n0 n k:Nat}(hi:c.H[i]?=some (.arr e sz n0))(hn:n0<n):Fr c (c.reArr ob i e sz n k) where
 okS _ _ h:=.inl h
 cell b o h:=Nt (hc.okLt _ _ h)
 size:=by simp[Cx.reArr]
 okN b _ h:=by
  rcases h with h | h
  ·exact .inl h
  ·exact .inr (.inl (by omega))
 heap b hb _:=BU hb
 own b:=by
  rintro ⟨j,k',hj,hr⟩
  simp only[Cx.reArr,List.length_set]at hj hr
  by_cases e:j=i
  ·subst e;rw[Av]at hr;cases hr;exact .inr (Nat.le_refl _)
  ·rw[AO e]at hr;exact .inl ⟨j,k',hj,hr⟩
 ext j o' h:=by
  have hil:i<c.H.length:=(List.getElem?_eq_some_iff.1 hi).1
  simp only[Cx.reArr,Cd hil]
  by_cases e:i=j
  ·subst e
   rw[hi]at h;cases h
   exact⟨.arr e sz n,by simp,rfl,rfl,by omega,fun h=>by omega⟩
  ·refine⟨o',by simp[e,h],?_⟩
   rw[AO (Ne.symm e)]
   cases o'<;>simp[CC]
 os:=rfl
 tape:=rfl
 output:=rfl
 drawn:=Nat.le_refl _
theorem mU {c:Cx}(hc:B5 c){i e sz n0 k:Nat}{vs:Array Value}{els:List (List V)}(hi:c.H[i]?=some (.arr e sz n0))(hn:n0<els.length)(hk:els.length<=k)(hm:k<=C0)(hm2:els.length<=Ah)(hv:vs.size=k*sz)(h1:∀ v∈vs.toList,Co v=true)
  {ys:List Value} (hl:bX c.w c.ok sz els ys) (hy:vs.toList.take (els.length*sz)=ys) :
  B5 (c.reArr (.cells vs e (0,0)) i e sz els.length k)/\Fr c (c.reArr (.cells vs e (0,0)) i e sz els.length k)/\BD (c.reArr (.cells vs e (0,0)) i e sz els.length k) (.own i sz els) (.slice (some ⟨c.w.heap.size,0,none⟩) els.length k):=by
 have hf:Fr c (c.reArr (.cells vs e (0,0)) i e sz els.length k):=rv hc _ hi hn
 have hil:i<c.H.length:=(List.getElem?_eq_some_iff.1 hi).1
 refine⟨⟨fun j1 j2 b k1 k2 h1 h2 h3 h4=>?_,fun b o h=>?_,fun j o hj=>?_,hc.globFr hf⟩,hf,⟨⟨_,_,c.w.heap.size,0,rfl,hk,hm,hm2,.inr rfl,Ie fun j x hx=>?_⟩,by simp[Cx.reArr,hil],fun e' sz' n hn'=>?_⟩⟩
 ·simp only[Cx.reArr,List.length_set]at h1 h2 h3 h4
  by_cases e1:j1=i<;>by_cases e2:j2=i
  ·omega
  ·subst e1;rw[Av]at h3;rw[AO e2]at h4;cases h3
   have:=Jh hc h2 h4;omega
  ·subst e2;rw[Av]at h4;rw[AO e1]at h3;cases h4
   have:=Jh hc h1 h3;omega
  ·rw[AO e1]at h3;rw[AO e2]at h4
   exact hc.inj j1 j2 b k1 k2 h1 h2 h3 h4
 ·rcases h with h | h
  ·have:=hc.okLt _ _ h;simp[Cx.reArr];omega
  ·simp[Cx.reArr];omega
 ·simp only[Cx.reArr,Cd hil]at hj
  by_cases e1:i=j
  ·subst e1
   simp at hj;subst hj
   have:(c.reArr (.cells vs e (0,0)) i e sz els.length k).ρ i=some (c.w.heap.size,k):=Av _ _ _
   rw[this]
   refine⟨by simp,fun b k' hb=>?_⟩
   cases hb
   refine⟨vs,heap_alloc_new _ _,hv,hk,hm,fun o ho h=>?_⟩
   rcases h with h | h
   ·exact absurd (hc.okLt _ _ h) (Nat.lt_irrefl _)
   ·omega
  ·simp only[e1,if_false]at hj
   have:(c.reArr (.cells vs e (0,0)) i e sz els.length k).ρ j=c.ρ j:=AO (Ne.symm e1)
   rw[this]
   exact Ns hc hf (.cells vs e (0,0)) rfl (fun b o hb h=>h.resolve_right (by omega)) hj
 ·obtain⟨p1,p2⟩:=hl.2 j x hx
  refine⟨p1,IF fun l y hy'=>?_⟩
  obtain⟨v,r1,r2⟩:=p2 l y hy'
  have hj:j<els.length:=(List.getElem?_eq_some_iff.1 hx).1
  have hll:l<sz:=by have:=(List.getElem?_eq_some_iff.1 hy').1;omega
  have hmul:(j+1)*sz<=els.length*sz:=Nat.mul_le_mul_right _ (by omega)
  rw[Nat.add_mul,Nat.one_mul]at hmul
  have hr1:vs[j*sz+l]?=some v:=by
   rw[<-hy,List.getElem?_take,if_pos (by omega)]at r1
   simpa using r1
  refine⟨v,?_,.inr ⟨rfl,by simp;omega⟩,h1 v (List.mem_of_getElem? (l:=vs.toList) (by simpa using hr1)),Eb hf.cell hf.okS r2⟩
  simp only[Cx.reArr]
  rw[BV (vs:=vs) (e:=e) (fz:=(0,0)) (by simp)]
  simpa using hr1
 ·simp only[Cx.reArr,Cd hil]at hn'
  simp at hn'
  obtain⟨_,rfl,rfl⟩:=hn'
  exact⟨rfl,Nat.le_refl _,fun _=>by simp[Cx.reArr,dw,Av]⟩
def Cx.gr (c:Cx)(b:Nat)(vs':Array Value)(i e sz n:Nat):Cx:=⟨c.w.setRow b vs',fun b' o=>c.ok b' o\/b'=b/\o<n*sz,c.ρ,c.H.set i (.arr e sz n)⟩
theorem Aar {c:Cx}(hc:B5 c){i e sz n0 b k:Nat}{vs vs':Array Value}{els:List (List V)}(hi:c.H[i]?=some (.arr e sz n0))(hρ:c.ρ i=some (b,k))(hh:c.w.heap[b]?=some (.cells vs e (0,0)))(hn:n0<=els.length)(hk:els.length<=k)(hm2:els.length<=Ah)
  (hs:vs'.size=vs.size) (h1:∀ (j:Nat)(v:Value),j<els.length*sz->vs'[j]?=some v->Co v=true) (hpre:∀ j,j<n0*sz->vs'[j]?=vs[j]?) {ys:List Value} (hl:bX c.w c.ok sz els ys) (hy:vs'.toList.take (els.length*sz)=ys) :
  B5 (c.gr b vs' i e sz els.length)/\Fr c (c.gr b vs' i e sz els.length)/\BD (c.gr b vs' i e sz els.length) (.own i sz els) (.slice (some ⟨b,0,none⟩) els.length k):=by
 have hil:i<c.H.length:=(List.getElem?_eq_some_iff.1 hi).1
 have hown:c.owns b:=⟨i,k,hil,hρ⟩
 have hob:=hc.obj i _ hi
 obtain⟨vs0,q1,q2,q3,q4,q5⟩:=hob.2 b k hρ
 rw[hh]at q1;cases q1
 have hlt:=Jh hc hil hρ
 have hf:Fr c (c.gr b vs' i e sz els.length):=by
  refine⟨fun _ _ h=>.inl h,fun b' o' h=>?_,by simp[Cx.gr,World.setRow],fun b' o' h=>?_,fun b' hb' hno=>?_,fun b' hb'=>?_,fun j o' hj=>?_,rfl,rfl,rfl,Nat.le_refl _⟩
  ·by_cases e1:b'=b
   ·subst e1
    simp only[Cx.gr,BV (setRow_heap c.w b' vs _ e _ hh),BV hh]
    exact hpre _ (Nat.lt_of_not_le fun hle=>q5 _ hle h)
   ·simp only[Cx.gr,World.cell?,setRow_other c.w b b' vs' e1]
  ·rcases h with h | h
   ·exact .inl h
   ·exact .inr (.inr (h.1▸hown))
  ·have hne:b'≠b:=by intro e;subst e;exact hno hown
   exact setRow_other c.w b b' vs' hne
  ·obtain⟨j,k',hj,hr⟩:=hb'
   exact .inl ⟨j,k',by simpa[Cx.gr]using hj,hr⟩
  ·simp only[Cx.gr,Cd hil]
   by_cases e1:i=j
   ·subst e1
    rw[hi]at hj;cases hj
    exact⟨.arr e sz els.length,by simp,rfl,rfl,hn,fun _=>rfl⟩
   ·exact⟨o',by simp[e1,hj],by cases o'<;>simp[CC]⟩
 refine⟨⟨fun j1 j2 b k1 k2 h1 h2 h3 h4=>hc.inj j1 j2 b k1 k2 (by simpa[Cx.gr]using h1) (by simpa[Cx.gr]using h2) h3 h4,fun b' o h=>?_,fun j o hj=>?_,hc.globFr hf⟩,hf,⟨⟨_,_,b,0,rfl,hk,q4,hm2,.inr rfl,Ie fun j x hx=>?_⟩,by simp[Cx.gr,hil],fun e' sz' n hn'=>?_⟩⟩
 ·rcases h with h | h
  ·simpa[Cx.gr,World.setRow]using hc.okLt _ _ h
  ·rw[h.1];simpa[Cx.gr,World.setRow]using hlt
 ·simp only[Cx.gr,Cd hil]at hj
  by_cases e1:i=j
  ·subst e1
   simp at hj;subst hj
   refine⟨fun h=>(by simp only[Cx.gr]at h;rw[hρ]at h;cases h),fun b2 k' hb=>?_⟩
   simp only[Cx.gr]at hb
   rw[hρ]at hb;cases hb
   refine⟨vs',setRow_heap c.w b vs _ e _ hh,by rw[hs];exact q2,hk,q4,fun o ho h=>?_⟩
   rcases h with h | h
   ·exact q5 o (Nat.le_trans (Nat.mul_le_mul_right _ hn) ho) h
   ·omega
  ·simp only[e1,if_false]at hj
   refine Do hf (hc.obj j o hj) fun b' k' hr=>?_
   have hne:b'≠b:=by
    intro eb;subst eb
    exact e1 (hc.inj i j _ _ _ hil (List.getElem?_eq_some_iff.1 hj).1 hρ hr)
   exact⟨setRow_other c.w b b' vs' hne,fun x hx=>hx.resolve_right fun h=>hne h.1⟩
 ·obtain⟨p1,p2⟩:=hl.2 j x hx
  refine⟨p1,IF fun l y hy'=>?_⟩
  obtain⟨v,r1,r2⟩:=p2 l y hy'
  have hj:j<els.length:=(List.getElem?_eq_some_iff.1 hx).1
  have hll:l<sz:=by have:=(List.getElem?_eq_some_iff.1 hy').1;omega
  have hmul:(j+1)*sz<=els.length*sz:=Nat.mul_le_mul_right _ (by omega)
  rw[Nat.add_mul,Nat.one_mul]at hmul
  have hr1:vs'[j*sz+l]?=some v:=by
   rw[<-hy,List.getElem?_take,if_pos (by omega)]at r1
   simpa using r1
  refine⟨v,?_,.inr ⟨rfl,by simp;omega⟩,h1 _ v (by omega) hr1,Eb hf.cell hf.okS r2⟩
  simp only[Cx.gr]
  rw[BV (setRow_heap c.w b vs _ e _ hh)]
  simpa using hr1
 ·simp only[Cx.gr,Cd hil]at hn'
  simp at hn'
  obtain⟨_,rfl,rfl⟩:=hn'
  exact⟨rfl,Nat.le_refl _,fun _=>by simp[Cx.gr,dw,hρ]⟩
def M4 (P:Program)(e bytes:Nat):Bool:=match P.info? e with
 | some i=>i.bytes==bytes&&(match i.zero with | some z=>z.cells.size==i.size&&z.cells.all Co | none=>false)
 | none=>false
theorem OW {P:Program}{t ty e:TypeId}{i:TypeInfo}(ht:P.underlying t=some (.slice e))(hi:P.info? e=some i)(b:Option Addr)(n k:Nat)(hnk:n<=k)(y:Value)(hy:∃ a c,y=.slice a 0 c)(w:World) :
  (Builtin.append_ #[t,t] ty #[.slice b n k,y]).run P w=.ok (.slice b n k) w:=by
 obtain⟨a,c,rfl⟩:=hy
 have hf:(Builtin.firstCells i.size 0 (.slice a 0 c)).run P w=.ok #[] w:=by cases a<;>simp[Builtin.firstCells,loadCells,loadCellsFrom]
 cases b<;>simp[Builtin.append_,run_underlying ht,sizeOf,typeInfo,hi,Builtin.lenOf,hnk,hf,storeCells]
section
variable {P:Program} {c0:Cx} {N:Nat} {D:List Deferred} {o:Oper} {a:Act} {w:World} {t:T} {H:List Ob}
theorem Qd {l:List Value}{n:Nat}{j:Nat}(h:j<n):(l.take n)[j]?=l[j]?:=by rw[List.getElem?_take,if_pos h]
set_option maxHeartbeats 2000000 in
theorem WD {d ty e sz bytes i n:Nat}{x y:O}{xo yo:Operand}{els new:List (List V)}(hs:Sm c0 N D t H a w)(hd:o.dst=some d)(hn:d<N)(ho:o.op=.call { callee:=.builtin .append,args:=#[xo,yo],argTypes:=#[ty,ty] })
  (hsl:Ra P ty e=true) (hsz:DH P e sz=true) (hb:M4 P e bytes=true) (hb0:0<bytes) (hx:Bw xo x=true) (hy:Bw yo y=true) (h1:ev t x=.own i sz els) (h2:We (ev t y)=some new) (h3:H[i]?=some (.arr e sz n)) (h4:n=els.length)
  (h5:∀ z∈new,z.length=sz) (h6:(els.length+new.length)*bytes<=Ah):D0 P c0 N D o a w ((d,.own i sz (els++new))::t) (H.set i (.arr e sz (els.length+new.length))):=by
 subst h4
 have hu:=O1 hsl
 unfold M4 at hb
 cases hi:P.info? e with
 | none=>simp[hi]at hb
 | some inf =>
  cases hz:inf.zero with
  | none=>simp[hi,hz]at hb
  | some z =>
   simp only[hi,hz,Bool.and_eq_true,beq_iff_eq]at hb
   obtain⟨hbb,hzs,hz1⟩:=hb
   have hsz':inf.size=sz:=by simpa[DH,hi]using hsz
   obtain⟨g1,g2,c,rfl,rfl,hc,hf0,h7⟩:=id hs
   have q1:=At h7 hx
   have q2:=At h7 hy
   rw[h1]at q1
   obtain⟨⟨ad,cp,b0,o0,hv,l1,l2,l3,l4,l5⟩,hil,q3⟩:=q1
   obtain⟨_,_,hcur⟩:=q3 e sz _ h3
   have hcur:=hcur rfl
   obtain⟨olds,o1,o2,o3⟩:=LE l5
   have hlen0:els.length<=Ah:=by
    have:els.length*1<=(els.length+new.length)*bytes:=Nat.mul_le_mul (by omega) hb0
    omega
   have hlen1:els.length+new.length<=Ah:=by
    have:(els.length+new.length)*1<=(els.length+new.length)*bytes:=Nat.mul_le_mul (Nat.le_refl _) hb0
    omega
   have hexec:∀ v' w',(Builtin.append_ #[ty,ty] o.type #[a.eval xo,a.eval yo]).run P c.w=.ok v' w'->(execOp a.eval o).run P c.w=.ok (.value v') w':=fun v' w' hr=>by
    simp only[execOp,ho,resolve,invoke,builtin,Sem.run_bind,Sem.run_pure,Result.andThen_ok,List.map_toArray,List.map_cons,List.map_nil,hr]
   by_cases hm:new=[]
   ·-- nothing is appended
    subst hm
    have hy0:∃ a' c',a.eval yo=.slice a' 0 c':=by
     rcases QG h2 q2 with ⟨_,e2,_⟩|⟨z',_,e2⟩
     ·exact⟨_,_,e2⟩
     ·obtain⟨a',c',_,_,e3,_⟩:=e2;exact⟨a',c',by simpa using e3⟩
    refine⟨a.eval xo,c.w,.inl (hexec _ _ (by rw[hv];exact OW hu hi ad els.length cp l1 _ hy0 c.w)),?_⟩
    rw[hd]
    have hH:c.H.set i (.arr e sz (els.length+([]:List (List V)).length))=c.H:=by
     apply List.ext_getElem?
     intro j
     rw[Cd hil]
     by_cases e1:i=j
     ·subst e1;simp[h3]
     ·simp[e1]
    rw[hH,List.append_nil]
    exact Xf hs hn fun c' w1 w2 w3 _=>by have:=At w3 hx;rw[h1]at this;exact this
   ·-- the new ones
    have hpos:0<new.length:=List.length_pos_iff.2 hm
    obtain⟨bn,on,cn,news,hvy,n1,n2,n3⟩:∃ bn on cn news,a.eval yo=.slice (some ⟨bn,on,none⟩) new.length cn/\List.length news=new.length*sz/\(∀ (j:Nat)(u:Value),news[j]?=some u->c.w.cell? ⟨bn,on+j,none⟩=some u/\Co u=true)/\(∀ (i:Nat)(e:List V),new[i]?=some e->e.length=sz/\∀ (j:Nat)(x:V),e[j]?=some x->∃ v,news[i*sz+j]?=some v/\Gv c.w c.ok x v):=by
     rcases QG h2 q2 with ⟨_,_,e2⟩|⟨z',_,e2⟩
     ·exact absurd e2 hm
     ·obtain⟨a',c',b',o',e3,_,_,_,e4,e5⟩:=e2
      have ha:=e4.resolve_left hm
      subst ha
      have hz':z'=sz:=by
       have hg:new[0]?=some new[0]:=List.getElem?_eq_getElem hpos
       have:=(La e5 hg).1
       rw[<-this,h5 _ (List.getElem_mem hpos)]
      subst hz'
      obtain⟨news,s1,s2,s3⟩:=LE e5
      exact⟨b',o',c',news,e3,s1,by simpa using s2,s3⟩
    have hLo:bX c.w c.ok sz els olds:=⟨o1,o3⟩
    have hLn:bX c.w c.ok sz new news:=⟨n1,n3⟩
    have hL:=hLo.append hLn
    have hone:∀ v∈olds++news,Co v=true:=by
     intro v hv
     rcases List.mem_append.1 hv with h | h
     ·obtain⟨j,hj,e⟩:=List.getElem_of_mem h
      exact (o2 j v (by rw[List.getElem?_eq_getElem hj,e])).2
     ·obtain⟨j,hj,e⟩:=List.getElem_of_mem h
      exact (n2 j v (by rw[List.getElem?_eq_getElem hj,e])).2
    have hnews:∀ (j:Nat)(u:Value),news[j]?=some u->c.w.cell? ((⟨bn,on,none⟩:Addr).add j)=some u:=fun j u hu=>by rw[Addr.add_lit];exact (n2 j u hu).1
    have hnl:news.length=new.length*inf.size:=by rw[hsz'];exact n1
    have hlen:(els++new).length=els.length+new.length:=by simp
    have h63:((els.length+new.length:Nat):Int)<=9223372036854775807:=by unfold Ah at hlen1;omega
    have hbytes:(els.length+new.length)*inf.bytes<=140737488355328:=by rw[hbb];exact h6
    have newblock:∀ (cap:Nat),els.length+new.length<=cap->cap<=C0->∀ vs:Array Value,vs=(olds++news).toArray++Builtin.zeroCells z.cells (cap-(els.length+new.length)) ->
      Sm c0 N D ((d,.own i sz (els++new))::t) (c.H.set i (.arr e sz (els.length+new.length))) (a.put (some d) (.slice (some ⟨c.w.heap.size,0,none⟩) (els.length+new.length) cap)) (c.w.drew.alloc (.cells vs e)):=by
     intro cap hc1 hc2 vs hvs
     obtain⟨k1,k2⟩:=Qu hc (w':=c.w.drew) rfl rfl rfl rfl (Nat.le_succ _)
     have hLd:bX c.w.drew c.ok sz (els++new) (olds++news):=⟨hL.1,fun i e he=>by
      obtain⟨r1,r2⟩:=hL.2 i e he
      exact⟨r1,fun j x hx=>by obtain⟨v,r3,r4⟩:=r2 j x hx;exact⟨v,r3,Eb (w:=c.w) (w':=c.w.drew) (ok:=c.ok) (fun b o _=>rfl) (fun _ _ h=>h) r4⟩⟩⟩
     have hvsz:vs.size=cap*sz:=by
      rw[hvs]
      simp only[Array.size_append,List.size_toArray,size_zeroCells,hzs,hsz',List.length_append,o1,n1,<-Nat.add_mul]
      congr 1;omega
     have hvone:∀ v∈vs.toList,Co v=true:=by
      intro v hv
      rw[hvs]at hv
      simp only[Array.toList_append,List.mem_append]at hv
      rcases hv with hv | hv
      ·exact hone v (by simpa using hv)
      ·simp only[Builtin.zeroCells,Array.toList_map,List.mem_map]at hv
       obtain⟨j,hj,rfl⟩:=hv
       have hj':j<(cap-(els.length+new.length))*z.cells.size:=by simpa using hj
       have hp:0<z.cells.size:=by
        rcases Nat.eq_zero_or_pos z.cells.size with e | e
        ·rw[e]at hj';simp at hj'
        ·exact e
       have hlt:j % z.cells.size<z.cells.size:=Nat.mod_lt _ hp
       rw[Array.all_eq_true]at hz1
       rw[getElem!_pos z.cells _ hlt]
       exact hz1 _ hlt
     have hr:=mU (c:={ c with w:=c.w.drew }) k1 (i:=i) (e:=e) (sz:=sz) (n0:=els.length) (k:=cap) (vs:=vs) (els:=els++new) h3 (by rw[hlen];omega) (by rw[hlen];exact hc1) hc2 (by rw[hlen];exact hlen1) hvsz hvone hLd (by
      rw[hvs,hlen]
      simp only[Array.toList_append]
      rw[show (els.length+new.length)*sz=(olds++news).length by simp[o1,n1,Nat.add_mul]]
      exact List.take_left)
     rw[hlen]at hr
     obtain⟨r1,r2,r3⟩:=hr
     have hfr:=k2.trans r2
     exact⟨by rw[IA];exact g1,by rw[Fj];exact g2,_,rfl,rfl,r1,hf0.trans hfr,GT g1 hn r3 (Ef hfr h7)⟩
    cases hρ:c.ρ i with
    | none =>
     rw[hρ]at hcur
     have hv0:a.eval xo=.slice none 0 0:=hcur
     have he0:els.length=0:=(hc.obj i _ h3).1 hρ
     have hels:els=[]:=List.eq_nil_of_length_eq_zero he0
     subst hels
     have hr:=run_append_nil (P:=P) c.w ty o.type e inf z hu hi hz ⟨bn,on,none⟩ new.length cn news hnl hnews hpos (by simpa using h63) (by simp at hbytes;omega)
     have hol:olds=[]:=List.eq_nil_of_length_eq_zero (by simpa using o1)
     subst hol
     refine⟨_,_,.inl (hexec _ _ (by rw[hv0,hvy];exact hr)),?_⟩
     rw[hd]
     have:=newblock (grownCap c.w new.length 0 e) (by simpa using grownCap_ge c.w new.length 0 e) (by have:=grownCap_le_maxLen c.w new.length 0 e (by simp only[maxLen];simp at h63;omega);simpa[C0,maxLen]using this) _ rfl
     simpa using this
    | some bk =>
     obtain⟨b,k⟩:=bk
     rw[hρ]at hcur
     have hvb:a.eval xo=.slice (some ⟨b,0,none⟩) els.length k:=hcur
     rw[hv]at hvb
     cases hvb
     obtain⟨vs,p1,p2,p3,p4,p5⟩:=(hc.obj i _ h3).2 b cp hρ
     by_cases hroom:els.length+new.length<=cp
     ·have hfit:els.length*sz+news.length<=vs.size:=by rw[n1,p2,<-Nat.add_mul];exact Nat.mul_le_mul_right _ hroom
      have hr:=run_append_room (P:=P) c.w ty o.type e inf hu hi b els.length cp vs p1 ⟨bn,on,none⟩ new.length cn news hnl hnews (fun u hu=>by rw[TA];exact hone u (List.mem_append.2 (.inr hu))) hroom (by rw[hsz'];exact hfit)
      rw[hsz']at hr
      refine⟨_,_,.inl (hexec _ _ (by rw[hv,hvy];exact hr)),?_⟩
      rw[hd]
      have hold:vs.toList.take (els.length*sz)=olds:=by
       by_cases hE:els=[]
       ·subst hE
        have hol:olds=[]:=List.eq_nil_of_length_eq_zero (by simpa using o1)
        simp[hol]
       ·have ha:=l4.resolve_left hE
        cases ha
        have hlen2:els.length*sz<=vs.size:=by rw[p2];exact Nat.mul_le_mul_right _ p3
        apply List.ext_getElem?
        intro j
        by_cases hj:j<els.length*sz
        ·rw[Qd hj]
         have hjo:olds[j]?=some olds[j]:=List.getElem?_eq_getElem (by omega)
         have:=(o2 j _ hjo).1
         simp only[Nat.zero_mul,Nat.add_zero,Nat.zero_add]at this
         rw[BV p1]at this
         rw[hjo,<-this];simp
        ·rw[List.getElem?_eq_none (by simp;omega),List.getElem?_eq_none (by omega)]
      have hvs':((vs.toList.take (els.length*sz)++news++vs.toList.drop (els.length*sz+news.length)).toArray).toList.take ((els++new).length*sz)=olds++news:=by
       rw[hold,hlen,show (els.length+new.length)*sz=(olds++news).length by simp[o1,n1,Nat.add_mul]]
       exact List.take_left
      obtain⟨r1,r2,r3⟩:=Aar hc (i:=i) (e:=e) (sz:=sz) (n0:=els.length) (b:=b) (k:=cp) (vs:=vs) (vs':=(vs.toList.take (els.length*sz)++news++vs.toList.drop (els.length*sz+news.length)).toArray) (els:=els++new) h3 hρ p1 (by rw[hlen];omega) (by rw[hlen];exact hroom) (by rw[hlen];exact hlen1)
       (by simp;omega) (fun j v hj hv=>by
        have hg:=Qd (l:=(vs.toList.take (els.length*sz)++news++vs.toList.drop (els.length*sz+news.length)).toArray.toList) hj
        rw[hvs']at hg
        exact hone v (List.mem_of_getElem? (by rw[hg];simpa using hv)))
       (fun j hj=>by
        rw[List.getElem?_toArray,List.getElem?_append,if_pos (by simp;rw[p2];have:=Nat.mul_le_mul_right sz p3;omega),List.getElem?_append,if_pos (by simp;rw[p2];have:=Nat.mul_le_mul_right sz p3;omega),Qd hj]
        simp) hL hvs'
      rw[hlen]at r1 r2 r3
      exact⟨by rw[IA];exact g1,by rw[Fj];exact g2,_,rfl,rfl,r1,hf0.trans r2,GT g1 hn r3 (Ef r2 h7)⟩
     ·have holds:∀ (j:Nat)(u:Value),olds[j]?=some u->c.w.cell? ((⟨b,0,none⟩:Addr).add j)=some u:=by
       intro j u hu'
       have hE:els≠[]:=by
        intro hE;subst hE
        have hol:olds=[]:=List.eq_nil_of_length_eq_zero (by simpa using o1)
        subst hol;simp at hu'
       have ha:=l4.resolve_left hE
       cases ha
       rw[Addr.add_lit]
       simpa using (o2 j u hu').1
      have hr:=run_append_grow (P:=P) c.w ty o.type e inf z hu hi hz ⟨b,0,none⟩ els.length cp olds (by rw[hsz'];exact o1) holds ⟨bn,on,none⟩ new.length cn news hnl hnews (by omega) h63 (growslice_fits (by omega) hbytes)
      refine⟨_,_,.inl (hexec _ _ (by rw[hv,hvy];exact hr)),?_⟩
      rw[hd]
      have:=newblock (grownCap c.w (els.length+new.length) cp e) (grownCap_ge c.w _ cp e) (by have:=grownCap_le_maxLen c.w (els.length+new.length) cp e (by simp only[maxLen];omega);simpa[C0,maxLen]using this) _ rfl
      simpa using this
end
end Go.Dw
end
section
namespace Go.Dw
theorem sw {c:Cx}{m:Nat}{H':List Ob}{x:V}{v:Value}(h:BD c x v)(hg:∀ (i:Nat)(o:Ob),i<m->c.H[i]?=some o->H'[i]?=some (A5 (AM m) o)):BD ⟨c.w,c.ok,c.ρ,H'⟩ (ren (AM m) x) v :=
 Wl (c:=c) (c':=⟨c.w,c.ok,c.ρ,H'⟩) (fun _ _ _=>rfl) (fun _ _ h=>h) (fun i j o hi ho=>by
  simp only[AM]at hi
  split at hi
  ·rename_i h1;cases hi;exact⟨hg i o h1 ho,rfl⟩
  ·cases hi) h
section
variable {P:Program} {c0:Cx} {N:Nat} {D:List Deferred} {o:Oper} {a:Act} {w:World} {t:T} {H:List Ob}
theorem ge:∀ {els:List (List V)} {l:List UInt8},gY els=some l->∃ xs:List Int,xs.length=els.length/\l=xs.map (fun n=>UInt8.ofNat n.toNat)/\∀ (i:Nat)(e:List V),els[i]?=some e->e=[V.int .u8 (xs.getD i 0)]
 | [],_,h=>by cases h;exact⟨[],rfl,rfl,by simp⟩
 | e::r,l,h=>by
  unfold gY at h
  split at h
  ·rename_i h1;cases h1
  ·rename_i n r' h1
   cases h1
   split at h
   ·rename_i l' hl
    cases h
    obtain⟨xs,q1,q2,q3⟩:=ge hl
    refine⟨n::xs,by simp[q1],by simp[q2],fun i e he=>?_⟩
    cases i with
    | zero=>simp at he;subst he;rfl
    | succ i=>simp at he;simpa using q3 i e he
   ·cases h
  ·cases h
theorem qN {d ty e ty2:Nat}{x:O}{xo:Operand}{els:List (List V)}{l:List UInt8}(hs:Sm c0 N D t H a w)(hd:o.dst=some d)(hn:d<N)(ho:o.op=.convert ty ty2 xo)(hx:Bw xo x=true)
  (hu:P.underlying ty=some (.slice e)) (he:P.underlying e=some (.int .u8)) (hu2:P.underlying ty2=some .string) (h1:We (ev t x)=some els) (h2:gY els=some l):D0 P c0 N D o a w ((d,.str l)::t) H:=by
 obtain⟨xs,q1,q2,q3⟩:=ge h2
 obtain⟨c,hw,_,_,_,hrep⟩:=Jq hs hx
 refine AP hs hd hn (v:=.string ⟨⟨l⟩⟩) ?_ (fun c' _ _ _ _=>rfl)
 rcases QG h1 hrep with ⟨_,e2,e3⟩|⟨sz,_,ad,cp,b,off,e2,_,_,_,e3,e4⟩
 ·subst e3
  have:l=[]:=by cases h2;rfl
  subst this
  have:=run_convert_bytes_nil (P:=P) w ty e hu he 0 0 ty2 hu2
  simp only[execOp,ho,Sem.run_bind,e2,this,Result.andThen_ok,Sem.run_pure]
  rfl
 ·by_cases hE:els=[]
  ·subst hE
   have hl:l=[]:=by cases h2;rfl
   subst hl
   cases ad with
   | none =>
    have:=run_convert_bytes_nil (P:=P) w ty e hu he 0 cp ty2 hu2
    simp only[execOp,ho,Sem.run_bind,e2,List.length_nil,this,Result.andThen_ok,Sem.run_pure]
    rfl
   | some ad =>
    obtain⟨b',o',sp⟩:=ad
    have hrun:(convert ty ty2 (.slice (some ⟨b',o',sp⟩) 0 cp)).run P w=.ok (.string ⟨⟨[]⟩⟩) w:=by
     rw[run_convert_bytes_string w ty ty2 e _ 0 cp hu he hu2]
     simp[Conv.bytesToString,loadCells,loadCellsFrom]
     rfl
    simp only[execOp,ho,Sem.run_bind,e2,List.length_nil,hrun,Result.andThen_ok,Sem.run_pure]
  ·have ha:=e3.resolve_left hE
   subst ha
   have hcell:∀ i,i<els.length->w.cell? ⟨b,off+i,none⟩=some (.int .u8 (xs.getD i 0)):=by
    intro i hi
    have hg:els[i]?=some els[i]:=List.getElem?_eq_getElem hi
    obtain⟨g1,g2⟩:=La e4 hg
    rw[q3 i _ hg]at g1 g2
    have hsz:sz=1:=by simpa using g1.symm
    subst hsz
    obtain⟨⟨v,r1,_,_,r4⟩,_⟩:=g2
    have hv:v=.int .u8 (xs.getD i 0):=r4
    subst hv
    rw[hw]at r1
    simpa using r1
   have:=run_convert_bytes_arg (P:=P) w ty e hu he b off els.length cp xs q1 hcell ty2 hu2
   simp only[execOp,ho,Sem.run_bind,e2,this,Result.andThen_ok,Sem.run_pure,strOfNums,q2]
theorem ti {d ty ty2 e:Nat}{s:List UInt8}{x:O}{xo:Operand}(hs:Sm c0 N D t H a w)(hd:o.dst=some d)(hn:d<N)(ho:o.op=.convert ty ty2 xo)(hx:Bw xo x=true)
  (hu:P.underlying ty=some .string) (hu2:P.underlying ty2=some (.slice e)) (he:P.underlying e=some (.int .u8)) (h1:ev t x=.str s) (hl:s.length<=Ah):D0 P c0 N D o a w ((d,.sl 1 (s.map fun c=>[.int .u8 c.toNat]))::t) H:=by
 obtain⟨c,_,_,_,_,hrep⟩:=Jq hs hx
 rw[h1]at hrep
 have hv:a.eval xo=.string ⟨⟨s⟩⟩:=hrep
 have hsz:(⟨⟨s⟩⟩:ByteArray).size=s.length:=rfl
 have hr:=run_bytes_of_string (P:=P) w ty ty2 e ⟨⟨s⟩⟩ hu hu2 he
 rw[hsz]at hr
 have hcap1:=grownCap_ge w s.length 0 e
 have hcap2:=grownCap_le_maxLen w s.length 0 e (by simp only[maxLen];unfold Ah at hl;omega)
 generalize grownCap w s.length 0 e=cap at hr hcap1 hcap2
 refine⟨.slice (some ⟨w.heap.size,0,none⟩) s.length cap,w.drew.alloc (.cells (bytesRow ⟨⟨s⟩⟩ cap) e ((bytesRow ⟨⟨s⟩⟩ cap).size,(bytesRow ⟨⟨s⟩⟩ cap).size+1)),.inl ?_,?_⟩
 ·simp only[execOp,ho,Sem.run_bind,hv,hr,Result.andThen_ok,Sem.run_pure]
 ·rw[hd]
  refine O6 hs hn fun c' h3 h4 h5 ht=>?_
  subst h3 h4
  obtain⟨k1,k2⟩:=Qu h5 (w':=c'.w.drew) rfl rfl rfl rfl (Nat.le_succ _)
  have hfr:=PI k1 (.cells (bytesRow ⟨⟨s⟩⟩ cap) e ((bytesRow ⟨⟨s⟩⟩ cap).size,(bytesRow ⟨⟨s⟩⟩ cap).size+1))
  refine⟨Cx.addRo { c' with w:=c'.w.drew } (.cells (bytesRow ⟨⟨s⟩⟩ cap) e ((bytesRow ⟨⟨s⟩⟩ cap).size,(bytesRow ⟨⟨s⟩⟩ cap).size+1)),rfl,rfl,RR k1 _,k2.trans hfr,some ⟨c'.w.heap.size,0,none⟩,cap,c'.w.heap.size,0,by simp,by simpa using hcap1,by simpa[C0,maxLen]using hcap2,by simpa using hl,.inr rfl,Ie fun i x hx=>?_⟩
  simp only[List.getElem?_map]at hx
  cases hi:s[i]? with
  | none=>simp[hi]at hx
  | some b =>
   simp[hi]at hx
   subst hx
   refine⟨rfl,⟨.int .u8 b.toNat,?_,.inr rfl,rfl,rfl⟩,trivial⟩
   simp only[Cx.addRo]
   rw[BV (vs:=bytesRow ⟨⟨s⟩⟩ cap) (e:=e) (fz:=((bytesRow ⟨⟨s⟩⟩ cap).size,(bytesRow ⟨⟨s⟩⟩ cap).size+1)) (by exact heap_alloc_new c'.w.drew _)]
   have hil:i<s.length:=(List.getElem?_eq_some_iff.1 hi).1
   have hb:s[i]=b:=(List.getElem?_eq_some_iff.1 hi).2
   simp[bytesRow,Array.getElem?_append,hil,hb]
theorem ji {d e sz:Nat}(hs:Sm c0 N D t H a w)(hn:lk t d=.nil):Sm c0 N D ((d,.own H.length sz [])::t) (H++[.arr e sz 0]) a w:=by
 obtain⟨g1,g2,c,rfl,rfl,hc,hf0,h7⟩:=hs
 have hf:Fr c ⟨c.w,c.ok,P2 c.ρ c.H.length none,c.H++[.arr e sz 0]⟩:=by
  refine⟨fun _ _ h=>h,fun _ _ _=>rfl,Nat.le_refl _,fun _ _ h=>.inl h,fun _ _ _=>rfl,fun b hb=>?_,fun i o hi=>?_,rfl,rfl,rfl,Nat.le_refl _⟩
  ·obtain⟨j,k,hj,hr⟩:=hb
   simp only[List.length_append,List.length_cons,List.length_nil]at hj hr
   by_cases e1:j=c.H.length
   ·subst e1;rw[Av]at hr;cases hr
   ·rw[AO e1]at hr;exact .inl ⟨j,k,by omega,hr⟩
  ·have hil:i<c.H.length:=(List.getElem?_eq_some_iff.1 hi).1
   refine⟨o,by simpa[List.getElem?_append_left hil]using hi,?_⟩
   simp only[AO (show i≠c.H.length by omega)]
   cases o<;>simp[CC]
 have hcn:B5 ⟨c.w,c.ok,P2 c.ρ c.H.length none,c.H++[.arr e sz 0]⟩:=by
  refine⟨fun i j b k1 k2 hi hj h1 h2=>?_,hc.okLt,fun i o hi=>?_,hc.globFr hf⟩
  ·simp only[List.length_append,List.length_cons,List.length_nil]at hi hj h1 h2
   by_cases e1:i=c.H.length
   ·subst e1;rw[Av]at h1;cases h1
   ·by_cases e2:j=c.H.length
    ·subst e2;rw[Av]at h2;cases h2
    ·rw[AO e1]at h1;rw[AO e2]at h2
     exact hc.inj i j b k1 k2 (by omega) (by omega) h1 h2
  ·by_cases e1:i<c.H.length
   ·have hi':c.H[i]?=some o:=by simpa[List.getElem?_append_left e1]using hi
    simp only[AO (show i≠c.H.length by omega)]
    exact Do hf (hc.obj i o hi') fun b k _=>⟨rfl,fun _ h=>h⟩
   ·have hl:=(List.getElem?_eq_some_iff.1 hi).1
    simp only[List.length_append,List.length_cons,List.length_nil]at hl
    have e2:i=c.H.length:=by omega
    subst e2
    simp only[List.getElem?_concat_length,Option.some.injEq]at hi
    subst hi
    simp only[Av]
    exact⟨fun _=>rfl,fun b k h=>by cases h⟩
 refine⟨g1,g2,⟨c.w,c.ok,P2 c.ρ c.H.length none,c.H++[.arr e sz 0]⟩,rfl,rfl,hcn,hf0.trans hf,fun s x hx=>?_⟩
 simp only[find]at hx
 split at hx
 ·rename_i e1;subst e1;cases hx
  have hl:=Ke h7 d
  rw[hn]at hl
  have hv:a.tmps.getD d undef=.slice none 0 0:=hl
  have hd:d<N:=by
   cases hfd:find t d with
   | none=>simp[lk,hfd]at hn
   | some y=>exact (h7 d y hfd).1
  refine⟨hd,⟨none,0,0,0,hv,Nat.le_refl _,by unfold C0;omega,by simp,.inl rfl,trivial⟩,by simp,fun e' sz' n hn'=>?_⟩
  simp only[List.getElem?_concat_length,Option.some.injEq,Ob.arr.injEq]at hn'
  obtain⟨_,rfl,rfl⟩:=hn'
  exact⟨rfl,Nat.le_refl _,fun _=>by simp only[Av];exact hv⟩
 ·exact⟨(h7 s x hx).1,AW hf (h7 s x hx).2⟩
theorem aj {c0 c:Cx}{D:List Deferred}(hc:B5 c)(hf1:rA c0 D c){m:Nat}(hB:c0.H.length<=m) :
  B5 ⟨c.w,c.ok,c.ρ,(c.H.take m).map (A5 (AM m))⟩/\rA c0 D ⟨c.w,c.ok,c.ρ,(c.H.take m).map (A5 (AM m))⟩/\∀ x v,BD c x v->BD ⟨c.w,c.ok,c.ρ,(c.H.take m).map (A5 (AM m))⟩ (ren (AM m) x) v:=by
 have hf0:=hf1.fr
 have hget:∀ (i:Nat)(o:Ob),(((c.H.take m).map (A5 (AM m)))[i]?=some o)->∃ o',i<m/\c.H[i]?=some o'/\o=A5 (AM m) o':=by
  intro i o hi
  rw[List.getElem?_map,List.getElem?_take]at hi
  split at hi
  ·cases ho:c.H[i]? with
   | none=>simp[ho]at hi
   | some o'=>simp[ho]at hi;exact⟨o',by assumption,rfl,hi.symm⟩
  ·simp at hi
 have hget':∀ (i:Nat)(o:Ob),i<m->c.H[i]?=some o->((c.H.take m).map (A5 (AM m)))[i]?=some (A5 (AM m) o):=by
  intro i o hi ho
  rw[List.getElem?_map,List.getElem?_take,if_pos hi,ho];rfl
 have hren:∀ x v,BD c x v->BD ⟨c.w,c.ok,c.ρ,(c.H.take m).map (A5 (AM m))⟩ (ren (AM m) x) v:=by
  intro x v hx
  exact sw hx hget'
 have hcn:B5 ⟨c.w,c.ok,c.ρ,(c.H.take m).map (A5 (AM m))⟩:=by
  refine⟨fun i j b k1 k2 hi hj h1 h2=>hc.inj i j b k1 k2 (by simp at hi;omega) (by simp at hj;omega) h1 h2,hc.okLt,fun i o hi=>?_,hc.glob.keep (fun _ _ _=>rfl) fun b ⟨i,k,hi,hr⟩=>.inl ⟨i,k,by simp at hi;omega,hr⟩⟩
  obtain⟨o',him,ho',rfl⟩:=hget i o hi
  have h:=hc.obj i o' ho'
  cases o' with
  | cells e cs =>
   obtain⟨b,vs,q1,q2,q3,q4,q5⟩:=h
   refine⟨b,vs,q1,q2,by rw[JU];exact q3,q4,fun j x hx=>?_⟩
   rw[LX]at hx
   cases hy:cs[j]? with
   | none=>simp[hy]at hx
   | some y =>
    simp[hy]at hx;subst hx
    obtain⟨v,r1,r2,r3⟩:=q5 j y hy
    exact⟨v,r1,r2,hren _ _ r3⟩
  | arr e sz n=>exact h
  | map es =>
   obtain⟨b,ents,q1,q2,q3,q4⟩:=h
   exact⟨b,ents,q1,by simpa[A5]using q2,q3,q4.ren hren⟩
  | iter mm n seen =>
   obtain⟨b,bm,q1,q2,q3,q4⟩:=h
   refine⟨b,bm,q1,q2,q3,q4.ren fun i j o hi ho=>?_⟩
   unfold AM at hi
   split at hi
   ·rename_i hlt;cases hi;exact⟨hget' _ _ hlt ho,rfl⟩
   ·cases hi
  | dead=>exact h
  | row e sz els =>
   refine⟨fun hr=>by simpa[A5]using h.1 hr,fun b k hb=>?_⟩
   obtain⟨vs,q1,q2,q3,q4,q5,q6⟩:=h.2 b k hb
   exact⟨vs,q1,q2,by simpa using q3,q4,q5,q6.ren hren⟩
  | lp l st r ts =>
   obtain⟨q1,q2,q3,q4⟩:=h
   exact⟨q1,q2,q3,q4.ren hren⟩
 have hf:Fr c0 ⟨c.w,c.ok,c.ρ,(c.H.take m).map (A5 (AM m))⟩:=by
  refine⟨hf0.okS,hf0.cell,hf0.size,hf0.okN,hf0.heap,fun b hb=>?_,fun i o ho=>?_,hf0.os,hf0.tape,hf0.output,hf0.drawn⟩
  ·obtain⟨j,k,hj,hr⟩:=hb
   exact hf0.own b ⟨j,k,by simp at hj;omega,hr⟩
  ·obtain⟨o',h1,h2⟩:=hf0.ext i o ho
   have hi:i<c0.H.length:=(List.getElem?_eq_some_iff.1 ho).1
   refine⟨_,hget' i o' (by omega) h1,?_⟩
   cases o<;>cases o'<;>simp only[CC,A5,List.length_map]at h2 ⊢<;>exact h2
 refine⟨hcn,⟨hf,fun d hd=>?_,hf1.nodup⟩,hren⟩
 obtain⟨b,p1,p2,p3,p4,p5⟩:=hf1.marks d hd
 refine⟨b,p1,p2,p3,fun ho=>?_,p5⟩
 obtain⟨j,k,hj,hr⟩:=ho
 exact p4 ⟨j,k,by simp at hj;omega,hr⟩
theorem Adx {B m:Nat}{l:List Nat}(hB:c0.H.length<=m)(hs:Sm c0 N D t H a w)(hl:∀ n∈l,n<N):Sm c0 N D (l.map fun n=>(n,ren (AM m) (lk t n))) ((H.take m).map (A5 (AM m))) a w:=by
 obtain⟨g1,g2,c,rfl,rfl,hc,hf1,h7⟩:=hs
 obtain⟨hcn,hfd,hren⟩:=aj hc hf1 hB
 refine⟨g1,g2,⟨c.w,c.ok,c.ρ,(c.H.take m).map (A5 (AM m))⟩,rfl,rfl,hcn,hfd,fun s x hx=>?_⟩
 have key:∀ (l:List Nat),(∀ n∈l,n<N)->find (l.map fun n=>(n,ren (AM m) (lk t n))) s=some x->s<N/\x=ren (AM m) (lk t s):=by
  intro l
  induction l with
  | nil=>intro _ h;simp[find]at h
  | cons n l ih =>
   intro hl h
   simp only[List.map_cons,find]at h
   split at h
   ·rename_i e1;subst e1;cases h;exact⟨hl _ (by simp),rfl⟩
   ·exact ih (fun k hk=>hl k (by simp[hk])) h
 obtain⟨h1,rfl⟩:=key l hl hx
 exact⟨h1,hren _ _ (Ke h7 s)⟩
theorem Ys (off:Nat)(x:V)(cs:List V)(h:off<cs.length)(j:Nat):(put off [x] cs)[j]?=if j=off then some x else cs[j]?:=by
 simp only[put,List.getElem?_append,List.length_append,List.length_take,List.length_cons,List.length_nil,List.getElem?_take,List.getElem?_drop]
 rw[show min off cs.length=off by omega]
 by_cases h1:j<off
 ·simp[h1,show j<off+(0+1) by omega,show j≠off by omega]
 ·by_cases h2:j=off
  ·subst h2;simp
  ·simp[show ¬ j<off+1 by omega,h2]
   congr 1;omega
theorem Abx {e sz i off e':Nat}{cs:List V}(hs:Sm c0 N D t H a w)(hi:H[i]?=some (.cells e' cs))(ho:cs[off]?=some .nil):Sm c0 N D t (H.set i (.cells e' (put off [.own H.length sz []] cs))++[.arr e sz 0]) a w:=by
 obtain⟨g1,g2,c,rfl,rfl,hc,hf0,h7⟩:=hs
 have hil:i<c.H.length:=(List.getElem?_eq_some_iff.1 hi).1
 have hofl:off<cs.length:=(List.getElem?_eq_some_iff.1 ho).1
 have hg:∀ (j:Nat),(c.H.set i (.cells e' (put off [.own c.H.length sz []] cs))++[.arr e sz 0])[j]?=if j=i then some (.cells e' (put off [.own c.H.length sz []] cs)) else if j=c.H.length then some (.arr e sz 0) else c.H[j]?:=by
  intro j
  by_cases hj:j<c.H.length
  ·rw[List.getElem?_append_left (by simpa using hj),Cd hil]
   by_cases e1:i=j
   ·subst e1;simp
   ·simp[e1,Ne.symm e1,show j≠c.H.length by omega]
  ·by_cases e1:j=c.H.length
   ·subst e1;simp[show c.H.length≠i by omega]
   ·rw[List.getElem?_append_right (by simp;omega)]
    simp[show j≠i by omega,e1]
    rw[List.getElem?_eq_none (by simp;omega),List.getElem?_eq_none (by omega)]
 have hf:Fr c ⟨c.w,c.ok,P2 c.ρ c.H.length none,c.H.set i (.cells e' (put off [.own c.H.length sz []] cs))++[.arr e sz 0]⟩:=by
  refine⟨fun _ _ h=>h,fun _ _ _=>rfl,Nat.le_refl _,fun _ _ h=>.inl h,fun _ _ _=>rfl,fun b hb=>?_,fun j o hj=>?_,rfl,rfl,rfl,Nat.le_refl _⟩
  ·obtain⟨j,k,hj,hr⟩:=hb
   simp only[List.length_append,List.length_cons,List.length_nil,List.length_set]at hj hr
   by_cases e1:j=c.H.length
   ·subst e1;rw[Av]at hr;cases hr
   ·rw[AO e1]at hr;exact .inl ⟨j,k,by omega,hr⟩
  ·have hjl:j<c.H.length:=(List.getElem?_eq_some_iff.1 hj).1
   simp only[hg,AO (show j≠c.H.length by omega)]
   by_cases e1:j=i
   ·subst e1
    rw[hi]at hj;cases hj
    exact⟨.cells e' (put off [.own c.H.length sz []] cs),by simp,rfl,rfl⟩
   ·refine⟨o,by simp[e1,show j≠c.H.length by omega,hj],?_⟩
    cases o<;>simp[CC]
 have hcn:B5 ⟨c.w,c.ok,P2 c.ρ c.H.length none,c.H.set i (.cells e' (put off [.own c.H.length sz []] cs))++[.arr e sz 0]⟩:=by
  refine⟨fun j1 j2 b k1 k2 h1 h2 h3 h4=>?_,hc.okLt,fun j o hj=>?_,hc.globFr hf⟩
  ·simp only[List.length_append,List.length_cons,List.length_nil,List.length_set]at h1 h2 h3 h4
   by_cases e1:j1=c.H.length
   ·subst e1;rw[Av]at h3;cases h3
   ·by_cases e2:j2=c.H.length
    ·subst e2;rw[Av]at h4;cases h4
    ·rw[AO e1]at h3;rw[AO e2]at h4
     exact hc.inj j1 j2 b k1 k2 (by omega) (by omega) h3 h4
  ·simp only[hg]at hj
   by_cases e1:j=i
   ·subst e1
    simp at hj;subst hj
    simp only[AO (show j≠c.H.length by omega)]
    obtain⟨b,vs,q1,q2,q3,q4,q5⟩:=hc.obj j _ hi
    refine⟨b,vs,q1,q2,by rw[LV (by simp;omega)];exact q3,q4,fun l x hx=>?_⟩
    rw[Ys _ _ _ hofl]at hx
    by_cases e2:l=off
    ·subst e2
     simp at hx;subst hx
     obtain⟨v,r1,r2,r3⟩:=q5 l _ ho
     have hv:v=.slice none 0 0:=r3
     refine⟨v,r1,r2,⟨none,0,0,0,hv,Nat.le_refl _,by unfold C0;omega,by simp,.inl rfl,trivial⟩,by simp,fun e'' sz' n hn'=>?_⟩
     simp only[hg,if_neg (show c.H.length≠j by omega),if_true,Option.some.injEq,Ob.arr.injEq]at hn'
     obtain⟨_,rfl,rfl⟩:=hn'
     exact⟨rfl,Nat.le_refl _,fun _=>by simp only[Av];exact hv⟩
    ·simp only[e2,if_false]at hx
     obtain⟨v,r1,r2,r3⟩:=q5 l x hx
     exact⟨v,r1,r2,AW hf r3⟩
   ·by_cases e2:j=c.H.length
    ·subst e2
     simp[e1]at hj;subst hj
     simp only[Av]
     exact⟨fun _=>rfl,fun b k h=>by cases h⟩
    ·simp only[e1,e2,if_false]at hj
     simp only[AO e2]
     exact Do hf (hc.obj j o hj) fun b k _=>⟨rfl,fun _ h=>h⟩
 exact⟨g1,g2,⟨c.w,c.ok,P2 c.ρ c.H.length none,c.H.set i (.cells e' (put off [.own c.H.length sz []] cs))++[.arr e sz 0]⟩,rfl,rfl,hcn,hf0.trans hf,fun s x hx=>⟨(h7 s x hx).1,AW hf (h7 s x hx).2⟩⟩
end
end Go.Dw
end
section
namespace Go.Dw
def Cx.pt (c:Cx)(b:Nat)(ob:Obj)(i:Nat)(o:Ob):Cx:=⟨{ c.w with heap:=c.w.heap.setIfInBounds b ob },c.ok,c.ρ,c.H.set i o⟩
theorem HL {w:World}{b b':Nat}{ob:Obj}(h:b'≠b):(w.heap.setIfInBounds b ob)[b']?=w.heap[b']?:=Array.getElem?_setIfInBounds_ne (Ne.symm h)
theorem aL {c:Cx}(hc:B5 c){b i k:Nat}{o0 o:Ob}(hi:c.H[i]?=some o0)(hρ:c.ρ i=some (b,k))(hno:∀ x,¬ c.ok b x)(ob:Obj)(ho:CC o0 o (c.ρ i) (c.ρ i)):Fr c (c.pt b ob i o):=by
 have hil:i<c.H.length:=(List.getElem?_eq_some_iff.1 hi).1
 refine⟨fun _ _ h=>h,fun b' o' h=>?_,by simp[Cx.pt],fun b' o' h=>.inl h,fun b' hb' hn=>?_,fun b' hb'=>?_,fun j o' hj=>?_,rfl,rfl,rfl,Nat.le_refl _⟩
 ·have hne:b'≠b:=by intro e;subst e;exact hno _ h
  simp only[Cx.pt,World.cell?,HL hne]
 ·have hne:b'≠b:=by intro e;subst e;exact hn ⟨i,k,hil,hρ⟩
  exact HL hne
 ·obtain⟨j,k',hj,hr⟩:=hb'
  exact .inl ⟨j,k',by simpa[Cx.pt]using hj,hr⟩
 ·simp only[Cx.pt,Cd hil]
  by_cases e:i=j
  ·subst e
   rw[hi]at hj;cases hj
   exact⟨o,by simp,ho⟩
  ·refine⟨o',by simp[e,hj],?_⟩
   cases o'<;>simp[CC]
theorem Ty {c:Cx}(hc:B5 c){b i k:Nat}{o0 o:Ob}(hi:c.H[i]?=some o0)(hρ:c.ρ i=some (b,k))(hno:∀ x,¬ c.ok b x)(ob:Obj)(ho:CC o0 o (c.ρ i) (c.ρ i))(hor:WM (c.pt b ob i o) o (c.ρ i)):B5 (c.pt b ob i o):=by
 have hf:=aL hc hi hρ hno ob ho
 have hil:i<c.H.length:=(List.getElem?_eq_some_iff.1 hi).1
 refine⟨fun j1 j2 b' k1 k2 h1 h2 h3 h4=>hc.inj j1 j2 b' k1 k2 (by simpa[Cx.pt]using h1) (by simpa[Cx.pt]using h2) h3 h4,fun b' o' h=>by simpa[Cx.pt]using hc.okLt b' o' h,fun j o' hj=>?_,hc.globFr hf⟩
 simp only[Cx.pt,Cd hil]at hj
 by_cases e:i=j
 ·subst e
  simp at hj;subst hj;exact hor
 ·simp only[e,if_false]at hj
  refine Do hf (hc.obj j o' hj) fun b' k' hr=>?_
  have hne:b'≠b:=by
   intro eb;subst eb
   exact e (hc.inj i j _ _ _ hil (List.getElem?_eq_some_iff.1 hj).1 hρ hr)
  exact⟨HL hne,fun x hx=>hx⟩
theorem Yp (a b:List UInt8):((⟨⟨a⟩⟩:ByteArray)==⟨⟨b⟩⟩)=(a==b):=by
 rw[show ((⟨⟨a⟩⟩:ByteArray)==⟨⟨b⟩⟩)=((⟨a⟩:Array UInt8)==⟨b⟩) from rfl];simp
def kdB (kd:TypeDesc)(k:V):Bool:=match kd,k with
 | .int _,.int _ _=>true
 | .string,.str _=>true
 | _,_=>false
theorem PB {c:Cx}{kd:TypeDesc}{k q:V}(hkd:kdB kd k=true){kv qv:Value}(hk:BD c k kv)(hq:BD c q qv){b:Bool}(h:HP k q=some b):Instr.sameNow kd kv qv=some b:=by
 unfold HP at h
 unfold kdB at hkd
 split at h
 ·rename_i j a j' a'
  split at hkd
  ·rename_i heq;cases heq
   have e1:kv=.int j a:=hk
   have e2:qv=.int j' a':=hq
   subst e1 e2
   simpa[Instr.sameNow]using h
  ·rename_i heq;cases heq
  ·cases hkd
 ·rename_i a b'
  split at hkd
  ·rename_i heq;cases heq
  ·have e1:kv=.string ⟨⟨a⟩⟩:=hk
   have e2:qv=.string ⟨⟨b'⟩⟩:=hq
   subst e1 e2
   simp only[Option.some.injEq]at h
   subst h
   simp only[Instr.sameNow,Yp]
  ·cases hkd
 ·cases h
theorem Mb {c:Cx}{kd:TypeDesc}{k:V}(hkd:kdB kd k=true){kv:Value}(hk:BD c k kv):∀ {es:List (V×V)} {el:List MapEntry} {n:Nat} {r:Option (Nat×V)},el.length=es.length ->
  (∀ (i:Nat)(p:V×V),es[i]?=some p->∃ e,el[i]?=some e/\BD c p.1 e.key/\BD c p.2 e.val)->FV k es n=some r ->
  (r=none/\Instr.findNow kd kv el n=some none)\/∃ j x v,r=some (n+j,x)/\Instr.findNow kd kv el n=some (some (n+j,v))/\BD c x v/\∃ p,es[j]?=some p/\HP k p.1=some true
 | [],[],n,r,_,_,h=>by
  simp only[FV,Option.some.injEq]at h
  exact .inl ⟨h.symm,rfl⟩
 | [],_::_,_,_,hl,_,_=>by simp at hl
 | _::_,[],_,_,hl,_,_=>by simp at hl
 | p::es,e::el,n,r,hl,hr,h=>by
  obtain⟨e',h0,h1,h2⟩:=hr 0 p rfl
  simp at h0
  subst h0
  simp only[FV]at h
  split at h
  ·rename_i hs
   cases h
   right
   refine⟨0,p.2,e.val,rfl,?_,h2,p,rfl,hs⟩
   simp[Instr.findNow,PB hkd hk h1 hs]
  ·rename_i hs
   rcases Mb hkd hk (by simpa using hl) (fun i q hq=>hr (i+1) q (by simpa using hq)) h with ⟨q1,q2⟩|⟨j,x,v,q1,q2,q3,q,q4,q5⟩
   ·exact .inl ⟨q1,by simp[Instr.findNow,PB hkd hk h1 hs,q2]⟩
   ·right
    refine⟨j+1,x,v,by rw[q1];congr 2;omega,?_,q3,q,by simpa using q4,q5⟩
    simp only[Instr.findNow,PB hkd hk h1 hs,q2]
    congr 3;omega
  ·cases h
def AeG (P:Program)(t:TypeId)(k:V->Bool):Bool:=match P.underlying t with
 | some (.map key _)=>match P.underlying key with
  | some _=>true
  | none=>false
 | _=>false
def yE (P:Program)(t:TypeId):Option TypeDesc:=match P.underlying t with
 | some (.map key _)=>match P.underlying key with
  | some (.int j)=>some (.int j)
  | some .string=>some .string
  | _=>none
 | _=>none
theorem ke {P:Program}{t:TypeId}{kd:TypeDesc}(h:yE P t=some kd):∃ key elem,P.underlying t=some (.map key elem)/\P.underlying key=some kd/\((∃ j,kd=.int j)\/kd=.string):=by
 unfold yE at h
 split at h
 ·rename_i key elem hu
  split at h
  ·rename_i j hk;cases h;exact⟨key,elem,hu,hk,.inl ⟨_,rfl⟩⟩
  ·rename_i hk;cases h;exact⟨key,elem,hu,hk,.inr rfl⟩
  ·cases h
 ·cases h
theorem MJ {P:Program}{key:TypeId}{kd:TypeDesc}(hk:P.underlying key=some kd)(hkd:(∃ j,kd=.int j)\/kd=.string){e:Bool}{v:Value}(w:World)(n:Nat):(Instr.checkKey e (n+1) key v).run P w=.ok () w:=by
 rcases hkd with ⟨j,rfl⟩ | rfl<;>simp[Instr.checkKey,run_underlying hk]
theorem Kz {P:Program}{key:TypeId}{kd:TypeDesc}(hk:P.underlying key=some kd)(hkd:(∃ j,kd=.int j)\/kd=.string){e:Bool}{v:Value}(w:World):(Instr.checkKey e 10000 key v).run P w=.ok () w :=
 MJ hk hkd w 9999
theorem Mt {P:Program}{key:TypeId}{kd:TypeDesc}(hk:P.underlying key=some kd){kv:Value}{el:List MapEntry}{r:Option (Nat×Value)}(h:Instr.findNow kd kv el 0=some r)(w:World):(Instr.findKey key kv el).run P w=.ok r w:=by
 simp[Instr.findKey,run_underlying hk,h]
theorem DS {P:Program}{w:World}{b:Nat}{es:Array MapEntry}{n:Nat}(h:w.heap[b]?=some (.map es n)):(getObj b).run P w=.ok (.map es n) w:=by simp[getObj,Sem.run,h]
def lF (ks:Bool):TypeDesc->Bool
 | .string=>ks
 | .int _=>!ks
 | _=>false
def wu (v:Value)(z:V):Bool:=okC v z||(match v,z with | .agg vs,.agg zs=>okZ vs.toList zs | _,_=>false)
theorem dv {v:Value}{x:V}(h:wu v x=true)(c:Cx):BD c x v:=by
 unfold wu at h
 rw[Bool.or_eq_true]at h
 rcases h with h | h
 ·exact (cq h c).1
 ·split at h
  ·obtain⟨h1,h2⟩:=NV h (c:=c)
   exact⟨_,rfl,h1,h2⟩
  ·cases h
def si (P:Program)(t:TypeId)(ks:Bool)(z:V):Bool:=(match yE P t with | some kd=>lF ks kd | none=>false)&&(match P.underlying t with
 | some (.map _ elem)=>(match P.info? elem with | some i=>(match i.zero with | some v=>wu v z | none=>false) | none=>false)
 | _=>false)
theorem kb {ks:Bool}{kd:TypeDesc}{k:V}(h:lF ks kd=true)(h2:lv ks k=true):kdB kd k=true:=by
 cases kd<;>simp only[lF,Bool.false_eq_true]at h<;>cases k<;>simp only[lv,Bool.false_eq_true]at h2<;>simp_all [kdB]
section
variable {P:Program} {c0:Cx} {N:Nat} {D:List Deferred} {o:Oper} {a:Act} {w:World} {t:T} {H:List Ob}
theorem pT {d ty:Nat}(hs:Sm c0 N D t H a w)(hd:o.dst=some d)(hn:d<N)(ho:o.op=.makeMap ty none):D0 P c0 N D o a w ((d,.map H.length)::t) (H++[.map []]):=by
 refine⟨.map (some w.heap.size),w.alloc (.map #[] 0),.inl ?_,?_⟩
 ·simp[execOp,ho,Instr.makeMap,newObj,Sem.run]
 ·rw[hd]
  refine O6 hs hn fun c h3 h4 h5 h7=>⟨c.addOwn (.map #[] 0) (.map []) 0 fun _=>False,by subst h3;rfl,by subst h4;rfl,?_,HQ h5 _ _ _ _,?_⟩
  ·refine HI h5 _ _ _ _ ⟨c.w.heap.size,#[],rfl,heap_alloc_new _ _,fun o ho=>?_,rfl,by simp⟩
   exact absurd (h5.okLt _ _ (ho.resolve_right (by simp))) (Nat.lt_irrefl _)
  ·subst h3;subst h4
   exact⟨by simp[Cx.addOwn],⟨_,rfl⟩,fun es h=>⟨c.w.heap.size,0,Av _ _ _,rfl⟩⟩
theorem Lu {c:Cx}(hc:B5 c){m:V}{mv:Value}(hr:BD c m mv){es:List (V×V)}(h:DA c.H m=some es):(mv=.map none/\es=[])\/∃ i b ents,m=.map i/\c.H[i]?=some (.map es)/\c.ρ i=some (b,0)/\mv=.map (some b)/\c.w.heap[b]?=some (.map ents es.length)/\(∀ o,¬ c.ok b o)/\Ix c es ents:=by
 unfold DA at h
 split at h
 ·cases h;exact .inl ⟨hr,rfl⟩
 ·rename_i i
  split at h
  ·rename_i es' hi
   cases h
   obtain⟨h1,h2,h3⟩:=hr
   obtain⟨b,k,q1,q2⟩:=h3 _ hi
   obtain⟨b',ents,p1,p2,p3,p4⟩:=hc.obj i _ hi
   rw[p1]at q1;cases q1
   exact .inr ⟨i,_,ents,rfl,hi,p1,q2,p2,p3,p4⟩
  ·cases h
 ·cases h
theorem KX {c:Cx}{es:List (V×V)}{ents:Array MapEntry}(h:Ix c es ents):ents.toList.length=es.length/\∀ (i:Nat)(p:V×V),es[i]?=some p->∃ e,ents.toList[i]?=some e/\BD c p.1 e.key/\BD c p.2 e.val :=
 ⟨by simpa using h.1,fun i p hp=>(h.2 i p hp).imp fun e he=>⟨by simpa using he.1,he.2.2⟩⟩
def Kj (zv:Value)(ok:Bool)(fv:Option (Nat×Value)):Value:=if ok then .tuple #[(match fv with | some p=>p.2 | none=>zv),.bool fv.isSome] else (match fv with | some p=>p.2 | none=>zv)
theorem Ye {ty key elem:Nat}{kd:TypeDesc}{inf:TypeInfo}{zv kv:Value}{ok:Bool}(hu:P.underlying ty=some (.map key elem))(huk:P.underlying key=some kd)(hkk:(∃ j,kd=.int j)\/kd=.string)(hi:P.info? elem=some inf)(hz:inf.zero=some zv)(w:World) :
  (Instr.lookup ty (.map none) kv ok).run P w=.ok (Kj zv ok none) w:=by
 have h1:(Instr.findKey key kv []).run P w=.ok none w:=Mt huk (by rfl) w
 have h2:(zeroValue elem).run P w=.ok zv w:=by simp[zeroValue,typeInfo,hi,hz]
 cases ok<;>simp[Instr.lookup,run_underlying hu,Kz huk hkk,h1,h2,Kj]
theorem jI {ty key elem:Nat}{kd:TypeDesc}{inf:TypeInfo}{zv kv:Value}{ok:Bool}(hu:P.underlying ty=some (.map key elem))(huk:P.underlying key=some kd)(hkk:(∃ j,kd=.int j)\/kd=.string)(hi:P.info? elem=some inf)(hz:inf.zero=some zv){w:World}{b n:Nat}{ents:Array MapEntry}
  (hb:w.heap[b]?=some (.map ents n)) {fv:Option (Nat×Value)} (hf:Instr.findNow kd kv ents.toList 0=some fv):(Instr.lookup ty (.map (some b)) kv ok).run P w=.ok (Kj zv ok fv) w:=by
 have h1:(Instr.findKey key kv ents.toList).run P w=.ok fv w:=Mt huk hf w
 have h2:(zeroValue elem).run P w=.ok zv w:=by simp[zeroValue,typeInfo,hi,hz]
 cases ok<;>cases fv<;>simp[Instr.lookup,run_underlying hu,Kz huk hkk,DS hb,h1,h2,Kj]
theorem ph {d ty:Nat}{ks ok:Bool}{z:V}{m k:O}{ym yk:Operand}{r:V}(hs:Sm c0 N D t H a w)(hd:o.dst=some d)(hn:d<N)(ho:o.op=.lookup ty ym yk ok)(hb:si P ty ks z=true)(hm:Bw ym m=true)(hk:Bw yk k=true)(hr:Lq H ks ok z (ev t m) (ev t k)=some r) :
  D0 P c0 N D o a w ((d,r)::t) H:=by
 simp only[si,Bool.and_eq_true]at hb
 obtain⟨hb1,hb2⟩:=hb
 split at hb1
 case h_2=>cases hb1
 rename_i kd hkd
 obtain⟨key,elem,hu,huk,hkk⟩:=ke hkd
 rw[hu]at hb2
 simp only at hb2
 cases hi:P.info? elem with
 | none=>simp[hi]at hb2
 | some inf =>
 cases hz:inf.zero with
 | none=>simp[hi,hz]at hb2
 | some zv =>
 simp only[hi,hz]at hb2
 unfold Lq at hr
 split at hr
 case isFalse=>cases hr
 rename_i hks
 have hkdB:=kb hb1 hks
 split at hr
 case h_2=>cases hr
 rename_i es hes
 split at hr
 case h_2=>cases hr
 rename_i f hf
 cases hr
 have fin:∀ (c:Cx) (fv:Option (Nat×Value)),((f=none/\fv=none)\/∃ j x v,f=some (j,x)/\fv=some (j,v)/\BD c x v)->BD c (N4 z ok f) (Kj zv ok fv):=by
  intro c fv h
  have hzr:=dv hb2 c
  rcases h with ⟨rfl,rfl⟩|⟨j,x,v,rfl,rfl,hx⟩
  ·cases ok
   ·exact hzr
   ·exact⟨_,rfl,_,_,rfl,hzr,_,_,rfl,rfl,rfl⟩
  ·cases ok
   ·exact hx
   ·exact⟨_,rfl,_,_,rfl,hx,_,_,rfl,rfl,rfl⟩
 obtain⟨_,_,c,h3,h4,h5,_,h7⟩:=id hs
 subst h3;subst h4
 rcases Lu h5 (At h7 hm) hes with ⟨q1,q2⟩|⟨i,b,ents,q1,q2,q3,q4,q5,q6,q7⟩
 ·subst q2
  have hf':f=none:=by simpa[FV]using hf.symm
  refine AP hs hd hn (v:=Kj zv ok none) ?_ fun c' _ _ _ _=>fin c' none (.inl ⟨hf',rfl⟩)
  simp[execOp,ho,q1,Ye hu huk hkk hi hz]
 ·obtain⟨l1,l2⟩:=KX q7
  have getf:∀ c',c'.w=c.w->c'.H=c.H->K4 N c' t a->B5 c'->∃ fv,Instr.findNow kd (a.eval yk) ents.toList 0=some fv/\((f=none/\fv=none)\/∃ j x v,f=some (j,x)/\fv=some (j,v)/\BD c' x v):=by
   intro c' e1 e2 e3 e4
   have hes':DA c'.H (ev t m)=some es:=by rw[e2];exact hes
   rcases Lu e4 (At e3 hm) hes' with ⟨p1,p2⟩|⟨i',b',ents',p1,p2,p3,p4,p5,p6,p7⟩
   ·rw[q4]at p1;cases p1
   ·rw[q4]at p4;cases p4
    rw[e1,q5]at p5;cases p5
    obtain⟨l1',l2'⟩:=KX p7
    rcases Mb hkdB (At e3 hk) l1' l2' hf with ⟨g1,g2⟩|⟨j,x,v,g1,g2,g3,_⟩
    ·exact⟨none,g2,.inl ⟨g1,rfl⟩⟩
    ·exact⟨some (0+j,v),g2,.inr ⟨0+j,x,v,g1,rfl,g3⟩⟩
  obtain⟨fv,f1,f2⟩:=getf c rfl rfl h7 h5
  refine AP hs hd hn (v:=Kj zv ok fv) ?_ fun c' e1 e2 e3 e4=>?_
  ·simp[execOp,ho,q4,jI hu huk hkk hi hz q5 f1]
  ·obtain⟨fv',f1',f2'⟩:=getf c' e1 e2 e3 e4
   rw[f1]at f1';cases f1'
   exact fin c' fv f2'
theorem OI {w:World}{b n:Nat}{es:Array MapEntry}(ob:Obj)(h:w.heap[b]?=some (.map es n)):(setObj b ob).run P w=.ok () { w with heap:=w.heap.setIfInBounds b ob }:=by simp[setObj,Sem.run,h]
theorem im {c:Cx}{k q:V}{kv qv:Value}(hk:BD c k kv)(hq:BD c q qv)(h:HP k q=some true):Instr.sameBits 10000 qv kv=true/\kv=qv:=by
 unfold HP at h
 split at h
 ·rename_i j a j' a'
  have e1:kv=.int j a:=hk
  have e2:qv=.int j' a':=hq
  split at h
  ·rename_i hj
   subst hj
   simp only[Option.some.injEq,beq_iff_eq]at h
   subst h;subst e1;subst e2
   simp[Instr.sameBits]
  ·cases h
 ·rename_i a b'
  have e1:kv=.string ⟨⟨a⟩⟩:=hk
  have e2:qv=.string ⟨⟨b'⟩⟩:=hq
  simp only[Option.some.injEq,beq_iff_eq]at h
  subst h;subst e1;subst e2
  simp[Instr.sameBits,Yp]
 ·cases h
theorem XP {ty key elem:Nat}{kd:TypeDesc}{kv xv:Value}(hu:P.underlying ty=some (.map key elem))(huk:P.underlying key=some kd)(hkk:(∃ j,kd=.int j)\/kd=.string){w:World}{b n:Nat}{ents:Array MapEntry}
  (hb:w.heap[b]?=some (.map ents n)) (hf:Instr.findNow kd kv ents.toList 0=some none):(Instr.mapUpdate ty (.map (some b)) kv xv).run P w=.ok () { w with heap:=w.heap.setIfInBounds b (.map (ents.push { key:=kv,val:=xv,born:=n }) (n+1)) }:=by
 have h1:(Instr.findKey key kv ents.toList).run P w=.ok none w:=Mt huk hf w
 simp[Instr.mapUpdate,run_underlying hu,Kz huk hkk,DS hb,h1,OI _ hb]
theorem Yz {ty key elem:Nat}{kd:TypeDesc}{kv xv:Value}(hu:P.underlying ty=some (.map key elem))(huk:P.underlying key=some kd)(hkk:(∃ j,kd=.int j)\/kd=.string){w:World}{b n j:Nat}{ents:Array MapEntry}{v0:Value}
  (hb:w.heap[b]?=some (.map ents n)) (hf:Instr.findNow kd kv ents.toList 0=some (some (j,v0))) {e:MapEntry} (he:ents[j]?=some e) (hbits:Instr.sameBits 10000 e.key kv=true) :
  (Instr.mapUpdate ty (.map (some b)) kv xv).run P w=.ok () { w with heap:=w.heap.setIfInBounds b (.map (ents.modify j fun e=>{ e with key:=kv,val:=xv }) n) }:=by
 have h1:(Instr.findKey key kv ents.toList).run P w=.ok (some (j,v0)) w:=Mt huk hf w
 have h2:(Instr.keyThatStays e.key kv).run P w=.ok kv w:=by simp[Instr.keyThatStays,hbits]
 simp[Instr.mapUpdate,run_underlying hu,Kz huk hkk,DS hb,h1,he,h2,OI _ hb]
def Abz (P:Program)(t:TypeId)(ks:Bool):Bool:=match yE P t with | some kd=>lF ks kd | none=>false
theorem sq {ty:Nat}{ks:Bool}{m k x:O}{ym yk yx:Operand}{i:Nat}{es es':List (V×V)}(hs:Sm c0 N D t H a w)(hd:o.dst=none)(ho:o.op=.mapUpdate ty ym yk yx)(hb:Abz P ty ks=true)(hm:Bw ym m=true)(hk:Bw yk k=true)(hx:Bw yx x=true)
  (h1:ev t m=.map i) (h2:H[i]?=some (.map es)) (h3:lv ks (ev t k)=true) (h4:WK (ev t k) (ev t x) es=some es'):D0 P c0 N D o a w t (H.set i (.map es')):=by
 unfold Abz at hb
 split at hb
 case h_2=>cases hb
 rename_i kd hkd
 obtain⟨key,elem,hu,huk,hkk⟩:=ke hkd
 have hkdB:=kb hb h3
 obtain⟨s1,s2,c,s3,s4,s5,s6,s7⟩:=id hs
 subst s3;subst s4
 have hrm:=At s7 hm
 rw[h1]at hrm
 obtain⟨r1,r2,r3⟩:=hrm
 obtain⟨b,k0,q1,q2⟩:=r3 es h2
 obtain⟨b,ents,p1,p2,p3,p4⟩:=s5.obj i _ h2
 rw[p1]at q1;cases q1
 have hkr:=At s7 hk
 have hxr:=At s7 hx
 obtain⟨l1,l2⟩:=KX p4
 have fin:∀ (ents':Array MapEntry),(Instr.mapUpdate ty (.map (some b)) (a.eval yk) (a.eval yx)).run P c.w=.ok () { c.w with heap:=c.w.heap.setIfInBounds b (.map ents' es'.length) } ->
   (∀ c',(∀ x v,BD c x v->BD c' x v)->Ix c' es' ents')->D0 P c0 N D o a c.w t (c.H.set i (.map es')):=by
  intro ents' hrun hents
  have hext:CC (.map es) (.map es') (c.ρ i) (c.ρ i):=rfl
  have hf:=aL s5 h2 p1 p3 (.map ents' es'.length) hext
  refine⟨undef,{ c.w with heap:=c.w.heap.setIfInBounds b (.map ents' es'.length) },.inr ⟨rfl,?_⟩,?_⟩
  ·simp[execOp,ho,q2,hrun]
  ·rw[hd]
   refine⟨s1,s2,c.pt b (.map ents' es'.length) i (.map es'),rfl,rfl,Ty s5 h2 p1 p3 _ hext ?_,s6.trans hf,Ef hf s7⟩
   refine⟨b,ents',p1,?_,p3,hents _ fun x v h=>AW hf h⟩
   have hlt:=(Array.getElem?_eq_some_iff.1 p2).1
   simp[Cx.pt,hlt]
 unfold WK at h4
 split at h4
 ·rename_i j x0 hfm
  cases h4
  rcases Mb hkdB hkr l1 l2 hfm with ⟨g1,_⟩|⟨j',x1,v1,g1,g2,g3,p,g4,g5⟩
  ·cases g1
  ·simp only[Option.some.injEq,Prod.mk.injEq,Nat.zero_add]at g1
   obtain⟨rfl,rfl⟩:=g1
   obtain⟨e,w1,w2,w3,w4⟩:=p4.2 j p g4
   obtain⟨hbits,_⟩:=im hkr w3 g5
   rw[Nat.zero_add]at g2
   refine fin _ (by rw[List.length_set];exact Yz hu huk hkk p2 g2 w1 hbits) fun c' hc'=>⟨by simp[p4.1],fun n q hq=>?_⟩
   rw[List.getElem?_set]at hq
   by_cases hn:j=n
   ·subst hn
    have hlt:=(List.getElem?_eq_some_iff.1 g4).1
    simp only[if_true,hlt,Option.some.injEq]at hq
    subst hq
    refine⟨{ e with key:=a.eval yk,val:=a.eval yx },?_,w2,hc' _ _ hkr,hc' _ _ hxr⟩
    simp[Array.getElem?_modify,w1]
   ·simp only[hn,if_false]at hq
    obtain⟨e',y1,y2,y3,y4⟩:=p4.2 n q hq
    refine⟨e',?_,y2,hc' _ _ y3,hc' _ _ y4⟩
    simp[Array.getElem?_modify,hn,y1]
 ·rename_i hfm
  cases h4
  rcases Mb hkdB hkr l1 l2 hfm with ⟨_,g2⟩|⟨_,_,_,g1,_⟩
  ·refine fin _ (by rw[List.length_append];exact XP hu huk hkk p2 g2) fun c' hc'=>⟨by simp[p4.1],fun n q hq=>?_⟩
   by_cases hn:n<es.length
   ·rw[List.getElem?_append_left hn]at hq
    obtain⟨e',y1,y2,y3,y4⟩:=p4.2 n q hq
    refine⟨e',?_,y2,hc' _ _ y3,hc' _ _ y4⟩
    rw[Array.getElem?_push]
    rw[if_neg (by rw[p4.1];omega)]
    exact y1
   ·rw[List.getElem?_append_right (by omega)]at hq
    have hn':n=es.length:=by
     have:=(List.getElem?_eq_some_iff.1 hq).1
     simp at this;omega
    subst hn'
    simp at hq
    subst hq
    refine⟨{ key:=a.eval yk,val:=a.eval yx,born:=es.length },?_,rfl,hc' _ _ hkr,hc' _ _ hxr⟩
    rw[Array.getElem?_push]
    rw[if_pos p4.1.symm]
  ·cases g1
 ·cases h4
def pH (P:Program)(t:TypeId):Bool:=match P.underlying t with
 | some (.map _ _)=>true
 | _=>false
theorem vE {d ty:Nat}{m:O}{ym:Operand}{i:Nat}{es:List (V×V)}(hs:Sm c0 N D t H a w)(hd:o.dst=some d)(hn:d<N)(ho:o.op=.range ty ym)(hu:pH P ty=true)(hm:Bw ym m=true)(h1:ev t m=.map i)(h2:H[i]?=some (.map es)) :
  D0 P c0 N D o a w ((d,.it H.length)::t) (H++[.iter (some i) es.length []]):=by
 unfold pH at hu
 split at hu
 case h_2=>cases hu
 rename_i key elem hu2
 clear hu
 have hu:=hu2
 obtain⟨_,_,c,s3,s4,s5,s6,s7⟩:=id hs
 subst s3;subst s4
 have hrm:=At s7 hm
 rw[h1]at hrm
 obtain⟨r1,r2,r3⟩:=hrm
 obtain⟨b,k0,q1,q2⟩:=r3 es h2
 obtain⟨b,ents,p1,p2,p3,p4⟩:=s5.obj i _ h2
 rw[p1]at q1;cases q1
 refine⟨.pointer (some ⟨c.w.heap.size,0,none⟩),c.w.alloc (.mapIter (some b) es.length #[] es.length),.inl ?_,?_⟩
 ·simp[execOp,ho,Instr.range,run_underlying hu,q2,DS p2,newObj,Sem.run]
 ·rw[hd]
  refine O6 hs hn fun c' h3 h4 h5 h7=>?_
  have hrm':=At h7 hm
  rw[h1]at hrm'
  obtain⟨r1',r2',r3'⟩:=hrm'
  obtain⟨b',k0',q1',q2'⟩:=r3' es (h4▸h2)
  rw[q2]at q2';cases q2'
  refine⟨c'.addOwn (.mapIter (some b) es.length #[] es.length) (.iter (some i) es.length []) b fun _=>False,by rw[<-h3];rfl,by rw[<-h4];rfl,?_,HQ h5 _ _ _ _,?_⟩
  ·refine HI h5 _ _ _ _ ⟨c'.w.heap.size,b,rfl,heap_alloc_new _ _,fun o ho=>?_,fun k hk=>?_⟩
   ·exact absurd (h5.okLt _ _ (ho.resolve_right (by simp))) (Nat.lt_irrefl _)
   ·cases hk
    refine⟨by simp[Cx.addOwn];omega,fun es' hes'=>⟨k0',?_⟩⟩
    show P2 _ _ _ _=_
    rw[AO (by omega)]
    exact q1'
  ·rw[<-h3,<-h4]
   exact⟨by simp[Cx.addOwn],⟨_,rfl⟩,fun m n s h=>⟨c'.w.heap.size,b,Av _ _ _,rfl⟩⟩
theorem UJ {c:Cx}(hc:B5 c){j i n:Nat}{seen:List Nat}{es:List (V×V)}{x:V}{v:Value}(hr:BD c x v)(hx:x=.it j)(hj:c.H[j]?=some (.iter (some i) n seen))(hi:c.H[i]?=some (.map es)) :
  ∃ bi bm ents,v=.pointer (some ⟨bi,0,none⟩)/\c.ρ j=some (bi,bm)/\c.w.heap[bi]?=some (.mapIter (some bm) n seen.toArray n)/\(∀ o,¬ c.ok bi o)/\c.w.heap[bm]?=some (.map ents es.length)/\Ix c es ents/\dg c (some i) bm:=by
 subst hx
 obtain⟨r1,r2,r3⟩:=hr
 obtain⟨b,k,q1,q2⟩:=r3 _ _ _ hj
 obtain⟨b',bm,p1,p2,p3,p4⟩:=hc.obj j _ hj
 rw[p1]at q1;cases q1
 obtain⟨_,g2⟩:=p4 i rfl
 obtain⟨k',g3⟩:=g2 es hi
 obtain⟨b2,ents,w1,w2,w3,w4⟩:=hc.obj i _ hi
 rw[g3]at w1;cases w1
 exact⟨_,_,ents,q2,p1,p2,p3,w2,w4,p4⟩
theorem Q8 {w:World}{b:Nat}{m:Option Nat}{n l:Nat}{s:Array Nat}(h:w.heap[b]?=some (.mapIter m n s l)):(getObj b).run P w=.ok (.mapIter m n s l) w:=by simp[getObj,Sem.run,h]
theorem gk {w:World}{b:Nat}{m:Option Nat}{n l:Nat}{s:Array Nat}(ob:Obj)(h:w.heap[b]?=some (.mapIter m n s l)):(setObj b ob).run P w=.ok () { w with heap:=w.heap.setIfInBounds b ob }:=by simp[setObj,Sem.run,h]
theorem Zt {c:Cx}{es:List (V×V)}{ents:Array MapEntry}(h:Ix c es ents){k:Nat}{p:V×V}(hp:es[k]?=some p):∃ e,ents.find? (fun e=>e.born==k)=some e/\ents[k]?=some e/\BD c p.1 e.key/\BD c p.2 e.val:=by
 obtain⟨e,q1,q2,q3,q4⟩:=h.2 k p hp
 have hall:∀ (n:Nat)(e':MapEntry),ents[n]?=some e'->e'.born=n:=fun n e' he'=>by
  have hn:n<es.length:=by rw[<-h.1];exact (Array.getElem?_eq_some_iff.1 he').1
  obtain⟨e2,g1,g2,_⟩:=h.2 n _ (List.getElem?_eq_getElem hn)
  rw[he']at g1;cases g1;exact g2
 refine⟨e,?_,q1,q3,q4⟩
 cases hf:ents.find? (fun e=>e.born==k)with
 | none =>
  rw[Array.find?_eq_none]at hf
  exact absurd (by simp[q2]) (hf e (Array.mem_of_getElem? q1))
 | some e' =>
  have h1:=Array.find?_some hf
  have h2:=Array.mem_of_find?_eq_some hf
  obtain⟨n,hn⟩:=Array.getElem?_of_mem h2
  have h3:=hall n e' hn
  simp only[beq_iff_eq]at h1
  rw[h1]at h3
  subst h3
  rw[q1]at hn
  exact hn.symm
theorem wO {d:Nat}{x:O}{y:Operand}{j i n k:Nat}{seen:List Nat}{es:List (V×V)}{p:V×V}(hs:Sm c0 N D t H a w)(hd:o.dst=some d)(hn:d<N)(ho:o.op=.entry y)(hx:Bw y x=true)
  (h1:ev t x=.it j) (h2:H[j]?=some (.iter (some i) n seen)) (h3:H[i]?=some (.map es)) (h4:n=es.length) (h5:seen.getLast?=some k) (h6:es[k]?=some p):D0 P c0 N D o a w ((d,.tup [p.1,p.2])::t) H:=by
 obtain⟨_,_,c,s3,s4,s5,s6,s7⟩:=id hs
 subst s3;subst s4
 obtain⟨bi,bm,ents,q1,q2,q3,q4,q5,q6,q7⟩:=UJ s5 (At s7 hx) h1 h2 h3
 obtain⟨e,e1,e2,e3,e4⟩:=Zt q6 h6
 refine AP hs hd hn (v:=.tuple #[e.key,e.val]) ?_ fun c' g3 g4 g7 g5=>?_
 ·have hb:seen.toArray.back?=some k:=by simpa using h5
  simp[execOp,ho,Instr.entry,q1,Q8 q3,hb,DS q5,h4,e1]
 ·obtain⟨bi',bm',ents',p1,p2,p3,p4,p5,p6,p7⟩:=UJ g5 (At g7 hx) h1 (g4▸h2) (g4▸h3)
  rw[q1]at p1;cases p1
  rw[g3,q3]at p3;cases p3
  rw[g3,q5]at p5;cases p5
  obtain⟨e',f1,f2,f3,f4⟩:=Zt p6 h6
  rw[e2]at f2;cases f2
  exact⟨#[e.key,e.val],rfl,_,_,rfl,f3,_,_,rfl,f4,rfl⟩
theorem fl {n:Nat}(w:World):∃ i w',(choose (.mapNext n)).run P w=.ok i w'/\(i<n\/n=0)/\(w'=w\/w'={ w with drawn:=w.drawn+1 }):=by
 by_cases h:n<=1
 ·refine⟨0,w,by simp[choose,Sem.run,Question.forced,h],by omega,.inl rfl⟩
 ·refine⟨w.tape w.drawn (.mapNext n) % n,{ w with drawn:=w.drawn+1 },by simp[choose,Sem.run,Question.forced,Question.cut,h],.inl (Nat.mod_lt _ (by omega)),.inr rfl⟩
def Kr (ents:Array MapEntry)(seen:List Nat):Array MapEntry:=ents.filter fun e=>!seen.toArray.contains e.born
theorem bD {ty bi bm n:Nat}{seen:List Nat}{ents:Array MapEntry}{w:World}(h1:w.heap[bi]?=some (.mapIter (some bm) n seen.toArray n))(h2:w.heap[bm]?=some (.map ents n))(hb:∀ e∈ents,e.born<n)(hl:Kr ents seen=#[]) :
  (Instr.next (.pointer (some ⟨bi,0,none⟩)) false ty).run P w=.ok (.tuple #[.bool false]) w:=by
 have hall:(!seen.toArray.isEmpty&&!ents.isEmpty&&ents.all (fun e=>decide (e.born ≥ n)))=false:=by
  by_cases he:ents.isEmpty=true
  ·simp[he]
  ·have hpos:0<ents.size:=by
    rcases Nat.eq_zero_or_pos ents.size with h | h
    ·exact absurd (by simpa using h) he
    ·exact h
   have:ents.all (fun e=>decide (e.born ≥ n))=false:=by
    rw[Array.all_eq_false]
    exact⟨0,hpos,by have:=hb ents[0] (Array.getElem_mem hpos);simp;omega⟩
   rw[this];simp
 have hl':ents.filter (fun e=>!seen.toArray.contains e.born)=#[]:=hl
 simp only[Instr.next,Sem.run_bind,Q8 h1,DS h2,hall,hl',Result.andThen_ok,Bool.false_eq_true,if_false]
 simp[choose,Sem.run,Question.forced]
theorem ey {ty bi bm n:Nat}{seen:List Nat}{ents:Array MapEntry}{w:World}(h1:w.heap[bi]?=some (.mapIter (some bm) n seen.toArray n))(h2:w.heap[bm]?=some (.map ents n))(hb:∀ e∈ents,e.born<n)(hl:Kr ents seen≠#[]) :
  ∃ e∈Kr ents seen,∃ w1,(w1=w\/w1={ w with drawn:=w.drawn+1 })/\(Instr.next (.pointer (some ⟨bi,0,none⟩)) false ty).run P w=.ok (.tuple #[.bool true,e.key,e.val]) { w1 with heap:=w1.heap.setIfInBounds bi (.mapIter (some bm) n (seen++[e.born]).toArray n) }:=by
 have hall:(!seen.toArray.isEmpty&&!ents.isEmpty&&ents.all (fun e=>decide (e.born ≥ n)))=false:=by
  by_cases he:ents.isEmpty=true
  ·simp[he]
  ·have hpos:0<ents.size:=by
    rcases Nat.eq_zero_or_pos ents.size with h | h
    ·exact absurd (by simpa using h) he
    ·exact h
   have:ents.all (fun e=>decide (e.born ≥ n))=false:=by
    rw[Array.all_eq_false]
    exact⟨0,hpos,by have:=hb ents[0] (Array.getElem_mem hpos);simp;omega⟩
   rw[this];simp
 have hl':ents.filter (fun e=>!seen.toArray.contains e.born)=Kr ents seen:=rfl
 have hmem:∀ e∈Kr ents seen,e∈ents:=fun e he=>(Array.mem_filter.1 he).1
 have hold:(Kr ents seen).filter (fun e=>decide (e.born<n))=Kr ents seen:=Array.filter_eq_self.2 fun e he=>by simpa using hb e (hmem e he)
 have hnew:(Kr ents seen).filter (fun e=>decide (e.born ≥ n))=#[]:=Array.filter_eq_empty_iff.2 fun e he=>by have:=hb e (hmem e he);simp;omega
 have hne:(Kr ents seen).isEmpty=false:=by simpa using hl
 obtain⟨i,w1,r1,r2,r3⟩:=fl (P:=P) (n:=(Kr ents seen).size) w
 have hi:i<(Kr ents seen).size:=by
  rcases r2 with h | h
  ·exact h
  ·exact absurd (by simpa using h) hl
 refine⟨(Kr ents seen)[i],Array.getElem_mem hi,w1,r3,?_⟩
 have h1':w1.heap[bi]?=some (.mapIter (some bm) n seen.toArray n):=by rcases r3 with rfl | rfl<;>exact h1
 have hc:((Kr ents seen).map some)[i]?=some (some (Kr ents seen)[i]):=by simp[hi]
 simp only[Instr.next,Sem.run_bind,Q8 h1,DS h2,hall,hl',hold,hnew,hne,Result.andThen_ok,Bool.false_eq_true,if_false,Array.append_empty,Array.empty_append,Array.size_map,r1,hc]
 simp[gk _ h1']
theorem Zi {c:Cx}{es:List (V×V)}{ents:Array MapEntry}(h:Ix c es ents){e:MapEntry}(he:e∈ents):∃ p,es[e.born]?=some p/\ents[e.born]?=some e/\BD c p.1 e.key/\BD c p.2 e.val:=by
 obtain⟨k,hk⟩:=Array.getElem?_of_mem he
 have hlt:k<es.length:=by rw[<-h.1];exact (Array.getElem?_eq_some_iff.1 hk).1
 obtain⟨e',q1,q2,q3⟩:=h.2 k _ (List.getElem?_eq_getElem hlt)
 rw[hk]at q1;cases q1
 rw[q2]
 exact⟨_,List.getElem?_eq_getElem hlt,hk,q3⟩
theorem Acu {d:Nat}{x:O}{y:Operand}{j i n:Nat}{seen:List Nat}{es:List (V×V)}(hs:Sm c0 N D t H a w)(hd:o.dst=some d)(hn:d<N)(ho:o.op=.next y false)(hx:Bw y x=true)
  (h1:ev t x=.it j) (h2:H[j]?=some (.iter (some i) n seen)) (h3:H[i]?=some (.map es)) (h4:n=es.length) {next:Act->World->Prop}
  (e1:(∀ k,k<n->k∈seen)->∀ v w',Sm c0 N D ((d,.tup [.bool false])::t) H (a.put o.dst v) w'->next (a.put o.dst v) w')
  (e2:∀ k p,es[k]?=some p->k∉seen->∀ v w',Sm c0 N D ((d,.tup [.bool true,p.1,p.2])::t) (H.set j (.iter (some i) n (seen++[k]))) (a.put o.dst v) w'->next (a.put o.dst v) w'):cW P o a w next:=by
 subst h4
 obtain⟨s1,s2,c,s3,s4,s5,s6,s7⟩:=id hs
 subst s3;subst s4
 obtain⟨bi,bm,ents,q1,q2,q3,q4,q5,q6,q7⟩:=UJ s5 (At s7 hx) h1 h2 h3
 have hborn:∀ e∈ents,e.born<es.length:=fun e he=>by
  obtain⟨p,g1,_⟩:=Zi q6 he
  exact (List.getElem?_eq_some_iff.1 g1).1
 unfold cW
 by_cases hl:Kr ents seen=#[]
 ·have hrun:(execOp a.eval o).run P c.w=.ok (.value (.tuple #[.bool false])) c.w:=by
   simp[execOp,ho,q1,bD q3 q5 hborn hl]
  rw[hrun]
  refine e1 (fun k hk=>?_) _ _ ?_
  ·obtain⟨e,g1,g2,_⟩:=q6.2 k _ (List.getElem?_eq_getElem hk)
   have hm:=Array.mem_of_getElem? g1
   unfold Kr at hl
   rw[Array.filter_eq_empty_iff]at hl
   have:=hl e hm
   simpa[g2]using this
  ·rw[hd]
   exact Xf hs hn fun _ _ _ _ _=>⟨_,rfl,_,_,rfl,rfl,rfl⟩
 ·obtain⟨e,he,w1,hw1,hrun1⟩:=ey (P:=P) (ty:=o.type) q3 q5 hborn hl
  have hrun:(execOp a.eval o).run P c.w=.ok (.value (.tuple #[.bool true,e.key,e.val])) { w1 with heap:=w1.heap.setIfInBounds bi (.mapIter (some bm) es.length (seen++[e.born]).toArray es.length) }:=by
   simp only[execOp,ho,q1,Sem.run_bind,hrun1]
   simp
  rw[hrun]
  obtain⟨hem,hns⟩:=Array.mem_filter.1 he
  obtain⟨p,g1,g2,g3,g4⟩:=Zi q6 hem
  obtain⟨c1,k1,k2,k3,k4,k5⟩:∃ c1:Cx,c1.w=w1/\c1.H=c.H/\c1.ρ=c.ρ/\B5 c1/\Fr c c1/\(∀ o,¬ c1.ok bi o):=by
   rcases hw1 with rfl | rfl
   ·exact⟨c,rfl,rfl,rfl,s5,.refl c,q4⟩
   ·obtain⟨r1,r2⟩:=Qu s5 (w':={ c.w with drawn:=c.w.drawn+1 }) rfl rfl rfl rfl (Nat.le_succ _)
    exact⟨{ c with w:={ c.w with drawn:=c.w.drawn+1 } },rfl,rfl,rfl,r1,r2,q4⟩
  obtain⟨k5,k6⟩:=k5
  subst k1
  have hext:CC (.iter (some i) es.length seen) (.iter (some i) es.length (seen++[e.born])) (c1.ρ j) (c1.ρ j):=⟨rfl,rfl⟩
  have hρ:c1.ρ j=some (bi,bm):=by rw[k3];exact q2
  have hj:c1.H[j]?=some (.iter (some i) es.length seen):=by rw[k2];exact h2
  have hf:=aL k4 hj hρ k6 (.mapIter (some bm) es.length (seen++[e.born]).toArray es.length) hext
  refine e2 e.born p g1 (by simpa using hns) _ _ ?_
  rw[hd]
  refine⟨by rw[IA];exact s1,by rw[Fj];exact s2,c1.pt bi (.mapIter (some bm) es.length (seen++[e.born]).toArray es.length) j (.iter (some i) es.length (seen++[e.born])),rfl,by rw[<-k2];rfl,Ty k4 hj hρ k6 _ hext ?_,(s6.trans k5).trans hf,?_⟩
  ·refine⟨bi,bm,hρ,?_,k6,(q7.mono k5.ext).mono hf.ext⟩
   have hlt:bi<c1.w.heap.size:=Jh k4 (List.getElem?_eq_some_iff.1 hj).1 hρ
   simp[Cx.pt,hlt]
  ·refine GT s1 hn ⟨_,rfl,_,_,rfl,rfl,_,_,rfl,AW hf (AW k5 g3),_,_,rfl,AW hf (AW k5 g4),rfl⟩ (Ef hf (Ef k5 s7))
end
end Go.Dw
end
section
namespace Go.Dw
section
variable {P:Program} {c0:Cx} {N:Nat} {D:List Deferred} {o:Oper} {a:Act} {w:World} {t:T} {H:List Ob}
theorem pm {c:Cx}(hc:B5 c)(ob:Ob)(ho:WM ⟨c.w,c.ok,P2 c.ρ c.H.length none,c.H++[ob]⟩ ob none) :
  Fr c ⟨c.w,c.ok,P2 c.ρ c.H.length none,c.H++[ob]⟩/\B5 ⟨c.w,c.ok,P2 c.ρ c.H.length none,c.H++[ob]⟩:=by
 have hf:Fr c ⟨c.w,c.ok,P2 c.ρ c.H.length none,c.H++[ob]⟩:=by
  refine⟨fun _ _ h=>h,fun _ _ _=>rfl,Nat.le_refl _,fun _ _ h=>.inl h,fun _ _ _=>rfl,fun b hb=>?_,fun i o hi=>?_,rfl,rfl,rfl,Nat.le_refl _⟩
  ·obtain⟨j,k,hj,hr⟩:=hb
   simp only[List.length_append,List.length_cons,List.length_nil]at hj hr
   by_cases e1:j=c.H.length
   ·subst e1;rw[Av]at hr;cases hr
   ·rw[AO e1]at hr;exact .inl ⟨j,k,by omega,hr⟩
  ·have hil:i<c.H.length:=(List.getElem?_eq_some_iff.1 hi).1
   refine⟨o,by simpa[List.getElem?_append_left hil]using hi,?_⟩
   simp only[AO (show i≠c.H.length by omega)]
   cases o<;>simp[CC]
 refine⟨hf,fun i j b k1 k2 hi hj h1 h2=>?_,hc.okLt,fun i o hi=>?_,hc.globFr hf⟩
 ·simp only[List.length_append,List.length_cons,List.length_nil]at hi hj h1 h2
  by_cases e1:i=c.H.length
  ·subst e1;rw[Av]at h1;cases h1
  ·by_cases e2:j=c.H.length
   ·subst e2;rw[Av]at h2;cases h2
   ·rw[AO e1]at h1;rw[AO e2]at h2
    exact hc.inj i j b k1 k2 (by omega) (by omega) h1 h2
 ·by_cases e1:i<c.H.length
  ·have hi':c.H[i]?=some o:=by simpa[List.getElem?_append_left e1]using hi
   simp only[AO (show i≠c.H.length by omega)]
   exact Do hf (hc.obj i o hi') fun b k _=>⟨rfl,fun _ h=>h⟩
  ·have hl:=(List.getElem?_eq_some_iff.1 hi).1
   simp only[List.length_append,List.length_cons,List.length_nil]at hl
   have e2:i=c.H.length:=by omega
   subst e2
   simp only[List.getElem?_concat_length,Option.some.injEq]at hi
   subst hi
   simp only[Av]
   exact ho
theorem vJ {d e sz:Nat}(hs:Sm c0 N D t H a w)(hn:lk t d=.nil):Sm c0 N D ((d,.rw H.length sz 0)::t) (H++[.row e sz []]) a w:=by
 obtain⟨g1,g2,c,rfl,rfl,hc,hf0,h7⟩:=hs
 obtain⟨hf,hcn⟩:=pm hc (.row e sz []) ⟨fun _=>rfl,fun b k h=>by cases h⟩
 refine⟨g1,g2,⟨c.w,c.ok,P2 c.ρ c.H.length none,c.H++[.row e sz []]⟩,rfl,rfl,hcn,hf0.trans hf,fun s x hx=>?_⟩
 simp only[find]at hx
 split at hx
 ·rename_i e1;subst e1;cases hx
  have hl:=Ke h7 d
  rw[hn]at hl
  have hv:a.tmps.getD d undef=.slice none 0 0:=hl
  have hd:d<N:=by
   cases hfd:find t d with
   | none=>simp[lk,hfd]at hn
   | some y=>exact (h7 d y hfd).1
  refine⟨hd,by simp,⟨none,0,hv,by simp,.inl rfl⟩,fun e' sz' els hn'=>?_⟩
  simp only[List.getElem?_concat_length,Option.some.injEq,Ob.row.injEq]at hn'
  obtain⟨_,rfl,rfl⟩:=hn'
  exact⟨rfl,Nat.le_refl _,fun _=>by simp only[Av];exact hv⟩
 ·exact⟨(h7 s x hx).1,AW hf (h7 s x hx).2⟩
theorem vR {e sz i off e':Nat}{cs:List V}(hs:Sm c0 N D t H a w)(hi:H[i]?=some (.cells e' cs))(ho:cs[off]?=some .nil):Sm c0 N D t (H.set i (.cells e' (put off [.rw H.length sz 0] cs))++[.row e sz []]) a w:=by
 obtain⟨g1,g2,c,rfl,rfl,hc,hf0,h7⟩:=hs
 have hil:i<c.H.length:=(List.getElem?_eq_some_iff.1 hi).1
 have hofl:off<cs.length:=(List.getElem?_eq_some_iff.1 ho).1
 have hg:∀ (j:Nat),(c.H.set i (.cells e' (put off [.rw c.H.length sz 0] cs))++[.row e sz []])[j]?=if j=i then some (.cells e' (put off [.rw c.H.length sz 0] cs)) else if j=c.H.length then some (.row e sz []) else c.H[j]?:=by
  intro j
  by_cases hj:j<c.H.length
  ·rw[List.getElem?_append_left (by simpa using hj),Cd hil]
   by_cases e1:i=j
   ·subst e1;simp
   ·simp[e1,Ne.symm e1,show j≠c.H.length by omega]
  ·by_cases e1:j=c.H.length
   ·subst e1;simp[show c.H.length≠i by omega]
   ·rw[List.getElem?_append_right (by simp;omega)]
    simp[show j≠i by omega,e1]
    rw[List.getElem?_eq_none (by simp;omega),List.getElem?_eq_none (by omega)]
 have hf:Fr c ⟨c.w,c.ok,P2 c.ρ c.H.length none,c.H.set i (.cells e' (put off [.rw c.H.length sz 0] cs))++[.row e sz []]⟩:=by
  refine⟨fun _ _ h=>h,fun _ _ _=>rfl,Nat.le_refl _,fun _ _ h=>.inl h,fun _ _ _=>rfl,fun b hb=>?_,fun j o hj=>?_,rfl,rfl,rfl,Nat.le_refl _⟩
  ·obtain⟨j,k,hj,hr⟩:=hb
   simp only[List.length_append,List.length_cons,List.length_nil,List.length_set]at hj hr
   by_cases e1:j=c.H.length
   ·subst e1;rw[Av]at hr;cases hr
   ·rw[AO e1]at hr;exact .inl ⟨j,k,by omega,hr⟩
  ·have hjl:j<c.H.length:=(List.getElem?_eq_some_iff.1 hj).1
   simp only[hg,AO (show j≠c.H.length by omega)]
   by_cases e1:j=i
   ·subst e1
    rw[hi]at hj;cases hj
    exact⟨.cells e' (put off [.rw c.H.length sz 0] cs),by simp,rfl,rfl⟩
   ·refine⟨o,by simp[e1,show j≠c.H.length by omega,hj],?_⟩
    cases o<;>simp[CC]
 have hcn:B5 ⟨c.w,c.ok,P2 c.ρ c.H.length none,c.H.set i (.cells e' (put off [.rw c.H.length sz 0] cs))++[.row e sz []]⟩:=by
  refine⟨fun j1 j2 b k1 k2 h1 h2 h3 h4=>?_,hc.okLt,fun j o hj=>?_,hc.globFr hf⟩
  ·simp only[List.length_append,List.length_cons,List.length_nil,List.length_set]at h1 h2 h3 h4
   by_cases e1:j1=c.H.length
   ·subst e1;rw[Av]at h3;cases h3
   ·by_cases e2:j2=c.H.length
    ·subst e2;rw[Av]at h4;cases h4
    ·rw[AO e1]at h3;rw[AO e2]at h4
     exact hc.inj j1 j2 b k1 k2 (by omega) (by omega) h3 h4
  ·simp only[hg]at hj
   by_cases e1:j=i
   ·subst e1
    simp at hj;subst hj
    simp only[AO (show j≠c.H.length by omega)]
    obtain⟨b,vs,q1,q2,q3,q4,q5⟩:=hc.obj j _ hi
    refine⟨b,vs,q1,q2,by rw[LV (by simp;omega)];exact q3,q4,fun l x hx=>?_⟩
    rw[Ys _ _ _ hofl]at hx
    by_cases e2:l=off
    ·subst e2
     simp at hx;subst hx
     obtain⟨v,r1,r2,r3⟩:=q5 l _ ho
     have hv:v=.slice none 0 0:=r3
     refine⟨v,r1,r2,by simp,⟨none,0,hv,by simp,.inl rfl⟩,fun e'' sz' n hn'=>?_⟩
     simp only[hg,if_neg (show c.H.length≠j by omega),if_true,Option.some.injEq,Ob.row.injEq]at hn'
     obtain⟨_,rfl,rfl⟩:=hn'
     exact⟨rfl,Nat.le_refl _,fun _=>by simp only[Av];exact hv⟩
    ·simp only[e2,if_false]at hx
     obtain⟨v,r1,r2,r3⟩:=q5 l x hx
     exact⟨v,r1,r2,AW hf r3⟩
   ·by_cases e2:j=c.H.length
    ·subst e2
     simp[e1]at hj;subst hj
     simp only[Av]
     exact⟨fun _=>rfl,fun b k h=>by cases h⟩
    ·simp only[e1,e2,if_false]at hj
     simp only[AO e2]
     exact Do hf (hc.obj j o hj) fun b k _=>⟨rfl,fun _ h=>h⟩
 exact⟨g1,g2,⟨c.w,c.ok,P2 c.ρ c.H.length none,c.H.set i (.cells e' (put off [.rw c.H.length sz 0] cs))++[.row e sz []]⟩,rfl,rfl,hcn,hf0.trans hf,fun s x hx=>⟨(h7 s x hx).1,AW hf (h7 s x hx).2⟩⟩
theorem rW {d ty e sz j z n:Nat}{x i:O}{xo io:Operand}{r:V}(hs:Sm c0 N D t H a w)(hd:o.dst=some d)(hn:d<N)(ho:o.op=.indexAddr ty xo io)(hsl:Ra P ty e=true)(hsz:DH P e sz=true)(hx:Bw xo x=true)(hi:Bw io i=true)
  (h1:ev t x=.rw j z n) (hr:mK sz (.rw j z n) (ev t i)=some r):D0 P c0 N D o a w ((d,r)::t) H:=by
 unfold mK at hr
 split at hr
 case h_2=>cases hr
 rename_i k m hm
 simp only[]at hr
 split at hr
 case isFalse=>cases hr
 rename_i hc
 obtain⟨rfl,hm0,hmn⟩:=hc
 cases hr
 obtain⟨_,_,c,hw,hHc,h5,_,h7⟩:=id hs
 subst hw hHc
 have q1:=At h7 hi
 rw[hm]at q1
 have hv:a.eval io=.int k m:=q1
 have q2:=At h7 hx
 rw[h1]at q2
 obtain⟨_,⟨ad,cap,hsv,hle,had⟩,q3⟩:=q2
 obtain⟨b,off,rfl⟩:=had.resolve_left (by omega)
 refine AP hs hd hn (v:=.pointer (some ⟨b,off+m.toNat*z,none⟩)) ?_ (fun c' hw' hH' h7' hc'=>?_)
 ·simp[execOp,ho,Instr.indexAt,hv,hsv,asIntOf,run_underlying (O1 hsl),hm0,hmn,En hsz,Addr.add_lit]
 ·have q2':=At h7' hx
  rw[h1,hsv]at q2'
  obtain⟨p1,_,p3⟩:=q2'
  refine⟨p1,⟨_,_,rfl⟩,fun e2 sz2 els2 hh=>⟨(p3 _ _ _ hh).2.1,fun hl2=>?_⟩⟩
  obtain⟨rfl,_,p4⟩:=p3 _ _ _ hh
  have hcur':=p4 hl2
  cases hρ':c'.ρ j with
  | none=>rw[hρ']at hcur';cases hcur'
  | some bk' =>
   obtain⟨b',k'⟩:=bk'
   rw[hρ']at hcur'
   cases hcur'
   exact⟨_,_,rfl,by simp⟩
theorem xY {els:List (List V)}{j:Nat}(h:j<els.length):els[j]?=some (els.getD j []):=by simp[List.getD_eq_getElem?_getD,h]
theorem pg {k ty i n j off e sz:Nat}{x y:O}{xo yo:Operand}{els:List (List V)}{new:List V}(hs:Sm c0 N D t H a w)(hd:o.dst=none)(ho:o.op=.store ty xo yo)(hk:DH P ty k=true)(hx:Bw xo x=true)(hy:Bw yo y=true)
  (h1:ev t x=.rp i n j off) (h2:H[i]?=some (.row e sz els)) (h3:Kt (ev t y)=some new) (h4:new.length=k) (h5:off+k<=sz) (h6:els.length=n) (hj:j<n):D0 P c0 N D o a w t (H.set i (.row e sz (els.set j (put off new (els.getD j []))))):=by
 obtain⟨g1,g2,c,rfl,rfl,hc,hf0,h7⟩:=hs
 have q1:=At h7 hx
 rw[h1]at q1
 obtain⟨b,m,vs,r1,r2,r3,r4,r5,r6,r7⟩:=tn hc q1 h2 h6
 obtain⟨s1,s2⟩:=Ot h3 (At h7 hy)
 have hvl:=C1 s1
 simp only[Array.length_toList]at hvl
 have hjl:els[j]?=some (els.getD j []):=xY (by omega)
 have hell:=(r7 j _ hjl).1
 have hmul:(j+1)*sz<=m*sz:=Nat.mul_le_mul_right _ (by omega)
 rw[Nat.add_mul,Nat.one_mul]at hmul
 have hrun:=NY (P:=P) (w:=c.w) (v:=a.eval yo) hk r3 (by omega) (by omega) s2 (off:=j*sz+off)
 generalize hvs':(vs.toList.take (j*sz+off)++(a.eval yo).cells.toList++vs.toList.drop (j*sz+off+(a.eval yo).cells.toList.length)).toArray=vs' at hrun
 have hnl:(a.eval yo).cells.toList.length=k:=by simp;omega
 have hget:∀ l:Nat,vs'[l]?=if l<j*sz+off then vs[l]? else if l<j*sz+off+k then (a.eval yo).cells.toList[l-(j*sz+off)]? else vs[l]?:=by
  intro l
  rw[<-hvs',List.getElem?_toArray,List.append_assoc,List.getElem?_append,List.getElem?_append]
  have ht:(vs.toList.take (j*sz+off)).length=j*sz+off:=by simp;omega
  rw[ht,hnl]
  by_cases e1:l<j*sz+off
  ·simp only[e1,if_true]
   rw[List.getElem?_take,if_pos e1];simp
  ·simp only[e1,if_false]
   by_cases e2:l<j*sz+off+k
   ·simp only[e2,if_true,show l-(j*sz+off)<k by omega,if_true]
   ·simp only[e2,if_false,show ¬ l-(j*sz+off)<k by omega,if_false]
    rw[List.getElem?_drop]
    simp
    congr 1;omega
 have hvsz:vs'.size=vs.size:=by
  rw[<-hvs']
  simp;omega
 have hfr:=bp hc h2 r2 r6 vs' (.row e sz (els.set j (put off new (els.getD j [])))) (fun _ _=>False) (by simp) c.ρ (fun _ _=>rfl) (.inl rfl) ⟨rfl,rfl,by simp,fun _=>rfl⟩
 have hcn:B5 (c.wr b vs' i (.row e sz (els.set j (put off new (els.getD j [])))) (fun _ _=>False) c.ρ):=by
  refine XT hc h2 r2 r6 _ _ _ (by simp) _ (fun _ _=>rfl) (.inl rfl) ⟨rfl,rfl,by simp,fun _=>rfl⟩ ?_
  have hob:=hc.obj i _ h2
  refine⟨fun hr=>(by rw[r2]at hr;cases hr),fun b' k' hb=>?_⟩
  rw[r2]at hb;cases hb
  obtain⟨vs0,p1,p2,p3,p4,p5,p6⟩:=hob.2 _ _ r2
  rw[r3]at p1;cases p1
  refine⟨vs',setRow_heap c.w b vs _ e _ r3,by rw[hvsz];exact p2,by simpa using p3,p4,fun o ho=>p5 o (ho.resolve_right (by simp)),fun l el hl=>?_⟩
  rw[List.getElem?_set]at hl
  by_cases e1:j=l
  ·subst e1
   simp only[if_true,show j<els.length by omega,if_true,Option.some.injEq]at hl
   subst hl
   refine⟨by rw[LV (by omega)];exact hell,fun q x hx=>?_⟩
   have hq:q<sz:=by have:=(List.getElem?_eq_some_iff.1 hx).1;rw[LV (by omega)]at this;omega
   simp only[put]at hx
   rw[List.append_assoc,List.getElem?_append,List.getElem?_append]at hx
   have ht:((els.getD j []).take off).length=off:=by rw[List.length_take];omega
   rw[ht,h4]at hx
   rw[hget]
   by_cases f1:q<off
   ·simp only[f1,if_true]at hx
    rw[List.getElem?_take,if_pos f1]at hx
    obtain⟨v,u1,u2,u3⟩:=(r7 j _ hjl).2 q x hx
    exact⟨v,by rw[if_pos (by omega)];exact u1,u2,AW hfr u3⟩
   ·simp only[f1,if_false]at hx
    by_cases f2:q-off<k
    ·simp only[f2,if_true]at hx
     obtain⟨v,u1,u2⟩:=Fx s1 hx
     refine⟨v,?_,s2 v (List.mem_of_getElem? u1),AW hfr u2⟩
     rw[if_neg (by omega),if_pos (by omega),<-u1]
     congr 1;omega
    ·simp only[f2,if_false]at hx
     rw[List.getElem?_drop]at hx
     rw[show off+k+(q-off-k)=q by omega]at hx
     obtain⟨v,u1,u2,u3⟩:=(r7 j _ hjl).2 q x hx
     exact⟨v,by rw[if_neg (by omega),if_neg (by omega)];exact u1,u2,AW hfr u3⟩
  ·simp only[e1,if_false]at hl
   refine⟨(r7 l el hl).1,fun q x hx=>?_⟩
   obtain⟨v,u1,u2,u3⟩:=(r7 l el hl).2 q x hx
   have hq:q<sz:=by have:=(List.getElem?_eq_some_iff.1 hx).1;have:=(r7 l el hl).1;omega
   refine⟨v,?_,u2,AW hfr u3⟩
   rw[hget]
   rcases Nat.lt_or_gt_of_ne e1 with f | f
   ·have:(j+1)*sz<=l*sz:=Nat.mul_le_mul_right _ (by omega)
    rw[Nat.add_mul,Nat.one_mul]at this
    rw[if_neg (by omega),if_neg (by omega)];exact u1
   ·have:(l+1)*sz<=j*sz:=Nat.mul_le_mul_right _ (by omega)
    rw[Nat.add_mul,Nat.one_mul]at this
    rw[if_pos (by omega)];exact u1
 refine⟨undef,c.w.setRow b vs',.inr ⟨rfl,?_⟩,?_⟩
 ·simp only[execOp,ho,Sem.run_bind,Instr.storeAt,r1,Instr.sureAddr,Sem.run_pure,Result.andThen_ok,hrun]
 ·rw[hd]
  exact⟨g1,g2,_,rfl,rfl,hcn,hf0.trans hfr,Ef hfr h7⟩
theorem SJ {c:Cx}{sz:Nat}{els new:List (List V)}{vs0 vs:Array Value}{news:List Value}(h:LY c sz els vs0)(hl:news.length=new.length*sz)
  (h2:∀ (i:Nat)(e:List V),new[i]?=some e->e.length=sz/\∀ (j:Nat)(x:V),e[j]?=some x->∃ v,news[i*sz+j]?=some v/\Gv c.w c.ok x v) (h3:∀ u∈news,Co u=true)
  (h4:∀ l,l<els.length*sz->vs[l]?=vs0[l]?) (h5:∀ l,l<new.length*sz->vs[els.length*sz+l]?=news[l]?):LY c sz (els++new) vs:=by
 intro i el he
 rw[List.getElem?_append]at he
 split at he
 ·rename_i hi
  obtain⟨q1,q2⟩:=h i el he
  refine⟨q1,fun j x hx=>?_⟩
  obtain⟨v,r1,r2,r3⟩:=q2 j x hx
  have hj:=(List.getElem?_eq_some_iff.1 hx).1
  have hmul:(i+1)*sz<=els.length*sz:=Nat.mul_le_mul_right _ (by omega)
  rw[Nat.add_mul,Nat.one_mul]at hmul
  exact⟨v,by rw[h4 _ (by omega)];exact r1,r2,r3⟩
 ·rename_i hi
  obtain⟨q1,q2⟩:=h2 _ el he
  refine⟨q1,fun j x hx=>?_⟩
  obtain⟨v,r1,r2⟩:=q2 j x hx
  have hil:i-els.length<new.length:=(List.getElem?_eq_some_iff.1 he).1
  have hj:=(List.getElem?_eq_some_iff.1 hx).1
  have hmul:(i-els.length+1)*sz<=new.length*sz:=Nat.mul_le_mul_right _ (by omega)
  rw[Nat.add_mul,Nat.one_mul]at hmul
  have e1:i*sz+j=els.length*sz+((i-els.length)*sz+j):=by
   rw[<-Nat.add_assoc,<-Nat.add_mul];congr 2;omega
  exact⟨v,by rw[e1,h5 _ (by omega)];exact r1,h3 v (List.mem_of_getElem? r1),EY r2⟩
theorem nV {c:Cx}(hc:B5 c){i e sz k:Nat}{vs:Array Value}{els0 els:List (List V)}(hi:c.H[i]?=some (.row e sz els0))(hn:els0.length<els.length)(hk:els.length<=k)(hm:k<=C0)(hm2:els.length<=Ah)(hv:vs.size=k*sz)(hrow:LY c sz els vs) :
  B5 ⟨{ c.w with heap:=c.w.heap.push (.cells vs e (0,0)) },c.ok,P2 c.ρ i (some (c.w.heap.size,k)),c.H.set i (.row e sz els)⟩/\Fr c ⟨{ c.w with heap:=c.w.heap.push (.cells vs e (0,0)) },c.ok,P2 c.ρ i (some (c.w.heap.size,k)),c.H.set i (.row e sz els)⟩ /\
   BD ⟨{ c.w with heap:=c.w.heap.push (.cells vs e (0,0)) },c.ok,P2 c.ρ i (some (c.w.heap.size,k)),c.H.set i (.row e sz els)⟩ (.rw i sz els.length) (.slice (some ⟨c.w.heap.size,0,none⟩) els.length k):=by
 have hil:i<c.H.length:=(List.getElem?_eq_some_iff.1 hi).1
 have hf:Fr c ⟨{ c.w with heap:=c.w.heap.push (.cells vs e (0,0)) },c.ok,P2 c.ρ i (some (c.w.heap.size,k)),c.H.set i (.row e sz els)⟩:=by
  refine⟨fun _ _ h=>h,fun b o h=>Nt (hc.okLt _ _ h),by simp,fun _ _ h=>.inl h,fun b hb _=>BU hb,fun b hb=>?_,fun j o hj=>?_,rfl,rfl,rfl,Nat.le_refl _⟩
  ·obtain⟨j,k',hj,hr⟩:=hb
   simp only[List.length_set]at hj hr
   by_cases e1:j=i
   ·subst e1;rw[Av]at hr;cases hr;exact .inr (Nat.le_refl _)
   ·rw[AO e1]at hr;exact .inl ⟨j,k',hj,hr⟩
  ·simp only[Cd hil]
   by_cases e1:i=j
   ·subst e1
    rw[hi]at hj;cases hj
    exact⟨.row e sz els,by simp,rfl,rfl,by omega,fun h=>by omega⟩
   ·refine⟨o,by simp[e1,hj],?_⟩
    rw[AO (Ne.symm e1)]
    cases o<;>simp[CC]
 refine⟨⟨fun j1 j2 b k1 k2 h1 h2 h3 h4=>?_,fun b o h=>?_,fun j o hj=>?_,hc.globFr hf⟩,hf,⟨by simpa using hil,⟨_,_,rfl,hm2,.inr ⟨_,_,rfl⟩⟩,fun e' sz' els' hn'=>?_⟩⟩
 ·simp only[List.length_set]at h1 h2 h3 h4
  by_cases e1:j1=i<;>by_cases e2:j2=i
  ·omega
  ·subst e1;rw[Av]at h3;rw[AO e2]at h4;cases h3
   have:=Jh hc h2 h4;omega
  ·subst e2;rw[Av]at h4;rw[AO e1]at h3;cases h4
   have:=Jh hc h1 h3;omega
  ·rw[AO e1]at h3;rw[AO e2]at h4
   exact hc.inj j1 j2 b k1 k2 h1 h2 h3 h4
 ·have:=hc.okLt _ _ h;simp;omega
 ·simp only[Cd hil]at hj
  by_cases e1:i=j
  ·subst e1
   simp at hj;subst hj
   simp only[Av]
   refine⟨by simp,fun b k' hb=>?_⟩
   cases hb
   exact⟨vs,heap_alloc_new _ _,hv,hk,hm,fun o h=>absurd (hc.okLt _ _ h) (Nat.lt_irrefl _),hrow.mono fun _ _=>AW hf⟩
  ·simp only[e1,if_false]at hj
   simp only[AO (Ne.symm e1)]
   exact Ns hc hf (.cells vs e (0,0)) rfl (fun b o hb h=>h) hj
 ·simp only[Cd hil]at hn'
  simp at hn'
  obtain⟨_,rfl,rfl⟩:=hn'
  exact⟨rfl,Nat.le_refl _,fun _=>by simp[dw,Av]⟩
set_option maxHeartbeats 2000000 in
theorem mS {d ty e sz bytes i z0 n:Nat}{x y:O}{xo yo:Operand}{els new:List (List V)}(hs:Sm c0 N D t H a w)(hd:o.dst=some d)(hn:d<N)(ho:o.op=.call { callee:=.builtin .append,args:=#[xo,yo],argTypes:=#[ty,ty] })
  (hsl:Ra P ty e=true) (hsz:DH P e sz=true) (hb:M4 P e bytes=true) (hb0:0<bytes) (hx:Bw xo x=true) (hy:Bw yo y=true) (h1:ev t x=.rw i z0 n) (h2:We (ev t y)=some new) (h3:H[i]?=some (.row e sz els)) (h4:els.length=n)
  (h5:∀ z∈new,z.length=sz) (h6:(n+new.length)*bytes<=Ah):D0 P c0 N D o a w ((d,.rw i sz (n+new.length))::t) (H.set i (.row e sz (els++new))):=by
 subst h4
 have hu:=O1 hsl
 unfold M4 at hb
 cases hi:P.info? e with
 | none=>simp[hi]at hb
 | some inf =>
  cases hz:inf.zero with
  | none=>simp[hi,hz]at hb
  | some z =>
   simp only[hi,hz,Bool.and_eq_true,beq_iff_eq]at hb
   obtain⟨hbb,hzs,hz1⟩:=hb
   have hsz':inf.size=sz:=by simpa[DH,hi]using hsz
   obtain⟨g1,g2,c,rfl,rfl,hc,hf0,h7⟩:=id hs
   have q1:=At h7 hx
   have q2:=At h7 hy
   rw[h1]at q1
   obtain⟨hil,⟨ad,cp,hv,hlen0,had⟩,q3⟩:=q1
   obtain⟨hzz,_,hcur⟩:=q3 _ _ _ h3
   subst hzz
   have hcur:=hcur rfl
   have hlen1:els.length+new.length<=Ah:=by
    have:(els.length+new.length)*1<=(els.length+new.length)*bytes:=Nat.mul_le_mul (Nat.le_refl _) hb0
    omega
   have hexec:∀ v' w',(Builtin.append_ #[ty,ty] o.type #[a.eval xo,a.eval yo]).run P c.w=.ok v' w'->(execOp a.eval o).run P c.w=.ok (.value v') w':=fun v' w' hr=>by
    simp only[execOp,ho,resolve,invoke,builtin,Sem.run_bind,Sem.run_pure,Result.andThen_ok,List.map_toArray,List.map_cons,List.map_nil,hr]
   have hlen:(els++new).length=els.length+new.length:=by simp
   by_cases hm:new=[]
   ·subst hm
    have hy0:∃ a' c',a.eval yo=.slice a' 0 c':=by
     rcases QG h2 q2 with ⟨_,e2,_⟩|⟨z',_,e2⟩
     ·exact⟨_,_,e2⟩
     ·obtain⟨a',c',_,_,e3,_⟩:=e2;exact⟨a',c',by simpa using e3⟩
    have hle:els.length<=cp:=by
     cases hρ:c.ρ i with
     | none =>
      rw[hρ,hv]at hcur
      have hcur:Value.slice ad els.length cp=.slice none 0 0:=hcur
      simp only[Value.slice.injEq]at hcur
      omega
     | some bk =>
      obtain⟨b,k⟩:=bk
      rw[hρ]at hcur;rw[hv]at hcur;cases hcur
      obtain⟨vs,p1,p2,p3,p4,p5⟩:=(hc.obj i _ h3).2 b cp hρ
      exact p3
    refine⟨a.eval xo,c.w,.inl (hexec _ _ (by rw[hv];exact OW hu hi ad els.length cp hle _ hy0 c.w)),?_⟩
    rw[hd]
    have hH:c.H.set i (.row e sz (els++[]))=c.H:=by
     apply List.ext_getElem?
     intro j
     rw[Cd hil]
     by_cases e1:i=j
     ·subst e1;simp[h3]
     ·simp[e1]
    rw[hH]
    exact Xf hs hn fun c' w1 w2 w3 _=>by have:=At w3 hx;rw[h1]at this;exact this
   ·have hpos:0<new.length:=List.length_pos_iff.2 hm
    obtain⟨bn,on,cn,news,hvy,n1,n2,n3⟩:∃ bn on cn news,a.eval yo=.slice (some ⟨bn,on,none⟩) new.length cn/\List.length news=new.length*sz/\(∀ (j:Nat)(u:Value),news[j]?=some u->c.w.cell? ⟨bn,on+j,none⟩=some u/\Co u=true)/\(∀ (i:Nat)(e:List V),new[i]?=some e->e.length=sz/\∀ (j:Nat)(x:V),e[j]?=some x->∃ v,news[i*sz+j]?=some v/\Gv c.w c.ok x v):=by
     rcases QG h2 q2 with ⟨_,_,e2⟩|⟨z',_,e2⟩
     ·exact absurd e2 hm
     ·obtain⟨a',c',b',o',e3,_,_,_,e4,e5⟩:=e2
      have ha:=e4.resolve_left hm
      subst ha
      have hz':z'=sz:=by
       have hg:new[0]?=some new[0]:=List.getElem?_eq_getElem hpos
       have:=(La e5 hg).1
       rw[<-this,h5 _ (List.getElem_mem hpos)]
      subst hz'
      obtain⟨news,s1,s2,s3⟩:=LE e5
      exact⟨b',o',c',news,e3,s1,by simpa using s2,s3⟩
    have hone:∀ v∈news,Co v=true:=by
     intro v hv
     obtain⟨j,hj,e⟩:=List.getElem_of_mem hv
     exact (n2 j v (by rw[List.getElem?_eq_getElem hj,e])).2
    have hnews:∀ (j:Nat)(u:Value),news[j]?=some u->c.w.cell? ((⟨bn,on,none⟩:Addr).add j)=some u:=fun j u hu=>by rw[Addr.add_lit];exact (n2 j u hu).1
    have hnl:news.length=new.length*inf.size:=by rw[hsz'];exact n1
    have h63:((els.length+new.length:Nat):Int)<=9223372036854775807:=by unfold Ah at hlen1;omega
    have hbytes:(els.length+new.length)*inf.bytes<=140737488355328:=by rw[hbb];exact h6
    have newblock:∀ (cap:Nat)(olds:List Value)(vs0:Array Value),els.length+new.length<=cap->cap<=C0->olds.length=els.length*sz->LY c sz els vs0->(∀ l,l<els.length*sz->olds[l]?=vs0[l]?)->∀ vs:Array Value,vs=(olds++news).toArray++Builtin.zeroCells z.cells (cap-(els.length+new.length)) ->
      Sm c0 N D ((d,.rw i sz (els.length+new.length))::t) (c.H.set i (.row e sz (els++new))) (a.put (some d) (.slice (some ⟨c.w.heap.size,0,none⟩) (els.length+new.length) cap)) (c.w.drew.alloc (.cells vs e)):=by
     intro cap olds vs0 hc1 hc2 o1 hr0 o3 vs hvs
     obtain⟨k1,k2⟩:=Qu hc (w':=c.w.drew) rfl rfl rfl rfl (Nat.le_succ _)
     have hvsz:vs.size=cap*sz:=by
      rw[hvs]
      simp only[Array.size_append,List.size_toArray,size_zeroCells,hzs,hsz',List.length_append,o1,n1,<-Nat.add_mul]
      congr 1;omega
     have hrow:LY { c with w:=c.w.drew } sz (els++new) vs:=by
      refine (SJ (vs:=vs) hr0 n1 n3 hone ?_ ?_).mono fun _ _=>AW k2
      ·intro l hl
       rw[<-o3 l hl,hvs,Array.getElem?_append,if_pos (by simp[o1];omega),List.getElem?_toArray,List.getElem?_append,if_pos (by omega)]
      ·intro l hl
       rw[hvs,Array.getElem?_append,if_pos (by simp[o1,n1];omega),List.getElem?_toArray,List.getElem?_append,if_neg (by omega),o1]
       congr 1;omega
     have hr:=nV (c:={ c with w:=c.w.drew }) k1 (i:=i) (e:=e) (sz:=sz) (els0:=els) (k:=cap) (vs:=vs) (els:=els++new) h3 (by rw[hlen];omega) (by rw[hlen];exact hc1) hc2 (by rw[hlen];exact hlen1) hvsz hrow
     rw[hlen]at hr
     obtain⟨r1,r2,r3⟩:=hr
     have hfr:=k2.trans r2
     exact⟨by rw[IA];exact g1,by rw[Fj];exact g2,_,rfl,rfl,r1,hf0.trans hfr,GT g1 hn r3 (Ef hfr h7)⟩
    cases hρ:c.ρ i with
    | none =>
     rw[hρ]at hcur
     have hv0:a.eval xo=.slice none 0 0:=hcur
     have hels:els=[]:=(hc.obj i _ h3).1 hρ
     subst hels
     have hr:=run_append_nil (P:=P) c.w ty o.type e inf z hu hi hz ⟨bn,on,none⟩ new.length cn news hnl hnews hpos (by simpa using h63) (by simp at hbytes;omega)
     refine⟨_,_,.inl (hexec _ _ (by rw[hv0,hvy];exact hr)),?_⟩
     rw[hd]
     have:=newblock (grownCap c.w new.length 0 e) [] #[] (by simpa using grownCap_ge c.w new.length 0 e) (by have:=grownCap_le_maxLen c.w new.length 0 e (by simp only[maxLen];simp at h63;omega);simpa[C0,maxLen]using this) (by simp) (fun i el h=>by simp at h) (by simp) _ rfl
     simpa using this
    | some bk =>
     obtain⟨b,k⟩:=bk
     rw[hρ]at hcur
     have hvb:a.eval xo=.slice (some ⟨b,0,none⟩) els.length k:=hcur
     rw[hv]at hvb
     cases hvb
     obtain⟨vs,p1,p2,p3,p4,p5,p6⟩:=(hc.obj i _ h3).2 b cp hρ
     have hle2:els.length*sz<=vs.size:=by rw[p2];exact Nat.mul_le_mul_right _ p3
     by_cases hroom:els.length+new.length<=cp
     ·have hfit:els.length*sz+news.length<=vs.size:=by rw[n1,p2,<-Nat.add_mul];exact Nat.mul_le_mul_right _ hroom
      have hr:=run_append_room (P:=P) c.w ty o.type e inf hu hi b els.length cp vs p1 ⟨bn,on,none⟩ new.length cn news hnl hnews (fun u hu=>by rw[TA];exact hone u hu) hroom (by rw[hsz'];exact hfit)
      rw[hsz']at hr
      refine⟨_,_,.inl (hexec _ _ (by rw[hv,hvy];exact hr)),?_⟩
      rw[hd]
      generalize hvs':(vs.toList.take (els.length*sz)++news++vs.toList.drop (els.length*sz+news.length)).toArray=vs'
      have hvsz:vs'.size=vs.size:=by rw[<-hvs'];simp;omega
      have hrow:LY c sz (els++new) vs':=by
       refine SJ p6 n1 n3 hone ?_ ?_
       ·intro l hl
        rw[<-hvs',List.getElem?_toArray,List.getElem?_append,if_pos (by simp;omega),List.getElem?_append,if_pos (by simp;omega),Qd hl]
        simp
       ·intro l hl
        rw[<-hvs',List.getElem?_toArray,List.getElem?_append,if_pos (by simp;omega),List.getElem?_append,if_neg (by simp;omega)]
        congr 1;simp;omega
      have hext:CC (.row e sz els) (.row e sz (els++new)) (c.ρ i) (c.ρ i):=⟨rfl,rfl,by simp,fun _=>rfl⟩
      have hfr:=bp hc h3 hρ p5 vs' (.row e sz (els++new)) (fun _ _=>False) (by simp) c.ρ (fun _ _=>rfl) (.inl rfl) hext
      have hcn:B5 (c.wr b vs' i (.row e sz (els++new)) (fun _ _=>False) c.ρ):=by
       refine XT hc h3 hρ p5 _ _ _ (by simp) _ (fun _ _=>rfl) (.inl rfl) hext ⟨fun hr=>(by rw[hρ]at hr;cases hr),fun b' k' hb=>?_⟩
       rw[hρ]at hb;cases hb
       exact⟨vs',setRow_heap c.w b vs _ e _ p1,by rw[hvsz];exact p2,by rw[hlen];exact hroom,p4,fun o ho=>p5 o (ho.resolve_right (by simp)),hrow.mono fun _ _=>AW hfr⟩
      refine⟨by rw[IA];exact g1,by rw[Fj];exact g2,c.wr b vs' i (.row e sz (els++new)) (fun _ _=>False) c.ρ,rfl,rfl,hcn,hf0.trans hfr,GT g1 hn ?_ (Ef hfr h7)⟩
      refine⟨by simpa[Cx.wr]using hil,⟨_,_,rfl,hlen1,.inr ⟨_,_,rfl⟩⟩,fun e' sz' els' hh=>?_⟩
      simp only[Cx.wr,Cd hil,if_true,Option.some.injEq,Ob.row.injEq]at hh
      obtain⟨_,rfl,rfl⟩:=hh
      exact⟨rfl,by simp,fun _=>by simp[Cx.wr,hρ,dw]⟩
     ·have hr:=run_append_grow (P:=P) c.w ty o.type e inf z hu hi hz ⟨b,0,none⟩ els.length cp (vs.toList.take (els.length*sz)) (by rw[hsz'];simp;omega) (fun j u hu'=>by
       rw[List.getElem?_take]at hu'
       split at hu'
       ·rw[Addr.add_lit,BV p1];simpa using hu'
       ·cases hu') ⟨bn,on,none⟩ new.length cn news hnl hnews (by omega) h63 (growslice_fits (by omega) hbytes)
      refine⟨_,_,.inl (hexec _ _ (by rw[hv,hvy];exact hr)),?_⟩
      rw[hd]
      have:=newblock (grownCap c.w (els.length+new.length) cp e) (vs.toList.take (els.length*sz)) vs (grownCap_ge c.w _ cp e) (by have:=grownCap_le_maxLen c.w (els.length+new.length) cp e (by simp only[maxLen];omega);simpa[C0,maxLen]using this) (by simp;omega) p6 (fun l hl=>by rw[Qd hl];simp) _ rfl
      simpa using this
def Cx.frz (c:Cx)(i sz n:Nat):Cx:=⟨c.w,fun b o=>c.ok b o\/(∃ k,c.ρ i=some (b,k))/\o<n*sz,P2 c.ρ i none,c.H.set i .dead⟩
theorem pD {c:Cx}(hc:B5 c){i e sz:Nat}{els:List (List V)}(hi:c.H[i]?=some (.row e sz els))(hlen:els.length<=Ah) :
  Fr c (c.frz i sz els.length)/\B5 (c.frz i sz els.length)/\∀ v,dw (c.ρ i) els.length v->Gv c.w (c.frz i sz els.length).ok (.sl sz (els.map (AR fun _=>none))) v:=by
 have hil:i<c.H.length:=(List.getElem?_eq_some_iff.1 hi).1
 have hob:=hc.obj i _ hi
 have hf:Fr c (c.frz i sz els.length):=by
  refine⟨fun _ _ h=>.inl h,fun _ _ _=>rfl,Nat.le_refl _,fun b o h=>?_,fun _ _ _=>rfl,fun b hb=>?_,fun j o hj=>?_,rfl,rfl,rfl,Nat.le_refl _⟩
  ·rcases h with h | ⟨⟨k,h⟩,_⟩
   ·exact .inl h
   ·exact .inr (.inr ⟨i,k,hil,h⟩)
  ·obtain⟨j,k,hj,hr⟩:=hb
   simp only[Cx.frz,List.length_set]at hj hr
   by_cases e1:j=i
   ·subst e1;rw[Av]at hr;cases hr
   ·rw[AO e1]at hr;exact .inl ⟨j,k,hj,hr⟩
  ·simp only[Cx.frz,Cd hil]
   by_cases e1:i=j
   ·subst e1
    rw[hi]at hj;cases hj
    exact⟨.dead,by simp,trivial⟩
   ·refine⟨o,by simp[e1,hj],?_⟩
    rw[AO (Ne.symm e1)]
    cases o<;>simp[CC]
 refine⟨hf,⟨fun j1 j2 b k1 k2 h1 h2 h3 h4=>?_,fun b o h=>?_,fun j o hj=>?_,hc.globFr hf⟩,fun v hv=>?_⟩
 ·simp only[Cx.frz,List.length_set]at h1 h2 h3 h4
  by_cases e1:j1=i
  ·subst e1;rw[Av]at h3;cases h3
  ·by_cases e2:j2=i
   ·subst e2;rw[Av]at h4;cases h4
   ·rw[AO e1]at h3;rw[AO e2]at h4
    exact hc.inj j1 j2 b k1 k2 h1 h2 h3 h4
 ·rcases h with h | ⟨⟨k,h⟩,_⟩
  ·exact hc.okLt _ _ h
  ·exact Jh hc hil h
 ·simp only[Cx.frz,Cd hil]at hj
  by_cases e1:i=j
  ·subst e1
   simp at hj;subst hj
   exact Av _ _ _
  ·simp only[e1,if_false]at hj
   have:(c.frz i sz els.length).ρ j=c.ρ j:=AO (Ne.symm e1)
   rw[this]
   refine Do hf (hc.obj j o hj) fun b k hr=>⟨rfl,fun x hx=>?_⟩
   rcases hx with hx | ⟨⟨k',hx⟩,_⟩
   ·exact hx
   ·exact absurd (hc.inj i j b _ _ hil (List.getElem?_eq_some_iff.1 hj).1 hx hr) e1
 ·cases hρ:c.ρ i with
  | none =>
   rw[hρ]at hv
   have hv:v=.slice none 0 0:=hv
   have:=hob.1 hρ
   subst this
   exact⟨none,0,0,0,hv,Nat.le_refl _,by unfold C0;omega,by simp,.inl rfl,trivial⟩
  | some bk =>
   obtain⟨b,k⟩:=bk
   rw[hρ]at hv
   have hv:v=.slice (some ⟨b,0,none⟩) els.length k:=hv
   obtain⟨vs,q1,q2,q3,q4,q5,q6⟩:=hob.2 b k hρ
   refine⟨some ⟨b,0,none⟩,k,b,0,by simpa using hv,by simpa using q3,q4,by simpa using hlen,.inr rfl,Ie fun j el hj=>?_⟩
   rw[List.getElem?_map]at hj
   cases hg:els[j]? with
   | none=>simp[hg]at hj
   | some el0 =>
    simp[hg]at hj;subst hj
    obtain⟨p1,p2⟩:=q6 j el0 hg
    have hjl:=(List.getElem?_eq_some_iff.1 hg).1
    refine⟨by rw[JU];exact p1,IF fun l x hx=>?_⟩
    rw[LX]at hx
    cases hy:el0[l]? with
    | none=>simp[hy]at hx
    | some y =>
     simp[hy]at hx;subst hx
     obtain⟨u,r1,r2,r3⟩:=p2 l y hy
     have hll:=(List.getElem?_eq_some_iff.1 hy).1
     have hmul:(j+1)*sz<=els.length*sz:=Nat.mul_le_mul_right _ (by omega)
     rw[Nat.add_mul,Nat.one_mul]at hmul
     refine⟨u,?_,.inr ⟨⟨k,hρ⟩,by simp;omega⟩,r2,W6 (AW hf r3)⟩
     rw[BV q1];simpa using r1
theorem zy {d i z n e sz:Nat}{els:List (List V)}(hs:Sm c0 N D t H a w)(hn:lk t d=.rw i z n)(hi:H[i]?=some (.row e sz els))(hl:els.length=n):Sm c0 N D ((d,.sl sz (els.map (AR fun _=>none)))::t) (H.set i .dead) a w:=by
 obtain⟨g1,g2,c,rfl,rfl,hc,hf0,h7⟩:=hs
 have hr:=Ke h7 d
 rw[hn]at hr
 obtain⟨_,⟨_,_,_,hle,_⟩,h3⟩:=hr
 have hcur:=(h3 _ _ _ hi).2.2 hl
 obtain⟨hf,hcn,hp⟩:=pD hc hi (by omega)
 refine⟨g1,g2,c.frz i sz els.length,rfl,rfl,hcn,hf0.trans hf,fun s x hx=>?_⟩
 simp only[find]at hx
 split at hx
 ·rename_i e1;subst e1;cases hx
  have hd:d<N:=by
   cases hfd:find t d with
   | none=>simp[lk,hfd]at hn
   | some y=>exact (h7 d y hfd).1
  exact⟨hd,EY (c:=c.frz i sz els.length) (hp _ (by rw[hl];exact hcur))⟩
 ·exact⟨(h7 s x hx).1,AW hf (h7 s x hx).2⟩
theorem AbO {d i e sz:Nat}(hs:Sm c0 N D t H a w)(hn:lk t d=.own i sz [])(hi:H[i]?=some (.arr e sz 0)):Sm c0 N D ((d,.rw H.length sz 0)::t) (H.set i .dead++[.row e sz []]) a w:=by
 obtain⟨g1,g2,c,rfl,rfl,hc,hf0,h7⟩:=hs
 have hr:=Ke h7 d
 rw[hn]at hr
 obtain⟨h1,_,h3⟩:=hr
 have hcur:=(h3 _ _ _ hi).2.2 rfl
 have hil:i<c.H.length:=(List.getElem?_eq_some_iff.1 hi).1
 obtain⟨o1,o2⟩:=hc.obj i _ hi
 let c':Cx:=⟨c.w,c.ok,P2 (P2 c.ρ i none) c.H.length (c.ρ i),c.H.set i .dead++[.row e sz []]⟩
 have hρl:c'.ρ c.H.length=c.ρ i:=Av _ _ _
 have hρi:c'.ρ i=none:=by show P2 (P2 c.ρ i none) c.H.length (c.ρ i) i=none;rw[AO (by omega),Av]
 have hρj:∀ j,j≠i->j≠c.H.length->c'.ρ j=c.ρ j:=fun j e1 e2=>by show P2 (P2 c.ρ i none) c.H.length (c.ρ i) j=_;rw[AO e2,AO e1]
 have hlen:c'.H.length=c.H.length+1:=by simp[c']
 have hgl:c'.H[c.H.length]?=some (.row e sz []):=by show (c.H.set i .dead++[Ob.row e sz []])[c.H.length]?=_;rw[List.getElem?_append_right (by simp)];simp
 have hgj:∀ j,j<c.H.length->c'.H[j]?=if i=j then some .dead else c.H[j]?:=fun j hj=>by
  show (c.H.set i .dead++[Ob.row e sz []])[j]?=_
  rw[List.getElem?_append_left (by simpa using hj),Cd hil]
 have hf:Fr c c':=by
  refine⟨fun _ _ h=>h,fun _ _ _=>rfl,Nat.le_refl _,fun b o h=>.inl h,fun _ _ _=>rfl,fun b hb=>?_,fun j o hj=>?_,rfl,rfl,rfl,Nat.le_refl _⟩
  ·obtain⟨j,k,hj,hr⟩:=hb
   rw[hlen]at hj
   by_cases e2:j=c.H.length
   ·subst e2;rw[hρl]at hr;exact .inl ⟨i,k,hil,hr⟩
   ·by_cases e1:j=i
    ·subst e1;rw[hρi]at hr;cases hr
    ·rw[hρj j e1 e2]at hr;exact .inl ⟨j,k,by omega,hr⟩
  ·have hjl:j<c.H.length:=(List.getElem?_eq_some_iff.1 hj).1
   rw[hgj j hjl]
   by_cases e1:i=j
   ·subst e1
    rw[hi]at hj;cases hj
    exact⟨.dead,by simp,trivial⟩
   ·refine⟨o,by simp[e1,hj],?_⟩
    rw[hρj j (Ne.symm e1) (by omega)]
    cases o<;>simp[CC]
 have hcn:B5 c':=by
  refine⟨fun j1 j2 b k1 k2 h1 h2 h3 h4=>?_,hc.okLt,fun j o hj=>?_,hc.globFr hf⟩
  ·rw[hlen]at h1 h2
   have side:∀ j k,j<c.H.length+1->c'.ρ j=some (b,k)->(j=c.H.length/\c.ρ i=some (b,k))\/(j≠i/\j<c.H.length/\c.ρ j=some (b,k)):=fun j k hj hr=>by
    by_cases e2:j=c.H.length
    ·subst e2;rw[hρl]at hr;exact .inl ⟨rfl,hr⟩
    ·by_cases e1:j=i
     ·subst e1;rw[hρi]at hr;cases hr
     ·rw[hρj j e1 e2]at hr;exact .inr ⟨e1,by omega,hr⟩
   rcases side j1 k1 h1 h3 with ⟨rfl,p1⟩|⟨p0,p1,p2⟩<;>rcases side j2 k2 h2 h4 with ⟨rfl,q1⟩|⟨q0,q1,q2⟩
   ·rfl
   ·exact absurd (hc.inj i j2 b k1 k2 hil q1 p1 q2) (Ne.symm q0)
   ·exact absurd (hc.inj j1 i b k1 k2 p1 hil p2 q1) p0
   ·exact hc.inj j1 j2 b k1 k2 p1 q1 p2 q2
  ·have hjl:j<c'.H.length:=(List.getElem?_eq_some_iff.1 hj).1
   rw[hlen]at hjl
   by_cases e2:j=c.H.length
   ·subst e2
    rw[hgl]at hj;cases hj
    rw[hρl]
    refine⟨fun _=>rfl,fun b k hb=>?_⟩
    obtain⟨vs,r1,r2,r3,r4,r5⟩:=o2 b k hb
    exact⟨vs,r1,r2,by simp,r4,fun o=>r5 o (by simp),fun l el hl=>by simp at hl⟩
   ·rw[hgj j (by omega)]at hj
    by_cases e1:i=j
    ·subst e1
     simp at hj;subst hj
     exact hρi
    ·simp only[e1,if_false]at hj
     rw[hρj j (Ne.symm e1) e2]
     exact Do hf (hc.obj j o hj) fun b k hr=>⟨rfl,fun x hx=>hx⟩
 refine⟨g1,g2,c',rfl,rfl,hcn,hf0.trans hf,fun s x hx=>?_⟩
 simp only[find]at hx
 split at hx
 ·rename_i e1;subst e1;cases hx
  have hd:d<N:=by
   cases hfd:find t d with
   | none=>simp[lk,hfd]at hn
   | some y=>exact (h7 d y hfd).1
  obtain⟨a1,c1,b1,o1',hv,_⟩:=h1
  refine⟨hd,by rw[hlen];omega,⟨a1,c1,by simpa using hv,by simp,.inl rfl⟩,fun e' sz' els hn'=>?_⟩
  rw[hgl]at hn'
  simp only[Option.some.injEq,Ob.row.injEq]at hn'
  obtain⟨_,rfl,rfl⟩:=hn'
  exact⟨rfl,Nat.le_refl _,fun _=>by rw[hρl];exact hcur⟩
 ·exact⟨(h7 s x hx).1,AW hf (h7 s x hx).2⟩
theorem Aa6 {i off e j z n e' sz:Nat}{cs:List V}{els:List (List V)}(hs:Sm c0 N D t H a w)(hi:H[i]?=some (.cells e cs))(ho:cs[off]?=some (.rw j z n))(hj:H[j]?=some (.row e' sz els))(hl:els.length=n) :
  Sm c0 N D t ((H.set j .dead).set i (.cells e (put off [.sl sz (els.map (AR fun _=>none))] cs))) a w:=by
 obtain⟨g1,g2,c,rfl,rfl,hc,hf0,h7⟩:=hs
 have hofl:off<cs.length:=(List.getElem?_eq_some_iff.1 ho).1
 have hne:i≠j:=by intro e1;subst e1;rw[hi]at hj;cases hj
 have hil:i<c.H.length:=(List.getElem?_eq_some_iff.1 hi).1
 obtain⟨b,vs,q1,q2,q3,q4,q5⟩:=hc.obj i _ hi
 obtain⟨v,r1,r2,r3⟩:=q5 off _ ho
 obtain⟨_,⟨_,_,_,hle,_⟩,h3⟩:=r3
 have hcur:=(h3 _ _ _ hj).2.2 hl
 obtain⟨hf,hcn,hp⟩:=pD hc hj (by omega)
 have hj':(c.frz j sz els.length).H[i]?=some (.cells e cs):=by
  simp only[Cx.frz,Cd (List.getElem?_eq_some_iff.1 hj).1,Ne.symm hne,if_false];exact hi
 have hρi:(c.frz j sz els.length).ρ i=some (b,0):=by
  show P2 c.ρ j none i=_
  rw[AO hne];exact q1
 let c2:Cx:=⟨c.w,(c.frz j sz els.length).ok,(c.frz j sz els.length).ρ,(c.frz j sz els.length).H.set i (.cells e (put off [.sl sz (els.map (AR fun _=>none))] cs))⟩
 have hil2:i<(c.frz j sz els.length).H.length:=(List.getElem?_eq_some_iff.1 hj').1
 have hf2:Fr (c.frz j sz els.length) c2:=by
  refine⟨fun _ _ h=>h,fun _ _ _=>rfl,Nat.le_refl _,fun _ _ h=>.inl h,fun _ _ _=>rfl,fun b hb=>?_,fun l o hl=>?_,rfl,rfl,rfl,Nat.le_refl _⟩
  ·obtain⟨l,k,h1,h2⟩:=hb
   exact .inl ⟨l,k,by simpa[c2]using h1,h2⟩
  ·simp only[c2,Cd hil2]
   by_cases e1:i=l
   ·subst e1
    rw[hj']at hl;cases hl
    exact⟨.cells e (put off [.sl sz (els.map (AR fun _=>none))] cs),by simp,rfl,rfl⟩
   ·exact⟨o,by simp[e1,hl],by cases o<;>simp[CC]⟩
 have hcn2:B5 c2:=by
  refine⟨fun j1 j2 b k1 k2 h1 h2 h3 h4=>hcn.inj j1 j2 b k1 k2 (by simpa[c2]using h1) (by simpa[c2]using h2) h3 h4,hcn.okLt,fun l o hl=>?_,hcn.globFr hf2⟩
  simp only[c2,Cd hil2]at hl
  by_cases e1:i=l
  ·subst e1
   simp at hl;subst hl
   have hok:=hcn.obj i _ hj'
   obtain⟨b',vs',p1,p2,p3,p4,p5⟩:=hok
   refine⟨b',vs',p1,p2,by rw[LV (by simp;omega)];exact p3,p4,fun l x hx=>?_⟩
   rw[Ys _ _ _ hofl]at hx
   by_cases e2:l=off
   ·subst e2
    simp at hx;subst hx
    rw[hρi]at p1;cases p1
    have p2':c.w.heap[b]?=some (.cells vs' e (0,0)):=p2
    rw[q2]at p2';cases p2'
    exact⟨v,r1,r2,EY (c:=c2) (hp _ (by rw[hl];exact hcur))⟩
   ·simp only[e2,if_false]at hx
    obtain⟨u,u1,u2,u3⟩:=p5 l x hx
    exact⟨u,u1,u2,AW hf2 u3⟩
  ·simp only[e1,if_false]at hl
   exact Do hf2 (hcn.obj l o hl) fun b k _=>⟨rfl,fun _ h=>h⟩
 exact⟨g1,g2,c2,rfl,rfl,hcn2,(hf0.trans hf).trans hf2,fun s x hx=>⟨(h7 s x hx).1,AW hf2 (AW hf (h7 s x hx).2)⟩⟩
end
end Go.Dw
end
namespace Go.Dw
def Mz (P:Program):List Field->List Bool->Nat->Bool
 | [],[],_=>true
 | f::fs,b::sh,i => f.name != "_" && (f.offset==i&&(Ki P f.type&&((match P.underlying f.type with | some (.int _) => !b | some .string => b | _ => false)&&Mz P fs sh (i + 1))))
 | _,_,_=>false
def mi:Value->Value->Option Bool
 | .int k a,.int k' b=>if k=k' then some (a==b) else none
 | .string a,.string b=>some (a==b)
 | _,_=>none
def MO:List Value->List Value->Option Bool
 | [],[]=>some true
 | x::xs,y::ys=>match mi x y with
  | some true=>MO xs ys
  | some false=>some false
  | none=>none
 | _,_=>none
def Xu (b:Bool):Value->Bool
 | .string _=>b
 | .int ..=>!b
 | _=>false
def EK:List Bool->List Value->Bool
 | [],[]=>true
 | b::sh,v::vs=>Xu b v&&EK sh vs
 | _,_=>false
theorem uS {P:Program}{w:World}{t d:Nat}{b r:Bool}{x y:Value}(ht:(match P.underlying t with | some (.int _)=>!b | some .string=>b | _=>false)=true)(hk:Xu b x=true)(h:mi x y=some r):(Op.equalIn (d+1) t x y).run P w=.ok r w:=by
 unfold mi at h
 split at h
 ·rename_i k a k' a'
  simp only[Xu]at hk
  cases hu:P.underlying t with
  | none=>rw[hu]at ht;cases ht
  | some kd =>
   rw[hu]at ht
   cases kd<;>simp only[Bool.false_eq_true]at ht<;>simp_all
   obtain⟨rfl,h⟩:=h
   rw[Op.equalIn]
   simp[run_underlying hu,h]
 ·rename_i a a'
  simp only[Xu]at hk
  cases hu:P.underlying t with
  | none=>rw[hu]at ht;cases ht
  | some kd =>
   rw[hu]at ht
   cases kd<;>simp only[Bool.false_eq_true]at ht<;>simp_all
   rw[Op.equalIn]
   simp[run_underlying hu]at h ⊢
   exact h
 ·cases h
theorem lE {P:Program}{xs ys:Array Value}{w:World}{d:Nat}:∀ (l:List Field)(sh:List Bool)(i:Nat)(cx cy:List Value)(b:Bool),Mz P l sh i=true->EK sh cx=true->(∀ j:Nat,cx[j]?=xs[i+j]?)->(∀ j:Nat,cy[j]?=ys[i+j]?)->MO cx cy=some b ->
  ∃ r:Option Bool×Unit,(forIn l ((none,()):Option Bool×Unit) fun f (__s:Option Bool×Unit) =>
      if f.name = "_" then (pure (ForInStep.yield (none,())) : Sem _)
      else do
       let __do_lift <- part f.type xs f.offset
       let __do_lift_1 <- part f.type ys f.offset
       let __do_lift <- Op.equalIn (d+1) f.type __do_lift __do_lift_1
       if __do_lift=false then pure (ForInStep.done (some false,())) else pure (ForInStep.yield (none,()))).run P w=.ok r w/\((b=true/\r.1=none)\/(b=false/\r.1=some false))
 | [],sh,i,cx,cy,b,hf,hk,hx,hy,h=>by
  cases sh with
  | cons s sh=>simp[Mz]at hf
  | nil =>
   cases cx with
   | cons c cx=>simp[EK]at hk
   | nil =>
    cases cy with
    | cons c cy=>simp[MO]at h
    | nil =>
     simp only[MO,Option.some.injEq]at h
     exact⟨(none,()),by simp,.inl ⟨h.symm,rfl⟩⟩
 | f::l,sh,i,cx,cy,b,hf,hk,hx,hy,h=>by
  cases sh with
  | nil=>simp[Mz]at hf
  | cons s sh =>
   simp only[Mz,Bool.and_eq_true,bne_iff_ne,ne_eq,beq_iff_eq]at hf
   obtain⟨f1,f2,f3,f4,f5⟩:=hf
   cases cx with
   | nil=>simp[EK]at hk
   | cons u cx =>
    simp only[EK,Bool.and_eq_true]at hk
    cases cy with
    | nil=>simp[MO]at h
    | cons v cy =>
     have g1:xs[f.offset]?=some u:=by rw[f2];have:=hx 0;simpa using this.symm
     have g2:ys[f.offset]?=some v:=by rw[f2];have:=hy 0;simpa using this.symm
     have p1:=BI f3 g1 w
     have p2:=BI f3 g2 w
     simp only[MO]at h
     cases he:mi u v with
     | none=>rw[he]at h;cases h
     | some r =>
      have q:=uS (w:=w) (d:=d) f4 hk.1 he
      rw[he]at h
      cases r with
      | false =>
       simp only[Option.some.injEq]at h
       subst h
       refine⟨(some false,()),?_,.inr ⟨rfl,rfl⟩⟩
       simp[f1,p1,p2,q]
      | true =>
       obtain⟨r,e1,e2⟩:=lE l sh (i+1) cx cy b f5 hk.2 (fun j=>by have:=hx (j+1);rw[show i+1+j=i+(j+1) by omega];simpa using this) (fun j=>by have:=hy (j+1);rw[show i+1+j=i+(j+1) by omega];simpa using this) h
       refine⟨r,?_,e2⟩
       simp[f1,p1,p2,q]
       exact e1
theorem dm {P:Program}{ty:Nat}{fs:Array Field}{sh:List Bool}{xs ys:Array Value}{w:World}{d:Nat}{b:Bool}(hu:P.underlying ty=some (.struct fs))(hs:P.stoodInHeld ty=false)(hf:Mz P fs.toList sh 0=true)(hk:EK sh xs.toList=true)(h:MO xs.toList ys.toList=some b) :
  (Op.equalIn (d+2) ty (.agg xs) (.agg ys)).run P w=.ok b w:=by
 rw[Op.equalIn]
 simp[run_underlying hu,program,Sem.run,hs]
 obtain⟨r,e1,e2⟩:=lE (P:=P) (xs:=xs) (ys:=ys) (w:=w) (d:=d) fs.toList sh 0 xs.toList ys.toList b hf hk (by simp) (by simp) h
 rw[<-Array.forIn_toList]
 rw[e1]
 rcases e2 with ⟨rfl,h2⟩|⟨rfl,h2⟩<;>simp[h2]
theorem mX {P:Program}{ty:Nat}{fs:Array Field}{sh:List Bool}{xs ys:Array Value}{w:World}{b:Bool}(hu:P.underlying ty=some (.struct fs))(hs:P.stoodInHeld ty=false)(hf:Mz P fs.toList sh 0=true)(hk:EK sh xs.toList=true)(h:MO xs.toList ys.toList=some b) :
  (Op.equal ty (.agg xs) (.agg ys)).run P w=.ok b w:=dm (d:=9998) hu hs hf hk h
end Go.Dw
section
namespace Go.Dw
theorem ef {c:Cx}{x y:V}{u v:Value}{b:Bool}(hx:BD c x u)(hy:BD c y v)(h:HP x y=some b):mi u v=some b:=by
 unfold HP at h
 split at h
 ·rename_i k a k' a'
  have e1:u=.int k a:=hx
  have e2:v=.int k' a':=hy
  subst e1 e2
  exact h
 ·rename_i a b'
  have e1:u=.string ⟨⟨a⟩⟩:=hx
  have e2:v=.string ⟨⟨b'⟩⟩:=hy
  subst e1 e2
  simp only[mi,Yp]
  exact h
 ·cases h
theorem My {c:Cx}:∀ {xs ys:List V} {us vs:List Value} {b:Bool},D2 c xs us->D2 c ys vs->Tp xs ys=some b->MO us vs=some b
 | [],[],us,vs,b,hx,hy,h=>by
  have e1:us=[]:=hx
  have e2:vs=[]:=hy
  subst e1 e2
  exact h
 | [],_::_,_,_,_,_,_,h=>by simp[Tp]at h
 | _::_,[],_,_,_,_,_,h=>by simp[Tp]at h
 | x::xs,y::ys,us,vs,b,hx,hy,h=>by
  obtain⟨u,us,rfl,h1,h2⟩:=hx
  obtain⟨v,vs,rfl,h3,h4⟩:=hy
  simp only[Tp]at h
  simp only[MO]
  cases hs:HP x y with
  | none=>rw[hs]at h;cases h
  | some r =>
   rw[hs]at h
   rw[ef h1 h3 hs]
   cases r with
   | false=>exact h
   | true=>exact My h2 h4 h
theorem fN {c:Cx}{b:Bool}{x:V}{u:Value}(hx:BD c x u)(h:ud b x=true):Xu b u=true:=by
 cases x<;>simp only[ud,Bool.false_eq_true]at h
 ·have e1:u=.int _ _:=hx
  subst e1;exact h
 ·have e1:u=.string ⟨⟨_⟩⟩:=hx
  subst e1;exact h
theorem Ik {c:Cx}:∀ {sh:List Bool} {xs:List V} {us:List Value},D2 c xs us->RD sh xs=true->EK sh us=true
 | [],[],us,hx,_=>by
  have e1:us=[]:=hx
  subst e1;rfl
 | [],_::_,_,_,h=>by simp[RD]at h
 | _::_,[],_,_,h=>by simp[RD]at h
 | b::sh,x::xs,us,hx,h=>by
  obtain⟨u,us,rfl,h1,h2⟩:=hx
  simp only[RD,Bool.and_eq_true]at h
  simp only[EK,Bool.and_eq_true]
  exact⟨fN h1 h.1,Ik h2 h.2⟩
def av (P:Program)(key:TypeId)(sh:List Bool):Bool:=match P.underlying key with
 | some (.array n e)=>n==2&&sh==[true,true]&&strQ P e
 | _=>false
where strQ (P:Program) (e:TypeId):Bool:=(match P.underlying e with | some .string=>true | _=>false)&&Ki P e&&(match P.info? e with | some i=>i.size==1 | none=>false)
structure pE (P:Program) (key:TypeId) (sh:List Bool):Prop where
 eq:∀ (xs ys:Array Value)(w:World)(b:Bool),EK sh xs.toList=true->MO xs.toList ys.toList=some b->(Op.equal key (.agg xs) (.agg ys)).run P w=.ok b w
 chk:∀ (xs:Array Value)(e:Bool)(w:World),EK sh xs.toList=true->(Instr.checkKey e 10000 key (.agg xs)).run P w=.ok () w
 find:∀ (k:Value)(el:List MapEntry) (r:Option (Nat×Value)) (w:World),(Instr.findAsking key k el 0).run P w=.ok r w->(Instr.findKey key k el).run P w=.ok r w
theorem qJ {P:Program}{key:TypeId}{sh:List Bool}(h:av P key sh=true):∃ e,P.underlying key=some (.array 2 e)/\sh=[true,true]/\P.underlying e=some .string/\Ki P e=true/\∀ w,(sizeOf e).run P w=.ok 1 w:=by
 unfold av av.strQ at h
 split at h
 ·rename_i n e hu
  simp only[Bool.and_eq_true,beq_iff_eq]at h
  obtain⟨⟨rfl,rfl⟩,⟨h1,h2⟩,h3⟩:=h
  refine⟨e,hu,rfl,?_,h2,fun w=>?_⟩
  ·split at h1
   ·assumption
   ·cases h1
  ·split at h3
   ·rename_i i hi
    have h3:i.size=1:=by simpa using h3
    simp[sizeOf,typeInfo,hi,h3]
   ·cases h3
 ·cases h
theorem fB {v:Value}(h:Xu true v=true):∃ a,v=.string a:=by
 cases v<;>first | exact⟨_,rfl⟩ | (exfalso;simp[Xu]at h)
theorem V5 {xs:Array Value}(h:EK [true,true] xs.toList=true):∃ a b,xs=#[.string a,.string b]:=by
 obtain⟨l⟩:=xs
 match l,h with
 | [x,y],h =>
  simp only[EK,Bool.and_eq_true,Bool.and_true]at h
  obtain⟨a,rfl⟩:=fB h.1
  obtain⟨b,rfl⟩:=fB h.2
  exact⟨_,_,rfl⟩
 | [],h=>simp[EK]at h
 | [_],h=>simp[EK]at h
 | _::_::_::_,h=>simp[EK]at h
theorem lI {a:ByteArray}{y:Value}{b:Bool}(h:mi (.string a) y=some b):∃ c,y=.string c/\(a==c)=b:=by
 cases y<;>simp only[mi,reduceCtorEq,Option.some.injEq]at h
 exact⟨_,rfl,h⟩
theorem eV {P:Program}{key:TypeId}{sh:List Bool}(h:av P key sh=true):pE P key sh:=by
 obtain⟨e,hu,rfl,hs,hp,hz⟩:=qJ h
 have hE:∀ (a c:ByteArray)(w:World)(d:Nat),(Op.equalIn (d+1) e (.string a) (.string c)).run P w=.ok (a==c) w:=fun a c w d=>by
  rw[Op.equalIn];simp[run_underlying hs]
 refine⟨fun xs ys w b hk hc=>?_,fun xs em w hk=>?_,fun k el r w hf=>?_⟩
 ·obtain⟨a1,a2,rfl⟩:=V5 hk
  have g1:=BI hp (cs:=#[.string a1,.string a2]) (off:=0) (v:=.string a1) rfl w
  have g2:=BI hp (cs:=#[.string a1,.string a2]) (off:=1) (v:=.string a2) rfl w
  obtain⟨l⟩:=ys
  show (Op.equalIn (9998+1+1) key _ _).run P w=_
  rw[Op.equalIn]
  cases l with
  | nil=>simp[MO]at hc
  | cons y1 l =>
   simp only[MO]at hc
   cases he:mi (.string a1) y1 with
   | none=>rw[he]at hc;cases hc
   | some b1 =>
    rw[he]at hc
    obtain⟨c1,rfl,e1⟩:=lI he
    have k1:=BI hp (cs:=⟨.string c1::l⟩) (off:=0) (v:=.string c1) rfl w
    cases b1 with
    | false =>
     simp only[Option.some.injEq]at hc
     subst hc
     simp[run_underlying hu,hz,Std.Legacy.Range.forIn_eq_forIn_range',Std.Legacy.Range.size,List.range',g1,k1,hE,e1]
    | true =>
     cases l with
     | nil=>simp[MO]at hc
     | cons y2 l =>
      simp only[MO]at hc
      cases he2:mi (.string a2) y2 with
      | none=>rw[he2]at hc;cases hc
      | some b2 =>
       rw[he2]at hc
       obtain⟨c2,rfl,e2⟩:=lI he2
       have k1:=BI hp (cs:=⟨.string c1::.string c2::l⟩) (off:=0) (v:=.string c1) rfl w
       have k2:=BI hp (cs:=⟨.string c1::.string c2::l⟩) (off:=1) (v:=.string c2) rfl w
       cases b2 with
       | false =>
        simp only[Option.some.injEq]at hc
        subst hc
        simp[run_underlying hu,hz,Std.Legacy.Range.forIn_eq_forIn_range',Std.Legacy.Range.size,List.range',g1,g2,k1,k2,hE,e1,e2]
       | true =>
        cases l with
        | cons y3 l=>simp[MO]at hc
        | nil =>
         simp only[MO,Option.some.injEq]at hc
         subst hc
         simp[run_underlying hu,hz,Std.Legacy.Range.forIn_eq_forIn_range',Std.Legacy.Range.size,List.range',g1,g2,k1,k2,hE,e1,e2]
 ·obtain⟨a1,a2,rfl⟩:=V5 hk
  have g1:=BI hp (cs:=#[.string a1,.string a2]) (off:=0) (v:=.string a1) rfl w
  have g2:=BI hp (cs:=#[.string a1,.string a2]) (off:=1) (v:=.string a2) rfl w
  have hC:∀ (v:Value)(n:Nat),(Instr.checkKey em (n+1) e v).run P w=.ok () w:=fun v n=>MJ hs (.inr rfl) w n
  show (Instr.checkKey em (9998+1+1) key _).run P w=_
  rw[Instr.checkKey]
  simp[run_underlying hu,hz,Std.Legacy.Range.forIn_eq_forIn_range',Std.Legacy.Range.size,List.range',g1,g2,hC]
 ·cases el with
  | nil =>
   simp[Instr.findAsking]at hf
   simp[Instr.findKey,run_underlying hu,Instr.findNow,hf]
  | cons x el =>
   have:Instr.findNow (.array 2 e) k (x::el) 0=none:=by simp[Instr.findNow,Instr.sameNow]
   simp[Instr.findKey,run_underlying hu,this,hf]
def iH (P:Program)(t:TypeId)(sh:List Bool):Bool:=match P.underlying t with
 | some (.map key _)=>(match P.underlying key with
  | some (.struct fs)=>Mz P fs.toList sh 0&&!P.stoodInHeld key
  | _=>av P key sh)
 | _=>false
theorem Rf {P:Program}{e:Bool}{xs:Array Value}{w:World}{n:Nat}:∀ (l:List Field)(sh:List Bool)(i:Nat)(cx:List Value),Mz P l sh i=true->EK sh cx=true->(∀ j:Nat,cx[j]?=xs[i+j]?) ->
  (forIn l () fun f (_ : Unit) => if f.name = "_" then (pure (ForInStep.yield ()) : Sem _) else do
   let __do_lift <- part f.type xs f.offset
   Instr.checkKey e (n+1) f.type __do_lift
   pure (ForInStep.yield ())).run P w=.ok () w
 | [],sh,i,cx,hf,hk,hx=>by simp
 | f::l,sh,i,cx,hf,hk,hx=>by
  cases sh with
  | nil=>simp[Mz]at hf
  | cons s sh =>
   simp only[Mz,Bool.and_eq_true,bne_iff_ne,ne_eq,beq_iff_eq]at hf
   obtain⟨f1,f2,f3,f4,f5⟩:=hf
   cases cx with
   | nil=>simp[EK]at hk
   | cons u cx =>
    simp only[EK,Bool.and_eq_true]at hk
    have g1:xs[f.offset]?=some u:=by rw[f2];have:=hx 0;simpa using this.symm
    have p1:=BI f3 g1 w
    have hkd:∃ kd,P.underlying f.type=some kd/\((∃ j,kd=.int j)\/kd=.string):=by
     cases hu:P.underlying f.type with
     | none=>rw[hu]at f4;cases f4
     | some kd =>
      rw[hu]at f4
      cases kd<;>simp only[Bool.false_eq_true]at f4
      ·exact⟨_,rfl,.inl ⟨_,rfl⟩⟩
      ·exact⟨_,rfl,.inr rfl⟩
    obtain⟨kd,hu,hkk⟩:=hkd
    have q:=MJ (P:=P) hu hkk (e:=e) (v:=u) w n
    have ih:=Rf (P:=P) (e:=e) (w:=w) (n:=n) l sh (i+1) cx f5 hk.2 (fun j=>by have:=hx (j+1);rw[show i+1+j=i+(j+1) by omega];simpa using this)
    simp[f1,p1,q]
    exact ih
theorem YZ {P:Program}{key:TypeId}{fs:Array Field}{sh:List Bool}{xs:Array Value}{e:Bool}(hu:P.underlying key=some (.struct fs))(hf:Mz P fs.toList sh 0=true)(hk:EK sh xs.toList=true)(w:World):(Instr.checkKey e 10000 key (.agg xs)).run P w=.ok () w:=by
 show (Instr.checkKey e (9998+1+1) key (.agg xs)).run P w=.ok () w
 rw[Instr.checkKey]
 simp[run_underlying hu]
 rw[<-Array.forIn_toList]
 exact Rf fs.toList sh 0 xs.toList hf hk (by simp)
theorem bR {P:Program}{key:TypeId}{fs:Array Field}{k:Value}{el:List MapEntry}{r:Option (Nat×Value)}{w:World}(hu:P.underlying key=some (.struct fs))(h:(Instr.findAsking key k el 0).run P w=.ok r w):(Instr.findKey key k el).run P w=.ok r w:=by
 cases el with
 | nil =>
  simp[Instr.findAsking]at h
  simp[Instr.findKey,run_underlying hu,Instr.findNow,h]
 | cons e el =>
  have:Instr.findNow (.struct fs) k (e::el) 0=none:=by simp[Instr.findNow,Instr.sameNow]
  simp[Instr.findKey,run_underlying hu,this,h]
theorem Xn {P:Program}{key:TypeId}{fs:Array Field}{sh:List Bool}(hu:P.underlying key=some (.struct fs))(hf:Mz P fs.toList sh 0=true)(hst:P.stoodInHeld key=false):pE P key sh :=
 ⟨fun _ _ _ _ hk hc=>mX hu hst hf hk hc,fun _ _ w hk=>YZ hu hf hk w,fun _ _ _ _ h=>bR hu h⟩
theorem jT {P:Program}{t:TypeId}{sh:List Bool}(h:iH P t sh=true):∃ key elem,P.underlying t=some (.map key elem)/\pE P key sh:=by
 unfold iH at h
 split at h
 ·rename_i key elem hu
  split at h
  ·rename_i fs hk
   simp only[Bool.and_eq_true,Bool.not_eq_true']at h
   exact⟨key,elem,hu,Xn hk h.1 h.2⟩
  ·exact⟨key,elem,hu,eV h⟩
 ·cases h
theorem Mw {P:Program}{c:Cx}{key:TypeId}{sh:List Bool}(hK:pE P key sh){ks:List V}(hsh:RD sh ks=true){kv:Array Value}(hk:D2 c ks kv.toList)(w:World) :
  ∀ {es:List (V×V)} {el:List MapEntry} {n:Nat} {r:Option (Nat×V)},el.length=es.length ->
  (∀ (i:Nat)(p:V×V),es[i]?=some p->∃ e,el[i]?=some e/\BD c p.1 e.key/\BD c p.2 e.val)->Ny (.agg ks) es n=some r ->
  (r=none/\(Instr.findAsking key (.agg kv) el n).run P w=.ok none w)\/∃ j x v,r=some (n+j,x)/\(Instr.findAsking key (.agg kv) el n).run P w=.ok (some (n+j,v)) w/\BD c x v/\∃ p,es[j]?=some p/\OU (.agg ks) p.1=some true
 | [],[],n,r,_,_,h=>by
  simp only[Ny,Option.some.injEq]at h
  exact .inl ⟨h.symm,by simp[Instr.findAsking]⟩
 | [],_::_,_,_,hl,_,_=>by simp at hl
 | _::_,[],_,_,hl,_,_=>by simp at hl
 | p::es,e::el,n,r,hl,hr,h=>by
  obtain⟨e',h0,h1,h2⟩:=hr 0 p rfl
  simp at h0
  subst h0
  simp only[Ny]at h
  have hq:∀ b,OU (.agg ks) p.1=some b->(Op.equal key (.agg kv) e.key).run P w=.ok b w:=by
   intro b hs
   unfold OU at hs
   split at hs
   ·rename_i a b' heq1 heq2
    cases heq1
    rw[heq2]at h1
    obtain⟨vs,e1,h3,_⟩:=h1
    rw[e1]
    exact hK.eq _ _ _ _ (Ik hk hsh) (My hk h3 hs)
   ·cases hs
  split at h
  ·rename_i hs
   cases h
   right
   refine⟨0,p.2,e.val,rfl,?_,h2,p,rfl,hs⟩
   simp[Instr.findAsking,hq true hs]
  ·rename_i hs
   rcases Mw hK hsh hk w (es:=es) (el:=el) (n:=n+1) (by simpa using hl) (fun i q hq=>hr (i+1) q (by simpa using hq)) h with ⟨q1,q2⟩|⟨j,x,v,q1,q2,q3,q,q4,q5⟩
   ·exact .inl ⟨q1,by simp[Instr.findAsking,hq false hs,q2]⟩
   ·right
    refine⟨j+1,x,v,by rw[q1];congr 2;omega,?_,q3,q,by simpa using q4,q5⟩
    simp[Instr.findAsking,hq false hs,q2]
    omega
  ·cases h
theorem yS {u v:Value}{n:Nat}(h:mi u v=some true):Instr.sameBits n v u=true/\u=v:=by
 unfold mi at h
 split at h
 ·rename_i k a k' a'
  split at h
  ·rename_i hk
   subst hk
   simp only[Option.some.injEq,beq_iff_eq]at h
   subst h
   simp[Instr.sameBits]
  ·cases h
 ·rename_i a b
  obtain⟨⟨a⟩⟩:=a
  obtain⟨⟨b⟩⟩:=b
  simp only[Option.some.injEq,Yp,beq_iff_eq]at h
  subst h
  simp[Instr.sameBits,Yp]
 ·cases h
theorem yL:∀ {us vs:List Value},MO us vs=some true->us.length=vs.length/\us=vs/\∀ n,(vs.zip us).all (fun p=>Instr.sameBits n p.1 p.2)=true
 | [],[],_=>⟨rfl,rfl,fun _=>rfl⟩
 | [],_::_,h=>by simp[MO]at h
 | _::_,[],h=>by simp[MO]at h
 | u::us,v::vs,h=>by
  simp only[MO]at h
  cases he:mi u v with
  | none=>rw[he]at h;cases h
  | some b =>
   rw[he]at h
   cases b with
   | false=>cases h
   | true =>
    obtain⟨h1,h2,h3⟩:=yL h
    refine⟨by simp[h1],by rw[(yS (n:=0) he).2,h2],fun n=>?_⟩
    simp only[List.zip_cons_cons,List.all_cons,Bool.and_eq_true]
    exact⟨(yS he).1,h3 n⟩
theorem iu {c:Cx}{ks:List V}{q:V}{kv:Array Value}{qv:Value}(hk:D2 c ks kv.toList)(hq:BD c q qv)(h:OU (.agg ks) q=some true):Instr.sameBits 10000 qv (.agg kv)=true:=by
 unfold OU at h
 split at h
 ·rename_i a b' heq1
  cases heq1
  obtain⟨vs,rfl,h3,_⟩:=hq
  obtain⟨h1,_,h4⟩:=yL (My hk h3 h)
  show (vs.size==kv.size&&(vs.toList.zip kv.toList).all fun (x,y)=>Instr.sameBits 9999 x y)=true
  rw[Bool.and_eq_true]
  refine⟨by simpa using h1.symm,h4 9999⟩
 ·cases h
section
variable {P:Program} {c0:Cx} {N:Nat} {D:List Deferred} {o:Oper} {a:Act} {w:World} {t:T} {H:List Ob}
def AbH (P:Program)(t:TypeId)(sh:List Bool)(z:V):Bool:=iH P t sh&&(match P.underlying t with
 | some (.map _ elem)=>(match P.info? elem with | some i=>(match i.zero with | some v=>wu v z | none=>false) | none=>false)
 | _=>false)
theorem tL {d ty:Nat}{sh:List Bool}{ok:Bool}{z:V}{m k:O}{ym yk:Operand}{r:V}(hs:Sm c0 N D t H a w)(hd:o.dst=some d)(hn:d<N)(ho:o.op=.lookup ty ym yk ok)(hb:AbH P ty sh z=true)(hm:Bw ym m=true)(hk:Bw yk k=true)(hr:Rp H sh ok z (ev t m) (ev t k)=some r) :
  D0 P c0 N D o a w ((d,r)::t) H:=by
 simp only[AbH,Bool.and_eq_true]at hb
 obtain⟨hb1,hb2⟩:=hb
 obtain⟨key,elem,hu,hK⟩:=jT hb1
 rw[hu]at hb2
 simp only at hb2
 cases hi:P.info? elem with
 | none=>simp[hi]at hb2
 | some inf =>
 cases hz:inf.zero with
 | none=>simp[hi,hz]at hb2
 | some zv =>
 simp only[hi,hz]at hb2
 unfold Rp at hr
 split at hr
 case isFalse=>cases hr
 rename_i hks
 split at hr
 case h_2=>cases hr
 rename_i es hes
 split at hr
 case h_2=>cases hr
 rename_i f hf
 cases hr
 have fin:∀ (c:Cx) (fv:Option (Nat×Value)),((f=none/\fv=none)\/∃ j x v,f=some (j,x)/\fv=some (j,v)/\BD c x v)->BD c (N4 z ok f) (Kj zv ok fv):=by
  intro c fv h
  have hzr:=dv hb2 c
  rcases h with ⟨rfl,rfl⟩|⟨j,x,v,rfl,rfl,hx⟩
  ·cases ok
   ·exact hzr
   ·exact⟨_,rfl,_,_,rfl,hzr,_,_,rfl,rfl,rfl⟩
  ·cases ok
   ·exact hx
   ·exact⟨_,rfl,_,_,rfl,hx,_,_,rfl,rfl,rfl⟩
 have hzw:∀ w,(zeroValue elem).run P w=.ok zv w:=fun w=>by simp[zeroValue,typeInfo,hi,hz]
 obtain⟨_,_,c,h3,h4,h5,_,h7⟩:=id hs
 subst h3;subst h4
 have hkr:=At h7 hk
 cases hek:ev t k with
 | agg ks =>
  rw[hek]at hks hf hkr
  obtain⟨kv,hkv,hkl,_⟩:=hkr
  have hck:=fun e w=>hK.chk kv e w (Ik hkl hks)
  rcases Lu h5 (At h7 hm) hes with ⟨q1,q2⟩|⟨i,b,ents,q1,q2,q3,q4,q5,q6,q7⟩
  ·subst q2
   have hf':f=none:=by simpa[Ny]using hf.symm
   refine AP hs hd hn (v:=Kj zv ok none) ?_ fun c' _ _ _ _=>fin c' none (.inl ⟨hf',rfl⟩)
   have h1:(Instr.findKey key (.agg kv) []).run P c.w=.ok none c.w:=hK.find _ _ _ _ (by simp[Instr.findAsking])
   simp[execOp,ho,q1,hkv]
   cases ok<;>simp[Instr.lookup,run_underlying hu,hck,h1,hzw,Kj]
  ·obtain⟨l1,l2⟩:=KX q7
   have getf:∀ c',c'.w=c.w->c'.H=c.H->K4 N c' t a->B5 c'->∃ fv,(Instr.findAsking key (.agg kv) ents.toList 0).run P c.w=.ok fv c.w/\((f=none/\fv=none)\/∃ j x v,f=some (j,x)/\fv=some (j,v)/\BD c' x v):=by
    intro c' e1 e2 e3 e4
    have hes':DA c'.H (ev t m)=some es:=by rw[e2];exact hes
    rcases Lu e4 (At e3 hm) hes' with ⟨p1,p2⟩|⟨i',b',ents',p1,p2,p3,p4,p5,p6,p7⟩
    ·rw[q4]at p1;cases p1
    ·rw[q4]at p4;cases p4
     rw[e1,q5]at p5;cases p5
     obtain⟨l1',l2'⟩:=KX p7
     have hkr':=At e3 hk
     rw[hek]at hkr'
     obtain⟨kv',hkv',hkl',_⟩:=hkr'
     rw[hkv]at hkv';cases hkv'
     rcases Mw hK hks hkl' c.w l1' l2' hf with ⟨g1,g2⟩|⟨j,x,v,g1,g2,g3,_⟩
     ·exact⟨none,g2,.inl ⟨g1,rfl⟩⟩
     ·exact⟨some (0+j,v),g2,.inr ⟨0+j,x,v,g1,rfl,g3⟩⟩
   obtain⟨fv,f1,f2⟩:=getf c rfl rfl h7 h5
   have h1:=hK.find _ _ _ _ f1
   refine AP hs hd hn (v:=Kj zv ok fv) ?_ fun c' e1 e2 e3 e4=>?_
   ·simp[execOp,ho,q4,hkv]
    cases ok<;>cases fv<;>simp[Instr.lookup,run_underlying hu,hck,DS q5,h1,hzw,Kj]
   ·obtain⟨fv',f1',f2'⟩:=getf c' e1 e2 e3 e4
    rw[f1]at f1';cases f1'
    exact fin c' fv f2'
 | _=>rw[hek]at hks;simp[uy]at hks
def pd (P:Program)(t:TypeId):Bool:=match P.underlying t with | some (.map _ _)=>true | _=>false
theorem qc {d ty:Nat}{x:O}{y:Operand}{r:V}(hs:Sm c0 N D t H a w)(hd:o.dst=some d)(hn:d<N)(ho:o.op=.call { callee:=.builtin .len,args:=#[y],argTypes:=#[ty] })
  (hu:pd P ty=true) (hx:Bw y x=true) (hr:VF H (ev t x)=some r):D0 P c0 N D o a w ((d,r)::t) H:=by
 have hu':∃ k e,P.underlying ty=some (.map k e):=by
  unfold pd at hu
  split at hu
  ·exact⟨_,_,by assumption⟩
  ·cases hu
 obtain⟨k,e,hu⟩:=hu'
 unfold VF at hr
 rw[Option.map_eq_some_iff]at hr
 obtain⟨es,hes,rfl⟩:=hr
 obtain⟨_,_,c,h3,h4,h5,_,h7⟩:=id hs
 subst h3;subst h4
 refine AP hs hd hn (v:=.int .i64 es.length) ?_ (fun _ _ _ _ _=>rfl)
 rcases Lu h5 (At h7 hx) hes with ⟨q1,q2⟩|⟨i,b,ents,q1,q2,q3,q4,q5,q6,q7⟩
 ·subst q2
  simp[execOp,ho,resolve,invoke,builtin,Builtin.len_,run_underlying hu,q1,goInt]
 ·have hl:ents.size=es.length:=q7.1
  simp[execOp,ho,resolve,invoke,builtin,Builtin.len_,run_underlying hu,q4,goInt,DS q5,hl]
theorem rV {ty:Nat}{sh:List Bool}{m k x:O}{ym yk yx:Operand}{i:Nat}{es es':List (V×V)}(hs:Sm c0 N D t H a w)(hd:o.dst=none)(ho:o.op=.mapUpdate ty ym yk yx\/o.op=.insert ty ym yk yx)(hb:iH P ty sh=true)(hm:Bw ym m=true)(hk:Bw yk k=true)(hx:Bw yx x=true)
  (h1:ev t m=.map i) (h2:H[i]?=some (.map es)) (h3:uy sh (ev t k)=true) (h4:nu (ev t k) (ev t x) es=some es'):D0 P c0 N D o a w t (H.set i (.map es')):=by
 obtain⟨key,elem,hu,hK⟩:=jT hb
 obtain⟨s1,s2,c,s3,s4,s5,s6,s7⟩:=id hs
 subst s3;subst s4
 have hrm:=At s7 hm
 rw[h1]at hrm
 obtain⟨r1,r2,r3⟩:=hrm
 obtain⟨b,k0,q1,q2⟩:=r3 es h2
 obtain⟨b,ents,p1,p2,p3,p4⟩:=s5.obj i _ h2
 rw[p1]at q1;cases q1
 have hkr:=At s7 hk
 have hxr:=At s7 hx
 obtain⟨l1,l2⟩:=KX p4
 cases hek:ev t k with
 | agg ks =>
  rw[hek]at h3 h4 hkr
  have hkr':=hkr
  obtain⟨kv,hkv,hkl,_⟩:=hkr
  have hkinds:=Ik hkl h3
  have hck:=fun w=>hK.chk kv false w hkinds
  have fin:∀ (ents':Array MapEntry),(Instr.mapUpdate ty (.map (some b)) (a.eval yk) (a.eval yx)).run P c.w=.ok () { c.w with heap:=c.w.heap.setIfInBounds b (.map ents' es'.length) } ->
    (∀ c',(∀ x v,BD c x v->BD c' x v)->Ix c' es' ents')->D0 P c0 N D o a c.w t (c.H.set i (.map es')):=by
   intro ents' hrun hents
   have hext:CC (.map es) (.map es') (c.ρ i) (c.ρ i):=rfl
   have hf:=aL s5 h2 p1 p3 (.map ents' es'.length) hext
   refine⟨undef,{ c.w with heap:=c.w.heap.setIfInBounds b (.map ents' es'.length) },.inr ⟨rfl,?_⟩,?_⟩
   ·rcases ho with ho | ho<;>simp[execOp,ho,q2,hrun]
   ·rw[hd]
    refine⟨s1,s2,c.pt b (.map ents' es'.length) i (.map es'),rfl,rfl,Ty s5 h2 p1 p3 _ hext ?_,s6.trans hf,Ef hf s7⟩
    refine⟨b,ents',p1,?_,p3,hents _ fun x v h=>AW hf h⟩
    have hlt:=(Array.getElem?_eq_some_iff.1 p2).1
    simp[Cx.pt,hlt]
  unfold nu at h4
  split at h4
  ·rename_i j x0 hfm
   cases h4
   rcases Mw hK h3 hkl c.w l1 l2 hfm with ⟨g1,_⟩|⟨j',x1,v1,g1,g2,g3,p,g4,g5⟩
   ·cases g1
   ·simp only[Option.some.injEq,Prod.mk.injEq,Nat.zero_add]at g1
    obtain⟨rfl,rfl⟩:=g1
    obtain⟨e,w1,w2,w3,w4⟩:=p4.2 j p g4
    have hbits:=iu hkl w3 g5
    rw[Nat.zero_add]at g2
    refine fin (ents.modify j fun e=>{ e with key:=a.eval yk,val:=a.eval yx }) ?_ fun c' hc'=>⟨by simp[p4.1],fun n q hq=>?_⟩
    ·rw[List.length_set,hkv]
     have f1:=hK.find _ _ _ _ g2
     have f2:(Instr.keyThatStays e.key (.agg kv)).run P c.w=.ok (.agg kv) c.w:=by simp[Instr.keyThatStays,hbits]
     simp[Instr.mapUpdate,run_underlying hu,hck,DS p2,f1,w1,f2,OI _ p2]
    ·rw[List.getElem?_set]at hq
     by_cases hn:j=n
     ·subst hn
      have hlt:=(List.getElem?_eq_some_iff.1 g4).1
      simp only[if_true,hlt,Option.some.injEq]at hq
      subst hq
      refine⟨{ e with key:=a.eval yk,val:=a.eval yx },?_,w2,hc' _ _ hkr',hc' _ _ hxr⟩
      simp[Array.getElem?_modify,w1]
     ·simp only[hn,if_false]at hq
      obtain⟨e',y1,y2,y3,y4⟩:=p4.2 n q hq
      refine⟨e',?_,y2,hc' _ _ y3,hc' _ _ y4⟩
      simp[Array.getElem?_modify,hn,y1]
  ·rename_i hfm
   cases h4
   rcases Mw hK h3 hkl c.w l1 l2 hfm with ⟨_,g2⟩|⟨_,_,_,g1,_⟩
   ·refine fin (ents.push { key:=a.eval yk,val:=a.eval yx,born:=es.length }) ?_ fun c' hc'=>⟨by simp[p4.1],fun n q hq=>?_⟩
    ·rw[List.length_append,hkv]
     have f1:=hK.find _ _ _ _ g2
     simp[Instr.mapUpdate,run_underlying hu,hck,DS p2,f1,OI _ p2]
    ·by_cases hn:n<es.length
     ·rw[List.getElem?_append_left hn]at hq
      obtain⟨e',y1,y2,y3,y4⟩:=p4.2 n q hq
      refine⟨e',?_,y2,hc' _ _ y3,hc' _ _ y4⟩
      rw[Array.getElem?_push]
      rw[if_neg (by rw[p4.1];omega)]
      exact y1
     ·rw[List.getElem?_append_right (by omega)]at hq
      have hn':n=es.length:=by
       have:=(List.getElem?_eq_some_iff.1 hq).1
       simp at this;omega
      subst hn'
      simp at hq
      subst hq
      refine⟨{ key:=a.eval yk,val:=a.eval yx,born:=es.length },?_,rfl,hc' _ _ hkr',hc' _ _ hxr⟩
      rw[Array.getElem?_push]
      rw[if_pos p4.1.symm]
   ·cases g1
  ·cases h4
 | _=>rw[hek]at h3;simp[uy]at h3
end
end Go.Dw
end
section
namespace Go.Dw
def zZ (P:Program)(ty:TypeId)(sh:List Bool):Bool:=(match P.underlying ty with
 | some (.struct fs)=>Mz P fs.toList sh 0&&!P.stoodInHeld ty
 | _=>av P ty sh)&&!P.eqGuardType P.depth ty
section
variable {P:Program} {c0:Cx} {N:Nat} {D:List Deferred} {o:Oper} {a:Act} {w:World} {t:T} {H:List Ob}
theorem rG {d ty ty2:Nat}{neg:Bool}{sh:List Bool}{x y:O}{xo yo:Operand}{r:V}(hs:Sm c0 N D t H a w)(hd:o.dst=some d)(hn:d<N)(ho:o.op=.binOp (if neg then .neq else .eql) ty xo yo ty2)(hx:Bw xo x=true)(hy:Bw yo y=true)
  (hr:hX neg sh (ev t x) (ev t y)=some r) (hb:zZ P ty sh=true):D0 P c0 N D o a w ((d,r)::t) H:=by
 obtain⟨_,_,c,_,_,_,_,h7⟩:=id hs
 simp only[zZ,Bool.and_eq_true,Bool.not_eq_true']at hb
 obtain⟨hb1,hb2⟩:=hb
 have hK:pE P ty sh:=by
  split at hb1
  ·rename_i fs hu
   simp only[Bool.and_eq_true,Bool.not_eq_true']at hb1
   exact Xn hu hb1.1 hb1.2
  ·exact eV hb1
 have hrx:=At h7 hx
 have hry:=At h7 hy
 unfold hX at hr
 split at hr
 case isFalse=>cases hr
 rename_i hsh
 split at hr
 case h_2=>cases hr
 rename_i b hq
 cases hr
 cases hex:ev t x with
 | agg ks =>
  cases hey:ev t y with
  | agg qs =>
   rw[hex]at hrx hsh hq
   rw[hey]at hry hq
   obtain⟨us,e1,k1,_⟩:=hrx
   obtain⟨vs,e2,k2,_⟩:=hry
   have hE:=hK.eq us vs w b (Ik k1 hsh) (My k1 k2 hq)
   refine AP hs hd hn (v:=.bool (if neg then !b else b)) ?_ (fun c' _ _ _ _=>rfl)
   simp only[execOp,ho,e1,e2]
   cases neg<;>simp[eqGuard,program,Sem.run,hb2,binOp,hE]
  | _=>rw[hex,hey]at hq;simp[OU]at hq
 | _=>rw[hex]at hsh;simp[uy]at hsh
end
end Go.Dw
end
section
namespace Go.Dw
section
variable {P:Program} {c0:Cx} {N:Nat} {D:List Deferred} {o:Oper} {a:Act} {w:World} {t:T} {H:List Ob}
theorem yC {d k:Nat}{r x:V}{o:Oper}{v:Value}{w':World}(hs:Sm c0 N D t H a w)(hk:lk t k=.nil)(hd:o.dst=some d){H':List Ob}(h:Sm c0 N D ((d,r)::(k,x)::t) H' (a.put o.dst v) w'):Sm c0 N D ((d,r)::t) H' (a.put o.dst v) w':=by
 obtain⟨g1,g2,c,rfl,rfl,hc,hf0,h7⟩:=h
 obtain⟨_,_,c1,_,_,_,_,h8⟩:=hs
 refine⟨g1,g2,c,rfl,rfl,hc,hf0,fun s y hy=>?_⟩
 by_cases e1:d=s
 ·subst e1
  exact h7 d y (by simpa[find]using hy)
 ·have hy':find t s=some y:=by simpa[find,e1]using hy
  by_cases e2:k=s
  ·subst e2
   have hlk:y=.nil:=by unfold lk at hk;rw[hy']at hk;simpa using hk
   subst hlk
   have h9:=h8 k _ hy'
   refine⟨h9.1,?_⟩
   have h10:a.tmps.getD k undef=.slice none 0 0:=h9.2
   show (a.put o.dst v).tmps.getD k undef=.slice none 0 0
   rw[hd]
   simp only[Act.put]
   rw[<-h10]
   simp[Array.getD_eq_getD_getElem?,Array.getElem?_setIfInBounds,e1]
  ·exact h7 s y (by simp[find,e1,e2,hy'])
theorem qn {d ty e sz bytes k:Nat}{y:O}{xo yo:Operand}{v:V}{H':List Ob}(hs:Sm c0 N D t H a w)(hd:o.dst=some d)(hn:d<N)(ho:o.op=.call { callee:=.builtin .append,args:=#[xo,yo],argTypes:=#[ty,ty] })
  (hsl:Ra P ty e=true) (hsz:DH P e sz=true) (hb:M4 P e bytes=true) (hb0:0<bytes) (hx:Bw xo (.s k)=true) (hy:Bw yo y=true) (hk:lk t k=.nil) (hyk:∀ n,y=.s n->n≠k)
  (hap:Pb (H++[.arr e sz 0]) e sz bytes (.own H.length sz []) (ev t y)=some (v,H')):D0 P c0 N D o a w ((d,v)::t) H':=by
 have hs1:=ji (e:=e) (sz:=sz) hs hk
 have hev:ev ((k,V.own H.length sz [])::t) y=ev t y:=by
  cases y with
  | s n=>have:=hyk n rfl;simp[ev,lk,find,Ne.symm this]
  | c v=>rfl
  | f g=>rfl
 have hek:ev ((k,V.own H.length sz [])::t) (.s k)=.own H.length sz []:=by simp[ev,lk,find]
 unfold Pb at hap
 split at hap
 case h_2=>cases hap
 rename_i i sz1 els new heq hel
 cases heq
 split at hap
 case h_2=>cases hap
 rename_i e' sz' n hH
 split at hap
 case isFalse=>cases hap
 rename_i hc
 obtain⟨c1,c2,c3,c4,c5,c6⟩:=hc
 subst c2;subst c3
 cases hap
 obtain⟨v,w',h1,h2⟩:=WD hs1 hd hn ho hsl hsz hb hb0 hx hy hek (by rw[hev];exact hel) hH c4 c5 c6
 exact⟨v,w',h1,yC hs hk hd h2⟩
end
end Go.Dw
end
section
namespace Go.Dw
section
variable {P:Program} {c0:Cx} {N:Nat} {D:List Deferred} {o:Oper} {a:Act} {w:World} {t:T} {H:List Ob}
theorem wm {d ty e sz bytes:Nat}{z:List V}{x:O}{xl xc:Operand}{k:IntKind}{n:Int}(hs:Sm c0 N D t H a w)(hd:o.dst=some d)(hn:d<N)(ho:o.op=.makeSlice ty xl xc)
  (hsl:Ra P ty e=true) (hz:Sy P e z=true) (hzl:z.length=sz) (hb:M4 P e bytes=true) (hx:Bw xl x=true) (hy:Bw xc x=true) (hev:ev t x=.int k n) (h0:0<=n) (hm:n.toNat<=Ah) (hm2:n.toNat*bytes<=Ah) :
  D0 P c0 N D o a w ((d,.rw H.length sz n.toNat)::t) (H++[.row e sz (List.replicate n.toNat z)]):=by
 have hu:=O1 hsl
 have hl:a.eval xl=.int k n:=by
  obtain⟨c,_,_,_,_,h⟩:=Jq hs hx
  rw[hev]at h;exact h
 have hc:a.eval xc=.int k n:=by
  obtain⟨c,_,_,_,_,h⟩:=Jq hs hy
  rw[hev]at h;exact h
 unfold Sy at hz
 unfold M4 at hb
 cases hi:P.info? e with
 | none=>simp[hi]at hz
 | some i =>
  cases hv:i.zero with
  | none=>simp[hi,hv]at hz
  | some v =>
   simp only[hi,hv,Bool.and_eq_true,beq_iff_eq]at hz hb
   obtain⟨hz1,hz2⟩:=hz
   obtain⟨hb1,_⟩:=hb
   have hsz:i.size=sz:=by rw[hz2,hzl]
   have hvs:v.cells.size=sz:=by
    have:=C1 (NV hz1 (c:=⟨w,fun _ _=>False,fun _=>none,[]⟩)).1
    simp at this;omega
   unfold Ah at hm hm2
   have h1:((n.toNat*bytes:Nat):Int)<=140737488355328:=Int.ofNat_le.2 hm2
   rw[Int.natCast_mul,Int.toNat_of_nonneg h0,Int.mul_comm]at h1
   have hrun:=run_make (P:=P) w ty e i v hu hi hv k k n n h0 (Int.le_refl _) (by rw[hb1];omega) (by omega)
   refine⟨.slice (some ⟨w.heap.size,0,none⟩) n.toNat n.toNat,w.alloc (.cells (madeCells v.cells (n.toNat*i.size)) e),.inl ?_,?_⟩
   ·simp[execOp,ho,hl,hc,hrun]
   ·rw[hd]
    refine O6 hs hn fun c h3 h4 h5 _=>?_
    obtain⟨q1,q2⟩:=NV hz1 (c:=c)
    subst h3 h4
    have hf:=HQ h5 (.cells (madeCells v.cells (n.toNat*i.size)) e (0,0)) (.row e sz (List.replicate n.toNat z)) n.toNat fun _=>False
    refine⟨c.addOwn (.cells (madeCells v.cells (n.toNat*i.size)) e (0,0)) (.row e sz (List.replicate n.toNat z)) n.toNat fun _=>False,rfl,rfl,HI h5 _ _ _ _ ⟨fun h=>by simp at h,fun b k' h=>?_⟩,hf,?_⟩
    ·simp only[Option.some.injEq,Prod.mk.injEq]at h
     obtain⟨rfl,rfl⟩:=h
     refine⟨_,heap_alloc_new _ _,by simp[madeCells,hsz],by simp,by unfold C0;omega,fun o ho=>?_,fun j el hj=>?_⟩
     ·exact absurd (h5.okLt _ _ (ho.resolve_right (by simp))) (Nat.lt_irrefl _)
     ·rw[List.getElem?_replicate]at hj
      split at hj
      case isFalse=>cases hj
      rename_i hjn
      cases hj
      refine⟨hzl,fun l y hy=>?_⟩
      have hll:l<sz:=by rw[<-hzl];exact (List.getElem?_eq_some_iff.1 hy).1
      obtain⟨u,r1,r2⟩:=Fx q1 hy
      refine⟨u,?_,q2 u (List.mem_of_getElem? r1),AW hf r2⟩
      have hlt:j*sz+l<n.toNat*i.size:=by
       rw[hsz]
       have:(j+1)*sz<=n.toNat*sz:=Nat.mul_le_mul_right _ hjn
       rw[Nat.succ_mul]at this;omega
      simp only[madeCells,Array.getElem?_map,Array.getElem?_range,hlt,if_true,Option.map_some]
      rw[hvs,Nat.mul_comm j sz,Nat.mul_add_mod,Nat.mod_eq_of_lt hll]
      have:v.cells[l]?=some u:=by simpa using r1
      simp[getElem!_def,this]
    ·refine⟨by simp[Cx.addOwn],⟨_,_,rfl,by unfold Ah;omega,.inr ⟨_,_,rfl⟩⟩,fun e' sz' els h=>?_⟩
     simp only[Cx.addOwn,List.getElem?_concat_length,Option.some.injEq,Ob.row.injEq]at h
     obtain⟨_,rfl,rfl⟩:=h
     exact⟨rfl,by simp,fun _=>by simp only[Cx.addOwn,Av];rfl⟩
end
end Go.Dw
end
namespace Go.Dw
def Rg (P:Program)(t:Nat):Option Nat:=match P.underlying t with
 | some (.slice e)=>some e
 | _=>none
def aU (P:Program)(t:Nat):Bool:=match P.underlying t with
 | some .string=>true
 | _=>false
def sg (P:Program)(t:Nat):Bool:=match P.underlying t with
 | some .bool=>true
 | _=>false
def u8B (P:Program)(t:Nat):Bool:=match P.underlying t with
 | some (.int .u8)=>true
 | _=>false
def Abn (P:Program)(t:Nat)(k:IntKind):Bool:=match P.underlying t with
 | some (.int k')=>k'==k
 | _=>false
theorem Qi {P t e}(h:Rg P t=some e):P.underlying t=some (.slice e):=by
 unfold Rg at h
 split at h
 ·rename_i e' hu;cases h;exact hu
 ·cases h
theorem S6 {P t e}(h:Rg P t=some e):Ra P t e=true:=by simp[Ra,Qi h]
theorem OD {P t}(h:aU P t=true):P.underlying t=some .string:=by
 unfold aU at h
 split at h
 ·assumption
 ·cases h
theorem oZ {P t}(h:sg P t=true):P.underlying t=some .bool:=by
 unfold sg at h
 split at h
 ·assumption
 ·cases h
theorem tx {P t}(h:u8B P t=true):P.underlying t=some (.int .u8):=by
 unfold u8B at h
 split at h
 ·assumption
 ·cases h
theorem xW {P t k}(h:Abn P t k=true):P.underlying t=some (.int k):=by
 unfold Abn at h
 split at h
 ·rename_i k' hu
  have:k'=k:=by simpa using h
  subst this;exact hu
 ·cases h
theorem qG {H:List Ob}{v r:V}(h:ZO [] v=some r):ZO H v=some r:=by
 cases v<;>simp[ZO]at h ⊢<;>exact h
theorem tv {k:Nat}{H:List Ob}{v r:V}(h:Zc k [] v=some r):Zc k H v=some r:=by
 cases v<;>simp[Zc]at h ⊢<;>exact h
theorem pB {k:Nat}{H:List Ob}{v r:V}(h:TL k [] v=some r):TL k H v=some r:=by
 cases v<;>simp[TL]at h ⊢<;>exact h
def wb:List Operand->List O->Bool
 | [],[]=>true
 | y::ys,x::xs=>Bw y x&&wb ys xs
 | _,_=>false
def wM (P:Program)(N:Nat)(o:Oper)(i:I):Bool :=
 match i with
 | .mv d x=>match o.op,o.dst with
  | .move y,some d'=>d==d'&&decide (d<N)&&Bw y x
  | .assign y,some d'=>d==d'&&decide (d<N)&&Bw y x
  | _,_=>false
 | .pick d c a b=>match o.op,o.dst with
  | .pick yc ya yb,some d'=>d==d'&&decide (d<N)&&Bw yc c&&Bw ya a&&Bw yb b
  | _,_=>false
 | .al d e z=>match o.op,o.dst with
  | .alloc e',some d'=>d==d'&&decide (d<N)&&e==e'&&Sy P e z
  | _,_=>false
 | .bx d e x=>match o.op,o.dst with
  | .box e' y,some d'=>d==d'&&decide (d<N)&&e==e'&&Bw y x
  | _,_=>false
 | .br d e x=>match o.op,o.dst with
  | .box e' y,some d'=>d==d'&&decide (d<N)&&e==e'&&Bw y x
  | _,_=>false
 | .sf d k x=>match o.op,o.dst with
  | .store ty (.tmp d') y,none=>d==d'&&decide (d<N)&&DH P ty k&&Bw y x
  | _,_=>false
 | .ld d x=>match o.op,o.dst with
  | .load ty y,some d'=>d==d'&&decide (d<N)&&Ki P ty&&Bw y x
  | _,_=>false
 | .ldr d x=>match o.op,o.dst with
  | .load ty y,some d'=>d==d'&&decide (d<N)&&Ki P ty&&Bw y x
  | _,_=>false
 | .lar d k x=>match o.op,o.dst with
  | .load ty y,some d'=>d==d'&&decide (d<N)&&bV P ty&&DH P ty k&&Bw y x
  | _,_=>false
 | .far d off x=>match o.op,o.dst with
  | .fieldAddr ty y f,some d'=>d==d'&&decide (d<N)&&bM P ty f off&&Bw y x
  | _,_=>false
 | .la d k x=>match o.op,o.dst with
  | .load ty y,some d'=>d==d'&&decide (d<N)&&bV P ty&&DH P ty k&&Bw y x
  | _,_=>false
 | .st k a x=>match o.op,o.dst with
  | .store ty y z,none=>DH P ty k&&Bw y a&&Bw z x
  | _,_=>false
 | .fa d off x=>match o.op,o.dst with
  | .fieldAddr ty y f,some d'=>d==d'&&decide (d<N)&&bM P ty f off&&Bw y x
  | _,_=>false
 | .mk d e sz bytes z x=>match o.op,o.dst with
  | .makeSlice ty xl xc,some d'=>d==d'&&decide (d<N)&&Ra P ty e&&Sy P e z&&z.length==sz&&M4 P e bytes&&Bw xl x&&Bw xc x
  | _,_=>false
 | .mkm d=>match o.op,o.dst with
  | .makeMap _ none,some d'=>d==d'&&decide (d<N)
  | _,_=>false
 | .lkp d ks ok z m k=>match o.op,o.dst with
  | .lookup ty ym yk ok',some d'=>d==d'&&decide (d<N)&&ok==ok'&&si P ty ks z&&Bw ym m&&Bw yk k
  | _,_=>false
 | .lnm d m=>match o.op,o.dst with
  | .call { callee:=.builtin .len,args:=⟨[y]⟩,argTypes:=⟨[ty]⟩ },some d'=>d==d'&&decide (d<N)&&pd P ty&&Bw y m
  | _,_=>false
 | .lkq d sh ok z m k=>match o.op,o.dst with
  | .lookup ty ym yk ok',some d'=>d==d'&&decide (d<N)&&ok==ok'&&AbH P ty sh z&&Bw ym m&&Bw yk k
  | _,_=>false
 | .iaa d sz n x i=>match o.op,o.dst with
  | .indexAddr ty y z,some d'=>d==d'&&decide (d<N)&&kG P ty n (sE P ty)&&DH P (sE P ty) sz&&Bw y x&&Bw z i
  | _,_=>false
 | .mup ks m k x=>match o.op,o.dst with
  | .mapUpdate ty ym yk yx,none=>Abz P ty ks&&Bw ym m&&Bw yk k&&Bw yx x
  | _,_=>false
 | .muq sh m k x=>match o.op,o.dst with
  | .mapUpdate ty ym yk yx,none=>iH P ty sh&&Bw ym m&&Bw yk k&&Bw yx x
  | .insert ty ym yk yx,none=>iH P ty sh&&Bw ym m&&Bw yk k&&Bw yx x
  | _,_=>false
 | .eqs d neg sh x y=>match o.op,o.dst with
  | .binOp op ty xo yo _,some d'=>d==d'&&decide (d<N)&&(if neg then op matches .neq else op matches .eql)&&zZ P ty sh&&Bw xo x&&Bw yo y
  | _,_=>false
 | .rg d m=>match o.op,o.dst with
  | .range ty ym,some d'=>d==d'&&decide (d<N)&&pH P ty&&Bw ym m
  | _,_=>false
 | .en d x=>match o.op,o.dst with
  | .entry y,some d'=>d==d'&&decide (d<N)&&Bw y x
  | _,_=>false
 | .nc d x=>match o.op,o.dst with
  | .nilCheck y,some d'=>d==d'&&decide (d<N)&&Bw y x
  | _,_=>false
 | .fd d off k x=>match o.op,o.dst with
  | .field ty y f,some d'=>d==d'&&decide (d<N)&&zN P ty f off k&&Bw y x
  | _,_=>false
 | .bd d z ps=>match o.op,o.dst with
  | .build ty ys,some d'=>d==d'&&decide (d<N)&&Sy P ty z&&(match cd P ty with | some pl=>okP pl ys.toList ps | none=>false)
  | _,_=>false
 | .bs d sz xs=>match o.op,o.dst with
  | .buildSlice ty L ys,some d'=>d==d'&&decide (d<N)&&(match Rg P ty with | some e=>sliceB P ty e sz | none=>false)&&decide (L*sz<=2^24)&&decide (L<=2^24)&&ut ys.toList xs 0&&xs.length==L
  | _,_=>false
 | .bo d e sz xs=>match o.op,o.dst with
  | .buildSlice ty L ys,some d'=>d==d'&&decide (d<N)&&sliceB P ty e sz&&decide (L*sz<=2^24)&&decide (L<=2^24)&&ut ys.toList xs 0&&xs.length==L
  | _,_=>false
 | .bin d op x y=>match o.op,o.dst with
  | .binOp op' ty xo yo _,some d'=>d==d'&&decide (d<N)&&op==op'&&Bw xo x&&Bw yo y
  | _,_=>false
 | .bb d op x y=>match o.op,o.dst with
  | .binOp op' ty xo yo _,some d'=>d==d'&&decide (d<N)&&op==op'&&Bw xo x&&Bw yo y&&sg P ty
  | _,_=>false
 | .sh d op x y=>match o.op,o.dst with
  | .binOp op' ty xo yo _,some d'=>d==d'&&decide (d<N)&&op==op'&&Bw xo x&&Bw yo y
  | _,_=>false
 | .un d op x=>match o.op,o.dst with
  | .unOp op' ty y,some d'=>d==d'&&decide (d<N)&&op==op'&&Bw y x
  | _,_=>false
 | .cvi d k x=>match o.op,o.dst with
  | .convert ty ty2 y,some d'=>d==d'&&decide (d<N)&&Abn P ty2 k&&(P.underlying ty).isSome&&Bw y x
  | _,_=>false
 | .cvs d x=>match o.op,o.dst with
  | .convert ty ty2 y,some d'=>d==d'&&decide (d<N)&&aU P ty&&aU P ty2&&Bw y x
  | _,_=>false
 | .s2b d x=>match o.op,o.dst with
  | .convert ty ty2 y,some d'=>d==d'&&decide (d<N)&&aU P ty&&(match Rg P ty2 with | some e=>u8B P e | none=>false)&&Bw y x
  | _,_=>false
 | .b2s d x=>match o.op,o.dst with
  | .convert ty ty2 y,some d'=>d==d'&&decide (d<N)&&aU P ty2&&(match Rg P ty with | some e=>u8B P e | none=>false)&&Bw y x
  | _,_=>false
 | .mf d g fst caps=>match o.op,o.dst with
  | .makeFunc (.func g') yf yc,some d'=>d==d'&&decide (d<N)&&g==g'&&(yf.toList.zip fst).all (fun p=>Bw p.1 p.2)&&yf.size==fst.length&&(yc.toList.zip caps).all (fun p=>Bw p.1 p.2)&&yc.size==caps.length
  | _,_=>false
 | .len d x=>match o.op,o.dst with
  | .call { callee:=.builtin .len,args:=⟨[y]⟩,argTypes:=⟨[ty]⟩ },some d'=>d==d'&&decide (d<N)&&(Rg P ty).isSome&&Bw y x
  | _,_=>false
 | .lens d x=>match o.op,o.dst with
  | .call { callee:=.builtin .len,args:=⟨[y]⟩,argTypes:=⟨[ty]⟩ },some d'=>d==d'&&decide (d<N)&&aU P ty&&Bw y x
  | _,_=>false
 | .ia d sz x i=>match o.op,o.dst with
  | .indexAddr ty y z,some d'=>d==d'&&decide (d<N)&&(match Rg P ty with | some e=>DH P e sz | none=>false)&&Bw y x&&Bw z i
  | _,_=>false
 | .ix d x i=>match o.op,o.dst with
  | .index ty y z,some d'=>d==d'&&decide (d<N)&&aU P ty&&Bw y x&&Bw z i
  | _,_=>false
 | .ixa d sz n k x i=>match o.op,o.dst with
  | .index ty y z,some d'=>d==d'&&decide (d<N)&&kG P ty n (sE P ty)&&DH P (sE P ty) sz&&eu P (sE P ty) k&&Bw y x&&Bw z i
  | _,_=>false
 | .sx d sz x lo hi=>match o.op,o.dst with
  | .slice ty y l h none,some d'=>d==d'&&decide (d<N)&&(match Rg P ty with | some e=>DH P e sz | none=>false)&&Bw y x&&Un l lo&&Un h hi
  | _,_=>false
 | .sxs d x lo hi=>match o.op,o.dst with
  | .slice ty y l h none,some d'=>d==d'&&decide (d<N)&&aU P ty&&Bw y x&&Un l lo&&Un h hi
  | _,_=>false
 | .ex d x i=>match o.op,o.dst with
  | .extract y i',some d'=>d==d'&&decide (d<N)&&i==i'&&Bw y x
  | _,_=>false
 | .app d e sz bytes x y=>match o.op,o.dst with
  | .call { callee:=.builtin .append,args:=⟨[xo,yo]⟩,argTypes:=⟨[ty,ty']⟩ },some d'=>d==d'&&decide (d<N)&&ty==ty'&&Ra P ty e&&DH P e sz&&M4 P e bytes&&decide (0<bytes)&&Bw xo x&&Bw yo y
  | _,_=>false
 | .apz d e sz bytes k y=>match o.op,o.dst with
  | .call { callee:=.builtin .append,args:=⟨[xo,yo]⟩,argTypes:=⟨[ty,ty']⟩ },some d'=>d==d'&&decide (d<N)&&ty==ty'&&Ra P ty e&&DH P e sz&&M4 P e bytes&&decide (0<bytes)&&Bw xo (.s k)&&Bw yo y&&(match y with | .s n=>n != k | _=>true)
  | _,_=>false
 | .apr d e sz bytes x y=>match o.op,o.dst with
  | .call { callee:=.builtin .append,args:=⟨[xo,yo]⟩,argTypes:=⟨[ty,ty']⟩ },some d'=>d==d'&&decide (d<N)&&ty==ty'&&Ra P ty e&&DH P e sz&&M4 P e bytes&&decide (0<bytes)&&Bw xo x&&Bw yo y
  | _,_=>false
 | .mx d x y=>match o.op,o.dst with
  | .call { callee:=.builtin .max,args:=⟨[xo,yo]⟩,argTypes:=⟨[_,_]⟩ },some d'=>d==d'&&decide (d<N)&&Bw xo x&&Bw yo y
  | _,_=>false
 | .mn d x y=>match o.op,o.dst with
  | .call { callee:=.builtin .min,args:=⟨[xo,yo]⟩,argTypes:=⟨[_,_]⟩ },some d'=>d==d'&&decide (d<N)&&Bw xo x&&Bw yo y
  | _,_=>false
 | .noz .. | .kt .. | .kk .. | .non .. | .ono .. | .ks .. | .rnon .. | .rono .. | .frz .. | .e2r .. | .frc ..=>false
theorem vt {P:Program}{c0:Cx}{N:Nat}{D:List Deferred}{o:Oper}{a:Act}{w:World}{t:T}{H:List Ob}{d:Nat}{x:O}{y:Operand}{r:V}(hs:Sm c0 N D t H a w)(hd:o.dst=some d)(hn:d<N)(ho:o.op=.nilCheck y)(hx:Bw y x=true)(hr:lf H (ev t x)=some r) :
  D0 P c0 N D o a w ((d,r)::t) H:=by
 obtain⟨_,_,c,h3,h4,h5,_,h7⟩:=id hs
 have hrep:=At h7 hx
 have hv:(∃ b,a.eval y=.pointer (some b))/\r=ev t x:=by
  cases hp:ev t x<;>rw[hp]at hr hrep<;>simp only[lf,reduceCtorEq]at hr
  case ro cs off =>
   cases hr
   obtain⟨b,o2,q1,q2⟩:=hrep
   exact⟨⟨_,q1⟩,rfl⟩
  case ptr i off =>
   split at hr
   case h_2=>cases hr
   rename_i e cs hi
   cases hr
   obtain⟨_,_,q3⟩:=hrep
   obtain⟨b,k,_,q4⟩:=q3 e cs (h4▸hi)
   exact⟨⟨_,q4⟩,rfl⟩
  case rp i n k off =>
   cases hr
   obtain⟨_,⟨b,o2,q4⟩,_⟩:=hrep
   exact⟨⟨_,q4⟩,rfl⟩
 obtain⟨⟨b,hv⟩,rfl⟩:=hv
 refine AP hs hd hn (v:=a.eval y) ?_ (fun c _ _ ht _=>At ht hx)
 simp[execOp,ho,hv]
theorem B7 {d:Nat}{r:Option V}{t t':T}{H H':List Ob}(h:AX d r t H=some (t',H')):∃ v,r=some v/\t'=(d,v)::t/\H'=H:=by
 unfold AX at h
 split at h
 ·cases h;exact⟨_,rfl,rfl,rfl⟩
 ·cases h
theorem DL {d:Nat}{r:Option (V×List Ob)}{t t':T}{H':List Ob}(h:Qr d r t=some (t',H')):∃ v H2,r=some (v,H2)/\(d,v)::t=t'/\H2=H':=by
 unfold Qr at h
 split at h
 ·cases h;exact⟨_,_,rfl,rfl,rfl⟩
 ·cases h
theorem eQ {P:Program}{c0:Cx}{N:Nat}{D:List Deferred}{o:Oper}{a:Act}{w:World}{t t':T}{H H':List Ob}{B:Nat}{i:I}(hok:wM P N o i=true)(he:Az B i t H=some (t',H'))(hs:Sm c0 N D t H a w):D0 P c0 N D o a w t' H':=by
 cases i<;>simp only[wM,Bool.false_eq_true]at hok<;>simp only[Az]at he
 case mv d x =>
  cases he
  split at hok
  ·rename_i y d' h1 h2
   simp only[Bool.and_eq_true,beq_iff_eq,decide_eq_true_eq]at hok
   obtain⟨⟨rfl,hd⟩,hx⟩:=hok
   exact kQ hs h2 hd (.inl h1) hx
  ·rename_i y d' h1 h2
   simp only[Bool.and_eq_true,beq_iff_eq,decide_eq_true_eq]at hok
   obtain⟨⟨rfl,hd⟩,hx⟩:=hok
   exact kQ hs h2 hd (.inr h1) hx
  ·cases hok
 case pick d c x y =>
  split at he
  case h_2=>cases he
  rename_i cb hcb
  cases he
  split at hok
  case h_2=>cases hok
  rename_i yc ya yb d' h1 h2
  simp only[Bool.and_eq_true,beq_iff_eq,decide_eq_true_eq]at hok
  obtain⟨⟨⟨⟨rfl,hd⟩,q1⟩,q2⟩,q3⟩:=hok
  exact oe hs h2 hd h1 q1 q2 q3 hcb
 case al d e z =>
  split at hok
  case h_2=>cases hok
  rename_i e' d' h1 h2
  simp only[Bool.and_eq_true,beq_iff_eq,decide_eq_true_eq]at hok
  obtain⟨⟨⟨rfl,hd⟩,rfl⟩,hz⟩:=hok
  cases he
  exact wL hs h2 hd h1 hz
 case bx d e x =>
  split at hok
  case h_2=>cases hok
  rename_i e' y d' h1 h2
  simp only[Bool.and_eq_true,beq_iff_eq,decide_eq_true_eq]at hok
  obtain⟨⟨⟨rfl,hd⟩,rfl⟩,hx⟩:=hok
  split at he
  case h_2=>cases he
  rename_i cs hcs
  cases he
  exact wa hs h2 hd h1 hx hcs
 case br d e x =>
  split at hok
  case h_2=>cases hok
  rename_i e' y d' h1 h2
  simp only[Bool.and_eq_true,beq_iff_eq,decide_eq_true_eq]at hok
  obtain⟨⟨⟨rfl,hd⟩,rfl⟩,hx⟩:=hok
  split at he
  case h_2=>cases he
  rename_i cs hcs
  cases he
  exact yv hs h2 hd h1 hx hcs
 case sf d k x =>
  split at hok
  case h_2=>cases hok
  rename_i ty d' y h1 h2
  simp only[Bool.and_eq_true,beq_iff_eq,decide_eq_true_eq]at hok
  obtain⟨⟨⟨rfl,hd⟩,hk⟩,hx⟩:=hok
  split at he
  case h_2=>cases he
  rename_i i hp
  split at he
  case h_2=>cases he
  rename_i e cs hH
  split at he
  case h_2=>cases he
  rename_i new hn
  split at he
  case isFalse=>cases he
  rename_i hc
  cases he
  exact yH hs hd h2 h1 hk hx hp hH hn hc.1 hc.2
 case ld d x =>
  split at hok
  case h_2=>cases hok
  rename_i ty y d' h1 h2
  simp only[Bool.and_eq_true,beq_iff_eq,decide_eq_true_eq]at hok
  obtain⟨⟨⟨rfl,hd⟩,hp⟩,hx⟩:=hok
  obtain⟨v,hr,rfl,rfl⟩:=B7 he
  exact lD hs h2 hd h1 hp hx hr
 case ldr d x =>
  split at hok
  case h_2=>cases hok
  rename_i ty y d' h1 h2
  simp only[Bool.and_eq_true,beq_iff_eq,decide_eq_true_eq]at hok
  obtain⟨⟨⟨rfl,hd⟩,hp⟩,hx⟩:=hok
  obtain⟨v,hr,rfl,rfl⟩:=B7 he
  exact lD hs h2 hd h1 hp hx (qG hr)
 case lar d k x =>
  split at hok
  case h_2=>cases hok
  rename_i ty y d' h1 h2
  simp only[Bool.and_eq_true,beq_iff_eq,decide_eq_true_eq]at hok
  obtain⟨⟨⟨⟨rfl,hd⟩,hp⟩,hk⟩,hx⟩:=hok
  obtain⟨v,hr,rfl,rfl⟩:=B7 he
  exact kc hs h2 hd h1 hp hk hx (tv hr)
 case far d off x =>
  split at hok
  case h_2=>cases hok
  rename_i ty y f d' h1 h2
  simp only[Bool.and_eq_true,beq_iff_eq,decide_eq_true_eq]at hok
  obtain⟨⟨⟨rfl,hd⟩,hf⟩,hx⟩:=hok
  obtain⟨v,hr,rfl,rfl⟩:=B7 he
  exact ku hs h2 hd h1 hf hx (pB hr)
 case la d k x =>
  split at hok
  case h_2=>cases hok
  rename_i ty y d' h1 h2
  simp only[Bool.and_eq_true,beq_iff_eq,decide_eq_true_eq]at hok
  obtain⟨⟨⟨⟨rfl,hd⟩,hp⟩,hk⟩,hx⟩:=hok
  obtain⟨v,hr,rfl,rfl⟩:=B7 he
  exact kc hs h2 hd h1 hp hk hx hr
 case st k x y =>
  split at hok
  case h_2=>cases hok
  rename_i ty xo yo h1 h2
  simp only[Bool.and_eq_true,beq_iff_eq,decide_eq_true_eq]at hok
  obtain⟨⟨hk,hx⟩,hy⟩:=hok
  split at he
  case h_3=>cases he
  case h_2 =>
   rename_i i n j off hp
   split at he
   case h_2=>cases he
   rename_i e sz els hH
   split at he
   case h_2=>cases he
   rename_i new hn
   split at he
   case isFalse=>cases he
   rename_i hc
   cases he
   exact pg hs h2 h1 hk hx hy hp hH hn hc.2.2.1 hc.2.2.2 hc.1 hc.2.1
  rename_i i off hp
  split at he
  case h_2=>cases he
  rename_i e cs hH
  split at he
  case h_2=>cases he
  rename_i new hn
  split at he
  case isFalse=>cases he
  rename_i hc
  cases he
  exact vh hs h2 h1 hk hx hy hp hH hn hc.1 hc.2
 case fa d off x =>
  split at hok
  case h_2=>cases hok
  rename_i ty y f d' h1 h2
  simp only[Bool.and_eq_true,beq_iff_eq,decide_eq_true_eq]at hok
  obtain⟨⟨⟨rfl,hd⟩,hf⟩,hx⟩:=hok
  obtain⟨v,hr,rfl,rfl⟩:=B7 he
  exact ku hs h2 hd h1 hf hx hr
 case mk d e sz bytes z x =>
  split at hok
  case h_2=>cases hok
  rename_i ty xl xc d' h1 h2
  simp only[Bool.and_eq_true,beq_iff_eq,decide_eq_true_eq]at hok
  obtain⟨⟨⟨⟨⟨⟨⟨rfl,hd⟩,hu⟩,hz⟩,hzl⟩,hb⟩,hx⟩,hy⟩:=hok
  split at he
  case h_2=>cases he
  rename_i k n hev
  split at he
  case isFalse=>cases he
  rename_i hc
  cases he
  exact wm hs h2 hd h1 hu hz hzl hb hx hy hev hc.1 hc.2.1 hc.2.2
 case mkm d =>
  split at hok
  case h_2=>cases hok
  rename_i ty d' h1 h2
  simp only[Bool.and_eq_true,beq_iff_eq,decide_eq_true_eq]at hok
  obtain⟨rfl,hd⟩:=hok
  cases he
  exact pT hs h2 hd h1
 case lkp d ks ok z m k =>
  split at hok
  case h_2=>cases hok
  rename_i ty ym yk ok' d' h1 h2
  simp only[Bool.and_eq_true,beq_iff_eq,decide_eq_true_eq]at hok
  obtain⟨⟨⟨⟨⟨rfl,hd⟩,rfl⟩,hb⟩,hm⟩,hk⟩:=hok
  obtain⟨v,hr,rfl,rfl⟩:=B7 he
  exact ph hs h2 hd h1 hb hm hk hr
 case lnm d x =>
  split at hok
  case h_2=>cases hok
  rename_i y ty d' h1 h2
  simp only[Bool.and_eq_true,beq_iff_eq,decide_eq_true_eq]at hok
  obtain⟨⟨⟨rfl,hd⟩,hu⟩,hx⟩:=hok
  obtain⟨v,hr,rfl,rfl⟩:=B7 he
  exact qc hs h2 hd h1 hu hx hr
 case lkq d sh ok z m k =>
  split at hok
  case h_2=>cases hok
  rename_i ty ym yk ok' d' h1 h2
  simp only[Bool.and_eq_true,beq_iff_eq,decide_eq_true_eq]at hok
  obtain⟨⟨⟨⟨⟨rfl,hd⟩,rfl⟩,hb⟩,hm⟩,hk⟩:=hok
  obtain⟨v,hr,rfl,rfl⟩:=B7 he
  exact tL hs h2 hd h1 hb hm hk hr
 case iaa d sz n x i =>
  split at hok
  case h_2=>cases hok
  rename_i ty y z d' h1 h2
  simp only[Bool.and_eq_true,beq_iff_eq,decide_eq_true_eq]at hok
  obtain⟨⟨⟨⟨⟨rfl,hd⟩,hu⟩,hsz⟩,hx⟩,hi⟩:=hok
  obtain⟨v,hr,rfl,rfl⟩:=B7 he
  exact oV hs h2 hd h1 (dV hu) hsz hx hi hr
 case mup ks m k x =>
  split at hok
  case h_2=>cases hok
  rename_i ty ym yk yx h1 h2
  simp only[Bool.and_eq_true]at hok
  obtain⟨⟨⟨hb,hm⟩,hk⟩,hx⟩:=hok
  split at he
  case h_2=>cases he
  rename_i i hi
  split at he
  case h_2=>cases he
  rename_i es hes
  split at he
  case isFalse=>cases he
  rename_i hks
  split at he
  case h_2=>cases he
  rename_i es' hu
  cases he
  exact sq hs h2 h1 hb hm hk hx hi hes hks hu
 case muq sh m k x =>
  have hsplit:∃ ty ym yk yx,(o.op=.mapUpdate ty ym yk yx\/o.op=.insert ty ym yk yx)/\o.dst=none/\(iH P ty sh&&Bw ym m&&Bw yk k&&Bw yx x)=true:=by
   split at hok
   ·rename_i ty ym yk yx h1 h2;exact⟨ty,ym,yk,yx,.inl h1,h2,hok⟩
   ·rename_i ty ym yk yx h1 h2;exact⟨ty,ym,yk,yx,.inr h1,h2,hok⟩
   ·cases hok
  obtain⟨ty,ym,yk,yx,h1,h2,hok⟩:=hsplit
  simp only[Bool.and_eq_true]at hok
  obtain⟨⟨⟨hb,hm⟩,hk⟩,hx⟩:=hok
  split at he
  case h_2=>cases he
  rename_i i hi
  split at he
  case h_2=>cases he
  rename_i es hes
  split at he
  case isFalse=>cases he
  rename_i hks
  split at he
  case h_2=>cases he
  rename_i es' hu
  cases he
  exact rV hs h2 h1 hb hm hk hx hi hes hks hu
 case eqs d neg sh x y =>
  split at hok
  case h_2=>cases hok
  rename_i op ty xo yo ty2 d' h1 h2
  simp only[Bool.and_eq_true,beq_iff_eq,decide_eq_true_eq]at hok
  obtain⟨⟨⟨⟨⟨rfl,hd⟩,hop⟩,hb⟩,hx⟩,hy⟩:=hok
  obtain⟨v,hr,rfl,rfl⟩:=B7 he
  have ho:o.op=.binOp (if neg then .neq else .eql) ty xo yo ty2:=by
   rw[h1]
   cases neg<;>cases op<;>simp_all
  exact rG hs h2 hd ho hx hy hr hb
 case rg d m =>
  split at hok
  case h_2=>cases hok
  rename_i ty ym d' h1 h2
  simp only[Bool.and_eq_true,beq_iff_eq,decide_eq_true_eq]at hok
  obtain⟨⟨⟨rfl,hd⟩,hb⟩,hm⟩:=hok
  split at he
  case h_2=>cases he
  rename_i i hi
  split at he
  case h_2=>cases he
  rename_i es hes
  cases he
  exact vE hs h2 hd h1 hb hm hi hes
 case en d x =>
  split at hok
  case h_2=>cases hok
  rename_i y d' h1 h2
  simp only[Bool.and_eq_true,beq_iff_eq,decide_eq_true_eq]at hok
  obtain⟨⟨rfl,hd⟩,hx⟩:=hok
  obtain⟨v,hr,rfl,rfl⟩:=B7 he
  unfold vy at hr
  split at hr
  case h_2=>cases hr
  rename_i j hj
  split at hr
  case h_2=>cases hr
  rename_i i n seen hH
  split at hr
  case h_2=>cases hr
  rename_i es hes
  split at hr
  case isFalse=>cases hr
  rename_i hn
  split at hr
  case h_2=>cases hr
  rename_i k hk
  split at hr
  case h_2=>cases hr
  rename_i p hp
  cases hr
  exact wO hs h2 hd h1 hx hj hH hes hn hk hp
 case nc d x =>
  split at hok
  case h_2=>cases hok
  rename_i y d' h1 h2
  simp only[Bool.and_eq_true,beq_iff_eq,decide_eq_true_eq]at hok
  obtain⟨⟨rfl,hd⟩,hx⟩:=hok
  obtain⟨v,hr,rfl,rfl⟩:=B7 he
  exact vt hs h2 hd h1 hx hr
 case fd d off k x =>
  split at hok
  case h_2=>cases hok
  rename_i ty y f d' h1 h2
  simp only[Bool.and_eq_true,beq_iff_eq,decide_eq_true_eq]at hok
  obtain⟨⟨⟨rfl,hd⟩,hf⟩,hx⟩:=hok
  obtain⟨v,hr,rfl,rfl⟩:=B7 he
  exact xu hs h2 hd h1 hf hx hr
 case bd d z ps =>
  split at hok
  case h_2=>cases hok
  rename_i ty ys d' h1 h2
  simp only[Bool.and_eq_true,beq_iff_eq,decide_eq_true_eq]at hok
  obtain⟨⟨⟨rfl,hd⟩,hz⟩,hp⟩:=hok
  obtain⟨v,hr,rfl,rfl⟩:=B7 he
  split at hp
  case h_2=>cases hp
  rename_i pl hpl
  cases hb:tP t ps z with
  | none=>simp[hb]at hr
  | some r=>simp[hb]at hr;subst hr;exact ve hs h2 hd h1 hz hpl hp hb
 case bs d sz xs =>
  split at hok
  case h_2=>cases hok
  rename_i ty L ys d' h1 h2
  simp only[Bool.and_eq_true,beq_iff_eq,decide_eq_true_eq]at hok
  obtain⟨⟨⟨⟨⟨⟨rfl,hd⟩,hb⟩,hL1⟩,hL2⟩,hy⟩,hl⟩:=hok
  obtain⟨v,hr,rfl,rfl⟩:=B7 he
  split at hb
  case h_2=>cases hb
  cases hb':gF t sz xs with
  | none=>simp[hb']at hr
  | some r=>simp[hb']at hr;subst hr;exact xH hs h2 hd h1 hb ⟨hL1,hL2⟩ hy hl hb'
 case bo d e sz xs =>
  split at hok
  case h_2=>cases hok
  rename_i ty L ys d' h1 h2
  simp only[Bool.and_eq_true,beq_iff_eq,decide_eq_true_eq]at hok
  obtain⟨⟨⟨⟨⟨⟨rfl,hd⟩,hb⟩,hL1⟩,hL2⟩,hy⟩,hl⟩:=hok
  split at he
  case h_2=>cases he
  rename_i els hr
  cases he
  exact vW hs h2 hd h1 hb ⟨hL1,hL2⟩ hy hl hr
 case bin d op x y =>
  split at hok
  case h_2=>cases hok
  rename_i op' ty xo yo ty2 d' h1 h2
  simp only[Bool.and_eq_true,beq_iff_eq,decide_eq_true_eq]at hok
  obtain⟨⟨⟨⟨rfl,hd⟩,rfl⟩,hx⟩,hy⟩:=hok
  obtain⟨v,hr,rfl,rfl⟩:=B7 he
  exact rP hs h2 hd h1 hx hy hr
 case bb d op x y =>
  split at hok
  case h_2=>cases hok
  rename_i op' ty xo yo ty2 d' h1 h2
  simp only[Bool.and_eq_true,beq_iff_eq,decide_eq_true_eq]at hok
  obtain⟨⟨⟨⟨⟨rfl,hd⟩,rfl⟩,hx⟩,hy⟩,hu⟩:=hok
  obtain⟨v,hr,rfl,rfl⟩:=B7 he
  exact vO hs h2 hd h1 hx hy hr (oZ hu)
 case sh d op x y =>
  split at hok
  case h_2=>cases hok
  rename_i op' ty xo yo ty2 d' h1 h2
  simp only[Bool.and_eq_true,beq_iff_eq,decide_eq_true_eq]at hok
  obtain⟨⟨⟨⟨rfl,hd⟩,rfl⟩,hx⟩,hy⟩:=hok
  obtain⟨v,hr,rfl,rfl⟩:=B7 he
  exact wt hs h2 hd h1 hx hy hr
 case un d op x =>
  split at hok
  case h_2=>cases hok
  rename_i op' ty y d' h1 h2
  simp only[Bool.and_eq_true,beq_iff_eq,decide_eq_true_eq]at hok
  obtain⟨⟨⟨rfl,hd⟩,rfl⟩,hx⟩:=hok
  obtain⟨v,hr,rfl,rfl⟩:=B7 he
  exact wg hs h2 hd h1 hx hr
 case cvi d k x =>
  split at hok
  case h_2=>cases hok
  rename_i ty ty2 y d' h1 h2
  simp only[Bool.and_eq_true,beq_iff_eq,decide_eq_true_eq]at hok
  obtain⟨⟨⟨⟨rfl,hd⟩,hk⟩,hu⟩,hx⟩:=hok
  split at he
  case h_2=>cases he
  rename_i k' n hr
  cases he
  obtain⟨ds,hu⟩:=Option.isSome_iff_exists.1 hu
  exact pR hs h2 hd h1 hx hu (xW hk) hr
 case cvs d x =>
  split at hok
  case h_2=>cases hok
  rename_i ty ty2 y d' h1 h2
  simp only[Bool.and_eq_true,beq_iff_eq,decide_eq_true_eq]at hok
  obtain⟨⟨⟨⟨rfl,hd⟩,hu⟩,hu2⟩,hx⟩:=hok
  split at he
  case h_2=>cases he
  rename_i s hr
  cases he
  exact rN hs h2 hd h1 hx (OD hu) (OD hu2) hr
 case s2b d x =>
  split at hok
  case h_2=>cases hok
  rename_i ty ty2 y d' h1 h2
  simp only[Bool.and_eq_true,beq_iff_eq,decide_eq_true_eq]at hok
  obtain⟨⟨⟨⟨rfl,hd⟩,hu⟩,hu2⟩,hx⟩:=hok
  split at he
  case h_2=>cases he
  rename_i s hr
  split at he
  case isFalse=>cases he
  rename_i hl
  cases he
  split at hu2
  case h_2=>cases hu2
  rename_i e hE
  exact ti hs h2 hd h1 hx (OD hu) (Qi hE) (tx hu2) hr hl
 case b2s d x =>
  split at hok
  case h_2=>cases hok
  rename_i ty ty2 y d' h1 h2
  simp only[Bool.and_eq_true,beq_iff_eq,decide_eq_true_eq]at hok
  obtain⟨⟨⟨⟨rfl,hd⟩,hu⟩,hu2⟩,hx⟩:=hok
  split at he
  case h_2=>cases he
  rename_i els hr
  split at he
  case h_2=>cases he
  rename_i l hl
  cases he
  split at hu2
  case h_2=>cases hu2
  rename_i e hE
  exact qN hs h2 hd h1 hx (Qi hE) (tx hu2) (OD hu) hr hl
 case mf d g fst caps =>
  split at hok
  case h_2=>cases hok
  rename_i g' yf yc d' h1 h2
  simp only[Bool.and_eq_true,beq_iff_eq,decide_eq_true_eq]at hok
  obtain⟨⟨⟨⟨⟨⟨rfl,hd⟩,rfl⟩,a1⟩,a2⟩,a3⟩,a4⟩:=hok
  cases he
  exact uT hs h2 hd h1 a1 a2 a3 a4
 case len d x =>
  split at hok
  case h_2=>cases hok
  rename_i y ty d' h1 h2
  simp only[Bool.and_eq_true,beq_iff_eq,decide_eq_true_eq]at hok
  obtain⟨⟨⟨rfl,hd⟩,hu⟩,hx⟩:=hok
  obtain⟨v,hr,rfl,rfl⟩:=B7 he
  obtain⟨e,hu⟩:=Option.isSome_iff_exists.1 hu
  exact td hs h2 hd h1 (Qi hu) hx hr
 case lens d x =>
  split at hok
  case h_2=>cases hok
  rename_i y ty d' h1 h2
  simp only[Bool.and_eq_true,beq_iff_eq,decide_eq_true_eq]at hok
  obtain⟨⟨⟨rfl,hd⟩,hu⟩,hx⟩:=hok
  obtain⟨v,hr,rfl,rfl⟩:=B7 he
  exact mr hs h2 hd h1 (OD hu) hx hr
 case ia d sz x i =>
  split at hok
  case h_2=>cases hok
  rename_i ty y z d' h1 h2
  simp only[Bool.and_eq_true,beq_iff_eq,decide_eq_true_eq]at hok
  obtain⟨⟨⟨⟨rfl,hd⟩,hu⟩,hx⟩,hi⟩:=hok
  obtain⟨v,hr,rfl,rfl⟩:=B7 he
  split at hu
  case h_2=>cases hu
  rename_i e hE
  by_cases hj:∃ j z n,ev t x=.rw j z n
  ·obtain⟨j,z0,n,hj⟩:=hj
   exact rW hs h2 hd h1 (S6 hE) hu hx hi hj (hj▸hr)
  ·exact wk hs h2 hd h1 (S6 hE) hu hx hi hr fun j z n h=>hj ⟨j,z,n,h⟩
 case ix d x i =>
  split at hok
  case h_2=>cases hok
  rename_i ty y z d' h1 h2
  simp only[Bool.and_eq_true,beq_iff_eq,decide_eq_true_eq]at hok
  obtain⟨⟨⟨⟨rfl,hd⟩,hu⟩,hx⟩,hi⟩:=hok
  obtain⟨v,hr,rfl,rfl⟩:=B7 he
  exact wJ hs h2 hd h1 (OD hu) hx hi hr
 case ixa d sz n k x i =>
  split at hok
  case h_2=>cases hok
  rename_i ty y z d' h1 h2
  simp only[Bool.and_eq_true,beq_iff_eq,decide_eq_true_eq]at hok
  obtain⟨⟨⟨⟨⟨⟨rfl,hd⟩,hu⟩,hsz⟩,hk⟩,hx⟩,hi⟩:=hok
  obtain⟨v,hr,rfl,rfl⟩:=B7 he
  exact qC hs h2 hd h1 (dV hu) hsz hk hx hi hr
 case sx d sz x lo hi =>
  split at hok
  case h_2=>cases hok
  rename_i ty y l h d' h1 h2
  simp only[Bool.and_eq_true,beq_iff_eq,decide_eq_true_eq]at hok
  obtain⟨⟨⟨⟨⟨rfl,hd⟩,hu⟩,hx⟩,hl⟩,hh⟩:=hok
  obtain⟨v,hr,rfl,rfl⟩:=B7 he
  split at hu
  case h_2=>cases hu
  rename_i e hE
  exact jk hs h2 hd h1 (S6 hE) hu hx hl hh hr
 case sxs d x lo hi =>
  split at hok
  case h_2=>cases hok
  rename_i ty y l h d' h1 h2
  simp only[Bool.and_eq_true,beq_iff_eq,decide_eq_true_eq]at hok
  obtain⟨⟨⟨⟨⟨rfl,hd⟩,hu⟩,hx⟩,hl⟩,hh⟩:=hok
  obtain⟨v,hr,rfl,rfl⟩:=B7 he
  exact dx hs h2 hd h1 (OD hu) hx hl hh hr
 case ex d x i =>
  split at hok
  case h_2=>cases hok
  rename_i y i' d' h1 h2
  simp only[Bool.and_eq_true,beq_iff_eq,decide_eq_true_eq]at hok
  obtain⟨⟨⟨rfl,hd⟩,rfl⟩,hx⟩:=hok
  obtain⟨v,hr,rfl,rfl⟩:=B7 he
  exact xT hs h2 hd h1 hx hr
 case app d e sz bytes x y =>
  split at hok
  case h_2=>cases hok
  rename_i xo yo ty ty' d' h1 h2
  simp only[Bool.and_eq_true,beq_iff_eq,decide_eq_true_eq]at hok
  obtain⟨⟨⟨⟨⟨⟨⟨⟨rfl,hd⟩,rfl⟩,hu⟩,hz⟩,hb⟩,hb0⟩,hx⟩,hy⟩:=hok
  obtain⟨v,H2,hr,rfl,rfl⟩:=DL he
  unfold Pb at hr
  split at hr
  case h_2=>cases hr
  rename_i i sz1 els new hp hq
  split at hr
  case h_2=>cases hr
  rename_i e' sz' n hH
  split at hr
  case isFalse=>cases hr
  rename_i hc
  obtain⟨rfl,rfl,rfl,hc2,hc3,hc4⟩:=hc
  cases hr
  exact WD hs h2 hd h1 hu hz hb hb0 hx hy hp hq hH hc2 hc3 hc4
 case apz d e sz bytes k y =>
  split at hok
  case h_2=>cases hok
  rename_i xo yo ty ty' d' h1 h2
  simp only[Bool.and_eq_true,beq_iff_eq,decide_eq_true_eq]at hok
  obtain⟨⟨⟨⟨⟨⟨⟨⟨⟨rfl,hd⟩,rfl⟩,hu⟩,hz⟩,hb⟩,hb0⟩,hx⟩,hy⟩,hyk⟩:=hok
  split at he
  ·rename_i hk
   obtain⟨v,H2,hr,rfl,rfl⟩:=DL he
   exact qn hs h2 hd h1 hu hz hb hb0 hx hy hk (fun n hn=>by subst hn;simpa using hyk) hr
  ·rename_i i0 z0 l0 hk
   obtain⟨v,H2,hr,rfl,rfl⟩:=DL he
   unfold Pb at hr
   split at hr
   case h_2=>cases hr
   rename_i i sz1 els new hp hq
   split at hr
   case h_2=>cases hr
   rename_i e' sz' n hH
   split at hr
   case isFalse=>cases hr
   rename_i hc
   obtain⟨rfl,rfl,rfl,hc2,hc3,hc4⟩:=hc
   cases hr
   exact WD hs h2 hd h1 hu hz hb hb0 hx hy hp hq hH hc2 hc3 hc4
  ·cases he
 case apr d e sz bytes x y =>
  split at hok
  case h_2=>cases hok
  rename_i xo yo ty ty' d' h1 h2
  simp only[Bool.and_eq_true,beq_iff_eq,decide_eq_true_eq]at hok
  obtain⟨⟨⟨⟨⟨⟨⟨⟨rfl,hd⟩,rfl⟩,hu⟩,hz⟩,hb⟩,hb0⟩,hx⟩,hy⟩:=hok
  obtain⟨v,H2,hr,rfl,rfl⟩:=DL he
  unfold ez at hr
  split at hr
  case h_2=>cases hr
  rename_i i z0 n new hp hq
  split at hr
  case h_2=>cases hr
  rename_i e' sz' els hH
  split at hr
  case isFalse=>cases hr
  rename_i hc
  obtain⟨rfl,rfl,hc1,hc3,hc4⟩:=hc
  cases hr
  exact mS hs h2 hd h1 hu hz hb hb0 hx hy hp hq hH hc1 hc3 hc4
 case mx d x y =>
  split at hok
  case h_2=>cases hok
  rename_i xo yo t1 t2 d' h1 h2
  simp only[Bool.and_eq_true,beq_iff_eq,decide_eq_true_eq]at hok
  obtain⟨⟨⟨rfl,hd⟩,hx⟩,hy⟩:=hok
  split at he
  case h_2=>cases he
  rename_i k n k' m hp hq
  split at he
  case isFalse=>cases he
  rename_i hk
  subst hk
  cases he
  exact ll true hs h2 hd h1 hx hy hp hq
 case mn d x y =>
  split at hok
  case h_2=>cases hok
  rename_i xo yo t1 t2 d' h1 h2
  simp only[Bool.and_eq_true,beq_iff_eq,decide_eq_true_eq]at hok
  obtain⟨⟨⟨rfl,hd⟩,hx⟩,hy⟩:=hok
  split at he
  case h_2=>cases he
  rename_i k n k' m hp hq
  split at he
  case isFalse=>cases he
  rename_i hk
  subst hk
  cases he
  exact ll false hs h2 hd h1 hx hy hp hq
end Go.Dw
