/-
  Contracts and lemmas for ResidualFull: part j of 11.
-/
import Derived.Test.YtkdcfkfdkimaeaaGreatDoorFai
set_option linter.unusedVariables false
set_option linter.unusedSimpArgs false
set_option maxRecDepth 100000
namespace Go.Dw
theorem jP {n:Nat}{p:Nat->Bool}{k:Nat}(hk:k<n)(hp:p k=true)(h:∀ j,j<k->p j=false):(List.range n).find? p=some k:=by
 rw[List.find?_range_eq_some]
 exact⟨hp,List.mem_range.2 hk,fun j hj=>by rw[h j hj];rfl⟩
def vr (o:Option Nat):Int:=match o with | some k=>k | none=>-1
theorem gI {r:List A3}{t:Term}(hr:Mg r<2^28)(ht:tb t<2^30):PF Q6 [As r,An t] (.int .i64 (vr (U2 r t))):=by
 have hrl:=By r
 have hsm:∀ k,k<r.length->PF GF [An (r.getD k default).left,An t] (.tup [B5 (Ik [] (Ec r k) t).1,.bool (T2 r k t)]):=fun k hk=>by
  have h1:=Gc (A4 hk)
  have h2:=Pv (r.getD k default).left t (by omega) (by omega)
  rw[(YL _ [] t).1]at h2
  exact h2
 refine Ad Lk.ok rfl ?_
 push_cast
 refine Ae (n:=r.length) (R:=fun k=>(∀ j,j<k->T2 r j t=false)->Lk.L3 (As r) (.ro (cT t) 0) (.int .i64 r.length) (.int .i64 k) 0 [] (BH 0 Lk.rs fun x' H'=>x'=.int .i64 (vr (U2 r t))/\H'=[])) ?_ ?_ 0 (by omega) (fun j hj=>by omega)
 ·intro k hk ih hq
  refine A7.2 ?_
  push_cast[BB hk]
  refine .of (hsm k hk) ?_
  cases hm:T2 r k t with
  | true =>
   have e:U2 r t=some k:=jP hk hm hq
   rw[e]
   push_cast
   exact A0 (by push_cast[Lk.rs];rfl)
  | false =>
   push_cast[Co (show k<2^62 by omega)]
   exact ih fun j hj=>by
    rcases Nat.lt_succ_iff_lt_or_eq.1 hj with hj | rfl
    ·exact hq j hj
    ·exact hm
 ·intro hq
  have e:U2 r t=none:=by
   unfold U2
   rw[List.find?_eq_none]
   intro j hj
   rw[hq j (List.mem_range.1 hj)];simp
  rw[e]
  refine A7.2 ?_
  push_cast[AZ (Nat.le_refl _)]
  exact A0 (by push_cast[Lk.rs];rfl)
theorem RK {r:List A3}(h:DG r)(hr:Mg r<2^28)(hrl:r.length<=64):∀ (n:Nat)(t:Term),size t<=n->size t<=4000->short t=true->PF Mc [As r,An t] (Be (D8 r n t))
 | 0,t,hn,_,_=>by have:=Qn t;omega
 | n+1,t,hn,hz,hsh=>by
  have hst:=Aq t
  have hll:=Ap t.args
  have htb:=SN _ hsh
  have hred:=gI (t:=t) hr (by omega)
  refine Ad K8.ok rfl ?_
  cases he:U2 r t with
  | some k =>
   obtain⟨hk,hm⟩:=UJ he
   have hkl:k<64:=by omega
   rw[he]at hred
   have e0:vr (some k)=(k:Int):=rfl
   rw[e0]at hred
   have hlt:(k:Int)<r.length:=by omega
   have h0:(0:Int)<=k:=by omega
   have h1:=Gc (A4 (l:=r) hk)
   have hmat:=Pv (r.getD k default).left t (by omega) (by omega)
   have hsame:=YL (Ec r k) [] t
   have hbs:(Ik [] (Ec r k) t).1=(AR [] (Ec r k) t).1:=hsame.2 hm
   have hmb:(Ik [] (Ec r k) t).2=true:=hsame.1.trans hm
   have hmat:PF GF [An (r.getD k default).left,An t] (.tup [B5 (AR [] (Ec r k) t).1,.bool true]):=by
    have e:(r.getD k default).left=Ec r k:=rfl
    rw[e,hbs,hmb]at hmat
    exact hmat
   have hterms:=fw (h.left hk).2.1 hm
   have hsz:∀ b∈(AR [] (Ec r k) t).1,size b.term<size t/\short b.term=true:=fun b hb=>by
    have h2:b.term∈(AD [Ec r k]).map (Py (AR [] (Ec r k) t).1):=by rw[<-hterms];exact List.mem_map_of_mem hb
    obtain⟨v,hv,e⟩:=List.mem_map.1 h2
    refine⟨?_,bE (Ec r k) [] t (by simp) hsh b hb⟩
    rw[<-e]
    exact h.sig_lt hk hm v hv
   have hbl:(AR [] (Ec r k) t).1.length=(AD [Ec r k]).length:=by
    have:=congrArg List.length hterms
    simpa using this
   have hvl:=HF [Ec r k]
   have hx:=Bc (Ec r k)
   have hlf:(r.getD k default).left=Ec r k:=rfl
   simp only[Af]at hvl
   rw[hlf]at h1
   have hfull:D8 r (n+1) t=.mk ((k:Int)+1) [] false ((AR [] (Ec r k) t).1.map fun b=>D8 r n b.term):=by
    simp only[D8,he]
    unfold ru
    congr 1
    have e:=congrArg (List.map (D8 r n)) hterms
    rw[List.map_map,List.map_map]at e
    exact e.symm
   rw[hfull]
   generalize (AR [] (Ec r k) t).1=s at hmat hsz hbl
   have hw:IntKind.i64.wrap ((k:Int)+1)=(k:Int)+1:=Cr (by omega) (by omega)
   push_cast
   refine .of hred ?_
   push_cast[h0]
   refine⟨hlt,.of hmat ?_⟩
   push_cast[hw]
   refine Ae (n:=s.length) (R:=fun j=>K8.L8 (As r) (.ptr 0 0) (.ptr 1 0) (B5 s) (.int .i64 s.length) (.int .i64 j) 0
    [.cells A8 [.int .i64 0,.str [],.bool false,.sl 4 []],.cells A8 [.int .i64 ((k:Int)+1),.str [],.bool false,B8 cM 2 4 ((s.take j).map fun b=>D8 r n b.term)],.arr A8 4 j]
    (BH 0 K8.rs fun x' H'=>x'=Be (A1.mk ((k:Int)+1) [] false (s.map fun b=>D8 r n b.term))/\H'=[])) ?_ ?_ 0 (by omega)
   ·intro j hj ih
    have hb:=A4 hj
    obtain⟨z1,z2⟩:=hsz _ hb
    have hcall:=RK h hr hrl n (s.getD j default).term (by omega) (by omega) z2
    have hlen:((s.take j).map fun b=>D8 r n b.term).length=j:=by simp;omega
    rw[Aa hj,List.map_append,List.map_singleton]at ih
    refine A7.2 ?_
    push_cast[BB hj]
    refine .of hcall ?_
    push_cast[hlen,Co (show j<2^62 by omega)]
    push_cast at ih
    exact⟨by unfold Ai;omega,ih⟩
   ·refine A7.2 ?_
    push_cast[AZ (Nat.le_refl _),List.take_length]
    refine A0 ?_
    push_cast[K8.rs,ZC]
  | none =>
   rw[he]at hred
   have e0:vr none=-1:=rfl
   rw[e0]at hred
   have hfull:D8 r (n+1) t=.mk 0 t.name t.var (t.args.map (D8 r n)):=by simp only[D8,he]
   rw[hfull]
   push_cast
   refine .of hred ?_
   push_cast
   refine Ae (n:=t.args.length) (R:=fun j=>K8.L3 (As r) (.ptr 0 0) (.ptr 1 0) (Bk t.args) (.int .i64 t.args.length) (.int .i64 j) 0
    [.cells A8 [.int .i64 0,.str [],.bool false,.sl 4 []],.cells A8 [.int .i64 0,.str t.name,.bool t.var,B8 cM 2 4 ((t.args.take j).map (D8 r n))],.arr A8 4 j]
    (BH 0 K8.rs fun x' H'=>x'=Be (A1.mk 0 t.name t.var (t.args.map (D8 r n)))/\H'=[])) ?_ ?_ 0 (by omega)
   ·intro j hj ih
    have hb:=A4 hj
    have z1:=B4 hb
    have hcall:=RK h hr hrl n (t.args.getD j default) (by omega) (by omega) ((C0.1 hsh).2.2 _ hb)
    have hlen:((t.args.take j).map (D8 r n)).length=j:=by simp;omega
    rw[Aa hj,List.map_append,List.map_singleton]at ih
    refine A7.2 ?_
    push_cast[BB hj]
    refine .of hcall ?_
    push_cast[hlen,Co (show j<2^62 by omega)]
    push_cast at ih
    exact⟨by unfold Ai;omega,ih⟩
   ·refine A7.2 ?_
    push_cast[AZ (Nat.le_refl _),List.take_length]
    refine A0 ?_
    push_cast[K8.rs,ZC]
theorem iG {r:List A3}{t:Term}(hr:Mg r<2^28)(ht:tb t<2^28):PF RW [As r,An t] (.tup [Be (Ip r t).1,.int .i64 (Ip r t).2]):=by
 have h0:=Tl (r:=r) (by omega)
 have h1:=Vc t (by omega)
 unfold Ip
 refine Ad Nk.ok rfl ?_
 push_cast
 refine .of h0 ?_
 by_cases hq:Fy r=0
 ·rw[if_neg (by simp[hq])]
  push_cast[hq]
  refine .of h1 ?_
  by_cases hc:DH t=0
  ·have hrr:=Qg hq
   have hg:=Gp hrr.2
   have hsz:=Jj (FW.1 hc).2
   have hgt:=C3.of_check hc
   have h2:=YT r t hr (fun x hx=>M5 hrr.2 _ hx) ht (by
    have:size t*r.length<=4000*64:=Nat.mul_le_mul hsz hg.2
    omega)
   have h3:=RK (PA hrr.1) hr hg.2 (size t) t (Nat.le_refl _) (by omega) (Ou _ (FW.1 hc).1)
   rw[if_neg (by simp[hc])]
   push_cast[hc]
   refine .of h2 ?_
   by_cases hl:4096<(EN r t).length
   ·have hl':((4096:Int)<((EN r t).length:Nat))=True:=eq_true (by omega)
    rw[if_pos hl]
    push_cast[hl']
    exact A0 (by push_cast[Nk.rs];rfl)
   ·have hl':((4096:Int)<((EN r t).length:Nat))=False:=eq_false (by omega)
    rw[if_neg hl]
    push_cast[hl']
    refine .of h3 ?_
    push_cast
    exact A0 (by push_cast[Nk.rs])
  ·rw[if_pos hc]
   push_cast[hc]
   exact A0 (by push_cast[Nk.rs];rfl)
 ·rw[if_pos hq]
  push_cast[hq]
  exact A0 (by push_cast[Nk.rs];rfl)
theorem te (r:List A3)(t:Term):AV (Ip r t).1<2^40:=by
 by_cases h:(Ip r t).2=0
 ·obtain⟨ho,k1,k2,_⟩:=xC h
  have h4:=ho.size_le _ _ (Nat.le_refl _) k1
  rw[k2]at h4
  have:=Jj (FW.1 (gZ h).2.1).2
  omega
 ·have:(Ip r t).1=zM:=by
   unfold Ip at h ⊢
   split
   ·rfl
   ·rename_i h1
    rw[if_neg h1]at h
    split
    ·rfl
    ·rename_i h2
     rw[if_neg h2]at h
     split
     ·rfl
     ·rename_i h3
      rw[if_neg h3]at h;exact absurd rfl h
  rw[this];decide
theorem YD {r:List A3}{t:Term}(hr:Mg r<2^28)(ht:tb t<2^28) :
  eY prog LL [As r,An t] [] (fun x' H'=>x'=.bool true/\H'=[]):=by
 have h1:=VH hr ht
 have h2:=iG hr ht
 refine OE mixed Jf.ok rfl ?_
 push_cast
 refine .of h1 ?_
 push_cast
 refine .of h2 ?_
 push_cast
 refine .of (N5 _ (te r t)) ?_
 push_cast
 refine .of wZ ?_
 push_cast
 exact A0 (by push_cast[Jf.rs])
end Go.Dw
