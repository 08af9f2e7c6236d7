/-
  Contracts and lemmas for ResidualTriangle: part h of 9.
-/
import Derived.Test.YtkdcfkfdkimaeaaGreatDoorTag
import Derived.Test.YtkdcfkfdkimaeaaGreatDoorTaf
set_option linter.unusedVariables false
set_option linter.unusedSimpArgs false
set_option maxRecDepth 100000
section
namespace Go.Dw
theorem shut_bld (r:List ARule) (l:List AStep) (bad:Bool):Shut 1 (bldH r l bad):=⟨rfl,rfl⟩
section
variable {N:Nat→C} {B:Nat} {s:List K} {t:T} {Q:X→T→List Ob→Prop}
theorem callG_bld {d:Option Nat} {L:List S} {f:Nat} {vs vs':List V} {r:List ARule} {l:List AStep} {bad bad':Bool} {x:V} {J:List Ob} (hvs:rens (clip 1) vs = vs') (hx:∀ σ,ren σ x = x)
  (hs:Spec prog f vs' (bldH r l bad) fun x' H'=>x' = x∧H' = bldH r l bad') (k:Run prog N B (.r L :: s) (setO d x t) (bldH r l bad'++J) Q):CallG prog N B d L s t Q (.func f) vs (bldH r l bad++J):=by
 refine callG_keep (shut_bld r l bad) hvs (specF_func ▸ hs) ?_ ?_
 ·rintro x' H' ⟨_,rfl⟩;exact shut_bld r l bad'
 ·rintro x' H' ⟨rfl,rfl⟩
  rw [hx];exact k
end
theorem ren_encAt (o:Option AStep) (σ:Nat→Option Nat):ren σ (encAt o) = encAt o:=by cases o <;> rfl
set_option maxHeartbeats 4000000 in
theorem builder_build_s (r:List ARule) (l:List AStep) (hr:rbs r < 2^28) (hc:checkSystem r = 0) (hl:l.length < 2^40) (hp:∀ s∈l,s.pos.length < 2^40):∀ (n:Nat) (t:Term) (pos:List Int) (bad:Bool),size t≤n→size t < 2^20→pos.length+size t < 2^30→MatS r l t pos →
  Spec prog n_multi_builder_build [.ptr 0 0,encT t,encP pos] (bldH r l bad) fun x H'=>x = encM (buildM r l n t pos).1∧H' = bldH r l (bad || (buildM r l n t pos).2):=by
 intro n
 induction n with
 | zero=>intro t pos bad hn;have:=size_pos t;omega
 | succ n ihn =>
 intro t pos bad hn hz hpl hm
 have hst:=size_args t
 have hll:=length_le_sizes t.args
 have hA:=builder_at_s r l bad pos (by omega) (fun s hs=>by have:=hp s hs;omega)
 refine spec_of_run mixed bldr.ok rfl ?_
 generalize hres:buildM r l (n+1) t pos = res
 unfold bldH
 push_cast
 refine callG_bld (r:=r) (l:=l) (bad:=bad) (bad':=bad) (J:=[_,_]) (x:=encAt (atM l pos)) (vs':=[.ptr 0 0,encP pos]) (by rfl) (ren_encAt _) hA ?_
 simp only [buildM] at hres
 cases ha:atM l pos with
 | none =>
  rw [ha] at hres
  dsimp only at hres
  unfold bldH
  push_cast [encAt,List.cons_append,List.nil_append]
  have h9:=loop_up (n:=t.args.length) (R:=fun k=>bldr.L14 (.ptr 1 0) (.ro [encP pos] 0) (.ptr 2 0) (.ptr 4 0) (encTs t.args) (.int .i64 t.args.length) (.int .i64 k) 1 [.cells t_multi_builder [encRs r,encSts l,.bool (bad || (List.range k).any fun i=>(buildM r l n (t.args.getD i default) (pos++[(i:Int)])).2)],.cells t_p_multi_builder [.ptr 0 0],.cells t_Multi [.int .i64 0,.str [],.bool false,.sl 4 []],.dead,.cells t_Multi [.int .i64 0,.str t.name,.bool t.var,ownL cM 5 4 ((List.range k).map fun i=>(buildM r l n (t.args.getD i default) (pos++[(i:Int)])).1)],.arr t_Multi 4 k] (Ends 1 bldr.rs fun x H'=>x = encM res.1∧H' = [.cells t_multi_builder [encRs r,encSts l,.bool (bad || res.2)]])) ?_ ?_ 0 (by omega)
  ·simp only [List.range_zero,List.any_nil,Bool.or_false,List.map_nil] at h9
   exact h9
  ·intro k hk ih
   have hmem:=getD_mem hk
   have hsz:=size_mem hmem
   have hsub:subT t [(k:Int)] = some (t.args.getD k default):=by
    simp only [subT];rw [if_pos (by omega),Int.toNat_natCast]
   have hmk:=hm.sub hsub
   have hlen:((List.range k).map fun i=>(buildM r l n (t.args.getD i default) (pos++[(i:Int)])).1).length = k:=by simp
   rw [List.range_succ,List.any_append,List.map_append,← Bool.or_assoc] at ih
   simp only [List.any_cons,List.any_nil,Bool.or_false,List.map_cons,List.map_nil] at ih
   generalize ((List.range k).map fun i=>(buildM r l n (t.args.getD i default) (pos++[(i:Int)])).1) = ms at ih hlen ⊢
   generalize (bad || (List.range k).any fun i=>(buildM r l n (t.args.getD i default) (pos++[(i:Int)])).2) = bk at ih ⊢
   have hI:=ihn (t.args.getD k default) (pos++[(k:Int)]) bk (by omega) (by omega) (by rw [List.length_append,List.length_singleton];omega) hmk
   refine bldr.G14 ?_
   push_cast [ilt hk]
   generalize hbb:buildM r l n (t.args.getD k default) (pos++[(k:Int)]) = bb at ih hI
   repeat' (refine And.intro ?_ ?_)
   all_goals
    refine callG_new (slices_Clone_int_s pos (by omega)) ?_
    push_cast
    refine ⟨by unfold maxEls;omega,?_⟩
   repeat' (refine And.intro ?_ ?_)
   all_goals
    refine callG_bld (r:=r) (l:=l) (bad:=bk) (bad':=bk || bb.2) (J:=[_,_,_,_,_,_,_]) (x:=encM bb.1) (vs':=[.ptr 0 0,encT (t.args.getD k default),encP (pos++[(k:Int)])]) ?_ (fun _=>ren_encM _) hI ?_
   all_goals first
    | (push_cast;rw [sl_snocI];done)
    | skip
   all_goals
    unfold bldH
    push_cast [List.cons_append,List.nil_append,hlen,w64 (show k < 2^62 by omega)]
    refine ⟨by unfold maxEls;omega,?_⟩
    exact ih
  ·refine bldr.G14 ?_
   push_cast [inlt (Nat.le_refl _)]
   rw [← hres]
   dsimp only
   generalize ((List.range t.args.length).map fun i=>(buildM r l n (t.args.getD i default) (pos++[(i:Int)])).1) = ms
   generalize ((List.range t.args.length).any fun i=>(buildM r l n (t.args.getD i default) (pos++[(i:Int)])).2) = bk
   exact ends_keep (x:=.agg [.int .i64 0,.str t.name,.bool t.var,ownL cM 5 4 ms]) (H:=[.cells t_multi_builder [encRs r,encSts l,.bool (bad || bk)]]) (J:=[_,_,_,_,_]) ⟨rfl,rfl⟩ (by push_cast [bldr.rs]) ⟨by push_cast [cM_mk],rfl⟩
 | some s =>
  rw [ha] at hres
  dsimp only at hres
  unfold bldH
  push_cast [encAt,List.cons_append,List.nil_append]
  obtain ⟨e1,e2,e3,e4,e5,e6,e7,e8⟩:=hm.vars hc ha
  have hsx:=rbs_mem e2
  have hszl:size (leftOf r s) < 2^28:=by
   unfold leftOf
   have:=size_le_tb (r.getD s.rule.toNat default).left
   omega
  refine ⟨⟨e3,e4⟩,?_⟩
  rw [← e1]
  refine .of (term_Walk_s _) ?_
  push_cast
  have hss:=visit_sub (leftOf r s) []
  have hov:∀ k,(bad || ((visit (leftOf r s) []).take k).any (overB l pos)) = (bad || ((visit (leftOf r s) []).take k).any (overB l pos)):=fun _=>rfl
  refine Run.rf n_term_Walk_1 [] [.ro (cT (leftOf r s)) 0] ((visit (leftOf r s) []).map encIt) (fun j H1=>H1 = [.cells t_multi_builder [encRs r,encSts l,.bool (bad || ((visit (leftOf r s) []).take j).any (overB l pos))],.cells t_p_multi_builder [.ptr 0 0],.cells t_Multi [.int .i64 0,.str [],.bool false,.sl 4 []],.dead,.dead]) (fun _ _=>False) rfl (term_Walk_iter (leftOf r s) (by omega)) ?_ (by rw [List.take_zero,List.any_nil,Bool.or_false]) ?_ ?_ (fun _ _ h=>h.elim) ?_ ?_ (fun _ _ h=>h.elim)
  ·intro it hit
   obtain ⟨x,_,rfl⟩:=List.mem_map.1 hit
   rfl
  ·push_cast
  ·rintro j H1 rfl
   refine ⟨rfl,?_⟩
   push_cast
  ·rintro lo rr j it H1 hit rfl
   rw [List.getElem?_map] at hit
   cases hx:(visit (leftOf r s) [])[j]? with
   | none=>rw [hx] at hit;cases hit
   | some x =>
   rw [hx] at hit
   have hit:it = encIt x:=by simpa using hit.symm
   subst hit
   have hj:j < (visit (leftOf r s) []).length:=(List.getElem?_eq_some_iff.1 hx).1
   have hxj:(visit (leftOf r s) [])[j] = x:=(List.getElem?_eq_some_iff.1 hx).2
   have htk:(visit (leftOf r s) []).take (j+1) = (visit (leftOf r s) []).take j++[x]:=by rw [List.take_succ_eq_append_getElem hj,hxj]
   have hxl:=(hss x (List.mem_of_getElem? hx)).2
   have hsn:(bad || ((visit (leftOf r s) []).take (j+1)).any (overB l pos)) = ((bad || ((visit (leftOf r s) []).take j).any (overB l pos)) || overB l pos x):=by
    rw [htk,List.any_append,← Bool.or_assoc];simp
   generalize (bad || ((visit (leftOf r s) []).take j).any (overB l pos)) = bk at hsn ⊢
   push_cast [setPs,encIt]
   refine run_m.2 ?_
   push_cast
   refine .of (concat2 pos x.1 (by simp at hxl;omega)) ?_
   push_cast
   have hA2:=builder_at_s r l bk (pos++x.1) (by omega) (fun s hs=>by have:=hp s hs;omega)
   have hx1:overB l pos x = ((atM l (pos++x.1)).isSome && (!x.2.var && decide (0 < x.1.length))):=rfl
   refine ⟨?_,?_⟩
   ·refine callG_bld (r:=r) (l:=l) (bad:=bk) (bad':=bk) (J:=[_,_,_,_,_,_]) (x:=encAt (atM l (pos++x.1))) (vs':=[.ptr 0 0,encP (pos++x.1)]) (by rfl) (ren_encAt _) hA2 ?_
    unfold bldH
    cases hat:atM l (pos++x.1) with
    | none =>
     rw [hat] at hx1
     simp only [Option.isSome_none,Bool.false_and] at hx1
     rw [hx1,Bool.or_false] at hsn
     push_cast [encAt,List.cons_append,List.nil_append]
     refine ⟨rfl,?_⟩
     push_cast [cut,hsn]
    | some s2 =>
     rw [hat] at hx1
     simp only [Option.isSome_some,Bool.true_and] at hx1
     cases hv:x.2.var with
     | true =>
      rw [hv] at hx1
      simp only [Bool.not_true,Bool.false_and] at hx1
      rw [hx1,Bool.or_false] at hsn
      push_cast [encAt,List.cons_append,List.nil_append,hv]
      refine ⟨rfl,?_⟩
      push_cast [cut,hsn]
     | false =>
      rw [hv] at hx1
      simp only [Bool.not_false,Bool.true_and] at hx1
      by_cases hx0:0 < x.1.length
      ·have hxi:((0:Int) < (x.1.length:Int)) = True:=eq_true (by omega)
       rw [hx1,decide_eq_true hx0,Bool.or_true] at hsn
       push_cast [encAt,List.cons_append,List.nil_append,hv,hxi]
       refine ⟨rfl,?_⟩
       push_cast [cut,hsn]
      ·have hxi:((0:Int) < (x.1.length:Int)) = False:=eq_false (by omega)
       rw [hx1,decide_eq_false hx0,Bool.or_false] at hsn
       push_cast [encAt,List.cons_append,List.nil_append,hv,hxi]
       refine ⟨rfl,?_⟩
       push_cast [cut,hsn]
   ·refine callG_bld (r:=r) (l:=l) (bad:=bk) (bad':=bk) (J:=[_,_,_,_,_,_,_]) (x:=encAt (atM l (pos++x.1))) (vs':=[.ptr 0 0,encP (pos++x.1)]) (by rfl) (ren_encAt _) hA2 ?_
    unfold bldH
    cases hat:atM l (pos++x.1) with
    | none =>
     rw [hat] at hx1
     simp only [Option.isSome_none,Bool.false_and] at hx1
     rw [hx1,Bool.or_false] at hsn
     push_cast [encAt,List.cons_append,List.nil_append]
     refine ⟨rfl,?_⟩
     push_cast [cut,hsn]
    | some s2 =>
     rw [hat] at hx1
     simp only [Option.isSome_some,Bool.true_and] at hx1
     cases hv:x.2.var with
     | true =>
      rw [hv] at hx1
      simp only [Bool.not_true,Bool.false_and] at hx1
      rw [hx1,Bool.or_false] at hsn
      push_cast [encAt,List.cons_append,List.nil_append,hv]
      refine ⟨rfl,?_⟩
      push_cast [cut,hsn]
     | false =>
      rw [hv] at hx1
      simp only [Bool.not_false,Bool.true_and] at hx1
      by_cases hx0:0 < x.1.length
      ·have hxi:((0:Int) < (x.1.length:Int)) = True:=eq_true (by omega)
       rw [hx1,decide_eq_true hx0,Bool.or_true] at hsn
       push_cast [encAt,List.cons_append,List.nil_append,hv,hxi]
       refine ⟨rfl,?_⟩
       push_cast [cut,hsn]
      ·have hxi:((0:Int) < (x.1.length:Int)) = False:=eq_false (by omega)
       rw [hx1,decide_eq_false hx0,Bool.or_false] at hsn
       push_cast [encAt,List.cons_append,List.nil_append,hv,hxi]
       refine ⟨rfl,?_⟩
       push_cast [cut,hsn]
  ·rintro H1 rfl
   have htl:(visit (leftOf r s) []).take ((visit (leftOf r s) []).map encIt).length = visit (leftOf r s) []:=by rw [List.length_map,List.take_length]
   rw [htl]
   have hw:IntKind.i64.wrap (s.rule+1) = s.rule+1:=wrap64 (by have:=length_le_rbs r;omega) (by have:=length_le_rbs r;omega)
   push_cast [hw]
   refine .of (term_VarsOf_s [leftOf r s] (by simp [sizes];omega)) ?_
   push_cast
   have hvl:=varsOf_len [leftOf r s]
   have hsl:sizes [leftOf r s] = size (leftOf r s):=by simp [sizes]
   generalize hb0:(bad || (visit (leftOf r s) []).any (overB l pos)) = b0
   generalize hL:leftOf r s = L at *
   have hbs:∀ (v:Str) (p:List Int),p∈occM L v→subT t p = some (subD t p)∧size (subD t p)≤n∧size (subD t p) < 2^20∧(pos++p).length+size (subD t p) < 2^30∧MatS r l (subD t p) (pos++p)∧p.length < 2^30:=fun v p hpo=>by
    obtain ⟨g1,g2,g3⟩:=e8 v p hpo
    have h1:=subT_lt g1 g2
    have h2:=subT_fit p t _ g2
    rw [g3]
    exact ⟨g2,by omega,by omega,by rw [List.length_append];omega,hm.sub g2,by omega⟩
   have h9:=loop_up (n:=(varsOf [L]).length) (R:=fun k=>bldr.L7 (.ptr 1 0) (.ro (cT t) 0) (.ro [encP pos] 0) (.ptr 2 0) (.ro (cT L) 0) (.ptr 6 0) (encSs (varsOf [L])) (.int .i64 (varsOf [L]).length) (.int .i64 k) 1 [.cells t_multi_builder [encRs r,encSts l,.bool (b0 || ((varsOf [L]).take k).any fun v=>badB ((occM L v).map fun p=>buildM r l n (subD t p) (pos++p)))],.cells t_p_multi_builder [.ptr 0 0],.cells t_Multi [.int .i64 0,.str [],.bool false,.sl 4 []],.dead,.dead,.dead,.cells t_Multi [.int .i64 (s.rule+1),.str [],.bool false,ownL cM 7 4 (((varsOf [L]).take k).map fun v=>fstB ((occM L v).map fun p=>buildM r l n (subD t p) (pos++p)))],.arr t_Multi 4 k] (Ends 1 bldr.rs fun x H'=>x = encM res.1∧H' = [.cells t_multi_builder [encRs r,encSts l,.bool (bad || res.2)]])) ?_ ?_ 0 (by omega)
   ·simp only [List.take_zero,List.any_nil,Bool.or_false,List.map_nil] at h9
    exact h9
   ·intro k hk ih
    have hlen:(((varsOf [L]).take k).map fun v=>fstB ((occM L v).map fun p=>buildM r l n (subD t p) (pos++p))).length = k:=by simp;omega
    rw [take_succ_getD hk,List.any_append,List.map_append,← Bool.or_assoc] at ih
    simp only [List.any_cons,List.any_nil,Bool.or_false,List.map_cons,List.map_nil] at ih
    generalize (((varsOf [L]).take k).map fun v=>fstB ((occM L v).map fun p=>buildM r l n (subD t p) (pos++p))) = ms at ih hlen ⊢
    generalize (b0 || ((varsOf [L]).take k).any fun v=>badB ((occM L v).map fun p=>buildM r l n (subD t p) (pos++p))) = bk at ih ⊢
    refine bldr.G7 ?_
    generalize hv:(varsOf [L]).getD k default = v at ih
    push_cast [ilt hk,hv]
    refine .of (multi_occurrences_s L v (by omega)) ?_
    push_cast
    have hbs:=hbs v
    have hpl2:(occM L v).length≤2^30:=by
     have h1:=occW_len v (visit L [])
     rw [visit_len] at h1
     unfold occM;omega
    generalize occM L v = ps at hbs ih hpl2
    have hbd:∀ j,j < ps.length→(ps.map fun p=>buildM r l n (subD t p) (pos++p)).getD j (zM,false) = buildM r l n (subD t (ps.getD j default)) (pos++ps.getD j default):=fun j hj=>by simp [List.getD_eq_getElem?_getD,hj]
    have hB:badB (ps.map fun p=>buildM r l n (subD t p) (pos++p)) = ps.any fun p=>(buildM r l n (subD t p) (pos++p)).2 || !decide (fstB (ps.map fun p=>buildM r l n (subD t p) (pos++p)) = (buildM r l n (subD t p) (pos++p)).1):=by
     unfold badB;rw [List.any_map];rfl
    rw [hB] at ih
    generalize hF:fstB (ps.map fun p=>buildM r l n (subD t p) (pos++p)) = F at ih
    have hF0:ps = []→F = zM:=by rintro rfl;exact hF.symm
    have hF1:0 < ps.length→F = (buildM r l n (subD t (ps.getD 0 default)) (pos++ps.getD 0 default)).1:=fun h=>by rw [← hbd 0 h];exact hF.symm
    have hFz:0 < ps.length→msize F < 2^20:=fun h=>by
     obtain ⟨b1,b2,b3,b4,b5,b6⟩:=hbs _ (getD_mem h)
     have hSz:=(buildM_size hc n _ _ b2 b5).1
     rw [← hF1 h] at hSz
     omega
    have h8:=loop_up (n:=ps.length) (R:=fun j=>bldr.L5 (.ptr 1 0) (.ro (cT t) 0) (.ro [encP pos] 0) (.ptr 2 0) (.ro (cT L) 0) (.ptr 6 0) (.ptr 8 0) (encSs (varsOf [L])) (.int .i64 (varsOf [L]).length) (.int .i64 k) (encPs ps) (.int .i64 ps.length) (.int .i64 j) 1 [.cells t_multi_builder [encRs r,encSts l,.bool (bk || (ps.take j).any fun p=>(buildM r l n (subD t p) (pos++p)).2 || !decide (F = (buildM r l n (subD t p) (pos++p)).1))],.cells t_p_multi_builder [.ptr 0 0],.cells t_Multi [.int .i64 0,.str [],.bool false,.sl 4 []],.dead,.dead,.dead,.cells t_Multi [.int .i64 (s.rule+1),.str [],.bool false,ownL cM 7 4 ms],.arr t_Multi 4 k,.cells t_Multi (cM (if j = 0 then zM else F))] (Ends 1 bldr.rs fun x H'=>x = encM res.1∧H' = [.cells t_multi_builder [encRs r,encSts l,.bool (bad || res.2)]])) ?_ ?_ 0 (by omega)
    ·simp only [List.take_zero,List.any_nil,Bool.or_false,if_true] at h8
     exact h8
    ·intro j hj ihj
     rw [take_succ_getD hj,List.any_append,← Bool.or_assoc] at ihj
     simp only [List.any_cons,List.any_nil,Bool.or_false] at ihj
     rw [if_neg (by omega)] at ihj
     have hFz:=hFz (by omega)
     obtain ⟨b1,b2,b3,b4,b5,b6⟩:=hbs _ (getD_mem hj)
     have hF1:=fun h:j = 0=>(by subst h;exact hF1 hj:F = (buildM r l n (subD t (ps.getD j default)) (pos++ps.getD j default)).1)
     generalize (bk || (ps.take j).any fun p=>(buildM r l n (subD t p) (pos++p)).2 || !decide (F = (buildM r l n (subD t p) (pos++p)).1)) = bj at ihj ⊢
     refine bldr.G5 ?_
     generalize hq:ps.getD j default = q at *
     have hI:=ihn (subD t q) (pos++q) bj b2 b3 b4 b5
     have hSz:=(buildM_size hc n (subD t q) (pos++q) b2 b5).1
     generalize buildM r l n (subD t q) (pos++q) = bb at ihj hI hSz hF1
     push_cast [ilt hj,hq]
     refine .of (term_Sub_s t q (by omega)) ?_
     rw [b1]
     push_cast [encOT]
     refine .of (concat2 pos q (by rw [List.length_append] at b4;omega)) ?_
     push_cast
     refine ⟨?_,?_⟩
     ·refine callG_bld (r:=r) (l:=l) (bad:=bj) (bad':=bj || bb.2) (J:=[_,_,_,_,_,_,_,_,_]) (x:=encM bb.1) (vs':=[.ptr 0 0,encT (subD t q),encP (pos++q)]) (by rfl) (fun _=>ren_encM _) hI ?_
      unfold bldH
      by_cases hj0:j = 0
      ·have hFe:=hF1 hj0
       have hge:((0:Int) < (j:Int)) = False:=eq_false (by omega)
       have hje:((j:Int) = 0) = True:=eq_true (by omega)
       rw [hFe,decide_eq_true (rfl:bb.1 = bb.1),Bool.not_true,Bool.or_false] at ihj
       push_cast [List.cons_append,List.nil_append,hge,hje,w64 (show j < 2^62 by omega)]
       exact ihj
      ·have hge:((0:Int) < (j:Int)) = True:=eq_true (by omega)
       have hje:((j:Int) = 0) = False:=eq_false (by omega)
       rw [if_neg hj0]
       push_cast [List.cons_append,List.nil_append,hge]
       refine .of (multi_Equal_s F bb.1 (by omega)) ?_
       by_cases hFe:F = bb.1
       ·rw [decide_eq_true hFe,Bool.not_true,Bool.or_false] at ihj
        push_cast [eq_true hFe,hje,w64 (show j < 2^62 by omega)]
        exact ihj
       ·rw [decide_eq_false hFe,Bool.not_false,Bool.or_true,Bool.or_true] at ihj
        push_cast [eq_false hFe,hje,w64 (show j < 2^62 by omega)]
        exact ihj
     ·refine callG_bld (r:=r) (l:=l) (bad:=bj) (bad':=bj || bb.2) (J:=[_,_,_,_,_,_,_,_,_,_]) (x:=encM bb.1) (vs':=[.ptr 0 0,encT (subD t q),encP (pos++q)]) (by rfl) (fun _=>ren_encM _) hI ?_
      unfold bldH
      by_cases hj0:j = 0
      ·have hFe:=hF1 hj0
       have hge:((0:Int) < (j:Int)) = False:=eq_false (by omega)
       have hje:((j:Int) = 0) = True:=eq_true (by omega)
       rw [hFe,decide_eq_true (rfl:bb.1 = bb.1),Bool.not_true,Bool.or_false] at ihj
       push_cast [List.cons_append,List.nil_append,hge,hje,w64 (show j < 2^62 by omega)]
       exact ihj
      ·have hge:((0:Int) < (j:Int)) = True:=eq_true (by omega)
       have hje:((j:Int) = 0) = False:=eq_false (by omega)
       rw [if_neg hj0]
       push_cast [List.cons_append,List.nil_append,hge]
       refine .of (multi_Equal_s F bb.1 (by omega)) ?_
       by_cases hFe:F = bb.1
       ·rw [decide_eq_true hFe,Bool.not_true,Bool.or_false] at ihj
        push_cast [eq_true hFe,hje,w64 (show j < 2^62 by omega)]
        exact ihj
       ·rw [decide_eq_false hFe,Bool.not_false,Bool.or_true,Bool.or_true] at ihj
        push_cast [eq_false hFe,hje,w64 (show j < 2^62 by omega)]
        exact ihj
    ·refine bldr.G5 ?_
     push_cast [inlt (Nat.le_refl _),List.take_length,hlen,w64 (show k < 2^62 by omega)]
     have hFe:(if ps.length = 0 then zM else F) = F:=by
      split
      ·rename_i h;exact (hF0 (List.length_eq_zero_iff.1 h)).symm
      ·rfl
     rw [hFe]
     refine ⟨by unfold maxEls;omega,?_⟩
     exact ih
   ·refine bldr.G7 ?_
    push_cast [inlt (Nat.le_refl _),List.take_length]
    rw [← hres]
    dsimp only
    rw [← Bool.or_assoc,hb0]
    generalize ((varsOf [L]).map fun v=>fstB ((occM L v).map fun p=>buildM r l n (subD t p) (pos++p))) = ms
    generalize ((varsOf [L]).any fun v=>badB ((occM L v).map fun p=>buildM r l n (subD t p) (pos++p))) = bk
    exact ends_keep (x:=.agg [.int .i64 (s.rule+1),.str [],.bool false,ownL cM 7 4 ms]) (H:=[.cells t_multi_builder [encRs r,encSts l,.bool (b0 || bk)]]) (J:=[_,_,_,_,_,_,_]) ⟨rfl,rfl⟩ (by push_cast [bldr.rs]) ⟨by push_cast [cM_mk],rfl⟩
end Go.Dw
end
section
namespace Go.Dw
theorem multi_Bare_1_s (x s:AStep) (hx:x.pos.length < 2^62):PF n_multi_Bare_1 [encSt x,.ro (cSt s) 0] (.bool (decide (x.pos = s.pos))):=by
 refine pf_of multi_Bare_1.ok rfl ?_
 push_cast
 refine .of (slices_Equal_int_s x.pos s.pos hx) ?_
 push_cast
 exact pf_ret (by push_cast [multi_Bare_1.rs])
def dupB (l:List AStep):Bool:=(List.range l.length).any fun i=>(l.take i).any fun x=>decide (x.pos = (l.getD i default).pos)
def bareM (r:List ARule) (t:Term) (l:List AStep):Option AMulti × Int :=
 if (dupB l || (buildM r l (size t) t []).2) = true then (none,9) else (some (buildM r l (size t) t []).1,0)
theorem multi_Bare_s (r:List ARule) (t:Term) (l:List AStep) (hr:rbs r < 2^28) (hc:checkSystem r = 0) (hl:l.length≤4096) (hp:∀ s∈l,s.pos.length < 2^40) (hf:fits t = true) (hm:MatS r l t []) :
  PF n_multi_Bare [encRs r,encT t,encSts l] (encME (bareM r t l).1 (bareM r t l).2):=by
 have hz:=fits_size hf
 have hB:=builder_build_s r l hr hc (by omega) hp (size t) t [] (dupB l) (Nat.le_refl _) (by omega) (by simp;omega) hm
 obtain ⟨s1,s2⟩:=buildM_size hc (size t) t [] (Nat.le_refl _) hm
 have hfm:fitM (buildM r l (size t) t []).1 = true:=by
  unfold fits at hf
  unfold fitM
  rw [Bool.and_eq_true,decide_eq_true_eq,decide_eq_true_eq] at hf ⊢
  omega
 have hFt:=multi_Fit_s (buildM r l (size t) t []).1 (by omega)
 unfold fitE at hFt
 rw [hfm,if_pos rfl] at hFt
 unfold bareM
 generalize buildM r l (size t) t [] = bb at hB hFt ⊢
 generalize hres:(if (dupB l || bb.2) = true then (none,9) else (some bb.1,0):Option AMulti × Int) = res
 refine pf_of multi_Bare.ok rfl ?_
 push_cast
 have h9:=loop_up (n:=l.length) (R:=fun k=>multi_Bare.L4 (encSts l) (.ro (cT t) 0) (.ptr 0 0) (.ptr 1 0) (encSts l) (.int .i64 l.length) (.int .i64 k) 0 [.cells t_Multi [.int .i64 0,.str [],.bool false,.sl 4 []],.cells t_multi_builder [encRs r,encSts l,.bool ((List.range k).any fun i=>(l.take i).any fun x=>decide (x.pos = (l.getD i default).pos))]] (Ends 0 multi_Bare.rs fun x' H'=>x' = encME res.1 res.2∧H' = [])) ?_ ?_ 0 (by omega)
 ·simp only [List.range_zero,List.any_nil] at h9
  exact h9
 ·intro k hk ih
  rw [List.range_succ,List.any_append] at ih
  simp only [List.any_cons,List.any_nil,Bool.or_false] at ih
  generalize ((List.range k).any fun i=>(l.take i).any fun x=>decide (x.pos = (l.getD i default).pos)) = bk at ih ⊢
  have hC:=slices_ContainsFunc_s_Step_Step_s (p:=fun x=>decide (x.pos = (l.getD k default).pos)) (g:=n_multi_Bare_1) (caps:=[.ro (cSt (l.getD k default)) 0]) (fun _=>rfl) (l.take k) (by rw [List.length_take];omega) (fun a ha=>multi_Bare_1_s a _ (by have:=hp a (List.mem_of_mem_take ha);omega))
  refine multi_Bare.G4 ?_
  generalize hs:l.getD k default = s at ih hC
  push_cast [ilt hk,hs,Nat.sub_zero,List.drop_zero]
  refine ⟨⟨by omega,by omega⟩,?_⟩
  refine .of hC ?_
  cases hb:(l.take k).any fun x=>decide (x.pos = s.pos) with
  | true =>
   rw [hb,Bool.or_true] at ih
   push_cast [w64 (show k < 2^62 by omega)]
   exact ih
  | false =>
   rw [hb,Bool.or_false] at ih
   push_cast [w64 (show k < 2^62 by omega)]
   exact ih
 ·refine multi_Bare.G4 ?_
  push_cast [inlt (Nat.le_refl _)]
  change CallG _ _ _ _ _ _ _ _ _ _ [_,.cells t_multi_builder [encRs r,encSts l,.bool (dupB l)]]
  refine CallG.some [1] (by simp) (by simp) (R:=fun x' H'=>x' = encM bb.1∧H' = bldH r l (dupB l || bb.2)) ?_ ?_
  ·exact specF_func ▸ hB
  ·rintro x' H' ⟨rfl,rfl⟩ _
   have ht:∀ a b c:Ob,takeB [1] [a,b] [c] = [a,renOb (back [1] 2) c]:=fun _ _ _=>rfl
   unfold bldH
   rw [ht,ren_encM]
   cases hbb:(dupB l || bb.2) with
   | true =>
    rw [hbb,if_pos rfl] at hres
    push_cast
    rw [← hres]
    exact pf_ret (by push_cast [multi_Bare.rs];rfl)
   | false =>
    rw [hbb,if_neg (by simp)] at hres
    unfold encME at hFt
    push_cast
    refine .of hFt ?_
    push_cast
    rw [← hres]
    exact pf_ret (by push_cast [multi_Bare.rs];rfl)
end Go.Dw
end
section
namespace Go.Dw
theorem visits_mem {x:List Int × Term}:∀ (l:List Term) (q:List Int) (i k:Nat),k < l.length→x∈visit (l.getD k default) (q++[((i+k:Nat):Int)])→x∈visits l q i
 | [],q,i,k,hk,_=>by simp at hk
 | a :: l,q,i,0,_,h=>by simp only [visits,List.mem_append];exact .inl h
 | a :: l,q,i,k+1,hk,h=>by
  simp only [visits,List.mem_append]
  exact .inr (visits_mem l q (i+1) k (by simpa using hk) (by rw [show i+1+k = i+(k+1) by omega];exact h))
theorem visit_mem:∀ (p:List Int) (t x:Term) (q:List Int),subT t p = some x→(q++p,x)∈visit t q
 | [],t,x,q,h=>by cases h;rw [visit_eq,List.append_nil];simp
 | i :: p,t,x,q,h=>by
  simp only [subT] at h
  split at h
  ·rename_i hi
   have ih:=visit_mem p _ x (q++[i]) h
   rw [visit_eq]
   refine List.mem_cons_of_mem _ (visits_mem t.args q 0 i.toNat (by omega) ?_)
   rw [show ((0+i.toNat:Nat):Int) = i by omega]
   simpa using ih
  ·cases h
end Go.Dw
end
section
namespace Go.Dw
def linT (t:Term):Prop:=∀ v,count v t≤1
structure Ortho (r:List ARule):Prop where
 sys:checkSystem r = 0
 lin:∀ x∈r,linT x.left
 nov:∀ i j,i < r.length→j < r.length→∀ p y,subT (r.getD i default).left p = some y→y.var = false→¬ (i = j∧p = [])→∀ f g:Sub,app f y ≠ app g (r.getD j default).left
abbrev MSub:=Str→AMulti
mutual
def pl (g:MSub):Term→AMulti
 | .mk n v l=>if v then g n else .mk 0 n false (pls g l)
def pls (g:MSub):List Term→List AMulti
 | []=>[]
 | a :: l=>pl g a :: pls g l
end
theorem pls_map (g:MSub) (l:List Term):pls g l = l.map (pl g):=by induction l with | nil=>rfl | cons a l ih=>simp [pls,ih]
theorem pl_eq (g:MSub) (t:Term):pl g t = if t.var then g t.name else .mk 0 t.name false (t.args.map (pl g)):=by
 cases t with | mk n v l=>simp only [pl,pls_map,Term.var,Term.name,Term.args];rfl
theorem pl_var {g:MSub} {t:Term} (h:t.var = true):pl g t = g t.name:=by rw [pl_eq,if_pos h]
theorem pl_fun {g:MSub} {t:Term} (h:t.var = false):pl g t = .mk 0 t.name false (t.args.map (pl g)):=by rw [pl_eq,if_neg (by simp [h])]
theorem pl_congr {f g:MSub} (t:Term):(∀ v,occ v t = true→f v = g v)→pl f t = pl g t:=by
 induction t using term_ind with
 | h t ih =>
 intro h
 rw [pl_eq,pl_eq]
 split
 ·rename_i hv;exact h _ (uocc_iff.2 (.inl ⟨hv,rfl⟩))
 ·congr 1
  exact List.map_congr_left fun a ha=>ih a ha fun v hv=>h v (uocc_iff.2 (.inr ⟨a,ha,hv⟩))
def ofL {α:Type} [Inhabited α] (vars:List Str) (xs:List α):Str→α:=fun n=>xs.getD (ixS n vars) default
theorem plugMM_pl (vars:List Str) (xs:List AMulti) (t:Term):plugMM vars xs t = pl (ofL vars xs) t:=by
 induction t using term_ind with
 | h t ih =>
 rw [plugMM_eq,pl_eq]
 split
 ·rfl
 ·congr 1
  exact List.map_congr_left fun a ha=>ih a ha
theorem plugT_app (vars:List Str) (xs:List Term) (t:Term):plugT vars xs t = app (ofL vars xs) t:=by
 induction t using term_ind with
 | h t ih =>
 rw [plugT_eq,app_eq]
 split
 ·rfl
 ·congr 1
  exact List.map_congr_left fun a ha=>ih a ha
theorem ofL_map {α β:Type} [Inhabited α] [Inhabited β] {vars:List Str} {xs:List α} {f:α→β} (hl:xs.length = vars.length) {n:Str} (hn:n∈vars):ofL vars (xs.map f) n = f (ofL vars xs n):=by
 obtain ⟨h1,h2,h3⟩:=idxI_ix hn
 unfold ofL
 simp [List.getD_eq_getElem?_getD,show ixS n vars < xs.length by omega]
theorem ofL_vars {α:Type} [Inhabited α] {vars:List Str} (f:Str→α) {n:Str} (hn:n∈vars):ofL vars (vars.map f) n = f n:=by
 obtain ⟨h1,h2,h3⟩:=idxI_ix hn
 unfold ofL
 rw [List.getD_eq_getElem?_getD,List.getElem?_map,List.getElem?_eq_getElem h2]
 rw [List.getD_eq_getElem?_getD,List.getElem?_eq_getElem h2] at h3
 exact congrArg f h3
theorem ofL_get {α:Type} [Inhabited α] {vars:List Str} (hn:vars.Nodup) {xs:List α} {i:Nat} (hi:i < vars.length):ofL vars xs (vars.getD i default) = xs.getD i default:=by
 unfold ofL;rw [ixS_getD hn hi]
theorem ofL_mem {α:Type} [Inhabited α] {vars:List Str} {xs:List α} (hl:xs.length = vars.length) {n:Str} (hn:n∈vars):ofL vars xs n∈xs:=by
 obtain ⟨h1,h2,h3⟩:=idxI_ix hn
 exact getD_mem (by omega)
theorem side_pl {r:List ARule} {f:ARule→Term} {g:MSub} (t:Term):sideM r f (pl g t) = app (fun v=>sideM r f (g v)) t:=by
 induction t using term_ind with
 | h t ih =>
 cases hv:t.var with
 | true=>rw [pl_var hv,app_var hv]
 | false =>
  rw [pl_fun hv,app_fun hv,sideM_eq,if_pos (by rfl)]
  simp only [AMulti.name,AMulti.var,AMulti.args,List.map_map]
  congr 1
  exact List.map_congr_left fun a ha=>ih a ha
theorem side_rule {r:List ARule} {f:ARule→Term} (hv:∀ x∈r,∀ v,occ v (f x) = true→v∈varsOf [x.left]) {m:AMulti} (hm:OkM r m) (h0:0 < m.rule):sideM r f m = app (fun v=>sideM r f (ofL (varsOf [(ruleOf r m).left]) m.args v)) (f (ruleOf r m)):=by
 obtain ⟨k1,k2,k3,k4,k5,k6⟩:=hm.rule (by omega)
 rw [sideM_eq,if_neg (by omega),plugT_app]
 exact app_congr _ fun v h=>ofL_map k4 (hv _ k3 v h)
theorem app_inj {f g:Sub} (t:Term):app f t = app g t→∀ v,occ v t = true→vfl t = true→f v = g v:=by
 induction t using term_ind with
 | h t ih =>
 intro h v ho ht
 cases hv:t.var with
 | true=>rw [app_var hv,app_var hv] at h;rw [← (occ_var ht hv).1 ho];exact h
 | false =>
  rw [app_fun hv,app_fun hv] at h
  injection h with _ _ h
  obtain ⟨a,ha,h1⟩:=(occ_fun hv).1 ho
  exact ih a ha (List.map_inj_left.1 h a ha) v h1 (vfl_arg ht ha)
theorem count_occ' {v:Str} {t:Term}:occ v t = true ↔ 0 < count v t:=by
 have:=count_occ v t
 cases h:occ v t with
 | true=>rw [h] at this;simp only [Bool.not_true,decide_eq_false_iff_not] at this;simp;omega
 | false=>rw [h] at this;simp only [Bool.not_false,decide_eq_true_eq] at this;simp [this]
theorem counts_mem {v:Str} {l:List Term} {a:Term} (h:a∈l):count v a≤counts v l:=by
 induction l with
 | nil=>cases h
 | cons x l ih =>
  simp only [counts]
  rcases List.mem_cons.1 h with rfl | h
  ·omega
  ·have:=ih h;omega
theorem linT.arg {t a:Term} (h:linT t) (ha:a∈t.args):linT a:=fun v=>by
 have h1:=h v
 rw [count_eq] at h1
 have:=counts_mem (v:=v) ha
 omega
theorem OkM.rule0 {r:List ARule} {m:AMulti} (hm:OkM r m):0≤m.rule∧m.rule≤r.length:=by
 have h1:=allM_self hm.rg
 unfold rangedM at h1
 rw [Bool.and_eq_true,decide_eq_true_eq,decide_eq_true_eq] at h1
 exact h1
theorem sub_arg {t:Term} {i:Nat} (hi:i < t.args.length):subT t [(i:Int)] = some (t.args.getD i default):=by
 show (if 0≤(i:Int)∧(i:Int) < (t.args.length:Int) then subT (t.args.getD (i:Int).toNat default) [] else none) = _
 rw [if_pos (by omega),Int.toNat_natCast];rfl
theorem left_form {r:List ARule} (h:Ortho r) {i:Nat} (hi:i < r.length) (L:Term):∀ (p:List Int) (b:AMulti) (f:Sub),subT (r.getD i default).left p = some L→OkM r b→(p = []→b.rule = 0)→linT L→vfl L = true→sideM r ARule.left b = app f L →
  ∃ g:MSub,b = pl g L∧∀ v,occ v L = true→OkM r (g v)∧sideM r ARule.left (g v) = f v∧msize (g v)≤msize b:=by
 induction L using term_ind with
 | h L ih =>
 intro p b f hp hb hr hl hf hs
 cases hv:L.var with
 | true =>
  refine ⟨fun _=>b,by rw [pl_var hv],fun v ho=>⟨hb,?_,Nat.le_refl _⟩⟩
  rw [app_var hv] at hs
  rw [hs,(occ_var hf hv).1 ho]
 | false =>
  have h0:b.rule = 0:=by
   rcases Classical.em (b.rule = 0) with h0 | h0
   ·exact h0
   ·exfalso
    have hpos:=hb.rule_pos h0
    obtain ⟨k1,k2,k3,k4,k5,k6⟩:=hb.rule h0
    rw [side_rule (fun x _=>varsOf_left x) hb hpos] at hs
    exact h.nov i (b.rule - 1).toNat hi (by omega) p L hp hv (fun e=>h0 (hr e.2)) _ _ hs.symm
  rw [sideM_eq,if_pos h0,app_fun hv] at hs
  injection hs with e1 e2 e3
  have key:∀ (l:List Term) (bs:List AMulti),(∀ a∈l,a∈L.args)→(∀ x∈bs,x∈b.args)→(∀ v,counts v l≤1)→bs.map (sideM r ARule.left) = l.map (app f) →
    ∃ g:MSub,bs = l.map (pl g)∧∀ v,occs v l = true→OkM r (g v)∧sideM r ARule.left (g v) = f v∧msize (g v)≤msize b:=by
   intro l
   induction l with
   | nil =>
    intro bs _ _ _ he
    have:bs = []:=by simpa using he
    subst this
    exact ⟨fun _=>zM,rfl,fun v ho=>by simp [occs] at ho⟩
   | cons a l ihl =>
    intro bs hal hbl hc he
    cases bs with
    | nil=>simp at he
    | cons x bs =>
     simp only [List.map_cons,List.cons.injEq] at he
     have haL:=hal a (by simp)
     obtain ⟨k,hk,hka⟩:=List.getElem_of_mem haL
     have hsub:subT (r.getD i default).left (p++[(k:Int)]) = some a:=by
      rw [subT_app,hp]
      show subT L [(k:Int)] = _
      rw [sub_arg hk,List.getD_eq_getElem?_getD,List.getElem?_eq_getElem hk,hka];rfl
     have hxb:=hbl x (by simp)
     have hms:=msize_mem hxb
     have hmb:=msize_args b
     obtain ⟨g1,h1,h2⟩:=ih a haL (p++[(k:Int)]) x f hsub (hb.arg hxb) (fun e=>by simp at e) (hl.arg haL) (vfl_arg hf haL) he.1
     obtain ⟨g2,h3,h4⟩:=ihl bs (fun y hy=>hal y (by simp [hy])) (fun y hy=>hbl y (by simp [hy])) (fun v=>by have:=hc v;simp only [counts] at this;omega) he.2
     refine ⟨fun v=>if occ v a = true then g1 v else g2 v,?_,fun v ho=>?_⟩
     ·rw [List.map_cons]
      congr 1
      ·rw [h1];exact pl_congr a fun v hv=>(if_pos hv).symm
      ·rw [h3]
       refine List.map_congr_left fun c hc'=>pl_congr c fun v hv=>?_
       have h5:=hc v
       simp only [counts] at h5
       have h6:=counts_mem (v:=v) hc'
       have h7:=count_occ'.1 hv
       exact (if_neg fun e=>by have:=count_occ'.1 e;omega).symm
     ·by_cases c:occ v a = true
      ·dsimp only;rw [if_pos c]
       obtain ⟨q1,q2,q3⟩:=h2 v c
       exact ⟨q1,q2,by omega⟩
      ·dsimp only;rw [if_neg c]
       simp only [occs,Bool.or_eq_true] at ho
       exact h4 v (ho.resolve_left c)
  obtain ⟨g,h1,h2⟩:=key L.args b.args (fun a ha=>ha) (fun x hx=>hx) (fun v=>by have:=hl v;rw [count_eq] at this;omega) e3
  refine ⟨g,?_,fun v ho=>h2 v ?_⟩
  ·rw [pl_fun hv,← h1,← e1,← e2,← h0];exact b.eta.symm
  ·rw [occ_eq,hv] at ho;simpa using ho
end Go.Dw
end
section
namespace Go.Dw
theorem posTs_head:∀ (l:List Term) (i:Nat) (p:List Int),p∈posTs l i→∃ (k:Nat) (q:List Int),p = ((i+k:Nat):Int) :: q∧k < l.length∧q∈posT (l.getD k default)
 | [],_,_,h=>by cases h
 | a :: l,i,p,h=>by
  simp only [posTs,List.mem_append,List.mem_map] at h
  rcases h with ⟨q,hq,rfl⟩ | h
  ·exact ⟨0,q,rfl,by simp,hq⟩
  ·obtain ⟨k,q,h1,h2,h3⟩:=posTs_head l (i+1) p h
   exact ⟨k+1,q,by rw [h1];congr 2;omega,by simpa using h2,by simpa using h3⟩
mutual
theorem posT_nodup:∀ t:Term,(posT t).Nodup
 | .mk n v l=>by
  simp only [posT]
  refine List.nodup_cons.2 ⟨fun h=>?_,posTs_nodup l 0⟩
  obtain ⟨k,q,h1,_⟩:=posTs_head l 0 [] h
  cases h1
theorem posTs_nodup:∀ (l:List Term) (i:Nat),(posTs l i).Nodup
 | [],_=>List.nodup_nil
 | a :: l,i=>by
  simp only [posTs]
  refine List.nodup_append.2 ⟨?_,posTs_nodup l (i+1),fun p hp q hq e=>?_⟩
  ·have:=posT_nodup a
   rw [List.Nodup,List.pairwise_map]
   exact this.imp fun h e=>h (by injection e)
  ·obtain ⟨p',_,rfl⟩:=List.mem_map.1 hp
   obtain ⟨k,q',h1,_⟩:=posTs_head l (i+1) q hq
   rw [h1] at e
   injection e with e _
   omega
end
end Go.Dw
end
section
namespace Go.Dw
theorem okM_rule {r:List ARule} {k:Int} {ms:List AMulti} (h0:0≤k) (h1:k < r.length) (hl:ms.length = (varsOf [(r.getD k.toNat default).left]).length) (h:∀ a∈ms,OkM r a):OkM r (.mk (k+1) [] false ms):=by
 constructor
 ·rw [allM_eq,Bool.and_eq_true]
  refine ⟨?_,List.all_eq_true.2 fun a ha=>(h a ha).rg⟩
  unfold rangedM
  rw [Bool.and_eq_true,decide_eq_true_eq,decide_eq_true_eq]
  show 0≤k+1∧k+1≤(r.length:Int)
  omega
 ·rw [allM_eq,Bool.and_eq_true]
  refine ⟨?_,List.all_eq_true.2 fun a ha=>(h a ha).fm⟩
  unfold formedM
  have hk:(AMulti.mk (k+1) [] false ms).rule = k+1:=rfl
  rw [hk,if_pos (by omega)]
  have hru:ruleOf r (.mk (k+1) [] false ms) = r.getD k.toNat default:=by unfold ruleOf;rw [hk,show k+1 - 1 = k by omega]
  rw [hru]
  simp [AMulti.name,AMulti.var,AMulti.args,hl]
theorem subT_occ:∀ (p:List Int) (t y:Term),subT t p = some y→y.var = true→occ y.name t = true
 | [],t,y,h,hv=>by cases h;rw [occ_eq,hv];simp
 | i :: p,t,y,h,hv=>by
  simp only [subT] at h
  split at h
  ·rename_i hi
   have h1:=subT_occ p _ y h hv
   rw [occ_eq,occs_mem (getD_mem (by omega)) h1];simp
  ·cases h
end Go.Dw
end
section
namespace Go.Dw
def lft (r:List ARule) (k:Nat):Term:=(r.getD k default).left
def rgt (r:List ARule) (k:Nat):Term:=(r.getD k default).right
def vrs (r:List ARule) (k:Nat):List Str:=varsOf [lft r k]
def ru (r:List ARule) (k:Nat) (g:MSub):AMulti:=.mk ((k:Int)+1) [] false ((vrs r k).map g)
def fm (r:List ARule) (k:Nat) (b:Bool) (g:MSub):AMulti:=if b then ru r k g else pl g (lft r k)
theorem mem_vrs {r:List ARule} {k:Nat} {v:Str}:v∈vrs r k ↔ occ v (lft r k) = true:=mem_varsOf v (lft r k)
theorem ruleOf_ru (r:List ARule) (k:Nat) (g:MSub):ruleOf r (ru r k g) = r.getD k default:=by
 unfold ruleOf ru
 show r.getD ((k:Int)+1 - 1).toNat default = _
 rw [show (k:Int)+1 - 1 = k by omega,Int.toNat_natCast]
theorem ru_rule (r:List ARule) (k:Nat) (g:MSub):(ru r k g).rule = (k:Int)+1:=rfl
theorem ru_args (r:List ARule) (k:Nat) (g:MSub):(ru r k g).args = (vrs r k).map g:=rfl
section
variable {r:List ARule} (h:Ortho r)
include h
theorem Ortho.left {k:Nat} (hk:k < r.length):(lft r k).var = false∧vfl (lft r k) = true∧linT (lft r k)∧formed (lft r k) = true∧formed (rgt r k) = true∧vfl (rgt r k) = true∧∀ v,occ v (rgt r k) = true→v∈vrs r k:=by
 have hm:=getD_mem (l:=r) hk
 have h1:=checkSystem_sides h.sys _ hm
 exact ⟨checkSystem_nv h.sys _ hm,short_vfl _ (checkSystem_good h.sys _ hm).1.1,h.lin _ hm,(check_iff.1 h1.1).1,(check_iff.1 h1.2).1,short_vfl _ (checkSystem_good h.sys _ hm).2.1,varsOf_right h.sys _ hm⟩
omit h in
theorem okM_fun {r:List ARule} {n:Str} {ms:List AMulti} (hn:isName n true = true) (hl:ms.length≤8) (ha:∀ a∈ms,OkM r a):OkM r (.mk 0 n false ms):=by
 constructor
 ·rw [allM_eq,Bool.and_eq_true]
  exact ⟨by simp [rangedM,AMulti.rule],List.all_eq_true.2 fun a h=>(ha a h).rg⟩
 ·rw [allM_eq,Bool.and_eq_true]
  exact ⟨by simp [formedM,AMulti.rule,AMulti.var,AMulti.name,AMulti.args,hn,hl],List.all_eq_true.2 fun a h=>(ha a h).fm⟩
omit h in
theorem okM_pl {r:List ARule} {g:MSub} (t:Term):formed t = true→(∀ v,occ v t = true→OkM r (g v))→OkM r (pl g t):=by
 induction t using term_ind with
 | h t ih =>
 intro ht hg
 obtain ⟨h1,h2⟩:=formed_iff.1 ht
 cases hv:t.var with
 | true=>rw [pl_var hv];exact hg _ (uocc_iff.2 (.inl ⟨hv,rfl⟩))
 | false =>
  rw [hv] at h1
  simp only [nodeOk,Bool.false_eq_true,if_false,Bool.and_eq_true,decide_eq_true_eq] at h1
  rw [pl_fun hv]
  refine okM_fun h1.2 (by simp;omega) fun c hc=>?_
  obtain ⟨a,ha,rfl⟩:=List.mem_map.1 hc
  exact ih a ha (h2 a ha) fun v hv=>hg v (uocc_iff.2 (.inr ⟨a,ha,hv⟩))
omit h in
theorem okM_ru {r:List ARule} {k:Nat} (hk:k < r.length) {g:MSub} (hg:∀ v∈vrs r k,OkM r (g v)):OkM r (ru r k g):=by
 refine okM_rule (by omega) (by omega) ?_ fun a ha=>?_
 ·rw [List.length_map];unfold vrs lft;rw [Int.toNat_natCast]
 ·obtain ⟨v,hv,rfl⟩:=List.mem_map.1 ha
  exact hg v hv
theorem Ortho.ok_fm {k:Nat} (hk:k < r.length) {b:Bool} {g:MSub} (hg:∀ v∈vrs r k,OkM r (g v)):OkM r (fm r k b g):=by
 cases b with
 | true=>exact okM_ru hk hg
 | false=>exact okM_pl _ (h.left hk).2.2.2.1 fun v hv=>hg v (mem_vrs.2 hv)
omit h in
theorem side_ru {r:List ARule} {F:ARule→Term} {k:Nat} {g:MSub} (hv:∀ v,occ v (F (r.getD k default)) = true→v∈vrs r k):sideM r F (ru r k g) = app (fun v=>sideM r F (g v)) (F (r.getD k default)):=by
 rw [sideM_eq,if_neg (by rw [ru_rule];omega),ruleOf_ru,plugT_app,ru_args]
 refine app_congr _ fun v ho=>?_
 show ofL (vrs r k) _ v = _
 rw [List.map_map,ofL_vars _ (hv v ho)];rfl
theorem Ortho.src_fm {k:Nat} (hk:k < r.length) {b:Bool} {g:MSub}:sideM r ARule.left (fm r k b g) = app (fun v=>sideM r ARule.left (g v)) (lft r k):=by
 have hSys := h.sys
 cases b with
 | true=>exact side_ru fun v hv=>mem_vrs.2 hv
 | false=>exact side_pl _
theorem Ortho.tgt_fm {k:Nat} (hk:k < r.length) {b:Bool} {g:MSub}:sideM r ARule.right (fm r k b g) = app (fun v=>sideM r ARule.right (g v)) (if b then rgt r k else lft r k):=by
 cases b with
 | true=>exact side_ru (h.left hk).2.2.2.2.2.2
 | false=>exact side_pl _
omit h in
theorem rule_is {r:List ARule} {a:AMulti} (ha:OkM r a) (h0:0 < a.rule):∃ k,k < r.length∧a.rule = (k:Int)+1∧a = ru r k (ofL (vrs r k) a.args)∧a.args.length = (vrs r k).length:=by
 obtain ⟨k1,k2,k3,k4,k5,k6⟩:=ha.rule (by omega)
 have hvs:vrs r (a.rule - 1).toNat = varsOf [(ruleOf r a).left]:=rfl
 refine ⟨(a.rule - 1).toNat,by omega,by omega,?_,by rw [hvs];exact k4⟩
 have hmap:(vrs r (a.rule - 1).toNat).map (ofL (vrs r (a.rule - 1).toNat) a.args) = a.args:=by
  apply List.ext_getElem (by rw [List.length_map,hvs];omega)
  intro i h1 h2
  rw [List.getElem_map]
  have hi:i < (vrs r (a.rule - 1).toNat).length:=by simpa using h1
  have:=ofL_get (vars:=vrs r (a.rule - 1).toNat) (varsOf_nodup _) (xs:=a.args) hi
  rw [List.getD_eq_getElem?_getD,List.getElem?_eq_getElem hi,List.getD_eq_getElem?_getD,List.getElem?_eq_getElem h2] at this
  exact this
 unfold ru
 rw [hmap,← k5,← k6,show (((a.rule - 1).toNat:Nat):Int)+1 = a.rule by omega]
 exact a.eta.symm
theorem Ortho.form {a b:AMulti} (ha:OkM r a) (hb:OkM r b) {k:Nat} (hk:k < r.length) {f:MSub} (hf:a = ru r k f) (hs:sideM r ARule.left b = sideM r ARule.left a) :
  ∃ (β:Bool) (g:MSub),b = fm r k β g∧(β = true ↔ 0 < b.rule)∧∀ v∈vrs r k,OkM r (g v)∧sideM r ARule.left (g v) = sideM r ARule.left (f v)∧msize (g v)≤msize b:=by
 have hsa:sideM r ARule.left a = app (fun v=>sideM r ARule.left (f v)) (lft r k):=(congrArg (sideM r ARule.left) hf).trans (side_ru fun v hv=>mem_vrs.2 hv)
 obtain ⟨q1,q2,q3,q4,q5,q6⟩:=h.left hk
 by_cases h0:0 < b.rule
 ·obtain ⟨j,hj,hjr,hbj,hlen⟩:=rule_is hb h0
  have hjk:k = j:=by
   rcases Classical.em (k = j) with e | e
   ·exact e
   ·exfalso
    have hsb:sideM r ARule.left b = app (fun v=>sideM r ARule.left (ofL (vrs r j) b.args v)) (lft r j):=(congrArg (sideM r ARule.left) hbj).trans (side_ru fun v hv=>mem_vrs.2 hv)
    exact h.nov k j hk hj [] (lft r k) rfl q1 (fun e2=>e e2.1) _ _ (hsa.symm.trans (hs.symm.trans hsb))
  subst hjk
  refine ⟨true,ofL (vrs r k) b.args,hbj,by simp [h0],fun v hv=>?_⟩
  have hm:=ofL_mem hlen hv
  refine ⟨hb.arg hm,?_,Nat.le_of_lt (by have:=msize_mem hm;have:=msize_args b;omega)⟩
  have hsb:sideM r ARule.left b = app (fun v=>sideM r ARule.left (ofL (vrs r k) b.args v)) (lft r k):=(congrArg (sideM r ARule.left) hbj).trans (side_ru fun v hv=>mem_vrs.2 hv)
  exact app_inj (lft r k) (hsb.symm.trans (hs.trans hsa)) v (mem_vrs.1 hv) q2
 ·have h0':b.rule = 0:=by have:=hb.rule0.1;omega
  obtain ⟨g,h1,h2⟩:=left_form h hk (lft r k) [] b _ rfl hb (fun _=>h0') q3 q2 (hs.trans hsa)
  exact ⟨false,g,h1,by simp [h0],fun v hv=>h2 v (mem_vrs.1 hv)⟩
omit h in
theorem node_form {r:List ARule} {a b:AMulti} (ha:a.rule = 0) (hb:b.rule = 0) (hs:sideM r ARule.left b = sideM r ARule.left a):b = .mk 0 a.name a.var b.args∧b.args.map (sideM r ARule.left) = a.args.map (sideM r ARule.left):=by
 rw [sideM_eq,if_pos hb,sideM_eq,if_pos ha] at hs
 injection hs with e1 e2 e3
 refine ⟨?_,e3⟩
 rw [← e1,← e2,← hb];exact b.eta.symm
end
def underM (vars:List Str) (L:Term) (b:AMulti):List AMulti:=vars.map fun v=>nodeM b ((occM L v).getD 0 [])
theorem msize_pos (m:AMulti):0 < msize m:=by have:=msize_args m;omega
theorem nodeM_size:∀ (p:List Int) (m:AMulti),msize (nodeM m p)≤msize m
 | [],m=>Nat.le_refl _
 | i :: p,m=>by
  show msize (nodeM (m.args.getD i.toNat default) p)≤_
  have h1:=nodeM_size p (m.args.getD i.toNat default)
  by_cases hi:i.toNat < m.args.length
  ·have h2:=msize_mem (getD_mem hi)
   have h3:=msize_args m
   omega
  ·have e:m.args.getD i.toNat default = default:=by simp [List.getD_eq_getElem?_getD,show m.args.length≤i.toNat by omega]
   rw [e] at h1 ⊢
   have e2:msize (default:AMulti) = 1:=rfl
   have:=msize_pos m
   omega
theorem node_pl {g:MSub}:∀ (p:List Int) (L y:Term),vfl L = true→subT L p = some y→nodeM (pl g L) p = pl g y
 | [],L,y,_,h=>by cases h;rfl
 | i :: p,L,y,hf,h=>by
  simp only [subT] at h
  split at h
  ·rename_i hi
   have hv:L.var = false:=by
    cases hv:L.var with
    | false=>rfl
    | true=>rw [(vfl_iff.1 hf).1 hv] at hi;simp at hi;omega
   have hk:i.toNat < L.args.length:=by omega
   rw [pl_fun hv]
   show nodeM ((L.args.map (pl g)).getD i.toNat default) p = _
   have e:(L.args.map (pl g)).getD i.toNat default = pl g (L.args.getD i.toNat default):=by simp [List.getD_eq_getElem?_getD,hk]
   rw [e]
   exact node_pl p _ y (vfl_arg hf (getD_mem hk)) h
  ·cases h
theorem under_pl {L:Term} (hf:vfl L = true) (g:MSub):underM (varsOf [L]) L (pl g L) = (varsOf [L]).map g:=by
 refine List.map_congr_left fun v hv=>?_
 have hne:occM L v ≠ []:=by rw [occM_R];exact occR_some v _ ((mem_varsOf _ _).1 hv)
 generalize hps:occM L v = ps at hne
 cases ps with
 | nil=>exact absurd rfl hne
 | cons p ps =>
  obtain ⟨y,h1,h2,h3⟩:=occM_at (show p∈occM L v by rw [hps];simp)
  show nodeM _ p = _
  rw [node_pl p L y hf h1,pl_var h2,h3]
def restM (r:List ARule):Nat→AMulti→AMulti→AMulti
 | 0,_,_=>zM
 | n+1,a,b =>
  if 0 < b.rule then plugMM (varsOf [(ruleOf r b).left]) (List.zipWith (restM r n) (if 0 < a.rule then a.args else underM (varsOf [(ruleOf r b).left]) (ruleOf r b).left a) b.args) (ruleOf r b).right
  else if 0 < a.rule then .mk a.rule [] false (List.zipWith (restM r n) a.args (underM (varsOf [(ruleOf r a).left]) (ruleOf r a).left b))
  else .mk 0 a.name a.var (List.zipWith (restM r n) a.args b.args)
def unionM (r:List ARule):Nat→AMulti→AMulti→AMulti
 | 0,_,_=>zM
 | n+1,a,b =>
  if 0 < b.rule then .mk b.rule [] false (List.zipWith (unionM r n) (if 0 < a.rule then a.args else underM (varsOf [(ruleOf r b).left]) (ruleOf r b).left a) b.args)
  else if 0 < a.rule then .mk a.rule [] false (List.zipWith (unionM r n) a.args (underM (varsOf [(ruleOf r a).left]) (ruleOf r a).left b))
  else .mk 0 a.name a.var (List.zipWith (unionM r n) a.args b.args)
theorem zip_congr {α β γ:Type} {f g:α→β→γ}:∀ {l:List α} {m:List β},(∀ x∈l,∀ y∈m,f x y = g x y)→List.zipWith f l m = List.zipWith g l m
 | [],_,_=>by simp
 | _ :: _,[],_=>by simp
 | a :: l,b :: m,h=>by
  simp only [List.zipWith_cons_cons]
  rw [h a (by simp) b (by simp),zip_congr fun x hx y hy=>h x (by simp [hx]) y (by simp [hy])]
theorem zip_map {α β γ δ:Type} {f:β→γ→δ} {g:α→β} {k:α→γ} (l:List α):List.zipWith f (l.map g) (l.map k) = l.map fun x=>f (g x) (k x):=by
 induction l with
 | nil=>rfl
 | cons a l ih=>simp [ih]
theorem under_mem {vars:List Str} {L:Term} {a x:AMulti} (h:x∈underM vars L a):msize x≤msize a:=by
 obtain ⟨v,_,rfl⟩:=List.mem_map.1 h
 exact nodeM_size _ _
theorem arg_lt {a x:AMulti} (h:x∈a.args):msize x < msize a:=by have:=msize_mem h;have:=msize_args a;omega
theorem restM_fuel (r:List ARule):∀ (n m:Nat) (a b:AMulti),msize a+msize b≤n→msize a+msize b≤m→restM r n a b = restM r m a b
 | 0,_,a,b,h,_=>by have:=msize_pos a;omega
 | _+1,0,a,b,_,h=>by have:=msize_pos a;omega
 | n+1,m+1,a,b,h1,h2=>by
  simp only [restM]
  split
  ·congr 1
   refine zip_congr fun x hx y hy=>restM_fuel r n m x y ?_ ?_ <;>
   ·have:=arg_lt hy
    split at hx
    ·have:=arg_lt hx;omega
    ·have:=under_mem hx;omega
  ·split
   ·congr 1
    refine zip_congr fun x hx y hy=>restM_fuel r n m x y ?_ ?_ <;>
    ·have:=arg_lt hx
     have:=under_mem hy;omega
   ·congr 1
    refine zip_congr fun x hx y hy=>restM_fuel r n m x y ?_ ?_ <;>
    ·have:=arg_lt hx
     have:=arg_lt hy;omega
theorem unionM_fuel (r:List ARule):∀ (n m:Nat) (a b:AMulti),msize a+msize b≤n→msize a+msize b≤m→unionM r n a b = unionM r m a b
 | 0,_,a,b,h,_=>by have:=msize_pos a;omega
 | _+1,0,a,b,_,h=>by have:=msize_pos a;omega
 | n+1,m+1,a,b,h1,h2=>by
  simp only [unionM]
  split
  ·congr 1
   refine zip_congr fun x hx y hy=>unionM_fuel r n m x y ?_ ?_ <;>
   ·have:=arg_lt hy
    split at hx
    ·have:=arg_lt hx;omega
    ·have:=under_mem hx;omega
  ·split
   ·congr 1
    refine zip_congr fun x hx y hy=>unionM_fuel r n m x y ?_ ?_ <;>
    ·have:=arg_lt hx
     have:=under_mem hy;omega
   ·congr 1
    refine zip_congr fun x hx y hy=>unionM_fuel r n m x y ?_ ?_ <;>
    ·have:=arg_lt hx
     have:=arg_lt hy;omega
def rest (r:List ARule) (a b:AMulti):AMulti:=restM r (msize a+msize b) a b
def uni (r:List ARule) (a b:AMulti):AMulti:=unionM r (msize a+msize b) a b
theorem rest_eq (r:List ARule) (a b:AMulti):rest r a b =
  if 0 < b.rule then plugMM (varsOf [(ruleOf r b).left]) (List.zipWith (rest r) (if 0 < a.rule then a.args else underM (varsOf [(ruleOf r b).left]) (ruleOf r b).left a) b.args) (ruleOf r b).right
  else if 0 < a.rule then .mk a.rule [] false (List.zipWith (rest r) a.args (underM (varsOf [(ruleOf r a).left]) (ruleOf r a).left b))
  else .mk 0 a.name a.var (List.zipWith (rest r) a.args b.args):=by
 have e:rest r a b = restM r (msize a+msize b+1) a b:=restM_fuel r _ _ a b (Nat.le_refl _) (by omega)
 rw [e]
 simp only [restM]
 split
 ·congr 1
  refine zip_congr fun x hx y hy=>restM_fuel r _ _ x y ?_ (Nat.le_refl _)
  have:=arg_lt hy
  split at hx
  ·have:=arg_lt hx;omega
  ·have:=under_mem hx;omega
 ·split
  ·congr 1
   refine zip_congr fun x hx y hy=>restM_fuel r _ _ x y ?_ (Nat.le_refl _)
   have:=arg_lt hx
   have:=under_mem hy;omega
  ·congr 1
   refine zip_congr fun x hx y hy=>restM_fuel r _ _ x y ?_ (Nat.le_refl _)
   have:=arg_lt hx
   have:=arg_lt hy;omega
theorem uni_eq (r:List ARule) (a b:AMulti):uni r a b =
  if 0 < b.rule then .mk b.rule [] false (List.zipWith (uni r) (if 0 < a.rule then a.args else underM (varsOf [(ruleOf r b).left]) (ruleOf r b).left a) b.args)
  else if 0 < a.rule then .mk a.rule [] false (List.zipWith (uni r) a.args (underM (varsOf [(ruleOf r a).left]) (ruleOf r a).left b))
  else .mk 0 a.name a.var (List.zipWith (uni r) a.args b.args):=by
 have e:uni r a b = unionM r (msize a+msize b+1) a b:=unionM_fuel r _ _ a b (Nat.le_refl _) (by omega)
 rw [e]
 simp only [unionM]
 split
 ·congr 1
  refine zip_congr fun x hx y hy=>unionM_fuel r _ _ x y ?_ (Nat.le_refl _)
  have:=arg_lt hy
  split at hx
  ·have:=arg_lt hx;omega
  ·have:=under_mem hx;omega
 ·split
  ·congr 1
   refine zip_congr fun x hx y hy=>unionM_fuel r _ _ x y ?_ (Nat.le_refl _)
   have:=arg_lt hx
   have:=under_mem hy;omega
  ·congr 1
   refine zip_congr fun x hx y hy=>unionM_fuel r _ _ x y ?_ (Nat.le_refl _)
   have:=arg_lt hx
   have:=arg_lt hy;omega
theorem rest_node (r:List ARule) (n:Str) (v:Bool) (la lb:List AMulti) (n':Str) (v':Bool):rest r (.mk 0 n v la) (.mk 0 n' v' lb) = .mk 0 n v (List.zipWith (rest r) la lb):=by
 rw [rest_eq,if_neg (by simp [AMulti.rule]),if_neg (by simp [AMulti.rule])];rfl
theorem uni_node (r:List ARule) (n:Str) (v:Bool) (la lb:List AMulti) (n':Str) (v':Bool):uni r (.mk 0 n v la) (.mk 0 n' v' lb) = .mk 0 n v (List.zipWith (uni r) la lb):=by
 rw [uni_eq,if_neg (by simp [AMulti.rule]),if_neg (by simp [AMulti.rule])];rfl
theorem rest_pl (r:List ARule) (f g:MSub) (t:Term):rest r (pl f t) (pl g t) = pl (fun v=>rest r (f v) (g v)) t:=by
 induction t using term_ind with
 | h t ih =>
 cases hv:t.var with
 | true=>rw [pl_var hv,pl_var hv,pl_var hv]
 | false =>
  rw [pl_fun hv,pl_fun hv,pl_fun hv,rest_node,zip_map]
  congr 1
  exact List.map_congr_left fun a ha=>ih a ha
theorem uni_pl (r:List ARule) (f g:MSub) (t:Term):uni r (pl f t) (pl g t) = pl (fun v=>uni r (f v) (g v)) t:=by
 induction t using term_ind with
 | h t ih =>
 cases hv:t.var with
 | true=>rw [pl_var hv,pl_var hv,pl_var hv]
 | false =>
  rw [pl_fun hv,pl_fun hv,pl_fun hv,uni_node,zip_map]
  congr 1
  exact List.map_congr_left fun a ha=>ih a ha
theorem pl_rule {g:MSub} {t:Term} (h:t.var = false):(pl g t).rule = 0:=by rw [pl_fun h];rfl
theorem rest_fm {r:List ARule} (h:Ortho r) {k:Nat} (hk:k < r.length) (α β:Bool) (f g:MSub):rest r (fm r k α f) (fm r k β g) = if β then pl (fun v=>rest r (f v) (g v)) (rgt r k) else fm r k α (fun v=>rest r (f v) (g v)):=by
 obtain ⟨q1,q2,q3,q4,q5,q6,q7⟩:=h.left hk
 cases β with
 | true =>
  have hb:fm r k true g = ru r k g:=rfl
  rw [hb,rest_eq,if_pos (by rw [ru_rule];omega),ruleOf_ru,ru_args]
  have hx:(if 0 < (fm r k α f).rule then (fm r k α f).args else underM (varsOf [(r.getD k default).left]) (r.getD k default).left (fm r k α f)) = (vrs r k).map f:=by
   cases α with
   | true=>exact if_pos (by show 0 < (ru r k f).rule;rw [ru_rule];omega)
   | false =>
    rw [if_neg (by show ¬ 0 < (pl f (lft r k)).rule;rw [pl_rule q1];omega)]
    exact under_pl q2 f
  rw [hx,zip_map,plugMM_pl]
  exact pl_congr _ fun v hv=>ofL_vars _ (q7 v hv)
 | false =>
  cases α with
  | false=>exact rest_pl r f g _
  | true =>
   have ha:fm r k true f = ru r k f:=rfl
   have hb:fm r k false g = pl g (lft r k):=rfl
   rw [ha,hb,rest_eq,if_neg (by rw [pl_rule q1];omega),if_pos (by rw [ru_rule];omega),ruleOf_ru,ru_args]
   have:underM (varsOf [(r.getD k default).left]) (r.getD k default).left (pl g (lft r k)) = (vrs r k).map g:=under_pl q2 g
   rw [this,zip_map];rfl
theorem uni_fm {r:List ARule} (h:Ortho r) {k:Nat} (hk:k < r.length) (α β:Bool) (f g:MSub):uni r (fm r k α f) (fm r k β g) = fm r k (α || β) (fun v=>uni r (f v) (g v)):=by
 obtain ⟨q1,q2,q3,q4,q5,q6,q7⟩:=h.left hk
 cases β with
 | true =>
  have hb:fm r k true g = ru r k g:=rfl
  rw [hb,uni_eq,if_pos (by rw [ru_rule];omega),ruleOf_ru,ru_args,Bool.or_true]
  have hx:(if 0 < (fm r k α f).rule then (fm r k α f).args else underM (varsOf [(r.getD k default).left]) (r.getD k default).left (fm r k α f)) = (vrs r k).map f:=by
   cases α with
   | true=>exact if_pos (by show 0 < (ru r k f).rule;rw [ru_rule];omega)
   | false =>
    rw [if_neg (by show ¬ 0 < (pl f (lft r k)).rule;rw [pl_rule q1];omega)]
    exact under_pl q2 f
  rw [hx,zip_map];rfl
 | false =>
  cases α with
  | false=>exact uni_pl r f g _
  | true =>
   have ha:fm r k true f = ru r k f:=rfl
   have hb:fm r k false g = pl g (lft r k):=rfl
   rw [ha,hb,uni_eq,if_neg (by rw [pl_rule q1];omega),if_pos (by rw [ru_rule];omega),ruleOf_ru,ru_args]
   have:underM (varsOf [(r.getD k default).left]) (r.getD k default).left (pl g (lft r k)) = (vrs r k).map g:=under_pl q2 g
   rw [this,zip_map];rfl
end Go.Dw
end
section
namespace Go.Dw
theorem scan_all {β:Type} {G:List AOv→β→List AOv × Int}:∀ (l:List β),MonO G l→scanE G [] l = ([],0)→∀ y∈l,G [] y = ([],0)
 | [],_,_,y,hy=>by cases hy
 | z :: l,hm,h,y,hy=>by
  simp only [scanE] at h
  rcases hm [] z (by simp) with h1 | ⟨h1,h2⟩
  ·rw [if_pos (by rw [h1];decide)] at h
   have:=congrArg Prod.snd h
   simp only at this
   rw [h1] at this;cases this
  ·rw [if_neg (by rw [h1];decide)] at h
   have h3:(G [] z).1 = []:=by
    rcases scan_mono l (G [] z).1 fun o w hw=>hm o w (by simp [hw]) with h4 | ⟨h4,h5⟩
    ·rw [h] at h4;cases h4
    ·rw [h] at h5
     exact List.length_eq_zero_iff.1 (by simpa using h5)
   have h4:G [] z = ([],0):=Prod.ext h3 h1
   rw [h3] at h
   rcases List.mem_cons.1 hy with rfl | hy
   ·exact h4
   ·exact scan_all l (fun o w hw=>hm o w (by simp [hw])) h y hy
theorem no_over {r:List ARule} (h:(listR r).2 = 0) (h0:(listR r).1.length = 0) {i j:Nat} (hi:i < r.length) (hj:j < r.length) {p:List Int} {y:Term} (hy:(p,y)∈visit (r.getD i default).left []) (hv:y.var = false) (hne:¬ (i = j∧p = [])) :
  overE (renQ [120] (r.getD i default)) (renQ [121] (r.getD j default)) p (app (rho [120] (firstT [] (r.getD i default).left)) y) = (false,0):=by
 have hS:scanE (stepRI r) [] (List.range r.length) = ([],0):=by
  unfold listR at h h0
  split at h
  ·rename_i hc;exact absurd h hc
  ·rename_i hc
   rw [if_neg hc] at h0
   split at h
   ·cases h
   ·rename_i hc2
    rw [if_neg hc2] at h0
    exact Prod.ext (List.length_eq_zero_iff.1 h0) (by simpa using hc)
 have h1:=scan_all _ (stepRI_mono r _) hS i (List.mem_range.2 hi)
 have h2:=scan_all _ (stepRV_mono r i _) h1 (p,y) hy
 have h3:=scan_all _ (stepRJ_mono r i p y _) h2 j (List.mem_range.2 hj)
 unfold stepRJ at h3
 rw [if_neg (by rw [hv];simp only [Bool.false_eq_true,false_or];exact hne)] at h3
 have he:=overE_errs (renQ [120] (r.getD i default)) (renQ [121] (r.getD j default)) p (app (rho [120] (firstT [] (r.getD i default).left)) y)
 generalize overE (renQ [120] (r.getD i default)) (renQ [121] (r.getD j default)) p (app (rho [120] (firstT [] (r.getD i default).left)) y) = v at h3 he ⊢
 obtain ⟨ok,e⟩:=v
 simp only at h3 he
 rcases he with rfl | rfl
 ·cases ok with
  | false=>rfl
  | true=>simp at h3
 ·simp at h3
theorem over_unif {a b:ARule} {pos:List Int} {sub:Term} (hs:GoodT sub) (hb:GoodT b.left) {θ:Sub} (h:app θ sub = app θ b.left):overE a b pos sub ≠ (false,0):=by
 obtain ⟨_,_,_,_,hm⟩:=solveS_ok (Vs:=vs2 sub b.left) (l:=[sub]) (m:=[b.left]) (fun z hz=>by rw [List.mem_singleton.1 hz];exact ⟨hs.vf,fun w hw=>vs2_mem.2 (.inl hw)⟩) (fun z hz=>by rw [List.mem_singleton.1 hz];exact ⟨hb.vf,fun w hw=>vs2_mem.2 (.inr hw)⟩) rfl
 have h1:=(hm θ (by simp [h])).1
 have h2:(unif1 sub b.left).2.1 = false→(unif1 sub b.left).2.2 = 3:=by
  unfold unif1 unifE
  rw [h1]
  simp only [Bool.true_eq_false,if_false]
  split
  ·intro _;rfl
  ·intro hc;cases hc
 intro he
 unfold overE at he
 split at he
 ·rename_i hc
  have:=congrArg Prod.snd he
  simp only at this
  rw [h2 hc] at this;cases this
 ·split at he
  ·cases he
  ·split at he
   ·cases he
   ·cases he
theorem ofNat_inj {a b:Nat} (ha:a < 10) (hb:b < 10) (h:UInt8.ofNat (48+a) = UInt8.ofNat (48+b)):a = b:=by
 have:=congrArg UInt8.toNat h
 simp only [UInt8.toNat_ofNat'] at this
 omega
theorem dig_ne (n:Nat):dig n ≠ []:=by
 unfold dig Lib.decDigits
 split <;> simp
theorem dig_inj:∀ (m n:Nat),dig m = dig n→m = n:=by
 intro m
 induction m using Nat.strongRecOn with
 | ind m ih =>
 intro n h
 have hd:∀ k:Nat,dig k = if k < 10 then [UInt8.ofNat (48+k)] else dig (k / 10)++[UInt8.ofNat (48+k % 10)]:=fun k=>by
  unfold dig
  conv=>lhs;unfold Lib.decDigits
  split <;> rfl
 rw [hd m,hd n] at h
 by_cases hm:m < 10
 ·rw [if_pos hm] at h
  by_cases hn:n < 10
  ·rw [if_pos hn] at h
   injection h with h _
   exact ofNat_inj hm hn h
  ·rw [if_neg hn] at h
   have:=congrArg List.length h
   simp only [List.length_append,List.length_singleton] at this
   have h2:=List.length_pos_iff.2 (dig_ne (n / 10))
   omega
 ·rw [if_neg hm] at h
  by_cases hn:n < 10
  ·rw [if_pos hn] at h
   have:=congrArg List.length h
   simp only [List.length_append,List.length_singleton] at this
   have h2:=List.length_pos_iff.2 (dig_ne (m / 10))
   omega
  ·rw [if_neg hn] at h
   obtain ⟨h1,h2⟩:=List.append_inj' h (by simp)
   injection h2 with h2 _
   have e1:=ih (m / 10) (by omega) (n / 10) h1
   have e2:=ofNat_inj (a:=m % 10) (b:=n % 10) (by omega) (by omega) h2
   omega
theorem posS_inj {l:List Str} {u v:Str} {j:Nat} (h1:posS l u = some j) (h2:posS l v = some j):u = v:=by
 induction l generalizing j with
 | nil=>cases h1
 | cons x l ih =>
  simp only [posS] at h1 h2
  by_cases e1:x = u
  ·rw [if_pos e1] at h1
   cases h1
   by_cases e2:x = v
   ·exact e1.symm.trans e2
   ·rw [if_neg e2] at h2
    cases hq:posS l v with
    | none=>rw [hq] at h2;cases h2
    | some i=>rw [hq] at h2;cases h2
  ·rw [if_neg e1] at h1
   by_cases e2:x = v
   ·rw [if_pos e2] at h2
    cases h2
    cases hq:posS l u with
    | none=>rw [hq] at h1;cases h1
    | some i=>rw [hq] at h1;cases h1
   ·rw [if_neg e2] at h2
    cases hq:posS l u with
    | none=>rw [hq] at h1;cases h1
    | some i =>
     cases hq2:posS l v with
     | none=>rw [hq2] at h2;cases h2
     | some k =>
      rw [hq] at h1
      rw [hq2] at h2
      simp only [Option.map_some,Option.some.injEq] at h1 h2
      have:i = k:=by omega
      subst this
      exact ih hq hq2
def nmP (pre:Str) (l:List Str) (v:Str):Option Str:=(posS l v).map fun j=>pre++dig j
theorem nmP_inj {c d:UInt8} {l m:List Str} {u v:Str} {w:Str} (h1:nmP [c] l u = some w) (h2:nmP [d] m v = some w):c = d∧∃ j,posS l u = some j∧posS m v = some j:=by
 unfold nmP at h1 h2
 cases hq:posS l u with
 | none=>rw [hq] at h1;cases h1
 | some i =>
  cases hq2:posS m v with
  | none=>rw [hq2] at h2;cases h2
  | some k =>
   rw [hq] at h1
   rw [hq2] at h2
   simp only [Option.map_some,Option.some.injEq] at h1 h2
   rw [← h2] at h1
   simp only [List.cons_append,List.nil_append,List.cons.injEq] at h1
   refine ⟨h1.1,i,rfl,?_⟩
   rw [dig_inj i k h1.2]
open Classical in
noncomputable def both2 (l m:List Str) (f g:Sub):Sub:=fun w =>
 if h:∃ u,nmP [120] l u = some w then f h.choose else if h:∃ u,nmP [121] m u = some w then g h.choose else varT w
theorem both2_l {l m:List Str} {f g:Sub} {v:Str} (hv:v∈l):app (both2 l m f g) (rho [120] l v) = f v:=by
 unfold rho
 cases hq:posS l v with
 | none=>exact absurd hv (posS_none.1 hq)
 | some j =>
  have hn:nmP [120] l v = some ([120]++dig j):=by unfold nmP;rw [hq];rfl
  rw [app_var (t:=varT ([120]++dig j)) rfl]
  show both2 l m f g ([120]++dig j) = f v
  unfold both2
  have h:∃ u,nmP [120] l u = some ([120]++dig j):=⟨v,hn⟩
  rw [dif_pos h]
  obtain ⟨_,i,h1,h2⟩:=nmP_inj h.choose_spec hn
  rw [posS_inj h1 h2]
theorem both2_r {l m:List Str} {f g:Sub} {v:Str} (hv:v∈m):app (both2 l m f g) (rho [121] m v) = g v:=by
 unfold rho
 cases hq:posS m v with
 | none=>exact absurd hv (posS_none.1 hq)
 | some j =>
  have hn:nmP [121] m v = some ([121]++dig j):=by unfold nmP;rw [hq];rfl
  rw [app_var (t:=varT ([121]++dig j)) rfl]
  show both2 l m f g ([121]++dig j) = g v
  unfold both2
  have hno:¬ ∃ u,nmP [120] l u = some ([121]++dig j):=fun ⟨u,hu⟩=>by
   have:=(nmP_inj hu hn).1
   exact absurd this (by decide)
  have h:∃ u,nmP [121] m u = some ([121]++dig j):=⟨v,hn⟩
  rw [dif_neg hno,dif_pos h]
  obtain ⟨_,i,h1,h2⟩:=nmP_inj h.choose_spec hn
  rw [posS_inj h1 h2]
theorem counts_occ2 {v:Str}:∀ l:List Term,(∀ a∈l,0 < count v a→occ v a = true)→0 < counts v l→∃ a∈l,occ v a = true
 | [],_,h=>by simp [counts] at h
 | a :: l,hs,h=>by
  simp only [counts] at h
  by_cases ha:0 < count v a
  ·exact ⟨a,by simp,hs a (by simp) ha⟩
  ·obtain ⟨b,hb,ho⟩:=counts_occ2 l (fun b hb=>hs b (by simp [hb])) (by omega)
   exact ⟨b,by simp [hb],ho⟩
theorem count_occ2 {v:Str} (t:Term):0 < count v t→occ v t = true:=by
 induction t using term_ind with
 | h t ih =>
 intro h
 rw [count_eq] at h
 by_cases hc:(t.var && decide (t.name = v)) = true
 ·rw [Bool.and_eq_true,decide_eq_true_eq] at hc
  exact uocc_iff.2 (.inl hc)
 ·rw [if_neg hc] at h
  obtain ⟨a,ha,ho⟩:=counts_occ2 t.args ih (by omega)
  exact uocc_iff.2 (.inr ⟨a,ha,ho⟩)
theorem subT_occ2 {v:Str}:∀ (p:List Int) (t y:Term),subT t p = some y→occ v y = true→occ v t = true
 | [],t,y,h,ho=>by simp only [subT,Option.some.injEq] at h;subst h;exact ho
 | i :: p,t,y,h,ho=>by
  simp only [subT] at h
  split at h
  ·rename_i hi
   exact uocc_iff.2 (.inr ⟨_,getD_mem (by omega),subT_occ2 p _ y h ho⟩)
  ·cases h
theorem ortho_of {r:List ARule} (h:orthoE r = (true,0)):Ortho r:=by
 have hsys:checkSystem r = 0:=by
  unfold orthoE at h
  by_cases hc:checkSystem r = 0
  ·exact hc
  ·rw [if_pos hc] at h
   exact absurd (congrArg Prod.fst h) (by simp)
 obtain ⟨hg,hrl⟩:=good_system hsys
 unfold orthoE at h
 rw [if_neg (by simpa using hsys)] at h
 obtain ⟨s1,s2⟩:=overlaps_same hg
 have ha:(allO r).2 = 0:=by
  by_cases hc:(allO r).2 = 0
  ·exact hc
  ·rw [if_pos hc] at h
   exact absurd (congrArg Prod.fst h) (by simp)
 rw [if_neg (by simpa using ha)] at h
 have h:=congrArg Prod.fst h
 simp only [Bool.and_eq_true,decide_eq_true_eq,List.all_eq_true] at h
 obtain ⟨h0,hlin⟩:=h
 refine ⟨hsys,fun x hx v=>?_,fun i j hi hj p y hy hv hne f g he=>?_⟩
 ·have hb:=hlin x hx
  by_cases hc:count v x.left≤1
  ·exact hc
  ·exfalso
   have ho:=count_occ2 x.left (v:=v) (by omega)
   unfold linB at hb
   rw [Bool.not_eq_true'] at hb
   rw [List.any_eq_false] at hb
   have:=hb v ((mem_collectT v x.left []).2 (.inr ho))
   simp only [decide_eq_true_eq] at this
   omega
 ·have hxi:=hg _ (getD_mem hi)
  have hxj:=hg _ (getD_mem hj)
  have hvis:(p,y)∈visit (r.getD i default).left []:=by
   have:=visit_mem p (r.getD i default).left y [] hy
   simpa using this
  have hno:=no_over (s1 ▸ ha) (by rw [← s2 ha];exact h0) hi hj hvis hv hne
  have hsub:=rho_sub hxi hy
  have hgi:=renQ_good (pre:=[120]) rfl hxi
  have hgj:=renQ_good (pre:=[121]) rfl hxj
  refine over_unif (a:=renQ [120] (r.getD i default)) (b:=renQ [121] (r.getD j default)) (pos:=p) (GoodT.sub p hgi.l hsub) hgj.l (θ:=both2 (firstT [] (r.getD i default).left) (firstT [] (r.getD j default).left) f g) ?_ hno
  have e1:app (both2 (firstT [] (r.getD i default).left) (firstT [] (r.getD j default).left) f g) (app (rho [120] (firstT [] (r.getD i default).left)) y) = app f y:=by
   rw [app_app]
   refine app_congr y fun v hvo=>both2_l ?_
   exact (firstT_pre (r.getD i default).left []).2 hxi.l.vf v (subT_occ2 p _ y hy hvo)
  have e2:app (both2 (firstT [] (r.getD i default).left) (firstT [] (r.getD j default).left) f g) (renQ [121] (r.getD j default)).left = app g (r.getD j default).left:=by
   show app _ (app (rho [121] (firstT [] (r.getD j default).left)) (r.getD j default).left) = _
   rw [app_app]
   exact app_congr _ fun v hvo=>both2_r ((firstT_pre (r.getD j default).left []).2 hxj.l.vf v hvo)
  rw [e1,e2,he]
end Go.Dw
end
section
namespace Go.Dw
theorem rep_set {n k:Nat} {Z:List AMulti} (hk:k < n) (hZ:n≤Z.length):(Z.take k++List.replicate (n - k) zM).set k (Z.getD k default) = Z.take (k+1)++List.replicate (n - (k+1)) zM:=by
 have h1:(Z.take k).length = k:=by simp;omega
 rw [List.set_append,if_neg (by omega),h1,Nat.sub_self]
 obtain ⟨m,hm⟩:∃ m,n - k = m+1:=⟨n - k - 1,by omega⟩
 have h2:n - (k+1) = m:=by omega
 rw [hm,h2,List.replicate_succ,List.set_cons_zero,take_succ_getD (by omega),List.append_assoc];rfl
theorem residual_zip_s {F:AMulti→AMulti→AMulti} {g:Nat} {caps:List V} (hc:∀ σ,rens σ caps = caps) (a b:List AMulti) (hla:a.length≤b.length) (hl:a.length < 2^38) (h:∀ k,k < a.length→PF g (encM (a.getD k default) :: encM (b.getD k default) :: caps) (encM (F (a.getD k default) (b.getD k default)))) :
  PF n_residual_zip [encMs a,encMs b,.fn (.func g) [] caps] (encMs (List.zipWith F a b)):=by
 have hz:∀ τ,List.map (rens τ) (List.replicate a.length [V.int IntKind.i64 0,V.str [],V.bool false,V.sl 4 []]) = (List.replicate a.length zM).map cM:=fun τ=>by
  rw [List.map_replicate,List.map_replicate];rfl
 have hz0:List.replicate a.length [V.int IntKind.i64 0,V.str [],V.bool false,V.sl 4 []] = (List.replicate a.length zM).map cM:=by rw [List.map_replicate];rfl
 have m1:a.length≤maxEls:=by unfold maxEls;omega
 have m2:a.length * 56≤maxEls:=by unfold maxEls;omega
 have hZl:(List.zipWith F a b).length = a.length:=by rw [List.length_zipWith];omega
 refine pf_of residual_zip.ok rfl ?_
 push_cast [hc,hz,hz0,m1,m2,rens_cMs]
 refine loop_up (n:=a.length) (R:=fun k=>residual_zip.L3 (encMs a) (encMs b) (.fn (.func g) [] caps) (.rw 0 4 a.length) (.int .i64 a.length) (.int .i64 k) 0 [.row t_Multi 4 (((List.zipWith F a b).take k++List.replicate (a.length - k) zM).map cM)] (Ends 0 residual_zip.rs fun x' H'=>x' = encMs (List.zipWith F a b)∧H' = [])) ?_ ?_ 0 (by omega)
 ·intro k hk ih
  have hkb:k < b.length:=by omega
  have hcall:=h k hk
  have hge:(List.zipWith F a b).getD k default = F (a.getD k default) (b.getD k default):=by
   have e1:(List.zipWith F a b)[k]? = some (F (a.getD k default) (b.getD k default)):=by
    have ea:a[k]? = some (a.getD k default):=by simp [List.getD_eq_getElem?_getD,hk]
    have eb:b[k]? = some (b.getD k default):=by simp [List.getD_eq_getElem?_getD,hkb]
    rw [List.getElem?_zipWith,ea,eb]
   rw [List.getD_eq_getElem?_getD,e1];rfl
  have hset:=rep_set (n:=a.length) (k:=k) (Z:=List.zipWith F a b) hk (by omega)
  rw [← hset,hge] at ih
  have hlen:((List.zipWith F a b).take k++List.replicate (a.length - k) zM).length = a.length:=by simp;omega
  generalize (List.zipWith F a b).take k++List.replicate (a.length - k) zM = L at ih hlen
  generalize F (a.getD k default) (b.getD k default) = y at hcall ih
  have hset2:(L.map cM).set k (put 0 (cM y) ((L.map cM).getD k [])) = (L.set k y).map cM:=by
   have e:(L.map cM).getD k [] = cM (L.getD k default):=by simp [List.getD_eq_getElem?_getD,hlen,hk]
   rw [e,List.map_set];rfl
  have hg1:(L.map cM)[k]? = some (cM (L.getD k default)):=by simp [List.getD_eq_getElem?_getD,hlen,hk]
  refine residual_zip.G3 ?_
  push_cast [ilt hk,ilt hkb,hc]
  refine .of hcall ?_
  push_cast [hset2,hg1,hc,rens_cMs,List.length_map,hlen,ilt hk,w64 (show k < 2^62 by omega)]
  push_cast at ih
  first | exact ih | exact ⟨by omega,ih⟩
 ·refine residual_zip.G3 ?_
  have hfin:((List.zipWith F a b).take a.length++List.replicate (a.length - a.length) zM) = List.zipWith F a b:=by
   rw [List.take_of_length_le (by omega),Nat.sub_self,List.replicate_zero,List.append_nil]
  rw [hfin]
  push_cast [inlt (Nat.le_refl _),List.length_map,hZl,rens_cMs]
  exact pf_ret (by push_cast [residual_zip.rs,rens_cMs];rfl)
end Go.Dw
end
section
namespace Go.Dw
def hU3 (n:Nat) (out:List AMulti):List Ob:=[.dead,.row t_Multi 4 (out.map cM),.cells t_s_Multi [.rw 1 4 n]]
theorem shut_hU3 (n:Nat) (out:List AMulti):Shut 3 (hU3 n out):=⟨rfl,by
 show [renOb (clip 3) .dead,renOb (clip 3) (.row t_Multi 4 (out.map cM)),renOb (clip 3) (.cells t_s_Multi [.rw 1 4 n])] = _
 have h3:clip 3 1 = some 1:=rfl
 push_cast [h3,rens_cMs,List.map_map];rfl⟩
theorem cut_hU3 (n:Nat) (out:List AMulti) (J:List Ob):cut 3 (hU3 n out++J) = hU3 n out:=by
 show [renOb (clip 4) .dead,renOb (clip 4) (.row t_Multi 4 (out.map cM)),renOb (clip 4) (.cells t_s_Multi [.rw 1 4 n])] = _
 have h3:clip 4 1 = some 1:=rfl
 push_cast [h3,rens_cMs];rfl
def InvU (L:Term) (g:MSub) (vars:List Str) (j:Nat) (out:List AMulti):Prop :=
 out.length = vars.length∧∀ k,k < vars.length→(∃ x∈(visit L []).take j,x.2.var = true∧x.2.name = vars.getD k default)→out.getD k default = g (vars.getD k default)
theorem inv_skip {L:Term} {g:MSub} {vars:List Str} {j:Nat} {out:List AMulti} (h:InvU L g vars j out) (hj:j < (visit L []).length) (hv:((visit L []).getD j default).2.var = false):InvU L g vars (j+1) out:=by
 refine ⟨h.1,fun k hk hx=>h.2 k hk ?_⟩
 obtain ⟨x,hx,h1,h2⟩:=hx
 rw [take_succ_getD hj,List.mem_append,List.mem_singleton] at hx
 rcases hx with hx | rfl
 ·exact ⟨x,hx,h1,h2⟩
 ·rw [hv] at h1;cases h1
theorem inv_step {L:Term} {g:MSub} {vars:List Str} {j:Nat} {out:List AMulti} (hnd:vars.Nodup) (h:InvU L g vars j out) (hj:j < (visit L []).length) {x:List Int × Term} (hx0:(visit L []).getD j default = x) {i:Nat} (hi:i < vars.length) (hn:vars.getD i default = x.2.name):InvU L g vars (j+1) (out.set i (g x.2.name)):=by
 refine ⟨by rw [List.length_set,h.1],fun k hk hx=>?_⟩
 obtain ⟨y,hy,h1,h2⟩:=hx
 by_cases hik:i = k
 ·subst hik
  rw [hn]
  simp [List.getD_eq_getElem?_getD,h.1,hi]
 ·have e:(out.set i (g x.2.name)).getD k default = out.getD k default:=by simp [List.getD_eq_getElem?_getD,hik]
  rw [e]
  refine h.2 k hk ?_
  rw [take_succ_getD hj,List.mem_append,List.mem_singleton] at hy
  rcases hy with hy | rfl
  ·exact ⟨y,hy,h1,h2⟩
  ·exact absurd (by
    have e1:vars[i]? = vars[k]?:=by
     rw [hx0] at h2
     have a1:vars[i]? = some (vars.getD i default):=by simp [List.getD_eq_getElem?_getD,hi]
     have a2:vars[k]? = some (vars.getD k default):=by simp [List.getD_eq_getElem?_getD,hk]
     rw [a1,a2,hn,h2]
    exact (List.getElem?_inj hi hnd).1 e1) hik
theorem sub_fun {y z:Term} {i:Int} {p:List Int} (hf:vfl y = true) (h:subT y (i :: p) = some z):y.var = false∧0≤i∧i.toNat < y.args.length∧subT (y.args.getD i.toNat default) p = some z:=by
 simp only [subT] at h
 split at h
 ·rename_i hi
  have hv:y.var = false:=by
   cases hv:y.var with
   | false=>rfl
   | true=>rw [(vfl_iff.1 hf).1 hv] at hi;simp at hi;omega
  exact ⟨hv,by omega,by omega,h⟩
 ·cases h
theorem under_walk {vars:List Str} {g:MSub} {x:List Int × Term} (O:Ob) (hO:renOb (clip 6) O = O) (out:List AMulti) (hol:out.length = vars.length) (hvl:vars.length < 2^38) (y0:Term) (hy0:vfl y0 = true) (hsub:subT y0 x.1 = some x.2) (hv:x.2.var = true) (hm:x.2.name∈vars) (hpl:x.1.length < 2^38) (Q:X→T→List Ob→Prop)
  (hq:∀ T J,Q .fall T (hU3 vars.length (out.set (ixS x.2.name vars) (g x.2.name))++O :: J)) :
  residual_under.L3 (.ro [encSs vars] 0) (.ptr 2 0) (.ro (cT x.2) 0) (.ptr 5 0) (encP x.1) (.int .i64 x.1.length) (.int .i64 0) 4 (hU3 vars.length out++[O,.dead,.cells t_Multi (cM (pl g y0))]) Q:=by
 refine loop_up (n:=x.1.length) (R:=fun k=>∀ y,vfl y = true→subT y (x.1.drop k) = some x.2→residual_under.L3 (.ro [encSs vars] 0) (.ptr 2 0) (.ro (cT x.2) 0) (.ptr 5 0) (encP x.1) (.int .i64 x.1.length) (.int .i64 k) 4 (hU3 vars.length out++[O,.dead,.cells t_Multi (cM (pl g y))]) Q) ?_ ?_ 0 (Nat.zero_le _) y0 hy0 (by rw [List.drop_zero];exact hsub)
 ·intro k hk ih y hy hs
  rw [drop_getD hk] at hs
  obtain ⟨h1,h2,h3,h4⟩:=sub_fun hy hs
  have ih:=ih _ (vfl_arg hy (getD_mem h3)) h4
  simp only [hU3,List.cons_append,List.nil_append] at ih ⊢
  refine residual_under.G3 ?_
  have e:((y.args.map (pl g)).getD (x.1.getD k default).toNat default) = pl g (y.args.getD (x.1.getD k default).toNat default):=by
   generalize (x.1.getD k default).toNat = i at h3
   simp [List.getD_eq_getElem?_getD,h3]
  have e2:(AMulti.mk 0 y.name false (y.args.map (pl g))).args = y.args.map (pl g):=rfl
  push_cast [ilt hk,pl_fun h1,hO,rens_cMs,e2,e,List.length_map,w64 (show k < 2^62 by omega)]
  exact ⟨⟨by omega,by omega⟩,ih⟩
 ·intro y hy hs
  rw [List.drop_length] at hs
  have hs:y = x.2:=by simpa [subT] using hs
  subst hs
  have hix:=slices_Index_str_s vars x.2.name (by omega)
  obtain ⟨i1,i2,i3⟩:=idxI_ix hm
  rw [i1] at hix
  simp only [hU3,List.cons_append,List.nil_append]
  refine residual_under.G3 ?_
  push_cast [inlt (Nat.le_refl _),hO]
  refine .of hix ?_
  have hset:(out.map cM).set (ixS x.2.name vars) (put 0 (cM (g x.2.name)) ((out.map cM).getD (ixS x.2.name vars) [])) = (out.set (ixS x.2.name vars) (g x.2.name)).map cM:=by
   have e:(out.map cM).getD (ixS x.2.name vars) [] = cM (out.getD (ixS x.2.name vars) default):=by simp [List.getD_eq_getElem?_getD,hol,i2]
   rw [e,List.map_set];rfl
  push_cast [hO,pl_var hv,hset,rens_cMs,List.length_map,hol]
  exact ⟨by omega,i2,hq _ [_,_]⟩
theorem residual_under_s {L:Term} (hL:vfl L = true) (hs:size L < 2^38) (g:MSub):PF n_residual_under [encT L,encM (pl g L)] (encMs ((varsOf [L]).map g)):=by
 have hvs:=term_VarsOf_s [L] (by simp only [sizes];omega)
 have hw:=term_Walk_s L
 have hvl:(varsOf [L]).length < 2^38:=by have:=varsOf_len [L];simp only [sizes] at this;omega
 have hnd:=varsOf_nodup L
 generalize hvars:varsOf [L] = vars at hvs hvl hnd
 have hz:∀ τ,List.map (rens τ) (List.replicate vars.length [V.int IntKind.i64 0,V.str [],V.bool false,V.sl 4 []]) = (List.replicate vars.length zM).map cM:=fun τ=>by
  rw [List.map_replicate,List.map_replicate];rfl
 have hz0:List.replicate vars.length [V.int IntKind.i64 0,V.str [],V.bool false,V.sl 4 []] = (List.replicate vars.length zM).map cM:=by rw [List.map_replicate];rfl
 have m1:vars.length≤maxEls:=by unfold maxEls;omega
 have m2:vars.length * 56≤maxEls:=by unfold maxEls;omega
 refine pf_of residual_under.ok rfl ?_
 push_cast
 refine .of hvs ?_
 push_cast [hz,hz0,m1,m2,rens_cMs]
 refine .of hw ?_
 push_cast [hz,hz0,rens_cMs]
 refine Run.rf n_term_Walk_1 [] [.ro (cT L) 0] ((visit L []).map encIt) (fun j H1=>∃ out,H1 = hU3 vars.length out∧InvU L g vars j out) (fun _ _=>False) rfl (term_Walk_iter L (by omega)) ?_ ⟨List.replicate vars.length zM,rfl,by simp,fun k hk hx=>by simp at hx⟩ ?_ ?_ ?_ ?_ ?_ ?_
 ·intro it hit
  obtain ⟨x,_,rfl⟩:=List.mem_map.1 hit
  rfl
 ·push_cast
 ·rintro j H1 ⟨out,rfl,_⟩
  exact shut_hU3 _ out
 ·rintro e H1 h
  exact h.elim
 ·rintro lo rr j it H1 hit ⟨out,rfl,hI⟩
  rw [List.getElem?_map] at hit
  cases hx:(visit L [])[j]? with
  | none=>rw [hx] at hit;cases hit
  | some x =>
  rw [hx] at hit
  have hit:it = encIt x:=by simpa using hit.symm
  subst hit
  have hj:j < (visit L []).length:=(List.getElem?_eq_some_iff.1 hx).1
  have hxj:(visit L []).getD j default = x:=by rw [List.getD_eq_getElem?_getD,hx];rfl
  have hxm:x∈visit L []:=hxj ▸ getD_mem hj
  push_cast [setPs,encIt,hU3]
  refine run_m.2 ?_
  cases hv:x.2.var with
  | false =>
   push_cast [hv]
   refine ⟨rfl,out,cut_hU3 _ out _,inv_skip hI hj (by rw [hxj];exact hv)⟩
  | true =>
   push_cast [hv]
   have hv1:=visit_at L [] x hxm
   obtain ⟨p,hp,h2⟩:=hv1
   rw [List.nil_append] at hp
   rw [← hp] at h2
   have h3:=(visit_sub L [] x hxm).2
   have hm:x.2.name∈vars:=by
    rw [← hvars,mem_varsOf]
    exact subT_occ _ _ _ h2 hv
   obtain ⟨i1,i2,i3⟩:=idxI_ix hm
   rw [rens_cMs]
   refine under_walk (vars:=vars) (g:=g) (x:=x) (.lp lo .busy rr _) ?_ out hI.1 hvl L hL h2 hv hm (by simp only [List.length_nil] at h3;omega) _ ?_
   ·push_cast
   ·intro T J
    exact ⟨rfl,_,cut_hU3 _ _ (_ :: J),inv_step hnd hI hj hxj i2 i3⟩
 ·rintro H1 ⟨out,rfl,hI⟩
  have hout:out = vars.map g:=by
   refine List.ext_getElem? fun k=>?_
   by_cases hk:k < vars.length
   ·have e:=hI.2 k hk (by
     rw [List.length_map,List.take_length]
     have hm:vars.getD k default∈varsOf [L]:=by rw [hvars];exact getD_mem hk
     have hne:occM L (vars.getD k default) ≠ []:=by rw [occM_R];exact occR_some _ _ ((mem_varsOf _ _).1 hm)
     unfold occM occW at hne
     obtain ⟨x,hx⟩:=List.exists_mem_of_ne_nil _ (fun h=>hne (by rw [h];rfl):((visit L []).filter (isV (vars.getD k default))) ≠ [])
     obtain ⟨h1,h2⟩:=List.mem_filter.1 hx
     simp only [isV,Bool.and_eq_true,decide_eq_true_eq] at h2
     exact ⟨x,h1,by first | exact h2 | exact ⟨h2.1,h2.2.symm⟩⟩)
    have e1:out[k]? = some (out.getD k default):=by simp [List.getD_eq_getElem?_getD,hI.1,hk]
    have e2:(vars.map g)[k]? = some (g (vars.getD k default)):=by simp [List.getD_eq_getElem?_getD,hk]
    rw [e1,e2,e]
   ·rw [List.getElem?_eq_none (by have:=hI.1;omega),List.getElem?_eq_none (by rw [List.length_map];omega)]
  subst hout
  push_cast [hU3,rens_cMs]
  refine ⟨by rw [List.length_map,List.length_map],pf_ret ?_⟩
  push_cast [residual_under.rs,rens_cMs]
  rfl
 ·rintro e H1 h
  exact h.elim
end Go.Dw
end
section
namespace Go.Dw
theorem residual_split_0 (r:List ARule) (m:AMulti) (hm:m.rule = 0):PF n_residual_split_1 [encM m,.ro [.int .i64 0] 0,.ro [encRs r] 0] (encMs m.args):=by
 refine pf_of residual_split_1.ok rfl ?_
 push_cast [hm]
 refine pf_ret ?_
 push_cast [residual_split_1.rs]
theorem residual_split_k {r:List ARule} {k:Nat} (hk:k < r.length) (hkl:k < 2^40) (hv:(lft r k).var = false) (hf:vfl (lft r k) = true) (hs:size (lft r k) < 2^38) (β:Bool) (g:MSub):PF n_residual_split_1 [encM (fm r k β g),.ro [.int .i64 (k+1)] 0,.ro [encRs r] 0] (encMs ((vrs r k).map g)):=by
 refine pf_of residual_split_1.ok rfl ?_
 cases β with
 | true =>
  have e:fm r k true g = ru r k g:=rfl
  have h1:(0:Int) < k+1:=by omega
  push_cast [e,ru_rule,ru_args,h1]
  refine pf_ret ?_
  push_cast [residual_split_1.rs]
 | false =>
  have e:fm r k false g = pl g (lft r k):=rfl
  have hu:=residual_under_s hf hs g
  have h0:(pl g (lft r k)).rule = 0:=pl_rule hv
  have h1:((k:Int)+1 = 0) = False:=by simp;omega
  have hw:IntKind.i64.wrap ((k:Int)+1 - 1) = k:=by
   rw [Int.add_sub_cancel];exact wrap64 (by omega) (by omega)
  push_cast [e,h0,h1,hw]
  refine ⟨by omega,.of hu ?_⟩
  push_cast
  refine pf_ret ?_
  push_cast [residual_split_1.rs]
  rfl
theorem residual_split_0_s (r:List ARule) (a b:AMulti) (ha:a.rule = 0) (hb:b.rule = 0):PF n_residual_split [encRs r,encM a,encM b] (.tup [.int .i64 0,encMs a.args,encMs b.args]):=by
 refine pf_of residual_split.ok rfl ?_
 push_cast [ha,hb]
 refine .of (residual_split_0 r a ha) ?_
 push_cast
 refine .of (residual_split_0 r b hb) ?_
 push_cast
 refine pf_ret ?_
 push_cast [residual_split.rs]
theorem residual_split_k_s {r:List ARule} {k:Nat} (hk:k < r.length) (hkl:k < 2^40) (hv:(lft r k).var = false) (hf:vfl (lft r k) = true) (hs:size (lft r k) < 2^38) (β γ:Bool) (f g:MSub) (hβ:β = true ∨ γ = true):PF n_residual_split [encRs r,encM (fm r k β f),encM (fm r k γ g)] (.tup [.int .i64 (k+1),encMs ((vrs r k).map f),encMs ((vrs r k).map g)]):=by
 have c1:=residual_split_k hk hkl hv hf hs β f
 have c2:=residual_split_k hk hkl hv hf hs γ g
 have hr:∀ (δ:Bool) (f:MSub),(fm r k δ f).rule = if δ then (k:Int)+1 else 0:=fun δ f=>by
  cases δ with
  | true=>rfl
  | false=>exact pl_rule hv
 have hm:(if (fm r k β f).rule < (fm r k γ g).rule then (fm r k γ g).rule else (fm r k β f).rule) = (k:Int)+1:=by
  rw [hr,hr]
  rcases hβ with rfl | rfl
  ·cases γ <;> simp <;> omega
  ·cases β <;> simp <;> omega
 refine pf_of residual_split.ok rfl ?_
 push_cast [hm]
 refine .of c1 ?_
 push_cast
 refine .of c2 ?_
 push_cast
 refine pf_ret ?_
 push_cast [residual_split.rs]
end Go.Dw
end
section
namespace Go.Dw
theorem residual_rest_1_s {r:List ARule} {a b y:AMulti} (h:PF n_residual_rest [encRs r,encM a,encM b] (encM y)):PF n_residual_rest_1 [encM a,encM b,.ro [encRs r] 0] (encM y):=by
 refine pf_of residual_rest_1.ok rfl ?_
 push_cast
 refine .of h ?_
 push_cast
 refine pf_ret ?_
 push_cast [residual_rest_1.rs]
theorem residual_rest_0 {r:List ARule} {a b:AMulti} (ha:a.rule = 0) (hb:b.rule = 0) (hl:a.args.length≤b.args.length) (hl2:a.args.length < 2^38) (F:AMulti→AMulti→AMulti)
  (hF:∀ k,k < a.args.length→PF n_residual_rest [encRs r,encM (a.args.getD k default),encM (b.args.getD k default)] (encM (F (a.args.getD k default) (b.args.getD k default)))) :
  PF n_residual_rest [encRs r,encM a,encM b] (encM (.mk 0 a.name a.var (List.zipWith F a.args b.args))):=by
 have hz:=residual_zip_s (F:=F) (g:=n_residual_rest_1) (caps:=[.ro [encRs r] 0]) (fun σ=>by push_cast) a.args b.args hl hl2 (fun k hk=>residual_rest_1_s (hF k hk))
 refine pf_of residual_rest.ok rfl ?_
 push_cast
 refine .of (residual_split_0_s r a b ha hb) ?_
 push_cast
 refine .of hz ?_
 push_cast
 refine pf_ret ?_
 push_cast [residual_rest.rs]
 first | rfl | (rw [encM,cM_eq];rfl) | (simp only [encM,cM];rfl)
theorem residual_rest_a {r:List ARule} {k:Nat} (hk:k < r.length) (hkl:k < 2^40) (hv:(lft r k).var = false) (hf:vfl (lft r k) = true) (hs:size (lft r k) < 2^38) (f g:MSub) (F:AMulti→AMulti→AMulti)
  (hF:∀ v,v∈vrs r k→PF n_residual_rest [encRs r,encM (f v),encM (g v)] (encM (F (f v) (g v)))) :
  PF n_residual_rest [encRs r,encM (fm r k true f),encM (fm r k false g)] (encM (.mk (k+1) [] false (List.zipWith F ((vrs r k).map f) ((vrs r k).map g)))):=by
 have hvl:(vrs r k).length < 2^38:=by have:=varsOf_len [lft r k];simp only [sizes] at this;unfold vrs;omega
 have hz:=residual_zip_s (F:=F) (g:=n_residual_rest_1) (caps:=[.ro [encRs r] 0]) (fun σ=>by push_cast) ((vrs r k).map f) ((vrs r k).map g) (by simp) (by simpa using hvl) (fun j hj=>by
  rw [List.length_map] at hj
  have e:∀ f:MSub,((vrs r k).map f).getD j default = f ((vrs r k).getD j default):=fun f=>by simp [List.getD_eq_getElem?_getD,hj]
  rw [e,e]
  exact residual_rest_1_s (hF _ (getD_mem hj)))
 refine pf_of residual_rest.ok rfl ?_
 push_cast
 refine .of (residual_split_k_s hk hkl hv hf hs true false f g (.inl rfl)) ?_
 push_cast
 refine .of hz ?_
 have e0:(fm r k false g).rule = 0:=pl_rule hv
 have h1:((k:Int)+1 = 0) = False:=by simp;omega
 push_cast [e0,h1]
 refine pf_ret ?_
 push_cast [residual_rest.rs]
 first | rfl | (rw [encM,cM_eq];rfl) | (simp only [encM,cM];rfl)
theorem residual_rest_b {r:List ARule} {k:Nat} (hk:k < r.length) (hkl:k < 2^40) (hv:(lft r k).var = false) (hf:vfl (lft r k) = true) (hs:size (lft r k) < 2^38) (hs2:size (rgt r k) < 2^40) (ho:∀ v,occ v (rgt r k) = true→v∈vrs r k) (β:Bool) (f g:MSub) (F:AMulti→AMulti→AMulti)
  (hF:∀ v,v∈vrs r k→PF n_residual_rest [encRs r,encM (f v),encM (g v)] (encM (F (f v) (g v)))) :
  PF n_residual_rest [encRs r,encM (fm r k β f),encM (fm r k true g)] (encM (plugMM (vrs r k) (List.zipWith F ((vrs r k).map f) ((vrs r k).map g)) (rgt r k))):=by
 have hvl:(vrs r k).length < 2^38:=by have:=varsOf_len [lft r k];simp only [sizes] at this;unfold vrs;omega
 have hz:=residual_zip_s (F:=F) (g:=n_residual_rest_1) (caps:=[.ro [encRs r] 0]) (fun σ=>by push_cast) ((vrs r k).map f) ((vrs r k).map g) (by simp) (by simpa using hvl) (fun j hj=>by
  rw [List.length_map] at hj
  have e:∀ f:MSub,((vrs r k).map f).getD j default = f ((vrs r k).getD j default):=fun f=>by simp [List.getD_eq_getElem?_getD,hj]
  rw [e,e]
  exact residual_rest_1_s (hF _ (getD_mem hj)))
 have hvs:=term_VarsOf_s [lft r k] (by simp only [sizes];omega)
 have hp:=multi_Plug_s (vrs r k) (List.zipWith F ((vrs r k).map f) ((vrs r k).map g)) (by simp) (by omega) (rgt r k) hs2 ho
 refine pf_of residual_rest.ok rfl ?_
 push_cast
 refine .of (residual_split_k_s hk hkl hv hf hs β true f g (.inr rfl)) ?_
 push_cast
 refine .of hz ?_
 have e0:(fm r k true g).rule = (k:Int)+1:=rfl
 have h1:((k:Int)+1 = 0) = False:=by simp;omega
 have hw:IntKind.i64.wrap ((k:Int)+1 - 1) = k:=by
  rw [Int.add_sub_cancel];exact wrap64 (by omega) (by omega)
 push_cast [e0,h1,hw]
 refine ⟨by omega,by omega,.of hvs ?_⟩
 push_cast
 refine .of hp ?_
 push_cast
 refine pf_ret ?_
 push_cast [residual_rest.rs]
end Go.Dw
end
section
namespace Go.Dw
section
variable {r:List ARule} (h:Ortho r)
include h
theorem Ortho.shapes {a b:AMulti} (ha:OkM r a) (hb:OkM r b) (hs:sideM r ARule.left b = sideM r ARule.left a) :
  (a.rule = 0∧b.rule = 0∧b = .mk 0 a.name a.var b.args∧b.args.map (sideM r ARule.left) = a.args.map (sideM r ARule.left)) ∨
  ∃ (k:Nat) (α β:Bool) (f g:MSub),k < r.length∧a = fm r k α f∧b = fm r k β g∧(α = true ∨ β = true)∧∀ v∈vrs r k,OkM r (f v)∧OkM r (g v)∧sideM r ARule.left (g v) = sideM r ARule.left (f v)∧msize (f v)+msize (g v) < msize a+msize b:=by
 by_cases h0:0 < a.rule
 ·obtain ⟨k,hk,hkr,hak,hlen⟩:=rule_is ha h0
  obtain ⟨β,g,h1,h2,h3⟩:=h.form ha hb hk hak hs
  refine .inr ⟨k,true,β,_,g,hk,hak,h1,.inl rfl,fun v hv=>?_⟩
  have hm:=ofL_mem hlen hv
  obtain ⟨q1,q2,q3⟩:=h3 v hv
  have:=msize_mem hm
  have:=msize_args a
  exact ⟨ha.arg hm,q1,q2,by omega⟩
 ·have ha0:a.rule = 0:=by have:=ha.rule0.1;omega
  by_cases h1:0 < b.rule
  ·obtain ⟨k,hk,hkr,hbk,hlen⟩:=rule_is hb h1
   obtain ⟨α,f,h1,h2,h3⟩:=h.form hb ha hk hbk hs.symm
   refine .inr ⟨k,α,true,f,_,hk,h1,hbk,.inr rfl,fun v hv=>?_⟩
   have hm:=ofL_mem hlen hv
   obtain ⟨q1,q2,q3⟩:=h3 v hv
   have:=msize_mem hm
   have:=msize_args b
   exact ⟨q1,hb.arg hm,q2.symm,by omega⟩
  ·have hb0:b.rule = 0:=by have:=hb.rule0.1;omega
   obtain ⟨q1,q2⟩:=node_form ha0 hb0 hs
   exact .inl ⟨ha0,hb0,q1,q2⟩
theorem residual_rest_s (hrl:r.length≤64) (hsz:∀ k,k < r.length→size (lft r k) < 2^38∧size (rgt r k) < 2^38):∀ (n:Nat) (a b:AMulti),msize a+msize b≤n→OkM r a→OkM r b→sideM r ARule.left b = sideM r ARule.left a→PF n_residual_rest [encRs r,encM a,encM b] (encM (rest r a b))
 | 0,a,b,hn,_,_,_=>by have:=msize_pos a;omega
 | n+1,a,b,hn,ha,hb,hs=>by
  rcases h.shapes ha hb hs with ⟨a0,b0,hbe,hm⟩ | ⟨k,α,β,f,g,hk,rfl,rfl,hαβ,hp⟩
  ·have hl:b.args.length = a.args.length:=by have:=congrArg List.length hm;simpa using this
   have e:rest r a b = .mk 0 a.name a.var (List.zipWith (rest r) a.args b.args):=by
    rw [rest_eq,if_neg (by omega),if_neg (by omega)]
   rw [e]
   refine residual_rest_0 a0 b0 (by omega) ?_ (rest r) fun k hk=>?_
   ·have hf:=allM_self ha.fm
    unfold formedM at hf
    rw [if_neg (by omega)] at hf
    split at hf
    ·simp only [Bool.and_eq_true,decide_eq_true_eq] at hf;omega
    ·simp only [Bool.and_eq_true,decide_eq_true_eq] at hf;omega
   ·have h1:=getD_mem hk
    have h2:=getD_mem (l:=b.args) (k:=k) (by omega)
    have:=arg_lt h1
    have:=arg_lt h2
    refine residual_rest_s hrl hsz n _ _ (by omega) (ha.arg h1) (hb.arg h2) ?_
    have e:=congrArg (fun l=>l.getD k default) hm
    have ea:(a.args.map (sideM r ARule.left)).getD k default = sideM r ARule.left (a.args.getD k default):=by simp [List.getD_eq_getElem?_getD,hk]
    have eb:(b.args.map (sideM r ARule.left)).getD k default = sideM r ARule.left (b.args.getD k default):=by simp [List.getD_eq_getElem?_getD,show k < b.args.length by omega]
    rw [← ea,← eb]
    exact e
  ·obtain ⟨q1,q2,q3,q4,q5,q6,q7⟩:=h.left hk
   obtain ⟨s1,s2⟩:=hsz k hk
   have hF:∀ v,v∈vrs r k→PF n_residual_rest [encRs r,encM (f v),encM (g v)] (encM (rest r (f v) (g v))):=fun v hv=>by
    obtain ⟨p1,p2,p3,p4⟩:=hp v hv
    exact residual_rest_s hrl hsz n _ _ (by omega) p1 p2 p3
   rw [rest_fm h hk]
   cases β with
   | true =>
    have:=residual_rest_b hk (by omega) q1 q2 s1 (by omega) q7 α f g (rest r) hF
    rw [zip_map,plugMM_pl] at this
    rw [if_pos rfl]
    have e:pl (ofL (vrs r k) (List.map (fun x=>rest r (f x) (g x)) (vrs r k))) (rgt r k) = pl (fun v=>rest r (f v) (g v)) (rgt r k):=pl_congr _ fun v hv=>ofL_vars _ (q7 v hv)
    rw [e] at this
    exact this
   | false =>
    have hα:α = true:=by simpa using hαβ
    subst hα
    have:=residual_rest_a hk (by omega) q1 q2 s1 f g (rest r) hF
    rw [zip_map] at this
    exact this
end
end Go.Dw
end
section
namespace Go.Dw
theorem okM_same {r:List ARule} {a:AMulti} (ha:OkM r a) (h0:a.rule = 0) {l:List AMulti} (hl:l.length = a.args.length) (h:∀ x∈l,OkM r x):OkM r (.mk 0 a.name a.var l):=by
 refine ⟨?_,?_⟩
 ·rw [allM_eq,Bool.and_eq_true,List.all_eq_true]
  exact ⟨by simp [rangedM,AMulti.rule],fun x hx=>(h x hx).rg⟩
 ·rw [allM_eq,Bool.and_eq_true,List.all_eq_true]
  refine ⟨?_,fun x hx=>(h x hx).fm⟩
  have hf:=allM_self ha.fm
  cases a with
  | mk k n v l0 =>
   have h0:k = 0:=h0
   subst h0
   have hl:l.length = l0.length:=hl
   unfold formedM at hf ⊢
   simp only [AMulti.rule,AMulti.var,AMulti.args,AMulti.name,hl] at hf ⊢
   exact hf
section
variable {r:List ARule} (h:Ortho r)
include h
theorem Ortho.rest_ok:∀ (n:Nat) (a b:AMulti),msize a+msize b≤n→OkM r a→OkM r b→sideM r ARule.left b = sideM r ARule.left a→OkM r (rest r a b)∧sideM r ARule.left (rest r a b) = sideM r ARule.right b
 | 0,a,b,hn,_,_,_=>by have:=msize_pos a;omega
 | n+1,a,b,hn,ha,hb,hs=>by
  rcases h.shapes ha hb hs with ⟨a0,b0,hbe,hm⟩ | ⟨k,α,β,f,g,hk,rfl,rfl,hαβ,hp⟩
  ·have hl:b.args.length = a.args.length:=by have:=congrArg List.length hm;simpa using this
   have e:rest r a b = .mk 0 a.name a.var (List.zipWith (rest r) a.args b.args):=by
    rw [rest_eq,if_neg (by omega),if_neg (by omega)]
   have hi:∀ k,k < a.args.length→OkM r (rest r (a.args.getD k default) (b.args.getD k default))∧sideM r ARule.left (rest r (a.args.getD k default) (b.args.getD k default)) = sideM r ARule.right (b.args.getD k default):=fun k hk=>by
    have h1:=getD_mem hk
    have h2:=getD_mem (l:=b.args) (k:=k) (by omega)
    have:=arg_lt h1
    have:=arg_lt h2
    refine Ortho.rest_ok n _ _ (by omega) (ha.arg h1) (hb.arg h2) ?_
    have e:=congrArg (fun l=>l.getD k default) hm
    have ea:(a.args.map (sideM r ARule.left)).getD k default = sideM r ARule.left (a.args.getD k default):=by simp [List.getD_eq_getElem?_getD,hk]
    have eb:(b.args.map (sideM r ARule.left)).getD k default = sideM r ARule.left (b.args.getD k default):=by simp [List.getD_eq_getElem?_getD,show k < b.args.length by omega]
    rw [← ea,← eb]
    exact e
   have hz:∀ k,k < a.args.length→(List.zipWith (rest r) a.args b.args)[k]? = some (rest r (a.args.getD k default) (b.args.getD k default)):=fun k hk=>by
    have ea:a.args[k]? = some (a.args.getD k default):=by simp [List.getD_eq_getElem?_getD,hk]
    have eb:b.args[k]? = some (b.args.getD k default):=by simp [List.getD_eq_getElem?_getD,show k < b.args.length by omega]
    rw [List.getElem?_zipWith,ea,eb]
   have hzl:(List.zipWith (rest r) a.args b.args).length = a.args.length:=by rw [List.length_zipWith];omega
   rw [e]
   refine ⟨okM_same ha a0 hzl fun x hx=>?_,?_⟩
   ·obtain ⟨k,hk,rfl⟩:=List.getElem_of_mem hx
    have h1:=hz k (by omega)
    rw [List.getElem?_eq_getElem hk] at h1
    injection h1 with h1
    rw [h1];exact (hi k (by omega)).1
   ·rw [sideM_eq,if_pos (show (AMulti.mk 0 a.name a.var (List.zipWith (rest r) a.args b.args)).rule = 0 from rfl),sideM_eq,if_pos b0]
    have en:b.name = a.name:=by have:=congrArg AMulti.name hbe;exact this
    have ev:b.var = a.var:=by have:=congrArg AMulti.var hbe;exact this
    rw [en,ev]
    congr 1
    refine List.ext_getElem? fun k=>?_
    by_cases hk:k < a.args.length
    ·have eb:b.args[k]? = some (b.args.getD k default):=by simp [List.getD_eq_getElem?_getD,show k < b.args.length by omega]
     rw [List.getElem?_map,List.getElem?_map,eb]
     have e2:(AMulti.mk 0 a.name a.var (List.zipWith (rest r) a.args b.args)).args = List.zipWith (rest r) a.args b.args:=rfl
     rw [e2,hz k hk]
     exact congrArg some (hi k hk).2
    ·rw [List.getElem?_eq_none (by rw [List.length_map];show (List.zipWith (rest r) a.args b.args).length≤k;omega),List.getElem?_eq_none (by rw [List.length_map];omega)]
  ·obtain ⟨q1,q2,q3,q4,q5,q6,q7⟩:=h.left hk
   have hi:∀ v∈vrs r k,OkM r (rest r (f v) (g v))∧sideM r ARule.left (rest r (f v) (g v)) = sideM r ARule.right (g v):=fun v hv=>by
    obtain ⟨p1,p2,p3,p4⟩:=hp v hv
    exact Ortho.rest_ok n _ _ (by omega) p1 p2 p3
   rw [rest_fm h hk,h.tgt_fm hk]
   cases β with
   | true =>
    refine ⟨okM_pl _ q5 fun v hv=>(hi v (q7 v hv)).1,?_⟩
    rw [if_pos rfl,if_pos rfl,side_pl]
    exact app_congr _ fun v hv=>(hi v (q7 v hv)).2
   | false =>
    refine ⟨h.ok_fm hk fun v hv=>(hi v hv).1,?_⟩
    have e:=h.src_fm hk (b:=α) (g:=fun v=>rest r (f v) (g v))
    refine e.trans ?_
    rw [if_neg (by simp)]
    exact app_congr _ fun v hv=>(hi v (mem_vrs.2 hv)).2
end
end Go.Dw
end
section
namespace Go.Dw
def sumA (σ:Sub) (L:Term):List Str→Nat
 | []=>0
 | v :: vs=>(if occ v L then size (σ v) else 0)+sumA σ L vs
def sumAs (σ:Sub) (l:List Term):List Str→Nat
 | []=>0
 | v :: vs=>(if occs v l then size (σ v) else 0)+sumAs σ l vs
theorem sumAs_cons (σ:Sub) (a:Term) (l:List Term) (vs:List Str):sumAs σ (a :: l) vs≤sumA σ a vs+sumAs σ l vs:=by
 induction vs with
 | nil=>simp [sumAs,sumA]
 | cons v vs ih =>
  simp only [sumAs,sumA,occs,Bool.or_eq_true]
  by_cases h1:occ v a = true <;> by_cases h2:occs v l = true <;> simp [h1,h2] <;> omega
theorem sumA_var (σ:Sub) (n:Str):∀ vs:List Str,vs.Nodup→sumA σ (.mk n true []) vs≤size (σ n)
 | [],_=>by simp [sumA]
 | v :: vs,h=>by
  obtain ⟨h1,h2⟩:=List.nodup_cons.1 h
  have ih:=sumA_var σ n vs h2
  simp only [sumA]
  by_cases he:n = v
  ·subst he
   have h0:∀ ws:List Str,n ∉ ws→sumA σ (.mk n true []) ws = 0:=by
    intro ws
    induction ws with
    | nil=>intro _;rfl
    | cons w ws ihw =>
     intro hw
     simp only [List.mem_cons,not_or] at hw
     simp only [sumA,ihw hw.2,occ,occs,Bool.or_false,Bool.true_and,decide_eq_true_eq]
     rw [if_neg hw.1]
   rw [h0 vs h1]
   split <;> omega
  ·have:occ v (.mk n true []) = false:=by simp [occ,occs,he]
   rw [this]
   simp only [Bool.false_eq_true,if_false,Nat.zero_add]
   exact ih
mutual
theorem sumA_le (σ:Sub) (vs:List Str) (hn:vs.Nodup):∀ L:Term,vfl L = true→sumA σ L vs≤size (app σ L)∧(L.var = false→sumA σ L vs < size (app σ L))
 | .mk n true l,hs=>by
  have ha:l = []:=(vfl_iff.1 hs).1 rfl
  subst ha
  refine ⟨?_,fun h=>by cases h⟩
  rw [app_eq]
  exact sumA_var σ n vs hn
 | .mk n false l,hs=>by
  have h:=sumAs_le σ vs hn l (vfl_iff.1 hs).2
  have e:∀ ws,sumA σ (.mk n false l) ws = sumAs σ l ws:=by
   intro ws
   induction ws with
   | nil=>rfl
   | cons w ws ih=>simp only [sumA,sumAs,occ,Bool.false_and,Bool.false_or,ih]
  rw [e]
  have hi:size (app σ (.mk n false l)) = 1+sizes (l.map (app σ)):=by
   rw [app_eq];rfl
  rw [hi]
  exact ⟨by omega,fun _=>by omega⟩
theorem sumAs_le (σ:Sub) (vs:List Str) (hn:vs.Nodup):∀ l:List Term,(∀ a∈l,vfl a = true)→sumAs σ l vs≤sizes (l.map (app σ))
 | [],_=>by
  have:∀ ws,sumAs σ [] ws = 0:=by
   intro ws
   induction ws with
   | nil=>rfl
   | cons w ws ih=>simp [sumAs,occs,ih]
  rw [this];exact Nat.zero_le _
 | a :: l,hs=>by
  have h1:=sumAs_cons σ a l vs
  have h2:=(sumA_le σ vs hn a (hs a (by simp))).1
  have h3:=sumAs_le σ vs hn l fun b hb=>hs b (by simp [hb])
  simp only [List.map_cons,sizes];omega
end
theorem sumA_map (f:Sub) (L:Term):∀ vs:List Str,(∀ v∈vs,occ v L = true)→sumA f L vs = sizes (vs.map f)
 | [],_=>rfl
 | v :: vs,h=>by
  simp only [sumA,List.map_cons,sizes]
  rw [if_pos (h v (by simp)),sumA_map f L vs fun w hw=>h w (by simp [hw])]
theorem msizes_map_le {F:AMulti→Term}:∀ {l:List AMulti},(∀ a∈l,msize a≤size (F a))→msizes l≤sizes (l.map F)
 | [],_=>Nat.le_refl _
 | a :: l,h=>by
  have h1:=h a (by simp)
  have h2:=msizes_map_le (l:=l) fun x hx=>h x (by simp [hx])
  simp only [msizes,List.map_cons,sizes]
  omega
theorem Ortho.size_le {r:List ARule} (h:Ortho r):∀ (n:Nat) (m:AMulti),msize m≤n→OkM r m→msize m≤size (sideM r ARule.left m)
 | 0,m,hn,_=>by have:=msize_pos m;omega
 | n+1,m,hn,hm=>by
  have ih:msizes m.args≤sizes (m.args.map (sideM r ARule.left)):=msizes_map_le fun a ha=>h.size_le n a (by have:=arg_lt ha;omega) (hm.arg ha)
  have hsz:=msize_args m
  by_cases h0:0 < m.rule
  ·obtain ⟨k,hk,hkr,hmk,hlen⟩:=rule_is hm h0
   obtain ⟨q1,q2,q3,q4,q5,q6,q7⟩:=h.left hk
   have e:sideM r ARule.left m = app (fun v=>sideM r ARule.left (ofL (vrs r k) m.args v)) (lft r k):=(congrArg (sideM r ARule.left) hmk).trans (side_ru fun v hv=>mem_vrs.2 hv)
   have h1:=(sumA_le (fun v=>sideM r ARule.left (ofL (vrs r k) m.args v)) (vrs r k) (varsOf_nodup _) (lft r k) q2).2 q1
   rw [sumA_map _ _ _ fun v hv=>mem_vrs.1 hv] at h1
   have e2:(vrs r k).map (fun v=>sideM r ARule.left (ofL (vrs r k) m.args v)) = m.args.map (sideM r ARule.left):=by
    have e3:m.args = (vrs r k).map (ofL (vrs r k) m.args):=congrArg AMulti.args hmk
    conv=>rhs;rw [e3]
    rw [List.map_map];rfl
   rw [e2] at h1
   rw [e];omega
  ·have m0:m.rule = 0:=by have:=hm.rule0.1;omega
   rw [sideM_eq,if_pos m0]
   simp only [size]
   omega
end Go.Dw
end
section
namespace Go.Dw
theorem pairE_ok {r:List ARule} {a b:AMulti} (h:pairE r a b = 0):readyE r = 0∧endsE r a = 0∧endsE r b = 0∧srcT r a = srcT r b:=by
 unfold pairE at h
 split at h
 ·rename_i hc;exact absurd h hc
 ·rename_i h1
  split at h
  ·rename_i hc;exact absurd h hc
  ·rename_i h2
   split at h
   ·rename_i hc;exact absurd h hc
   ·rename_i h3
    split at h
    ·rename_i h4
     exact ⟨Classical.not_not.1 h1,Classical.not_not.1 h2,Classical.not_not.1 h3,h4⟩
    ·cases h
theorem pair_good {r:List ARule} {a b:AMulti} (h:pairE r a b = 0):Ortho r∧OkM r a∧OkM r b∧sideM r ARule.left b = sideM r ARule.left a∧fits (sideM r ARule.left a) = true∧fits (sideM r ARule.right b) = true∧fits (sideM r ARule.right a) = true∧r.length≤64∧∀ k,k < r.length→size (lft r k) < 2^38∧size (rgt r k) < 2^38:=by
 obtain ⟨h1,h2,h3,h4⟩:=pairE_ok h
 obtain ⟨a1,a2,a3,a4,a5⟩:=endsE_ok h2
 obtain ⟨b1,b2,b3,b4,b5⟩:=endsE_ok h3
 have hr:=ready_ok h1
 have hg:=good_system hr.2
 refine ⟨ortho_of hr.1,(checkM_ok a1).2.1,(checkM_ok b1).2.1,by rw [← a2,← b2,h4],a4,b5,a5,hg.2,fun k hk=>?_⟩
 have hx:=hg.1 _ (getD_mem hk)
 have:=hx.l.sz
 have:=hx.r.sz
 exact ⟨by unfold lft;omega,by unfold rgt;omega⟩
noncomputable def resV (r:List ARule) (a b:AMulti):V:=if pairE r a b ≠ 0 then encME none (pairE r a b) else fitE (rest r a b)
theorem fitE_ex (m:AMulti):fitE m = encME (if fitM m then some m else none) (if fitM m then 0 else 3):=by unfold fitE;split <;> rfl
theorem residual_Residual_s {r:List ARule} {a b:AMulti} (hr:rbs r < 2^38) (ha:mb a < 2^38) (hb:mb b < 2^38):PF n_residual_Residual [encRs r,encM a,encM b] (resV r a b):=by
 have h0:=residual_both_s hr ha hb
 unfold resV
 refine pf_of residual_Residual.ok rfl ?_
 push_cast
 refine .of h0 ?_
 by_cases hp:pairE r a b = 0
 ·obtain ⟨g1,g2,g3,g4,g5,g6,g7,g8,g9⟩:=pair_good hp
  have h1:=residual_rest_s g1 g8 g9 _ a b (Nat.le_refl _) g2 g3 g4
  have hk:=g1.rest_ok _ a b (Nat.le_refl _) g2 g3 g4
  have h2:=multi_Fit_s (rest r a b) (by
   have:=g1.size_le _ _ (Nat.le_refl _) hk.1
   rw [hk.2] at this
   have:size (sideM r ARule.right b)≤4000:=by
    unfold fits at g6
    simp only [Bool.and_eq_true,decide_eq_true_eq] at g6
    exact g6.1
   omega)
  rw [if_neg (by simp [hp]),fitE_ex]
  rw [fitE_ex] at h2
  push_cast [hp]
  refine .of h1 ?_
  push_cast
  refine .of h2 ?_
  split
  ·push_cast [encME]
   exact pf_ret (by push_cast [residual_Residual.rs])
  ·push_cast [encME]
   exact pf_ret (by push_cast [residual_Residual.rs])
 ·rw [if_pos hp]
  push_cast [hp]
  exact pf_ret (by push_cast [residual_Residual.rs,encME];rfl)
end Go.Dw
end
section
namespace Go.Dw
theorem zip_ext {α β γ:Type} [Inhabited α] [Inhabited β] {F G:α→β→γ}:∀ {l:List α} {m:List β},m.length = l.length→(∀ k,k < l.length→F (l.getD k default) (m.getD k default) = G (l.getD k default) (m.getD k default))→List.zipWith F l m = List.zipWith G l m
 | [],_,_,_=>by simp
 | _ :: _,[],hl,_=>by simp at hl
 | a :: l,b :: m,hl,h=>by
  have h0:F a b = G a b:=h 0 (by simp)
  have ih:=zip_ext (F:=F) (G:=G) (l:=l) (m:=m) (by simpa using hl) fun k hk=>h (k+1) (by simpa using hk)
  simp only [List.zipWith_cons_cons]
  rw [ih,h0]
theorem side_node {r:List ARule} {F:ARule→Term} (n:Str) (v:Bool) (l:List AMulti):sideM r F (.mk 0 n v l) = .mk n v (l.map (sideM r F)):=by
 rw [sideM_eq,if_pos (show (AMulti.mk 0 n v l).rule = 0 from rfl)];rfl
theorem map_get {α β:Type} [Inhabited α] [Inhabited β] {F:α→β} {l m:List α} (h:l.map F = m.map F) {k:Nat} (hk:k < m.length):F (l.getD k default) = F (m.getD k default):=by
 have hl:l.length = m.length:=by have:=congrArg List.length h;simpa using this
 have e:=congrArg (fun l=>l.getD k default) h
 have ea:(l.map F).getD k default = F (l.getD k default):=by simp [List.getD_eq_getElem?_getD,show k < l.length by omega]
 have eb:(m.map F).getD k default = F (m.getD k default):=by simp [List.getD_eq_getElem?_getD,hk]
 rw [← ea,← eb];exact e
section
variable {r:List ARule} (h:Ortho r)
include h
theorem Ortho.tgt_rest {k:Nat} (hk:k < r.length) {α β:Bool} (hαβ:α = true ∨ β = true) (R:MSub):sideM r ARule.right (if β then pl R (rgt r k) else fm r k α R) = app (fun v=>sideM r ARule.right (R v)) (rgt r k):=by
 cases β with
 | true=>rw [if_pos rfl];exact side_pl _
 | false =>
  have hα:α = true:=by simpa using hαβ
  subst hα
  rw [if_neg (by simp),h.tgt_fm hk,if_pos rfl]
theorem Ortho.diamond:∀ (n:Nat) (a b:AMulti),msize a+msize b≤n→OkM r a→OkM r b→sideM r ARule.left b = sideM r ARule.left a→sideM r ARule.right (rest r a b) = sideM r ARule.right (uni r a b)∧sideM r ARule.right (rest r b a) = sideM r ARule.right (uni r a b)
 | 0,a,b,hn,_,_,_=>by have:=msize_pos a;omega
 | n+1,a,b,hn,ha,hb,hs=>by
  rcases h.shapes ha hb hs with ⟨a0,b0,hbe,hm⟩ | ⟨k,α,β,f,g,hk,rfl,rfl,hαβ,hp⟩
  ·have hl:b.args.length = a.args.length:=by have:=congrArg List.length hm;simpa using this
   have e:rest r a b = .mk 0 a.name a.var (List.zipWith (rest r) a.args b.args):=by
    rw [rest_eq,if_neg (by omega),if_neg (by omega)]
   have e1:rest r b a = .mk 0 b.name b.var (List.zipWith (rest r) b.args a.args):=by
    rw [rest_eq,if_neg (by omega),if_neg (by omega)]
   have e2:uni r a b = .mk 0 a.name a.var (List.zipWith (uni r) a.args b.args):=by
    rw [uni_eq,if_neg (by omega),if_neg (by omega)]
   have hi:∀ k,k < a.args.length→_:=fun k hk=>by
    have h1:=getD_mem hk
    have h2:=getD_mem (l:=b.args) (k:=k) (by omega)
    have:=arg_lt h1
    have:=arg_lt h2
    exact Ortho.diamond n (a.args.getD k default) (b.args.getD k default) (by omega) (ha.arg h1) (hb.arg h2) (map_get hm hk)
   have en:b.name = a.name:=by have:=congrArg AMulti.name hbe;exact this
   have ev:b.var = a.var:=by have:=congrArg AMulti.var hbe;exact this
   rw [e,e1,e2,en,ev,side_node,side_node,side_node,List.map_zipWith,List.map_zipWith,List.map_zipWith]
   refine ⟨?_,?_⟩
   ·have e3:=zip_ext (F:=fun x y=>sideM r ARule.right (rest r x y)) (G:=fun x y=>sideM r ARule.right (uni r x y)) hl fun k hk=>(hi k hk).1
    rw [e3]
   ·have e3:=zip_ext (F:=fun x y=>sideM r ARule.right (rest r y x)) (G:=fun x y=>sideM r ARule.right (uni r x y)) hl fun k hk=>(hi k hk).2
    have e4:List.zipWith (fun x y=>sideM r ARule.right (rest r x y)) b.args a.args = List.zipWith (fun x y=>sideM r ARule.right (rest r y x)) a.args b.args:=List.zipWith_comm ..
    rw [e4,e3]
  ·obtain ⟨q1,q2,q3,q4,q5,q6,q7⟩:=h.left hk
   have hi:∀ v∈vrs r k,_:=fun v hv=>by
    obtain ⟨p1,p2,p3,p4⟩:=hp v hv
    exact Ortho.diamond n (f v) (g v) (by omega) p1 p2 p3
   have e:(α || β) = true:=by rcases hαβ with rfl | rfl <;> simp
   rw [rest_fm h hk,rest_fm h hk,uni_fm h hk,e,h.tgt_rest hk hαβ,h.tgt_rest hk hαβ.symm,h.tgt_fm hk,if_pos rfl]
   exact ⟨app_congr _ fun v hv=>(hi v (q7 v hv)).1,app_congr _ fun v hv=>(hi v (q7 v hv)).2⟩
end
end Go.Dw
end
section
namespace Go.Dw
section
variable {r:List ARule} (h:Ortho r)
include h
omit h in
theorem restN {r:List ARule} {a b:AMulti} (ha:a.rule = 0) (hb:b.rule = 0):rest r a b = .mk 0 a.name a.var (List.zipWith (rest r) a.args b.args):=by
 rw [rest_eq,if_neg (by omega),if_neg (by omega)]
end
end Go.Dw
end
section
namespace Go.Dw
theorem ok_mb {r:List ARule} (m:AMulti):OkM r m→mb m≤25 * msize m:=by
 induction m using multi_ind with
 | h m ih =>
 intro hm
 have h1:=mb_args m
 have h2:=msize_args m
 have h3:∀ l:List AMulti,(∀ a∈l,a∈m.args)→mbs l≤25 * msizes l:=by
  intro l
  induction l with
  | nil=>intro _;simp [mbs,msizes]
  | cons a l ihl =>
   intro hl
   have:=ih a (hl a (by simp)) (hm.arg (hl a (by simp)))
   have:=ihl fun x hx=>hl x (by simp [hx])
   simp only [mbs,msizes];omega
 have h4:=h3 m.args fun a ha=>ha
 have h5:m.name.length≤24:=by
  have hf:=allM_self hm.fm
  unfold formedM at hf
  split at hf
  ·rw [Bool.and_eq_true,decide_eq_true_eq] at hf
   rw [hf.1];simp
  ·split at hf
   ·simp only [Bool.and_eq_true,isName,decide_eq_true_eq] at hf;exact hf.2.1
   ·simp only [Bool.and_eq_true,isName,decide_eq_true_eq] at hf;exact hf.2.1
 omega
noncomputable def resP (r:List ARule) (a b:AMulti):AMulti × Int:=if pairE r a b ≠ 0 then (zM,pairE r a b) else if fitM (rest r a b) = true then (rest r a b,0) else (zM,3)
theorem resV_P (r:List ARule) (a b:AMulti):resV r a b = .tup [encM (resP r a b).1,.int .i64 (resP r a b).2]:=by
 unfold resV resP fitE
 split
 ·rfl
 ·split <;> rfl
theorem resP_ok {r:List ARule} {a b:AMulti} (h:(resP r a b).2 = 0):pairE r a b = 0∧fitM (rest r a b) = true∧(resP r a b).1 = rest r a b:=by
 unfold resP at h ⊢
 split at h
 ·rename_i hc;exact absurd h hc
 ·rename_i hc
  rw [if_neg hc]
  split at h
  ·rename_i h2;rw [if_pos h2];exact ⟨Classical.not_not.1 hc,h2,rfl⟩
  ·cases h
theorem fitM_le {m:AMulti} (h:fitM m = true):msize m≤4000∧mdepth m≤200:=by
 unfold fitM at h
 simpa using h
theorem res_good {r:List ARule} {a b:AMulti} (h:(resP r a b).2 = 0):(resP r a b).1 = rest r a b∧checkM r (rest r a b) = 0∧OkM r (rest r a b)∧sideM r ARule.left (rest r a b) = sideM r ARule.right b∧fits (sideM r ARule.right b) = true∧mb (rest r a b) < 2^28:=by
 obtain ⟨h1,h2,h3⟩:=resP_ok h
 obtain ⟨g1,g2,g3,g4,g5,g6,g7,g8,g9⟩:=pair_good h1
 obtain ⟨k1,k2⟩:=g1.rest_ok _ a b (Nat.le_refl _) g2 g3 g4
 obtain ⟨k3,k4⟩:=fitM_le h2
 have:=ok_mb _ k1
 exact ⟨h3,checkM_iff.2 ⟨g1.sys,k1,k3,k4⟩,k1,k2,g6,by omega⟩
def okEnds (r:List ARule) (m:AMulti):Bool:=decide ((endM r ARule.left m).2 = 0) && decide ((endM r ARule.right m).2 = 0)
def endL (r:List ARule) (m:AMulti):Term:=(endM r ARule.left m).1.getD noT
def endR (r:List ARule) (m:AMulti):Term:=(endM r ARule.right m).1.getD noT
theorem okEnds_is {r:List ARule} {m:AMulti} (h:okEnds r m = true):checkM r m = 0∧fits (sideM r ARule.left m) = true∧fits (sideM r ARule.right m) = true∧endL r m = sideM r ARule.left m∧endR r m = sideM r ARule.right m:=by
 unfold okEnds at h
 rw [Bool.and_eq_true,decide_eq_true_eq,decide_eq_true_eq] at h
 obtain ⟨a1,a2,a3⟩:=endM_some h.1
 obtain ⟨b1,b2,b3⟩:=endM_some h.2
 refine ⟨a1,a2,b2,?_,?_⟩
 ·unfold endL;rw [a3];rfl
 ·unfold endR;rw [b3];rfl
theorem tb_end {r:List ARule} {m:AMulti} (h:checkM r m = 0):(fits (sideM r ARule.left m) = true→tb (sideM r ARule.left m) < 2^28)∧(fits (sideM r ARule.right m) = true→tb (sideM r ARule.right m) < 2^28):=by
 obtain ⟨d1,d2,d3,d4⟩:=checkM_ok h
 have key:∀ f:ARule→Term,(∀ x∈r,short (f x) = true)→fits (sideM r f m) = true→tb (sideM r f m) < 2^28:=fun f hf hft=>by
  have h2:=tb_short _ (side_short r f hf m d2)
  have h3:=fits_size hft
  omega
 exact ⟨key _ fun x hx=>(checkSystem_good d1 x hx).1.1,key _ fun x hx=>(checkSystem_good d1 x hx).2.1⟩
end Go.Dw
end
section
namespace Go.Dw
theorem l18_ends_s {r:List ARule} {m:AMulti} (hr:rbs r < 2^38) (hm:mb m < 2^38):PF n_l18_ends [encRs r,encM m] (.tup [encT (endL r m),encT (endR r m),.bool (okEnds r m)]):=by
 have h1:=multi_Source_s r m hr hm
 have h2:=multi_Target_s r m hr hm
 rw [encTE_getD] at h1 h2
 unfold endL endR okEnds
 generalize endM r ARule.left m = A at *
 generalize endM r ARule.right m = B at *
 obtain ⟨o1,e1⟩:=A
 obtain ⟨o2,e2⟩:=B
 refine pf_of l18_ends.ok rfl ?_
 push_cast
 refine .of h1 ?_
 push_cast
 refine .of h2 ?_
 simp only
 by_cases c1:e1 = 0
 ·subst c1
  by_cases c2:e2 = 0
  ·subst c2
   push_cast
   exact pf_ret (by push_cast [l18_ends.rs])
  ·push_cast [eq_false c2]
   exact pf_ret (by push_cast [l18_ends.rs,eq_false c2])
 ·push_cast [eq_false c1]
  exact pf_ret (by push_cast [l18_ends.rs,eq_false c1])
end Go.Dw
end
section
namespace Go.Dw
theorem inst_imgV (s:List ABind) (t:Term):inst s t = app (imgV s) t:=inst_app s t
theorem app_match {L:Term} (hf:vfl L = true) (f:Sub):(matchT [] L (app f L)).2 = true∧∀ v,occ v L = true→imgV (matchT [] L (app f L)).1 v = f v:=by
 have e:app f L = inst (bindL (varsOf [L]) ((varsOf [L]).map f)) L:=by
  rw [inst_bindL _ _ (by simp) L fun v hv=>(mem_varsOf v L).2 hv,plugT_app]
  exact app_congr L fun v hv=>(ofL_vars f ((mem_varsOf v L).2 hv)).symm
 have h1:(matchT [] L (app f L)).2 = true:=by
  rw [e]
  exact (match_complete _ L [] fun n x h=>by cases h).1
 refine ⟨h1,fun v hv=>?_⟩
 have h2:=match_inst h1
 rw [inst_imgV] at h2
 exact app_inj L h2 v hv hf
def matB (r:List ARule) (k:Nat) (t:Term):Bool:=(matchT [] (lft r k) t).2
def redI (r:List ARule) (t:Term):Option Nat:=(List.range r.length).find? fun k=>matB r k t
def sigK (r:List ARule) (k:Nat) (t:Term):Sub:=imgV (matchT [] (lft r k) t).1
theorem matB_app {r:List ARule} {k:Nat} {t:Term} (h:matB r k t = true):app (sigK r k t) (lft r k) = t:=by
 have:=match_inst h
 rwa [inst_imgV] at this
theorem redI_some {r:List ARule} {t:Term} {k:Nat} (h:redI r t = some k):k < r.length∧matB r k t = true:=by
 unfold redI at h
 exact ⟨List.mem_range.1 (List.mem_of_find?_eq_some h),by simpa using List.find?_some h⟩
theorem redI_none {r:List ARule} {t:Term} (h:redI r t = none):∀ k,k < r.length→matB r k t = false:=by
 unfold redI at h
 rw [List.find?_eq_none] at h
 intro k hk
 have:=h k (List.mem_range.2 hk)
 simpa using this
def fullM (r:List ARule):Nat→Term→AMulti
 | 0,_=>zM
 | n+1,t=>match redI r t with
  | some k=>ru r k (fun v=>fullM r n (sigK r k t v))
  | none=>.mk 0 t.name t.var (t.args.map (fullM r n))
section
variable {r:List ARule} (h:Ortho r)
include h
theorem Ortho.one {i j:Nat} (hi:i < r.length) (hj:j < r.length) {t:Term} (h1:matB r i t = true) (h2:matB r j t = true):i = j:=by
 rcases Classical.em (i = j) with e | e
 ·exact e
 ·exfalso
  refine h.nov i j hi hj [] (lft r i) rfl (h.left hi).1 (fun c=>e c.1) (sigK r i t) (sigK r j t) ?_
  rw [matB_app h1]
  exact (matB_app h2).symm
theorem Ortho.sig {k:Nat} (hk:k < r.length) (f:Sub):matB r k (app f (lft r k)) = true∧∀ v∈vrs r k,sigK r k (app f (lft r k)) v = f v:=by
 obtain ⟨h1,h2⟩:=app_match (h.left hk).2.1 f
 exact ⟨h1,fun v hv=>h2 v (mem_vrs.1 hv)⟩
theorem Ortho.sig_lt {k:Nat} (hk:k < r.length) {t:Term} (h1:matB r k t = true):∀ v∈vrs r k,size (sigK r k t v) < size t:=fun v hv=>by
 obtain ⟨q1,q2,q3,q4,q5,q6,q7⟩:=h.left hk
 have h2:=(sumA_le (sigK r k t) (vrs r k) (varsOf_nodup _) (lft r k) q2).2 q1
 rw [matB_app h1] at h2
 have h3:∀ l:List Str,v∈l→(∀ w∈l,occ w (lft r k) = true)→size (sigK r k t v)≤sumA (sigK r k t) (lft r k) l:=by
  intro l
  induction l with
  | nil=>intro hv _;cases hv
  | cons w l ih =>
   intro hv ho
   simp only [sumA]
   rw [if_pos (ho w (by simp))]
   rcases List.mem_cons.1 hv with rfl | hv
   ·omega
   ·have:=ih hv fun x hx=>ho x (by simp [hx])
    omega
 have:=h3 _ hv fun w hw=>mem_vrs.1 hw
 omega
theorem Ortho.full_ok:∀ (n:Nat) (t:Term),size t≤n→formed t = true→OkM r (fullM r n t)∧sideM r ARule.left (fullM r n t) = t
 | 0,t,hn,_=>by have:=size_pos t;omega
 | n+1,t,hn,ht=>by
  have hst:=size_args t
  cases he:redI r t with
  | some k =>
   obtain ⟨hk,h1⟩:=redI_some he
   have hi:∀ v∈vrs r k,OkM r (fullM r n (sigK r k t v))∧sideM r ARule.left (fullM r n (sigK r k t v)) = sigK r k t v:=fun v hv=>by
    refine Ortho.full_ok n _ (by have:=h.sig_lt hk h1 v hv;omega) ?_
    have h2:=matB_app h1
    have key:∀ L:Term,vfl L = true→formed (app (sigK r k t) L) = true→occ v L = true→formed (sigK r k t v) = true:=by
     intro L
     induction L using term_ind with
     | h L ih =>
      intro hf hL ho
      cases hv2:L.var with
      | true=>rw [app_var hv2] at hL;rw [(occ_var hf hv2).1 ho] at hL;exact hL
      | false =>
       rw [app_fun hv2] at hL
       obtain ⟨a,ha,hoa⟩:=(occ_fun hv2).1 ho
       exact ih a ha (vfl_arg hf ha) ((formed_iff.1 hL).2 _ (List.mem_map.2 ⟨a,ha,rfl⟩)) hoa
    exact key (lft r k) (h.left hk).2.1 (by rw [h2];exact ht) (mem_vrs.1 hv)
   simp only [fullM,he]
   refine ⟨okM_ru hk fun v hv=>(hi v hv).1,?_⟩
   rw [side_ru fun v hv=>mem_vrs.2 hv]
   refine Eq.trans (app_congr _ fun v hv=>(hi v (mem_vrs.2 hv)).2) (matB_app h1)
  | none =>
   obtain ⟨f1,f2⟩:=formed_iff.1 ht
   have hi:∀ a∈t.args,OkM r (fullM r n a)∧sideM r ARule.left (fullM r n a) = a:=fun a ha=>Ortho.full_ok n a (by have:=size_mem ha;omega) (f2 a ha)
   simp only [fullM,he]
   refine ⟨⟨?_,?_⟩,?_⟩
   ·rw [allM_eq,Bool.and_eq_true,List.all_eq_true]
    refine ⟨by simp [rangedM,AMulti.rule],fun x hx=>?_⟩
    obtain ⟨a,ha,rfl⟩:=List.mem_map.1 (show x∈t.args.map (fullM r n) from hx)
    exact (hi a ha).1.rg
   ·rw [allM_eq,Bool.and_eq_true,List.all_eq_true]
    refine ⟨?_,fun x hx=>?_⟩
    ·unfold nodeOk at f1
     unfold formedM
     cases hv:t.var with
     | true =>
      rw [hv] at f1
      simp only [AMulti.rule,AMulti.var,AMulti.args,AMulti.name,if_true,Bool.and_eq_true,decide_eq_true_eq] at f1 ⊢
      simp [f1]
     | false =>
      rw [hv] at f1
      simp only [AMulti.rule,AMulti.var,AMulti.args,AMulti.name,Bool.false_eq_true,if_false,Bool.and_eq_true,decide_eq_true_eq] at f1 ⊢
      simp [f1]
    ·obtain ⟨a,ha,rfl⟩:=List.mem_map.1 (show x∈t.args.map (fullM r n) from hx)
     exact (hi a ha).1.fm
   ·rw [side_node,List.map_map]
    have:t.args.map (sideM r ARule.left ∘ fullM r n) = t.args:=by
     conv=>rhs;rw [← List.map_id t.args]
     exact List.map_congr_left fun a ha=>(hi a ha).2
    rw [this];cases t;rfl
omit h in
theorem count_pl {g:MSub} (t:Term):(∀ v,occ v t = true→countM (g v) = 0)→countM (pl g t) = 0:=by
 induction t using term_ind with
 | h t ih =>
 intro hg
 cases hv:t.var with
 | true=>rw [pl_var hv];exact hg _ (uocc_iff.2 (.inl ⟨hv,rfl⟩))
 | false =>
  rw [pl_fun hv,countM_eq]
  have key:∀ l:List Term,(∀ a∈l,a∈t.args)→countMs (l.map (pl g)) = 0:=by
   intro l
   induction l with
   | nil=>intro _;rfl
   | cons a l ihl =>
    intro hl
    simp only [List.map_cons,countMs]
    rw [ih a (hl a (by simp)) fun v hv=>hg v (uocc_iff.2 (.inr ⟨a,hl a (by simp),hv⟩)),ihl fun x hx=>hl x (by simp [hx])]
  have:=key t.args fun a ha=>ha
  show (if (0:Int) = 0 then 0 else 1)+countMs (t.args.map (pl g)) = 0
  rw [this];rfl
theorem Ortho.full_rest:∀ (n:Nat) (t:Term),size t≤n→formed t = true→∀ a,OkM r a→sideM r ARule.left a = t→countM (rest r a (fullM r n t)) = 0
 | 0,t,hn,_,_,_,_=>by have:=size_pos t;omega
 | n+1,t,hn,ht,a,ha,hs=>by
  have hst:=size_args t
  obtain ⟨o1,o2⟩:=h.full_ok (n+1) t hn ht
  cases he:redI r t with
  | some k =>
   obtain ⟨hk,h1⟩:=redI_some he
   obtain ⟨q1,q2,q3,q4,q5,q6,q7⟩:=h.left hk
   have hfull:fullM r (n+1) t = ru r k (fun v=>fullM r n (sigK r k t v)):=by simp only [fullM,he]
   obtain ⟨β,g,b1,_,b3⟩:=h.form o1 ha hk hfull (hs.trans o2.symm)
   rw [hfull,b1]
   have e:ru r k (fun v=>fullM r n (sigK r k t v)) = fm r k true (fun v=>fullM r n (sigK r k t v)):=rfl
   rw [e,rest_fm h hk]
   simp only [if_true]
   refine count_pl _ fun v hv=>?_
   have hv:=q7 v hv
   obtain ⟨c1,c2,c3⟩:=b3 v hv
   have hlt:=h.sig_lt hk h1 v hv
   have hfo:formed (sigK r k t v) = true:=by
    have:=side_formed (r:=r) (f:=ARule.left) (fun x hx=>(check_iff.1 (checkSystem_sides h.sys x hx).1).1) (fun x _=>varsOf_left x) (g v) c1
    rw [c2] at this
    have o3:=h.full_ok n (sigK r k t v) (by omega)
    have hform:formed (app (sigK r k t) (lft r k)) = true:=by rw [matB_app h1];exact ht
    have key:∀ L:Term,vfl L = true→formed (app (sigK r k t) L) = true→occ v L = true→formed (sigK r k t v) = true:=by
     intro L
     induction L using term_ind with
     | h L ih =>
      intro hf hL ho
      cases hv2:L.var with
      | true=>rw [app_var hv2] at hL;rw [(occ_var hf hv2).1 ho] at hL;exact hL
      | false =>
       rw [app_fun hv2] at hL
       obtain ⟨a,ha,hoa⟩:=(occ_fun hv2).1 ho
       exact ih a ha (vfl_arg hf ha) ((formed_iff.1 hL).2 _ (List.mem_map.2 ⟨a,ha,rfl⟩)) hoa
    exact key (lft r k) q2 hform (mem_vrs.1 hv)
   have hsrc:sideM r ARule.left (fullM r n (sigK r k t v)) = sigK r k t v:=(h.full_ok n _ (by omega) hfo).2
   exact Ortho.full_rest n _ (by omega) hfo (g v) c1 (c2.trans hsrc)
  | none =>
   obtain ⟨f1,f2⟩:=formed_iff.1 ht
   have hfull:fullM r (n+1) t = .mk 0 t.name t.var (t.args.map (fullM r n)):=by simp only [fullM,he]
   have a0:a.rule = 0:=by
    rcases Classical.em (a.rule = 0) with h0 | h0
    ·exact h0
    ·exfalso
     obtain ⟨k,hk,hkr,hak,_⟩:=rule_is ha (ha.rule_pos h0)
     have e:sideM r ARule.left a = app (fun v=>sideM r ARule.left (ofL (vrs r k) a.args v)) (lft r k):=(congrArg (sideM r ARule.left) hak).trans (side_ru fun v hv=>mem_vrs.2 hv)
     have h2:=(h.sig hk (fun v=>sideM r ARule.left (ofL (vrs r k) a.args v))).1
     rw [← e,hs,redI_none he k hk] at h2
     cases h2
   have hm:a.args.map (sideM r ARule.left) = t.args:=by
    rw [sideM_eq,if_pos a0] at hs
    rw [← hs];rfl
   rw [hfull,restN a0 rfl,countM_eq]
   have key:∀ (l:List AMulti) (m:List Term),(∀ x∈l,x∈a.args)→(∀ y∈m,y∈t.args)→l.map (sideM r ARule.left) = m→countMs (List.zipWith (rest r) l (m.map (fullM r n))) = 0:=by
    intro l
    induction l with
    | nil=>intro m _ _ _;rfl
    | cons x l ihl =>
     intro m hl hm2 he2
     cases m with
     | nil=>simp at he2
     | cons y m =>
      simp only [List.map_cons,List.cons.injEq] at he2
      simp only [List.map_cons,List.zipWith_cons_cons,countMs]
      have hy:=hm2 y (by simp)
      have:=size_mem hy
      rw [Ortho.full_rest n y (by omega) (f2 y hy) x (ha.arg (hl x (by simp))) he2.1,ihl m (fun z hz=>hl z (by simp [hz])) (fun z hz=>hm2 z (by simp [hz])) he2.2]
   have h3:=key a.args t.args (fun _ hx=>hx) (fun _ hx=>hx) hm
   show (if (0:Int) = 0 then 0 else 1)+countMs (List.zipWith (rest r) a.args (t.args.map (fullM r n))) = 0
   rw [h3];rfl
end
end Go.Dw
end
section
namespace Go.Dw
noncomputable def fullV (r:List ARule) (t:Term):V :=
 if readyE r ≠ 0 then encME none (readyE r) else if check t ≠ 0 then encME none (check t) else if 4096 < (allE r t).length then encME none 3 else encME (bareM r t (allE r t)).1 (bareM r t (allE r t)).2
theorem residual_Full_s {r:List ARule} {t:Term} (hr:rbs r < 2^28) (ht:tb t < 2^28) (hM:checkSystem r = 0→check t = 0→MatS r (allE r t) t []∧∀ s∈allE r t,s.pos.length < 2^40):PF n_residual_Full [encRs r,encT t] (fullV r t):=by
 have h0:=residual_ready_s (r:=r) (by omega)
 have h1:=term_Check_s t (by omega)
 unfold fullV
 refine pf_of residual_Full.ok rfl ?_
 push_cast
 refine .of h0 ?_
 by_cases hq:readyE r = 0
 ·push_cast [hq]
  refine .of h1 ?_
  by_cases hc:check t = 0
  ·have hrr:=ready_ok hq
   have hg:=good_system hrr.2
   have hf:fits t = true:=(check_iff.1 hc).2
   have hsz:=fits_size hf
   obtain ⟨m1,m2⟩:=hM hrr.2 hc
   have h2:=rewrite_All_s r t (by have:=hg.2;omega) (fun x hx=>by have:=(hg.1 x hx).l.sz;omega) (by omega) (by
    have:=hg.2
    have:size t * r.length≤4000 * 64:=Nat.mul_le_mul hsz this
    omega)
   push_cast [hc]
   refine .of h2 ?_
   by_cases hl:4096 < (allE r t).length
   ·have hl':(4096:Int) < (allE r t).length:=by omega
    push_cast [hl,hl']
    exact pf_ret (by push_cast [residual_Full.rs,encME];rfl)
   ·have hl':¬ (4096:Int) < (allE r t).length:=by omega
    have h3:=multi_Bare_s r t (allE r t) hr hrr.2 (by omega) m2 hf m1
    push_cast [hl,hl']
    have e:encME (bareM r t (allE r t)).1 (bareM r t (allE r t)).2 = .tup [encM ((bareM r t (allE r t)).1.getD zM),.int .i64 (bareM r t (allE r t)).2]:=by
     cases (bareM r t (allE r t)).1 <;> rfl
    rw [e] at h3 ⊢
    refine .of h3 ?_
    push_cast
    exact pf_ret (by push_cast [residual_Full.rs])
  ·push_cast [hc]
   exact pf_ret (by push_cast [residual_Full.rs,encME];rfl)
 ·push_cast [hq]
  exact pf_ret (by push_cast [residual_Full.rs,encME];rfl)
end Go.Dw
end
section
namespace Go.Dw
theorem dupB_no {l:List AStep} (h:l.Pairwise fun a b=>a.pos ≠ b.pos):dupB l = false:=by
 unfold dupB
 rw [List.any_eq_false]
 intro i hi hx
 have hi:=List.mem_range.1 hi
 obtain ⟨x,hx,he⟩:=List.any_eq_true.1 hx
 rw [decide_eq_true_eq] at he
 obtain ⟨j,hj,rfl⟩:=List.getElem_of_mem hx
 rw [List.length_take] at hj
 rw [List.getElem_take,List.getD_eq_getElem?_getD,List.getElem?_eq_getElem hi] at he
 exact List.pairwise_iff_getElem.1 h j i (by omega) hi (by omega) he
theorem mem_atK {r:List ARule} {p:List Int} {s:Term} {st:AStep}:∀ n,st∈atK r p s n ↔ ∃ j,j < n∧st = ⟨(j:Int),p⟩∧matB r j s = true
 | 0=>by simp [atK]
 | n+1=>by
  have ih:=mem_atK (r:=r) (p:=p) (s:=s) (st:=st) n
  have hm:matB r n s = (matchT [] (r.getD n default).left s).2:=rfl
  simp only [atK,List.mem_append,ih,← hm]
  constructor
  ·rintro (⟨j,h1,h2,h3⟩ | h)
   ·exact ⟨j,by omega,h2,h3⟩
   ·split at h
    ·rename_i hc;exact ⟨n,by omega,by simpa using h,hc⟩
    ·cases h
  ·rintro ⟨j,h1,h2,h3⟩
   by_cases he:j = n
   ·subst he
    rw [if_pos h3]
    exact .inr (by simp [h2])
   ·exact .inl ⟨j,by omega,h2,h3⟩
theorem mem_allE {r:List ARule} {t:Term} {st:AStep}:st∈allE r t ↔ ∃ x j,subT t st.pos = some x∧x.var = false∧j < r.length∧st.rule = (j:Int)∧matB r j x = true:=by
 unfold allE allL
 rw [List.mem_flatMap]
 constructor
 ·rintro ⟨⟨p,x⟩,h1,h2⟩
  obtain ⟨q,h3,h4⟩:=visit_at t [] _ h1
  unfold atE at h2
  split at h2
  ·cases h2
  ·rename_i hv
   obtain ⟨j,h5,h6,h7⟩:=(mem_atK _).1 h2
   refine ⟨x,j,?_,by simpa using hv,h5,by rw [h6],h7⟩
   rw [h6]
   simp only [List.nil_append] at h3
   show subT t p = some x
   rw [h3];exact h4
 ·rintro ⟨x,j,h1,h2,h3,h4,h5⟩
  refine ⟨(st.pos,x),?_,?_⟩
  ·have:=visit_mem st.pos t x [] h1
   simpa using this
  ·unfold atE
   rw [if_neg (by simp [h2])]
   refine (mem_atK _).2 ⟨j,h3,?_,h5⟩
   rw [← h4]
theorem subT_lenS:∀ (p:List Int) (t x:Term),subT t p = some x→p.length+size x≤size t
 | [],t,x,h=>by cases h;simp
 | i :: p,t,x,h=>by
  simp only [subT] at h
  split at h
  ·rename_i hi
   have h1:=subT_lenS p _ x h
   have h2:=size_mem (getD_mem (l:=t.args) (k:=i.toNat) (by omega))
   have h3:=size_args t
   simp only [List.length_cons]
   omega
  ·cases h
theorem all_MatS (r:List ARule) (t:Term):MatS r (allE r t) t []∧∀ s∈allE r t,s.pos.length≤size t:=by
 refine ⟨fun s hs q hq=>?_,fun s hs=>?_⟩
 ·obtain ⟨x,j,h1,h2,h3,h4,h5⟩:=mem_allE.1 hs
  have hq:s.pos = q:=hq
  rw [hq] at h1
  refine ⟨x,h1,by omega,by omega,?_⟩
  unfold leftOf
  rw [h4,Int.toNat_natCast]
  exact h5
 ·obtain ⟨x,j,h1,h2,h3,h4,h5⟩:=mem_allE.1 hs
  have:=subT_lenS _ _ _ h1
  omega
section
variable {r:List ARule} (h:Ortho r)
include h
theorem Ortho.all_dist (t:Term):(allE r t).Pairwise fun a b=>a.pos ≠ b.pos:=by
 unfold allE allL
 rw [List.pairwise_flatMap]
 refine ⟨fun x hx=>?_,?_⟩
 ·unfold atE
  split
  ·exact List.Pairwise.nil
  ·have key:∀ n,n≤r.length→(atK r x.1 x.2 n).Pairwise fun a b=>a.pos ≠ b.pos:=by
    intro n
    induction n with
    | zero=>intro _;exact List.Pairwise.nil
    | succ n ih =>
     intro hn
     simp only [atK]
     refine List.pairwise_append.2 ⟨ih (by omega),by split <;> simp,fun a ha b hb=>?_⟩
     exfalso
     obtain ⟨j,h1,h2,h3⟩:=(mem_atK n).1 ha
     split at hb
     ·rename_i hc
      have:=h.one (by omega) (by omega) h3 (show matB r n x.2 = true from hc)
      omega
     ·cases hb
   exact key _ (Nat.le_refl _)
 ·have h1:((visit t []).map Prod.fst).Nodup:=by rw [visit_pos];simpa using posT_nodup t
  rw [List.Nodup,List.pairwise_map] at h1
  refine h1.imp fun {x y} hxy a ha b hb e=>hxy ?_
  have key:∀ (x:List Int × Term) (a:AStep),a∈atE r x.1 x.2→a.pos = x.1:=fun x a ha=>by
   unfold atE at ha
   split at ha
   ·cases ha
   ·obtain ⟨j,_,h2,_⟩:=(mem_atK _).1 ha
    rw [h2]
  rw [← key x a ha,← key y b hb,e]
theorem Ortho.build_full (t:Term):∀ (n:Nat) (u:Term) (pos:List Int),size u≤n→subT t pos = some u→buildM r (allE r t) n u pos = (fullM r n u,false)
 | 0,u,pos,hn,_=>by have:=size_pos u;omega
 | n+1,u,pos,hn,hu=>by
  have hst:=size_args u
  simp only [buildM]
  cases he:redI r u with
  | none =>
   have hno:atM (allE r t) pos = none:=by
    rw [atM_none]
    intro s hs hp
    obtain ⟨x,j,h1,h2,h3,h4,h5⟩:=mem_allE.1 hs
    rw [hp,hu] at h1
    cases h1
    rw [redI_none he j h3] at h5
    cases h5
   rw [hno]
   dsimp only
   have hi:∀ i,i < u.args.length→buildM r (allE r t) n (u.args.getD i default) (pos++[(i:Int)]) = (fullM r n (u.args.getD i default),false):=fun i hk=>by
    refine Ortho.build_full t n _ _ (by have:=size_mem (getD_mem hk);omega) ?_
    rw [subT_app,hu]
    exact sub_arg hk
   simp only [fullM,he]
   refine Prod.ext ?_ ?_
   ·show AMulti.mk 0 u.name u.var _ = AMulti.mk 0 u.name u.var _
    congr 1
    refine List.ext_getElem? fun k=>?_
    by_cases hk:k < u.args.length
    ·rw [List.getElem?_map,List.getElem?_map,List.getElem?_range hk]
     have eb:u.args[k]? = some (u.args.getD k default):=by simp [List.getD_eq_getElem?_getD,hk]
     rw [eb]
     simp only [Option.map_some]
     rw [hi k hk]
    ·rw [List.getElem?_eq_none (by simp;omega),List.getElem?_eq_none (by simp;omega)]
   ·show List.any _ _ = false
    rw [List.any_eq_false]
    intro i hi2
    rw [hi i (List.mem_range.1 hi2)];simp
  | some k =>
   obtain ⟨hk,hmat⟩:=redI_some he
   obtain ⟨q1,q2,q3,q4,q5,q6,q7⟩:=h.left hk
   have huv:u.var = false:=by
    have:=matB_app hmat
    rw [app_fun q1] at this
    rw [← this];rfl
   have hmem:(⟨(k:Int),pos⟩:AStep)∈allE r t:=mem_allE.2 ⟨u,k,hu,huv,hk,rfl,hmat⟩
   have hat:atM (allE r t) pos = some ⟨(k:Int),pos⟩:=by
    cases ha:atM (allE r t) pos with
    | none=>exact absurd rfl (atM_none.1 ha _ hmem)
    | some s =>
     obtain ⟨h1,h2⟩:=atM_some ha
     obtain ⟨x,j,h3,h4,h5,h6,h7⟩:=mem_allE.1 h1
     rw [h2,hu] at h3
     cases h3
     have:=h.one h5 hk h7 hmat
     subst this
     cases s
     simp only at h2 h6
     rw [h2,h6]
   rw [hat]
   dsimp only
   have hL:leftOf r (⟨(k:Int),pos⟩:AStep) = lft r k:=by unfold leftOf lft;rw [Int.toNat_natCast]
   rw [hL]
   have happ:=matB_app hmat
   have hocc:∀ v,∀ p∈occM (lft r k) v,subT u p = some (sigK r k u v):=fun v p hp=>by
    obtain ⟨y,y1,y2,y3⟩:=occM_at hp
    have h2:=sub_inst (σ:=(matchT [] (lft r k) u).1) p (lft r k) y (checkSystem_good h.sys _ (getD_mem hk)).1.1 y1
    rw [inst_imgV,inst_imgV,app_var y2,y3] at h2
    have happ2:app (imgV (matchT [] (lft r k) u).1) (lft r k) = u:=happ
    rw [happ2] at h2
    exact h2
   have hi:∀ v∈vrs r k,∀ p∈occM (lft r k) v,buildM r (allE r t) n (subD u p) (pos++p) = (fullM r n (sigK r k u v),false):=fun v hv p hp=>by
    have h1:=hocc v p hp
    have h2:subD u p = sigK r k u v:=by unfold subD;rw [h1];rfl
    rw [h2]
    refine Ortho.build_full t n _ _ (by have:=h.sig_lt hk hmat v hv;omega) ?_
    rw [subT_app,hu]
    exact h1
   have hvs:varsOf [lft r k] = vrs r k:=rfl
   have hmap:∀ v∈vrs r k,(occM (lft r k) v).map (fun p=>buildM r (allE r t) n (subD u p) (pos++p)) = (occM (lft r k) v).map fun _=>(fullM r n (sigK r k u v),false):=fun v hv=>List.map_congr_left fun p hp=>hi v hv p hp
   have hne:∀ v∈vrs r k,occM (lft r k) v ≠ []:=fun v hv=>by rw [occM_R];exact occR_some v _ (mem_vrs.1 hv)
   have hfst:∀ v∈vrs r k,fstB ((occM (lft r k) v).map fun p=>buildM r (allE r t) n (subD u p) (pos++p)) = fullM r n (sigK r k u v):=fun v hv=>by
    rw [hmap v hv]
    have:=hne v hv
    generalize occM (lft r k) v = ps at this
    cases ps with
    | nil=>exact absurd rfl this
    | cons p ps=>rfl
   simp only [fullM,he]
   refine Prod.ext ?_ ?_
   ·show AMulti.mk ((k:Int)+1) [] false _ = AMulti.mk ((k:Int)+1) [] false _
    congr 1
    rw [hvs]
    exact List.map_congr_left hfst
   ·show ((visit (lft r k) []).any (overB (allE r t) pos) || _) = false
    rw [Bool.or_eq_false_iff]
    refine ⟨?_,?_⟩
    ·rw [List.any_eq_false]
     rintro ⟨q,y⟩ hx hov
     obtain ⟨q',e1,e2⟩:=visit_at (lft r k) [] _ hx
     simp only [List.nil_append] at e1 e2
     subst e1
     unfold overB at hov
     simp only [Bool.and_eq_true,Bool.not_eq_true',decide_eq_true_eq] at hov
     obtain ⟨o1,o2,o3⟩:=hov
     cases ha:atM (allE r t) (pos++q) with
     | none=>rw [ha] at o1;cases o1
     | some s =>
      obtain ⟨h1,h2⟩:=atM_some ha
      obtain ⟨x,j,h3,h4,h5,h6,h7⟩:=mem_allE.1 h1
      rw [h2,subT_app,hu] at h3
      have h3:subT u q = some x:=h3
      have h8:=sub_inst (σ:=(matchT [] (lft r k) u).1) q (lft r k) y (checkSystem_good h.sys _ (getD_mem hk)).1.1 e2
      rw [inst_imgV,inst_imgV] at h8
      have h9:subT u q = some (app (imgV (matchT [] (lft r k) u).1) y):=by
       have happ2:app (imgV (matchT [] (lft r k) u).1) (lft r k) = u:=happ
       rw [happ2] at h8
       exact h8
      rw [h9] at h3
      have h3:app (imgV (matchT [] (lft r k) u).1) y = x:=Option.some.inj h3
      refine h.nov k j hk h5 q y e2 o2 (fun c=>?_) (imgV (matchT [] (lft r k) u).1) (sigK r j x) ?_
      ·rw [c.2] at o3;simp at o3
      ·rw [h3];exact (matB_app h7).symm
    ·rw [hvs,List.any_eq_false]
     intro v hv hbad
     unfold badB at hbad
     rw [hmap v hv] at hbad
     obtain ⟨b,hb,hb2⟩:=List.any_eq_true.1 hbad
     obtain ⟨p,hp,rfl⟩:=List.mem_map.1 hb
     simp only [Bool.false_or,Bool.not_eq_true',decide_eq_false_iff_not] at hb2
     apply hb2
     generalize occM (lft r k) v = ps at hp
     cases ps with
     | nil=>cases hp
     | cons p ps=>rfl
theorem Ortho.bare_full (t:Term):bareM r t (allE r t) = (some (fullM r (size t) t),0):=by
 unfold bareM
 rw [dupB_no (h.all_dist t),h.build_full t (size t) t [] (Nat.le_refl _) rfl]
 rfl
end
noncomputable def fullP (r:List ARule) (t:Term):AMulti × Int :=
 if readyE r ≠ 0 then (zM,readyE r) else if check t ≠ 0 then (zM,check t) else if 4096 < (allE r t).length then (zM,3) else (fullM r (size t) t,0)
theorem residual_Full_t {r:List ARule} {t:Term} (hr:rbs r < 2^28) (ht:tb t < 2^28):PF n_residual_Full [encRs r,encT t] (.tup [encM (fullP r t).1,.int .i64 (fullP r t).2]):=by
 have h0:=residual_Full_s (r:=r) (t:=t) hr ht fun _ hc=>⟨(all_MatS r t).1,fun s hs=>by
  have:=(all_MatS r t).2 s hs
  have:=fits_size (check_iff.1 hc).2
  omega⟩
 have e:fullV r t = .tup [encM (fullP r t).1,.int .i64 (fullP r t).2]:=by
  unfold fullV fullP
  split
  ·rfl
  ·rename_i hq
   split
   ·rfl
   ·split
    ·rfl
    ·rw [(ortho_of (ready_ok (Classical.not_not.1 hq)).1).bare_full];rfl
 rwa [e] at h0
end Go.Dw
end
section
namespace Go.Dw
theorem count_zero {r:List ARule} (m:AMulti):countM m = 0→sideM r ARule.left m = sideM r ARule.right m:=by
 induction m using multi_ind with
 | h m ih =>
 intro h
 rw [countM_eq] at h
 have h0:m.rule = 0:=by
  rcases Classical.em (m.rule = 0) with e | e
  ·exact e
  ·rw [if_neg e] at h;omega
 rw [if_pos h0] at h
 rw [sideM_eq,if_pos h0,sideM_eq,if_pos h0]
 congr 1
 have key:∀ l:List AMulti,(∀ a∈l,a∈m.args)→countMs l = 0→l.map (sideM r ARule.left) = l.map (sideM r ARule.right):=by
  intro l
  induction l with
  | nil=>intro _ _;rfl
  | cons a l ihl =>
   intro hl hc
   simp only [countMs] at hc
   rw [List.map_cons,List.map_cons,ih a (hl a (by simp)) (by omega),ihl (fun x hx=>hl x (by simp [hx])) (by omega)]
 exact key m.args (fun _ hx=>hx) (by omega)
theorem fullP_ok {r:List ARule} {t:Term} (h:(fullP r t).2 = 0):readyE r = 0∧check t = 0∧(fullP r t).1 = fullM r (size t) t:=by
 unfold fullP at h ⊢
 split at h
 ·rename_i hc;exact absurd h hc
 ·rename_i hc
  rw [if_neg hc]
  split at h
  ·rename_i h2;exact absurd h h2
  ·rename_i h2
   rw [if_neg h2]
   split at h
   ·cases h
   ·rename_i h3
    rw [if_neg h3]
    exact ⟨Classical.not_not.1 hc,Classical.not_not.1 h2,rfl⟩
theorem full_mb {r:List ARule} {t:Term} (h:(fullP r t).2 = 0):Ortho r∧OkM r (fullP r t).1∧sideM r ARule.left (fullP r t).1 = t∧mb (fullP r t).1 < 2^28:=by
 obtain ⟨h1,h2,h3⟩:=fullP_ok h
 have ho:=ortho_of (ready_ok h1).1
 obtain ⟨k1,k2⟩:=ho.full_ok (size t) t (Nat.le_refl _) (check_iff.1 h2).1
 rw [h3]
 have:=ok_mb _ k1
 have h4:=ho.size_le _ _ (Nat.le_refl _) k1
 rw [k2] at h4
 have:=fits_size (check_iff.1 h2).2
 exact ⟨ho,k1,k2,by omega⟩
theorem triangle_law {r:List ARule} {a:AMulti} (h0:okEnds r a = true) (h1:(fullP r (endL r a)).2 = 0) (h2:(resP r (fullP r (endL r a)).1 a).2 = 0) (h3:(resP r a (fullP r (endL r a)).1).2 = 0) :
  countM (resP r a (fullP r (endL r a)).1).1 = 0∧(okEnds r (resP r (fullP r (endL r a)).1 a).1 = true→endL r (resP r (fullP r (endL r a)).1 a).1 = endR r a) ∧
  (okEnds r (fullP r (endL r a)).1 = true→okEnds r (resP r (fullP r (endL r a)).1 a).1 = true→endR r (resP r (fullP r (endL r a)).1 a).1 = endR r (fullP r (endL r a)).1):=by
 obtain ⟨k1,k2,k3,k4,k5⟩:=okEnds_is h0
 obtain ⟨f1,f2,f3,f4⟩:=full_mb h1
 obtain ⟨p1,p2,p3⟩:=fullP_ok h1
 obtain ⟨x1,x2,x3,x4,x5,x6⟩:=res_good h2
 obtain ⟨y1,y2,y3,y4,y5,y6⟩:=res_good h3
 obtain ⟨g1,g2,g3,g4,g5,g6,g7,g8,g9⟩:=pair_good (resP_ok h2).1
 have hc:countM (rest r a (fullP r (endL r a)).1) = 0:=by
  rw [p3]
  exact g1.full_rest _ _ (Nat.le_refl _) (check_iff.1 p2).1 a g3 k4.symm
 refine ⟨by rw [y1];exact hc,fun k=>?_,fun k l=>?_⟩
 ·rw [(okEnds_is k).2.2.2.1,x1,x4,k5]
 ·rw [(okEnds_is k).2.2.2.2,(okEnds_is l).2.2.2.2,x1]
  obtain ⟨d1,d2⟩:=g1.diamond _ _ _ (Nat.le_refl _) g2 g3 g4
  rw [d1,← d2,← count_zero _ hc,y4]
theorem tb_endL (r:List ARule) (m:AMulti):tb (endL r m) < 2^28:=by
 unfold endL
 by_cases h:(endM r ARule.left m).2 = 0
 ·obtain ⟨a1,a2,a3⟩:=endM_some h
  rw [a3]
  exact (tb_end a1).1 a2
 ·have:(endM r ARule.left m).1 = none:=by
   unfold endM at h ⊢
   split
   ·rfl
   ·rename_i hc
    rw [if_neg hc] at h
    split
    ·rename_i hf;rw [if_pos hf] at h;exact absurd rfl h
    ·rfl
  rw [this];decide
theorem tb_endR (r:List ARule) (m:AMulti):tb (endR r m) < 2^28:=by
 unfold endR
 by_cases h:(endM r ARule.right m).2 = 0
 ·obtain ⟨a1,a2,a3⟩:=endM_some h
  rw [a3]
  exact (tb_end a1).2 a2
 ·have:(endM r ARule.right m).1 = none:=by
   unfold endM at h ⊢
   split
   ·rfl
   ·rename_i hc
    rw [if_neg hc] at h
    split
    ·rename_i hf;rw [if_pos hf] at h;exact absurd rfl h
    ·rfl
  rw [this];decide
theorem ResidualTriangle_s (hal:PF n_l18_alive [] (.bool true)) {r:List ARule} {a:AMulti} (hr:rbs r < 2^28) (ha:mb a < 2^28) :
  SpecE prog n_l18_ResidualTriangle [encRs r,encM a] [] (fun x' H'=>x' = .bool true∧H' = []):=by
 have h1:=l18_ends_s (r:=r) (m:=a) (by omega) (by omega)
 have h2:=residual_Full_t (r:=r) (t:=endL r a) hr (tb_endL r a)
 refine spece_of_run mixed l18_ResidualTriangle.ok rfl ?_
 push_cast
 refine .of h1 ?_
 push_cast
 refine .of h2 ?_
 by_cases c0:okEnds r a = true
 ·by_cases c1:(fullP r (endL r a)).2 = 0
  ·obtain ⟨f1,f2,f3,f4⟩:=full_mb c1
   have h3:=residual_Residual_s (r:=r) (a:=(fullP r (endL r a)).1) (b:=a) (by omega) (by omega) (by omega)
   have h4:=residual_Residual_s (r:=r) (a:=a) (b:=(fullP r (endL r a)).1) (by omega) (by omega) (by omega)
   rw [resV_P] at h3 h4
   push_cast [c0,c1]
   refine .of h3 ?_
   push_cast
   refine .of h4 ?_
   by_cases c2:(resP r (fullP r (endL r a)).1 a).2 = 0
   ·by_cases c3:(resP r a (fullP r (endL r a)).1).2 = 0
    ·have m1:mb (resP r (fullP r (endL r a)).1 a).1 < 2^28:=by rw [(res_good c2).1];exact (res_good c2).2.2.2.2.2
     have e1:=l18_ends_s (r:=r) (m:=(fullP r (endL r a)).1) (by omega) (by omega)
     have e2:=l18_ends_s (r:=r) (m:=(resP r (fullP r (endL r a)).1 a).1) (by omega) (by omega)
     obtain ⟨l1,l2,l3⟩:=triangle_law c0 c1 c2 c3
     have h5:=r17_Count_s (resP r a (fullP r (endL r a)).1).1 (by have:=(fitM_le (resP_ok c3).2.1).1;rw [(resP_ok c3).2.2];omega)
     rw [l1] at h5
     push_cast [c2,c3]
     refine .of e1 ?_
     push_cast
     refine .of e2 ?_
     push_cast
     refine .of h5 ?_
     have tX:=tb_endR r (resP r (fullP r (endL r a)).1 a).1
     have tA:=tb_endR r a
     have hEq:∀ t:Term,tb t < 2^28→PF n_r01_Equal [encT t,encT t] (.bool true):=fun t h=>by
      have:=r01_Equal_s t t (by omega) (by omega)
      simpa using this
     generalize okEnds r (resP r (fullP r (endL r a)).1 a).1 = o2 at *
     generalize okEnds r (fullP r (endL r a)).1 = o1 at *
     generalize endL r (resP r (fullP r (endL r a)).1 a).1 = s at *
     generalize endR r (resP r (fullP r (endL r a)).1 a).1 = u at *
     generalize endR r (fullP r (endL r a)).1 = w at *
     generalize endR r a = en at *
     cases o2
     ·cases o1
      ·push_cast
       refine .of hal ?_
       push_cast
       exact pf_ret (by push_cast [l18_ResidualTriangle.rs])
      ·push_cast
       refine .of hal ?_
       push_cast
       exact pf_ret (by push_cast [l18_ResidualTriangle.rs])
     ·obtain rfl:=l2 rfl
      push_cast
      refine .of (hEq _ tA) ?_
      cases o1
      ·push_cast
       refine .of hal ?_
       push_cast
       exact pf_ret (by push_cast [l18_ResidualTriangle.rs])
      ·obtain rfl:=l3 rfl rfl
       push_cast
       refine .of (hEq _ tX) ?_
       push_cast
       refine .of hal ?_
       push_cast
       exact pf_ret (by push_cast [l18_ResidualTriangle.rs])
    ·push_cast [c2,eq_false c3]
     refine .of hal ?_
     push_cast
     exact pf_ret (by push_cast [l18_ResidualTriangle.rs])
   ·push_cast [eq_false c2]
    refine .of hal ?_
    push_cast
    exact pf_ret (by push_cast [l18_ResidualTriangle.rs])
  ·push_cast [c0,eq_false c1]
   refine .of hal ?_
   push_cast
   exact pf_ret (by push_cast [l18_ResidualTriangle.rs])
 ·have c0:okEnds r a = false:=by simpa using c0
  push_cast [c0]
  refine .of hal ?_
  push_cast
  exact pf_ret (by push_cast [l18_ResidualTriangle.rs])
end Go.Dw
end
section
namespace Go.Dw
theorem unif_clash {a b:Term} (ha:a.var = false) (hb:b.var = false) (hn:a.name ≠ b.name):unif1 a b = ([],false,0):=by
 have h:solvesW (solveN 1) [] [a] [b] = some ([],false):=by
  simp only [solvesW,solveN,headN,ha,hb,Bool.false_eq_true,if_false]
  rw [if_pos (.inl hn)]
 unfold unif1 unifE
 rw [solveS_eq h,if_pos rfl]
theorem overE_clash {a b:ARule} {pos:List Int} {sub:Term} (h1:sub.var = false) (h2:b.left.var = false) (h3:sub.name ≠ b.left.name):overE a b pos sub = (false,0):=by
 unfold overE;rw [unif_clash h1 h2 h3,if_pos rfl]
theorem stepJ_no {r:List ARule} {i j:Nat} {a:ARule} {pos:List Int} {sub:Term} (h:overE a (renQ [121] (r.getD j default)) pos sub = (false,0)):stepJ r i a pos sub [] j = ([],0):=by
 unfold stepJ
 split
 ·rfl
 ·rw [h];rfl
theorem stepJ_self {r:List ARule} {i:Nat} {a:ARule} {sub:Term}:stepJ r i a [] sub [] i = ([],0):=by
 unfold stepJ
 rw [if_pos ⟨rfl,rfl⟩]
def vX8:Term:=.mk [120] true []
def tA8:Term:=.mk [97] false []
def tB8:Term:=.mk [98] false []
def ex18:List ARule:=[⟨.mk [102] false [vX8],.mk [103] false [vX8,vX8]⟩,⟨tA8,tB8⟩]
def mA8:AMulti:=.mk 0 [97] false []
def mB8:AMulti:=.mk 2 [] false []
def exA:AMulti:=.mk 1 [] false [mA8]
def exB:AMulti:=.mk 0 [102] false [mB8]
theorem ren_f (pre:Str):∃ w,(renQ pre (ex18.getD 0 default)).left = .mk [102] false [.mk w true []]:=⟨_,rfl⟩
theorem ren_a (pre:Str):(renQ pre (ex18.getD 1 default)).left = .mk [97] false []:=rfl
theorem range_ex:List.range ex18.length = [0,1]:=rfl
theorem step_0:stepI ex18 [] 0 = ([],0):=by
 unfold stepI
 obtain ⟨w,hw⟩:=ren_f [120]
 rw [hw]
 have hv:visit (.mk [102] false [.mk w true []]) [] = [([],.mk [102] false [.mk w true []]),([0],.mk w true [])]:=rfl
 rw [hv]
 have h1:stepV ex18 0 (renQ [120] (ex18.getD 0 default)) [] ([],.mk [102] false [.mk w true []]) = ([],0):=by
  unfold stepV
  rw [if_neg (by simp [Term.var]),range_ex]
  have e:stepJ ex18 0 (renQ [120] (ex18.getD 0 default)) [] (.mk [102] false [.mk w true []]) [] 1 = ([],0):=stepJ_no (overE_clash rfl (by rw [ren_a];rfl) (by rw [ren_a];show ([102]:Str) ≠ [97];decide))
  rw [scanE_ok stepJ_self,scanE_ok e];rfl
 have h2:stepV ex18 0 (renQ [120] (ex18.getD 0 default)) [] ([0],.mk w true []) = ([],0):=by
  unfold stepV
  exact if_pos rfl
 rw [scanE_ok h1,scanE_ok h2];rfl
theorem step_1:stepI ex18 [] 1 = ([],0):=by
 unfold stepI
 rw [ren_a]
 have hv:visit (.mk [97] false []) [] = [([],.mk [97] false [])]:=rfl
 rw [hv]
 have h1:stepV ex18 1 (renQ [120] (ex18.getD 1 default)) [] ([],.mk [97] false []) = ([],0):=by
  unfold stepV
  rw [if_neg (by simp [Term.var]),range_ex]
  obtain ⟨w,hw⟩:=ren_f [121]
  have e:stepJ ex18 1 (renQ [120] (ex18.getD 1 default)) [] (.mk [97] false []) [] 0 = ([],0):=stepJ_no (overE_clash rfl (by rw [hw];rfl) (by rw [hw];show ([97]:Str) ≠ [102];decide))
  rw [scanE_ok e,scanE_ok stepJ_self];rfl
 rw [scanE_ok h1];rfl
theorem all_ex:allO ex18 = ([],0):=by
 unfold allO
 rw [range_ex,scanE_ok step_0,scanE_ok step_1];rfl
theorem sys_ex:checkSystem ex18 = 0:=by decide +kernel
theorem ortho_ex:orthoE ex18 = (true,0):=by
 unfold orthoE
 rw [if_neg (by rw [sys_ex];simp),all_ex,if_neg (by simp)]
 have:(ex18.all fun x=>linB x.left) = true:=by decide +kernel
 rw [this];rfl
theorem ready_ex:readyE ex18 = 0:=by
 unfold readyE
 rw [ortho_ex];rfl
theorem or_ex:Ortho ex18:=ortho_of ortho_ex
theorem vars_0:vrs ex18 0 = [[120]]:=by
 unfold vrs lft varsOf
 have:vsetT [] [(ex18.getD 0 default).left] = [[120]]:=by decide
 rw [this]
 unfold Proofs.sortS
 exact List.mergeSort_of_pairwise (by decide)
theorem vars_1:vrs ex18 1 = []:=by
 unfold vrs lft varsOf
 have:vsetT [] [(ex18.getD 1 default).left] = []:=by decide
 rw [this]
 unfold Proofs.sortS
 exact List.mergeSort_of_pairwise (by decide)
theorem exA_is:exA = fm ex18 0 true fun _=>mA8:=by
 show exA = ru ex18 0 _
 unfold ru;rw [vars_0];rfl
theorem exB_is:exB = fm ex18 0 false fun _=>mB8:=rfl
theorem mA_is:mA8 = fm ex18 1 false fun _=>zM:=rfl
theorem mB_is:mB8 = fm ex18 1 true fun _=>zM:=by
 show mB8 = ru ex18 1 _
 unfold ru;rw [vars_1];rfl
theorem rest_AB:rest ex18 mA8 mB8 = .mk 0 [98] false []:=by
 rw [mA_is,mB_is,rest_fm or_ex (by decide),if_pos rfl];rfl
theorem rest_BA:rest ex18 mB8 mA8 = mB8:=by
 conv=>lhs;rw [mA_is,mB_is,rest_fm or_ex (by decide),if_neg (by simp)]
 show ru ex18 1 _ = _
 unfold ru;rw [vars_1];rfl
theorem rest_1:rest ex18 exA exB = .mk 1 [] false [.mk 0 [98] false []]:=by
 rw [exA_is,exB_is,rest_fm or_ex (by decide),if_neg (by simp)]
 show ru ex18 0 _ = _
 unfold ru;rw [vars_0,List.map_singleton,rest_AB];rfl
theorem rest_2:rest ex18 exB exA = .mk 0 [103] false [mB8,mB8]:=by
 rw [exA_is,exB_is,rest_fm or_ex (by decide),if_pos rfl,rest_BA];rfl
theorem end_A:endsE ex18 exA = 0∧endsE ex18 exB = 0∧srcT ex18 exA = srcT ex18 exB:=by decide +kernel
theorem res_1:resP ex18 exA exB = (.mk 1 [] false [.mk 0 [98] false []],0):=by
 unfold resP pairE
 rw [ready_ex,end_A.1,end_A.2.1,end_A.2.2,if_neg (by simp),rest_1];rfl
theorem res_2:resP ex18 exB exA = (.mk 0 [103] false [mB8,mB8],0):=by
 unfold resP pairE
 rw [ready_ex,end_A.1,end_A.2.1,end_A.2.2,if_neg (by simp),rest_2];rfl
theorem l18_system_s:PF n_l18_system [] (encRs ex18):=by
 refine pf_of l18_system.ok rfl ?_
 push_cast
 exact pf_ret (by push_cast [l18_system.rs];rfl)
theorem alive18:PF n_l18_alive [] (.bool true):=by
 have h1:=residual_Residual_s (r:=ex18) (a:=exA) (b:=exB) (by decide) (by decide) (by decide)
 have h2:=residual_Residual_s (r:=ex18) (a:=exB) (b:=exA) (by decide) (by decide) (by decide)
 rw [resV_P,res_1] at h1
 rw [resV_P,res_2] at h2
 refine pf_of l18_alive.ok rfl ?_
 push_cast
 refine .of l18_system_s ?_
 push_cast
 refine .of h1 ?_
 push_cast
 refine .of l18_system_s ?_
 push_cast
 refine .of h2 ?_
 push_cast
 refine .of (r17_Same_self _ (by decide)) ?_
 push_cast
 refine .of (r17_Same_self _ (by decide)) ?_
 push_cast
 exact pf_ret (by push_cast [l18_alive.rs])
end Go.Dw
end
