/-
  Contracts and lemmas for MultiSteps: part h of 9.
-/
import Derived.Test.YtkdcfkfdkimaeaaGreatSg
set_option linter.unusedVariables false
set_option linter.unusedSimpArgs false
set_option maxRecDepth 100000
section
namespace Go.Dw
def stepsV (r:List ARule) (m:AMulti):V:=if (endM r ARule.left m).2 ≠ 0 then .tup [encSts [],.int .i64 (endM r ARule.left m).2] else .tup [encSts (stepsM r m),.int .i64 0]
theorem multi_Steps_s (r:List ARule) (m:AMulti) (hr:rbs r < 2^28) (hm:mb m < 2^28):PF n_multi_Steps [encRs r,encM m] (stepsV r m):=by
 have hS:=multi_Source_s r m (by omega) (by omega)
 refine pf_of multi_Steps.ok rfl ?_
 unfold stepsV
 by_cases h1:(endM r ARule.left m).2 = 0
 ·obtain ⟨k1,k2,k3⟩:=endM_some h1
  obtain ⟨c1,c2,c3,c4⟩:=checkM_ok k1
  have hz:=fits_size k2
  have hwl:=walk_len c1 m c2
  have hwd:=walk_distinct c1 m c2
  have hw:=multi_walk_s r hr m c2 c3 [] [] (by simp;omega) (by simp;omega)
  rw [List.nil_append,map_preS_nil] at hw
  have hso:=sortSt_row (walkM r m) (by omega) (fun s hs=>by
   obtain ⟨x,h2,_⟩:=walk_mat c1 m c2 s hs
   have:=subT_fit _ _ _ h2
   omega) hwd
  rw [sort_walk r (fun x hx=>(checkSystem_good c1 x hx).1.1) (checkSystem_nv c1) m c2] at hso
  have hsl:(stepsM r m).length = (walkM r m).length:=(walkM_perm r (fun x hx=>(checkSystem_good c1 x hx).1.1) m c2).length_eq.symm
  rw [if_neg (by simpa using h1)]
  rw [k3] at hS
  unfold encTE at hS
  generalize walkM r m = wk at hw hso hsl
  generalize stepsM r m = st at hso hsl ⊢
  push_cast
  refine .of hS ?_
  push_cast
  refine CallG.some [1,2] (by simp) (by simp) (R:=fun x' H'=>x' = .bool true∧H' = walkH wk) ?_ ?_
  ·exact specF_func ▸ hw
  ·rintro x' H' ⟨rfl,rfl⟩ _
   have ht:∀ a b c d e:Ob,takeB [1,2] [a,b,c] [d,e] = [a,renOb (back [1,2] 3) d,renOb (back [1,2] 3) e]:=fun _ _ _ _ _=>rfl
   unfold walkH
   rw [ht]
   have hb:back [1,2] 3 1 = some 2:=rfl
   push_cast [hb,rens_cSts]
   refine CallG.some [2] (by simp) (by simp) (R:=fun x' H'=>x' = .tup []∧H' = [.row t_Step 2 (st.map cSt)]) ?_ ?_
   ·have hg:∀ a b c:Ob,give [2] [a,b,c] = [renOb (pos? [2]) c]:=fun _ _ _=>rfl
    have hp:pos? [2] 2 = some 0:=rfl
    rw [hg]
    push_cast [hp,rens_cSts]
    exact specF_func ▸ hso
   ·rintro x' H' ⟨rfl,rfl⟩ _
    have ht:∀ a b c d:Ob,takeB [2] [a,b,c] [d] = [a,b,renOb (back [2] 3) d]:=fun _ _ _ _=>rfl
    rw [ht]
    push_cast [rens_cSts,List.length_map,hsl]
    exact pf_ret (by push_cast [multi_Steps.rs];rfl)
 ·have h2:=endM_none h1
  rw [h2] at hS
  rw [if_pos h1]
  unfold encTE at hS
  push_cast
  refine .of hS ?_
  push_cast [eq_false h1]
  exact pf_ret (by push_cast [multi_Steps.rs];rfl)
namespace shf
def nd:Nat→C
 | 0=>.seq (.reg [.frz 5,.mv 50 (.s 5),.mv 4 (.s 50)]) (.ret)
 | 1=>.gh [.ks 2 [1,5,13,14]] (.m 3)
 | 2=>.seq (.blk 1 (.seq (.reg [.mv 16 (.s 14),.mv 6 (.s 16)]) (.seq (.reg [.mv 17 (.s 6),.mv 18 (.s 1),.len 19 (.s 18),.bin 20 .lss (.s 17) (.s 19)]) (.cond (.s 20) (.seq (.reg [.mv 21 (.s 1),.mv 22 (.s 6),.ia 23 1 (.s 21) (.s 22),.ld 24 (.s 23),.mv 25 (.s 5),.len 26 (.s 25),.bin 27 .rem (.s 24) (.s 26),.mv 28 (.s 5),.len 29 (.s 28),.bin 30 .add (.s 27) (.s 29),.mv 31 (.s 5),.len 32 (.s 31),.bin 33 .rem (.s 30) (.s 32),.mv 7 (.s 33)]) (.seq (.reg [.mv 34 (.s 5),.mv 35 (.s 6),.ia 36 2 (.s 34) (.s 35),.la 37 2 (.s 36),.al 8 t_Step [.int .i64 0,.sl 1 []],.sf 8 2 (.s 37)]) (.seq (.reg [.mv 38 (.s 5),.mv 39 (.s 6),.mv 40 (.s 5),.mv 41 (.s 7),.ia 42 2 (.s 40) (.s 41),.la 43 2 (.s 42),.ia 44 2 (.s 38) (.s 39),.st 2 (.s 44) (.s 43)]) (.reg [.mv 45 (.s 5),.mv 46 (.s 7),.la 47 2 (.s 8),.ia 48 2 (.s 45) (.s 46),.st 2 (.s 48) (.s 47)])))) (.skip))))) (.reg [.bin 49 .add (.s 14) (.i 1),.mv 14 (.s 49)])
 | 3=>.seq (.reg [.bin 15 .lss (.s 14) (.s 13)]) (.seq (.cond (.s 15) (.skip) (.exit 0)) (.n 2))
 | _=>.skip
def body:C:=.seq (.reg [.mv 4 (.c (.sl 2 []))]) (.seq (.reg [.bo 9 t_Step 2 [],.op (.e2r 9),.mv 10 (.s 0),.apr 11 t_Step 2 32 (.s 9) (.s 10),.mv 5 (.s 11)]) (.seq (.seq (.reg [.mv 12 (.s 5),.len 13 (.s 12),.mv 14 (.i 0)]) (.blk 0 (.loop (.n 1)))) (.n 0)))
def rs:List RV:=[.t 4]
attribute [push_cast] nd body
theorem ok:okF prog n_l17_shuffled nd body 2 rs = true:=by kernel_rfl
abbrev L3 (v1 v5 v13 v14:V) (B:Nat) (H:List Ob) (Q:X→T→List Ob→Prop):Prop:=Run prog nd B [.c (.m 3),.c (.loop (.n 1)),.mk 0,.c (.n 0)] [(1,v1),(5,v5),(13,v13),(14,v14)] H Q
theorem G3 {v1 v5 v13 v14:V} {B:Nat} {H:List Ob} {Q:X→T→List Ob→Prop} (h:Run prog nd B [.c (nd 3),.c (.loop (.n 1)),.mk 0,.c (.n 0)] [(1,v1),(5,v5),(13,v13),(14,v14)] H Q):L3 v1 v5 v13 v14 B H Q:=run_m.2 h
end shf
def swapL (l:List AStep) (i k:Nat):List AStep:=(l.set i (l.getD k default)).set k (l.getD i default)
def shufK (order:List Int) (l:List AStep):Nat→List AStep
 | 0=>l
 | k+1=>if k < order.length then swapL (shufK order l k) k (((order.getD k default).tmod l.length+l.length).tmod l.length).toNat else shufK order l k
theorem swapL_len (l:List AStep) (i k:Nat):(swapL l i k).length = l.length:=by simp [swapL]
theorem shufK_len (order:List Int) (l:List AStep):∀ k,(shufK order l k).length = l.length
 | 0=>rfl
 | k+1=>by simp only [shufK];split <;> simp [swapL_len,shufK_len order l k]
theorem swapL_perm {l:List AStep} {i k:Nat} (hi:i < l.length) (hk:k < l.length):(swapL l i k).Perm l:=by
 unfold swapL
 rw [List.getD_eq_getElem?_getD,List.getElem?_eq_getElem hk,List.getD_eq_getElem?_getD,List.getElem?_eq_getElem hi]
 exact List.set_set_perm hi hk
theorem encIs_row {l:List AStep} {k:Nat} (h:k < l.length):(l.map cSt)[k]? = some (cSt (l.getD k default)):=by
 rw [List.getElem?_map];simp [List.getD_eq_getElem?_getD,h]
theorem put_2 (a:AStep) (y:List V) (h:y.length = 2):put 0 (cSt a) y = cSt a:=by
 match y,h with
 | [u,v],_=>rfl
theorem swap_row {out:List AStep} {k z:Nat} (hk:k < out.length) (hz:z < out.length):(((out.map cSt).set k (put 0 (cSt (out.getD z default)) ((out.map cSt).getD k []))).set z (put 0 (cSt (out.getD k default)) (((out.map cSt).set k (put 0 (cSt (out.getD z default)) ((out.map cSt).getD k []))).getD z []))) = (swapL out k z).map cSt:=by
 have e0:((out.map cSt).getD k []).length = 2:=by
  rw [List.getD_eq_getElem?_getD,encIs_row hk];rfl
 rw [put_2 _ _ e0]
 have e1:(out.map cSt).set k (cSt (out.getD z default)) = (out.set k (out.getD z default)).map cSt:=by rw [List.map_set]
 have e2:(((out.map cSt).set k (cSt (out.getD z default))).getD z []).length = 2:=by
  rw [e1,List.getD_eq_getElem?_getD,encIs_row (by simpa using hz)];rfl
 rw [put_2 _ _ e2,e1]
 unfold swapL
 simp only [List.map_set]
theorem mod_in (x:Int) {n:Int} (hn:0 < n):0≤(x.tmod n+n).tmod n∧(x.tmod n+n).tmod n < n:=by
 have h1:=Int.lt_tmod_of_pos x hn
 have h2:0≤x.tmod n+n:=by omega
 exact ⟨Int.tmod_nonneg n h2,Int.tmod_lt_of_pos _ hn⟩
theorem l17_shuffled_s (l:List AStep) (order:List Int) (hl:l.length < 2^40) (ho:order.length < 2^62):PF n_l17_shuffled [encSts l,encP order] (encSts (shufK order l l.length)):=by
 refine pf_of shf.ok rfl ?_
 have hmx:maxEls = 140737488355328:=rfl
 push_cast [hmx,List.length_map]
 refine ⟨by omega,?_⟩
 refine loop_up (n:=l.length) (R:=fun k=>shf.L3 (encP order) (.rw 1 2 l.length) (.int .i64 l.length) (.int .i64 k) 0 [.dead,.row t_Step 2 ((shufK order l k).map cSt)] _) ?_ ?_ 0 (by omega)
 ·intro k hk ih
  have hlen:=shufK_len order l k
  simp only [shufK] at ih
  generalize shufK order l k = out at ih hlen
  refine shf.G3 ?_
  by_cases ho2:k < order.length
  ·rw [if_pos ho2] at ih
   have hoi:((k:Int) < (order.length:Int)) = True:=eq_true (by omega)
   generalize hx:order.getD k default = x at ih
   obtain ⟨m1,m2⟩:=mod_in x (n:=l.length) (by omega)
   have hlt:=Int.tmod_lt_of_pos x (show (0:Int) < l.length by omega)
   have hgt:=Int.lt_tmod_of_pos x (show (0:Int) < l.length by omega)
   have hwr:IntKind.i64.wrap (x.tmod l.length+l.length) = x.tmod l.length+l.length:=wrap64 (by omega) (by omega)
   have hn0:¬ ((l.length:Int) = 0):=by omega
   have hko:k < out.length:=by omega
   generalize hz:(x.tmod l.length+l.length).tmod l.length = z at m1 m2 ih
   have hz0:(0≤z) = True:=eq_true m1
   have hz1:(z < (l.length:Int)) = True:=eq_true m2
   have hzo:z.toNat < out.length:=by omega
   have e1:=encIs_row hko
   have e2:=encIs_row hzo
   push_cast [ilt hk,hoi,hx,hwr,hz,hz0,hz1,eq_false hn0,e1,e2,List.length_map,hlen,List.length_set,w64 (show k < 2^62 by omega)]
   refine ⟨hk,by omega,?_⟩
   rw [swap_row hko hzo,rens_cSts]
   exact ih
  ·rw [if_neg ho2] at ih
   have hoi:((k:Int) < (order.length:Int)) = False:=eq_false (by omega)
   push_cast [ilt hk,hoi,w64 (show k < 2^62 by omega)]
   exact ih
 ·refine shf.G3 ?_
  push_cast [inlt (Nat.le_refl _)]
  exact ⟨by rw [List.length_map,shufK_len],pf_ret (by push_cast [shf.rs];try rfl)⟩
theorem shufK_perm (order:List Int) (l:List AStep):∀ k,k≤l.length→(shufK order l k).Perm l
 | 0,_=>.refl _
 | k+1,hk=>by
  have ih:=shufK_perm order l k (by omega)
  have hlen:=shufK_len order l k
  simp only [shufK]
  split
  ·obtain ⟨m1,m2⟩:=mod_in (order.getD k default) (n:=l.length) (by omega)
   exact (swapL_perm (by omega) (by omega)).trans ih
  ·exact ih
def largeB (r:List ARule) (t:Term) (l:List AStep):Bool:=l.any fun s=>decide ((doE r t s).2 = 3)
theorem l17_large_s (r:List ARule) (t:Term) (l:List AStep) (hr:rbs r < 2^28) (hg:∀ x∈r,good x.left∧good x.right) (ht:good t) (hl:l.length < 2^40) (hp:∀ s∈l,s.pos.length < 2^40):PF n_l17_large [encRs r,encT t,encSts l] (.bool (largeB r t l)):=by
 refine pf_of l17_large.ok rfl ?_
 unfold largeB
 push_cast
 refine loop_up (n:=l.length) (R:=fun k=>(l.drop k).any (fun s=>decide ((doE r t s).2 = 3)) = l.any (fun s=>decide ((doE r t s).2 = 3))→l17_large.L3 (encRs r) (.ro (cT t) 0) (encSts l) (.int .i64 l.length) (.int .i64 k) 0 [] _) ?_ ?_ 0 (by omega) rfl
 ·intro k hk ih hq
  have hm:=getD_mem hk
  rw [drop_getD hk,List.any_cons] at hq
  refine l17_large.G3 ?_
  generalize hs:l.getD k default = s at hq hm
  have hSt:=r04_Step_s r t s hr hg ht (hp s hm)
  push_cast [ilt hk,hs]
  refine .of hSt ?_
  cases hd:doE r t s with
  | mk o e =>
  rw [hd] at hq
  by_cases he:e = 3
  ·subst he
   cases o <;> (push_cast [encTE];rw [← hq];exact pf_ret (by push_cast [l17_large.rs];simp))
  ·rw [decide_eq_false he,Bool.false_or] at hq
   cases o <;> (push_cast [encTE,eq_false he,w64 (show k < 2^62 by omega)];exact ih hq)
 ·intro hq
  rw [List.drop_eq_nil_of_le (Nat.le_refl _)] at hq
  refine l17_large.G3 ?_
  push_cast [inlt (Nat.le_refl _)]
  rw [← hq]
  exact pf_ret (by push_cast [l17_large.rs];try rfl)
end Go.Dw
end
section
namespace Go.Dw
theorem doE_03 {r:List ARule} {t:Term} {s:AStep} (h:∃ x,subT t s.pos = some x∧0≤s.rule∧s.rule < r.length∧(matchT [] (leftOf r s) x).2 = true):(doE r t s).2 = 0 ∨ (doE r t s).2 = 3:=by
 obtain ⟨x,h1,h2,h3,h4⟩:=h
 have hF:(findE r t s).2 = 0:=by
  unfold findE
  rw [if_neg (by omega),h1]
  show (if (matchT [] (leftOf r s) x).2 then _ else _:List ABind × Int).2 = 0
  rw [if_pos h4]
 unfold doE
 rw [if_neg (by simpa using hF)]
 split
 ·split
  ·exact .inl rfl
  ·exact .inr rfl
 ·exact .inr rfl
theorem stepErr_03 {r:List ARule} {t:Term}:∀ {l:List AStep},(∀ s∈l,(doE r t s).2 = 0 ∨ (doE r t s).2 = 3)→stepErr r t l = 0 ∨ (stepErr r t l = 3∧∃ s∈l,(doE r t s).2 = 3)
 | [],_=>.inl rfl
 | s :: l,h=>by
  simp only [stepErr]
  rcases h s (by simp) with h1 | h1
  ·rw [if_neg (by simpa using h1)]
   rcases stepErr_03 (l:=l) (fun x hx=>h x (by simp [hx])) with h2 | ⟨h2,x,hx,h3⟩
   ·exact .inl h2
   ·exact .inr ⟨h2,x,by simp [hx],h3⟩
  ·rw [if_pos (by omega)]
   exact .inr ⟨h1,s,by simp,h1⟩
theorem dupB_no {l:List AStep} (h:l.Pairwise fun a b=>a.pos ≠ b.pos):dupB l = false:=by
 unfold dupB
 rw [List.any_eq_false]
 intro i hi hx
 have hi:=List.mem_range.1 hi
 obtain ⟨x,hx,he⟩:=List.any_eq_true.1 hx
 rw [decide_eq_true_eq] at he
 obtain ⟨j,hj,rfl⟩:=List.getElem_of_mem hx
 rw [List.length_take] at hj
 rw [List.getElem_take,List.getD_eq_getElem?_getD,List.getElem?_eq_getElem hi] at he
 exact List.pairwise_iff_getElem.1 h j i (by omega) hi (by omega) he
theorem ofM_steps {r:List ARule} {m:AMulti} (hc:checkSystem r = 0) (hm:OkM r m) (hf:fits (sideM r ARule.left m) = true) {l:List AStep} (hp:l.Perm (stepsM r m)) :
  (ofM r (sideM r ARule.left m) l = (none,3)∧largeB r (sideM r ARule.left m) (stepsM r m) = true) ∨ ofM r (sideM r ARule.left m) l = (some m,0):=by
 have hwp:=walkM_perm r (fun x hx=>(checkSystem_good hc x hx).1.1) m hm
 have hz:=fits_size hf
 have hlen:=walk_len hc m hm
 rw [hwp.length_eq,← hp.length_eq] at hlen
 have hck:check (sideM r ARule.left m) = 0:=check_iff.2 ⟨side_formed (fun x hx=>(check_iff.1 (checkSystem_sides hc x hx).1).1) (fun x _=>varsOf_left x) m hm,hf⟩
 have hb:bothE r (sideM r ARule.left m) = 0:=by
  unfold bothE;rw [if_neg (by simpa using hc)];exact hck
 have h03:∀ s∈l,(doE r (sideM r ARule.left m) s).2 = 0 ∨ (doE r (sideM r ARule.left m) s).2 = 3:=fun s hs=>doE_03 (walk_mat hc m hm s (hwp.mem_iff.2 (hp.mem_iff.1 hs)))
 unfold ofM
 rw [if_neg (by simpa using hb),if_neg (by omega)]
 rcases stepErr_03 h03 with h1 | ⟨h1,s,hs,h2⟩
 ·right
  rw [if_neg (by simpa using h1)]
  have hd:l.Pairwise fun a b=>a.pos ≠ b.pos:=(hp.pairwise_iff (fun h e=>h e.symm)).2 (sorted_distinct (stepsM_sorted r (checkSystem_nv hc) m hm))
  have hR:Rep r l [] m:=fun s=>by
   rw [preS_nil,hp.mem_iff,hwp.mem_iff]
  have hB:=build_rep hc hd (size (sideM r ARule.left m)) m [] (Nat.le_refl _) hm hR
  unfold bareM
  rw [hB,dupB_no hd];rfl
 ·left
  rw [h1]
  refine ⟨rfl,?_⟩
  unfold largeB
  exact List.any_eq_true.2 ⟨s,hp.mem_iff.1 hs,by simpa using h2⟩
set_option maxHeartbeats 4000000 in
theorem MultiSteps_s (r:List ARule) (m:AMulti) (order:List Int) (hr:rbs r < 2^28) (hm:mb m < 2^28) (ho:order.length < 2^30) :
  SpecE prog n_l17_MultiSteps [encRs r,encM m,encP order] [] (fun x' H'=>x' = .bool true∧H' = []):=by
 have hS:=multi_Steps_s r m hr hm
 have hE:=r17_SourceError_s r m hr hm
 have hSo:=multi_Source_s r m (by omega) (by omega)
 unfold stepsV at hS
 refine spece_of_run mixed l17_MultiSteps.ok rfl ?_
 by_cases h1:(endM r ARule.left m).2 = 0
 ·obtain ⟨k1,k2,k3⟩:=endM_some h1
  obtain ⟨c1,c2,c3,c4⟩:=checkM_ok k1
  have hz:=fits_size k2
  have hgd:=(DevI.start h1).good
  have htb:=good_tb hgd
  obtain ⟨s1,s2⟩:=steps_small c1 c2 hz
  rw [if_neg (by simpa using h1)] at hS
  rw [h1] at hE
  rw [k3] at hSo
  unfold encTE at hSo
  have hRS:=r17_Steps_s r (by omega) c1 m c2 hz (by omega)
  have hSame:=r04_SameSteps_s (stepsM r m) (by omega) (fun s hs=>by have:=s2 s hs;omega)
  have hSh:=l17_shuffled_s (stepsM r m) order (by omega) (by omega)
  have hpm:=shufK_perm order (stepsM r m) (stepsM r m).length (Nat.le_refl _)
  have hOf:=multi_Of_s r (sideM r ARule.left m) (shufK order (stepsM r m) (stepsM r m).length) hr htb (by rw [hpm.length_eq];omega) (fun s hs=>by have:=s2 s (hpm.mem_iff.1 hs);omega)
  have hLa:=l17_large_s r (sideM r ARule.left m) (stepsM r m) hr (checkSystem_good c1) hgd (by omega) (fun s hs=>by have:=s2 s hs;omega)
  have hR:=r17_Same_self m (by omega)
  have hcase:=ofM_steps c1 c2 k2 hpm
  generalize shufK order (stepsM r m) (stepsM r m).length = sh at hSh hOf hcase
  generalize stepsM r m = st at *
  rcases hcase with ⟨g1,g2⟩ | g1
  ·rw [g1] at hOf
   rw [g2] at hLa
   unfold encME at hOf
   push_cast
   refine .of hS ?_
   push_cast
   refine .of hE ?_
   push_cast
   refine .of hRS ?_
   push_cast
   refine .of hSame ?_
   push_cast
   refine .of hSo ?_
   push_cast
   refine .of hSh ?_
   push_cast
   refine .of hOf ?_
   push_cast
   refine .of hLa ?_
   push_cast
   refine .of alive17 ?_
   push_cast
   exact pf_ret (by push_cast [l17_MultiSteps.rs])
  ·rw [g1] at hOf
   unfold encME at hOf
   push_cast
   refine .of hS ?_
   push_cast
   refine .of hE ?_
   push_cast
   refine .of hRS ?_
   push_cast
   refine .of hSame ?_
   push_cast
   refine .of hSo ?_
   push_cast
   refine .of hSh ?_
   push_cast
   refine .of hOf ?_
   push_cast
   refine .of hR ?_
   push_cast
   refine .of alive17 ?_
   push_cast
   exact pf_ret (by push_cast [l17_MultiSteps.rs])
 ·rw [if_pos h1] at hS
  generalize (endM r ARule.left m).2 = e at h1 hS hE
  push_cast
  refine .of hS ?_
  push_cast
  refine .of hE ?_
  push_cast [eq_false h1]
  refine .of alive17 ?_
  push_cast
  exact pf_ret (by push_cast [l17_MultiSteps.rs])
end Go.Dw
end
