/-
  Contracts and lemmas for MultiOf: part g of 9.
-/
import Derived.Test.YtkdcfkfdkimaeaaGreatOf
import Derived.Test.YtkdcfkfdkimaeaaGreatOe
import Derived.Shelf.SlSortCmp.NoneTotal
import Derived.Ground.SlsfProg
set_option linter.unusedVariables false
set_option linter.unusedSimpArgs false
set_option maxRecDepth 100000
section
namespace Go.Dw
def insRS (s:Str):List Str→List Str
 | []=>[s]
 | x :: l=>if x < s then x :: insRS s l else if x = s then x :: l else s :: x :: l
theorem insS_R (s:Str):∀ l:List Str,insS l s = insRS s l
 | []=>rfl
 | x :: l=>by
  have ih:=insS_R s l
  unfold insS at ih ⊢
  simp only [lbg,insRS]
  by_cases h:x < s
  ·simp only [h,decide_true,if_true]
   rw [← ih]
   simp only [List.length_cons,Nat.add_lt_add_iff_right,List.getD_cons_succ,List.take_succ_cons,List.drop_succ_cons]
   split <;> simp
  ·simp only [h,decide_false,Bool.false_eq_true,if_false,List.length_cons,Nat.zero_lt_succ,true_and,List.getD_cons_zero,List.take_zero,List.drop_zero,List.nil_append]
def SS (l:List Str):Prop:=l.Pairwise (· < ·)
theorem insRS_mem {s v:Str}:∀ {l:List Str},v∈insRS s l→v∈l ∨ v = s
 | [],h=>.inr (by simpa [insRS] using h)
 | x :: l,h=>by
  unfold insRS at h
  split at h
  ·rcases List.mem_cons.1 h with rfl | h
   ·exact .inl (by simp)
   ·rcases insRS_mem h with h | h
    ·exact .inl (by simp [h])
    ·exact .inr h
  ·split at h
   ·exact .inl h
   ·rcases List.mem_cons.1 h with rfl | h
    ·exact .inr rfl
    ·exact .inl h
theorem insRS_sorted {s:Str}:∀ {l:List Str},SS l→SS (insRS s l)
 | [],_=>by simp [insRS,SS]
 | x :: l,h=>by
  unfold SS at h ⊢
  rw [List.pairwise_cons] at h
  unfold insRS
  split
  ·rename_i hx
   rw [List.pairwise_cons]
   refine ⟨fun v hv=>?_,insRS_sorted h.2⟩
   rcases insRS_mem hv with hv | rfl
   ·exact h.1 v hv
   ·exact hx
  ·rename_i hx
   split
   ·rw [List.pairwise_cons];exact h
   ·rename_i hne
    have hsx:s < x:=by
     rcases Classical.em (s < x) with hc | hc
     ·exact hc
     ·exact absurd (slt_eq hc hx).symm hne
    rw [List.pairwise_cons,List.pairwise_cons]
    refine ⟨fun v hv=>?_,h⟩
    rcases List.mem_cons.1 hv with rfl | hv
    ·exact hsx
    ·exact slt_trans hsx (h.1 v hv)
mutual
theorem collectT_sorted:∀ (t:Term) (l:List Str),SS l→SS (collectT l t)
 | .mk n b ar,l,h=>by
  simp only [collectT]
  refine collectTs_sorted ar _ ?_
  split
  ·rw [insS_R];exact insRS_sorted h
  ·exact h
theorem collectTs_sorted:∀ (ar:List Term) (l:List Str),SS l→SS (collectTs l ar)
 | [],l,h=>h
 | a :: ar,l,h=>by simp only [collectTs];exact collectTs_sorted ar _ (collectT_sorted a l h)
end
theorem vset_nodup (l:List Str):∀ ks:List Str,ks.Nodup→(l.foldl addS ks).Nodup:=by
 induction l with
 | nil=>intro ks h;exact h
 | cons x l ih =>
  intro ks h
  refine ih _ ?_
  unfold addS
  split
  ·exact h
  ·rename_i hx
   rw [List.nodup_append]
   exact ⟨h,by simp,fun a ha b hb e=>by rw [List.mem_singleton] at hb;subst hb;subst e;exact hx ha⟩
theorem varsT_eq (t:Term):varsT t = varsOf [t]:=by
 have h1:SS (varsT t):=collectT_sorted t [] List.Pairwise.nil
 have h2:(vsetT [] [t]).Nodup:=by
  show (vset [] (visit t [])).Nodup
  exact vset_nodup _ _ List.nodup_nil
 have hm:∀ v,v∈varsT t ↔ v∈vsetT [] [t]:=fun v=>by
  have e1:v∈varsT t ↔ occ v t = true:=by
   unfold varsT;rw [mem_collectT];simp
  have e2:=mem_varsOf v t
  unfold varsOf at e2
  rw [(List.mergeSort_perm _ _).mem_iff] at e2
  rw [e1,e2]
 have hnd:(varsT t).Nodup:=h1.imp fun hab e=>by rw [e] at hab;exact slt_irrefl _ hab
 have hp:(varsT t).Perm (vsetT [] [t]):=(List.perm_ext_iff_of_nodup hnd h2).2 hm
 unfold varsOf
 have e3:Proofs.sortS (vsetT [] [t]) = Proofs.sortS (varsT t):=Go.mergeSort_of_perm hp.symm
 rw [e3]
 unfold Proofs.sortS
 refine (List.mergeSort_of_pairwise ?_).symm
 refine h1.imp fun {a b} hab=>?_
 simpa using List.le_of_lt hab
theorem r17_Vars_s (x:ARule) (ht:tb x.left < 2^39):PF n_r17_Vars [encR x] (encSs (varsOf [x.left])):=by
 refine pf_of r17_Vars.ok rfl ?_
 push_cast
 have hV:=r01_Vars_s x.left ht
 rw [varsT_eq] at hV
 refine .of hV ?_
 push_cast
 exact pf_ret (by push_cast [r17_Vars.rs])
theorem r17_Size_s (m:AMulti) (hs:msize m < 2^40):PF n_r17_Size [encM m] (.tup [.int .i64 (msize m),.int .i64 (mdepth m)]):=by
 induction m using multi_ind with
 | h m ih =>
 refine pf_of r17_Size.ok rfl ?_
 have hst:=msize_args m
 have hdt:=mdepth_args m
 have hl:=length_le_msizes m.args
 have hd:=mdepths_le_msizes m.args
 push_cast
 refine loop_up (n:=m.args.length) (R:=fun k=>r17_Size.L3 (.int .i64 ((1+msizes (m.args.take k):Nat):Int)) (.int .i64 (mdepths (m.args.take k):Nat)) (encMs m.args) (.int .i64 m.args.length) (.int .i64 k) 0 [] _) ?_ ?_ 0 (by omega)
 ·intro k hk ih2
  have h1:=mdepths_take_succ _ _ hk
  have h2:=msizes_take_succ _ _ hk
  have h3:=msizes_take_le m.args (k+1)
  have hm:=getD_mem hk
  have:=msize_mem hm
  refine r17_Size.G3 ?_
  push_cast [ilt hk]
  refine .of (ih _ hm (by omega)) ?_
  push_cast [w64 (show k < 2^62 by omega)]
  rw [wrap64 (by omega) (by omega)]
  rw [h1,h2] at ih2
  push_cast at ih2
  simpa [Int.add_assoc] using ih2
 ·refine r17_Size.G3 ?_
  push_cast [inlt (Nat.le_refl _),List.take_length]
  rw [wrap64 (by omega) (by omega)]
  refine pf_ret ?_
  push_cast [r17_Size.rs,hst,hdt]
theorem r17_Small_s (m:AMulti) (hs:msize m < 2^40):PF n_r17_Small [encM m] (.bool (fitM m)):=by
 refine pf_of r17_Small.ok rfl ?_
 push_cast
 refine .of (r17_Size_s m hs) ?_
 unfold fitM
 by_cases h:msize m≤4000
 ·have hi:((msize m:Int)≤4000) = True:=eq_true (by omega)
  push_cast [hi]
  refine pf_ret ?_
  push_cast [r17_Small.rs,h]
  exact decide_eq_decide.2 (by omega)
 ·have hi:((msize m:Int)≤4000) = False:=eq_false (by omega)
  push_cast [hi]
  exact pf_ret (by push_cast [r17_Small.rs,h];try rfl)
theorem fitM_iff (m:AMulti):fitM m = true ↔ ¬ (4000 < msize m ∨ 200 < mdepth m):=by unfold fitM;simp
end Go.Dw
end
section
namespace Go.Dw
open Go.Proofs.YtkdcfkfdkimaeaaGreat
section
variable {H:Type} {enc:TypeId × Value→H} {W:World}
theorem c96s:prog.cellsOf 48 = 2:=by kernel_rfl
theorem br_steps {n:Nat}:Br enc W n 27 (fun l:List AStep=>[encSts l]) (fun l=>sumB (fun s:AStep=>s.pos.length+1) l+1):=by
 intro cs x h hbk
 obtain ⟨l,b0,d0⟩:=br_slice (n:=n) (sz:=2) (c:=cSt) (b:=fun s:AStep=>s.pos.length+1) Go.Proofs.Tryz.underlying27 c96s (by omega) (fun _=>rfl) (fun m hm=>br_step m) _ _ h hbk
 refine ⟨l,?_,d0⟩
 dsimp only at b0 ⊢
 omega
end
end Go.Dw
end
section
namespace Go.Dw
theorem steps_len {l:List AStep}:l.length≤sumB (fun s:AStep=>s.pos.length+1) l:=by
 induction l with
 | nil=>simp
 | cons a l ih=>simp only [sumB,List.length_cons];omega
theorem steps_pos {l:List AStep} {s:AStep} (h:s∈l):s.pos.length≤sumB (fun s:AStep=>s.pos.length+1) l:=by
 induction l with
 | nil=>cases h
 | cons a l ih =>
  simp only [sumB]
  rcases List.mem_cons.1 h with rfl | h
  ·omega
  ·have:=ih h;omega
end Go.Dw
end
section
namespace Go.Dw
def bindL (vars:List Str) (x:List Term):List ABind:=List.zipWith ABind.mk vars x
theorem image_bindL {v:Str}:∀ {vars:List Str} {x:List Term},v∈vars→vars.length≤x.length→image (bindL vars x) v = some (x.getD (ixS v vars) default)
 | [],_,h,_=>by cases h
 | w :: vars,[],_,hl=>by simp at hl
 | w :: vars,u :: x,h,hl=>by
  simp only [bindL,List.zipWith_cons_cons,image]
  unfold ixS
  simp only [idxI]
  by_cases he:v = w
  ·subst he;simp
  ·have hm:v∈vars:=(List.mem_cons.1 h).resolve_left he
   obtain ⟨h1,h2,h3⟩:=idxI_ix hm
   have hd:decide (v = w) = false:=by simpa using he
   have ih:=image_bindL (x:=x) hm (by simpa using hl)
   unfold bindL at ih
   rw [if_neg (fun e=>he e.symm)]
   simp only [hd,Bool.false_eq_true,if_false]
   rw [h1,ih]
   have hn:¬ ((ixS v vars:Nat):Int) < 0:=by omega
   have h4:(((ixS v vars:Nat):Int)+1).toNat = ixS v vars+1:=by omega
   simp only [hn,if_false,h4]
   simp [List.getD_eq_getElem?_getD]
theorem inst_bindL (vars:List Str) (x:List Term) (hl:vars.length≤x.length) (t:Term) (ho:∀ v,occ v t = true→v∈vars):inst (bindL vars x) t = plugT vars x t:=by
 induction t using term_ind with
 | h t ih =>
  rw [inst_eq,plugT_eq]
  cases hv:t.var with
  | true=>rw [if_pos rfl,if_pos rfl,image_bindL (ho _ (occ_self hv)) hl];rfl
  | false =>
   rw [if_neg (by simp),if_neg (by simp)]
   congr 1
   exact List.map_congr_left fun a ha=>ih a ha fun v hv2=>ho v (occ_arg ha hv2)
end Go.Dw
end
section
namespace Go.Dw
theorem r17_Same_self (m:AMulti) (hs:msize m < 2^40):PF n_r17_Same [encM m,encM m] (.bool true):=by
 induction m using multi_ind with
 | h m ih =>
 have hst:=msize_args m
 have hll:=length_le_msizes m.args
 refine pf_of r17_Same.ok rfl ?_
 have e:∀ x:Bool,(x != x) = false:=fun x=>by cases x <;> rfl
 push_cast [e]
 refine loop_up (n:=m.args.length) (R:=fun k=>r17_Same.L3 (.ro (cM m) 0) (.ro (cM m) 0) (.int .i64 m.args.length) (.int .i64 k) 0 [] (Ends 0 r17_Same.rs fun x' H'=>x' = .bool true∧H' = [])) ?_ ?_ 0 (by omega)
 ·intro k hk ih2
  have hmm:=getD_mem hk
  have hm2:=msize_mem hmm
  refine r17_Same.G3 ?_
  push_cast [ilt hk]
  refine .of (ih _ hmm (by omega)) ?_
  push_cast [ilt hk,w64 (show k < 2^62 by omega)]
  exact ih2
 ·refine r17_Same.G3 ?_
  push_cast [inlt (Nat.le_refl _)]
  exact pf_ret (by push_cast [r17_Same.rs])
end Go.Dw
end
section
namespace Go.Dw
theorem r04_Check_s (r:List ARule) (t:Term) (hr:rbs r < 2^38) (ht:tb t < 2^38):PF n_r04_Check [encRs r,encT t] (.int .i64 (bothE r t)):=by
 refine pf_of r04_Check.ok rfl ?_
 unfold bothE
 push_cast
 refine .of (r01_CheckSystem_s r hr) ?_
 by_cases h:checkSystem r = 0
 ·rw [if_neg (by simpa using h)]
  push_cast [h]
  refine .of (r01_Check_s t (by omega)) ?_
  push_cast
  exact pf_ret (by push_cast [r04_Check.rs])
 ·rw [if_pos (by simpa using h)]
  push_cast [h]
  exact pf_ret (by push_cast [r04_Check.rs])
end Go.Dw
end
section
namespace Go.Dw
theorem image_append (a b:List ABind) (n:Str):image (a++b) n = match image a n with | some x=>some x | none=>image b n:=by
 induction a with
 | nil=>rfl
 | cons x a ih =>
  simp only [List.cons_append,image]
  split
  ·rfl
  ·exact ih
theorem image_bindT {s:List ABind} {v:Str} {t:Term} (h:image s v = none) (n:Str):image (bindT s v t) n = if v = n then some t else image s n:=by
 unfold bindT
 have h0:=image_append (s.take (lbd v s)) (s.drop (lbd v s)) n
 rw [List.take_append_drop] at h0
 rw [image_append]
 by_cases hv:v = n
 ·subst hv
  rw [h] at h0
  rw [if_pos rfl]
  cases ha:image (s.take (lbd v s)) v with
  | some x=>rw [ha] at h0;cases h0
  | none=>simp only [image,if_true]
 ·rw [if_neg hv,h0]
  cases image (s.take (lbd v s)) n with
  | some x=>rfl
  | none=>simp only [image,if_neg hv]
def ExtB (a b:List ABind):Prop:=∀ n x,image a n = some x→image b n = some x
theorem ExtB.refl (a:List ABind):ExtB a a:=fun _ _ h=>h
theorem ExtB.trans {a b c:List ABind} (h:ExtB a b) (h2:ExtB b c):ExtB a c:=fun n x hx=>h2 n x (h n x hx)
theorem ext_bindT {s:List ABind} {v:Str} {t:Term} (h:image s v = none):ExtB s (bindT s v t):=fun n x hx=>by
 rw [image_bindT h]
 split
 ·rename_i e;subst e;rw [h] at hx;cases hx
 ·exact hx
theorem term_mk (t:Term):t = .mk t.name t.var t.args:=by cases t;rfl
theorem matchT_sound (p:Term):∀ (s:List ABind) (t:Term),(matchT s p t).2 = true→ExtB s (matchT s p t).1∧∀ s2,ExtB (matchT s p t).1 s2→inst s2 p = t:=by
 induction p using term_ind with
 | h p ih =>
 intro s t
 rw [matchT_eq]
 cases hv:p.var with
 | true =>
  rw [if_pos rfl]
  cases hx:image s p.name with
  | some x =>
   intro h
   have h:x = t:=by simpa using h
   subst h
   refine ⟨.refl s,fun s2 h2=>?_⟩
   rw [inst_eq,hv,if_pos rfl,h2 _ _ hx];rfl
  | none =>
   intro _
   refine ⟨ext_bindT hx,fun s2 h2=>?_⟩
   rw [inst_eq,hv,if_pos rfl,h2 p.name t (by rw [image_bindT hx,if_pos rfl])];rfl
 | false =>
  rw [if_neg (by simp)]
  by_cases hc:t.var ∨ p.name ≠ t.name ∨ p.args.length ≠ t.args.length
  ·rw [if_pos hc];intro h;cases h
  ·rw [if_neg hc]
   simp only [not_or,Classical.not_not] at hc
   have key:∀ (l m:List Term) (s:List ABind),(∀ a∈l,a∈p.args)→l.length = m.length→(matchTs s l m).2 = true→ExtB s (matchTs s l m).1∧∀ s2,ExtB (matchTs s l m).1 s2→l.map (inst s2) = m:=by
    intro l
    induction l with
    | nil =>
     intro m s _ hl _
     cases m with
     | nil=>exact ⟨.refl s,fun _ _=>rfl⟩
     | cons b m=>cases hl
    | cons a l ihl =>
     intro m s hm hl h
     cases m with
     | nil=>cases hl
     | cons b m =>
      simp only [matchTs] at h ⊢
      by_cases hab:(matchT s a b).2 = true
      ·rw [if_pos hab] at h ⊢
       obtain ⟨h1,h2⟩:=ih a (hm a (by simp)) s b hab
       obtain ⟨h3,h4⟩:=ihl m _ (fun x hx=>hm x (by simp [hx])) (by simpa using hl) h
       refine ⟨h1.trans h3,fun s2 hs2=>?_⟩
       rw [List.map_cons,h2 s2 (h3.trans hs2),h4 s2 hs2]
      ·rw [if_neg hab] at h;cases h
   intro h
   obtain ⟨h1,h2⟩:=key p.args t.args s (fun _ h=>h) hc.2.2 h
   refine ⟨h1,fun s2 hs2=>?_⟩
   rw [inst_eq,hv,if_neg (by simp),h2 s2 hs2,hc.2.1]
   rw [term_mk t]
   have:t.var = false:=by simpa using hc.1
   simp only [Term.name,Term.args,this]
theorem match_inst {p t:Term} (h:(matchT [] p t).2 = true):inst (matchT [] p t).1 p = t:=(matchT_sound p [] t h).2 _ (.refl _)
end Go.Dw
end
section
namespace Go.Dw
mutual
def occR (v:Str):Term→List (List Int)
 | .mk n b l=>(if b && decide (n = v) then [[]] else [])++occRs v l 0
def occRs (v:Str):List Term→Nat→List (List Int)
 | [],_=>[]
 | a :: l,i=>(occR v a).map ((i:Int) :: ·)++occRs v l (i+1)
end
theorem occW_append (v:Str) (a b:List (List Int × Term)):occW v (a++b) = occW v a++occW v b:=by unfold occW;rw [List.filter_append,List.map_append]
mutual
theorem occW_visit (v:Str):∀ (t:Term) (p:List Int),occW v (visit t p) = (occR v t).map (p++·)
 | .mk n b l,p=>by
  have h:=occW_visits v l p 0
  have h1:occW v ((p,Term.mk n b l) :: visits l p 0) = (if b && decide (n = v) then [p] else [])++occW v (visits l p 0):=by
   unfold occW
   rw [List.filter_cons]
   show List.map Prod.fst (if (b && decide (n = v)) = true then _ else _) = _
   split <;> simp
  simp only [visit,occR,h1,h,List.map_append]
  congr 1
  split <;> simp
theorem occW_visits (v:Str):∀ (l:List Term) (p:List Int) (i:Nat),occW v (visits l p i) = (occRs v l i).map (p++·)
 | [],p,i=>rfl
 | a :: l,p,i=>by
  simp only [visits,occRs,occW_append,occW_visit v a,occW_visits v l p (i+1),List.map_append,List.map_map]
  congr 1
  apply List.map_congr_left
  intro q _;simp
end
theorem occM_R (t:Term) (v:Str):occM t v = occR v t:=by
 unfold occM
 rw [occW_visit]
 simp
mutual
theorem occR_some (v:Str):∀ t:Term,occ v t = true→occR v t ≠ []
 | .mk n b l,h=>by
  simp only [occ,Bool.or_eq_true] at h
  simp only [occR]
  rcases h with h | h
  ·rw [if_pos h];simp
  ·have:=occRs_some v l 0 h
   simp [this]
theorem occRs_some (v:Str):∀ (l:List Term) (i:Nat),occs v l = true→occRs v l i ≠ []
 | [],i,h=>by cases h
 | a :: l,i,h=>by
  simp only [occs,Bool.or_eq_true] at h
  simp only [occRs]
  rcases h with h | h
  ·have:=occR_some v a h
   simp [this]
  ·have:=occRs_some v l (i+1) h
   simp [this]
end
def startsM (r:List ARule) (m:AMulti) (i:Int):List (List Int) :=
 if 0 < m.rule then occM (ruleOf r m).left ((varsOf [(ruleOf r m).left]).getD i.toNat default) else [[i]]
theorem varsOf_nodup (t:Term):(varsOf [t]).Nodup:=by
 have h2:(vsetT [] [t]).Nodup:=by
  show (vset [] (visit t [])).Nodup
  exact vset_nodup _ _ List.nodup_nil
 exact (List.mergeSort_perm _ _).nodup_iff.2 h2
theorem ixS_getD {vars:List Str} (hn:vars.Nodup) {k:Nat} (hk:k < vars.length):ixS (vars.getD k default) vars = k:=by
 obtain ⟨i1,i2,i3⟩:=idxI_ix (getD_mem hk)
 generalize hv:vars.getD k default = v at i1 i2 i3 ⊢
 rw [List.getD_eq_getElem?_getD,List.getElem?_eq_getElem hk,Option.getD_some] at hv
 rw [List.getD_eq_getElem?_getD,List.getElem?_eq_getElem i2,Option.getD_some] at i3
 exact (List.getElem_inj hn).1 (i3.trans hv.symm)
theorem split_at {α:Type} [Inhabited α] {l:List α} {k:Nat} (hk:k < l.length):l = l.take k++l.getD k default :: l.drop (k+1):=by
 rw [List.getD_eq_getElem?_getD,List.getElem?_eq_getElem hk,Option.getD_some]
 simp
end Go.Dw
end
section
namespace Go.Dw
def imgV (s:List ABind) (n:Str):Term:=(image s n).getD (.mk n true [])
def AgreeB (s d:List ABind):Prop:=∀ n x,image s n = some x→x = imgV d n
theorem match_complete (d:List ABind) (p:Term):∀ s:List ABind,AgreeB s d→(matchT s p (inst d p)).2 = true∧AgreeB (matchT s p (inst d p)).1 d:=by
 induction p using term_ind with
 | h p ih =>
 intro s hs
 rw [matchT_eq]
 cases hv:p.var with
 | true =>
  have hi:inst d p = imgV d p.name:=by rw [inst_eq,hv,if_pos rfl];rfl
  rw [if_pos rfl,hi]
  cases hx:image s p.name with
  | some x=>exact ⟨by simpa using hs _ _ hx,hs⟩
  | none =>
   refine ⟨rfl,fun n x h=>?_⟩
   rw [image_bindT hx] at h
   split at h
   ·rename_i e;subst e;cases h;rfl
   ·exact hs n x h
 | false =>
  have hi:inst d p = .mk p.name false (p.args.map (inst d)):=by rw [inst_eq,hv,if_neg (by simp)]
  have hl:p.args.length = (p.args.map (inst d)).length:=by simp
  rw [if_neg (by simp),hi,if_neg (by simp only [Term.var,Term.name,Term.args];simp)]
  show (matchTs s p.args (p.args.map (inst d))).2 = true∧AgreeB (matchTs s p.args (p.args.map (inst d))).1 d
  have key:∀ (l:List Term) (s:List ABind),(∀ a∈l,a∈p.args)→AgreeB s d→(matchTs s l (l.map (inst d))).2 = true∧AgreeB (matchTs s l (l.map (inst d))).1 d:=by
   intro l
   induction l with
   | nil=>intro s _ h;exact ⟨rfl,h⟩
   | cons a l ihl =>
    intro s hm h
    obtain ⟨h1,h2⟩:=ih a (hm a (by simp)) s h
    simp only [List.map_cons,matchTs]
    rw [if_pos h1]
    exact ihl _ (fun x hx=>hm x (by simp [hx])) h2
  exact key p.args s (fun _ h=>h) hs
end Go.Dw
end
section
namespace Go.Dw
theorem sl_snocI {l:List Int} {v:Int}:(.sl 1 (l.map cI++[[V.int .i64 v]]):V) = encP (l++[v]):=by simp [encL,cI]
end Go.Dw
end
section
namespace Go.Dw
namespace plcs
end plcs
theorem size_pos (t:Term):0 < size t:=by have:=size_args t;omega
mutual
theorem occR_short (v:Str):∀ (t:Term),∀ q∈occR v t,q.length≤size t
 | .mk n b l,q,hq=>by
  simp only [occR,List.mem_append] at hq
  rcases hq with hq | hq
  ·split at hq
   ·have:q = []:=by simpa using hq
    subst this;simp
   ·cases hq
  ·have:=occRs_short v l 0 q hq
   simp only [size];omega
theorem occRs_short (v:Str):∀ (l:List Term) (i:Nat),∀ q∈occRs v l i,q.length≤1+sizes l
 | [],i,q,hq=>by cases hq
 | a :: l,i,q,hq=>by
  simp only [occRs,List.mem_append] at hq
  rcases hq with hq | hq
  ·obtain ⟨p,hp,rfl⟩:=List.mem_map.1 hq
   have:=occR_short v a p hp
   simp only [sizes,List.length_cons];omega
  ·have:=occRs_short v l (i+1) q hq
   simp only [sizes];omega
end
theorem startsM_short {r:List ARule} {m:AMulti} (hm:OkM r m) (hr:rbs r < 2^28) (i:Int):∀ q∈startsM r m i,q.length≤268435456:=by
 intro q hq
 unfold startsM at hq
 split at hq
 ·rename_i h0
  obtain ⟨k1,k2,k3,k4,k5,k6⟩:=hm.rule (by omega)
  rw [occM_R] at hq
  have h1:=occR_short _ _ q hq
  have h2:=rbs_mem k3
  have h3:=size_le_tb (ruleOf r m).left
  omega
 ·have:q = [i]:=by simpa using hq
  subst this;simp
theorem startsM_ne {r:List ARule} {m:AMulti} (hm:OkM r m) {i:Int} (h:0≤i∧i < m.args.length):startsM r m i ≠ []:=by
 unfold startsM
 by_cases hz:0 < m.rule
 ·obtain ⟨k1,k2,k3,k4,k5,k6⟩:=hm.rule (by omega)
  rw [if_pos hz,occM_R]
  exact occR_some _ _ ((mem_varsOf _ _).1 (getD_mem (by omega)))
 ·rw [if_neg hz];simp
end Go.Dw
end
section
namespace Go.Dw
theorem occM_pos (t:Term) (v:Str):occM t v = (posT t).filter fun p=>match subT t p with | some x=>x.var && decide (x.name = v) | none=>false:=by
 unfold occM occW
 have h1:=visit_pos t []
 simp only [List.nil_append,List.map_id'] at h1
 rw [← h1,List.filter_map]
 congr 1
 apply List.filter_congr
 intro x hx
 obtain ⟨q,hq,hs⟩:=visit_at t [] x hx
 rw [List.nil_append] at hq
 simp only [Function.comp,hq,hs,isV]
theorem r17_Occurrences_s (t:Term) (v:Str) (hs:size t < 2^38):PF n_r17_Occurrences [encT t,.str v] (encPs (occM t v)):=by
 have hpl:=posT_len t
 have hps:=posT_short t
 refine pf_of r17_Occurrences.ok rfl ?_
 rw [occM_pos]
 generalize hf:(fun p=>match subT t p with | some x=>x.var && decide (x.name = v) | none=>false) = f
 push_cast
 refine .of (r01_Positions_s t hs) ?_
 push_cast
 refine loop_up (n:=(posT t).length) (R:=fun k=>r17_Occurrences.L3 (.str v) (.ro (cT t) 0) (ownL cPp 0 1 (((posT t).take k).filter f)) (encPs (posT t)) (.int .i64 (posT t).length) (.int .i64 k) 0 [.arr t_s_int 1 (((posT t).take k).filter f).length] (Ends 0 r17_Occurrences.rs fun x' H'=>x' = encPs ((posT t).filter f)∧H' = [])) ?_ ?_ 0 (by omega)
 ·intro k hk ih
  rw [take_succ_getD hk,List.filter_append] at ih
  have hq:=hps _ (getD_mem hk)
  have hle:=List.length_filter_le f ((posT t).take k)
  rw [List.length_take] at hle
  refine r17_Occurrences.G3 ?_
  generalize hqq:(posT t).getD k default = q at ih hq
  push_cast [ilt hk,hqq]
  refine .of (r01_At_s t q (by omega) (by omega)) ?_
  have hfq:f q = match subT t q with | some x=>x.var && decide (x.name = v) | none=>false:=by rw [← hf]
  cases hx:subT t q with
  | none =>
   rw [hx] at hfq
   have hff:[q].filter f = []:=by simp [hfq]
   rw [hff,List.append_nil] at ih
   push_cast [encOT,w64 (show k < 2^62 by omega),show noT.var = false from rfl]
   exact ih
  | some x =>
   rw [hx] at hfq
   simp only at hfq
   cases hv:x.var with
   | false =>
    rw [hv] at hfq
    have hff:[q].filter f = []:=by simp [hfq]
    rw [hff,List.append_nil] at ih
    push_cast [encOT,w64 (show k < 2^62 by omega),hv]
    exact ih
   | true =>
    by_cases hn:x.name = v
    ·have hff:[q].filter f = [q]:=by simp [hfq,hv,hn]
     rw [hff,List.length_append] at ih
     push_cast [encOT,w64 (show k < 2^62 by omega),hv,eq_true hn]
     refine ⟨by unfold maxEls;omega,?_⟩
     rw [own_pos]
     exact ih
    ·have hff:[q].filter f = []:=by simp [hfq,hn]
     rw [hff,List.append_nil] at ih
     push_cast [encOT,w64 (show k < 2^62 by omega),hv,eq_false hn]
     exact ih
 ·refine r17_Occurrences.G3 ?_
  push_cast [inlt (Nat.le_refl _),List.take_length]
  exact pf_ret (by push_cast [r17_Occurrences.rs];try rfl)
end Go.Dw
end
section
namespace Go.Dw
theorem own_st {i:Nat} {l:List AStep} {a:Int} {q:List Int}:(.own i 2 (l.map cSt++[[.int .i64 a,encP q]]):V) = ownL cSt i 2 (l++[⟨a,q⟩]):=by simp [ownL,cSt]
theorem endM_none {r:List ARule} {f:ARule→Term} {m:AMulti} (h:(endM r f m).2 ≠ 0):(endM r f m).1 = none:=by
 unfold endM at h ⊢
 split
 ·rfl
 ·rename_i h1
  rw [if_neg h1] at h
  split
  ·rename_i h2
   rw [if_pos h2] at h
   exact absurd rfl h
  ·rfl
theorem endM_some {r:List ARule} {f:ARule→Term} {m:AMulti} (h:(endM r f m).2 = 0):checkM r m = 0∧fits (sideM r f m) = true∧endM r f m = (some (sideM r f m),0):=by
 unfold endM at h ⊢
 split at h
 ·rename_i h1;exact absurd h h1
 ·rename_i h1
  rw [if_neg h1]
  split at h
  ·rename_i h2
   rw [if_pos h2]
   exact ⟨Classical.not_not.1 h1,h2,rfl⟩
  ·cases h
end Go.Dw
end
section
namespace Go.Dw
namespace bldr
def nd:Nat→C
 | 0=>.seq (.reg [.la 154 4 (.s 17),.st 4 (.s 6) (.s 154)]) (.ret)
 | 1=>.gh [.ks 7 [3,4,5,6,12,17,104,105,106]] (.m 7)
 | 2=>.gh [.ks 8 [3,4,5,6,12,17,20,104,105,106,112,113,114]] (.m 5)
 | 3=>.seq (.reg [.mv 143 (.s 21),.bin 144 .eql (.s 143) (.i 0)]) (.cond (.s 144) (.reg [.la 145 4 (.s 25),.st 4 (.s 20) (.s 145)]) (.skip))
 | 4=>.seq (.blk 7 (.seq (.reg [.mv 116 (.s 114),.ia 117 1 (.s 112) (.s 114),.ld 118 (.s 117),.mv 21 (.s 116),.mv 22 (.s 118)]) (.seq (.reg [.la 120 3 (.s 4),.mv 121 (.s 22),.callp (some 122) n_term_Sub [.s 120,.s 121],.mv 119 (.s 122),.ex 123 (.s 119) 0,.ex 124 (.s 119) 1,.al 23 t_Term [.str [],.bool false,.sl 3 []],.sf 23 3 (.s 123),.mv 24 (.s 124)]) (.seq (.dr [0,1,2,3,4,5] [.ld 125 (.s 3),.la 126 3 (.s 23),.ld 127 (.s 5),.mv 128 (.s 22),.bs 129 1 [.s 127,.s 128],.callp (some 130) n_slices_Concat_s_int_int [.s 129],.alt [([6,7,8],[.call (some 131) n_multi_builder_build [.s 125,.s 126,.s 130],.al 25 t_Multi [.int .i64 0,.str [],.bool false,.sl 4 []],.sf 25 4 (.s 131)]),([7,6,8],[.al 25 t_Multi [.int .i64 0,.str [],.bool false,.sl 4 []],.call (some 131) n_multi_builder_build [.s 125,.s 126,.s 130],.sf 25 4 (.s 131)])]]) (.seq (.seq (.reg [.mv 132 (.s 21),.bin 133 .gtr (.s 132) (.i 0),.mv 134 (.s 133),.gd (.s 134) true [135,136,137,138] [.la 135 4 (.s 20),.la 136 4 (.s 25),.callp (some 137) n_multi_Equal [.s 135,.s 136],.un 138 .not (.s 137)],.pick 139 (.s 134) (.s 138) (.c (.bool false))]) (.cond (.s 139) (.reg [.ld 140 (.s 3),.nc 141 (.s 140),.fa 142 2 (.s 141),.st 1 (.s 142) (.c (.bool true))]) (.skip))) (.n 3)))))) (.reg [.bin 146 .add (.s 114) (.i 1),.mv 114 (.s 146)])
 | 5=>.seq (.reg [.bin 115 .lss (.s 114) (.s 113)]) (.seq (.cond (.s 115) (.skip) (.exit 6)) (.n 4))
 | 6=>.seq (.blk 5 (.seq (.reg [.ia 108 1 (.s 104) (.s 106),.ld 109 (.s 108),.mv 19 (.s 109)]) (.seq (.reg [.al 20 t_Multi [.int .i64 0,.str [],.bool false,.sl 4 []]]) (.seq (.seq (.reg [.la 110 3 (.s 12),.mv 111 (.s 19),.callp (some 112) n_multi_occurrences [.s 110,.s 111],.len 113 (.s 112),.mv 114 (.i 0)]) (.blk 6 (.loop (.n 2)))) (.reg [.fa 147 3 (.s 17),.ld 148 (.s 147),.la 149 4 (.s 20),.bs 150 4 [.s 149],.app 151 t_Multi 4 56 (.s 148) (.s 150),.fa 152 3 (.s 17),.st 1 (.s 152) (.s 151)]))))) (.reg [.bin 153 .add (.s 106) (.i 1),.mv 106 (.s 153)])
 | 7=>.seq (.reg [.bin 107 .lss (.s 106) (.s 105)]) (.seq (.cond (.s 107) (.skip) (.exit 4)) (.n 6))
 | 8=>.seq (.reg [.fa 98 0 (.s 7),.ld 99 (.s 98),.bin 100 .add (.s 99) (.i 1),.bd 101 [.int .i64 0,.str [],.bool false,.nil] [(0,1,(.s 100))],.al 17 t_Multi [.int .i64 0,.str [],.bool false,.nil],.st 4 (.s 17) (.s 101),.ono t_Multi 4 3 (.s 17)]) (.seq (.seq (.reg [.la 102 3 (.s 12),.bs 103 3 [.s 102],.callp (some 104) n_term_VarsOf [.s 103],.len 105 (.s 104),.mv 106 (.i 0)]) (.blk 4 (.loop (.n 1)))) (.n 0))
 | 9=>.blk 3 (.seq (.dr [0,1,2,3,4] [.ld 76 (.s 3),.ld 77 (.s 5),.mv 78 (.s 13),.bs 79 1 [.s 77,.s 78],.callp (some 80) n_slices_Concat_s_int_int [.s 79],.alt [([5,6,7,8,9,10,11],[.call (some 81) n_multi_builder_at [.s 76,.s 80],.mv 75 (.s 81),.ex 82 (.s 75) 0,.ex 83 (.s 75) 1,.al 15 t_Step [.int .i64 0,.sl 1 []],.sf 15 2 (.s 82),.mv 16 (.s 83)]),([9,5,6,7,8,10,11],[.al 15 t_Step [.int .i64 0,.sl 1 []],.call (some 81) n_multi_builder_at [.s 76,.s 80],.mv 75 (.s 81),.ex 82 (.s 75) 0,.ex 83 (.s 75) 1,.sf 15 2 (.s 82),.mv 16 (.s 83)])]]) (.seq (.reg [.mv 84 (.s 16),.mv 85 (.s 84),.gd (.s 85) true [86,87,88] [.fa 86 1 (.s 14),.ld 87 (.s 86),.un 88 .not (.s 87)],.pick 89 (.s 85) (.s 88) (.c (.bool false)),.mv 90 (.s 89),.gd (.s 90) true [91,92,93] [.mv 91 (.s 13),.len 92 (.s 91),.bin 93 .gtr (.s 92) (.i 0)],.pick 94 (.s 90) (.s 93) (.c (.bool false))]) (.cond (.s 94) (.reg [.ld 95 (.s 3),.nc 96 (.s 95),.fa 97 2 (.s 96),.st 1 (.s 97) (.c (.bool true))]) (.skip))))
 | 10=>.seq (.dr [0,1,2,3,4,5,6,7,8,9,10] [.ld 62 (.s 3),.nc 63 (.s 62),.fa 64 0 (.s 63),.ld 65 (.s 64),.fa 66 0 (.s 7),.ld 67 (.s 66),.ia 68 6 (.s 65) (.s 67),.fa 69 0 (.s 68),.la 70 3 (.s 69),.al 12 t_Term [.str [],.bool false,.sl 3 []],.sf 12 3 (.s 70)]) (.seq (.seq (.reg [.la 71 3 (.s 12),.callp (some 72) n_term_Walk [.s 71]]) (.blk 2 (.rf (.s 72) [73,74] (.seq (.reg [.mv 13 (.s 73)]) (.reg [.al 14 t_Term [.str [],.bool false,.sl 3 []],.sf 14 3 (.s 74)])) (.m 9)))) (.n 8))
 | 11=>.seq (.reg [.la 61 4 (.s 9),.st 4 (.s 6) (.s 61)]) (.ret)
 | 12=>.gh [.ks 5 [3,5,6,9,40,41,42]] (.m 14)
 | 13=>.seq (.blk 1 (.seq (.reg [.mv 44 (.s 42),.ia 45 3 (.s 40) (.s 42),.la 46 3 (.s 45),.al 11 t_Term [.str [],.bool false,.sl 3 []],.mv 10 (.s 44),.sf 11 3 (.s 46)]) (.dr [3,4,6,7] [.lar 50 3 (.s 11),.ldr 51 (.s 5),.mv 53 (.s 10),.bs 54 1 [.s 53],.alt [([0],[.fa 47 3 (.s 9),.alt [([1],[.ld 48 (.s 47),.alt [([2,5,8,9,10,11,12,13],[.ld 49 (.s 3),.call (some 52) n_slices_Clone_s_int_int [.s 51],.app 55 t_int 1 8 (.s 52) (.s 54),.call (some 56) n_multi_builder_build [.s 49,.s 50,.s 55],.bs 57 4 [.s 56],.app 58 t_Multi 4 56 (.s 48) (.s 57),.fa 59 3 (.s 9),.st 1 (.s 59) (.s 58)]),([5,2,8,9,10,11,12,13],[.call (some 52) n_slices_Clone_s_int_int [.s 51],.ld 49 (.s 3),.app 55 t_int 1 8 (.s 52) (.s 54),.call (some 56) n_multi_builder_build [.s 49,.s 50,.s 55],.bs 57 4 [.s 56],.app 58 t_Multi 4 56 (.s 48) (.s 57),.fa 59 3 (.s 9),.st 1 (.s 59) (.s 58)])]]),([2],[.ld 49 (.s 3),.alt [([1,5,8,9,10,11,12,13],[.ld 48 (.s 47),.call (some 52) n_slices_Clone_s_int_int [.s 51],.app 55 t_int 1 8 (.s 52) (.s 54),.call (some 56) n_multi_builder_build [.s 49,.s 50,.s 55],.bs 57 4 [.s 56],.app 58 t_Multi 4 56 (.s 48) (.s 57),.fa 59 3 (.s 9),.st 1 (.s 59) (.s 58)]),([5,8],[.call (some 52) n_slices_Clone_s_int_int [.s 51],.app 55 t_int 1 8 (.s 52) (.s 54),.alt [([1,9,10,11,12,13],[.ld 48 (.s 47),.call (some 56) n_multi_builder_build [.s 49,.s 50,.s 55],.bs 57 4 [.s 56],.app 58 t_Multi 4 56 (.s 48) (.s 57),.fa 59 3 (.s 9),.st 1 (.s 59) (.s 58)]),([9,1,10,11,12,13],[.call (some 56) n_multi_builder_build [.s 49,.s 50,.s 55],.ld 48 (.s 47),.bs 57 4 [.s 56],.app 58 t_Multi 4 56 (.s 48) (.s 57),.fa 59 3 (.s 9),.st 1 (.s 59) (.s 58)])]])]]),([5,2,8],[.call (some 52) n_slices_Clone_s_int_int [.s 51],.ld 49 (.s 3),.app 55 t_int 1 8 (.s 52) (.s 54),.alt [([1,9,10,11,12,13],[.ld 48 (.s 47),.call (some 56) n_multi_builder_build [.s 49,.s 50,.s 55],.bs 57 4 [.s 56],.app 58 t_Multi 4 56 (.s 48) (.s 57),.fa 59 3 (.s 9),.st 1 (.s 59) (.s 58)]),([9,1,10,11,12,13],[.call (some 56) n_multi_builder_build [.s 49,.s 50,.s 55],.ld 48 (.s 47),.bs 57 4 [.s 56],.app 58 t_Multi 4 56 (.s 48) (.s 57),.fa 59 3 (.s 9),.st 1 (.s 59) (.s 58)])]])]]),([2],[.ld 49 (.s 3),.alt [([0],[.fa 47 3 (.s 9),.alt [([1,5,8,9,10,11,12,13],[.ld 48 (.s 47),.call (some 52) n_slices_Clone_s_int_int [.s 51],.app 55 t_int 1 8 (.s 52) (.s 54),.call (some 56) n_multi_builder_build [.s 49,.s 50,.s 55],.bs 57 4 [.s 56],.app 58 t_Multi 4 56 (.s 48) (.s 57),.fa 59 3 (.s 9),.st 1 (.s 59) (.s 58)]),([5,8],[.call (some 52) n_slices_Clone_s_int_int [.s 51],.app 55 t_int 1 8 (.s 52) (.s 54),.alt [([1,9,10,11,12,13],[.ld 48 (.s 47),.call (some 56) n_multi_builder_build [.s 49,.s 50,.s 55],.bs 57 4 [.s 56],.app 58 t_Multi 4 56 (.s 48) (.s 57),.fa 59 3 (.s 9),.st 1 (.s 59) (.s 58)]),([9,1,10,11,12,13],[.call (some 56) n_multi_builder_build [.s 49,.s 50,.s 55],.ld 48 (.s 47),.bs 57 4 [.s 56],.app 58 t_Multi 4 56 (.s 48) (.s 57),.fa 59 3 (.s 9),.st 1 (.s 59) (.s 58)])]])]]),([5,8],[.call (some 52) n_slices_Clone_s_int_int [.s 51],.app 55 t_int 1 8 (.s 52) (.s 54),.alt [([0],[.fa 47 3 (.s 9),.alt [([1,9,10,11,12,13],[.ld 48 (.s 47),.call (some 56) n_multi_builder_build [.s 49,.s 50,.s 55],.bs 57 4 [.s 56],.app 58 t_Multi 4 56 (.s 48) (.s 57),.fa 59 3 (.s 9),.st 1 (.s 59) (.s 58)]),([9,1,10,11,12,13],[.call (some 56) n_multi_builder_build [.s 49,.s 50,.s 55],.ld 48 (.s 47),.bs 57 4 [.s 56],.app 58 t_Multi 4 56 (.s 48) (.s 57),.fa 59 3 (.s 9),.st 1 (.s 59) (.s 58)])]]),([9,0,1,10,11,12,13],[.call (some 56) n_multi_builder_build [.s 49,.s 50,.s 55],.fa 47 3 (.s 9),.ld 48 (.s 47),.bs 57 4 [.s 56],.app 58 t_Multi 4 56 (.s 48) (.s 57),.fa 59 3 (.s 9),.st 1 (.s 59) (.s 58)])]])]]),([5,2,8],[.call (some 52) n_slices_Clone_s_int_int [.s 51],.ld 49 (.s 3),.app 55 t_int 1 8 (.s 52) (.s 54),.alt [([0],[.fa 47 3 (.s 9),.alt [([1,9,10,11,12,13],[.ld 48 (.s 47),.call (some 56) n_multi_builder_build [.s 49,.s 50,.s 55],.bs 57 4 [.s 56],.app 58 t_Multi 4 56 (.s 48) (.s 57),.fa 59 3 (.s 9),.st 1 (.s 59) (.s 58)]),([9,1,10,11,12,13],[.call (some 56) n_multi_builder_build [.s 49,.s 50,.s 55],.ld 48 (.s 47),.bs 57 4 [.s 56],.app 58 t_Multi 4 56 (.s 48) (.s 57),.fa 59 3 (.s 9),.st 1 (.s 59) (.s 58)])]]),([9,0,1,10,11,12,13],[.call (some 56) n_multi_builder_build [.s 49,.s 50,.s 55],.fa 47 3 (.s 9),.ld 48 (.s 47),.bs 57 4 [.s 56],.app 58 t_Multi 4 56 (.s 48) (.s 57),.fa 59 3 (.s 9),.st 1 (.s 59) (.s 58)])]])]]))) (.reg [.bin 60 .add (.s 42) (.i 1),.mv 42 (.s 60)])
 | 14=>.seq (.reg [.bin 43 .lss (.s 42) (.s 41)]) (.seq (.cond (.s 43) (.skip) (.exit 0)) (.n 13))
 | _=>.skip
def body:C:=.seq (.reg [.bx 3 t_p_multi_builder (.s 0),.br 4 t_Term (.s 1),.br 5 t_s_int (.s 2),.al 6 t_Multi [.int .i64 0,.str [],.bool false,.sl 4 []]]) (.seq (.reg [.ld 27 (.s 3),.ld 28 (.s 5),.call (some 29) n_multi_builder_at [.s 27,.s 28],.mv 26 (.s 29),.ex 30 (.s 26) 0,.ex 31 (.s 26) 1,.al 7 t_Step [.int .i64 0,.sl 1 []],.sf 7 2 (.s 30),.mv 8 (.s 31)]) (.seq (.seq (.reg [.mv 32 (.s 8),.un 33 .not (.s 32)]) (.cond (.s 33) (.seq (.reg [.fa 34 0 (.s 4),.ld 35 (.s 34),.fa 36 1 (.s 4),.ld 37 (.s 36),.bd 38 [.int .i64 0,.str [],.bool false,.nil] [(1,1,(.s 35)),(2,1,(.s 37))],.al 9 t_Multi [.int .i64 0,.str [],.bool false,.nil],.st 4 (.s 9) (.s 38),.ono t_Multi 4 3 (.s 9)]) (.seq (.seq (.reg [.fa 39 2 (.s 4),.ld 40 (.s 39),.len 41 (.s 40),.mv 42 (.i 0)]) (.blk 0 (.loop (.n 12)))) (.n 11))) (.skip))) (.n 10)))
def rs:List RV:=[.a 6 4]
attribute [push_cast] nd body
theorem ok:okF prog n_multi_builder_build nd body 3 rs = true:=by kernel_rfl
abbrev L5 (v3 v4 v5 v6 v12 v17 v20 v104 v105 v106 v112 v113 v114:V) (B:Nat) (H:List Ob) (Q:X→T→List Ob→Prop):Prop:=Run prog nd B [.c (.m 5),.c (.loop (.n 2)),.mk 6,.c (.reg [.fa 147 3 (.s 17),.ld 148 (.s 147),.la 149 4 (.s 20),.bs 150 4 [.s 149],.app 151 t_Multi 4 56 (.s 148) (.s 150),.fa 152 3 (.s 17),.st 1 (.s 152) (.s 151)]),.mk 5,.c (.reg [.bin 153 .add (.s 106) (.i 1),.mv 106 (.s 153)]),.c (.loop (.n 1)),.mk 4,.c (.n 0)] [(3,v3),(4,v4),(5,v5),(6,v6),(12,v12),(17,v17),(20,v20),(104,v104),(105,v105),(106,v106),(112,v112),(113,v113),(114,v114)] H Q
theorem G5 {v3 v4 v5 v6 v12 v17 v20 v104 v105 v106 v112 v113 v114:V} {B:Nat} {H:List Ob} {Q:X→T→List Ob→Prop} (h:Run prog nd B [.c (nd 5),.c (.loop (.n 2)),.mk 6,.c (.reg [.fa 147 3 (.s 17),.ld 148 (.s 147),.la 149 4 (.s 20),.bs 150 4 [.s 149],.app 151 t_Multi 4 56 (.s 148) (.s 150),.fa 152 3 (.s 17),.st 1 (.s 152) (.s 151)]),.mk 5,.c (.reg [.bin 153 .add (.s 106) (.i 1),.mv 106 (.s 153)]),.c (.loop (.n 1)),.mk 4,.c (.n 0)] [(3,v3),(4,v4),(5,v5),(6,v6),(12,v12),(17,v17),(20,v20),(104,v104),(105,v105),(106,v106),(112,v112),(113,v113),(114,v114)] H Q):L5 v3 v4 v5 v6 v12 v17 v20 v104 v105 v106 v112 v113 v114 B H Q:=run_m.2 h
abbrev L7 (v3 v4 v5 v6 v12 v17 v104 v105 v106:V) (B:Nat) (H:List Ob) (Q:X→T→List Ob→Prop):Prop:=Run prog nd B [.c (.m 7),.c (.loop (.n 1)),.mk 4,.c (.n 0)] [(3,v3),(4,v4),(5,v5),(6,v6),(12,v12),(17,v17),(104,v104),(105,v105),(106,v106)] H Q
theorem G7 {v3 v4 v5 v6 v12 v17 v104 v105 v106:V} {B:Nat} {H:List Ob} {Q:X→T→List Ob→Prop} (h:Run prog nd B [.c (nd 7),.c (.loop (.n 1)),.mk 4,.c (.n 0)] [(3,v3),(4,v4),(5,v5),(6,v6),(12,v12),(17,v17),(104,v104),(105,v105),(106,v106)] H Q):L7 v3 v4 v5 v6 v12 v17 v104 v105 v106 B H Q:=run_m.2 h
abbrev L14 (v3 v5 v6 v9 v40 v41 v42:V) (B:Nat) (H:List Ob) (Q:X→T→List Ob→Prop):Prop:=Run prog nd B [.c (.m 14),.c (.loop (.n 12)),.mk 0,.c (.n 11),.c (.n 10)] [(3,v3),(5,v5),(6,v6),(9,v9),(40,v40),(41,v41),(42,v42)] H Q
theorem G14 {v3 v5 v6 v9 v40 v41 v42:V} {B:Nat} {H:List Ob} {Q:X→T→List Ob→Prop} (h:Run prog nd B [.c (nd 14),.c (.loop (.n 12)),.mk 0,.c (.n 11),.c (.n 10)] [(3,v3),(5,v5),(6,v6),(9,v9),(40,v40),(41,v41),(42,v42)] H Q):L14 v3 v5 v6 v9 v40 v41 v42 B H Q:=run_m.2 h
end bldr
namespace batr
def nd:Nat→C
 | 0=>.seq (.reg [.bd 23 [.int .i64 0,.sl 1 []] [],.st 2 (.s 4) (.s 23),.mv 5 (.c (.bool false))]) (.ret)
 | 1=>.gh [.ks 1 [1,4,11,12,13]] (.m 3)
 | 2=>.seq (.blk 1 (.seq (.reg [.ia 15 2 (.s 11) (.s 13),.la 16 2 (.s 15),.al 7 t_Step [.int .i64 0,.sl 1 []],.sf 7 2 (.s 16)]) (.seq (.reg [.fa 17 1 (.s 7),.ld 18 (.s 17),.mv 19 (.s 1),.callp (some 20) n_slices_Equal_s_int_int [.s 18,.s 19]]) (.cond (.s 20) (.seq (.reg [.la 21 2 (.s 7),.st 2 (.s 4) (.s 21),.mv 5 (.c (.bool true))]) (.ret)) (.skip))))) (.reg [.bin 22 .add (.s 13) (.i 1),.mv 13 (.s 22)])
 | 3=>.seq (.reg [.bin 14 .lss (.s 13) (.s 12)]) (.seq (.cond (.s 14) (.skip) (.exit 0)) (.n 2))
 | _=>.skip
def body:C:=.seq (.reg [.al 4 t_Step [.int .i64 0,.sl 1 []],.mv 5 (.c (.bool false))]) (.seq (.seq (.reg [.mv 8 (.s 0),.nc 9 (.s 8),.fa 10 1 (.s 9),.ld 11 (.s 10),.len 12 (.s 11),.mv 13 (.i 0)]) (.blk 0 (.loop (.n 1)))) (.n 0))
def rs:List RV:=[.a 4 2,.t 5]
attribute [push_cast] nd body
theorem ok:okF prog n_multi_builder_at nd body 2 rs = true:=by kernel_rfl
abbrev L3 (v1 v4 v11 v12 v13:V) (B:Nat) (H:List Ob) (Q:X→T→List Ob→Prop):Prop:=Run prog nd B [.c (.m 3),.c (.loop (.n 1)),.mk 0,.c (.n 0)] [(1,v1),(4,v4),(11,v11),(12,v12),(13,v13)] H Q
theorem G3 {v1 v4 v11 v12 v13:V} {B:Nat} {H:List Ob} {Q:X→T→List Ob→Prop} (h:Run prog nd B [.c (nd 3),.c (.loop (.n 1)),.mk 0,.c (.n 0)] [(1,v1),(4,v4),(11,v11),(12,v12),(13,v13)] H Q):L3 v1 v4 v11 v12 v13 B H Q:=run_m.2 h
end batr
theorem slices_Equal_int_s (a b:List Int) (hl:a.length < 2^62):PF n_slices_Equal_s_int_int [encP a,encP b] (.bool (decide (a = b))):=by
 refine pf_of slices_Equal_s_int_int.ok rfl ?_
 push_cast
 refine ⟨fun hne=>pf_ret ?_,fun he=>?_⟩
 ·push_cast [slices_Equal_s_int_int.rs]
  have:¬ a = b:=by rintro rfl;exact hne rfl
  simp [this]
 ·have he:a.length = b.length:=by omega
  refine loop_up (n:=a.length) (R:=fun k=>a.take k = b.take k→slices_Equal_s_int_int.L3 (encP a) (encP b) (.int .i64 a.length) (.int .i64 k) 0 [] _) ?_ ?_ 0 (by omega) rfl
  ·intro k hk ih hq
   have hkb:k < b.length:=by omega
   refine slices_Equal_s_int_int.G3 ?_
   by_cases hx:a.getD k default = b.getD k default
   ·push_cast [ilt hk,ilt hkb,hx,w64 (show k < 2^62 by omega)]
    exact ih (by rw [take_succ_getD hk,take_succ_getD hkb,hq,hx])
   ·push_cast [ilt hk,ilt hkb,eq_false hx]
    refine pf_ret ?_
    push_cast [slices_Equal_s_int_int.rs]
    have:¬ a = b:=by rintro rfl;exact hx rfl
    simp [this]
  ·intro hq
   refine slices_Equal_s_int_int.G3 ?_
   push_cast [inlt (Nat.le_refl _)]
   refine pf_ret ?_
   push_cast [slices_Equal_s_int_int.rs]
   rw [List.take_of_length_le (Nat.le_refl _),List.take_of_length_le (by omega)] at hq
   simp [hq]
def cmpP:List Int→List Int→Int
 | [],[]=>0
 | [],_ :: _=>-1
 | _ :: _,[]=>1
 | a :: l,b :: m=>if cmpI a b ≠ 0 then cmpI a b else cmpP l m
theorem slices_IndexFunc_s_Step_Step_s {p:AStep→Bool} {g:Nat} {caps:List V} (hc:∀ σ,rens σ caps = caps) (l:List AStep) (hl:l.length < 2^62) (h:∀ a∈l,PF g (encSt a :: caps) (.bool (p a))) :
  PF n_slices_IndexFunc_s_Step_Step [encL cSt 2 l,.fn (.func g) [] caps] (.int .i64 (idxI p l)):=by
 refine pf_of slices_IndexFunc_s_Step_Step.ok rfl ?_
 push_cast [hc]
 refine loop_up (n:=l.length) (R:=fun k=>(∀ j,j < k→p (l.getD j default) = false)→slices_IndexFunc_s_Step_Step.L3 (encL cSt 2 l) (.fn (.func g) [] caps) (.int .i64 l.length) (.int .i64 k) 0 [] _) ?_ ?_ 0 (by omega) (by intro j hj;omega)
 ·intro k hk ih hq
  refine slices_IndexFunc_s_Step_Step.G3 ?_
  push_cast [ilt hk,cU8_0,cS_0,hc]
  refine .of (h _ (getD_mem hk)) ?_
  push_cast [w64 (show k < 2^62 by omega),hc]
  refine ⟨fun hp=>pf_ret ?_,fun hp=>?_⟩
  ·push_cast [slices_IndexFunc_s_Step_Step.rs]
   rw [idxI_some hk hp hq]
  ·exact ih fun j hj=>by rcases Nat.lt_succ_iff_lt_or_eq.1 hj with h | rfl;exact hq j h;exact hp
 ·intro hq
  refine slices_IndexFunc_s_Step_Step.G3 ?_
  push_cast [inlt (Nat.le_refl _)]
  refine pf_ret ?_
  push_cast [slices_IndexFunc_s_Step_Step.rs]
  rw [idxI_none hq]
theorem slices_ContainsFunc_s_Step_Step_s {p:AStep→Bool} {g:Nat} {caps:List V} (hc:∀ σ,rens σ caps = caps) (l:List AStep) (hl:l.length < 2^62) (h:∀ a∈l,PF g (encSt a :: caps) (.bool (p a))) :
  PF n_slices_ContainsFunc_s_Step_Step [encL cSt 2 l,.fn (.func g) [] caps] (.bool (l.any p)):=by
 refine pf_of slices_ContainsFunc_s_Step_Step.ok rfl ?_
 push_cast [hc]
 refine .of (slices_IndexFunc_s_Step_Step_s hc l hl h) ?_
 push_cast [hc]
 refine pf_ret ?_
 push_cast [slices_ContainsFunc_s_Step_Step.rs,idxI_any]
theorem EqualFuncM_s {f:AMulti→AMulti→Bool} {g:Nat} (l m:List AMulti) (hl:l.length < 2^62) (h:∀ a∈l,∀ b,PF g [encM a,encM b] (.bool (f a b))) :
  PF n_slices_EqualFunc_s_Multi_s_Multi_Multi_Multi [encMs l,encMs m,.fn (.func g) [] []] (.bool (eqf f l m)):=by
 refine pf_of slices_EqualFunc_s_Multi_s_Multi_Multi_Multi.ok rfl ?_
 push_cast
 refine ⟨fun hne=>pf_ret ?_,fun he=>?_⟩
 ·push_cast [slices_EqualFunc_s_Multi_s_Multi_Multi_Multi.rs]
  cases hq:eqf f l m with
  | false=>rfl
  | true=>have:=eqf_len hq;omega
 ·have he:l.length = m.length:=by omega
  refine loop_up (n:=l.length) (R:=fun k=>eqf f (l.drop k) (m.drop k) = eqf f l m→slices_EqualFunc_s_Multi_s_Multi_Multi_Multi.L3 (encMs m) (.fn (.func g) [] []) (encMs l) (.int .i64 l.length) (.int .i64 k) 0 [] _) ?_ ?_ 0 (by omega) (by simp)
  ·intro k hk ih hq
   have hkm:k < m.length:=by omega
   refine slices_EqualFunc_s_Multi_s_Multi_Multi_Multi.G3 ?_
   push_cast [ilt hk,ilt hkm]
   refine .of (h _ (getD_mem hk) _) ?_
   push_cast [w64 (show k < 2^62 by omega)]
   rw [drop_getD hk,drop_getD hkm] at hq
   simp only [eqf] at hq
   refine ⟨fun hf=>pf_ret ?_,fun hf=>?_⟩
   ·push_cast [slices_EqualFunc_s_Multi_s_Multi_Multi_Multi.rs]
    simp only [Bool.not_eq_true'] at hf
    rw [hf,Bool.false_and] at hq
    exact hq
   ·simp only [Bool.not_eq_false'] at hf
    simp only [hf,Bool.true_and] at hq
    exact ih hq
  ·intro hq
   refine slices_EqualFunc_s_Multi_s_Multi_Multi_Multi.G3 ?_
   push_cast [inlt (Nat.le_refl _)]
   refine pf_ret ?_
   push_cast [slices_EqualFunc_s_Multi_s_Multi_Multi_Multi.rs]
   rw [List.drop_eq_nil_of_le (by omega),List.drop_eq_nil_of_le (by omega)] at hq
   simpa [eqf] using hq
theorem multi_Equal_s (a b:AMulti) (hs:msize a < 2^62):PF n_multi_Equal [encM a,encM b] (.bool (decide (a = b))):=by
 induction a using multi_ind generalizing b with
 | h a ih =>
 have hst:=msize_args a
 have hl:=length_le_msizes a.args
 refine pf_of multi_Equal.ok rfl ?_
 have hE:=EqualFuncM_s (f:=fun a b=>decide (a = b)) (g:=n_multi_Equal) a.args b.args (by omega) fun x hx y=>ih x hx y (by have:=msize_mem hx;omega)
 rw [eqf_eqM fun _ _ _=>rfl] at hE
 have hi:=multi_eq_iff a b
 by_cases h0:a.rule = b.rule <;> by_cases h1:a.name = b.name <;> by_cases h2:a.var = b.var <;> push_cast [h0,h1,h2,beq_self_eq_true,show ∀ x y:Bool,(x == y) = decide (x = y) from fun x y=>by cases x <;> cases y <;> rfl]
 ·refine .of hE ?_
  push_cast
  refine pf_ret ?_
  push_cast [multi_Equal.rs]
  simp [hi,h0,h1,h2]
 all_goals
  refine pf_ret ?_
  push_cast [multi_Equal.rs]
  simp [hi,h0,h1,h2]
def atM (l:List AStep) (pos:List Int):Option AStep:=l.find? fun s=>decide (s.pos = pos)
def encAt:Option AStep→V
 | some s=>.tup [encSt s,.bool true]
 | none=>.tup [encSt ⟨0,[]⟩,.bool false]
def bldH (r:List ARule) (l:List AStep) (bad:Bool):List Ob:=[.cells t_multi_builder [encRs r,encSts l,.bool bad]]
theorem builder_at_s (r:List ARule) (l:List AStep) (bad:Bool) (pos:List Int) (hl:l.length < 2^62) (hp:∀ s∈l,s.pos.length < 2^62):Spec prog n_multi_builder_at [.ptr 0 0,encP pos] (bldH r l bad) fun x H'=>x = encAt (atM l pos)∧H' = bldH r l bad:=by
 refine spec_of_run mixed batr.ok rfl ?_
 unfold bldH
 push_cast
 refine loop_up (n:=l.length) (R:=fun k=>atM (l.drop k) pos = atM l pos→batr.L3 (encP pos) (.ptr 1 0) (encSts l) (.int .i64 l.length) (.int .i64 k) 1 [.cells t_multi_builder [encRs r,encSts l,.bool bad],.cells t_Step [.int .i64 0,.sl 1 []]] _) ?_ ?_ 0 (by omega) rfl
 ·intro k hk ih hq
  have hm:=getD_mem hk
  rw [drop_getD hk] at hq
  generalize hs:l.getD k default = s at hm hq
  have hE:=slices_Equal_int_s s.pos pos (hp s hm)
  refine batr.G3 ?_
  push_cast [ilt hk,hs]
  refine .of hE ?_
  have hc:atM (s :: l.drop (k+1)) pos = if s.pos = pos then some s else atM (l.drop (k+1)) pos:=by
   unfold atM
   rw [List.find?_cons]
   by_cases h:s.pos = pos <;> simp [h]
  rw [hc] at hq
  by_cases h:s.pos = pos
  ·rw [if_pos h] at hq
   push_cast [h]
   rw [← hq]
   exact ends_keep (x:=encAt (some s)) (H:=[.cells t_multi_builder [encRs r,encSts l,.bool bad]]) (J:=[.cells t_Step (cSt s),.dead]) ⟨rfl,rfl⟩ (by push_cast [batr.rs];rfl) ⟨rfl,rfl⟩
  ·rw [if_neg h] at hq
   push_cast [eq_false h,w64 (show k < 2^62 by omega)]
   exact ih hq
 ·intro hq
  rw [List.drop_eq_nil_of_le (Nat.le_refl _)] at hq
  refine batr.G3 ?_
  push_cast [inlt (Nat.le_refl _)]
  rw [← hq]
  exact ends_keep (x:=encAt none) (H:=[.cells t_multi_builder [encRs r,encSts l,.bool bad]]) (J:=[.cells t_Step [.int .i64 0,.sl 1 []]]) ⟨rfl,rfl⟩ (by push_cast [batr.rs];rfl) ⟨rfl,rfl⟩
theorem isNaN_iM (a:Int):PF n_cmp_isNaN_int [.int .i64 a] (.bool false):=by
 refine pf_of cmp_isNaN_int.ok rfl ?_
 push_cast
 exact pf_ret (by push_cast [cmp_isNaN_int.rs])
theorem cmp_Compare_iM (a b:Int):PF n_cmp_Compare_int [.int .i64 a,.int .i64 b] (.int .i64 (cmpI a b)):=by
 refine pf_of cmp_Compare_int.ok rfl ?_
 push_cast
 refine .of (isNaN_iM a) ?_
 push_cast
 refine .of (isNaN_iM b) ?_
 unfold cmpI
 by_cases h1:a < b
 ·push_cast [eq_true h1]
  exact pf_ret (by push_cast [cmp_Compare_int.rs,h1])
 ·by_cases h2:b < a
  ·push_cast [eq_false h1,eq_true h2]
   exact pf_ret (by push_cast [cmp_Compare_int.rs,h1,h2])
  ·push_cast [eq_false h1,eq_false h2]
   exact pf_ret (by push_cast [cmp_Compare_int.rs,h1,h2])
theorem slices_Compare_int_s (a b:List Int) (hl:a.length < 2^62) (hl2:b.length < 2^62):PF n_slices_Compare_s_int_int [encP a,encP b] (.int .i64 (cmpP a b)):=by
 refine pf_of slices_Compare_s_int_int.ok rfl ?_
 push_cast
 refine loop_up (n:=a.length) (R:=fun k=>k≤b.length→cmpP (a.drop k) (b.drop k) = cmpP a b→slices_Compare_s_int_int.L5 (encP a) (encP b) (encP a) (.int .i64 a.length) (.int .i64 k) 0 [] (Ends 0 slices_Compare_s_int_int.rs fun x' H'=>x' = .int .i64 (cmpP a b)∧H' = [])) ?_ ?_ 0 (by omega) (by omega) rfl
 ·intro k hk ih hkb hq
  rw [drop_getD hk] at hq
  refine slices_Compare_s_int_int.G5 ?_
  by_cases hb:k < b.length
  ·rw [drop_getD hb] at hq
   simp only [cmpP] at hq
   have hnb:¬ ((b.length:Int)≤(k:Int)):=by omega
   have hlb:((k:Int) < (b.length:Int)) = True:=eq_true (by omega)
   push_cast [ilt hk,eq_false hnb,hlb]
   refine .of (cmp_Compare_iM _ _) ?_
   by_cases h0:cmpI (a.getD k default) (b.getD k default) = 0
   ·rw [if_neg (by simpa using h0)] at hq
    push_cast [h0,w64 (show k < 2^62 by omega)]
    exact ih (by omega) hq
   ·rw [if_pos h0] at hq
    push_cast [eq_false h0]
    exact pf_ret (by push_cast [slices_Compare_s_int_int.rs,hq])
  ·have eb:∀ j,b.length≤j→b.drop j = []:=fun j h=>List.drop_eq_nil_of_le h
   rw [eb _ (by omega)] at hq
   have e:b.length = k:=by omega
   simp only [cmpP] at hq
   have hnb:((b.length:Int)≤(k:Int)):=by omega
   push_cast [ilt hk,eq_true hnb]
   exact pf_ret (by push_cast [slices_Compare_s_int_int.rs,← hq])
 ·intro hkb hq
  rw [List.drop_eq_nil_of_le (Nat.le_refl _)] at hq
  refine slices_Compare_s_int_int.G5 ?_
  by_cases hb:a.length < b.length
  ·rw [drop_getD hb] at hq
   simp only [cmpP] at hq
   have hlb:((a.length:Int) < (b.length:Int)) = True:=eq_true (by omega)
   push_cast [inlt (Nat.le_refl _),hlb]
   exact pf_ret (by push_cast [slices_Compare_s_int_int.rs,← hq])
  ·have eb:∀ j,b.length≤j→b.drop j = []:=fun j h=>List.drop_eq_nil_of_le h
   rw [eb _ (by omega)] at hq
   simp only [cmpP] at hq
   have hlb:((a.length:Int) < (b.length:Int)) = False:=eq_false (by omega)
   push_cast [inlt (Nat.le_refl _),hlb]
   exact pf_ret (by push_cast [slices_Compare_s_int_int.rs,← hq])
end Go.Dw
end
section
namespace Go.Dw
theorem subT_app:∀ (p q:List Int) (t:Term),subT t (p++q) = (subT t p).bind fun u=>subT u q
 | [],q,t=>rfl
 | i :: p,q,t=>by
  simp only [List.cons_append,subT]
  split
  ·exact subT_app p q _
  ·rfl
theorem subT_lt {p:List Int} {t u:Term} (hp:p ≠ []) (h:subT t p = some u):size u < size t∧depth u < depth t:=by
 cases p with
 | nil=>exact absurd rfl hp
 | cons i p =>
  simp only [subT] at h
  split at h
  ·rename_i hi
   have hm:=getD_mem (l:=t.args) (k:=i.toNat) (by omega)
   have h1:=subT_size p _ u h
   have h2:=size_mem hm
   have h3:=size_args t
   have h4:=subT_depth p _ u h
   have h5:=depth_mem hm
   have h6:=depth_args t
   omega
  ·cases h
theorem subT_fit:∀ (p:List Int) (t u:Term),subT t p = some u→p.length+size u≤size t
 | [],t,u,h=>by cases h;simp
 | i :: p,t,u,h=>by
  simp only [subT] at h
  split at h
  ·rename_i hi
   have h1:=subT_fit p _ u h
   have h2:=size_mem (getD_mem (l:=t.args) (k:=i.toNat) (by omega))
   have h3:=size_args t
   simp only [List.length_cons];omega
  ·cases h
theorem sub_inst {σ:List ABind}:∀ (p:List Int) (L y:Term),short L = true→subT L p = some y→subT (inst σ L) p = some (inst σ y)
 | [],L,y,_,h=>by cases h;rfl
 | i :: p,L,y,hs,h=>by
  have h3:=short_iff.1 hs
  simp only [subT] at h
  split at h
  ·rename_i hi
   have hk:i.toNat < L.args.length:=by omega
   have hv:L.var = false:=by
    cases hv:L.var with
    | false=>rfl
    | true=>rw [h3.2.1 hv] at hk;simp at hk
   rw [inst_eq,hv,if_neg (by simp)]
   have hl:(L.args.map (inst σ)).length = L.args.length:=List.length_map ..
   show (if 0≤i∧i < ((L.args.map (inst σ)).length:Int) then subT ((L.args.map (inst σ)).getD i.toNat default) p else none) = _
   rw [if_pos (by omega)]
   have e:(L.args.map (inst σ)).getD i.toNat default = inst σ (L.args.getD i.toNat default):=by simp [List.getD_eq_getElem?_getD,hk]
   rw [e]
   exact sub_inst p _ y (h3.2.2 _ (getD_mem hk)) h
  ·cases h
theorem occM_at {t:Term} {v:Str} {p:List Int} (h:p∈occM t v):∃ y,subT t p = some y∧y.var = true∧y.name = v:=by
 rw [occM_pos] at h
 obtain ⟨h1,h2⟩:=List.mem_filter.1 h
 cases hs:subT t p with
 | none=>rw [hs] at h2;cases h2
 | some y =>
  rw [hs] at h2
  simp only [Bool.and_eq_true,decide_eq_true_eq] at h2
  exact ⟨y,rfl,h2.1,h2.2⟩
def leftOf (r:List ARule) (s:AStep):Term:=(r.getD s.rule.toNat default).left
def MatS (r:List ARule) (l:List AStep) (t:Term) (pos:List Int):Prop :=
 ∀ s∈l,∀ q,s.pos = pos++q→∃ x,subT t q = some x∧0≤s.rule∧s.rule < r.length∧(matchT [] (leftOf r s) x).2 = true
theorem MatS.sub {r:List ARule} {l:List AStep} {t u:Term} {pos p:List Int} (h:MatS r l t pos) (hu:subT t p = some u):MatS r l u (pos++p):=by
 intro s hs q hq
 obtain ⟨x,h1,h2⟩:=h s hs (p++q) (by rw [hq,List.append_assoc])
 rw [subT_app,hu] at h1
 exact ⟨x,h1,h2⟩
theorem atM_some {l:List AStep} {pos:List Int} {s:AStep} (h:atM l pos = some s):s∈l∧s.pos = pos:=by
 unfold atM at h
 exact ⟨List.mem_of_find?_eq_some h,by simpa using List.find?_some h⟩
theorem atM_none {l:List AStep} {pos:List Int}:atM l pos = none ↔ ∀ s∈l,s.pos ≠ pos:=by
 unfold atM
 rw [List.find?_eq_none]
 simp
def subD (t:Term) (p:List Int):Term:=(subT t p).getD noT
def overB (l:List AStep) (pos:List Int) (x:List Int × Term):Bool:=(atM l (pos++x.1)).isSome && (!x.2.var && decide (0 < x.1.length))
def fstB (bs:List (AMulti × Bool)):AMulti:=(bs.getD 0 (zM,false)).1
def badB (bs:List (AMulti × Bool)):Bool:=bs.any fun b=>b.2 || !decide (fstB bs = b.1)
def buildM (r:List ARule) (l:List AStep):Nat→Term→List Int→AMulti × Bool
 | 0,_,_=>(zM,false)
 | n+1,t,pos=>match atM l pos with
  | none=>(.mk 0 t.name t.var ((List.range t.args.length).map fun i=>(buildM r l n (t.args.getD i default) (pos++[(i:Int)])).1),(List.range t.args.length).any fun i=>(buildM r l n (t.args.getD i default) (pos++[(i:Int)])).2)
  | some s=>(.mk (s.rule+1) [] false ((varsOf [leftOf r s]).map fun v=>fstB ((occM (leftOf r s) v).map fun p=>buildM r l n (subD t p) (pos++p))),
    (visit (leftOf r s) []).any (overB l pos) || (varsOf [leftOf r s]).any fun v=>badB ((occM (leftOf r s) v).map fun p=>buildM r l n (subD t p) (pos++p)))
theorem MatS.vars {r:List ARule} {l:List AStep} {t:Term} {pos:List Int} {s:AStep} (hc:checkSystem r = 0) (hm:MatS r l t pos) (hs:atM l pos = some s):leftOf r s = (r.getD s.rule.toNat default).left∧r.getD s.rule.toNat default∈r∧0≤s.rule∧s.rule < r.length∧(leftOf r s).var = false∧short (leftOf r s) = true ∧
  (matchT [] (leftOf r s) t).2 = true∧∀ v,∀ p∈occM (leftOf r s) v,p ≠ []∧subT t p = some (imgV (matchT [] (leftOf r s) t).1 v)∧subD t p = imgV (matchT [] (leftOf r s) t).1 v:=by
 obtain ⟨h1,h2⟩:=atM_some hs
 obtain ⟨x,h3,h4,h5,h6⟩:=hm s h1 [] (by rw [h2,List.append_nil])
 cases h3
 have hmem:r.getD s.rule.toNat default∈r:=getD_mem (by omega)
 have hv:=checkSystem_nv hc _ hmem
 have hsh:=(checkSystem_good hc _ hmem).1.1
 refine ⟨rfl,hmem,h4,h5,hv,hsh,h6,fun v p hp=>?_⟩
 obtain ⟨y,y1,y2,y3⟩:=occM_at hp
 have hpn:p ≠ []:=by
  rintro rfl
  cases y1
  unfold leftOf at y2
  rw [hv] at y2;cases y2
 have hsub:subT (inst (matchT [] (leftOf r s) t).1 (leftOf r s)) p = some (inst (matchT [] (leftOf r s) t).1 y):=sub_inst p _ y hsh y1
 have hiy:inst (matchT [] (leftOf r s) t).1 y = imgV (matchT [] (leftOf r s) t).1 v:=by
  rw [inst_eq,y2,if_pos rfl,y3];rfl
 rw [match_inst h6,hiy] at hsub
 exact ⟨hpn,hsub,by unfold subD;rw [hsub];rfl⟩
def sumV (σ:List ABind) (L:Term):List Str→Nat
 | []=>0
 | v :: vs=>(if occ v L then size (imgV σ v) else 0)+sumV σ L vs
def sumVs (σ:List ABind) (l:List Term):List Str→Nat
 | []=>0
 | v :: vs=>(if occs v l then size (imgV σ v) else 0)+sumVs σ l vs
theorem sumVs_cons (σ:List ABind) (a:Term) (l:List Term) (vs:List Str):sumVs σ (a :: l) vs≤sumV σ a vs+sumVs σ l vs:=by
 induction vs with
 | nil=>simp [sumVs,sumV]
 | cons v vs ih =>
  simp only [sumVs,sumV,occs,Bool.or_eq_true]
  by_cases h1:occ v a = true <;> by_cases h2:occs v l = true <;> simp [h1,h2] <;> omega
theorem sumV_var (σ:List ABind) (n:Str):∀ vs:List Str,vs.Nodup→sumV σ (.mk n true []) vs≤size (imgV σ n)
 | [],_=>by simp [sumV]
 | v :: vs,h=>by
  obtain ⟨h1,h2⟩:=List.nodup_cons.1 h
  have ih:=sumV_var σ n vs h2
  simp only [sumV]
  by_cases he:n = v
  ·subst he
   have h0:∀ ws:List Str,n ∉ ws→sumV σ (.mk n true []) ws = 0:=by
    intro ws
    induction ws with
    | nil=>intro _;rfl
    | cons w ws ihw =>
     intro hw
     simp only [List.mem_cons,not_or] at hw
     simp only [sumV,ihw hw.2,occ,occs,Bool.or_false,Bool.true_and,decide_eq_true_eq]
     rw [if_neg hw.1]
   rw [h0 vs h1]
   split <;> omega
  ·have:occ v (.mk n true []) = false:=by simp [occ,occs,he]
   rw [this]
   simp only [Bool.false_eq_true,if_false,Nat.zero_add]
   exact ih
mutual
theorem sumV_le (σ:List ABind) (vs:List Str) (hn:vs.Nodup):∀ L:Term,short L = true→sumV σ L vs≤size (inst σ L)∧(L.var = false→sumV σ L vs < size (inst σ L))
 | .mk n true l,hs=>by
  have ha:l = []:=(short_iff.1 hs).2.1 rfl
  subst ha
  refine ⟨?_,fun h=>by cases h⟩
  rw [inst_eq]
  exact sumV_var σ n vs hn
 | .mk n false l,hs=>by
  have h:=sumVs_le σ vs hn l (short_iff.1 hs).2.2
  have e:∀ ws,sumV σ (.mk n false l) ws = sumVs σ l ws:=by
   intro ws
   induction ws with
   | nil=>rfl
   | cons w ws ih=>simp only [sumV,sumVs,occ,Bool.false_and,Bool.false_or,ih]
  rw [e]
  have hi:size (inst σ (.mk n false l)) = 1+sizes (l.map (inst σ)):=by
   rw [inst_eq];rfl
  rw [hi]
  exact ⟨by omega,fun _=>by omega⟩
theorem sumVs_le (σ:List ABind) (vs:List Str) (hn:vs.Nodup):∀ l:List Term,(∀ a∈l,short a = true)→sumVs σ l vs≤sizes (l.map (inst σ))
 | [],_=>by
  have:∀ ws,sumVs σ [] ws = 0:=by
   intro ws
   induction ws with
   | nil=>rfl
   | cons w ws ih=>simp [sumVs,occs,ih]
  rw [this];exact Nat.zero_le _
 | a :: l,hs=>by
  have h1:=sumVs_cons σ a l vs
  have h2:=(sumV_le σ vs hn a (hs a (by simp))).1
  have h3:=sumVs_le σ vs hn l fun b hb=>hs b (by simp [hb])
  simp only [List.map_cons,sizes];omega
end
theorem buildM_size {r:List ARule} {l:List AStep} (hc:checkSystem r = 0):∀ (n:Nat) (t:Term) (pos:List Int),size t≤n→MatS r l t pos→msize (buildM r l n t pos).1≤size t∧mdepth (buildM r l n t pos).1≤depth t
 | 0,t,pos,hn,_=>by have:=size_pos t;omega
 | n+1,t,pos,hn,hm=>by
  have hst:=size_args t
  have hdt:=depth_args t
  simp only [buildM]
  cases ha:atM l pos with
  | none =>
   dsimp only
   simp only [msize,mdepth]
   have key:∀ k,k≤t.args.length→msizes ((List.range k).map fun i=>(buildM r l n (t.args.getD i default) (pos++[(i:Int)])).1)≤sizes (t.args.take k)∧mdepths ((List.range k).map fun i=>(buildM r l n (t.args.getD i default) (pos++[(i:Int)])).1)≤depths (t.args.take k):=by
    intro k
    induction k with
    | zero=>intro _;simp [msizes,mdepths]
    | succ k ih =>
     intro hk
     obtain ⟨i1,i2⟩:=ih (by omega)
     have hmem:=getD_mem (l:=t.args) (k:=k) (by omega)
     have hsub:subT t [(k:Int)] = some (t.args.getD k default):=by
      simp only [subT];rw [if_pos (by omega),Int.toNat_natCast]
     have h2:=size_mem hmem
     obtain ⟨b1,b2⟩:=buildM_size hc n (t.args.getD k default) (pos++[(k:Int)]) (by omega) (hm.sub hsub)
     rw [List.range_succ,List.map_append,msizes_append,mdepths_append,sizes_take_succ _ _ (by omega),depths_take_succ _ _ (by omega)]
     simp only [List.map_cons,List.map_nil,msizes,mdepths,Nat.add_zero]
     omega
   obtain ⟨k1,k2⟩:=key t.args.length (Nat.le_refl _)
   rw [List.take_length] at k1 k2
   omega
  | some s =>
   dsimp only
   obtain ⟨e1,e2,e3,e4,e5,e6,e7,e8⟩:=hm.vars hc ha
   have hnd:=varsOf_nodup (leftOf r s)
   have hL:=(sumV_le (matchT [] (leftOf r s) t).1 (varsOf [leftOf r s]) hnd (leftOf r s) e6).2 e5
   rw [match_inst e7] at hL
   simp only [msize,mdepth]
   have key:∀ vs:List Str,(∀ v∈vs,v∈varsOf [leftOf r s])→msizes (vs.map fun v=>fstB ((occM (leftOf r s) v).map fun p=>buildM r l n (subD t p) (pos++p)))≤sumV (matchT [] (leftOf r s) t).1 (leftOf r s) vs∧mdepths (vs.map fun v=>fstB ((occM (leftOf r s) v).map fun p=>buildM r l n (subD t p) (pos++p))) < depth t:=by
    intro vs
    induction vs with
    | nil=>intro _;simp only [List.map_nil,msizes,mdepths,sumV];omega
    | cons v vs ih =>
     intro hv
     obtain ⟨i1,i2⟩:=ih fun w hw=>hv w (by simp [hw])
     have hov:=(mem_varsOf v _).1 (hv v (by simp))
     have hne:occM (leftOf r s) v ≠ []:=by rw [occM_R];exact occR_some _ _ hov
     cases hoc:occM (leftOf r s) v with
     | nil=>exact absurd hoc hne
     | cons p ps =>
      obtain ⟨g1,g2,g3⟩:=e8 v p (by rw [hoc];simp)
      have hlt:=subT_lt g1 g2
      obtain ⟨b1,b2⟩:=buildM_size hc n (subD t p) (pos++p) (by rw [g3];omega) (by rw [g3];exact hm.sub g2)
      rw [g3] at b1 b2
      simp only [List.map_cons,msizes,mdepths,sumV,hov,if_true]
      rw [hoc]
      simp only [List.map_cons]
      have ef:fstB (buildM r l n (subD t p) (pos++p) :: List.map (fun p=>buildM r l n (subD t p) (pos++p)) ps) = (buildM r l n (subD t p) (pos++p)).1:=rfl
      rw [ef,g3]
      omega
   obtain ⟨k1,k2⟩:=key _ fun _ h=>h
   omega
end Go.Dw
end
section
namespace Go.Dw
theorem shut_bld (r:List ARule) (l:List AStep) (bad:Bool):Shut 1 (bldH r l bad):=⟨rfl,rfl⟩
section
variable {N:Nat→C} {B:Nat} {s:List K} {t:T} {Q:X→T→List Ob→Prop}
theorem callG_bld {d:Option Nat} {L:List S} {f:Nat} {vs vs':List V} {r:List ARule} {l:List AStep} {bad bad':Bool} {x:V} {J:List Ob} (hvs:rens (clip 1) vs = vs') (hx:∀ σ,ren σ x = x)
  (hs:Spec prog f vs' (bldH r l bad) fun x' H'=>x' = x∧H' = bldH r l bad') (k:Run prog N B (.r L :: s) (setO d x t) (bldH r l bad'++J) Q):CallG prog N B d L s t Q (.func f) vs (bldH r l bad++J):=by
 refine callG_keep (shut_bld r l bad) hvs (specF_func ▸ hs) ?_ ?_
 ·rintro x' H' ⟨_,rfl⟩;exact shut_bld r l bad'
 ·rintro x' H' ⟨rfl,rfl⟩
  rw [hx];exact k
end
theorem ren_encAt (o:Option AStep) (σ:Nat→Option Nat):ren σ (encAt o) = encAt o:=by cases o <;> rfl
set_option maxHeartbeats 4000000 in
theorem builder_build_s (r:List ARule) (l:List AStep) (hr:rbs r < 2^28) (hc:checkSystem r = 0) (hl:l.length < 2^40) (hp:∀ s∈l,s.pos.length < 2^40):∀ (n:Nat) (t:Term) (pos:List Int) (bad:Bool),size t≤n→size t < 2^20→pos.length+size t < 2^30→MatS r l t pos →
  Spec prog n_multi_builder_build [.ptr 0 0,encT t,encP pos] (bldH r l bad) fun x H'=>x = encM (buildM r l n t pos).1∧H' = bldH r l (bad || (buildM r l n t pos).2):=by
 intro n
 induction n with
 | zero=>intro t pos bad hn;have:=size_pos t;omega
 | succ n ihn =>
 intro t pos bad hn hz hpl hm
 have hst:=size_args t
 have hll:=length_le_sizes t.args
 have hA:=builder_at_s r l bad pos (by omega) (fun s hs=>by have:=hp s hs;omega)
 refine spec_of_run mixed bldr.ok rfl ?_
 generalize hres:buildM r l (n+1) t pos = res
 unfold bldH
 push_cast
 refine callG_bld (r:=r) (l:=l) (bad:=bad) (bad':=bad) (J:=[_,_]) (x:=encAt (atM l pos)) (vs':=[.ptr 0 0,encP pos]) (by rfl) (ren_encAt _) hA ?_
 simp only [buildM] at hres
 cases ha:atM l pos with
 | none =>
  rw [ha] at hres
  dsimp only at hres
  unfold bldH
  push_cast [encAt,List.cons_append,List.nil_append]
  have h9:=loop_up (n:=t.args.length) (R:=fun k=>bldr.L14 (.ptr 1 0) (.ro [encP pos] 0) (.ptr 2 0) (.ptr 4 0) (encTs t.args) (.int .i64 t.args.length) (.int .i64 k) 1 [.cells t_multi_builder [encRs r,encSts l,.bool (bad || (List.range k).any fun i=>(buildM r l n (t.args.getD i default) (pos++[(i:Int)])).2)],.cells t_p_multi_builder [.ptr 0 0],.cells t_Multi [.int .i64 0,.str [],.bool false,.sl 4 []],.dead,.cells t_Multi [.int .i64 0,.str t.name,.bool t.var,ownL cM 5 4 ((List.range k).map fun i=>(buildM r l n (t.args.getD i default) (pos++[(i:Int)])).1)],.arr t_Multi 4 k] (Ends 1 bldr.rs fun x H'=>x = encM res.1∧H' = [.cells t_multi_builder [encRs r,encSts l,.bool (bad || res.2)]])) ?_ ?_ 0 (by omega)
  ·simp only [List.range_zero,List.any_nil,Bool.or_false,List.map_nil] at h9
   exact h9
  ·intro k hk ih
   have hmem:=getD_mem hk
   have hsz:=size_mem hmem
   have hsub:subT t [(k:Int)] = some (t.args.getD k default):=by
    simp only [subT];rw [if_pos (by omega),Int.toNat_natCast]
   have hmk:=hm.sub hsub
   have hlen:((List.range k).map fun i=>(buildM r l n (t.args.getD i default) (pos++[(i:Int)])).1).length = k:=by simp
   rw [List.range_succ,List.any_append,List.map_append,← Bool.or_assoc] at ih
   simp only [List.any_cons,List.any_nil,Bool.or_false,List.map_cons,List.map_nil] at ih
   generalize ((List.range k).map fun i=>(buildM r l n (t.args.getD i default) (pos++[(i:Int)])).1) = ms at ih hlen ⊢
   generalize (bad || (List.range k).any fun i=>(buildM r l n (t.args.getD i default) (pos++[(i:Int)])).2) = bk at ih ⊢
   have hI:=ihn (t.args.getD k default) (pos++[(k:Int)]) bk (by omega) (by omega) (by rw [List.length_append,List.length_singleton];omega) hmk
   refine bldr.G14 ?_
   push_cast [ilt hk]
   generalize hbb:buildM r l n (t.args.getD k default) (pos++[(k:Int)]) = bb at ih hI
   repeat' (refine And.intro ?_ ?_)
   all_goals
    refine callG_new (slices_Clone_int_s pos (by omega)) ?_
    push_cast
    refine ⟨by unfold maxEls;omega,?_⟩
   repeat' (refine And.intro ?_ ?_)
   all_goals
    refine callG_bld (r:=r) (l:=l) (bad:=bk) (bad':=bk || bb.2) (J:=[_,_,_,_,_,_,_]) (x:=encM bb.1) (vs':=[.ptr 0 0,encT (t.args.getD k default),encP (pos++[(k:Int)])]) ?_ (fun _=>ren_encM _) hI ?_
   all_goals first
    | (push_cast;rw [sl_snocI];done)
    | skip
   all_goals
    unfold bldH
    push_cast [List.cons_append,List.nil_append,hlen,w64 (show k < 2^62 by omega)]
    refine ⟨by unfold maxEls;omega,?_⟩
    exact ih
  ·refine bldr.G14 ?_
   push_cast [inlt (Nat.le_refl _)]
   rw [← hres]
   dsimp only
   generalize ((List.range t.args.length).map fun i=>(buildM r l n (t.args.getD i default) (pos++[(i:Int)])).1) = ms
   generalize ((List.range t.args.length).any fun i=>(buildM r l n (t.args.getD i default) (pos++[(i:Int)])).2) = bk
   exact ends_keep (x:=.agg [.int .i64 0,.str t.name,.bool t.var,ownL cM 5 4 ms]) (H:=[.cells t_multi_builder [encRs r,encSts l,.bool (bad || bk)]]) (J:=[_,_,_,_,_]) ⟨rfl,rfl⟩ (by push_cast [bldr.rs]) ⟨by push_cast [cM_mk],rfl⟩
 | some s =>
  rw [ha] at hres
  dsimp only at hres
  unfold bldH
  push_cast [encAt,List.cons_append,List.nil_append]
  obtain ⟨e1,e2,e3,e4,e5,e6,e7,e8⟩:=hm.vars hc ha
  have hsx:=rbs_mem e2
  have hszl:size (leftOf r s) < 2^28:=by
   unfold leftOf
   have:=size_le_tb (r.getD s.rule.toNat default).left
   omega
  refine ⟨⟨e3,e4⟩,?_⟩
  rw [← e1]
  refine .of (term_Walk_s _) ?_
  push_cast
  have hss:=visit_sub (leftOf r s) []
  have hov:∀ k,(bad || ((visit (leftOf r s) []).take k).any (overB l pos)) = (bad || ((visit (leftOf r s) []).take k).any (overB l pos)):=fun _=>rfl
  refine Run.rf n_term_Walk_1 [] [.ro (cT (leftOf r s)) 0] ((visit (leftOf r s) []).map encIt) (fun j H1=>H1 = [.cells t_multi_builder [encRs r,encSts l,.bool (bad || ((visit (leftOf r s) []).take j).any (overB l pos))],.cells t_p_multi_builder [.ptr 0 0],.cells t_Multi [.int .i64 0,.str [],.bool false,.sl 4 []],.dead,.dead]) (fun _ _=>False) rfl (term_Walk_iter (leftOf r s) (by omega)) ?_ (by rw [List.take_zero,List.any_nil,Bool.or_false]) ?_ ?_ (fun _ _ h=>h.elim) ?_ ?_ (fun _ _ h=>h.elim)
  ·intro it hit
   obtain ⟨x,_,rfl⟩:=List.mem_map.1 hit
   rfl
  ·push_cast
  ·rintro j H1 rfl
   refine ⟨rfl,?_⟩
   push_cast
  ·rintro lo rr j it H1 hit rfl
   rw [List.getElem?_map] at hit
   cases hx:(visit (leftOf r s) [])[j]? with
   | none=>rw [hx] at hit;cases hit
   | some x =>
   rw [hx] at hit
   have hit:it = encIt x:=by simpa using hit.symm
   subst hit
   have hj:j < (visit (leftOf r s) []).length:=(List.getElem?_eq_some_iff.1 hx).1
   have hxj:(visit (leftOf r s) [])[j] = x:=(List.getElem?_eq_some_iff.1 hx).2
   have htk:(visit (leftOf r s) []).take (j+1) = (visit (leftOf r s) []).take j++[x]:=by rw [List.take_succ_eq_append_getElem hj,hxj]
   have hxl:=(hss x (List.mem_of_getElem? hx)).2
   have hsn:(bad || ((visit (leftOf r s) []).take (j+1)).any (overB l pos)) = ((bad || ((visit (leftOf r s) []).take j).any (overB l pos)) || overB l pos x):=by
    rw [htk,List.any_append,← Bool.or_assoc];simp
   generalize (bad || ((visit (leftOf r s) []).take j).any (overB l pos)) = bk at hsn ⊢
   push_cast [setPs,encIt]
   refine run_m.2 ?_
   push_cast
   refine .of (concat2 pos x.1 (by simp at hxl;omega)) ?_
   push_cast
   have hA2:=builder_at_s r l bk (pos++x.1) (by omega) (fun s hs=>by have:=hp s hs;omega)
   have hx1:overB l pos x = ((atM l (pos++x.1)).isSome && (!x.2.var && decide (0 < x.1.length))):=rfl
   refine ⟨?_,?_⟩
   ·refine callG_bld (r:=r) (l:=l) (bad:=bk) (bad':=bk) (J:=[_,_,_,_,_,_]) (x:=encAt (atM l (pos++x.1))) (vs':=[.ptr 0 0,encP (pos++x.1)]) (by rfl) (ren_encAt _) hA2 ?_
    unfold bldH
    cases hat:atM l (pos++x.1) with
    | none =>
     rw [hat] at hx1
     simp only [Option.isSome_none,Bool.false_and] at hx1
     rw [hx1,Bool.or_false] at hsn
     push_cast [encAt,List.cons_append,List.nil_append]
     refine ⟨rfl,?_⟩
     push_cast [cut,hsn]
    | some s2 =>
     rw [hat] at hx1
     simp only [Option.isSome_some,Bool.true_and] at hx1
     cases hv:x.2.var with
     | true =>
      rw [hv] at hx1
      simp only [Bool.not_true,Bool.false_and] at hx1
      rw [hx1,Bool.or_false] at hsn
      push_cast [encAt,List.cons_append,List.nil_append,hv]
      refine ⟨rfl,?_⟩
      push_cast [cut,hsn]
     | false =>
      rw [hv] at hx1
      simp only [Bool.not_false,Bool.true_and] at hx1
      by_cases hx0:0 < x.1.length
      ·have hxi:((0:Int) < (x.1.length:Int)) = True:=eq_true (by omega)
       rw [hx1,decide_eq_true hx0,Bool.or_true] at hsn
       push_cast [encAt,List.cons_append,List.nil_append,hv,hxi]
       refine ⟨rfl,?_⟩
       push_cast [cut,hsn]
      ·have hxi:((0:Int) < (x.1.length:Int)) = False:=eq_false (by omega)
       rw [hx1,decide_eq_false hx0,Bool.or_false] at hsn
       push_cast [encAt,List.cons_append,List.nil_append,hv,hxi]
       refine ⟨rfl,?_⟩
       push_cast [cut,hsn]
   ·refine callG_bld (r:=r) (l:=l) (bad:=bk) (bad':=bk) (J:=[_,_,_,_,_,_,_]) (x:=encAt (atM l (pos++x.1))) (vs':=[.ptr 0 0,encP (pos++x.1)]) (by rfl) (ren_encAt _) hA2 ?_
    unfold bldH
    cases hat:atM l (pos++x.1) with
    | none =>
     rw [hat] at hx1
     simp only [Option.isSome_none,Bool.false_and] at hx1
     rw [hx1,Bool.or_false] at hsn
     push_cast [encAt,List.cons_append,List.nil_append]
     refine ⟨rfl,?_⟩
     push_cast [cut,hsn]
    | some s2 =>
     rw [hat] at hx1
     simp only [Option.isSome_some,Bool.true_and] at hx1
     cases hv:x.2.var with
     | true =>
      rw [hv] at hx1
      simp only [Bool.not_true,Bool.false_and] at hx1
      rw [hx1,Bool.or_false] at hsn
      push_cast [encAt,List.cons_append,List.nil_append,hv]
      refine ⟨rfl,?_⟩
      push_cast [cut,hsn]
     | false =>
      rw [hv] at hx1
      simp only [Bool.not_false,Bool.true_and] at hx1
      by_cases hx0:0 < x.1.length
      ·have hxi:((0:Int) < (x.1.length:Int)) = True:=eq_true (by omega)
       rw [hx1,decide_eq_true hx0,Bool.or_true] at hsn
       push_cast [encAt,List.cons_append,List.nil_append,hv,hxi]
       refine ⟨rfl,?_⟩
       push_cast [cut,hsn]
      ·have hxi:((0:Int) < (x.1.length:Int)) = False:=eq_false (by omega)
       rw [hx1,decide_eq_false hx0,Bool.or_false] at hsn
       push_cast [encAt,List.cons_append,List.nil_append,hv,hxi]
       refine ⟨rfl,?_⟩
       push_cast [cut,hsn]
  ·rintro H1 rfl
   have htl:(visit (leftOf r s) []).take ((visit (leftOf r s) []).map encIt).length = visit (leftOf r s) []:=by rw [List.length_map,List.take_length]
   rw [htl]
   have hw:IntKind.i64.wrap (s.rule+1) = s.rule+1:=wrap64 (by have:=length_le_rbs r;omega) (by have:=length_le_rbs r;omega)
   push_cast [hw]
   refine .of (term_VarsOf_s [leftOf r s] (by simp [sizes];omega)) ?_
   push_cast
   have hvl:=varsOf_len [leftOf r s]
   have hsl:sizes [leftOf r s] = size (leftOf r s):=by simp [sizes]
   generalize hb0:(bad || (visit (leftOf r s) []).any (overB l pos)) = b0
   generalize hL:leftOf r s = L at *
   have hbs:∀ (v:Str) (p:List Int),p∈occM L v→subT t p = some (subD t p)∧size (subD t p)≤n∧size (subD t p) < 2^20∧(pos++p).length+size (subD t p) < 2^30∧MatS r l (subD t p) (pos++p)∧p.length < 2^30:=fun v p hpo=>by
    obtain ⟨g1,g2,g3⟩:=e8 v p hpo
    have h1:=subT_lt g1 g2
    have h2:=subT_fit p t _ g2
    rw [g3]
    exact ⟨g2,by omega,by omega,by rw [List.length_append];omega,hm.sub g2,by omega⟩
   have h9:=loop_up (n:=(varsOf [L]).length) (R:=fun k=>bldr.L7 (.ptr 1 0) (.ro (cT t) 0) (.ro [encP pos] 0) (.ptr 2 0) (.ro (cT L) 0) (.ptr 6 0) (encSs (varsOf [L])) (.int .i64 (varsOf [L]).length) (.int .i64 k) 1 [.cells t_multi_builder [encRs r,encSts l,.bool (b0 || ((varsOf [L]).take k).any fun v=>badB ((occM L v).map fun p=>buildM r l n (subD t p) (pos++p)))],.cells t_p_multi_builder [.ptr 0 0],.cells t_Multi [.int .i64 0,.str [],.bool false,.sl 4 []],.dead,.dead,.dead,.cells t_Multi [.int .i64 (s.rule+1),.str [],.bool false,ownL cM 7 4 (((varsOf [L]).take k).map fun v=>fstB ((occM L v).map fun p=>buildM r l n (subD t p) (pos++p)))],.arr t_Multi 4 k] (Ends 1 bldr.rs fun x H'=>x = encM res.1∧H' = [.cells t_multi_builder [encRs r,encSts l,.bool (bad || res.2)]])) ?_ ?_ 0 (by omega)
   ·simp only [List.take_zero,List.any_nil,Bool.or_false,List.map_nil] at h9
    exact h9
   ·intro k hk ih
    have hlen:(((varsOf [L]).take k).map fun v=>fstB ((occM L v).map fun p=>buildM r l n (subD t p) (pos++p))).length = k:=by simp;omega
    rw [take_succ_getD hk,List.any_append,List.map_append,← Bool.or_assoc] at ih
    simp only [List.any_cons,List.any_nil,Bool.or_false,List.map_cons,List.map_nil] at ih
    generalize (((varsOf [L]).take k).map fun v=>fstB ((occM L v).map fun p=>buildM r l n (subD t p) (pos++p))) = ms at ih hlen ⊢
    generalize (b0 || ((varsOf [L]).take k).any fun v=>badB ((occM L v).map fun p=>buildM r l n (subD t p) (pos++p))) = bk at ih ⊢
    refine bldr.G7 ?_
    generalize hv:(varsOf [L]).getD k default = v at ih
    push_cast [ilt hk,hv]
    refine .of (multi_occurrences_s L v (by omega)) ?_
    push_cast
    have hbs:=hbs v
    have hpl2:(occM L v).length≤2^30:=by
     have h1:=occW_len v (visit L [])
     rw [visit_len] at h1
     unfold occM;omega
    generalize occM L v = ps at hbs ih hpl2
    have hbd:∀ j,j < ps.length→(ps.map fun p=>buildM r l n (subD t p) (pos++p)).getD j (zM,false) = buildM r l n (subD t (ps.getD j default)) (pos++ps.getD j default):=fun j hj=>by simp [List.getD_eq_getElem?_getD,hj]
    have hB:badB (ps.map fun p=>buildM r l n (subD t p) (pos++p)) = ps.any fun p=>(buildM r l n (subD t p) (pos++p)).2 || !decide (fstB (ps.map fun p=>buildM r l n (subD t p) (pos++p)) = (buildM r l n (subD t p) (pos++p)).1):=by
     unfold badB;rw [List.any_map];rfl
    rw [hB] at ih
    generalize hF:fstB (ps.map fun p=>buildM r l n (subD t p) (pos++p)) = F at ih
    have hF0:ps = []→F = zM:=by rintro rfl;exact hF.symm
    have hF1:0 < ps.length→F = (buildM r l n (subD t (ps.getD 0 default)) (pos++ps.getD 0 default)).1:=fun h=>by rw [← hbd 0 h];exact hF.symm
    have hFz:0 < ps.length→msize F < 2^20:=fun h=>by
     obtain ⟨b1,b2,b3,b4,b5,b6⟩:=hbs _ (getD_mem h)
     have hSz:=(buildM_size hc n _ _ b2 b5).1
     rw [← hF1 h] at hSz
     omega
    have h8:=loop_up (n:=ps.length) (R:=fun j=>bldr.L5 (.ptr 1 0) (.ro (cT t) 0) (.ro [encP pos] 0) (.ptr 2 0) (.ro (cT L) 0) (.ptr 6 0) (.ptr 8 0) (encSs (varsOf [L])) (.int .i64 (varsOf [L]).length) (.int .i64 k) (encPs ps) (.int .i64 ps.length) (.int .i64 j) 1 [.cells t_multi_builder [encRs r,encSts l,.bool (bk || (ps.take j).any fun p=>(buildM r l n (subD t p) (pos++p)).2 || !decide (F = (buildM r l n (subD t p) (pos++p)).1))],.cells t_p_multi_builder [.ptr 0 0],.cells t_Multi [.int .i64 0,.str [],.bool false,.sl 4 []],.dead,.dead,.dead,.cells t_Multi [.int .i64 (s.rule+1),.str [],.bool false,ownL cM 7 4 ms],.arr t_Multi 4 k,.cells t_Multi (cM (if j = 0 then zM else F))] (Ends 1 bldr.rs fun x H'=>x = encM res.1∧H' = [.cells t_multi_builder [encRs r,encSts l,.bool (bad || res.2)]])) ?_ ?_ 0 (by omega)
    ·simp only [List.take_zero,List.any_nil,Bool.or_false,if_true] at h8
     exact h8
    ·intro j hj ihj
     rw [take_succ_getD hj,List.any_append,← Bool.or_assoc] at ihj
     simp only [List.any_cons,List.any_nil,Bool.or_false] at ihj
     rw [if_neg (by omega)] at ihj
     have hFz:=hFz (by omega)
     obtain ⟨b1,b2,b3,b4,b5,b6⟩:=hbs _ (getD_mem hj)
     have hF1:=fun h:j = 0=>(by subst h;exact hF1 hj:F = (buildM r l n (subD t (ps.getD j default)) (pos++ps.getD j default)).1)
     generalize (bk || (ps.take j).any fun p=>(buildM r l n (subD t p) (pos++p)).2 || !decide (F = (buildM r l n (subD t p) (pos++p)).1)) = bj at ihj ⊢
     refine bldr.G5 ?_
     generalize hq:ps.getD j default = q at *
     have hI:=ihn (subD t q) (pos++q) bj b2 b3 b4 b5
     have hSz:=(buildM_size hc n (subD t q) (pos++q) b2 b5).1
     generalize buildM r l n (subD t q) (pos++q) = bb at ihj hI hSz hF1
     push_cast [ilt hj,hq]
     refine .of (term_Sub_s t q (by omega)) ?_
     rw [b1]
     push_cast [encOT]
     refine .of (concat2 pos q (by rw [List.length_append] at b4;omega)) ?_
     push_cast
     refine ⟨?_,?_⟩
     ·refine callG_bld (r:=r) (l:=l) (bad:=bj) (bad':=bj || bb.2) (J:=[_,_,_,_,_,_,_,_,_]) (x:=encM bb.1) (vs':=[.ptr 0 0,encT (subD t q),encP (pos++q)]) (by rfl) (fun _=>ren_encM _) hI ?_
      unfold bldH
      by_cases hj0:j = 0
      ·have hFe:=hF1 hj0
       have hge:((0:Int) < (j:Int)) = False:=eq_false (by omega)
       have hje:((j:Int) = 0) = True:=eq_true (by omega)
       rw [hFe,decide_eq_true (rfl:bb.1 = bb.1),Bool.not_true,Bool.or_false] at ihj
       push_cast [List.cons_append,List.nil_append,hge,hje,w64 (show j < 2^62 by omega)]
       exact ihj
      ·have hge:((0:Int) < (j:Int)) = True:=eq_true (by omega)
       have hje:((j:Int) = 0) = False:=eq_false (by omega)
       rw [if_neg hj0]
       push_cast [List.cons_append,List.nil_append,hge]
       refine .of (multi_Equal_s F bb.1 (by omega)) ?_
       by_cases hFe:F = bb.1
       ·rw [decide_eq_true hFe,Bool.not_true,Bool.or_false] at ihj
        push_cast [eq_true hFe,hje,w64 (show j < 2^62 by omega)]
        exact ihj
       ·rw [decide_eq_false hFe,Bool.not_false,Bool.or_true,Bool.or_true] at ihj
        push_cast [eq_false hFe,hje,w64 (show j < 2^62 by omega)]
        exact ihj
     ·refine callG_bld (r:=r) (l:=l) (bad:=bj) (bad':=bj || bb.2) (J:=[_,_,_,_,_,_,_,_,_,_]) (x:=encM bb.1) (vs':=[.ptr 0 0,encT (subD t q),encP (pos++q)]) (by rfl) (fun _=>ren_encM _) hI ?_
      unfold bldH
      by_cases hj0:j = 0
      ·have hFe:=hF1 hj0
       have hge:((0:Int) < (j:Int)) = False:=eq_false (by omega)
       have hje:((j:Int) = 0) = True:=eq_true (by omega)
       rw [hFe,decide_eq_true (rfl:bb.1 = bb.1),Bool.not_true,Bool.or_false] at ihj
       push_cast [List.cons_append,List.nil_append,hge,hje,w64 (show j < 2^62 by omega)]
       exact ihj
      ·have hge:((0:Int) < (j:Int)) = True:=eq_true (by omega)
       have hje:((j:Int) = 0) = False:=eq_false (by omega)
       rw [if_neg hj0]
       push_cast [List.cons_append,List.nil_append,hge]
       refine .of (multi_Equal_s F bb.1 (by omega)) ?_
       by_cases hFe:F = bb.1
       ·rw [decide_eq_true hFe,Bool.not_true,Bool.or_false] at ihj
        push_cast [eq_true hFe,hje,w64 (show j < 2^62 by omega)]
        exact ihj
       ·rw [decide_eq_false hFe,Bool.not_false,Bool.or_true,Bool.or_true] at ihj
        push_cast [eq_false hFe,hje,w64 (show j < 2^62 by omega)]
        exact ihj
    ·refine bldr.G5 ?_
     push_cast [inlt (Nat.le_refl _),List.take_length,hlen,w64 (show k < 2^62 by omega)]
     have hFe:(if ps.length = 0 then zM else F) = F:=by
      split
      ·rename_i h;exact (hF0 (List.length_eq_zero_iff.1 h)).symm
      ·rfl
     rw [hFe]
     refine ⟨by unfold maxEls;omega,?_⟩
     exact ih
   ·refine bldr.G7 ?_
    push_cast [inlt (Nat.le_refl _),List.take_length]
    rw [← hres]
    dsimp only
    rw [← Bool.or_assoc,hb0]
    generalize ((varsOf [L]).map fun v=>fstB ((occM L v).map fun p=>buildM r l n (subD t p) (pos++p))) = ms
    generalize ((varsOf [L]).any fun v=>badB ((occM L v).map fun p=>buildM r l n (subD t p) (pos++p))) = bk
    exact ends_keep (x:=.agg [.int .i64 (s.rule+1),.str [],.bool false,ownL cM 7 4 ms]) (H:=[.cells t_multi_builder [encRs r,encSts l,.bool (b0 || bk)]]) (J:=[_,_,_,_,_,_,_]) ⟨rfl,rfl⟩ (by push_cast [bldr.rs]) ⟨by push_cast [cM_mk],rfl⟩
end Go.Dw
end
section
namespace Go.Dw
theorem multi_Bare_1_s (x s:AStep) (hx:x.pos.length < 2^62):PF n_multi_Bare_1 [encSt x,.ro (cSt s) 0] (.bool (decide (x.pos = s.pos))):=by
 refine pf_of multi_Bare_1.ok rfl ?_
 push_cast
 refine .of (slices_Equal_int_s x.pos s.pos hx) ?_
 push_cast
 exact pf_ret (by push_cast [multi_Bare_1.rs])
def dupB (l:List AStep):Bool:=(List.range l.length).any fun i=>(l.take i).any fun x=>decide (x.pos = (l.getD i default).pos)
def bareM (r:List ARule) (t:Term) (l:List AStep):Option AMulti × Int :=
 if (dupB l || (buildM r l (size t) t []).2) = true then (none,9) else (some (buildM r l (size t) t []).1,0)
theorem multi_Bare_s (r:List ARule) (t:Term) (l:List AStep) (hr:rbs r < 2^28) (hc:checkSystem r = 0) (hl:l.length≤4096) (hp:∀ s∈l,s.pos.length < 2^40) (hf:fits t = true) (hm:MatS r l t []) :
  PF n_multi_Bare [encRs r,encT t,encSts l] (encME (bareM r t l).1 (bareM r t l).2):=by
 have hz:=fits_size hf
 have hB:=builder_build_s r l hr hc (by omega) hp (size t) t [] (dupB l) (Nat.le_refl _) (by omega) (by simp;omega) hm
 obtain ⟨s1,s2⟩:=buildM_size hc (size t) t [] (Nat.le_refl _) hm
 have hfm:fitM (buildM r l (size t) t []).1 = true:=by
  unfold fits at hf
  unfold fitM
  rw [Bool.and_eq_true,decide_eq_true_eq,decide_eq_true_eq] at hf ⊢
  omega
 have hFt:=multi_Fit_s (buildM r l (size t) t []).1 (by omega)
 unfold fitE at hFt
 rw [hfm,if_pos rfl] at hFt
 unfold bareM
 generalize buildM r l (size t) t [] = bb at hB hFt ⊢
 generalize hres:(if (dupB l || bb.2) = true then (none,9) else (some bb.1,0):Option AMulti × Int) = res
 refine pf_of multi_Bare.ok rfl ?_
 push_cast
 have h9:=loop_up (n:=l.length) (R:=fun k=>multi_Bare.L4 (encSts l) (.ro (cT t) 0) (.ptr 0 0) (.ptr 1 0) (encSts l) (.int .i64 l.length) (.int .i64 k) 0 [.cells t_Multi [.int .i64 0,.str [],.bool false,.sl 4 []],.cells t_multi_builder [encRs r,encSts l,.bool ((List.range k).any fun i=>(l.take i).any fun x=>decide (x.pos = (l.getD i default).pos))]] (Ends 0 multi_Bare.rs fun x' H'=>x' = encME res.1 res.2∧H' = [])) ?_ ?_ 0 (by omega)
 ·simp only [List.range_zero,List.any_nil] at h9
  exact h9
 ·intro k hk ih
  rw [List.range_succ,List.any_append] at ih
  simp only [List.any_cons,List.any_nil,Bool.or_false] at ih
  generalize ((List.range k).any fun i=>(l.take i).any fun x=>decide (x.pos = (l.getD i default).pos)) = bk at ih ⊢
  have hC:=slices_ContainsFunc_s_Step_Step_s (p:=fun x=>decide (x.pos = (l.getD k default).pos)) (g:=n_multi_Bare_1) (caps:=[.ro (cSt (l.getD k default)) 0]) (fun _=>rfl) (l.take k) (by rw [List.length_take];omega) (fun a ha=>multi_Bare_1_s a _ (by have:=hp a (List.mem_of_mem_take ha);omega))
  refine multi_Bare.G4 ?_
  generalize hs:l.getD k default = s at ih hC
  push_cast [ilt hk,hs,Nat.sub_zero,List.drop_zero]
  refine ⟨⟨by omega,by omega⟩,?_⟩
  refine .of hC ?_
  cases hb:(l.take k).any fun x=>decide (x.pos = s.pos) with
  | true =>
   rw [hb,Bool.or_true] at ih
   push_cast [w64 (show k < 2^62 by omega)]
   exact ih
  | false =>
   rw [hb,Bool.or_false] at ih
   push_cast [w64 (show k < 2^62 by omega)]
   exact ih
 ·refine multi_Bare.G4 ?_
  push_cast [inlt (Nat.le_refl _)]
  change CallG _ _ _ _ _ _ _ _ _ _ [_,.cells t_multi_builder [encRs r,encSts l,.bool (dupB l)]]
  refine CallG.some [1] (by simp) (by simp) (R:=fun x' H'=>x' = encM bb.1∧H' = bldH r l (dupB l || bb.2)) ?_ ?_
  ·exact specF_func ▸ hB
  ·rintro x' H' ⟨rfl,rfl⟩ _
   have ht:∀ a b c:Ob,takeB [1] [a,b] [c] = [a,renOb (back [1] 2) c]:=fun _ _ _=>rfl
   unfold bldH
   rw [ht,ren_encM]
   cases hbb:(dupB l || bb.2) with
   | true =>
    rw [hbb,if_pos rfl] at hres
    push_cast
    rw [← hres]
    exact pf_ret (by push_cast [multi_Bare.rs];rfl)
   | false =>
    rw [hbb,if_neg (by simp)] at hres
    unfold encME at hFt
    push_cast
    refine .of hFt ?_
    push_cast
    rw [← hres]
    exact pf_ret (by push_cast [multi_Bare.rs];rfl)
def stepErr (r:List ARule) (t:Term):List AStep→Int
 | []=>0
 | s :: l=>if (doE r t s).2 ≠ 0 then (doE r t s).2 else stepErr r t l
def ofM (r:List ARule) (t:Term) (l:List AStep):Option AMulti × Int :=
 if bothE r t ≠ 0 then (none,bothE r t) else if 4096 < l.length then (none,3) else if stepErr r t l ≠ 0 then (none,stepErr r t l) else bareM r t l
theorem doE_mat {r:List ARule} {t:Term} {s:AStep} (h:(doE r t s).2 = 0):∃ x,subT t s.pos = some x∧0≤s.rule∧s.rule < r.length∧(matchT [] (leftOf r s) x).2 = true:=by
 have hf:(findE r t s).2 = 0:=by
  unfold doE at h
  split at h
  ·exact h
  ·rename_i h1;simpa using h1
 unfold findE at hf
 split at hf
 ·cases hf
 ·rename_i hc
  cases hx:subT t s.pos with
  | none=>rw [hx] at hf;cases hf
  | some x =>
   rw [hx] at hf
   dsimp only at hf
   split at hf
   ·rename_i hm
    exact ⟨x,rfl,by omega,by omega,hm⟩
   ·cases hf
theorem stepErr_mat {r:List ARule} {t:Term}:∀ {l:List AStep},stepErr r t l = 0→∀ s∈l,(doE r t s).2 = 0
 | [],_,s,hs=>by cases hs
 | x :: l,h,s,hs=>by
  simp only [stepErr] at h
  split at h
  ·rename_i h1;exact absurd h h1
  ·rename_i h1
   rcases List.mem_cons.1 hs with rfl | hs
   ·simpa using h1
   ·exact stepErr_mat h s hs
theorem stepErr_matS {r:List ARule} {t:Term} {l:List AStep} (h:stepErr r t l = 0):MatS r l t []:=fun s hs q hq=>by
 rw [List.nil_append] at hq
 subst hq
 exact doE_mat (stepErr_mat h s hs)
theorem multi_Of_s (r:List ARule) (t:Term) (l:List AStep) (hr:rbs r < 2^28) (ht:tb t < 2^28) (hl:l.length < 2^40) (hp:∀ s∈l,s.pos.length < 2^40):PF n_multi_Of [encRs r,encT t,encSts l] (encME (ofM r t l).1 (ofM r t l).2):=by
 have hts:=size_le_tb t
 refine pf_of multi_Of.ok rfl ?_
 generalize hres:ofM r t l = res
 unfold ofM at hres
 push_cast
 refine .of (rewrite_Both_s r t (by omega) (by omega)) ?_
 by_cases h1:bothE r t = 0
 ·rw [if_neg (by simpa using h1)] at hres
  have hc:checkSystem r = 0:=by
   unfold bothE at h1
   split at h1
   ·rename_i h2;exact absurd h1 h2
   ·rename_i h2;simpa using h2
  have hck:check t = 0:=by
   unfold bothE at h1
   rw [if_neg (by simpa using hc)] at h1
   exact h1
  have hf:=(check_iff.1 hck).2
  have hfz:=fits_size hf
  push_cast [h1]
  by_cases h2:4096 < l.length
  ·have hi:((4096:Int) < (l.length:Int)) = True:=eq_true (by omega)
   rw [if_pos h2] at hres
   push_cast [hi]
   rw [← hres]
   exact pf_ret (by push_cast [multi_Of.rs];rfl)
  ·have hi:((4096:Int) < (l.length:Int)) = False:=eq_false (by omega)
   rw [if_neg h2] at hres
   push_cast [hi]
   refine loop_up (n:=l.length) (R:=fun k=>stepErr r t (l.drop k) = stepErr r t l→multi_Of.L3 (encRs r) (encSts l) (.ro (cT t) 0) (.ptr 0 0) (encSts l) (.int .i64 l.length) (.int .i64 k) 0 [.cells t_Multi [.int .i64 0,.str [],.bool false,.sl 4 []]] (Ends 0 multi_Of.rs fun x' H'=>x' = encME res.1 res.2∧H' = [])) ?_ ?_ 0 (by omega) rfl
   ·intro k hk ih hq
    rw [drop_getD hk] at hq
    have hmem:=getD_mem hk
    generalize hs:l.getD k default = s at hq hmem
    simp only [stepErr] at hq
    have hDo:=rewrite_Do_s r t s hr ht (hp s hmem) (fun x hx=>by have:=setT_size s.pos t x;have:=fits_size hx;omega)
    refine multi_Of.G3 ?_
    push_cast [ilt hk,hs]
    refine .of hDo ?_
    cases hd:doE r t s with
    | mk o e =>
    rw [hd] at hq
    dsimp only at hq
    by_cases he:e = 0
    ·rw [if_neg (by simpa using he)] at hq
     subst he
     cases o <;> (push_cast [encTE,w64 (show k < 2^62 by omega)];exact ih hq)
    ·rw [if_pos he] at hq
     rw [← hq,if_pos he] at hres
     cases o <;> (push_cast [encTE,eq_false he];rw [← hres];exact pf_ret (by push_cast [multi_Of.rs];rfl))
   ·intro hq
    rw [List.drop_eq_nil_of_le (Nat.le_refl _)] at hq
    have hq:stepErr r t l = 0:=hq.symm
    rw [hq,if_neg (by simp)] at hres
    have hBa:=multi_Bare_s r t l hr hc (by omega) hp hf (stepErr_matS hq)
    rw [hres] at hBa
    refine multi_Of.G3 ?_
    push_cast [inlt (Nat.le_refl _)]
    refine .of hBa ?_
    unfold encME
    obtain ⟨o,e⟩:=res
    cases o <;> (push_cast;exact pf_ret (by push_cast [multi_Of.rs]))
 ·rw [if_pos h1] at hres
  push_cast [eq_false h1]
  rw [← hres]
  exact pf_ret (by push_cast [multi_Of.rs];rfl)
end Go.Dw
end
section
namespace Go.Dw
def preS (p:List Int) (s:AStep):AStep:=⟨s.rule,p++s.pos⟩
mutual
def walkM (r:List ARule):AMulti→List AStep
 | .mk k n v l=>(if 0 < k then [⟨k - 1,[]⟩] else [])++walkMs r (startsM r (.mk k n v l)) l 0
def walkMs (r:List ARule) (st:Int→List (List Int)):List AMulti→Nat→List AStep
 | [],_=>[]
 | a :: l,i=>(st (i:Int)).flatMap (fun p=>(walkM r a).map (preS p))++walkMs r st l (i+1)
end
theorem walkM_eq (r:List ARule) (m:AMulti):walkM r m = (if 0 < m.rule then [⟨m.rule - 1,[]⟩] else [])++walkMs r (startsM r m) m.args 0:=by cases m;simp only [walkM,AMulti.rule,AMulti.args];rfl
theorem walkMs_append (r:List ARule) (st:Int→List (List Int)) (a b:List AMulti) (i:Nat):walkMs r st (a++b) i = walkMs r st a i++walkMs r st b (i+a.length):=by
 induction a generalizing i with
 | nil=>simp [walkMs]
 | cons x xs ih=>simp only [List.cons_append,walkMs,ih,List.append_assoc,List.length_cons];congr 3;omega
theorem walkMs_take {r:List ARule} {st:Int→List (List Int)} {l:List AMulti} {k:Nat} (h:k < l.length):walkMs r st (l.take (k+1)) 0 = walkMs r st (l.take k) 0++(st (k:Int)).flatMap (fun p=>(walkM r (l.getD k default)).map (preS p)):=by
 rw [take_succ_getD h,walkMs_append,List.length_take,Nat.min_eq_left (by omega)]
 simp [walkMs]
def walkH (ss:List AStep):List Ob:=[.cells t_s_Step [.rw 1 2 ss.length],.row t_Step 2 (ss.map cSt)]
theorem shut_walk (ss:List AStep):Shut 2 (walkH ss):=by
 refine ⟨rfl,?_⟩
 unfold walkH
 push_cast [rens_cSts]
theorem Steps_1_s (s:AStep) (ss:List AStep) (h:ss.length < 2^40):Spec prog n_multi_Steps_1 [encSt s,.ptr 0 0] (walkH ss) fun x H'=>x = .bool (decide (ss.length+1≤4096))∧H' = walkH (ss++[s]):=by
 refine spec_of_run mixed multi_Steps_1.ok rfl ?_
 unfold walkH
 push_cast
 refine ⟨⟨by rw [List.length_map],by unfold maxEls;omega⟩,?_⟩
 refine ends_all (x:=.bool (decide ((ss.length:Int)+1≤4096))) (.inl rfl) (by push_cast [multi_Steps_1.rs]) ⟨?_,?_⟩
 ·congr 1
  by_cases h1:ss.length≤4095
  ·rw [decide_eq_true h1,decide_eq_true (by omega)]
  ·rw [decide_eq_false h1,decide_eq_false (by omega)]
 ·rw [List.map_append];rfl
theorem walkMs_le {r:List ARule} {st:Int→List (List Int)} {l:List AMulti} (k:Nat):(walkMs r st (l.take k) 0).length≤(walkMs r st l 0).length:=by
 conv=>rhs;rw [← List.take_append_drop k l]
 rw [walkMs_append,List.length_append];omega
theorem flat_take {α β:Type} [Inhabited α] {f:α→List β} {l:List α} {k:Nat} (h:k < l.length):(l.take (k+1)).flatMap f = (l.take k).flatMap f++f (l.getD k default):=by
 rw [take_succ_getD h,List.flatMap_append];simp
theorem flat_le {α β:Type} {f:α→List β} {l:List α} (k:Nat):((l.take k).flatMap f).length≤(l.flatMap f).length:=by
 conv=>rhs;rw [← List.take_append_drop k l]
 rw [List.flatMap_append,List.length_append];omega
theorem preS_preS (a b:List Int) (l:List AStep):(l.map (preS b)).map (preS a) = l.map (preS (a++b)):=by
 rw [List.map_map]
 exact List.map_congr_left fun s _=>by simp [preS]
theorem startsM_len {r:List ARule} {m:AMulti} (hm:OkM r m) (hr:rbs r < 2^28) (i:Int):(startsM r m i).length≤268435456:=by
 unfold startsM
 split
 ·rename_i h0
  obtain ⟨k1,k2,k3,k4,k5,k6⟩:=hm.rule (by omega)
  have h2:=rbs_mem k3
  have h3:=size_le_tb (ruleOf r m).left
  have h4:=occW_len ((varsOf [(ruleOf r m).left]).getD i.toNat default) (visit (ruleOf r m).left [])
  rw [visit_len] at h4
  unfold occM;omega
 ·simp
theorem multi_walk_s (r:List ARule) (hr:rbs r < 2^28) (m:AMulti) (hm:OkM r m) (hz:msize m≤4000):∀ (pos:List Int) (ss:List AStep),pos.length+268435456 * msize m < 2^40→ss.length+(walkM r m).length≤4096 →
  Spec prog n_multi_walk [encRs r,encM m,encP pos,.fn (.func n_multi_Steps_1) [] [.ptr 0 0]] (walkH ss) fun x H'=>x = .bool true∧H' = walkH (ss++(walkM r m).map (preS pos)):=by
 induction m using multi_ind with
 | h m ih =>
 intro pos ss hp hl
 have hst:=msize_args m
 have hll:=length_le_msizes m.args
 have hw:=walkM_eq r m
 generalize hres:walkH (ss++(walkM r m).map (preS pos)) = resH
 have key:∀ vars:List Str,(0 < m.rule→vars = varsOf [(ruleOf r m).left])→∀ ss0:List AStep,ss0.length+(walkMs r (startsM r m) m.args 0).length≤4096→walkH (ss0++(walkMs r (startsM r m) m.args 0).map (preS pos)) = resH →
   multi_walk.L7 (encRs r) (encP pos) (.fn (.func n_multi_Steps_1) [] [.ptr 0 0]) (.ro (cM m) 0) (encSs vars) (encMs m.args) (.int .i64 m.args.length) (.int .i64 0) 2 (walkH ss0) (Ends 2 multi_walk.rs fun x H'=>x = .bool true∧H' = resH):=by
  intro vars hvars ss0 hl0 hr0
  have h9:=loop_up (n:=m.args.length) (R:=fun k=>multi_walk.L7 (encRs r) (encP pos) (.fn (.func n_multi_Steps_1) [] [.ptr 0 0]) (.ro (cM m) 0) (encSs vars) (encMs m.args) (.int .i64 m.args.length) (.int .i64 k) 2 (walkH (ss0++(walkMs r (startsM r m) (m.args.take k) 0).map (preS pos))) (Ends 2 multi_walk.rs fun x H'=>x = .bool true∧H' = resH)) ?_ ?_ 0 (by omega)
  ·simp only [List.take_zero,walkMs,List.map_nil,List.append_nil] at h9
   exact h9
  ·intro k hk ihk
   have hmm:=getD_mem hk
   have hm2:=msize_mem hmm
   have hle:=walkMs_le (r:=r) (st:=startsM r m) (l:=m.args) (k+1)
   rw [walkMs_take hk] at ihk hle
   rw [List.map_append,← List.append_assoc] at ihk
   have hlc:(ss0++(walkMs r (startsM r m) (m.args.take k) 0).map (preS pos)).length = ss0.length+(walkMs r (startsM r m) (m.args.take k) 0).length:=by simp
   generalize ss0++(walkMs r (startsM r m) (m.args.take k) 0).map (preS pos) = c0 at ihk hlc ⊢
   generalize walkMs r (startsM r m) (m.args.take k) 0 = w1 at ihk hle hlc
   refine multi_walk.G7 ?_
   generalize hax:m.args.getD k default = a at ihk hle hmm hm2
   have hQs:=startsM_short hm hr (k:Int)
   have hQl:=startsM_len hm hr (k:Int)
   generalize hQ:startsM r m (k:Int) = Q at ihk hle hQs hQl
   rw [List.length_append] at hle
   have key2:multi_walk.L4 (encRs r) (encP pos) (.fn (.func n_multi_Steps_1) [] [.ptr 0 0]) (.ro (cM m) 0) (encSs vars) (.ro (cM a) 0) (encMs m.args) (.int .i64 m.args.length) (.int .i64 k) (encPs Q) (.int .i64 Q.length) (.int .i64 0) 2 (walkH c0++[.dead]) (Ends 2 multi_walk.rs fun x H'=>x = .bool true∧H' = resH):=by
    have h8:=loop_up (n:=Q.length) (R:=fun j=>multi_walk.L4 (encRs r) (encP pos) (.fn (.func n_multi_Steps_1) [] [.ptr 0 0]) (.ro (cM m) 0) (encSs vars) (.ro (cM a) 0) (encMs m.args) (.int .i64 m.args.length) (.int .i64 k) (encPs Q) (.int .i64 Q.length) (.int .i64 j) 2 (walkH (c0++((Q.take j).flatMap fun p=>(walkM r a).map (preS p)).map (preS pos))++[.dead]) (Ends 2 multi_walk.rs fun x H'=>x = .bool true∧H' = resH)) ?_ ?_ 0 (by omega)
    ·simp only [List.take_zero,List.flatMap_nil,List.map_nil,List.append_nil] at h8
     exact h8
    ·intro j hj ihj
     have hfl:=flat_le (f:=fun p=>(walkM r a).map (preS p)) (l:=Q) (j+1)
     rw [flat_take hj] at ihj hfl
     have hqs:=hQs _ (getD_mem hj)
     generalize hq:Q.getD j default = q at ihj hfl hqs
     generalize hv:(Q.take j).flatMap (fun p=>(walkM r a).map (preS p)) = w2 at ihj hfl ⊢
     rw [List.length_append,List.length_map] at hfl
     rw [List.map_append,preS_preS,← List.append_assoc] at ihj
     have hlen:(c0++w2.map (preS pos)).length = ss0.length+w1.length+w2.length:=by rw [List.length_append,List.length_map,hlc]
     generalize c0++w2.map (preS pos) = cur at ihj hlen ⊢
     have hI:=ih a hmm (hm.arg hmm) (by omega) (pos++q) cur (by rw [List.length_append];omega) (by omega)
     refine multi_walk.G4 ?_
     unfold walkH
     push_cast [ilt hj,hq,List.cons_append,List.nil_append]
     refine .of (concat2 pos q (by omega)) ?_
     push_cast
     refine callG_keep (H:=walkH cur) (J:=[.dead]) (vs':=[encRs r,encM a,encP (pos++q),.fn (.func n_multi_Steps_1) [] [.ptr 0 0]]) (shut_walk cur) (by rfl) (specF_func ▸ hI) ?_ ?_
     ·rintro x H' ⟨_,rfl⟩;exact shut_walk _
     ·rintro x H' ⟨rfl,rfl⟩
      generalize cur++(walkM r a).map (preS (pos++q)) = cur2 at ihj ⊢
      unfold walkH at ihj ⊢
      push_cast [List.cons_append,List.nil_append,w64 (show j < 2^62 by omega)]
      exact ihj
    ·refine multi_walk.G4 ?_
     rw [List.take_length]
     generalize c0++(Q.flatMap fun p=>(walkM r a).map (preS p)).map (preS pos) = c1 at ihk ⊢
     unfold walkH at ihk ⊢
     push_cast [inlt (Nat.le_refl _),List.cons_append,List.nil_append,w64 (show k < 2^62 by omega)]
     exact ihk
   unfold walkH at key2 ⊢
   by_cases h0:0 < m.rule
   ·obtain ⟨k1,k2,k3,k4,k5,k6⟩:=hm.rule (by omega)
    have hlr:=length_le_rbs r
    have hrm:=rbs_mem k3
    have hzl:=size_le_tb (ruleOf r m).left
    have hwr:IntKind.i64.wrap (m.rule - 1) = m.rule - 1:=wrap64 (by omega) (by omega)
    have hc1:((0:Int)≤m.rule - 1) = True:=eq_true (by omega)
    have hc2:(m.rule - 1 < (r.length:Int)) = True:=eq_true (by omega)
    have hru:r.getD (m.rule - 1).toNat default = ruleOf r m:=rfl
    have hQe:Q = occM (ruleOf r m).left (vars.getD k default):=by
     rw [← hQ,hvars h0];unfold startsM;rw [if_pos h0,Int.toNat_natCast]
    have hkv:((k:Int) < (vars.length:Int)) = True:=eq_true (by rw [hvars h0];omega)
    have hO:=multi_occurrences_s (ruleOf r m).left (vars.getD k default) (by omega)
    rw [← hQe] at hO
    push_cast [ilt hk,hax,eq_true h0,hwr,hc1,hc2,hru,hkv]
    refine .of hO ?_
    push_cast
    exact key2
   ·have hQe:Q = [[(k:Int)]]:=by rw [← hQ];unfold startsM;rw [if_neg h0]
    subst hQe
    push_cast [ilt hk,hax,eq_false h0]
    exact key2
  ·refine multi_walk.G7 ?_
   rw [List.take_length,hr0]
   subst hres
   unfold walkH
   push_cast [inlt (Nat.le_refl _)]
   exact ends_all (x:=.bool true) (.inl rfl) (by push_cast [multi_walk.rs]) ⟨rfl,rfl⟩
 refine spec_of_run mixed multi_walk.ok rfl ?_
 by_cases h0:0 < m.rule
 ·obtain ⟨k1,k2,k3,k4,k5,k6⟩:=hm.rule (by omega)
  rw [if_pos h0] at hw
  rw [hw,List.map_append] at hres
  rw [hw,List.length_append] at hl
  have hlr:=length_le_rbs r
  have hrm:=rbs_mem k3
  have hzl:=size_le_tb (ruleOf r m).left
  have hwr:IntKind.i64.wrap (m.rule - 1) = m.rule - 1:=wrap64 (by omega) (by omega)
  have hc1:((0:Int)≤m.rule - 1) = True:=eq_true (by omega)
  have hc2:(m.rule - 1 < (r.length:Int)) = True:=eq_true (by omega)
  have hru:r.getD (m.rule - 1).toNat default = ruleOf r m:=rfl
  have hpp:([⟨m.rule - 1,[]⟩]:List AStep).map (preS pos) = [⟨m.rule - 1,pos⟩]:=by simp [preS]
  rw [hpp,← List.append_assoc] at hres
  have hk:=key (varsOf [(ruleOf r m).left]) (fun _=>rfl) (ss++[⟨m.rule - 1,pos⟩]) (by simp at hl ⊢;omega) hres
  have hS1:=Steps_1_s ⟨m.rule - 1,pos⟩ ss (by omega)
  unfold walkH at hk hS1 ⊢
  push_cast [eq_true h0,hwr]
  refine .of (clone_int_p pos (by omega)) ?_
  push_cast
  refine CallG.all (specF_func ▸ hS1) ?_
  rintro x H' ⟨rfl,rfl⟩
  have hd:decide (ss.length+1≤4096) = true:=decide_eq_true (by simp at hl;omega)
  rw [hd]
  push_cast [eq_true h0,hwr,hc1,hc2,hru]
  refine .of (term_VarsOf_s [(ruleOf r m).left] (by simp [sizes];omega)) ?_
  push_cast
  rw [List.length_append,List.length_singleton] at hk
  exact hk
 ·rw [if_neg h0,List.nil_append] at hw
  rw [hw] at hres hl
  have hk:=key [] (fun h=>absurd h h0) ss hl hres
  unfold walkH at hk ⊢
  push_cast [eq_false h0]
  exact hk
end Go.Dw
end
section
namespace Go.Dw
open Go.Proofs Go.Sort
theorem pfe_of {f:Nat} {nd:Nat→C} {c:C} {n:Nat} {rs:List RV} (hok:okF prog f nd c n rs = true) {args:List V} {x:V} (hn:args.length = n)
  (hrun:Run prog nd 0 [.c c] (ini 0 args) [] (Ends 0 rs fun x' H'=>x' = x∧H' = [])):SpecE prog f args [] fun x' H'=>x' = x∧H' = []:=spece_of_run mixed hok hn hrun
end Go.Dw
end
section
namespace Go.Proofs
open Go.Shelf Go.RowKit Go.Lib Go.Sort
def Tryz.sortStep_ren:Go.Shelf.Ren:=⟨fun | 6=>19 | 15=>50 | 14=>49 | 28=>104 | 29=>105 | 20=>96 | 21=>97 | 22=>98 | 23=>99 | 24=>100 | 25=>101 | 26=>102 | 27=>103 | 46=>148 | 47=>149 | 48=>150 | 49=>151 | 50=>152 | 57=>190 | n=>n,fun | 22=>27 | 24=>48 | 25=>52 | 3=>3 | 39=>81 | 0=>0 | 53=>128 | 55=>130 | 4=>4 | 46=>121 | 45=>120 | 50=>125 | 5=>5 | 9=>9 | 66=>170 | 70=>174 | 76=>203 | 77=>85 | n=>n,fun | n=>n⟩
theorem Tryz.sortStep:Go.Proofs.SlLaysF0.n6 Tryz.prog Tryz.sortStep_ren:={
 mixed:=by kernel_rfl
 f6:=⟨Tryz.f19.name,by decide,Tryz.func19.trans (congrArg some (by kernel_rfl))⟩
 f14:=⟨Tryz.f49.name,by decide,Tryz.func49.trans (congrArg some (by kernel_rfl))⟩
 f15:=Tryz.func50.trans (congrArg some (by kernel_rfl))
 f20:=⟨Tryz.f96.name,by decide,Tryz.func96.trans (congrArg some (by kernel_rfl))⟩
 f21:=⟨Tryz.f97.name,by decide,Tryz.func97.trans (congrArg some (by kernel_rfl))⟩
 f22:=⟨Tryz.f98.name,by decide,Tryz.func98.trans (congrArg some (by kernel_rfl))⟩
 f23:=⟨Tryz.f99.name,by decide,Tryz.func99.trans (congrArg some (by kernel_rfl))⟩
 f24:=⟨Tryz.f100.name,by decide,Tryz.func100.trans (congrArg some (by kernel_rfl))⟩
 f25:=⟨Tryz.f101.name,by decide,Tryz.func101.trans (congrArg some (by kernel_rfl))⟩
 f26:=⟨Tryz.f102.name,by decide,Tryz.func102.trans (congrArg some (by kernel_rfl))⟩
 f27:=⟨Tryz.f103.name,by decide,Tryz.func103.trans (congrArg some (by kernel_rfl))⟩
 f28:=Tryz.func104.trans (congrArg some (by kernel_rfl))
 f29:=Tryz.func105.trans (congrArg some (by kernel_rfl))
 f46:=⟨Tryz.f148.name,by decide,Tryz.func148.trans (congrArg some (by kernel_rfl))⟩
 f47:=Tryz.func149.trans (congrArg some (by kernel_rfl))
 f48:=Tryz.func150.trans (congrArg some (by kernel_rfl))
 f49:=⟨Tryz.f151.name,by decide,Tryz.func151.trans (congrArg some (by kernel_rfl))⟩
 f50:=⟨Tryz.f152.name,by decide,Tryz.func152.trans (congrArg some (by kernel_rfl))⟩
 f57:=⟨Tryz.f190.name,by decide,Tryz.func190.trans (congrArg some (by kernel_rfl))⟩
 t0:=Tryz.underlying0
 a0:=Tryz.isAgg0
 z0:=Tryz.sizeOf0
 v0:=Tryz.zeroValue0
 t3:=Tryz.underlying3
 a3:=Tryz.isAgg3
 z3:=Tryz.sizeOf3
 v3:=Tryz.zeroValue3
 t4:=Tryz.underlying4
 a4:=Tryz.isAgg4
 z4:=Tryz.sizeOf4
 v4:=Tryz.zeroValue4
 t5:=Tryz.underlying5
 a5:=Tryz.isAgg5
 z5:=Tryz.sizeOf5
 v5:=Tryz.zeroValue5
 t9:=Tryz.underlying9
 a9:=Tryz.isAgg9
 z9:=Tryz.sizeOf9
 v9:=Tryz.zeroValue9
 t22:=Tryz.underlying27
 a22:=Tryz.isAgg27
 z22:=Tryz.sizeOf27
 v22:=Tryz.zeroValue27
 t25:=Tryz.underlying52
 a25:=Tryz.isAgg52
 z25:=Tryz.sizeOf52
 v25:=Tryz.zeroValue52
 t39:=Tryz.underlying81
 a39:=Tryz.isAgg81
 z39:=Tryz.sizeOf81
 v39:=Tryz.zeroValue81
 t45:=Tryz.underlying120
 a45:=Tryz.isAgg120
 z45:=Tryz.sizeOf120
 v45:=Tryz.zeroValue120
 t46:=Tryz.underlying121
 a46:=Tryz.isAgg121
 z46:=Tryz.sizeOf121
 v46:=Tryz.zeroValue121
 t50:=Tryz.underlying125
 a50:=Tryz.isAgg125
 z50:=Tryz.sizeOf125
 v50:=Tryz.zeroValue125
 t53:=Tryz.underlying128
 a53:=Tryz.isAgg128
 z53:=Tryz.sizeOf128
 v53:=Tryz.zeroValue128
 t55:=Tryz.underlying130
 a55:=Tryz.isAgg130
 z55:=Tryz.sizeOf130
 v55:=Tryz.zeroValue130
 t66:=Tryz.underlying170
 a66:=Tryz.isAgg170
 z66:=Tryz.sizeOf170
 v66:=Tryz.zeroValue170
 t70:=Tryz.underlying174
 a70:=Tryz.isAgg174
 z70:=Tryz.sizeOf174
 v70:=Tryz.zeroValue174
 t76:=Tryz.underlying203
 a76:=Tryz.isAgg203
 z76:=Tryz.sizeOf203
 v76:=Tryz.zeroValue203
 t77:=Tryz.underlying85
 a77:=Tryz.isAgg85
 z77:=Tryz.sizeOf85
 v77:=Tryz.zeroValue85 }
theorem Tryz.sortStep_num:Tryz.sortStep_ren.f 6 = Go.Dw.n_slices_SortFunc_s_Step_Step:=by kernel_rfl
theorem Tryz.sortStep_t:Tryz.sortStep_ren.t 24 = Go.Dw.t_Step:=by kernel_rfl
theorem Tryz.sortStep_in (args:Array Value) (w:World):(callFunc Go.Dw.n_slices_SortFunc_s_Step_Step args).run Tryz.prog w = .ok (.enter Go.Dw.n_slices_SortFunc_s_Step_Step args) w:=by
 have:=enters_of (P:=Tryz.prog) (f:=Go.Dw.n_slices_SortFunc_s_Step_Step) (by kernel_rfl:Tryz.prog.funcs[Go.Dw.n_slices_SortFunc_s_Step_Step]? = some Tryz.f19) (by kernel_rfl) rfl args w
 exact this
theorem Tryz.stepCmp_in (args:Array Value) (w:World):(callFunc Go.Dw.n_multi_Steps_2 args).run Tryz.prog w = .ok (.enter Go.Dw.n_multi_Steps_2 args) w:=by
 have:=enters_of (P:=Tryz.prog) (f:=Go.Dw.n_multi_Steps_2) (by kernel_rfl:Tryz.prog.funcs[Go.Dw.n_multi_Steps_2]? = some Tryz.f20) (by kernel_rfl) rfl args w
 exact this
theorem Tryz.step_agg:Go.Dw.aggB Tryz.prog Go.Dw.t_Step = true:=by kernel_rfl
theorem Tryz.step_size:Go.Dw.sizeB Tryz.prog Go.Dw.t_Step 2 = true:=by kernel_rfl
end Go.Proofs
namespace Go.Dw
open Go.Proofs Go.Sort
theorem calls_pfeC {f:Nat} {args:List V} {n:Int} (h:SpecE prog f args [] fun x' H'=>x' = .int .i64 n∧H' = []) {vs:List Value} (W:World) (ok:Nat→Nat→Prop) (hok:∀ b o,ok b o→b < W.heap.size) (hg:Glob W ok) (hr:repL ⟨W,ok,fun _=>none,[]⟩ args vs) :
  Calls prog f vs.toArray W fun e w'=>e = .returned (.int .i64 n)∧∃ q os',w' = grow (W.drewN q) os':=by
 have hc:Conc ⟨W,ok,fun _=>none,[]⟩:=⟨fun i j b k k' hi=>by simp at hi,hok,fun i o h=>by simp at h,hg⟩
 refine ((h ⟨W,ok,fun _=>none,[]⟩ vs rfl hc hr).2).mono ?_
 rintro e w' ⟨v,x,c',rfl,rfl,⟨rfl,hH⟩,_,hv,hf⟩
 have hv:v = .int .i64 n:=hv
 refine ⟨by rw [hv],c'.w.drawn - W.drawn,c'.w.heap.extract W.heap.size c'.w.heap.size,?_⟩
 have h1:W.drawn≤c'.w.drawn:=hf.drawn
 have h2:W.heap.size≤c'.w.heap.size:=hf.size
 have h3:c'.w.heap = W.heap++c'.w.heap.extract W.heap.size c'.w.heap.size:=by
  apply Array.ext (by simp;omega)
  intro i hi hi2
  by_cases hlt:i < W.heap.size
  ·have:=hf.heap i hlt (by rintro ⟨j,k,hj,_⟩;simp at hj)
   rw [Array.getElem_append_left hlt]
   have e1:c'.w.heap[i]? = W.heap[i]?:=this
   rw [Array.getElem?_eq_getElem hi,Array.getElem?_eq_getElem hlt] at e1
   exact Option.some.inj e1
  ·rw [Array.getElem_append_right (by omega)]
   simp;congr 1;omega
 have h4:c'.w.os = W.os:=hf.os
 have h5:c'.w.tape = W.tape:=hf.tape
 have h6:c'.w.output = W.output:=hf.output
 generalize c'.w = W' at h1 h3 h4 h5 h6 ⊢
 obtain ⟨heap,tape,drawn,os,output⟩:=W'
 obtain ⟨heap',tape',drawn',os',output'⟩:=W
 simp only at h1 h3 h4 h5 h6 ⊢
 subst h4;subst h5;subst h6
 simp only [grow,World.drewN,World.mk.injEq,true_and,and_true]
 exact ⟨h3,by omega⟩
theorem sort_rowC {α:Type} [Inhabited α] {f g e k:Nat} (encV:α→List V) (enc:α→List Value) (so:List α→List α) (hk0:0 < k) (hk:∀ x,(enc x).length = k) (hkV:∀ x,(encV x).length = k)
  (c:Cx) (l:List α) (hlen:(so l).length = l.length) (hH:c.H = [.row e k (l.map encV)]) (hc:Conc c)
  (hcell:∀ b m vs,c.ρ 0 = some (b,m)→c.w.heap[b]? = some (.cells vs e (0,0))→∀ (a:α) (i j:Nat) (v:Value),l[i]? = some a→(enc a)[j]? = some v→vs[i * k+j]? = some v)
  (hrep:∀ (w':World) (H':List Ob),(∀ b o,c.ok b o→w'.cell? ⟨b,o,none⟩ = c.w.cell? ⟨b,o,none⟩)→∀ (a:α) (j:Nat) (x:V),(encV a)[j]? = some x→∃ v,(enc a)[j]? = some v∧oneC v = true∧rep ⟨w',c.ok,c.ρ,H'⟩ x v)
  (hin:∀ (args:Array Value) (w:World),(callFunc f args).run prog w = .ok (.enter f args) w)
  (hcall:∀ (b cap:Nat),c.ρ 0 = some (b,cap)→HoldsK enc k c.w b 0 l.toArray→b < c.w.heap.size→Calls prog f #[.slice (some ⟨b,0,none⟩) l.toArray.size cap,.func (.func g) #[] #[]] c.w fun e w'=>e = .returned (.tuple #[])∧∃ n os,w' = sortWorldK enc k c.w b 0 n (so l).toArray os)
  (hnone:∀ (cap:Nat) (w:World),Calls prog f #[.slice none 0 cap,.func (.func g) #[] #[]] w fun e w'=>e = .returned (.tuple #[])∧w' = w) (vs:List Value) (hr:repL c [.rw 0 k l.length,.fn (.func g) [] []] vs) :
  CallR prog f vs.toArray c.w fun e' w'=>∃ v x c',e' = .returned v∧c'.w = w'∧(x = .tup []∧c'.H = [.row e k ((so l).map encV)])∧Conc c'∧rep c' x v∧Fr c c':=by
 obtain ⟨v,vs',rfl,h1,v2,vs2,rfl,h2,h3⟩:=hr
 have h3:vs2 = []:=h3
 subst h3
 obtain ⟨va,vc,rfl,h4,h5⟩:=h2
 have h4:va.toList = []:=h4
 have h5:vc.toList = []:=h5
 obtain rfl:va = #[]:=by simpa using h4
 obtain rfl:vc = #[]:=by simpa using h5
 left
 have h0:c.H[0]? = some (.row e k (l.map encV)):=by rw [hH];rfl
 obtain ⟨q1,q2⟩:=hc.obj 0 _ h0
 obtain ⟨p1,⟨a,kk,p2,p3,p4⟩,p5⟩:=h1
 have hcur:=(p5 _ _ _ h0).2.2 (by simp)
 refine ⟨hin _ _,?_⟩
 cases hρ:c.ρ 0 with
 | none =>
  have hl:l = []:=by simpa using q1 hρ
  subst hl
  rw [hρ] at hcur
  have hcur:v = .slice none 0 0:=hcur
  subst hcur
  have hso:so [] = []:=List.eq_nil_of_length_eq_zero hlen
  refine (hnone 0 c.w).mono ?_
  rintro e w' ⟨rfl,rfl⟩
  exact ⟨_,.tup [],c,rfl,rfl,⟨rfl,by rw [hH,hso]⟩,hc,⟨#[],rfl,rfl⟩,.refl c⟩
 | some bk =>
  obtain ⟨b,m⟩:=bk
  rw [hρ] at hcur
  have hcur:v = .slice (some ⟨b,0,none⟩) l.length m:=hcur
  subst hcur
  obtain ⟨vs,r1,r2,r3,r4,r5,r6⟩:=q2 b m hρ
  have hblt:b < c.w.heap.size:=(Array.getElem?_eq_some_iff.1 r1).1
  have hvsz:l.length * k≤vs.size:=by rw [r2];exact Nat.mul_le_mul_right _ (by simpa using r3)
  have hcell:=hcell b m vs hρ r1
  have hHolds:HoldsK enc k c.w b 0 l.toArray:=fun t ht=>by
   have ht:t < l.length * k:=by simpa using ht
   have hi:t / k < l.length:=(Nat.div_lt_iff_lt_mul hk0).2 ht
   have hj:t % k < k:=Nat.mod_lt _ hk0
   rw [get_flatK _ _ _ _ (by simpa using ht)]
   have hgi:l.toArray[t / k]! = l[t / k]:=by simp [hi]
   rw [hgi]
   have hlt:t % k < (enc l[t / k]).length:=by rw [hk];exact hj
   have hgj:(enc l[t / k])[t % k]! = (enc l[t / k])[t % k]:=getElem!_pos (enc l[t / k]) (t % k) hlt
   rw [hgj]
   have:=hcell l[t / k] (t / k) (t % k) _ (List.getElem?_eq_getElem hi) (List.getElem?_eq_getElem hlt)
   rw [Nat.mul_comm,Nat.div_add_mod] at this
   refine ⟨?_,?_⟩
   ·simp only [World.cell?,r1,Nat.zero_add]
    exact this
   ·simp [World.frozen?,r1]
  have hca:=hcall b m hρ hHolds hblt
  rw [List.size_toArray] at hca
  refine hca.mono ?_
  rintro e2 w' ⟨rfl,n,os,rfl⟩
  generalize hso:so l = s at hlen
  generalize hw':sortWorldK enc k c.w b 0 n s.toArray os = w'
  have hsz:w'.heap.size = c.w.heap.size+os.size:=by subst hw';simp [sortWorldK,putRowK,grow,putRow,mapBlock,Sort.ahead]
  have hoth:∀ b',b' < c.w.heap.size→b' ≠ b→w'.heap[b']? = c.w.heap[b']?:=fun b' h1 h2=>by
   subst hw'
   simp only [sortWorldK,putRowK,grow,putRow,mapBlock,Sort.ahead]
   rw [Array.getElem?_append_left (by simpa using h1),Array.getElem?_modify,if_neg (Ne.symm h2)]
  have hsame:w'.heap[b]? = some (.cells (putCells id 0 (flatK enc k s.toArray) vs) e (0,0)):=by
   subst hw'
   simp only [sortWorldK,putRowK,grow,putRow,mapBlock,Sort.ahead]
   rw [Array.getElem?_append_left (by simpa using hblt),Array.getElem?_modify,if_pos rfl,r1]
   rfl
  have howns:∀ b',c.owns b' ↔ b' = b:=fun b'=>by
   constructor
   ·rintro ⟨i,k',h1,h2⟩
    have:i = 0:=by rw [hH] at h1;simpa using h1
    subst this
    rw [hρ] at h2;cases h2;rfl
   ·rintro rfl;exact ⟨0,m,p1,hρ⟩
  have hcl:∀ b' o,c.ok b' o→w'.cell? ⟨b',o,none⟩ = c.w.cell? ⟨b',o,none⟩:=fun b' o h=>by
   have hne:b' ≠ b:=fun e=>r5 o (e ▸ h)
   simp only [World.cell?]
   rw [hoth b' (hc.okLt _ _ h) hne]
  refine ⟨_,.tup [],⟨w',c.ok,c.ρ,[.row e k (s.map encV)]⟩,rfl,rfl,⟨rfl,rfl⟩,?_,⟨#[],rfl,rfl⟩,?_⟩
  ·refine ⟨fun i j b1 k1 k2 h1 h2 _ _=>?_,fun b' o h=>?_,fun i o hi=>?_,hc.glob.step (fun _ _ h=>h) fun b' o h=>by
    have hne:b' ≠ b:=fun e=>r5 o (e ▸ h)
    simp only [World.cell?]
    rw [hoth b' (hc.okLt _ _ h) hne]⟩
   ·simp only [List.length_singleton] at h1 h2;omega
   ·have:=hc.okLt _ _ h;show b' < w'.heap.size;omega
   ·cases i with
    | succ i=>simp at hi
    | zero =>
     simp only [List.getElem?_cons_zero,Option.some.injEq] at hi
     subst hi
     refine ⟨fun h=>?_,fun b' k' h=>?_⟩
     ·have h:c.ρ 0 = none:=h
      rw [hρ] at h;cases h
     ·have h:c.ρ 0 = some (b',k'):=h
      rw [hρ] at h;cases h
      refine ⟨putCells id 0 (flatK enc k s.toArray) vs,hsame,by simpa [putCells] using r2,by simpa [hlen] using r3,r4,r5,fun i el hi=>?_⟩
      rw [List.getElem?_map] at hi
      cases hs:s[i]? with
      | none=>rw [hs] at hi;cases hi
      | some a =>
       rw [hs] at hi;cases hi
       refine ⟨hkV a,fun j x hx=>?_⟩
       obtain ⟨v,e1,e2,e3⟩:=hrep w' [.row e k (s.map encV)] hcl a j x hx
       refine ⟨v,?_,e2,e3⟩
       have hil:i < s.length:=(List.getElem?_eq_some_iff.1 hs).1
       have hsi:s[i] = a:=(List.getElem?_eq_some_iff.1 hs).2
       have hjk:j < k:=by rw [← hk a];exact (List.getElem?_eq_some_iff.1 e1).1
       have htk:i * k+j < s.length * k:=by
        have:(i+1) * k≤s.length * k:=Nat.mul_le_mul_right _ hil
        rw [Nat.succ_mul] at this;omega
       have hiv:i * k+j < vs.size:=by rw [hlen] at htk;omega
       simp only [putCells,Array.getElem?_mapIdx,Array.getElem?_eq_getElem hiv,Option.map_some]
       rw [if_pos (by simpa using htk)]
       simp only [Nat.sub_zero,id]
       rw [get_flatK _ _ _ _ (by simpa using htk),Nat.mul_comm i k,Nat.mul_add_div hk0,Nat.div_eq_of_lt hjk,Nat.add_zero,Nat.mul_add_mod,Nat.mod_eq_of_lt hjk]
       have:s.toArray[i]! = a:=by simp [hil,hsi]
       rw [this,getElem!_def,e1]
  ·refine ⟨fun _ _ h=>h,fun b' o h=>?_,by show c.w.heap.size≤w'.heap.size;omega,fun _ _ h=>.inl h,fun b' hb hno=>hoth b' hb (fun e=>hno ((howns b').2 e)),fun b' hb=>.inl ?_,fun j o hj=>?_,?_,?_,?_,?_⟩
   ·have hne:b' ≠ b:=fun e=>r5 o (e ▸ h)
    simp only [World.cell?]
    rw [hoth b' (hc.okLt _ _ h) hne]
   ·obtain ⟨i,k',h1,h2⟩:=hb
    exact ⟨i,k',by rw [hH];exact h1,h2⟩
   ·rw [hH] at hj
    cases j with
    | succ j=>simp at hj
    | zero =>
     simp only [List.getElem?_cons_zero,Option.some.injEq] at hj
     subst hj
     exact ⟨_,rfl,rfl,rfl,by simp [hlen],fun _=>rfl⟩
   ·subst hw';rfl
   ·subst hw';rfl
   ·subst hw';rfl
   ·subst hw';exact Nat.le_add_right _ _
theorem Steps_2_e (x y:AStep) (hx:x.pos.length < 2^62) (hy:y.pos.length < 2^62):SpecE prog n_multi_Steps_2 [encSt x,encSt y] [] fun x' H'=>x' = .int .i64 (cmpP x.pos y.pos)∧H' = []:=by
 refine pfe_of multi_Steps_2.ok rfl ?_
 push_cast
 refine .of (slices_Compare_int_s x.pos y.pos hx hy) ?_
 push_cast
 exact pf_ret (by push_cast [multi_Steps_2.rs])
theorem cmpP_iff:∀ a b:List Int,cmpP a b < 0 ↔ List.Lex (· < ·) a b
 | [],[]=>by simp [cmpP]
 | [],_ :: _=>by simp [cmpP]
 | _ :: _,[]=>by simp [cmpP]
 | x :: a,y :: b=>by
  simp only [cmpP,cmpI]
  by_cases h1:x < y
  ·simp [h1,List.Lex.rel h1]
  ·by_cases h2:y < x
   ·have:¬ x = y:=by omega
    simp [h1,h2,List.cons_lex_cons_iff,this]
   ·have h3:x = y:=by omega
    subst h3
    have ih:=cmpP_iff a b
    simp [h1,h2,List.cons_lex_cons_iff,ih]
theorem lexP_tri:∀ a b:List Int,List.Lex (· < ·) a b ∨ a = b ∨ List.Lex (· < ·) b a
 | [],[]=>by simp
 | [],_ :: _=>by simp
 | _ :: _,[]=>by simp
 | x :: a,y :: b=>by
  by_cases h1:x < y
  ·exact .inl (.rel h1)
  ·by_cases h2:y < x
   ·exact .inr (.inr (.rel h2))
   ·have h3:x = y:=by omega
    subst h3
    rcases lexP_tri a b with h | h | h
    ·exact .inl (.cons h)
    ·exact .inr (.inl (by rw [h]))
    ·exact .inr (.inr (.cons h))
theorem lexP_irrefl:∀ a:List Int,¬ List.Lex (· < ·) a a
 | [],h=>by cases h
 | x :: a,h=>by
  rw [List.cons_lex_cons_iff] at h
  rcases h with h | ⟨_,h⟩
  ·omega
  ·exact lexP_irrefl a h
theorem lexP_trans:∀ a b c:List Int,List.Lex (· < ·) a b→List.Lex (· < ·) b c→List.Lex (· < ·) a c
 | [],b,[],_,h2=>by cases h2
 | [],_,_ :: _,_,_=>.nil
 | x :: a,[],c,h1,_=>by cases h1
 | x :: a,y :: b,[],_,h2=>by cases h2
 | x :: a,y :: b,z :: c,h1,h2=>by
  rw [List.cons_lex_cons_iff] at h1 h2 ⊢
  rcases h1 with h1 | ⟨rfl,h1⟩
  ·rcases h2 with h2 | ⟨rfl,h2⟩
   ·exact .inl (by omega)
   ·exact .inl h1
  ·rcases h2 with h2 | ⟨rfl,h2⟩
   ·exact .inl h2
   ·exact .inr ⟨rfl,lexP_trans a b c h1 h2⟩
def sortSt (l:List AStep):List AStep:=l.mergeSort fun x y=>!decide (cmpP y.pos x.pos < 0)
section
variable (l:List AStep)
def cfI (i j:_root_.Fin l.length):Int:=cmpP l[i].pos l[j].pos
theorem ltI_iff (i j:_root_.Fin l.length):ltOf (cfI l) i j = decide (List.Lex (· < ·) l[i].pos l[j].pos):=by
 unfold ltOf cfI
 by_cases h:List.Lex (· < ·) l[i].pos l[j].pos
 ·rw [decide_eq_true h,decide_eq_true ((cmpP_iff _ _).2 h)]
 ·rw [decide_eq_false h,decide_eq_false fun h2=>h ((cmpP_iff _ _).1 h2)]
theorem swoI:SWO (ltOf (cfI l)) where
 irrefl x:=by rw [ltI_iff];exact decide_eq_false (lexP_irrefl _)
 trans x y z h1 h2:=by
  rw [ltI_iff,decide_eq_true_eq] at *
  exact lexP_trans _ _ _ h1 h2
 ntrans x y z h1 h2:=by
  rw [ltI_iff,decide_eq_false_iff_not] at *
  intro h3
  rcases lexP_tri l[y].pos l[x].pos with h | h | h
  ·exact h2 (lexP_trans _ _ _ h h3)
  ·rw [h] at h2;exact h2 h3
  ·exact h1 h
end
theorem map_finRange (l:List AStep):(List.finRange l.length).map (fun i=>l[i]) = l:=by
 apply List.ext_getElem (by simp)
 intro i h1 h2
 simp
theorem sortW_cell {α:Type} [Inhabited α] {enc:α→List Value} {c:Cx} (hc:Conc c) {b:Nat} (hb:∀ o,¬ c.ok b o) (n:Nat) (os:Array Obj) (d:Array α):(∀ b' o,c.ok b' o→(sortWorldK enc 2 c.w b 0 n d os).cell? ⟨b',o,none⟩ = c.w.cell? ⟨b',o,none⟩)∧c.w.heap.size≤(sortWorldK enc 2 c.w b 0 n d os).heap.size:=by
 have hsz:(sortWorldK enc 2 c.w b 0 n d os).heap.size = c.w.heap.size+os.size:=by simp [sortWorldK,putRowK,grow,putRow,mapBlock,Sort.ahead]
 refine ⟨fun b' o h=>?_,by omega⟩
 have hne:b' ≠ b:=fun e=>hb o (e ▸ h)
 have h1:=hc.okLt _ _ h
 simp only [World.cell?,sortWorldK,putRowK,grow,putRow,mapBlock,Sort.ahead]
 rw [Array.getElem?_append_left (by simpa using h1),Array.getElem?_modify,if_neg (Ne.symm hne)]
theorem cmpLaysP {α:Type} [Inhabited α] (c:Cx) (hc:Conc c) (b:Nat) (hb:∀ o,¬ c.ok b o) (P:α→AStep) (enc:α→List Value) (hv:∀ x,∃ v0 v1,enc x = [v0,v1]∧oneC v0 = true∧oneC v1 = true∧rep c (.int .i64 (P x).rule) v0∧rep c (encP (P x).pos) v1) (hp:∀ x,(P x).pos.length < 2^62) (size:Nat) :
  CmpLays prog n_multi_Steps_2 #[] enc 2 (fun x y=>cmpP (P x).pos (P y).pos) b 0 size c.w:=fun n os dk _ x y=>by
 obtain ⟨hcl,hsz⟩:=sortW_cell (enc:=enc) hc hb n os dk
 have hx:∀ x,rep ⟨sortWorldK enc 2 c.w b 0 n dk os,c.ok,fun _=>none,[]⟩ (encSt (P x)) (.agg (enc x).toArray):=fun x=>by
  obtain ⟨v0,v1,e,o0,o1,r0,r1⟩:=hv x
  rw [e]
  have r1:prep c.w c.ok (encP (P x).pos) v1:=r1
  refine ⟨_,rfl,⟨v0,_,rfl,r0,v1,_,rfl,prep_mono (w':=sortWorldK enc 2 c.w b 0 n dk os) (ok':=c.ok) hcl (fun _ _ h=>h) r1,rfl⟩,?_⟩
  intro u hu
  have hu:u = v0 ∨ u = v1:=by simpa using hu
  rcases hu with rfl | rfl
  ·exact o0
  ·exact o1
 exact calls_pfeC (Steps_2_e (P x) (P y) (hp x) (hp y)) (vs:=[.agg (enc x).toArray,.agg (enc y).toArray]) _ c.ok (fun b o h=>Nat.lt_of_lt_of_le (hc.okLt _ _ h) hsz) (hc.glob.step (fun _ _ h=>h) hcl) ⟨_,_,rfl,hx x,_,_,rfl,hx y,rfl⟩
theorem step_zE (w:World):(Go.sizeOf (Tryz.sortStep_ren.t 24)).run prog w = .ok 2 w:=by
 rw [Tryz.sortStep_t]
 have h:=Tryz.step_size
 unfold sizeB at h
 cases hi:Tryz.prog.info? t_Step with
 | none=>rw [hi] at h;cases h
 | some i =>
  rw [hi] at h
  have h:i.size = 2:=by simpa using h
  simp [sizeOf,typeInfo,hi,h]
set_option maxHeartbeats 2000000 in
theorem sortSt_row (l:List AStep) (hl:l.length < 2^40) (hp:∀ s∈l,s.pos.length < 2^40) (hd:l.Pairwise fun a b=>a.pos ≠ b.pos):Spec prog n_slices_SortFunc_s_Step_Step [.rw 0 2 l.length,.fn (.func n_multi_Steps_2) [] []] [.row t_Step 2 (l.map cSt)] fun x H'=>x = .tup []∧H' = [.row t_Step 2 ((sortSt l).map cSt)]:=by
 intro c vs hH hc hr
 have hnone:∀ (cap:Nat) (w:World),Calls prog n_slices_SortFunc_s_Step_Step #[.slice none 0 cap,.func (.func n_multi_Steps_2) #[] #[]] w fun e w'=>e = .returned (.tuple #[])∧w' = w:=by
  intro cap w
  have:=AnyF.slices_SortFunc_none { Tryz.sortStep with } none cap (.func (.func n_multi_Steps_2) #[] #[]) w
  rw [Tryz.sortStep_num] at this
  exact this
 cases l with
 | nil =>
  have hm:=sort_rowC (α:=Unit) (f:=n_slices_SortFunc_s_Step_Step) (g:=n_multi_Steps_2) (e:=t_Step) (k:=2) (fun _=>[.int .i64 0,.sl 1 []]) (fun _=>[.int .i64 0,.slice none 0 0]) (fun d=>d.mergeSort fun x y=>!(ltOf fun _ _:Unit=>cmpP [] []) y x) (by decide) (fun _=>rfl) (fun _=>rfl) c [] ((List.mergeSort_perm _ _).length_eq) hH hc (fun b m vs _ _ a i j v h=>by cases h) ?_ Tryz.sortStep_in ?_ hnone vs hr
  ·refine hm.mono ?_
   rintro e w' ⟨v,x,c',p1,p2,⟨p3,p4⟩,p5⟩
   exact ⟨v,x,c',p1,p2,⟨p3,by rw [p4];simp [sortSt]⟩,p5⟩
  ·intro w' H' _ a j x hx
   match j,hx with
   | 0,hx=>cases hx;exact ⟨_,rfl,rfl,rfl⟩
   | 1,hx=>cases hx;exact ⟨_,rfl,rfl,⟨none,0,0,0,rfl,Nat.le_refl _,Nat.zero_le _,Nat.zero_le _,.inl rfl,trivial⟩⟩
   | j+2,hx=>simp at hx
  ·intro b m hρ hH2 hb
   have h0:c.H[0]? = some (.row t_Step 2 []):=by rw [hH];rfl
   obtain ⟨vw,r1,r2,r3,r4,r5,r6⟩:=(hc.obj 0 _ h0).2 b m hρ
   have hL:=cmpLaysP c hc b r5 (fun _:Unit=>(⟨0,[]⟩:AStep)) (fun _=>[.int .i64 0,.slice none 0 0]) (fun x=>⟨_,_,rfl,rfl,rfl,rfl,⟨none,0,0,0,rfl,Nat.le_refl _,Nat.zero_le _,Nat.zero_le _,.inl rfl,trivial⟩⟩) (fun _=>by decide) 0
   have:=AnyQ.slices_SortFunc_total Tryz.sortStep 2 (fun w=>by rw [Tryz.sortStep_t];exact run_isAgg_true Tryz.step_agg w) step_zE (fun _:Unit=>[.int .i64 0,.slice none 0 0]) (fun _=>rfl) (fun x v hv=>by simp at hv;rcases hv with rfl | rfl <;> rfl) (fun _ _=>cmpP [] []) ⟨fun x=>rfl,fun x y z h1 _=>absurd (show false = true from h1) (by decide),fun x y z _ _=>rfl⟩ n_multi_Steps_2 #[] b 0 m #[] c.w Tryz.stepCmp_in hL hH2 hb (by decide) (fun _ _ _ _=>rfl)
   rw [Tryz.sortStep_num] at this
   exact this
 | cons s0 l0 =>
 generalize hls:s0 :: l0 = l at *
 have hpos:0 < l.length:=by rw [← hls];simp
 haveI:Inhabited (_root_.Fin l.length):=⟨⟨0,hpos⟩⟩
 have hmr:=map_finRange l
 have h0:c.H[0]? = some (.row t_Step 2 (l.map cSt)):=by rw [hH];rfl
 obtain ⟨q1,q2⟩:=hc.obj 0 _ h0
 cases hρ:c.ρ 0 with
 | none =>
  have hl0:l.map cSt = []:=q1 hρ
  have:l = []:=by simpa using hl0
  rw [this] at hpos;simp at hpos
 | some bk =>
 obtain ⟨b,m⟩:=bk
 obtain ⟨vw,r1,r2,r3,r4,r5,r6⟩:=q2 b m hρ
 have hv:∀ (i:_root_.Fin l.length) (j:Nat) (x:V),(cSt l[i])[j]? = some x→∃ v,vw[i.val * 2+j]? = some v∧oneC v = true∧rep c x v:=fun i j x hx=>(r6 i.val (cSt l[i]) (by rw [List.getElem?_map,List.getElem?_eq_getElem i.isLt];rfl)).2 j x hx
 let enc:_root_.Fin l.length→List Value:=fun i=>[vw.getD (i.val * 2) default,vw.getD (i.val * 2+1) default]
 have he0:∀ i:_root_.Fin l.length,vw[i.val * 2]? = some (vw.getD (i.val * 2) default)∧oneC (vw.getD (i.val * 2) default) = true∧rep c (.int .i64 l[i].rule) (vw.getD (i.val * 2) default):=fun i=>by
  obtain ⟨v,h1,h2,h3⟩:=hv i 0 _ rfl
  have e:vw.getD (i.val * 2) default = v:=by rw [Array.getD_eq_getD_getElem?];rw [Nat.add_zero] at h1;rw [h1];rfl
  rw [e];exact ⟨h1,h2,h3⟩
 have he1:∀ i:_root_.Fin l.length,vw[i.val * 2+1]? = some (vw.getD (i.val * 2+1) default)∧oneC (vw.getD (i.val * 2+1) default) = true∧rep c (encP l[i].pos) (vw.getD (i.val * 2+1) default):=fun i=>by
  obtain ⟨v,h1,h2,h3⟩:=hv i 1 _ rfl
  have e:vw.getD (i.val * 2+1) default = v:=by rw [Array.getD_eq_getD_getElem?,h1];rfl
  rw [e];exact ⟨h1,h2,h3⟩
 have hmono:∀ (w':World) (ρ':Nat→Option (Nat × Nat)) (H':List Ob),(∀ b o,c.ok b o→w'.cell? ⟨b,o,none⟩ = c.w.cell? ⟨b,o,none⟩)→∀ (p:List Int) (v:Value),rep c (encP p) v→rep ⟨w',c.ok,ρ',H'⟩ (encP p) v:=fun w' ρ' H' hcl p v h=>by
  have h:prep c.w c.ok (encP p) v:=h
  exact prep_mono (w':=w') (ok':=c.ok) hcl (fun _ _ h=>h) h
 have hmap:(List.finRange l.length).map (fun i=>cSt l[i]) = l.map cSt:=by
  apply List.ext_getElem (by simp)
  intro i h1 h2
  simp
 have hso:((List.finRange l.length).mergeSort fun x y=>!(ltOf (cfI l)) y x).map (fun i=>l[i]) = sortSt l:=by
  have hms:=List.map_mergeSort (r:=fun x y=>!(ltOf (cfI l)) y x) (s:=fun x y:AStep=>!decide (cmpP y.pos x.pos < 0)) (f:=fun i:_root_.Fin l.length=>l[i]) (l:=List.finRange l.length) (fun a _ b _=>rfl)
  rw [hms,hmr]
  rfl
 have hmain:=sort_rowC (α:=_root_.Fin l.length) (f:=n_slices_SortFunc_s_Step_Step) (g:=n_multi_Steps_2) (e:=t_Step) (k:=2) (fun i=>cSt l[i]) enc (fun d=>d.mergeSort fun x y=>!(ltOf (cfI l)) y x) (by decide) (fun _=>rfl) (fun _=>rfl) c (List.finRange l.length) ((List.mergeSort_perm _ _).length_eq) (by rw [hH,hmap]) hc ?_ ?_ Tryz.sortStep_in ?_ hnone vs (by rw [List.length_finRange];exact hr)
 ·refine hmain.mono ?_
  rintro e w' ⟨v,x,c',p1,p2,⟨p3,p4⟩,p5⟩
  refine ⟨v,x,c',p1,p2,⟨p3,?_⟩,p5⟩
  rw [p4,← hso,List.map_map];rfl
 ·intro b' m' vs' hρ' hw' a i j v hi hj
  rw [hρ] at hρ';cases hρ'
  rw [r1] at hw';cases hw'
  have hia:a.val = i:=by
   have h1:=(List.getElem?_eq_some_iff.1 hi).2
   rw [List.getElem_finRange] at h1
   rw [← h1];rfl
  subst hia
  match j,hj with
  | 0,hj=>cases hj;exact (he0 a).1
  | 1,hj=>cases hj;exact (he1 a).1
  | j+2,hj=>simp [enc] at hj
 ·intro w' H' hcl a j x hx
  match j,hx with
  | 0,hx=>cases hx;exact ⟨_,rfl,(he0 a).2.1,(he0 a).2.2⟩
  | 1,hx=>cases hx;exact ⟨_,rfl,(he1 a).2.1,hmono w' _ H' hcl _ _ (he1 a).2.2⟩
  | j+2,hx=>simp [cSt] at hx
 ·intro b' m' hρ' hH2 hb
  rw [hρ] at hρ';cases hρ'
  have hone:∀ (x:_root_.Fin l.length),∀ v∈enc x,v.oneCell' = true:=fun x v hv=>by
   have hv:v = vw.getD (x.val * 2) default ∨ v = vw.getD (x.val * 2+1) default:=by simpa [enc] using hv
   rcases hv with rfl | rfl
   ·exact (he0 x).2.1
   ·exact (he1 x).2.1
  have hL:=cmpLaysP c hc b r5 (fun i:_root_.Fin l.length=>l[i]) enc (fun x=>⟨_,_,rfl,(he0 x).2.1,(he1 x).2.1,(he0 x).2.2,(he1 x).2.2⟩) (fun x=>by have:=hp l[x] (List.getElem_mem _);omega) (List.finRange l.length).toArray.size
  have:=AnyQ.slices_SortFunc_total Tryz.sortStep 2 (fun w=>by rw [Tryz.sortStep_t];exact run_isAgg_true Tryz.step_agg w) step_zE enc (fun _=>rfl) hone (cfI l) (swoI l) n_multi_Steps_2 #[] b 0 m (List.finRange l.length).toArray c.w Tryz.stepCmp_in hL hH2 hb (by simp;omega) (fun x y h1 h2=>by
    rw [ltI_iff,decide_eq_false_iff_not] at h1 h2
    rcases lexP_tri l[x].pos l[y].pos with h | h | h
    ·exact absurd h h1
    ·rcases Nat.lt_trichotomy x.val y.val with hl | he | hl
     ·exact absurd h (List.pairwise_iff_getElem.1 hd x.val y.val x.isLt y.isLt hl)
     ·exact Fin.ext he
     ·exact absurd h.symm (List.pairwise_iff_getElem.1 hd y.val x.val y.isLt x.isLt hl)
    ·exact absurd h h2)
  rw [Tryz.sortStep_num] at this
  exact this
end Go.Dw
end
section
namespace Go.Dw
mutual
def inSteps (vars:List Str) (S:List (List AStep)):Term→List AStep
 | .mk n v l=>if v then S.getD (ixS n vars) [] else inStepss vars S l 0
def inStepss (vars:List Str) (S:List (List AStep)):List Term→Nat→List AStep
 | [],_=>[]
 | a :: l,i=>(inSteps vars S a).map (preS [(i:Int)])++inStepss vars S l (i+1)
end
def catS:List (List AStep)→Nat→List AStep
 | [],_=>[]
 | s :: l,i=>s.map (preS [(i:Int)])++catS l (i+1)
mutual
def stepsM (r:List ARule):AMulti→List AStep
 | .mk k n v l=>if 0 < k then ⟨k - 1,[]⟩ :: inSteps (varsOf [(r.getD (k - 1).toNat default).left]) (stepsMs r l) (r.getD (k - 1).toNat default).left else catS (stepsMs r l) 0
def stepsMs (r:List ARule):List AMulti→List (List AStep)
 | []=>[]
 | a :: l=>stepsM r a :: stepsMs r l
end
theorem stepsMs_map (r:List ARule) (l:List AMulti):stepsMs r l = l.map (stepsM r):=by induction l with | nil=>rfl | cons a l ih=>simp [stepsMs,ih]
theorem stepsM_eq (r:List ARule) (m:AMulti):stepsM r m = if 0 < m.rule then ⟨m.rule - 1,[]⟩ :: inSteps (varsOf [(ruleOf r m).left]) (m.args.map (stepsM r)) (ruleOf r m).left else catS (m.args.map (stepsM r)) 0:=by
 cases m;simp only [stepsM,stepsMs_map,AMulti.rule,AMulti.args,ruleOf];rfl
abbrev SortedS (l:List AStep):Prop:=l.Pairwise fun a b=>List.Lex (· < ·) a.pos b.pos
theorem sorted_pre {i:Int} {l:List AStep} (h:SortedS l):SortedS (l.map (preS [i])):=by
 rw [SortedS,List.pairwise_map]
 exact h.imp fun hab=>.cons hab
theorem sorted_cat:∀ (S:List (List AStep)) (i:Nat),(∀ s∈S,SortedS s)→SortedS (catS S i)∧∀ s∈catS S i,∃ (k:Nat) (p:List Int),i≤k∧s.pos = (k:Int) :: p
 | [],i,_=>⟨List.Pairwise.nil,fun s hs=>by cases hs⟩
 | s :: S,i,h=>by
  obtain ⟨h1,h2⟩:=sorted_cat S (i+1) fun x hx=>h x (by simp [hx])
  refine ⟨?_,?_⟩
  ·simp only [catS]
   rw [SortedS,List.pairwise_append]
   refine ⟨sorted_pre (h s (by simp)),h1,fun a ha b hb=>?_⟩
   obtain ⟨a',_,rfl⟩:=List.mem_map.1 ha
   obtain ⟨k,p,h3,h4⟩:=h2 b hb
   rw [h4]
   exact .rel (by omega)
  ·intro x hx
   rcases List.mem_append.1 hx with hx | hx
   ·obtain ⟨a',_,rfl⟩:=List.mem_map.1 hx
    exact ⟨i,a'.pos,Nat.le_refl _,rfl⟩
   ·obtain ⟨k,p,h3,h4⟩:=h2 x hx
    exact ⟨k,p,by omega,h4⟩
theorem inStepss_cat (vars:List Str) (S:List (List AStep)):∀ (l:List Term) (i:Nat),inStepss vars S l i = catS (l.map (inSteps vars S)) i
 | [],i=>rfl
 | a :: l,i=>by simp only [inStepss,List.map_cons,catS,inStepss_cat vars S l (i+1)]
theorem inSteps_eq (vars:List Str) (S:List (List AStep)) (t:Term):inSteps vars S t = if t.var then S.getD (ixS t.name vars) [] else catS (t.args.map (inSteps vars S)) 0:=by
 cases t;simp only [inSteps,inStepss_cat,Term.var,Term.name,Term.args];rfl
theorem sorted_ins (vars:List Str) (S:List (List AStep)) (hS:∀ s∈S,SortedS s) (t:Term):SortedS (inSteps vars S t):=by
 induction t using term_ind with
 | h t ih =>
 rw [inSteps_eq]
 split
 ·by_cases hk:ixS t.name vars < S.length
  ·rw [List.getD_eq_getElem?_getD,List.getElem?_eq_getElem hk]
   exact hS _ (List.getElem_mem hk)
  ·rw [List.getD_eq_getElem?_getD,List.getElem?_eq_none (by omega)]
   exact List.Pairwise.nil
 ·refine (sorted_cat _ 0 fun s hs=>?_).1
  obtain ⟨a,ha,rfl⟩:=List.mem_map.1 hs
  exact ih a ha
theorem stepsM_sorted (r:List ARule) (hr:∀ x∈r,x.left.var = false) (m:AMulti) (hm:OkM r m):SortedS (stepsM r m):=by
 induction m using multi_ind with
 | h m ih =>
 have hS:∀ s∈m.args.map (stepsM r),SortedS s:=fun s hs=>by
  obtain ⟨a,ha,rfl⟩:=List.mem_map.1 hs
  exact ih a ha (hm.arg ha)
 rw [stepsM_eq]
 split
 ·rename_i h0
  obtain ⟨k1,k2,k3,k4,k5,k6⟩:=hm.rule (by omega)
  rw [SortedS,List.pairwise_cons]
  refine ⟨fun b hb=>?_,sorted_ins _ _ hS _⟩
  rw [inSteps_eq,hr _ k3,if_neg (by simp)] at hb
  obtain ⟨k,p,_,h4⟩:=(sorted_cat _ 0 fun s hs=>by
   obtain ⟨a,ha,rfl⟩:=List.mem_map.1 hs
   exact sorted_ins _ _ hS a).2 b hb
  rw [h4]
  exact .nil
 ·exact (sorted_cat _ 0 hS).1
theorem sorted_distinct {l:List AStep} (h:SortedS l):l.Pairwise fun a b=>a.pos ≠ b.pos:=h.imp fun hab e=>by rw [e] at hab;exact lexP_irrefl _ hab
theorem step_eq {l:List AStep} (h:l.Pairwise fun a b=>a.pos ≠ b.pos):∀ {a b:AStep},a∈l→b∈l→a.pos = b.pos→a = b:=by
 induction l with
 | nil=>intro a b ha;cases ha
 | cons x l ih =>
  intro a b ha hb he
  obtain ⟨h1,h2⟩:=List.pairwise_cons.1 h
  rcases List.mem_cons.1 ha with e1 | ha2
  ·rcases List.mem_cons.1 hb with e2 | hb2
   ·rw [e1,e2]
   ·exact absurd (by rw [← e1];exact he) (h1 b hb2)
  ·rcases List.mem_cons.1 hb with e2 | hb2
   ·exact absurd (by rw [← e2];exact he.symm) (h1 a ha2)
   ·exact ih h2 ha2 hb2 he
theorem flatMap_append_perm {α β:Type} {f g:α→List β}:∀ l:List α,(l.flatMap fun x=>f x++g x).Perm (l.flatMap f++l.flatMap g)
 | []=>.refl _
 | x :: l=>by
  simp only [List.flatMap_cons]
  have ih:=flatMap_append_perm (f:=f) (g:=g) l
  have h1:(f x++g x++(l.flatMap fun x=>f x++g x)).Perm (f x++g x++(l.flatMap f++l.flatMap g)):=List.Perm.append_left _ ih
  refine h1.trans ?_
  rw [List.append_assoc,List.append_assoc]
  refine List.Perm.append_left _ ?_
  rw [← List.append_assoc,← List.append_assoc]
  exact List.Perm.append_right _ List.perm_append_comm
theorem flatMap_perm {α β:Type} {f g:α→List β}:∀ {l:List α},(∀ x∈l,(f x).Perm (g x))→(l.flatMap f).Perm (l.flatMap g)
 | [],_=>.refl _
 | x :: l,h=>by
  simp only [List.flatMap_cons]
  exact (h x (by simp)).append (flatMap_perm fun y hy=>h y (by simp [hy]))
theorem preS_nil (s:AStep):preS [] s = s:=rfl
theorem map_preS_nil (l:List AStep):l.map (preS []) = l:=by simp [show preS [] = id from funext preS_nil]
def occS (vars:List Str) (S:List (List AStep)) (L:Term):List AStep:=(List.range vars.length).flatMap fun i=>(occR (vars.getD i default) L).flatMap fun p=>(S.getD i []).map (preS p)
theorem occS_var (vars:List Str) (hn:vars.Nodup) (S:List (List AStep)) (n:Str) (h:n∈vars):occS vars S (.mk n true []) = S.getD (ixS n vars) []:=by
 obtain ⟨i1,i2,i3⟩:=idxI_ix h
 unfold occS
 have key:∀ k,k≤vars.length→((List.range k).flatMap fun i=>(occR (vars.getD i default) (.mk n true [])).flatMap fun p=>(S.getD i []).map (preS p)) = if ixS n vars < k then S.getD (ixS n vars) [] else []:=by
  intro k
  induction k with
  | zero=>intro _;simp
  | succ k ih =>
   intro hk
   rw [List.range_succ,List.flatMap_append,ih (by omega)]
   have hv:=ixS_getD hn (show k < vars.length by omega)
   simp only [List.flatMap_cons,List.flatMap_nil,List.append_nil,occR,occRs,Bool.true_and,decide_eq_true_eq]
   by_cases he:n = vars.getD k default
   ·rw [if_pos he]
    rw [← he] at hv
    rw [hv,if_neg (by omega),if_pos (by omega)]
    simp [map_preS_nil]
   ·rw [if_neg he]
    have:ixS n vars ≠ k:=fun e=>he (by rw [← i3,e])
    by_cases h1:ixS n vars < k
    ·rw [if_pos h1,if_pos (by omega)];simp
    ·rw [if_neg h1,if_neg (by omega)];simp
 rw [key _ (Nat.le_refl _),if_pos i2]
theorem occS_perm (vars:List Str) (hn:vars.Nodup) (S:List (List AStep)) (L:Term) (hs:short L = true) (ho:∀ n,occ n L = true→n∈vars):(occS vars S L).Perm (inSteps vars S L):=by
 induction L using term_ind with
 | h L ih =>
 cases L with
 | mk n b l =>
 cases b with
 | true =>
  have ha:l = []:=(short_iff.1 hs).2.1 rfl
  subst ha
  rw [occS_var vars hn S n (ho n (by simp [occ]))]
  simp only [inSteps,if_true]
  exact .refl _
 | false =>
  have h3:=(short_iff.1 hs).2.2
  have key:∀ (l2:List Term) (j:Nat),(∀ a∈l2,a∈l)→((List.range vars.length).flatMap fun i=>(occRs (vars.getD i default) l2 j).flatMap fun p=>(S.getD i []).map (preS p)).Perm (inStepss vars S l2 j):=by
   intro l2
   induction l2 with
   | nil=>intro j _;simp [occRs,inStepss]
   | cons a l2 ihl =>
    intro j hm
    have hma:=hm a (by simp)
    have hA:=ih a hma (h3 a hma) fun k hk=>ho k (occ_arg (t:=.mk n false l) hma hk)
    have hB:=ihl (j+1) fun c hc=>hm c (by simp [hc])
    simp only [occRs,inStepss,List.flatMap_append]
    refine (flatMap_append_perm _).trans (List.Perm.append ?_ hB)
    have e:((List.range vars.length).flatMap fun i=>((occR (vars.getD i default) a).map ((j:Int) :: ·)).flatMap fun p=>(S.getD i []).map (preS p)) = (occS vars S a).map (preS [(j:Int)]):=by
     unfold occS
     rw [List.map_flatMap]
     congr 1
     funext i
     rw [List.flatMap_map,List.map_flatMap]
     congr 1
     funext p
     rw [preS_preS];rfl
    rw [e]
    exact hA.map _
  simp only [inSteps,Bool.false_eq_true,if_false]
  refine (List.Perm.of_eq ?_).trans (key l 0 fun _ h=>h)
  unfold occS
  congr 1
theorem walkMs_range (r:List ARule) (st:Int→List (List Int)) (l:List AMulti):∀ k,k≤l.length→walkMs r st (l.take k) 0 = (List.range k).flatMap fun (i:Nat)=>(st (i:Int)).flatMap fun p=>(walkM r (l.getD i default)).map (preS p):=by
 intro k
 induction k with
 | zero=>intro _;simp [walkMs]
 | succ k ih =>
  intro hk
  rw [walkMs_take (by omega),ih (by omega),List.range_succ,List.flatMap_append]
  simp only [List.flatMap_cons,List.flatMap_nil,List.append_nil]
theorem catS_range (S:List (List AStep)):∀ (l:List (List AStep)) (i:Nat),catS l i = (List.range l.length).flatMap fun j=>(l.getD j []).map (preS [((i+j:Nat):Int)])
 | [],i=>rfl
 | s :: l,i=>by
  simp only [catS,List.length_cons]
  rw [List.range_succ_eq_map,List.flatMap_cons,List.flatMap_map,catS_range S l (i+1)]
  congr 1
  congr 1
  funext j
  simp only [Function.comp,List.getD_cons_succ]
  rw [show i+1+j = i+(j+1) by omega]
theorem walkM_perm (r:List ARule) (hr:∀ x∈r,short x.left = true) (m:AMulti) (hm:OkM r m):(walkM r m).Perm (stepsM r m):=by
 induction m using multi_ind with
 | h m ih =>
 have hwl:=walkMs_range r (startsM r m) m.args m.args.length (Nat.le_refl _)
 rw [List.take_length] at hwl
 rw [walkM_eq,stepsM_eq,hwl]
 have hS:∀ i,i < m.args.length→(m.args.map (stepsM r)).getD i [] = stepsM r (m.args.getD i default):=fun i hi=>by simp [List.getD_eq_getElem?_getD,hi]
 by_cases h0:0 < m.rule
 ·obtain ⟨k1,k2,k3,k4,k5,k6⟩:=hm.rule (by omega)
  rw [if_pos h0,if_pos h0]
  refine List.Perm.cons _ ?_
  refine List.Perm.trans ?_ (occS_perm (varsOf [(ruleOf r m).left]) (varsOf_nodup _) (m.args.map (stepsM r)) (ruleOf r m).left (hr _ k3) (varsOf_left _))
  unfold occS
  rw [← k4]
  refine flatMap_perm fun i hi=>?_
  have hi:=List.mem_range.1 hi
  rw [hS i hi]
  unfold startsM
  rw [if_pos h0,occM_R,Int.toNat_natCast]
  exact flatMap_perm fun p _=>(ih _ (getD_mem hi) (hm.arg (getD_mem hi))).map _
 ·rw [if_neg h0,if_neg h0,List.nil_append,catS_range (m.args.map (stepsM r)),List.length_map]
  refine flatMap_perm fun i hi=>?_
  have hi:=List.mem_range.1 hi
  rw [hS i hi]
  unfold startsM
  rw [if_neg h0]
  simp only [List.flatMap_cons,List.flatMap_nil,List.append_nil,Nat.zero_add]
  exact (ih _ (getD_mem hi) (hm.arg (getD_mem hi))).map _
theorem sort_walk (r:List ARule) (hr:∀ x∈r,short x.left = true) (hv:∀ x∈r,x.left.var = false) (m:AMulti) (hm:OkM r m):sortSt (walkM r m) = stepsM r m:=by
 have hp:=walkM_perm r hr m hm
 have hs:=stepsM_sorted r hv m hm
 have tr:∀ a b c:AStep,(!decide (cmpP b.pos a.pos < 0)) = true→(!decide (cmpP c.pos b.pos < 0)) = true→(!decide (cmpP c.pos a.pos < 0)) = true:=fun a b c h1 h2=>by
  simp only [Bool.not_eq_true',decide_eq_false_iff_not,cmpP_iff] at *
  intro h3
  rcases lexP_tri b.pos c.pos with h | h | h
  ·exact h1 (lexP_trans _ _ _ h h3)
  ·rw [← h] at h3;exact h1 h3
  ·exact h2 h
 have tot:∀ a b:AStep,((!decide (cmpP b.pos a.pos < 0)) || (!decide (cmpP a.pos b.pos < 0))) = true:=fun a b=>by
  simp only [Bool.or_eq_true,Bool.not_eq_true',decide_eq_false_iff_not,cmpP_iff]
  by_cases h:List.Lex (· < ·) b.pos a.pos
  ·exact .inr fun h2=>lexP_irrefl _ (lexP_trans _ _ _ h h2)
  ·exact .inl h
 have p1:=List.pairwise_mergeSort tr tot (walkM r m)
 have p2:(stepsM r m).Pairwise fun x y=>(!decide (cmpP y.pos x.pos < 0)) = true:=hs.imp fun hab=>by
  simp only [Bool.not_eq_true',decide_eq_false_iff_not,cmpP_iff]
  exact fun h2=>lexP_irrefl _ (lexP_trans _ _ _ hab h2)
 refine List.Perm.eq_of_pairwise (fun a b ha hb h1 h2=>?_) p1 p2 ((List.mergeSort_perm _ _).trans hp)
 simp only [Bool.not_eq_true',decide_eq_false_iff_not,cmpP_iff] at h1 h2
 refine step_eq (sorted_distinct hs) (hp.mem_iff.1 ((List.mergeSort_perm _ _).mem_iff.1 ha)) hb ?_
 rcases lexP_tri a.pos b.pos with h | h | h
 ·exact absurd h h2
 ·exact h
 ·exact absurd h h1
end Go.Dw
end
section
namespace Go.Dw
theorem mem_walkM {r:List ARule} {m:AMulti} {s:AStep}:s∈walkM r m ↔ (0 < m.rule∧s = ⟨m.rule - 1,[]⟩) ∨ ∃ i,i < m.args.length∧∃ p∈startsM r m (i:Int),∃ s'∈walkM r (m.args.getD i default),s = preS p s':=by
 have hwl:=walkMs_range r (startsM r m) m.args m.args.length (Nat.le_refl _)
 rw [List.take_length] at hwl
 rw [walkM_eq,hwl,List.mem_append,List.mem_flatMap]
 constructor
 ·rintro (h | ⟨i,hi,h⟩)
  ·split at h
   ·rename_i h0
    exact .inl ⟨h0,by simpa using h⟩
   ·cases h
  ·obtain ⟨p,hp,h⟩:=List.mem_flatMap.1 h
   obtain ⟨s',hs,rfl⟩:=List.mem_map.1 h
   exact .inr ⟨i,List.mem_range.1 hi,p,hp,s',hs,rfl⟩
 ·rintro (⟨h0,rfl⟩ | ⟨i,hi,p,hp,s',hs,rfl⟩)
  ·left;rw [if_pos h0];simp
  ·right
   exact ⟨i,List.mem_range.2 hi,List.mem_flatMap.2 ⟨p,hp,List.mem_map.2 ⟨s',hs,rfl⟩⟩⟩
theorem starts_sub {r:List ARule} (hc:checkSystem r = 0) {m:AMulti} (hm:OkM r m) {i:Nat} (hi:i < m.args.length) {p:List Int} (hp:p∈startsM r m (i:Int)):p ≠ []∧subT (sideM r ARule.left m) p = some (sideM r ARule.left (m.args.getD i default)):=by
 have hgi:(m.args.map (sideM r ARule.left)).getD i default = sideM r ARule.left (m.args.getD i default):=by simp [List.getD_eq_getElem?_getD,hi]
 rw [sideM_eq r _ m]
 unfold startsM at hp
 by_cases h0:0 < m.rule
 ·obtain ⟨k1,k2,k3,k4,k5,k6⟩:=hm.rule (by omega)
  rw [if_pos h0,Int.toNat_natCast] at hp
  rw [if_neg (by omega)]
  obtain ⟨y,y1,y2,y3⟩:=occM_at hp
  have hv:=checkSystem_nv hc _ k3
  have hsh:=(checkSystem_good hc _ k3).1.1
  refine ⟨?_,?_⟩
  ·rintro rfl
   cases y1
   rw [hv] at y2;cases y2
  ·have hxl:(varsOf [(ruleOf r m).left]).length≤(m.args.map (sideM r ARule.left)).length:=by rw [List.length_map];omega
   rw [← inst_bindL _ _ hxl _ (varsOf_left _),sub_inst p _ y hsh y1]
   have hiv:i < (varsOf [(ruleOf r m).left]).length:=by omega
   have hyv:∀ v,occ v y = true→v∈varsOf [(ruleOf r m).left]:=fun v h=>by
    have hys:short y = true:=subT_short p _ y y1 hsh
    rw [occ_eq,(short_iff.1 hys).2.1 y2,y3] at h
    simp only [occs,Bool.or_false,Bool.and_eq_true,decide_eq_true_eq] at h
    rw [← h.2]
    exact getD_mem hiv
   rw [inst_bindL _ _ hxl y hyv,plugT_eq,y2,if_pos rfl,y3,ixS_getD (varsOf_nodup _) hiv,hgi]
 ·rw [if_neg h0] at hp
  have hp:p = [(i:Int)]:=by simpa using hp
  subst hp
  have hr:=allM_self hm.rg
  unfold rangedM at hr
  rw [Bool.and_eq_true,decide_eq_true_eq] at hr
  rw [if_pos (by omega)]
  refine ⟨by simp,?_⟩
  show (if 0≤(i:Int)∧(i:Int) < ((m.args.map (sideM r ARule.left)).length:Int) then subT ((m.args.map (sideM r ARule.left)).getD (i:Int).toNat default) [] else none) = _
  rw [List.length_map,if_pos (by omega),Int.toNat_natCast,hgi];rfl
theorem leaf_free {L y y':Term} (hs:short L = true) {p p' a b:List Int} (h1:subT L p = some y) (h2:subT L p' = some y') (hv:y.var = true) (hv':y'.var = true) (he:p++a = p'++b):p = p':=by
 have hnil:∀ (p c:List Int) (y y':Term),subT L p = some y→y.var = true→subT L (p++c) = some y'→c = []:=fun p c y y' h1 hv h2=>by
  rw [subT_app,h1] at h2
  cases c with
  | nil=>rfl
  | cons i c =>
   have ha:=(short_iff.1 (subT_short p _ y h1 hs)).2.1 hv
   have h2:subT y (i :: c) = some y':=h2
   simp only [subT] at h2
   rw [ha,if_neg (by simp)] at h2
   cases h2
 rcases List.append_eq_append_iff.1 he with ⟨c,rfl,h⟩ | ⟨c,rfl,h⟩
 ·have:=hnil p c y y' h1 hv h2
  subst this;simp
 ·have:=hnil p' c y' y h2 hv' h1
  subst this;simp
theorem starts_free {r:List ARule} (hc:checkSystem r = 0) {m:AMulti} (hm:OkM r m) {i j:Nat} (hi:i < m.args.length) (hj:j < m.args.length) {p p' a b:List Int} (hp:p∈startsM r m (i:Int)) (hp':p'∈startsM r m (j:Int)) (he:p++a = p'++b):p = p'∧i = j:=by
 unfold startsM at hp hp'
 by_cases h0:0 < m.rule
 ·obtain ⟨k1,k2,k3,k4,k5,k6⟩:=hm.rule (by omega)
  rw [if_pos h0,Int.toNat_natCast] at hp hp'
  obtain ⟨y,y1,y2,y3⟩:=occM_at hp
  obtain ⟨z,z1,z2,z3⟩:=occM_at hp'
  have e:=leaf_free (checkSystem_good hc _ k3).1.1 y1 z1 y2 z2 he
  refine ⟨e,?_⟩
  subst e
  rw [y1] at z1;cases z1
  have h5:=ixS_getD (varsOf_nodup (ruleOf r m).left) (show i < _ by omega)
  have h6:=ixS_getD (varsOf_nodup (ruleOf r m).left) (show j < _ by omega)
  rw [← y3] at h5
  rw [← z3,h5] at h6
  exact h6
 ·rw [if_neg h0] at hp hp'
  have hp:p = [(i:Int)]:=by simpa using hp
  have hp':p' = [(j:Int)]:=by simpa using hp'
  subst hp hp'
  simp only [List.cons_append,List.cons.injEq] at he
  have:i = j:=by omega
  subst this
  exact ⟨rfl,rfl⟩
theorem walk_arg {r:List ARule} (hc:checkSystem r = 0) {m:AMulti} (hm:OkM r m) {i:Nat} (hi:i < m.args.length) {p:List Int} (hp:p∈startsM r m (i:Int)) (s:AStep):preS p s∈walkM r m ↔ s∈walkM r (m.args.getD i default):=by
 rw [mem_walkM]
 constructor
 ·rintro (⟨_,h⟩ | ⟨j,hj,p',hp',s',hs',h⟩)
  ·have h:p++s.pos = []:=by injection h
   exact absurd (List.append_eq_nil_iff.1 h).1 (starts_sub hc hm hi hp).1
  ·injection h with h1 h2
   obtain ⟨e1,e2⟩:=starts_free hc hm hi hj hp hp' h2
   subst e1 e2
   have h3:=List.append_cancel_left h2
   have:s = s':=by cases s;cases s';simp_all
   rw [this];exact hs'
 ·intro h
  exact .inr ⟨i,hi,p,hp,s,h,rfl⟩
theorem walk_mat {r:List ARule} (hc:checkSystem r = 0) (m:AMulti) (hm:OkM r m):∀ s∈walkM r m,∃ x,subT (sideM r ARule.left m) s.pos = some x∧0≤s.rule∧s.rule < r.length∧(matchT [] (leftOf r s) x).2 = true:=by
 induction m using multi_ind with
 | h m ih =>
 intro s hs
 rcases mem_walkM.1 hs with ⟨h0,rfl⟩ | ⟨i,hi,p,hp,s',hs',rfl⟩
 ·obtain ⟨k1,k2,k3,k4,k5,k6⟩:=hm.rule (by omega)
  refine ⟨_,rfl,by show 0≤m.rule - 1;omega,by show m.rule - 1 < _;omega,?_⟩
  rw [sideM_eq,if_neg (by omega)]
  have hxl:(varsOf [(ruleOf r m).left]).length≤(m.args.map (sideM r ARule.left)).length:=by rw [List.length_map];omega
  rw [← inst_bindL _ _ hxl _ (varsOf_left _)]
  exact (match_complete _ (ruleOf r m).left [] (fun n y h=>by cases h)).1
 ·obtain ⟨x,h1,h2⟩:=ih _ (getD_mem hi) (hm.arg (getD_mem hi)) s' hs'
  refine ⟨x,?_,h2⟩
  show subT _ (p++s'.pos) = _
  rw [subT_app,(starts_sub hc hm hi hp).2]
  exact h1
theorem visits_mem {x:List Int × Term}:∀ (l:List Term) (q:List Int) (i k:Nat),k < l.length→x∈visit (l.getD k default) (q++[((i+k:Nat):Int)])→x∈visits l q i
 | [],q,i,k,hk,_=>by simp at hk
 | a :: l,q,i,0,_,h=>by simp only [visits,List.mem_append];exact .inl h
 | a :: l,q,i,k+1,hk,h=>by
  simp only [visits,List.mem_append]
  exact .inr (visits_mem l q (i+1) k (by simpa using hk) (by rw [show i+1+k = i+(k+1) by omega];exact h))
theorem visit_mem:∀ (p:List Int) (t x:Term) (q:List Int),subT t p = some x→(q++p,x)∈visit t q
 | [],t,x,q,h=>by cases h;rw [visit_eq,List.append_nil];simp
 | i :: p,t,x,q,h=>by
  simp only [subT] at h
  split at h
  ·rename_i hi
   have ih:=visit_mem p _ x (q++[i]) h
   rw [visit_eq]
   refine List.mem_cons_of_mem _ (visits_mem t.args q 0 i.toNat (by omega) ?_)
   rw [show ((0+i.toNat:Nat):Int) = i by omega]
   simpa using ih
  ·cases h
theorem mem_posT {t x:Term} {p:List Int} (h:subT t p = some x):p∈posT t:=by
 have h1:=visit_mem p t x [] h
 have h2:=visit_pos t []
 have h3:p∈(visit t []).map Prod.fst:=List.mem_map.2 ⟨_,h1,by simp⟩
 rw [h2] at h3
 simpa using h3
theorem walk_len {r:List ARule} (hc:checkSystem r = 0) (m:AMulti) (hm:OkM r m):(walkM r m).length≤size (sideM r ARule.left m):=by
 have hp:=walkM_perm r (fun x hx=>(checkSystem_good hc x hx).1.1) m hm
 have hs:=sorted_distinct (stepsM_sorted r (checkSystem_nv hc) m hm)
 have hnd:((stepsM r m).map AStep.pos).Nodup:=by
  rw [List.Nodup,List.pairwise_map];exact hs
 have h1:=List.Nodup.length_le_of_subset hnd (l₂:=posT (sideM r ARule.left m)) fun q hq=>by
  obtain ⟨s,hs2,rfl⟩:=List.mem_map.1 hq
  obtain ⟨x,h2,_⟩:=walk_mat hc m hm s (hp.mem_iff.2 hs2)
  exact mem_posT h2
 rw [List.length_map,posT_len,← hp.length_eq] at h1
 exact h1
theorem walk_distinct {r:List ARule} (hc:checkSystem r = 0) (m:AMulti) (hm:OkM r m):(walkM r m).Pairwise fun a b=>a.pos ≠ b.pos:=by
 have hp:=walkM_perm r (fun x hx=>(checkSystem_good hc x hx).1.1) m hm
 have hs:=sorted_distinct (stepsM_sorted r (checkSystem_nv hc) m hm)
 exact (hp.pairwise_iff (fun h e=>h e.symm)).2 hs
def Rep (r:List ARule) (L:List AStep) (pos:List Int) (m:AMulti):Prop:=∀ s,preS pos s∈L ↔ s∈walkM r m
theorem Rep.sub {r:List ARule} (hc:checkSystem r = 0) {L:List AStep} {pos p:List Int} {m:AMulti} (h:Rep r L pos m) (hm:OkM r m) {i:Nat} (hi:i < m.args.length) (hp:p∈startsM r m (i:Int)):Rep r L (pos++p) (m.args.getD i default):=fun s=>by
 rw [← walk_arg hc hm hi hp s,← h (preS p s)]
 have:preS pos (preS p s) = preS (pos++p) s:=by simp [preS]
 rw [this]
theorem build_rep {r:List ARule} (hc:checkSystem r = 0) {L:List AStep} (hd:L.Pairwise fun a b=>a.pos ≠ b.pos):∀ (n:Nat) (m:AMulti) (pos:List Int),size (sideM r ARule.left m)≤n→OkM r m→Rep r L pos m→buildM r L n (sideM r ARule.left m) pos = (m,false)
 | 0,m,pos,hn,_,_=>by have:=size_pos (sideM r ARule.left m);omega
 | n+1,m,pos,hn,hm,hR=>by
  have harg:∀ (i:Nat) (p:List Int),i < m.args.length→p∈startsM r m (i:Int)→buildM r L n (sideM r ARule.left (m.args.getD i default)) (pos++p) = (m.args.getD i default,false):=fun i p hi hp=>by
   obtain ⟨h1,h2⟩:=starts_sub hc hm hi hp
   have h3:=subT_lt h1 h2
   exact build_rep hc hd n _ _ (by omega) (hm.arg (getD_mem hi)) (hR.sub hc hm hi hp)
  have hsl:(sideM r ARule.left m) = sideM r ARule.left m:=rfl
  by_cases h0:0 < m.rule
  ·obtain ⟨k1,k2,k3,k4,k5,k6⟩:=hm.rule (by omega)
   have hroot:(⟨m.rule - 1,pos⟩:AStep)∈L:=by
    have:=(hR ⟨m.rule - 1,[]⟩).2 (mem_walkM.2 (.inl ⟨h0,rfl⟩))
    simpa [preS] using this
   have hat:atM L pos = some ⟨m.rule - 1,pos⟩:=by
    cases ha:atM L pos with
    | none=>exact absurd rfl (atM_none.1 ha _ hroot)
    | some s =>
     obtain ⟨h1,h2⟩:=atM_some ha
     rw [step_eq hd h1 hroot h2]
   have hL:leftOf r ⟨m.rule - 1,pos⟩ = (ruleOf r m).left:=rfl
   have hsh:=(checkSystem_good hc _ k3).1.1
   simp only [buildM,hat,hL]
   have hov:(visit (ruleOf r m).left []).any (overB L pos) = false:=by
    rw [List.any_eq_false]
    intro x hx hov
    unfold overB at hov
    simp only [Bool.and_eq_true,Bool.not_eq_true',decide_eq_true_eq] at hov
    obtain ⟨o1,o2,o3⟩:=hov
    obtain ⟨s,hs⟩:=Option.isSome_iff_exists.1 o1
    obtain ⟨h1,h2⟩:=atM_some hs
    obtain ⟨q,hq1,hq2⟩:=visit_at _ _ x hx
    rw [List.nil_append] at hq1
    have h3:preS pos ⟨s.rule,x.1⟩∈L:=by
     have:preS pos ⟨s.rule,x.1⟩ = s:=by cases s;simp only [preS] at h2 ⊢;rw [h2]
     rw [this];exact h1
    rcases mem_walkM.1 ((hR _).1 h3) with ⟨_,h⟩ | ⟨i,hi,p,hp,s',hs',h⟩
    ·injection h with _ h
     rw [h] at o3;simp at o3
    ·injection h with _ h
     unfold startsM at hp
     rw [if_pos h0] at hp
     obtain ⟨y,y1,y2,y3⟩:=occM_at hp
     rw [← hq1] at hq2
     rw [h,subT_app,y1] at hq2
     have hq2:subT y s'.pos = some x.2:=hq2
     have ha:=(short_iff.1 (subT_short p _ y y1 hsh)).2.1 y2
     cases hsp:s'.pos with
     | nil =>
      rw [hsp] at hq2
      cases hq2
      rw [y2] at o2;cases o2
     | cons j q' =>
      rw [hsp] at hq2
      simp only [subT] at hq2
      rw [ha,if_neg (by simp)] at hq2
      cases hq2
   have hper:∀ i,i < m.args.length→((occM (ruleOf r m).left ((varsOf [(ruleOf r m).left]).getD i default)).map fun p=>buildM r L n (subD (sideM r ARule.left m) p) (pos++p)) = (occM (ruleOf r m).left ((varsOf [(ruleOf r m).left]).getD i default)).map fun _=>(m.args.getD i default,false):=fun i hi=>by
    refine List.map_congr_left fun p hp=>?_
    have hp2:p∈startsM r m (i:Int):=by unfold startsM;rw [if_pos h0,Int.toNat_natCast];exact hp
    have h2:=(starts_sub hc hm hi hp2).2
    unfold subD
    rw [h2]
    exact harg i p hi hp2
   have hne:∀ i,i < m.args.length→occM (ruleOf r m).left ((varsOf [(ruleOf r m).left]).getD i default) ≠ []:=fun i hi=>by
    have:=startsM_ne hm (i:=(i:Int)) ⟨by omega,by omega⟩
    unfold startsM at this
    rw [if_pos h0,Int.toNat_natCast] at this
    exact this
   have hfst:∀ i,i < m.args.length→fstB ((occM (ruleOf r m).left ((varsOf [(ruleOf r m).left]).getD i default)).map fun p=>buildM r L n (subD (sideM r ARule.left m) p) (pos++p)) = m.args.getD i default∧badB ((occM (ruleOf r m).left ((varsOf [(ruleOf r m).left]).getD i default)).map fun p=>buildM r L n (subD (sideM r ARule.left m) p) (pos++p)) = false:=fun i hi=>by
    rw [hper i hi]
    have hne:=hne i hi
    generalize occM (ruleOf r m).left ((varsOf [(ruleOf r m).left]).getD i default) = ps at hne
    cases ps with
    | nil=>exact absurd rfl hne
    | cons p ps =>
     refine ⟨rfl,?_⟩
     unfold badB
     rw [List.any_eq_false]
     intro b hb
     obtain ⟨q,_,rfl⟩:=List.mem_map.1 hb
     simp [fstB]
   have hargs:((varsOf [(ruleOf r m).left]).map fun v=>fstB ((occM (ruleOf r m).left v).map fun p=>buildM r L n (subD (sideM r ARule.left m) p) (pos++p))) = m.args:=by
    apply List.ext_getElem (by simp [k4])
    intro i h1 h2
    rw [List.getElem_map]
    have:=(hfst i h2).1
    rw [List.getD_eq_getElem?_getD,List.getElem?_eq_getElem (by omega),List.getD_eq_getElem?_getD,List.getElem?_eq_getElem h2] at this
    exact this
   have hbad:((varsOf [(ruleOf r m).left]).any fun v=>badB ((occM (ruleOf r m).left v).map fun p=>buildM r L n (subD (sideM r ARule.left m) p) (pos++p))) = false:=by
    rw [List.any_eq_false]
    intro v hv
    obtain ⟨i,hi,rfl⟩:=List.getElem_of_mem hv
    have:=(hfst i (by omega)).2
    rw [List.getD_eq_getElem?_getD,List.getElem?_eq_getElem hi,Option.getD_some] at this
    rw [this];simp
   rw [hargs,hbad,hov]
   have:AMulti.mk (m.rule - 1+1) [] false m.args = m:=by
    rw [show m.rule - 1+1 = m.rule by omega,← k5,← k6];exact AMulti.eta m
   rw [this];rfl
  ·have hrg:=allM_self hm.rg
   unfold rangedM at hrg
   rw [Bool.and_eq_true,decide_eq_true_eq] at hrg
   have hz:m.rule = 0:=by omega
   have hat:atM L pos = none:=by
    refine atM_none.2 fun s hs he=>?_
    have h3:preS pos ⟨s.rule,[]⟩∈L:=by
     have:preS pos ⟨s.rule,[]⟩ = s:=by cases s;simp only [preS] at he ⊢;rw [he];simp
     rw [this];exact hs
    rcases mem_walkM.1 ((hR _).1 h3) with ⟨h,_⟩ | ⟨i,hi,p,hp,s',hs',h⟩
    ·exact h0 h
    ·injection h with _ h
     exact (starts_sub hc hm hi hp).1 (List.append_eq_nil_iff.1 h.symm).1
   have hst:∀ i:Nat,[(i:Int)]∈startsM r m (i:Int):=fun i=>by unfold startsM;rw [if_neg h0];simp
   have hS:sideM r ARule.left m = .mk m.name m.var (m.args.map (sideM r ARule.left)):=by rw [sideM_eq,if_pos hz]
   have hb:∀ i,i < m.args.length→buildM r L n ((m.args.map (sideM r ARule.left)).getD i default) (pos++[(i:Int)]) = (m.args.getD i default,false):=fun i hi=>by
    have e:(m.args.map (sideM r ARule.left)).getD i default = sideM r ARule.left (m.args.getD i default):=by simp [List.getD_eq_getElem?_getD,hi]
    rw [e]
    exact harg i _ hi (hst i)
   rw [hS]
   simp only [buildM,hat,Term.args,Term.name,Term.var,List.length_map]
   have h1:((List.range m.args.length).map fun i=>(buildM r L n ((m.args.map (sideM r ARule.left)).getD i default) (pos++[(i:Int)])).1) = m.args:=by
    apply List.ext_getElem (by simp)
    intro i h1 h2
    rw [List.getElem_map,List.getElem_range,hb i h2,List.getD_eq_getElem?_getD,List.getElem?_eq_getElem h2];rfl
   have h2:((List.range m.args.length).any fun i=>(buildM r L n ((m.args.map (sideM r ARule.left)).getD i default) (pos++[(i:Int)])).2) = false:=by
    rw [List.any_eq_false]
    intro i hi
    rw [hb i (List.mem_range.1 hi)];simp
   rw [h1,h2]
   have:AMulti.mk 0 m.name m.var m.args = m:=by rw [← hz];exact AMulti.eta m
   rw [this]
end Go.Dw
end
section
namespace Go.Dw
theorem posTs_head:∀ (l:List Term) (i:Nat) (p:List Int),p∈posTs l i→∃ (k:Nat) (q:List Int),p = ((i+k:Nat):Int) :: q∧k < l.length∧q∈posT (l.getD k default)
 | [],_,_,h=>by cases h
 | a :: l,i,p,h=>by
  simp only [posTs,List.mem_append,List.mem_map] at h
  rcases h with ⟨q,hq,rfl⟩ | h
  ·exact ⟨0,q,rfl,by simp,hq⟩
  ·obtain ⟨k,q,h1,h2,h3⟩:=posTs_head l (i+1) p h
   exact ⟨k+1,q,by rw [h1];congr 2;omega,by simpa using h2,by simpa using h3⟩
mutual
theorem posT_nodup:∀ t:Term,(posT t).Nodup
 | .mk n v l=>by
  simp only [posT]
  refine List.nodup_cons.2 ⟨fun h=>?_,posTs_nodup l 0⟩
  obtain ⟨k,q,h1,_⟩:=posTs_head l 0 [] h
  cases h1
theorem posTs_nodup:∀ (l:List Term) (i:Nat),(posTs l i).Nodup
 | [],_=>List.nodup_nil
 | a :: l,i=>by
  simp only [posTs]
  refine List.nodup_append.2 ⟨?_,posTs_nodup l (i+1),fun p hp q hq e=>?_⟩
  ·have:=posT_nodup a
   rw [List.Nodup,List.pairwise_map]
   exact this.imp fun h e=>h (by injection e)
  ·obtain ⟨p',_,rfl⟩:=List.mem_map.1 hp
   obtain ⟨k,q',h1,_⟩:=posTs_head l (i+1) q hq
   rw [h1] at e
   injection e with e _
   omega
end
theorem occM_nodup (t:Term) (v:Str):(occM t v).Nodup:=by
 have h:=visit_pos t []
 have h2:((visit t []).map Prod.fst).Nodup:=by rw [h];simpa using posT_nodup t
 have h3:((visit t []).filter (isV v)).Sublist (visit t []):=List.filter_sublist
 exact List.Nodup.sublist (h3.map Prod.fst) h2
def underS:List AStep→List Int→List AStep
 | [],_=>[]
 | s :: l,p=>if p.isPrefixOf s.pos then ⟨s.rule,s.pos.drop p.length⟩ :: underS l p else underS l p
theorem mem_underS {p:List Int} {x:AStep}:∀ {l:List AStep},x∈underS l p ↔ preS p x∈l
 | []=>by simp [underS]
 | s :: l=>by
  simp only [underS]
  by_cases h:p.isPrefixOf s.pos
  ·rw [if_pos h,List.mem_cons,List.mem_cons,mem_underS]
   obtain ⟨q,hq⟩:=List.isPrefixOf_iff_prefix.1 h
   refine or_congr ?_ Iff.rfl
   rw [← hq,List.drop_left]
   constructor
   ·rintro rfl;cases s;simp only [preS] at hq ⊢;rw [hq]
   ·intro e;cases x;cases s;simp only [preS,AStep.mk.injEq] at e hq ⊢
    exact ⟨e.1,List.append_cancel_left (e.2.trans hq.symm)⟩
  ·rw [if_neg h,List.mem_cons,mem_underS]
   constructor
   ·exact .inr
   ·rintro (e | e)
    ·exact absurd (by rw [← e];exact List.isPrefixOf_iff_prefix.2 ⟨x.pos,rfl⟩) h
    ·exact e
abbrev DistS (l:List AStep):Prop:=l.Pairwise fun a b=>a.pos ≠ b.pos
theorem dist_under {p:List Int}:∀ {l:List AStep},DistS l→DistS (underS l p)
 | [],_=>List.Pairwise.nil
 | s :: l,h=>by
  obtain ⟨h1,h2⟩:=List.pairwise_cons.1 h
  simp only [underS]
  split
  ·rename_i hp
   obtain ⟨q,hq⟩:=List.isPrefixOf_iff_prefix.1 hp
   refine List.pairwise_cons.2 ⟨fun x hx e=>?_,dist_under h2⟩
   have h3:=h1 _ (mem_underS.1 hx)
   rw [← hq,List.drop_left] at e
   refine h3 ?_
   rw [← hq]
   exact congrArg (p++·) e
  ·exact dist_under h2
theorem DistS.nodup {l:List AStep} (h:DistS l):l.Nodup:=h.imp fun hab e=>hab (by rw [e])
def rootS (l:List AStep):List AStep:=l.filter fun s=>decide (s.pos = [])
theorem mem_rootS {l:List AStep} {s:AStep}:s∈rootS l ↔ s∈l∧s.pos = []:=by simp [rootS]
def sameSt (a b:List AStep):Bool:=a.all (fun s=>decide (s∈b)) && decide (a.length = b.length)
theorem perm_of_sub:∀ {a b:List AStep},a.Nodup→(∀ s∈a,s∈b)→a.length = b.length→a.Perm b
 | [],b,_,_,h=>by
  have:b = []:=List.eq_nil_of_length_eq_zero (by simpa using h.symm)
  subst this;exact List.Perm.nil
 | x :: a,b,hn,hs,hl=>by
  obtain ⟨h1,h2⟩:=List.nodup_cons.1 hn
  have hx:=hs x (by simp)
  have hp:=List.perm_cons_erase hx
  have h3:=List.length_erase_of_mem hx
  have hpos:=List.length_pos_of_mem hx
  simp only [List.length_cons] at hl
  have ih:=perm_of_sub (a:=a) (b:=b.erase x) h2 (fun s h=>(List.mem_erase_of_ne (fun e=>h1 (by rw [← e];exact h))).2 (hs s (by simp [h]))) (by omega)
  exact (ih.cons x).trans hp.symm
theorem sameSt_perm {a b:List AStep} (hn:a.Nodup) (h:sameSt a b = true):a.Perm b:=by
 unfold sameSt at h
 rw [Bool.and_eq_true,List.all_eq_true,decide_eq_true_eq] at h
 exact perm_of_sub hn (fun s hs=>of_decide_eq_true (h.1 s hs)) h.2
theorem perm_same {a b:List AStep} (h:a.Perm b):sameSt a b = true:=by
 unfold sameSt
 rw [Bool.and_eq_true,List.all_eq_true,decide_eq_true_eq]
 exact ⟨fun s hs=>decide_eq_true (h.mem_iff.1 hs),h.length_eq⟩
theorem perm_of_mem {a b:List AStep} (ha:a.Nodup) (hb:b.Nodup) (h:∀ s,s∈a ↔ s∈b):a.Perm b:=by
 have h1:=List.Nodup.length_le_of_subset ha (l₂:=b) fun s hs=>(h s).1 hs
 have h2:=List.Nodup.length_le_of_subset hb (l₂:=a) fun s hs=>(h s).2 hs
 exact perm_of_sub ha (fun s hs=>(h s).1 hs) (by omega)
def optAll {α:Type}:List (Option α)→Option (List α)
 | []=>some []
 | none :: _=>none
 | some a :: l=>(optAll l).map (a :: ·)
theorem optAll_some {α:Type}:∀ {l:List (Option α)} {m:List α},optAll l = some m ↔ l = m.map some
 | [],m=>by cases m <;> simp [optAll]
 | none :: l,m=>by cases m <;> simp [optAll]
 | some a :: l,m=>by
  simp only [optAll,Option.map_eq_some_iff]
  constructor
  ·rintro ⟨k,h,rfl⟩
   rw [optAll_some.1 h];rfl
  ·intro h
   cases m with
   | nil=>cases h
   | cons b m =>
    simp only [List.map_cons,List.cons.injEq,Option.some.injEq] at h
    obtain ⟨rfl,h⟩:=h
    exact ⟨m,optAll_some.2 h,rfl⟩
def varO (f:List Int→Option AMulti) (l:List AStep):List (List Int)→Option AMulti
 | []=>none
 | p :: ps=>if ps.all fun q=>sameSt (underS l p) (underS l q) then f p else none
def seenS (l:List AStep) (ps:List (List Int)):Nat:=ps.foldr (fun p n=>(underS l p).length+n) 0
def ofR (r:List ARule):Nat→Term→List AStep→Option AMulti
 | 0,_,_=>none
 | n+1,t,l=>match rootS l with
  | []=>(optAll ((List.range t.args.length).map fun i=>ofR r n (t.args.getD i default) (underS l [(i:Int)]))).map (.mk 0 t.name t.var)
  | [s]=>if 1+seenS l ((varsOf [leftOf r s]).flatMap (occM (leftOf r s))) = l.length then
    (optAll ((varsOf [leftOf r s]).map fun v=>varO (fun p=>ofR r n (subD t p) (underS l p)) l (occM (leftOf r s) v))).map (.mk (s.rule+1) [] false) else none
  | _ :: _ :: _=>none
end Go.Dw
end
section
namespace Go.Dw
theorem only_one {l:List AStep} {x:AStep} (hn:l.Nodup) (h:∀ s,s∈l ↔ s = x):l = [x]:=by
 cases l with
 | nil=>exact absurd ((h x).2 rfl) (by simp)
 | cons y l =>
  obtain rfl:=(h y).1 (by simp)
  obtain ⟨h1,h2⟩:=List.nodup_cons.1 hn
  cases l with
  | nil=>rfl
  | cons z l =>
   obtain rfl:=(h z).1 (by simp)
   exact absurd (by simp) h1
theorem range_getD {α:Type} [Inhabited α] (l:List α):(List.range l.length).map (fun i=>l.getD i default) = l:=by
 apply List.ext_getElem (by simp)
 intro i h1 h2
 simp [List.getD_eq_getElem?_getD,h2]
theorem flat_range {α β:Type} [Inhabited α] (F:α→List β) (l:List α):l.flatMap F = (List.range l.length).flatMap fun i=>F (l.getD i default):=by
 conv=>lhs;rw [← range_getD l]
 rw [List.flatMap_map]
theorem seenS_flat (l:List AStep):∀ ps:List (List Int),seenS l ps = (ps.flatMap fun p=>(underS l p).map (preS p)).length
 | []=>rfl
 | p :: ps=>by
  have:=seenS_flat l ps
  unfold seenS at this ⊢
  simp only [List.foldr_cons,List.flatMap_cons,List.length_append,List.length_map]
  rw [this]
theorem rep_under {r:List ARule} (hc:checkSystem r = 0) {l:List AStep} {m:AMulti} (hm:OkM r m) (hR:Rep r l [] m) {i:Nat} (hi:i < m.args.length) {p:List Int} (hp:p∈startsM r m (i:Int)):Rep r (underS l p) [] (m.args.getD i default):=fun s=>by
 rw [← walk_arg hc hm hi hp s,← hR (preS p s)]
 exact mem_underS
theorem rep_perm {r:List ARule} (hc:checkSystem r = 0) {l:List AStep} {m:AMulti} (hm:OkM r m) (hd:DistS l) (hR:Rep r l [] m):l.Perm (walkM r m):=perm_of_mem hd.nodup (DistS.nodup (walk_distinct hc m hm)) hR
theorem ofR_rep {r:List ARule} (hc:checkSystem r = 0):∀ (n:Nat) (m:AMulti) (l:List AStep),size (sideM r ARule.left m)≤n→OkM r m→DistS l→Rep r l [] m→ofR r n (sideM r ARule.left m) l = some m
 | 0,m,_,hn,_,_,_=>by have:=size_pos (sideM r ARule.left m);omega
 | n+1,m,l,hn,hm,hd,hR=>by
  have harg:∀ (i:Nat) (p:List Int),i < m.args.length→p∈startsM r m (i:Int)→ofR r n (sideM r ARule.left (m.args.getD i default)) (underS l p) = some (m.args.getD i default):=fun i p hi hp=>by
   obtain ⟨h1,h2⟩:=starts_sub hc hm hi hp
   have h3:=subT_lt h1 h2
   exact ofR_rep hc n _ _ (by omega) (hm.arg (getD_mem hi)) (dist_under hd) (rep_under hc hm hR hi hp)
  have hup:∀ (i:Nat) (p:List Int),i < m.args.length→p∈startsM r m (i:Int)→(underS l p).Perm (walkM r (m.args.getD i default)):=fun i p hi hp=>rep_perm hc (hm.arg (getD_mem hi)) (dist_under hd) (rep_under hc hm hR hi hp)
  by_cases h0:0 < m.rule
  ·obtain ⟨k1,k2,k3,k4,k5,k6⟩:=hm.rule (by omega)
   have hroot:rootS l = [⟨m.rule - 1,[]⟩]:=by
    refine only_one (List.Nodup.sublist List.filter_sublist hd.nodup) fun s=>?_
    rw [mem_rootS]
    constructor
    ·rintro ⟨h1,h2⟩
     rcases mem_walkM.1 ((hR s).1 h1) with ⟨_,h⟩ | ⟨i,hi,p,hp,s',hs',h⟩
     ·exact h
     ·rw [h] at h2
      exact absurd (List.append_eq_nil_iff.1 h2).1 (starts_sub hc hm hi hp).1
    ·rintro rfl
     exact ⟨(hR _).2 (mem_walkM.2 (.inl ⟨h0,rfl⟩)),rfl⟩
   have hL:leftOf r ⟨m.rule - 1,[]⟩ = (ruleOf r m).left:=rfl
   have hst:∀ i:Nat,startsM r m (i:Int) = occM (ruleOf r m).left ((varsOf [(ruleOf r m).left]).getD i default):=fun i=>by unfold startsM;rw [if_pos h0,Int.toNat_natCast]
   have hseen:1+seenS l ((varsOf [(ruleOf r m).left]).flatMap (occM (ruleOf r m).left)) = l.length:=by
    rw [(rep_perm hc hm hd hR).length_eq,walkM_eq,if_pos h0]
    have hwl:=walkMs_range r (startsM r m) m.args m.args.length (Nat.le_refl _)
    rw [List.take_length] at hwl
    rw [hwl,List.length_append,List.length_singleton,seenS_flat,List.flatMap_assoc,flat_range,k4]
    congr 1
    refine List.Perm.length_eq (flatMap_perm fun i hi=>?_)
    have hi:=List.mem_range.1 hi
    rw [hst i]
    refine flatMap_perm fun p hp=>?_
    exact (hup i p (by omega) (by rw [hst i];exact hp)).map _
   simp only [ofR,hroot,hL]
   rw [if_pos hseen]
   have hall:optAll ((varsOf [(ruleOf r m).left]).map fun v=>varO (fun p=>ofR r n (subD (sideM r ARule.left m) p) (underS l p)) l (occM (ruleOf r m).left v)) = some m.args:=by
    rw [optAll_some]
    apply List.ext_getElem (by simp [k4])
    intro i h1 h2
    rw [List.getElem_map,List.getElem_map]
    have hi:i < m.args.length:=by simpa using h2
    have hv:(varsOf [(ruleOf r m).left])[i]'(by simpa using h1) = (varsOf [(ruleOf r m).left]).getD i default:=by
     rw [List.getD_eq_getElem?_getD,List.getElem?_eq_getElem (by simpa using h1)];rfl
    rw [hv,← hst i]
    have hne:=startsM_ne hm (i:=(i:Int)) ⟨by omega,by omega⟩
    have hmi:m.args[i] = m.args.getD i default:=by rw [List.getD_eq_getElem?_getD,List.getElem?_eq_getElem hi];rfl
    rw [hmi]
    have hup:=hup i
    have harg:=harg i
    have hss:=fun p (hp:p∈startsM r m (i:Int))=>(starts_sub hc hm hi hp).2
    generalize startsM r m (i:Int) = ps at hne hup harg hss
    cases ps with
    | nil=>exact absurd rfl hne
    | cons p ps =>
     unfold varO
     have ha:(ps.all fun q=>sameSt (underS l p) (underS l q)) = true:=by
      rw [List.all_eq_true]
      intro q hq
      exact perm_same ((hup p hi (by simp)).trans (hup q hi (by simp [hq])).symm)
     simp only
     rw [ha,if_pos rfl]
     have hsd:subD (sideM r ARule.left m) p = sideM r ARule.left (m.args.getD i default):=by unfold subD;rw [hss p (by simp)];rfl
     rw [hsd]
     exact harg p hi (by simp)
   rw [hall]
   simp only [Option.map_some,Option.some.injEq]
   rw [show m.rule - 1+1 = m.rule by omega,← k5,← k6];exact AMulti.eta m
  ·have hrg:=allM_self hm.rg
   unfold rangedM at hrg
   rw [Bool.and_eq_true,decide_eq_true_eq] at hrg
   have hz:m.rule = 0:=by omega
   have hroot:rootS l = []:=by
    refine List.eq_nil_iff_forall_not_mem.2 fun s hs=>?_
    obtain ⟨h1,h2⟩:=mem_rootS.1 hs
    rcases mem_walkM.1 ((hR s).1 h1) with ⟨h,_⟩ | ⟨i,hi,p,hp,s',hs',h⟩
    ·exact h0 h
    ·rw [h] at h2
     exact absurd (List.append_eq_nil_iff.1 h2).1 (starts_sub hc hm hi hp).1
   have hS:sideM r ARule.left m = .mk m.name m.var (m.args.map (sideM r ARule.left)):=by rw [sideM_eq,if_pos hz]
   have hst:∀ i:Nat,[(i:Int)]∈startsM r m (i:Int):=fun i=>by unfold startsM;rw [if_neg h0];simp
   rw [hS]
   simp only [ofR,hroot,Term.args,Term.name,Term.var,List.length_map]
   have hall:optAll ((List.range m.args.length).map fun i=>ofR r n ((m.args.map (sideM r ARule.left)).getD i default) (underS l [(i:Int)])) = some m.args:=by
    rw [optAll_some]
    apply List.ext_getElem (by simp)
    intro i h1 h2
    have hi:i < m.args.length:=by simpa using h2
    rw [List.getElem_map,List.getElem_map,List.getElem_range]
    have e:(m.args.map (sideM r ARule.left)).getD i default = sideM r ARule.left (m.args.getD i default):=by simp [List.getD_eq_getElem?_getD,hi]
    have hmi:m.args[i] = m.args.getD i default:=by rw [List.getD_eq_getElem?_getD,List.getElem?_eq_getElem hi];rfl
    rw [e,hmi]
    exact harg i _ hi (hst i)
   rw [hall]
   simp only [Option.map_some,Option.some.injEq]
   rw [← hz];exact AMulti.eta m
theorem MatS.under {r:List ARule} {l:List AStep} {t u:Term} {p:List Int} (h:MatS r l t []) (hu:subT t p = some u):MatS r (underS l p) u []:=by
 intro s hs q hq
 obtain ⟨x,h1,h2⟩:=h _ (mem_underS.1 hs) (p++q) (by show p++s.pos = _;rw [hq];rfl)
 rw [subT_app,hu] at h1
 exact ⟨x,h1,h2⟩
theorem dist_split (P:List (List Int)):∀ l:List AStep,(∀ s∈l,s.pos = [] ∨ ∃ p∈P,p <+: s.pos)→(∀ p∈P,DistS (underS l p))→(rootS l).length≤1→DistS l
 | [],_,_,_=>List.Pairwise.nil
 | s :: l,hc,hd,hr=>by
  have hs0:=hc s (by simp)
  refine List.pairwise_cons.2 ⟨fun x hx e=>?_,dist_split P l (fun x hx=>hc x (by simp [hx])) (fun p hp=>?_) ?_⟩
  ·rcases hs0 with h | ⟨p,hp,q,hq⟩
   ·have h1:rootS (s :: l) = s :: rootS l:=by unfold rootS;rw [List.filter_cons_of_pos (by simpa using h)]
    have h2:x∈rootS l:=mem_rootS.2 ⟨hx,by rw [← e,h]⟩
    rw [h1,List.length_cons] at hr
    have:=List.length_pos_of_mem h2
    omega
   ·have h1:=hd p hp
    simp only [underS] at h1
    rw [if_pos (List.isPrefixOf_iff_prefix.2 ⟨q,hq⟩)] at h1
    have h2:=(List.pairwise_cons.1 h1).1 ⟨x.rule,q⟩ (mem_underS.2 (by
     have:preS p ⟨x.rule,q⟩ = x:=by cases x;simp only [preS] at e ⊢;rw [hq,e]
     rw [this];exact hx))
    rw [← hq,List.drop_left] at h2
    exact h2 rfl
  ·have h1:=hd p hp
   simp only [underS] at h1
   split at h1
   ·exact (List.pairwise_cons.1 h1).2
   ·exact h1
  ·unfold rootS at hr ⊢
   rw [List.filter_cons] at hr
   split at hr
   ·simp only [List.length_cons] at hr;omega
   ·exact hr
theorem plug_inst {σ:List ABind} {vars:List Str} {xs:List Term} (L:Term) (h:∀ n,occ n L = true→xs.getD (ixS n vars) default = imgV σ n):plugT vars xs L = inst σ L:=by
 induction L using term_ind with
 | h L ih =>
 rw [plugT_eq,inst_eq]
 split
 ·rename_i hv
  exact h L.name (by rw [occ_eq,hv];simp)
 ·congr 1
  exact List.map_congr_left fun a ha=>ih a ha fun n hn=>h n (by rw [occ_eq];simp only [Bool.or_eq_true];exact .inr (occs_mem ha hn))
end Go.Dw
end
section
namespace Go.Dw
theorem seenS_c (l:List AStep) (p:List Int) (P:List (List Int)):seenS l (p :: P) = (underS l p).length+seenS l P:=rfl
theorem seenS_nil:∀ P:List (List Int),seenS [] P = 0
 | []=>rfl
 | p :: P=>by rw [seenS_c,seenS_nil P];rfl
theorem seenS_cons (s:AStep) (l:List AStep):∀ P:List (List Int),seenS (s :: l) P = (P.filter fun p=>p.isPrefixOf s.pos).length+seenS l P
 | []=>rfl
 | p :: P=>by
  rw [seenS_c,seenS_c,seenS_cons s l P]
  simp only [underS]
  by_cases h:p.isPrefixOf s.pos
  ·rw [if_pos h,List.filter_cons,if_pos h]
   simp only [List.length_cons];omega
  ·rw [if_neg h,List.filter_cons,if_neg h];omega
abbrev Apart (P:List (List Int)):Prop:=P.Pairwise fun p q=>∀ a b,p++a ≠ q++b
theorem apart_one {P:List (List Int)} (h:Apart P) (s:List Int):(P.filter fun p=>p.isPrefixOf s).length≤1:=by
 have h2:=List.Pairwise.sublist (List.filter_sublist (p:=fun p=>p.isPrefixOf s)) h
 have h3:∀ p∈P.filter fun p=>p.isPrefixOf s,∃ a,p++a = s:=fun p hp=>by
  obtain ⟨a,ha⟩:=List.isPrefixOf_iff_prefix.1 (List.mem_filter.1 hp).2
  exact ⟨a,ha⟩
 generalize P.filter (fun p=>p.isPrefixOf s) = F at h2 h3
 cases F with
 | nil=>simp
 | cons p F =>
  cases F with
  | nil=>simp
  | cons q F =>
   obtain ⟨a,ha⟩:=h3 p (by simp)
   obtain ⟨b,hb⟩:=h3 q (by simp)
   exact absurd (ha.trans hb.symm) ((List.pairwise_cons.1 h2).1 q (by simp) a b)
theorem seen_cover {P:List (List Int)} (hP:Apart P) (hne:∀ p∈P,p ≠ []):∀ l:List AStep,(rootS l).length+seenS l P≤l.length∧((rootS l).length+seenS l P = l.length→∀ s∈l,s.pos = [] ∨ ∃ p∈P,p <+: s.pos)
 | []=>by
  have h0:=seenS_nil P
  rw [h0]
  exact ⟨by simp [rootS],fun _ s hs=>by cases hs⟩
 | s :: l=>by
  obtain ⟨h1,h2⟩:=seen_cover hP hne l
  have h3:=apart_one hP s.pos
  rw [seenS_cons]
  by_cases hr:s.pos = []
  ·have e:rootS (s :: l) = s :: rootS l:=by unfold rootS;rw [List.filter_cons_of_pos (by simpa using hr)]
   have e2:(P.filter fun p=>p.isPrefixOf s.pos) = []:=by
    rw [List.filter_eq_nil_iff]
    intro p hp h
    obtain ⟨a,ha⟩:=List.isPrefixOf_iff_prefix.1 h
    rw [hr] at ha
    exact hne p hp (List.append_eq_nil_iff.1 ha).1
   rw [e,e2]
   simp only [List.length_cons,List.length_nil]
   refine ⟨by omega,fun h x hx=>?_⟩
   rcases List.mem_cons.1 hx with rfl | hx
   ·exact .inl hr
   ·exact h2 (by omega) x hx
  ·have e:rootS (s :: l) = rootS l:=by unfold rootS;rw [List.filter_cons_of_neg (by simpa using hr)]
   rw [e]
   simp only [List.length_cons]
   refine ⟨by omega,fun h x hx=>?_⟩
   rcases List.mem_cons.1 hx with rfl | hx
   ·right
    have:(P.filter fun p=>p.isPrefixOf x.pos) ≠ []:=fun e=>by rw [e] at h;simp only [List.length_nil] at h;omega
    obtain ⟨p,hp⟩:=List.exists_mem_of_ne_nil _ this
    obtain ⟨h5,h6⟩:=List.mem_filter.1 hp
    exact ⟨p,h5,List.isPrefixOf_iff_prefix.1 h6⟩
   ·exact h2 (by omega) x hx
theorem vars_apart {L:Term} (hs:short L = true) (hv:L.var = false):Apart ((varsOf [L]).flatMap (occM L))∧∀ p∈(varsOf [L]).flatMap (occM L),p ≠ []:=by
 refine ⟨?_,fun p hp=>?_⟩
 ·refine List.pairwise_flatMap.2 ⟨fun v _=>?_,?_⟩
  ·refine List.Pairwise.imp_of_mem (fun {p q} hp hq h a b e=>?_) (occM_nodup L v)
   obtain ⟨y,y1,y2,_⟩:=occM_at hp
   obtain ⟨z,z1,z2,_⟩:=occM_at hq
   exact h (leaf_free hs y1 z1 y2 z2 e)
  ·refine List.Pairwise.imp (fun {v w} h p hp q hq a b e=>?_) (varsOf_nodup L)
   obtain ⟨y,y1,y2,y3⟩:=occM_at hp
   obtain ⟨z,z1,z2,z3⟩:=occM_at hq
   have e:=leaf_free hs y1 z1 y2 z2 e
   subst e
   rw [y1] at z1;cases z1
   exact h (y3.symm.trans z3)
 ·obtain ⟨v,_,hp⟩:=List.mem_flatMap.1 hp
  obtain ⟨y,y1,y2,_⟩:=occM_at hp
  rintro rfl
  cases y1
  rw [hv] at y2;cases y2
theorem varO_some {f:List Int→Option AMulti} {l:List AStep} {ps:List (List Int)} {m:AMulti} (h:varO f l ps = some m):∃ p qs,ps = p :: qs∧f p = some m∧∀ q∈qs,sameSt (underS l p) (underS l q) = true:=by
 cases ps with
 | nil=>cases h
 | cons p qs =>
  unfold varO at h
  simp only at h
  split at h
  ·rename_i ha
   exact ⟨p,qs,rfl,h,fun q hq=>List.all_eq_true.1 ha q hq⟩
  ·cases h
theorem okM_node {r:List ARule} {t:Term} {ms:List AMulti} (ht:nodeOk t.name t.var t.args.length = true) (hl:ms.length = t.args.length) (h:∀ a∈ms,OkM r a):OkM r (.mk 0 t.name t.var ms):=by
 constructor
 ·rw [allM_eq,Bool.and_eq_true]
  refine ⟨by unfold rangedM;simp [AMulti.rule],List.all_eq_true.2 fun a ha=>(h a ha).rg⟩
 ·rw [allM_eq,Bool.and_eq_true]
  refine ⟨?_,List.all_eq_true.2 fun a ha=>(h a ha).fm⟩
  unfold formedM
  rw [if_neg (by simp [AMulti.rule])]
  simp only [AMulti.var,AMulti.name,AMulti.args,hl]
  exact ht
theorem okM_rule {r:List ARule} {k:Int} {ms:List AMulti} (h0:0≤k) (h1:k < r.length) (hl:ms.length = (varsOf [(r.getD k.toNat default).left]).length) (h:∀ a∈ms,OkM r a):OkM r (.mk (k+1) [] false ms):=by
 constructor
 ·rw [allM_eq,Bool.and_eq_true]
  refine ⟨?_,List.all_eq_true.2 fun a ha=>(h a ha).rg⟩
  unfold rangedM
  rw [Bool.and_eq_true,decide_eq_true_eq,decide_eq_true_eq]
  show 0≤k+1∧k+1≤(r.length:Int)
  omega
 ·rw [allM_eq,Bool.and_eq_true]
  refine ⟨?_,List.all_eq_true.2 fun a ha=>(h a ha).fm⟩
  unfold formedM
  have hk:(AMulti.mk (k+1) [] false ms).rule = k+1:=rfl
  rw [hk,if_pos (by omega)]
  have hru:ruleOf r (.mk (k+1) [] false ms) = r.getD k.toNat default:=by unfold ruleOf;rw [hk,show k+1 - 1 = k by omega]
  rw [hru]
  simp [AMulti.name,AMulti.var,AMulti.args,hl]
theorem ofR_sound {r:List ARule} (hc:checkSystem r = 0):∀ (n:Nat) (t:Term) (l:List AStep) (m:AMulti),formed t = true→MatS r l t []→ofR r n t l = some m→OkM r m∧sideM r ARule.left m = t∧DistS l∧Rep r l [] m
 | 0,_,_,_,_,_,h=>by cases h
 | n+1,t,l,m,ht,hM,h=>by
  obtain ⟨hn,hta⟩:=formed_iff.1 ht
  simp only [ofR] at h
  cases hroot:rootS l with
  | nil =>
   rw [hroot] at h
   simp only [Option.map_eq_some_iff] at h
   obtain ⟨ms,hms,rfl⟩:=h
   rw [optAll_some] at hms
   have hlen:ms.length = t.args.length:=by have:=congrArg List.length hms;simpa using this.symm
   have hone:∀ i,i < t.args.length→OkM r (ms.getD i default)∧sideM r ARule.left (ms.getD i default) = t.args.getD i default∧DistS (underS l [(i:Int)])∧Rep r (underS l [(i:Int)]) [] (ms.getD i default):=fun i hi=>by
    have h1:((List.range t.args.length).map fun i=>ofR r n (t.args.getD i default) (underS l [(i:Int)]))[i]? = (ms.map some)[i]?:=by rw [hms]
    rw [List.getElem?_map,List.getElem?_range hi,List.getElem?_map,List.getElem?_eq_getElem (show i < ms.length by omega)] at h1
    simp only [Option.map_some,Option.some.injEq] at h1
    have h2:ms.getD i default = ms[i]'(by omega):=by rw [List.getD_eq_getElem?_getD,List.getElem?_eq_getElem (show i < ms.length by omega)];rfl
    rw [h2]
    refine ofR_sound hc n _ _ _ (hta _ (getD_mem hi)) (hM.under ?_) h1
    show (if 0≤(i:Int)∧(i:Int) < (t.args.length:Int) then subT (t.args.getD (i:Int).toNat default) [] else none) = _
    rw [if_pos (by omega),Int.toNat_natCast];rfl
   have hcov:∀ s∈l,∃ (i:Nat) (q:List Int),i < t.args.length∧s.pos = (i:Int) :: q:=fun s hs=>by
    obtain ⟨x,h1,_⟩:=hM s hs s.pos rfl
    cases hp:s.pos with
    | nil =>
     have:s∈rootS l:=mem_rootS.2 ⟨hs,hp⟩
     rw [hroot] at this;cases this
    | cons i q =>
     rw [hp] at h1
     simp only [subT] at h1
     split at h1
     ·rename_i hi
      exact ⟨i.toNat,q,by omega,by congr 1;omega⟩
     ·cases h1
   refine ⟨okM_node hn hlen fun a ha=>?_,?_,?_,fun s=>?_⟩
   ·obtain ⟨i,hi,rfl⟩:=List.getElem_of_mem ha
    have:=(hone i (by omega)).1
    rw [List.getD_eq_getElem?_getD,List.getElem?_eq_getElem hi] at this
    exact this
   ·rw [sideM_eq]
    show (if (0:Int) = 0 then Term.mk t.name t.var (ms.map _) else _) = t
    rw [if_pos rfl]
    have:ms.map (sideM r ARule.left) = t.args:=by
     apply List.ext_getElem (by simp [hlen])
     intro i h1 h2
     rw [List.getElem_map]
     have:=(hone i h2).2.1
     rw [List.getD_eq_getElem?_getD,List.getElem?_eq_getElem (by omega),List.getD_eq_getElem?_getD,List.getElem?_eq_getElem h2] at this
     exact this
    rw [this];exact t.eta
   ·refine dist_split ((List.range t.args.length).map fun (i:Nat)=>[(i:Int)]) l (fun s hs=>.inr ?_) (fun p hp=>?_) (by rw [hroot];simp)
    ·obtain ⟨i,q,h1,h2⟩:=hcov s hs
     exact ⟨[(i:Int)],List.mem_map.2 ⟨i,List.mem_range.2 h1,rfl⟩,q,by rw [h2];rfl⟩
    ·obtain ⟨i,hi,rfl⟩:=List.mem_map.1 hp
     exact (hone i (List.mem_range.1 hi)).2.2.1
   ·rw [preS_nil,mem_walkM]
    have hst:∀ i:Nat,startsM r (.mk 0 t.name t.var ms) (i:Int) = [[(i:Int)]]:=fun i=>by unfold startsM;rw [if_neg (by simp [AMulti.rule])]
    constructor
    ·intro hs
     obtain ⟨i,q,h1,h2⟩:=hcov s hs
     refine .inr ⟨i,by show i < ms.length;omega,[(i:Int)],by rw [hst];simp,⟨s.rule,q⟩,?_,?_⟩
     ·refine ((hone i h1).2.2.2 _).1 (mem_underS.2 ?_)
      have:preS [(i:Int)] ⟨s.rule,q⟩ = s:=by cases s;simp only [preS] at h2 ⊢;rw [h2];rfl
      rw [preS_nil,this];exact hs
     ·cases s;simp only [preS] at h2 ⊢;rw [h2];rfl
    ·rintro (⟨h0,_⟩ | ⟨i,hi,p,hp,s',hs',rfl⟩)
     ·exact absurd h0 (by show ¬ (0:Int) < 0;omega)
     ·have hi:i < t.args.length:=by rw [← hlen];exact hi
      rw [hst] at hp
      have hp:p = [(i:Int)]:=by simpa using hp
      subst hp
      exact mem_underS.1 (((hone i hi).2.2.2 s').2 hs')
  | cons s0 rest =>
   rw [hroot] at h
   cases rest with
   | cons s1 rest=>cases h
   | nil =>
   simp only at h
   split at h
   ·rename_i hseen
    simp only [Option.map_eq_some_iff] at h
    obtain ⟨ms,hms,rfl⟩:=h
    rw [optAll_some] at hms
    have hat:atM l [] = some s0:=by
     unfold atM
     rw [← List.head?_filter]
     have:l.filter (fun s=>decide (s.pos = [])) = [s0]:=hroot
     rw [this];rfl
    have hs0:=atM_some hat
    obtain ⟨e1,e2,e3,e4,e5,e6,e7,e8⟩:=hM.vars hc hat
    have hlen:ms.length = (varsOf [leftOf r s0]).length:=by have:=congrArg List.length hms;simpa using this.symm
    have hone:∀ i,i < ms.length→OkM r (ms.getD i default)∧sideM r ARule.left (ms.getD i default) = imgV (matchT [] (leftOf r s0) t).1 ((varsOf [leftOf r s0]).getD i default)∧∀ p∈occM (leftOf r s0) ((varsOf [leftOf r s0]).getD i default),DistS (underS l p)∧Rep r (underS l p) [] (ms.getD i default):=fun i hi=>by
     have h1:((varsOf [leftOf r s0]).map fun v=>varO (fun p=>ofR r n (subD t p) (underS l p)) l (occM (leftOf r s0) v))[i]? = (ms.map some)[i]?:=by rw [hms]
     rw [List.getElem?_map,List.getElem?_eq_getElem (show i < (varsOf [leftOf r s0]).length by omega),List.getElem?_map,List.getElem?_eq_getElem hi] at h1
     simp only [Option.map_some,Option.some.injEq] at h1
     have h2:ms.getD i default = ms[i]:=by rw [List.getD_eq_getElem?_getD,List.getElem?_eq_getElem hi];rfl
     have h3:(varsOf [leftOf r s0]).getD i default = (varsOf [leftOf r s0])[i]'(by omega):=by rw [List.getD_eq_getElem?_getD,List.getElem?_eq_getElem (show i < (varsOf [leftOf r s0]).length by omega)];rfl
     rw [h2,h3]
     generalize (varsOf [leftOf r s0])[i]'(by omega) = v at h1
     obtain ⟨p,qs,hp,hf,hq⟩:=varO_some h1
     have h8:=e8 v
     rw [hp] at h8 ⊢
     obtain ⟨_,p2,p3⟩:=h8 p (by simp)
     rw [p3] at hf
     obtain ⟨o1,o2,o3,o4⟩:=ofR_sound hc n _ _ _ (subT_formed _ _ _ p2 ht) (hM.under p2) hf
     refine ⟨o1,o2,fun q hq'=>?_⟩
     rcases List.mem_cons.1 hq' with rfl | hq'
     ·exact ⟨o3,o4⟩
     ·have hpm:=sameSt_perm o3.nodup (hq q hq')
      exact ⟨(hpm.pairwise_iff (fun h e=>h e.symm)).1 o3,fun s=>by rw [← o4 s,preS_nil];exact hpm.mem_iff.symm⟩
    have hP:=vars_apart e6 e5
    have hcov:=(seen_cover hP.1 hP.2 l).2 (by rw [hroot,List.length_singleton];exact hseen)
    have hmemP:∀ p∈(varsOf [leftOf r s0]).flatMap (occM (leftOf r s0)),∃ i,i < ms.length∧p∈occM (leftOf r s0) ((varsOf [leftOf r s0]).getD i default):=fun p hp=>by
     obtain ⟨v,hv,hp⟩:=List.mem_flatMap.1 hp
     obtain ⟨i,hi,rfl⟩:=List.getElem_of_mem hv
     refine ⟨i,by omega,?_⟩
     rw [List.getD_eq_getElem?_getD,List.getElem?_eq_getElem hi];exact hp
    have hru:ruleOf r (.mk (s0.rule+1) [] false ms) = r.getD s0.rule.toNat default:=by unfold ruleOf;show r.getD (s0.rule+1 - 1).toNat default = _;rw [show s0.rule+1 - 1 = s0.rule by omega]
    have hL:(r.getD s0.rule.toNat default).left = leftOf r s0:=rfl
    have hOk:OkM r (.mk (s0.rule+1) [] false ms):=okM_rule e3 e4 hlen fun a ha=>by
     obtain ⟨i,hi,rfl⟩:=List.getElem_of_mem ha
     have:=(hone i hi).1
     rw [List.getD_eq_getElem?_getD,List.getElem?_eq_getElem hi] at this
     exact this
    refine ⟨hOk,?_,?_,fun s=>?_⟩
    ·rw [sideM_eq,hru,hL]
     rw [if_neg (by show ¬ (s0.rule+1:Int) = 0;omega)]
     have hpi:plugT (varsOf [leftOf r s0]) (ms.map (sideM r ARule.left)) (leftOf r s0) = inst (matchT [] (leftOf r s0) t).1 (leftOf r s0):=by
      refine plug_inst _ fun n hn=>?_
      obtain ⟨h1,h2,h3⟩:=idxI_ix ((mem_varsOf _ _).2 hn)
      have h4:=(hone (ixS n (varsOf [leftOf r s0])) (by omega)).2.1
      rw [h3] at h4
      rw [← h4]
      simp [List.getD_eq_getElem?_getD,show ixS n (varsOf [leftOf r s0]) < ms.length by omega]
     show plugT _ (ms.map _) _ = t
     rw [hpi,match_inst e7]
    ·refine dist_split _ l hcov (fun p hp=>?_) (by rw [hroot];simp)
     obtain ⟨i,hi,hp⟩:=hmemP p hp
     exact ((hone i hi).2.2 p hp).1
    ·rw [preS_nil,mem_walkM]
     have hst:∀ i:Nat,startsM r (.mk (s0.rule+1) [] false ms) (i:Int) = occM (leftOf r s0) ((varsOf [leftOf r s0]).getD i default):=fun i=>by
      unfold startsM
      rw [if_pos (by show (0:Int) < s0.rule+1;omega),hru,hL,Int.toNat_natCast]
     constructor
     ·intro hs
      rcases hcov s hs with hp | ⟨p,hp,q,hq⟩
      ·left
       have hsr:s∈rootS l:=mem_rootS.2 ⟨hs,hp⟩
       rw [hroot] at hsr
       have:s = s0:=by simpa using hsr
       subst this
       refine ⟨by show (0:Int) < s.rule+1;omega,?_⟩
       cases s;simp only at hp ⊢
       subst hp
       show _ = AStep.mk (_+1 - 1) []
       congr 1;omega
      ·right
       obtain ⟨i,hi,hp⟩:=hmemP p hp
       refine ⟨i,hi,p,by rw [hst];exact hp,⟨s.rule,q⟩,?_,?_⟩
       ·refine (((hone i hi).2.2 p hp).2 _).1 (mem_underS.2 ?_)
        have:preS p ⟨s.rule,q⟩ = s:=by cases s;simp only [preS] at hq ⊢;rw [hq]
        rw [preS_nil,this];exact hs
       ·cases s;simp only [preS] at hq ⊢;rw [hq]
     ·rintro (⟨_,rfl⟩ | ⟨i,hi,p,hp,s',hs',rfl⟩)
      ·have:(⟨(AMulti.mk (s0.rule+1) [] false ms).rule - 1,[]⟩:AStep) = s0:=by
        obtain ⟨_,h2⟩:=hs0
        cases s0;simp only at h2 ⊢
        subst h2
        show AStep.mk (_+1 - 1) [] = _
        congr 1;omega
       rw [this];exact hs0.1
      ·rw [hst] at hp
       exact mem_underS.1 ((((hone i hi).2.2 p hp).2 s').2 hs')
   ·cases h
theorem pos_cases {σ:List ABind}:∀ (q:List Int) (L x:Term),short L = true→subT (inst σ L) q = some x→(∃ y,subT L q = some y∧y.var = false) ∨ ∃ p q' y,q = p++q'∧subT L p = some y∧y.var = true
 | q,L,x,hs,h=>by
  cases hv:L.var with
  | true=>exact .inr ⟨[],q,L,rfl,rfl,hv⟩
  | false =>
   cases q with
   | nil=>exact .inl ⟨L,rfl,hv⟩
   | cons i q =>
    rw [inst_eq,hv,if_neg (by simp)] at h
    have h:(if 0≤i∧i < ((L.args.map (inst σ)).length:Int) then subT ((L.args.map (inst σ)).getD i.toNat default) q else none) = some x:=h
    split at h
    ·rename_i hi
     rw [List.length_map] at hi
     have e:(L.args.map (inst σ)).getD i.toNat default = inst σ (L.args.getD i.toNat default):=by simp [List.getD_eq_getElem?_getD,show i.toNat < L.args.length by omega]
     rw [e] at h
     have hstep:∀ p,subT L (i :: p) = subT (L.args.getD i.toNat default) p:=fun p=>by simp only [subT];rw [if_pos hi]
     rcases pos_cases q _ x ((short_iff.1 hs).2.2 _ (getD_mem (by omega))) h with ⟨y,h1,h2⟩ | ⟨p,q',y,h1,h2,h3⟩
     ·exact .inl ⟨y,by rw [hstep];exact h1,h2⟩
     ·exact .inr ⟨i :: p,q',y,by rw [h1];rfl,by rw [hstep];exact h2,h3⟩
    ·cases h
theorem occM_mem {t y:Term} {p:List Int} (h:subT t p = some y) (hv:y.var = true):p∈occM t y.name:=by
 rw [occM_pos]
 refine List.mem_filter.2 ⟨mem_posT h,?_⟩
 rw [h];simp [hv]
theorem subT_occ:∀ (p:List Int) (t y:Term),subT t p = some y→y.var = true→occ y.name t = true
 | [],t,y,h,hv=>by cases h;rw [occ_eq,hv];simp
 | i :: p,t,y,h,hv=>by
  simp only [subT] at h
  split at h
  ·rename_i hi
   have h1:=subT_occ p _ y h hv
   rw [occ_eq,occs_mem (getD_mem (by omega)) h1];simp
  ·cases h
theorem build_sound {r:List ARule} (hc:checkSystem r = 0) {L:List AStep} (hd:DistS L):∀ (n:Nat) (t:Term) (pos:List Int) (m:AMulti),size t≤n→formed t = true→MatS r L t pos→buildM r L n t pos = (m,false)→OkM r m∧sideM r ARule.left m = t∧Rep r L pos m
 | 0,t,_,_,h,_,_,_=>by have:=size_pos t;omega
 | n+1,t,pos,m,hz,ht,hM,h=>by
  obtain ⟨hn,hta⟩:=formed_iff.1 ht
  simp only [buildM] at h
  cases hat:atM L pos with
  | none =>
   rw [hat] at h
   simp only [Prod.mk.injEq] at h
   obtain ⟨rfl,hbad⟩:=h
   rw [List.any_eq_false] at hbad
   have hone:∀ i,i < t.args.length→OkM r (buildM r L n (t.args.getD i default) (pos++[(i:Int)])).1∧sideM r ARule.left (buildM r L n (t.args.getD i default) (pos++[(i:Int)])).1 = t.args.getD i default∧Rep r L (pos++[(i:Int)]) (buildM r L n (t.args.getD i default) (pos++[(i:Int)])).1:=fun i hi=>by
    have h1:=hbad i (List.mem_range.2 hi)
    have hsz:=size_mem (getD_mem hi)
    have hst:=size_args t
    have hsub:subT t [(i:Int)] = some (t.args.getD i default):=by
     show (if 0≤(i:Int)∧(i:Int) < (t.args.length:Int) then subT (t.args.getD (i:Int).toNat default) [] else none) = _
     rw [if_pos (by omega),Int.toNat_natCast];rfl
    exact build_sound hc hd n _ _ _ (by omega) (hta _ (getD_mem hi)) (hM.sub hsub) (Prod.ext rfl (by simpa using h1))
   generalize hms:((List.range t.args.length).map fun i=>(buildM r L n (t.args.getD i default) (pos++[(i:Int)])).1) = ms
   have hlen:ms.length = t.args.length:=by rw [← hms];simp
   have hgd:∀ i,i < t.args.length→ms.getD i default = (buildM r L n (t.args.getD i default) (pos++[(i:Int)])).1:=fun i hi=>by
    rw [← hms];simp [List.getD_eq_getElem?_getD,hi]
   refine ⟨okM_node hn hlen fun a ha=>?_,?_,fun s=>?_⟩
   ·rw [← hms] at ha
    obtain ⟨i,hi,rfl⟩:=List.mem_map.1 ha
    exact (hone i (List.mem_range.1 hi)).1
   ·rw [sideM_eq]
    show (if (0:Int) = 0 then Term.mk t.name t.var (ms.map _) else _) = t
    rw [if_pos rfl]
    have:ms.map (sideM r ARule.left) = t.args:=by
     apply List.ext_getElem (by simp [hlen])
     intro i h1 h2
     rw [List.getElem_map]
     have h3:=(hone i h2).2.1
     rw [← hgd i h2,List.getD_eq_getElem?_getD,List.getElem?_eq_getElem (by omega),List.getD_eq_getElem?_getD,List.getElem?_eq_getElem h2] at h3
     exact h3
    rw [this];exact t.eta
   ·rw [mem_walkM]
    have hst:∀ i:Nat,startsM r (.mk 0 t.name t.var ms) (i:Int) = [[(i:Int)]]:=fun i=>by unfold startsM;rw [if_neg (by simp [AMulti.rule])]
    have hpp:∀ (i:Int) (q:List Int),preS pos ⟨s.rule,i :: q⟩ = preS (pos++[i]) ⟨s.rule,q⟩:=fun i q=>by simp [preS]
    constructor
    ·intro hs
     cases hp:s.pos with
     | nil =>
      exact absurd (show (preS pos s).pos = pos by simp [preS,hp]) (atM_none.1 hat _ hs)
     | cons i q =>
      obtain ⟨x,h1,_⟩:=hM _ hs s.pos rfl
      rw [hp] at h1
      simp only [subT] at h1
      split at h1
      ·rename_i hi
       have hi2:((i.toNat:Nat):Int) = i:=by omega
       refine .inr ⟨i.toNat,by show i.toNat < ms.length;omega,[i],by rw [hst,hi2];simp,⟨s.rule,q⟩,?_,by cases s;simp only [preS] at hp ⊢;rw [hp];rfl⟩
       show _∈walkM r (ms.getD i.toNat default)
       rw [hgd _ (by omega)]
       refine ((hone i.toNat (by omega)).2.2 _).1 ?_
       rw [hi2,← hpp]
       have:(⟨s.rule,i :: q⟩:AStep) = s:=by cases s;simp only at hp ⊢;rw [hp]
       rw [this];exact hs
      ·cases h1
    ·rintro (⟨h0,_⟩ | ⟨i,hi,p,hp,s',hs',rfl⟩)
     ·exact absurd h0 (by show ¬ (0:Int) < 0;omega)
     ·have hi:i < t.args.length:=by rw [← hlen];exact hi
      rw [hst] at hp
      have hp:p = [(i:Int)]:=by simpa using hp
      subst hp
      have hs':s'∈walkM r (ms.getD i default):=hs'
      rw [hgd i hi] at hs'
      have h1:=((hone i hi).2.2 s').2 hs'
      have:preS pos (preS [(i:Int)] s') = preS (pos++[(i:Int)]) s':=by simp [preS]
      rw [this];exact h1
  | some s0 =>
   rw [hat] at h
   simp only [Prod.mk.injEq,Bool.or_eq_false_iff] at h
   obtain ⟨rfl,hov,hbad⟩:=h
   rw [List.any_eq_false] at hov hbad
   have hs0:=atM_some hat
   obtain ⟨e1,e2,e3,e4,e5,e6,e7,e8⟩:=hM.vars hc hat
   have hone:∀ v∈varsOf [leftOf r s0],OkM r (fstB ((occM (leftOf r s0) v).map fun p=>buildM r L n (subD t p) (pos++p)))∧sideM r ARule.left (fstB ((occM (leftOf r s0) v).map fun p=>buildM r L n (subD t p) (pos++p))) = imgV (matchT [] (leftOf r s0) t).1 v ∧
     ∀ p∈occM (leftOf r s0) v,Rep r L (pos++p) (fstB ((occM (leftOf r s0) v).map fun p=>buildM r L n (subD t p) (pos++p))):=fun v hv=>by
    have hb:=hbad v hv
    unfold badB at hb
    rw [Bool.not_eq_true,List.any_eq_false] at hb
    have hall:∀ p∈occM (leftOf r s0) v,buildM r L n (subD t p) (pos++p) = (fstB ((occM (leftOf r s0) v).map fun p=>buildM r L n (subD t p) (pos++p)),false):=fun p hp=>by
     have h1:=hb _ (List.mem_map_of_mem (f:=fun p=>buildM r L n (subD t p) (pos++p)) hp)
     simp only [Bool.or_eq_true,Bool.not_eq_true',decide_eq_false_iff_not,not_or,Classical.not_not,Bool.not_eq_true] at h1
     exact Prod.ext h1.2.symm h1.1
    generalize fstB ((occM (leftOf r s0) v).map fun p=>buildM r L n (subD t p) (pos++p)) = x at hall
    have hrun:∀ p∈occM (leftOf r s0) v,OkM r x∧sideM r ARule.left x = imgV (matchT [] (leftOf r s0) t).1 v∧Rep r L (pos++p) x:=fun p hp=>by
     obtain ⟨p1,p2,p3⟩:=e8 v p hp
     have h1:=hall p hp
     rw [p3] at h1
     have hlt:=subT_lt p1 p2
     exact build_sound hc hd n _ _ _ (by omega) (subT_formed _ _ _ p2 ht) (hM.sub p2) h1
    have hne:occM (leftOf r s0) v ≠ []:=by
     rw [occM_R]
     exact occR_some v _ ((mem_varsOf _ _).1 hv)
    obtain ⟨p,hp⟩:=List.exists_mem_of_ne_nil _ hne
    exact ⟨(hrun p hp).1,(hrun p hp).2.1,fun q hq=>(hrun q hq).2.2⟩
   generalize hms:((varsOf [leftOf r s0]).map fun v=>fstB ((occM (leftOf r s0) v).map fun p=>buildM r L n (subD t p) (pos++p))) = ms
   have hlen:ms.length = (varsOf [leftOf r s0]).length:=by rw [← hms];simp
   have hgd:∀ i,i < ms.length→ms.getD i default = fstB ((occM (leftOf r s0) ((varsOf [leftOf r s0]).getD i default)).map fun p=>buildM r L n (subD t p) (pos++p)):=fun i hi=>by
    rw [hlen] at hi
    rw [← hms];simp [List.getD_eq_getElem?_getD,hi]
   have hvm:∀ i,i < ms.length→(varsOf [leftOf r s0]).getD i default∈varsOf [leftOf r s0]:=fun i hi=>getD_mem (by omega)
   have hru:ruleOf r (.mk (s0.rule+1) [] false ms) = r.getD s0.rule.toNat default:=by unfold ruleOf;show r.getD (s0.rule+1 - 1).toNat default = _;rw [show s0.rule+1 - 1 = s0.rule by omega]
   have hL:(r.getD s0.rule.toNat default).left = leftOf r s0:=rfl
   refine ⟨okM_rule e3 e4 hlen fun a ha=>?_,?_,fun s=>?_⟩
   ·rw [← hms] at ha
    obtain ⟨v,hv,rfl⟩:=List.mem_map.1 ha
    exact (hone v hv).1
   ·rw [sideM_eq,hru,hL]
    rw [if_neg (by show ¬ (s0.rule+1:Int) = 0;omega)]
    have hpi:plugT (varsOf [leftOf r s0]) (ms.map (sideM r ARule.left)) (leftOf r s0) = inst (matchT [] (leftOf r s0) t).1 (leftOf r s0):=by
     refine plug_inst _ fun k hk=>?_
     obtain ⟨h1,h2,h3⟩:=idxI_ix ((mem_varsOf _ _).2 hk)
     have hix:ixS k (varsOf [leftOf r s0]) < ms.length:=by omega
     have h4:=(hone _ (hvm _ hix)).2.1
     rw [← hgd _ hix,h3] at h4
     rw [← h4]
     simp [List.getD_eq_getElem?_getD,hix]
    show plugT _ (ms.map _) _ = t
    rw [hpi,match_inst e7]
   ·rw [mem_walkM]
    have hst:∀ i:Nat,startsM r (.mk (s0.rule+1) [] false ms) (i:Int) = occM (leftOf r s0) ((varsOf [leftOf r s0]).getD i default):=fun i=>by
     unfold startsM
     rw [if_pos (by show (0:Int) < s0.rule+1;omega),hru,hL,Int.toNat_natCast]
    have hs0r:(⟨s0.rule,pos⟩:AStep) = s0:=by
     obtain ⟨_,h2⟩:=hs0
     cases s0;simp only at h2 ⊢;rw [h2]
    have hrt:(⟨(AMulti.mk (s0.rule+1) [] false ms).rule - 1,[]⟩:AStep) = ⟨s0.rule,[]⟩:=by
     show AStep.mk (s0.rule+1 - 1) [] = _
     congr 1;omega
    constructor
    ·intro hs
     cases hp:s.pos with
     | nil =>
      left
      refine ⟨by show (0:Int) < s0.rule+1;omega,?_⟩
      have:preS pos s = s0:=step_eq hd hs hs0.1 (by rw [hs0.2];simp [preS,hp])
      rw [hrt,← this]
      cases s;simp only at hp ⊢;subst hp;rfl
     | cons i q =>
      right
      obtain ⟨x,h1,_⟩:=hM _ hs s.pos rfl
      rw [← match_inst e7] at h1
      rcases pos_cases s.pos _ x e6 h1 with ⟨y,y1,y2⟩ | ⟨p,q',y,y1,y2,y3⟩
      ·exfalso
       have h2:=visit_mem s.pos _ y [] y1
       rw [List.nil_append] at h2
       have h3:=hov _ h2
       unfold overB at h3
       have h4:(atM L (pos++s.pos)).isSome = true:=by
        cases ha:atM L (pos++s.pos) with
        | some _=>rfl
        | none=>exact absurd rfl (atM_none.1 ha _ hs)
       rw [h4,y2,hp] at h3
       exact h3 (by simp)
      ·have hmem:=occM_mem y2 y3
       have hvv:y.name∈varsOf [leftOf r s0]:=by
        exact (mem_varsOf _ _).2 (subT_occ p _ y y2 y3)
       obtain ⟨i',hi',he⟩:=List.getElem_of_mem hvv
       have hgi:(varsOf [leftOf r s0]).getD i' default = y.name:=by rw [List.getD_eq_getElem?_getD,List.getElem?_eq_getElem hi',he];rfl
       refine ⟨i',by show i' < ms.length;omega,p,by rw [hst,hgi];exact hmem,⟨s.rule,q'⟩,?_,by cases s;simp only [preS] at y1 ⊢;rw [y1]⟩
       show _∈walkM r (ms.getD i' default)
       rw [hgd _ (by omega),hgi]
       refine ((hone _ hvv).2.2 p hmem _).1 ?_
       have:preS (pos++p) ⟨s.rule,q'⟩ = preS pos s:=by cases s;simp only [preS] at y1 ⊢;rw [y1];simp
       rw [this];exact hs
    ·rintro (⟨_,rfl⟩ | ⟨i,hi,p,hp,s',hs',rfl⟩)
     ·rw [hrt]
      show (⟨s0.rule,pos++[]⟩:AStep)∈L
      rw [List.append_nil,hs0r];exact hs0.1
     ·rw [hst] at hp
      have hs':s'∈walkM r (ms.getD i default):=hs'
      rw [hgd i hi] at hs'
      have h1:=((hone _ (hvm i hi)).2.2 p hp s').2 hs'
      have:preS pos (preS p s') = preS (pos++p) s':=by simp [preS]
      rw [this];exact h1
end Go.Dw
end
section
namespace Go.Dw
def cSs (l:List AStep):List V:=[encSts l]
theorem cSs_0 (l:List AStep):(cSs l)[0]? = some (encSts l):=rfl
theorem cSs_len (l:List AStep):(cSs l).length = 1:=rfl
attribute [push_cast] cSs_0 cSs_len
theorem steps_small {r:List ARule} (hc:checkSystem r = 0) {m:AMulti} (hm:OkM r m) (hz:size (sideM r ARule.left m)≤4000):(stepsM r m).length≤4000∧∀ s∈stepsM r m,s.pos.length≤4000:=by
 have hp:=walkM_perm r (fun x hx=>(checkSystem_good hc x hx).1.1) m hm
 have hl:=walk_len hc m hm
 rw [hp.length_eq] at hl
 refine ⟨by omega,fun s hs=>?_⟩
 obtain ⟨x,h1,_⟩:=walk_mat hc m hm s (hp.mem_iff.2 hs)
 have:=subT_fit _ _ _ h1
 omega
end Go.Dw
end
