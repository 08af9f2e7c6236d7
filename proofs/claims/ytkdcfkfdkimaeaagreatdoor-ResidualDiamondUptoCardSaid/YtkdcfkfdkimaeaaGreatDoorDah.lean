/-
  Contracts and lemmas for ResidualDiamond: part h of 9.
-/
import Derived.Test.YtkdcfkfdkimaeaaGreatDoorDag
set_option linter.unusedVariables false
set_option linter.unusedSimpArgs false
set_option maxRecDepth 100000
section
namespace Go.Dw
theorem residual_union_1_s {r:List ARule} {a b y:AMulti} (h:PF n_residual_union [encRs r,encM a,encM b] (encM y)):PF n_residual_union_1 [encM a,encM b,.ro [encRs r] 0] (encM y):=by
 refine pf_of residual_union_1.ok rfl ?_
 push_cast
 refine .of h ?_
 push_cast
 refine pf_ret ?_
 push_cast [residual_union_1.rs]
theorem residual_union_0 {r:List ARule} {a b:AMulti} (ha:a.rule = 0) (hb:b.rule = 0) (hl:a.args.length≤b.args.length) (hl2:a.args.length < 2^38) (F:AMulti→AMulti→AMulti)
  (hF:∀ k,k < a.args.length→PF n_residual_union [encRs r,encM (a.args.getD k default),encM (b.args.getD k default)] (encM (F (a.args.getD k default) (b.args.getD k default)))) :
  PF n_residual_union [encRs r,encM a,encM b] (encM (.mk 0 a.name a.var (List.zipWith F a.args b.args))):=by
 have hz:=residual_zip_s (F:=F) (g:=n_residual_union_1) (caps:=[.ro [encRs r] 0]) (fun σ=>by push_cast) a.args b.args hl hl2 (fun k hk=>residual_union_1_s (hF k hk))
 refine pf_of residual_union.ok rfl ?_
 push_cast
 refine .of (residual_split_0_s r a b ha hb) ?_
 push_cast
 refine .of hz ?_
 push_cast
 refine pf_ret ?_
 push_cast [residual_union.rs]
 first | rfl | (rw [encM,cM_eq];rfl) | (simp only [encM,cM];rfl)
theorem residual_union_k {r:List ARule} {k:Nat} (hk:k < r.length) (hkl:k < 2^40) (hv:(lft r k).var = false) (hf:vfl (lft r k) = true) (hs:size (lft r k) < 2^38) (α β:Bool) (hαβ:α = true ∨ β = true) (f g:MSub) (F:AMulti→AMulti→AMulti)
  (hF:∀ v,v∈vrs r k→PF n_residual_union [encRs r,encM (f v),encM (g v)] (encM (F (f v) (g v)))) :
  PF n_residual_union [encRs r,encM (fm r k α f),encM (fm r k β g)] (encM (.mk (k+1) [] false (List.zipWith F ((vrs r k).map f) ((vrs r k).map g)))):=by
 have hvl:(vrs r k).length < 2^38:=by have:=varsOf_len [lft r k];simp only [sizes] at this;unfold vrs;omega
 have hz:=residual_zip_s (F:=F) (g:=n_residual_union_1) (caps:=[.ro [encRs r] 0]) (fun σ=>by push_cast) ((vrs r k).map f) ((vrs r k).map g) (by simp) (by simpa using hvl) (fun j hj=>by
  rw [List.length_map] at hj
  have e:∀ f:MSub,((vrs r k).map f).getD j default = f ((vrs r k).getD j default):=fun f=>by simp [List.getD_eq_getElem?_getD,hj]
  rw [e,e]
  exact residual_union_1_s (hF _ (getD_mem hj)))
 refine pf_of residual_union.ok rfl ?_
 push_cast
 refine .of (residual_split_k_s hk hkl hv hf hs α β f g hαβ) ?_
 push_cast
 refine .of hz ?_
 have h1:((k:Int)+1 = 0) = False:=by simp;omega
 push_cast [h1]
 refine pf_ret ?_
 push_cast [residual_union.rs]
 first | rfl | (rw [encM,cM_eq];rfl) | (simp only [encM,cM];rfl)
section
variable {r:List ARule} (h:Ortho r)
include h
theorem residual_union_s (hrl:r.length≤64) (hsz:∀ k,k < r.length→size (lft r k) < 2^38∧size (rgt r k) < 2^38):∀ (n:Nat) (a b:AMulti),msize a+msize b≤n→OkM r a→OkM r b→sideM r ARule.left b = sideM r ARule.left a→PF n_residual_union [encRs r,encM a,encM b] (encM (uni r a b))
 | 0,a,b,hn,_,_,_=>by have:=msize_pos a;omega
 | n+1,a,b,hn,ha,hb,hs=>by
  rcases h.shapes ha hb hs with ⟨a0,b0,hbe,hm⟩ | ⟨k,α,β,f,g,hk,rfl,rfl,hαβ,hp⟩
  ·have hl:b.args.length = a.args.length:=by have:=congrArg List.length hm;simpa using this
   have e:uni r a b = .mk 0 a.name a.var (List.zipWith (uni r) a.args b.args):=by
    rw [uni_eq,if_neg (by omega),if_neg (by omega)]
   rw [e]
   refine residual_union_0 a0 b0 (by omega) ?_ (uni r) fun k hk=>?_
   ·have hf:=allM_self ha.fm
    unfold formedM at hf
    rw [if_neg (by omega)] at hf
    split at hf
    ·simp only [Bool.and_eq_true,decide_eq_true_eq] at hf;omega
    ·simp only [Bool.and_eq_true,decide_eq_true_eq] at hf;omega
   ·have h1:=getD_mem hk
    have h2:=getD_mem (l:=b.args) (k:=k) (by omega)
    have:=arg_lt h1
    have:=arg_lt h2
    refine residual_union_s hrl hsz n _ _ (by omega) (ha.arg h1) (hb.arg h2) ?_
    have e:=congrArg (fun l=>l.getD k default) hm
    have ea:(a.args.map (sideM r ARule.left)).getD k default = sideM r ARule.left (a.args.getD k default):=by simp [List.getD_eq_getElem?_getD,hk]
    have eb:(b.args.map (sideM r ARule.left)).getD k default = sideM r ARule.left (b.args.getD k default):=by simp [List.getD_eq_getElem?_getD,show k < b.args.length by omega]
    rw [← ea,← eb]
    exact e
  ·obtain ⟨q1,q2,q3,q4,q5,q6,q7⟩:=h.left hk
   obtain ⟨s1,s2⟩:=hsz k hk
   have hF:∀ v,v∈vrs r k→PF n_residual_union [encRs r,encM (f v),encM (g v)] (encM (uni r (f v) (g v))):=fun v hv=>by
    obtain ⟨p1,p2,p3,p4⟩:=hp v hv
    exact residual_union_s hrl hsz n _ _ (by omega) p1 p2 p3
   rw [uni_fm h hk]
   have:=residual_union_k hk (by omega) q1 q2 s1 α β hαβ f g (uni r) hF
   rw [zip_map] at this
   have e:(α || β) = true:=by rcases hαβ with rfl | rfl <;> simp
   rw [e]
   exact this
end
end Go.Dw
end
section
namespace Go.Dw
theorem okM_same {r:List ARule} {a:AMulti} (ha:OkM r a) (h0:a.rule = 0) {l:List AMulti} (hl:l.length = a.args.length) (h:∀ x∈l,OkM r x):OkM r (.mk 0 a.name a.var l):=by
 refine ⟨?_,?_⟩
 ·rw [allM_eq,Bool.and_eq_true,List.all_eq_true]
  exact ⟨by simp [rangedM,AMulti.rule],fun x hx=>(h x hx).rg⟩
 ·rw [allM_eq,Bool.and_eq_true,List.all_eq_true]
  refine ⟨?_,fun x hx=>(h x hx).fm⟩
  have hf:=allM_self ha.fm
  cases a with
  | mk k n v l0 =>
   have h0:k = 0:=h0
   subst h0
   have hl:l.length = l0.length:=hl
   unfold formedM at hf ⊢
   simp only [AMulti.rule,AMulti.var,AMulti.args,AMulti.name,hl] at hf ⊢
   exact hf
section
variable {r:List ARule} (h:Ortho r)
include h
theorem Ortho.rest_ok:∀ (n:Nat) (a b:AMulti),msize a+msize b≤n→OkM r a→OkM r b→sideM r ARule.left b = sideM r ARule.left a→OkM r (rest r a b)∧sideM r ARule.left (rest r a b) = sideM r ARule.right b
 | 0,a,b,hn,_,_,_=>by have:=msize_pos a;omega
 | n+1,a,b,hn,ha,hb,hs=>by
  rcases h.shapes ha hb hs with ⟨a0,b0,hbe,hm⟩ | ⟨k,α,β,f,g,hk,rfl,rfl,hαβ,hp⟩
  ·have hl:b.args.length = a.args.length:=by have:=congrArg List.length hm;simpa using this
   have e:rest r a b = .mk 0 a.name a.var (List.zipWith (rest r) a.args b.args):=by
    rw [rest_eq,if_neg (by omega),if_neg (by omega)]
   have hi:∀ k,k < a.args.length→OkM r (rest r (a.args.getD k default) (b.args.getD k default))∧sideM r ARule.left (rest r (a.args.getD k default) (b.args.getD k default)) = sideM r ARule.right (b.args.getD k default):=fun k hk=>by
    have h1:=getD_mem hk
    have h2:=getD_mem (l:=b.args) (k:=k) (by omega)
    have:=arg_lt h1
    have:=arg_lt h2
    refine Ortho.rest_ok n _ _ (by omega) (ha.arg h1) (hb.arg h2) ?_
    have e:=congrArg (fun l=>l.getD k default) hm
    have ea:(a.args.map (sideM r ARule.left)).getD k default = sideM r ARule.left (a.args.getD k default):=by simp [List.getD_eq_getElem?_getD,hk]
    have eb:(b.args.map (sideM r ARule.left)).getD k default = sideM r ARule.left (b.args.getD k default):=by simp [List.getD_eq_getElem?_getD,show k < b.args.length by omega]
    rw [← ea,← eb]
    exact e
   have hz:∀ k,k < a.args.length→(List.zipWith (rest r) a.args b.args)[k]? = some (rest r (a.args.getD k default) (b.args.getD k default)):=fun k hk=>by
    have ea:a.args[k]? = some (a.args.getD k default):=by simp [List.getD_eq_getElem?_getD,hk]
    have eb:b.args[k]? = some (b.args.getD k default):=by simp [List.getD_eq_getElem?_getD,show k < b.args.length by omega]
    rw [List.getElem?_zipWith,ea,eb]
   have hzl:(List.zipWith (rest r) a.args b.args).length = a.args.length:=by rw [List.length_zipWith];omega
   rw [e]
   refine ⟨okM_same ha a0 hzl fun x hx=>?_,?_⟩
   ·obtain ⟨k,hk,rfl⟩:=List.getElem_of_mem hx
    have h1:=hz k (by omega)
    rw [List.getElem?_eq_getElem hk] at h1
    injection h1 with h1
    rw [h1];exact (hi k (by omega)).1
   ·rw [sideM_eq,if_pos (show (AMulti.mk 0 a.name a.var (List.zipWith (rest r) a.args b.args)).rule = 0 from rfl),sideM_eq,if_pos b0]
    have en:b.name = a.name:=by have:=congrArg AMulti.name hbe;exact this
    have ev:b.var = a.var:=by have:=congrArg AMulti.var hbe;exact this
    rw [en,ev]
    congr 1
    refine List.ext_getElem? fun k=>?_
    by_cases hk:k < a.args.length
    ·have eb:b.args[k]? = some (b.args.getD k default):=by simp [List.getD_eq_getElem?_getD,show k < b.args.length by omega]
     rw [List.getElem?_map,List.getElem?_map,eb]
     have e2:(AMulti.mk 0 a.name a.var (List.zipWith (rest r) a.args b.args)).args = List.zipWith (rest r) a.args b.args:=rfl
     rw [e2,hz k hk]
     exact congrArg some (hi k hk).2
    ·rw [List.getElem?_eq_none (by rw [List.length_map];show (List.zipWith (rest r) a.args b.args).length≤k;omega),List.getElem?_eq_none (by rw [List.length_map];omega)]
  ·obtain ⟨q1,q2,q3,q4,q5,q6,q7⟩:=h.left hk
   have hi:∀ v∈vrs r k,OkM r (rest r (f v) (g v))∧sideM r ARule.left (rest r (f v) (g v)) = sideM r ARule.right (g v):=fun v hv=>by
    obtain ⟨p1,p2,p3,p4⟩:=hp v hv
    exact Ortho.rest_ok n _ _ (by omega) p1 p2 p3
   rw [rest_fm h hk,h.tgt_fm hk]
   cases β with
   | true =>
    refine ⟨okM_pl _ q5 fun v hv=>(hi v (q7 v hv)).1,?_⟩
    rw [if_pos rfl,if_pos rfl,side_pl]
    exact app_congr _ fun v hv=>(hi v (q7 v hv)).2
   | false =>
    refine ⟨h.ok_fm hk fun v hv=>(hi v hv).1,?_⟩
    have e:=h.src_fm hk (b:=α) (g:=fun v=>rest r (f v) (g v))
    refine e.trans ?_
    rw [if_neg (by simp)]
    exact app_congr _ fun v hv=>(hi v (mem_vrs.2 hv)).2
end
end Go.Dw
end
section
namespace Go.Dw
section
variable {r:List ARule} (h:Ortho r)
include h
theorem Ortho.uni_ok:∀ (n:Nat) (a b:AMulti),msize a+msize b≤n→OkM r a→OkM r b→sideM r ARule.left b = sideM r ARule.left a→OkM r (uni r a b)∧sideM r ARule.left (uni r a b) = sideM r ARule.left a
 | 0,a,b,hn,_,_,_=>by have:=msize_pos a;omega
 | n+1,a,b,hn,ha,hb,hs=>by
  rcases h.shapes ha hb hs with ⟨a0,b0,hbe,hm⟩ | ⟨k,α,β,f,g,hk,rfl,rfl,hαβ,hp⟩
  ·have hl:b.args.length = a.args.length:=by have:=congrArg List.length hm;simpa using this
   have e:uni r a b = .mk 0 a.name a.var (List.zipWith (uni r) a.args b.args):=by
    rw [uni_eq,if_neg (by omega),if_neg (by omega)]
   have hi:∀ k,k < a.args.length→OkM r (uni r (a.args.getD k default) (b.args.getD k default))∧sideM r ARule.left (uni r (a.args.getD k default) (b.args.getD k default)) = sideM r ARule.left (a.args.getD k default):=fun k hk=>by
    have h1:=getD_mem hk
    have h2:=getD_mem (l:=b.args) (k:=k) (by omega)
    have:=arg_lt h1
    have:=arg_lt h2
    refine Ortho.uni_ok n _ _ (by omega) (ha.arg h1) (hb.arg h2) ?_
    have e:=congrArg (fun l=>l.getD k default) hm
    have ea:(a.args.map (sideM r ARule.left)).getD k default = sideM r ARule.left (a.args.getD k default):=by simp [List.getD_eq_getElem?_getD,hk]
    have eb:(b.args.map (sideM r ARule.left)).getD k default = sideM r ARule.left (b.args.getD k default):=by simp [List.getD_eq_getElem?_getD,show k < b.args.length by omega]
    rw [← ea,← eb]
    exact e
   have hz:∀ k,k < a.args.length→(List.zipWith (uni r) a.args b.args)[k]? = some (uni r (a.args.getD k default) (b.args.getD k default)):=fun k hk=>by
    have ea:a.args[k]? = some (a.args.getD k default):=by simp [List.getD_eq_getElem?_getD,hk]
    have eb:b.args[k]? = some (b.args.getD k default):=by simp [List.getD_eq_getElem?_getD,show k < b.args.length by omega]
    rw [List.getElem?_zipWith,ea,eb]
   have hzl:(List.zipWith (uni r) a.args b.args).length = a.args.length:=by rw [List.length_zipWith];omega
   rw [e]
   refine ⟨okM_same ha a0 hzl fun x hx=>?_,?_⟩
   ·obtain ⟨k,hk,rfl⟩:=List.getElem_of_mem hx
    have h1:=hz k (by omega)
    rw [List.getElem?_eq_getElem hk] at h1
    injection h1 with h1
    rw [h1];exact (hi k (by omega)).1
   ·rw [sideM_eq,if_pos (show (AMulti.mk 0 a.name a.var (List.zipWith (uni r) a.args b.args)).rule = 0 from rfl),sideM_eq,if_pos a0]
    congr 1
    refine List.ext_getElem? fun k=>?_
    by_cases hk:k < a.args.length
    ·have ea:a.args[k]? = some (a.args.getD k default):=by simp [List.getD_eq_getElem?_getD,hk]
     rw [List.getElem?_map,List.getElem?_map,ea]
     have e2:(AMulti.mk 0 a.name a.var (List.zipWith (uni r) a.args b.args)).args = List.zipWith (uni r) a.args b.args:=rfl
     rw [e2,hz k hk]
     exact congrArg some (hi k hk).2
    ·rw [List.getElem?_eq_none (by rw [List.length_map];show (List.zipWith (uni r) a.args b.args).length≤k;omega),List.getElem?_eq_none (by rw [List.length_map];omega)]
  ·obtain ⟨q1,q2,q3,q4,q5,q6,q7⟩:=h.left hk
   have hi:∀ v∈vrs r k,OkM r (uni r (f v) (g v))∧sideM r ARule.left (uni r (f v) (g v)) = sideM r ARule.left (f v):=fun v hv=>by
    obtain ⟨p1,p2,p3,p4⟩:=hp v hv
    exact Ortho.uni_ok n _ _ (by omega) p1 p2 p3
   rw [uni_fm h hk]
   refine ⟨h.ok_fm hk fun v hv=>(hi v hv).1,?_⟩
   rw [h.src_fm hk,h.src_fm hk]
   exact app_congr _ fun v hv=>(hi v (mem_vrs.2 hv)).2
end
end Go.Dw
end
section
namespace Go.Dw
def sumA (σ:Sub) (L:Term):List Str→Nat
 | []=>0
 | v :: vs=>(if occ v L then size (σ v) else 0)+sumA σ L vs
def sumAs (σ:Sub) (l:List Term):List Str→Nat
 | []=>0
 | v :: vs=>(if occs v l then size (σ v) else 0)+sumAs σ l vs
theorem sumAs_cons (σ:Sub) (a:Term) (l:List Term) (vs:List Str):sumAs σ (a :: l) vs≤sumA σ a vs+sumAs σ l vs:=by
 induction vs with
 | nil=>simp [sumAs,sumA]
 | cons v vs ih =>
  simp only [sumAs,sumA,occs,Bool.or_eq_true]
  by_cases h1:occ v a = true <;> by_cases h2:occs v l = true <;> simp [h1,h2] <;> omega
theorem sumA_var (σ:Sub) (n:Str):∀ vs:List Str,vs.Nodup→sumA σ (.mk n true []) vs≤size (σ n)
 | [],_=>by simp [sumA]
 | v :: vs,h=>by
  obtain ⟨h1,h2⟩:=List.nodup_cons.1 h
  have ih:=sumA_var σ n vs h2
  simp only [sumA]
  by_cases he:n = v
  ·subst he
   have h0:∀ ws:List Str,n ∉ ws→sumA σ (.mk n true []) ws = 0:=by
    intro ws
    induction ws with
    | nil=>intro _;rfl
    | cons w ws ihw =>
     intro hw
     simp only [List.mem_cons,not_or] at hw
     simp only [sumA,ihw hw.2,occ,occs,Bool.or_false,Bool.true_and,decide_eq_true_eq]
     rw [if_neg hw.1]
   rw [h0 vs h1]
   split <;> omega
  ·have:occ v (.mk n true []) = false:=by simp [occ,occs,he]
   rw [this]
   simp only [Bool.false_eq_true,if_false,Nat.zero_add]
   exact ih
mutual
theorem sumA_le (σ:Sub) (vs:List Str) (hn:vs.Nodup):∀ L:Term,vfl L = true→sumA σ L vs≤size (app σ L)∧(L.var = false→sumA σ L vs < size (app σ L))
 | .mk n true l,hs=>by
  have ha:l = []:=(vfl_iff.1 hs).1 rfl
  subst ha
  refine ⟨?_,fun h=>by cases h⟩
  rw [app_eq]
  exact sumA_var σ n vs hn
 | .mk n false l,hs=>by
  have h:=sumAs_le σ vs hn l (vfl_iff.1 hs).2
  have e:∀ ws,sumA σ (.mk n false l) ws = sumAs σ l ws:=by
   intro ws
   induction ws with
   | nil=>rfl
   | cons w ws ih=>simp only [sumA,sumAs,occ,Bool.false_and,Bool.false_or,ih]
  rw [e]
  have hi:size (app σ (.mk n false l)) = 1+sizes (l.map (app σ)):=by
   rw [app_eq];rfl
  rw [hi]
  exact ⟨by omega,fun _=>by omega⟩
theorem sumAs_le (σ:Sub) (vs:List Str) (hn:vs.Nodup):∀ l:List Term,(∀ a∈l,vfl a = true)→sumAs σ l vs≤sizes (l.map (app σ))
 | [],_=>by
  have:∀ ws,sumAs σ [] ws = 0:=by
   intro ws
   induction ws with
   | nil=>rfl
   | cons w ws ih=>simp [sumAs,occs,ih]
  rw [this];exact Nat.zero_le _
 | a :: l,hs=>by
  have h1:=sumAs_cons σ a l vs
  have h2:=(sumA_le σ vs hn a (hs a (by simp))).1
  have h3:=sumAs_le σ vs hn l fun b hb=>hs b (by simp [hb])
  simp only [List.map_cons,sizes];omega
end
theorem sumA_map (f:Sub) (L:Term):∀ vs:List Str,(∀ v∈vs,occ v L = true)→sumA f L vs = sizes (vs.map f)
 | [],_=>rfl
 | v :: vs,h=>by
  simp only [sumA,List.map_cons,sizes]
  rw [if_pos (h v (by simp)),sumA_map f L vs fun w hw=>h w (by simp [hw])]
theorem msizes_map_le {F:AMulti→Term}:∀ {l:List AMulti},(∀ a∈l,msize a≤size (F a))→msizes l≤sizes (l.map F)
 | [],_=>Nat.le_refl _
 | a :: l,h=>by
  have h1:=h a (by simp)
  have h2:=msizes_map_le (l:=l) fun x hx=>h x (by simp [hx])
  simp only [msizes,List.map_cons,sizes]
  omega
theorem Ortho.size_le {r:List ARule} (h:Ortho r):∀ (n:Nat) (m:AMulti),msize m≤n→OkM r m→msize m≤size (sideM r ARule.left m)
 | 0,m,hn,_=>by have:=msize_pos m;omega
 | n+1,m,hn,hm=>by
  have ih:msizes m.args≤sizes (m.args.map (sideM r ARule.left)):=msizes_map_le fun a ha=>h.size_le n a (by have:=arg_lt ha;omega) (hm.arg ha)
  have hsz:=msize_args m
  by_cases h0:0 < m.rule
  ·obtain ⟨k,hk,hkr,hmk,hlen⟩:=rule_is hm h0
   obtain ⟨q1,q2,q3,q4,q5,q6,q7⟩:=h.left hk
   have e:sideM r ARule.left m = app (fun v=>sideM r ARule.left (ofL (vrs r k) m.args v)) (lft r k):=(congrArg (sideM r ARule.left) hmk).trans (side_ru fun v hv=>mem_vrs.2 hv)
   have h1:=(sumA_le (fun v=>sideM r ARule.left (ofL (vrs r k) m.args v)) (vrs r k) (varsOf_nodup _) (lft r k) q2).2 q1
   rw [sumA_map _ _ _ fun v hv=>mem_vrs.1 hv] at h1
   have e2:(vrs r k).map (fun v=>sideM r ARule.left (ofL (vrs r k) m.args v)) = m.args.map (sideM r ARule.left):=by
    have e3:m.args = (vrs r k).map (ofL (vrs r k) m.args):=congrArg AMulti.args hmk
    conv=>rhs;rw [e3]
    rw [List.map_map];rfl
   rw [e2] at h1
   rw [e];omega
  ·have m0:m.rule = 0:=by have:=hm.rule0.1;omega
   rw [sideM_eq,if_pos m0]
   simp only [size]
   omega
end Go.Dw
end
section
namespace Go.Dw
theorem pairE_ok {r:List ARule} {a b:AMulti} (h:pairE r a b = 0):readyE r = 0∧endsE r a = 0∧endsE r b = 0∧srcT r a = srcT r b:=by
 unfold pairE at h
 split at h
 ·rename_i hc;exact absurd h hc
 ·rename_i h1
  split at h
  ·rename_i hc;exact absurd h hc
  ·rename_i h2
   split at h
   ·rename_i hc;exact absurd h hc
   ·rename_i h3
    split at h
    ·rename_i h4
     exact ⟨Classical.not_not.1 h1,Classical.not_not.1 h2,Classical.not_not.1 h3,h4⟩
    ·cases h
theorem pair_good {r:List ARule} {a b:AMulti} (h:pairE r a b = 0):Ortho r∧OkM r a∧OkM r b∧sideM r ARule.left b = sideM r ARule.left a∧fits (sideM r ARule.left a) = true∧fits (sideM r ARule.right b) = true∧fits (sideM r ARule.right a) = true∧r.length≤64∧∀ k,k < r.length→size (lft r k) < 2^38∧size (rgt r k) < 2^38:=by
 obtain ⟨h1,h2,h3,h4⟩:=pairE_ok h
 obtain ⟨a1,a2,a3,a4,a5⟩:=endsE_ok h2
 obtain ⟨b1,b2,b3,b4,b5⟩:=endsE_ok h3
 have hr:=ready_ok h1
 have hg:=good_system hr.2
 refine ⟨ortho_of hr.1,(checkM_ok a1).2.1,(checkM_ok b1).2.1,by rw [← a2,← b2,h4],a4,b5,a5,hg.2,fun k hk=>?_⟩
 have hx:=hg.1 _ (getD_mem hk)
 have:=hx.l.sz
 have:=hx.r.sz
 exact ⟨by unfold lft;omega,by unfold rgt;omega⟩
noncomputable def resV (r:List ARule) (a b:AMulti):V:=if pairE r a b ≠ 0 then encME none (pairE r a b) else fitE (rest r a b)
noncomputable def uniV (r:List ARule) (a b:AMulti):V:=if pairE r a b ≠ 0 then encME none (pairE r a b) else fitE (uni r a b)
theorem fitE_ex (m:AMulti):fitE m = encME (if fitM m then some m else none) (if fitM m then 0 else 3):=by unfold fitE;split <;> rfl
theorem residual_Residual_s {r:List ARule} {a b:AMulti} (hr:rbs r < 2^38) (ha:mb a < 2^38) (hb:mb b < 2^38):PF n_residual_Residual [encRs r,encM a,encM b] (resV r a b):=by
 have h0:=residual_both_s hr ha hb
 unfold resV
 refine pf_of residual_Residual.ok rfl ?_
 push_cast
 refine .of h0 ?_
 by_cases hp:pairE r a b = 0
 ·obtain ⟨g1,g2,g3,g4,g5,g6,g7,g8,g9⟩:=pair_good hp
  have h1:=residual_rest_s g1 g8 g9 _ a b (Nat.le_refl _) g2 g3 g4
  have hk:=g1.rest_ok _ a b (Nat.le_refl _) g2 g3 g4
  have h2:=multi_Fit_s (rest r a b) (by
   have:=g1.size_le _ _ (Nat.le_refl _) hk.1
   rw [hk.2] at this
   have:size (sideM r ARule.right b)≤4000:=by
    unfold fits at g6
    simp only [Bool.and_eq_true,decide_eq_true_eq] at g6
    exact g6.1
   omega)
  rw [if_neg (by simp [hp]),fitE_ex]
  rw [fitE_ex] at h2
  push_cast [hp]
  refine .of h1 ?_
  push_cast
  refine .of h2 ?_
  split
  ·push_cast [encME]
   exact pf_ret (by push_cast [residual_Residual.rs])
  ·push_cast [encME]
   exact pf_ret (by push_cast [residual_Residual.rs])
 ·rw [if_pos hp]
  push_cast [hp]
  exact pf_ret (by push_cast [residual_Residual.rs,encME];rfl)
theorem residual_Union_s {r:List ARule} {a b:AMulti} (hr:rbs r < 2^38) (ha:mb a < 2^38) (hb:mb b < 2^38):PF n_residual_Union [encRs r,encM a,encM b] (uniV r a b):=by
 have h0:=residual_both_s hr ha hb
 unfold uniV
 refine pf_of residual_Union.ok rfl ?_
 push_cast
 refine .of h0 ?_
 by_cases hp:pairE r a b = 0
 ·obtain ⟨g1,g2,g3,g4,g5,g6,g7,g8,g9⟩:=pair_good hp
  have h1:=residual_union_s g1 g8 g9 _ a b (Nat.le_refl _) g2 g3 g4
  have hk:=g1.uni_ok _ a b (Nat.le_refl _) g2 g3 g4
  have h2:=multi_Fit_s (uni r a b) (by
   have:=g1.size_le _ _ (Nat.le_refl _) hk.1
   rw [hk.2] at this
   have:size (sideM r ARule.left a)≤4000:=by
    unfold fits at g5
    simp only [Bool.and_eq_true,decide_eq_true_eq] at g5
    exact g5.1
   omega)
  rw [if_neg (by simp [hp]),fitE_ex]
  rw [fitE_ex] at h2
  push_cast [hp]
  refine .of h1 ?_
  push_cast
  refine .of h2 ?_
  split
  ·push_cast [encME]
   exact pf_ret (by push_cast [residual_Union.rs])
  ·push_cast [encME]
   exact pf_ret (by push_cast [residual_Union.rs])
 ·rw [if_pos hp]
  push_cast [hp]
  exact pf_ret (by push_cast [residual_Union.rs,encME];rfl)
end Go.Dw
end
section
namespace Go.Dw
theorem zip_ext {α β γ:Type} [Inhabited α] [Inhabited β] {F G:α→β→γ}:∀ {l:List α} {m:List β},m.length = l.length→(∀ k,k < l.length→F (l.getD k default) (m.getD k default) = G (l.getD k default) (m.getD k default))→List.zipWith F l m = List.zipWith G l m
 | [],_,_,_=>by simp
 | _ :: _,[],hl,_=>by simp at hl
 | a :: l,b :: m,hl,h=>by
  have h0:F a b = G a b:=h 0 (by simp)
  have ih:=zip_ext (F:=F) (G:=G) (l:=l) (m:=m) (by simpa using hl) fun k hk=>h (k+1) (by simpa using hk)
  simp only [List.zipWith_cons_cons]
  rw [ih,h0]
theorem side_node {r:List ARule} {F:ARule→Term} (n:Str) (v:Bool) (l:List AMulti):sideM r F (.mk 0 n v l) = .mk n v (l.map (sideM r F)):=by
 rw [sideM_eq,if_pos (show (AMulti.mk 0 n v l).rule = 0 from rfl)];rfl
theorem map_get {α β:Type} [Inhabited α] [Inhabited β] {F:α→β} {l m:List α} (h:l.map F = m.map F) {k:Nat} (hk:k < m.length):F (l.getD k default) = F (m.getD k default):=by
 have hl:l.length = m.length:=by have:=congrArg List.length h;simpa using this
 have e:=congrArg (fun l=>l.getD k default) h
 have ea:(l.map F).getD k default = F (l.getD k default):=by simp [List.getD_eq_getElem?_getD,show k < l.length by omega]
 have eb:(m.map F).getD k default = F (m.getD k default):=by simp [List.getD_eq_getElem?_getD,hk]
 rw [← ea,← eb];exact e
section
variable {r:List ARule} (h:Ortho r)
include h
theorem Ortho.tgt_rest {k:Nat} (hk:k < r.length) {α β:Bool} (hαβ:α = true ∨ β = true) (R:MSub):sideM r ARule.right (if β then pl R (rgt r k) else fm r k α R) = app (fun v=>sideM r ARule.right (R v)) (rgt r k):=by
 cases β with
 | true=>rw [if_pos rfl];exact side_pl _
 | false =>
  have hα:α = true:=by simpa using hαβ
  subst hα
  rw [if_neg (by simp),h.tgt_fm hk,if_pos rfl]
theorem Ortho.diamond:∀ (n:Nat) (a b:AMulti),msize a+msize b≤n→OkM r a→OkM r b→sideM r ARule.left b = sideM r ARule.left a→sideM r ARule.right (rest r a b) = sideM r ARule.right (uni r a b)∧sideM r ARule.right (rest r b a) = sideM r ARule.right (uni r a b)
 | 0,a,b,hn,_,_,_=>by have:=msize_pos a;omega
 | n+1,a,b,hn,ha,hb,hs=>by
  rcases h.shapes ha hb hs with ⟨a0,b0,hbe,hm⟩ | ⟨k,α,β,f,g,hk,rfl,rfl,hαβ,hp⟩
  ·have hl:b.args.length = a.args.length:=by have:=congrArg List.length hm;simpa using this
   have e:rest r a b = .mk 0 a.name a.var (List.zipWith (rest r) a.args b.args):=by
    rw [rest_eq,if_neg (by omega),if_neg (by omega)]
   have e1:rest r b a = .mk 0 b.name b.var (List.zipWith (rest r) b.args a.args):=by
    rw [rest_eq,if_neg (by omega),if_neg (by omega)]
   have e2:uni r a b = .mk 0 a.name a.var (List.zipWith (uni r) a.args b.args):=by
    rw [uni_eq,if_neg (by omega),if_neg (by omega)]
   have hi:∀ k,k < a.args.length→_:=fun k hk=>by
    have h1:=getD_mem hk
    have h2:=getD_mem (l:=b.args) (k:=k) (by omega)
    have:=arg_lt h1
    have:=arg_lt h2
    exact Ortho.diamond n (a.args.getD k default) (b.args.getD k default) (by omega) (ha.arg h1) (hb.arg h2) (map_get hm hk)
   have en:b.name = a.name:=by have:=congrArg AMulti.name hbe;exact this
   have ev:b.var = a.var:=by have:=congrArg AMulti.var hbe;exact this
   rw [e,e1,e2,en,ev,side_node,side_node,side_node,List.map_zipWith,List.map_zipWith,List.map_zipWith]
   refine ⟨?_,?_⟩
   ·have e3:=zip_ext (F:=fun x y=>sideM r ARule.right (rest r x y)) (G:=fun x y=>sideM r ARule.right (uni r x y)) hl fun k hk=>(hi k hk).1
    rw [e3]
   ·have e3:=zip_ext (F:=fun x y=>sideM r ARule.right (rest r y x)) (G:=fun x y=>sideM r ARule.right (uni r x y)) hl fun k hk=>(hi k hk).2
    have e4:List.zipWith (fun x y=>sideM r ARule.right (rest r x y)) b.args a.args = List.zipWith (fun x y=>sideM r ARule.right (rest r y x)) a.args b.args:=List.zipWith_comm ..
    rw [e4,e3]
  ·obtain ⟨q1,q2,q3,q4,q5,q6,q7⟩:=h.left hk
   have hi:∀ v∈vrs r k,_:=fun v hv=>by
    obtain ⟨p1,p2,p3,p4⟩:=hp v hv
    exact Ortho.diamond n (f v) (g v) (by omega) p1 p2 p3
   have e:(α || β) = true:=by rcases hαβ with rfl | rfl <;> simp
   rw [rest_fm h hk,rest_fm h hk,uni_fm h hk,e,h.tgt_rest hk hαβ,h.tgt_rest hk hαβ.symm,h.tgt_fm hk,if_pos rfl]
   exact ⟨app_congr _ fun v hv=>(hi v (q7 v hv)).1,app_congr _ fun v hv=>(hi v (q7 v hv)).2⟩
end
end Go.Dw
end
section
namespace Go.Dw
theorem ok_mb {r:List ARule} (m:AMulti):OkM r m→mb m≤25 * msize m:=by
 induction m using multi_ind with
 | h m ih =>
 intro hm
 have h1:=mb_args m
 have h2:=msize_args m
 have h3:∀ l:List AMulti,(∀ a∈l,a∈m.args)→mbs l≤25 * msizes l:=by
  intro l
  induction l with
  | nil=>intro _;simp [mbs,msizes]
  | cons a l ihl =>
   intro hl
   have:=ih a (hl a (by simp)) (hm.arg (hl a (by simp)))
   have:=ihl fun x hx=>hl x (by simp [hx])
   simp only [mbs,msizes];omega
 have h4:=h3 m.args fun a ha=>ha
 have h5:m.name.length≤24:=by
  have hf:=allM_self hm.fm
  unfold formedM at hf
  split at hf
  ·rw [Bool.and_eq_true,decide_eq_true_eq] at hf
   rw [hf.1];simp
  ·split at hf
   ·simp only [Bool.and_eq_true,isName,decide_eq_true_eq] at hf;exact hf.2.1
   ·simp only [Bool.and_eq_true,isName,decide_eq_true_eq] at hf;exact hf.2.1
 omega
noncomputable def resP (r:List ARule) (a b:AMulti):AMulti × Int:=if pairE r a b ≠ 0 then (zM,pairE r a b) else if fitM (rest r a b) = true then (rest r a b,0) else (zM,3)
noncomputable def uniP (r:List ARule) (a b:AMulti):AMulti × Int:=if pairE r a b ≠ 0 then (zM,pairE r a b) else if fitM (uni r a b) = true then (uni r a b,0) else (zM,3)
theorem resV_P (r:List ARule) (a b:AMulti):resV r a b = .tup [encM (resP r a b).1,.int .i64 (resP r a b).2]:=by
 unfold resV resP fitE
 split
 ·rfl
 ·split <;> rfl
theorem uniV_P (r:List ARule) (a b:AMulti):uniV r a b = .tup [encM (uniP r a b).1,.int .i64 (uniP r a b).2]:=by
 unfold uniV uniP fitE
 split
 ·rfl
 ·split <;> rfl
theorem resP_ok {r:List ARule} {a b:AMulti} (h:(resP r a b).2 = 0):pairE r a b = 0∧fitM (rest r a b) = true∧(resP r a b).1 = rest r a b:=by
 unfold resP at h ⊢
 split at h
 ·rename_i hc;exact absurd h hc
 ·rename_i hc
  rw [if_neg hc]
  split at h
  ·rename_i h2;rw [if_pos h2];exact ⟨Classical.not_not.1 hc,h2,rfl⟩
  ·cases h
theorem uniP_ok {r:List ARule} {a b:AMulti} (h:(uniP r a b).2 = 0):pairE r a b = 0∧fitM (uni r a b) = true∧(uniP r a b).1 = uni r a b:=by
 unfold uniP at h ⊢
 split at h
 ·rename_i hc;exact absurd h hc
 ·rename_i hc
  rw [if_neg hc]
  split at h
  ·rename_i h2;rw [if_pos h2];exact ⟨Classical.not_not.1 hc,h2,rfl⟩
  ·cases h
theorem fitM_le {m:AMulti} (h:fitM m = true):msize m≤4000∧mdepth m≤200:=by
 unfold fitM at h
 simpa using h
theorem endM_of {r:List ARule} {m:AMulti} {f:ARule→Term} (h:checkM r m = 0):endM r f m = if fits (sideM r f m) = true then (some (sideM r f m),0) else (none,3):=by
 unfold endM;rw [if_neg (by simpa using h)]
theorem res_good {r:List ARule} {a b:AMulti} (h:(resP r a b).2 = 0):(resP r a b).1 = rest r a b∧checkM r (rest r a b) = 0∧OkM r (rest r a b)∧sideM r ARule.left (rest r a b) = sideM r ARule.right b∧fits (sideM r ARule.right b) = true∧mb (rest r a b) < 2^28:=by
 obtain ⟨h1,h2,h3⟩:=resP_ok h
 obtain ⟨g1,g2,g3,g4,g5,g6,g7,g8,g9⟩:=pair_good h1
 obtain ⟨k1,k2⟩:=g1.rest_ok _ a b (Nat.le_refl _) g2 g3 g4
 obtain ⟨k3,k4⟩:=fitM_le h2
 have:=ok_mb _ k1
 exact ⟨h3,checkM_iff.2 ⟨g1.sys,k1,k3,k4⟩,k1,k2,g6,by omega⟩
theorem uni_good {r:List ARule} {a b:AMulti} (h:(uniP r a b).2 = 0):(uniP r a b).1 = uni r a b∧checkM r (uni r a b) = 0∧OkM r (uni r a b)∧sideM r ARule.left (uni r a b) = sideM r ARule.left a∧fits (sideM r ARule.left a) = true∧mb (uni r a b) < 2^28:=by
 obtain ⟨h1,h2,h3⟩:=uniP_ok h
 obtain ⟨g1,g2,g3,g4,g5,g6,g7,g8,g9⟩:=pair_good h1
 obtain ⟨k1,k2⟩:=g1.uni_ok _ a b (Nat.le_refl _) g2 g3 g4
 obtain ⟨k3,k4⟩:=fitM_le h2
 have:=ok_mb _ k1
 exact ⟨h3,checkM_iff.2 ⟨g1.sys,k1,k3,k4⟩,k1,k2,g5,by omega⟩
def okEnds (r:List ARule) (m:AMulti):Bool:=decide ((endM r ARule.left m).2 = 0) && decide ((endM r ARule.right m).2 = 0)
def endL (r:List ARule) (m:AMulti):Term:=(endM r ARule.left m).1.getD noT
def endR (r:List ARule) (m:AMulti):Term:=(endM r ARule.right m).1.getD noT
theorem okEnds_is {r:List ARule} {m:AMulti} (h:okEnds r m = true):checkM r m = 0∧fits (sideM r ARule.left m) = true∧fits (sideM r ARule.right m) = true∧endL r m = sideM r ARule.left m∧endR r m = sideM r ARule.right m:=by
 unfold okEnds at h
 rw [Bool.and_eq_true,decide_eq_true_eq,decide_eq_true_eq] at h
 obtain ⟨a1,a2,a3⟩:=endM_some h.1
 obtain ⟨b1,b2,b3⟩:=endM_some h.2
 refine ⟨a1,a2,b2,?_,?_⟩
 ·unfold endL;rw [a3];rfl
 ·unfold endR;rw [b3];rfl
theorem tb_end {r:List ARule} {m:AMulti} (h:checkM r m = 0):(fits (sideM r ARule.left m) = true→tb (sideM r ARule.left m) < 2^28)∧(fits (sideM r ARule.right m) = true→tb (sideM r ARule.right m) < 2^28):=by
 obtain ⟨d1,d2,d3,d4⟩:=checkM_ok h
 have key:∀ f:ARule→Term,(∀ x∈r,short (f x) = true)→fits (sideM r f m) = true→tb (sideM r f m) < 2^28:=fun f hf hft=>by
  have h2:=tb_short _ (side_short r f hf m d2)
  have h3:=fits_size hft
  omega
 exact ⟨key _ fun x hx=>(checkSystem_good d1 x hx).1.1,key _ fun x hx=>(checkSystem_good d1 x hx).2.1⟩
theorem diamond_law {r:List ARule} {a b:AMulti} (h1:(resP r a b).2 = 0) (h2:(resP r b a).2 = 0) (h3:(uniP r a b).2 = 0) :
  endR r b = sideM r ARule.right b∧tb (endR r b) < 2^28 ∧
  (okEnds r (rest r a b) = true→endL r (rest r a b) = endR r b)∧(okEnds r (rest r a b) = true→okEnds r (rest r b a) = true→endR r (rest r a b) = endR r (rest r b a)) ∧
  (okEnds r (rest r b a) = true→okEnds r (uni r a b) = true→endR r (rest r b a) = endR r (uni r a b)):=by
 obtain ⟨a1,a2,a3,a4,a5,a6⟩:=res_good h1
 obtain ⟨g1,g2,g3,g4,g5,g6,g7,g8,g9⟩:=pair_good (resP_ok h1).1
 obtain ⟨d1,d2⟩:=g1.diamond _ a b (Nat.le_refl _) g2 g3 g4
 obtain ⟨e1,e2,e3,e4⟩:=pairE_ok (resP_ok h1).1
 obtain ⟨b1,b2,b3,b4,b5⟩:=endsE_ok e3
 have hb:endR r b = sideM r ARule.right b:=by unfold endR;rw [endM_of b1,if_pos g6];rfl
 refine ⟨hb,hb ▸ (tb_end b1).2 g6,fun k=>?_,fun k k2=>?_,fun k k2=>?_⟩
 ·rw [(okEnds_is k).2.2.2.1,hb,a4]
 ·rw [(okEnds_is k).2.2.2.2,(okEnds_is k2).2.2.2.2,d1,d2]
 ·rw [(okEnds_is k).2.2.2.2,(okEnds_is k2).2.2.2.2,d2]
end Go.Dw
end
section
namespace Go.Dw
theorem l18_ends_s {r:List ARule} {m:AMulti} (hr:rbs r < 2^38) (hm:mb m < 2^38):PF n_l18_ends [encRs r,encM m] (.tup [encT (endL r m),encT (endR r m),.bool (okEnds r m)]):=by
 have h1:=multi_Source_s r m hr hm
 have h2:=multi_Target_s r m hr hm
 rw [encTE_getD] at h1 h2
 unfold endL endR okEnds
 generalize endM r ARule.left m = A at *
 generalize endM r ARule.right m = B at *
 obtain ⟨o1,e1⟩:=A
 obtain ⟨o2,e2⟩:=B
 refine pf_of l18_ends.ok rfl ?_
 push_cast
 refine .of h1 ?_
 push_cast
 refine .of h2 ?_
 simp only
 by_cases c1:e1 = 0
 ·subst c1
  by_cases c2:e2 = 0
  ·subst c2
   push_cast
   exact pf_ret (by push_cast [l18_ends.rs])
  ·push_cast [eq_false c2]
   exact pf_ret (by push_cast [l18_ends.rs,eq_false c2])
 ·push_cast [eq_false c1]
  exact pf_ret (by push_cast [l18_ends.rs,eq_false c1])
theorem ResidualDiamond_s (hal:PF n_l18_alive [] (.bool true)) {r:List ARule} {a b:AMulti} (hr:rbs r < 2^28) (ha:mb a < 2^28) (hb:mb b < 2^28) :
  SpecE prog n_l18_ResidualDiamond [encRs r,encM a,encM b] [] (fun x' H'=>x' = .bool true∧H' = []):=by
 have h1:=residual_Residual_s (r:=r) (a:=a) (b:=b) (by omega) (by omega) (by omega)
 have h2:=residual_Residual_s (r:=r) (a:=b) (b:=a) (by omega) (by omega) (by omega)
 have h3:=residual_Union_s (r:=r) (a:=a) (b:=b) (by omega) (by omega) (by omega)
 rw [resV_P] at h1 h2
 rw [uniV_P] at h3
 refine spece_of_run mixed l18_ResidualDiamond.ok rfl ?_
 push_cast
 refine .of h1 ?_
 push_cast
 refine .of h2 ?_
 push_cast
 refine .of h3 ?_
 by_cases c1:(resP r a b).2 = 0
 ·by_cases c2:(resP r b a).2 = 0
  ·by_cases c3:(uniP r a b).2 = 0
   ·have m1:mb (resP r a b).1 < 2^28:=by rw [(res_good c1).1];exact (res_good c1).2.2.2.2.2
    have m2:mb (resP r b a).1 < 2^28:=by rw [(res_good c2).1];exact (res_good c2).2.2.2.2.2
    have m3:mb (uniP r a b).1 < 2^28:=by rw [(uni_good c3).1];exact (uni_good c3).2.2.2.2.2
    have e0:=l18_ends_s (r:=r) (m:=b) (by omega) (by omega)
    have e1:=l18_ends_s (r:=r) (m:=(resP r a b).1) (by omega) (by omega)
    have e2:=l18_ends_s (r:=r) (m:=(resP r b a).1) (by omega) (by omega)
    have e3:=l18_ends_s (r:=r) (m:=(uniP r a b).1) (by omega) (by omega)
    push_cast [c1,c2,c3]
    refine .of e0 ?_
    push_cast
    refine .of e1 ?_
    push_cast
    refine .of e2 ?_
    push_cast
    refine .of e3 ?_
    have hl:=diamond_law c1 c2 c3
    rw [← (res_good c1).1,← (res_good c2).1,← (uni_good c3).1] at hl
    obtain ⟨_,t0,l1,l2,l3⟩:=hl
    have tR:∀ m,okEnds r m = true→tb (endR r m) < 2^28:=fun m h=>by
     obtain ⟨k1,k2,k3,k4,k5⟩:=okEnds_is h
     rw [k5];exact (tb_end k1).2 k3
    have tX:=tR (resP r a b).1
    have tY:=tR (resP r b a).1
    have tU:=tR (uniP r a b).1
    generalize endR r b = en at *
    generalize okEnds r (resP r a b).1 = o1 at *
    generalize okEnds r (resP r b a).1 = o2 at *
    generalize okEnds r (uniP r a b).1 = o3 at *
    generalize endL r (resP r a b).1 = s at *
    generalize endR r (resP r a b).1 = t at *
    generalize endR r (resP r b a).1 = v at *
    generalize endR r (uniP r a b).1 = w at *
    have hEq:∀ t:Term,tb t < 2^28→PF n_r01_Equal [encT t,encT t] (.bool true):=fun t h=>by
     have:=r01_Equal_s t t (by omega) (by omega)
     simpa using this
    cases o1
    ·push_cast
     cases o2
     ·push_cast
      refine .of hal ?_
      push_cast
      exact pf_ret (by push_cast [l18_ResidualDiamond.rs])
     ·push_cast
      cases o3
      ·push_cast
       refine .of hal ?_
       push_cast
       exact pf_ret (by push_cast [l18_ResidualDiamond.rs])
      ·obtain rfl:=l3 rfl rfl
       push_cast
       refine .of (hEq _ (tY rfl)) ?_
       push_cast
       refine .of hal ?_
       push_cast
       exact pf_ret (by push_cast [l18_ResidualDiamond.rs])
    ·obtain rfl:=l1 rfl
     push_cast
     refine .of (hEq _ t0) ?_
     cases o2
     ·push_cast
      refine .of hal ?_
      push_cast
      exact pf_ret (by push_cast [l18_ResidualDiamond.rs])
     ·obtain rfl:=l2 rfl rfl
      push_cast
      refine .of (hEq _ (tX rfl)) ?_
      cases o3
      ·push_cast
       refine .of hal ?_
       push_cast
       exact pf_ret (by push_cast [l18_ResidualDiamond.rs])
      ·obtain rfl:=l3 rfl rfl
       push_cast
       refine .of (hEq _ (tX rfl)) ?_
       push_cast
       refine .of hal ?_
       push_cast
       exact pf_ret (by push_cast [l18_ResidualDiamond.rs])
   ·push_cast [c1,c2,eq_false c3]
    refine .of hal ?_
    push_cast
    exact pf_ret (by push_cast [l18_ResidualDiamond.rs])
  ·push_cast [c1,eq_false c2]
   refine .of hal ?_
   push_cast
   exact pf_ret (by push_cast [l18_ResidualDiamond.rs])
 ·push_cast [eq_false c1]
  refine .of hal ?_
  push_cast
  exact pf_ret (by push_cast [l18_ResidualDiamond.rs])
end Go.Dw
end
section
namespace Go.Dw
theorem unif_clash {a b:Term} (ha:a.var = false) (hb:b.var = false) (hn:a.name ≠ b.name):unif1 a b = ([],false,0):=by
 have h:solvesW (solveN 1) [] [a] [b] = some ([],false):=by
  simp only [solvesW,solveN,headN,ha,hb,Bool.false_eq_true,if_false]
  rw [if_pos (.inl hn)]
 unfold unif1 unifE
 rw [solveS_eq h,if_pos rfl]
theorem overE_clash {a b:ARule} {pos:List Int} {sub:Term} (h1:sub.var = false) (h2:b.left.var = false) (h3:sub.name ≠ b.left.name):overE a b pos sub = (false,0):=by
 unfold overE;rw [unif_clash h1 h2 h3,if_pos rfl]
theorem stepJ_no {r:List ARule} {i j:Nat} {a:ARule} {pos:List Int} {sub:Term} (h:overE a (renQ [121] (r.getD j default)) pos sub = (false,0)):stepJ r i a pos sub [] j = ([],0):=by
 unfold stepJ
 split
 ·rfl
 ·rw [h];rfl
theorem stepJ_self {r:List ARule} {i:Nat} {a:ARule} {sub:Term}:stepJ r i a [] sub [] i = ([],0):=by
 unfold stepJ
 rw [if_pos ⟨rfl,rfl⟩]
def vX8:Term:=.mk [120] true []
def tA8:Term:=.mk [97] false []
def tB8:Term:=.mk [98] false []
def ex18:List ARule:=[⟨.mk [102] false [vX8],.mk [103] false [vX8,vX8]⟩,⟨tA8,tB8⟩]
def mA8:AMulti:=.mk 0 [97] false []
def mB8:AMulti:=.mk 2 [] false []
def exA:AMulti:=.mk 1 [] false [mA8]
def exB:AMulti:=.mk 0 [102] false [mB8]
theorem ren_f (pre:Str):∃ w,(renQ pre (ex18.getD 0 default)).left = .mk [102] false [.mk w true []]:=⟨_,rfl⟩
theorem ren_a (pre:Str):(renQ pre (ex18.getD 1 default)).left = .mk [97] false []:=rfl
theorem range_ex:List.range ex18.length = [0,1]:=rfl
theorem step_0:stepI ex18 [] 0 = ([],0):=by
 unfold stepI
 obtain ⟨w,hw⟩:=ren_f [120]
 rw [hw]
 have hv:visit (.mk [102] false [.mk w true []]) [] = [([],.mk [102] false [.mk w true []]),([0],.mk w true [])]:=rfl
 rw [hv]
 have h1:stepV ex18 0 (renQ [120] (ex18.getD 0 default)) [] ([],.mk [102] false [.mk w true []]) = ([],0):=by
  unfold stepV
  rw [if_neg (by simp [Term.var]),range_ex]
  have e:stepJ ex18 0 (renQ [120] (ex18.getD 0 default)) [] (.mk [102] false [.mk w true []]) [] 1 = ([],0):=stepJ_no (overE_clash rfl (by rw [ren_a];rfl) (by rw [ren_a];show ([102]:Str) ≠ [97];decide))
  rw [scanE_ok stepJ_self,scanE_ok e];rfl
 have h2:stepV ex18 0 (renQ [120] (ex18.getD 0 default)) [] ([0],.mk w true []) = ([],0):=by
  unfold stepV
  exact if_pos rfl
 rw [scanE_ok h1,scanE_ok h2];rfl
theorem step_1:stepI ex18 [] 1 = ([],0):=by
 unfold stepI
 rw [ren_a]
 have hv:visit (.mk [97] false []) [] = [([],.mk [97] false [])]:=rfl
 rw [hv]
 have h1:stepV ex18 1 (renQ [120] (ex18.getD 1 default)) [] ([],.mk [97] false []) = ([],0):=by
  unfold stepV
  rw [if_neg (by simp [Term.var]),range_ex]
  obtain ⟨w,hw⟩:=ren_f [121]
  have e:stepJ ex18 1 (renQ [120] (ex18.getD 1 default)) [] (.mk [97] false []) [] 0 = ([],0):=stepJ_no (overE_clash rfl (by rw [hw];rfl) (by rw [hw];show ([97]:Str) ≠ [102];decide))
  rw [scanE_ok e,scanE_ok stepJ_self];rfl
 rw [scanE_ok h1];rfl
theorem all_ex:allO ex18 = ([],0):=by
 unfold allO
 rw [range_ex,scanE_ok step_0,scanE_ok step_1];rfl
theorem sys_ex:checkSystem ex18 = 0:=by decide +kernel
theorem ortho_ex:orthoE ex18 = (true,0):=by
 unfold orthoE
 rw [if_neg (by rw [sys_ex];simp),all_ex,if_neg (by simp)]
 have:(ex18.all fun x=>linB x.left) = true:=by decide +kernel
 rw [this];rfl
theorem ready_ex:readyE ex18 = 0:=by
 unfold readyE
 rw [ortho_ex];rfl
theorem or_ex:Ortho ex18:=ortho_of ortho_ex
theorem vars_0:vrs ex18 0 = [[120]]:=by
 unfold vrs lft varsOf
 have:vsetT [] [(ex18.getD 0 default).left] = [[120]]:=by decide
 rw [this]
 unfold Proofs.sortS
 exact List.mergeSort_of_pairwise (by decide)
theorem vars_1:vrs ex18 1 = []:=by
 unfold vrs lft varsOf
 have:vsetT [] [(ex18.getD 1 default).left] = []:=by decide
 rw [this]
 unfold Proofs.sortS
 exact List.mergeSort_of_pairwise (by decide)
theorem exA_is:exA = fm ex18 0 true fun _=>mA8:=by
 show exA = ru ex18 0 _
 unfold ru;rw [vars_0];rfl
theorem exB_is:exB = fm ex18 0 false fun _=>mB8:=rfl
theorem mA_is:mA8 = fm ex18 1 false fun _=>zM:=rfl
theorem mB_is:mB8 = fm ex18 1 true fun _=>zM:=by
 show mB8 = ru ex18 1 _
 unfold ru;rw [vars_1];rfl
theorem rest_AB:rest ex18 mA8 mB8 = .mk 0 [98] false []:=by
 rw [mA_is,mB_is,rest_fm or_ex (by decide),if_pos rfl];rfl
theorem rest_BA:rest ex18 mB8 mA8 = mB8:=by
 conv=>lhs;rw [mA_is,mB_is,rest_fm or_ex (by decide),if_neg (by simp)]
 show ru ex18 1 _ = _
 unfold ru;rw [vars_1];rfl
theorem rest_1:rest ex18 exA exB = .mk 1 [] false [.mk 0 [98] false []]:=by
 rw [exA_is,exB_is,rest_fm or_ex (by decide),if_neg (by simp)]
 show ru ex18 0 _ = _
 unfold ru;rw [vars_0,List.map_singleton,rest_AB];rfl
theorem rest_2:rest ex18 exB exA = .mk 0 [103] false [mB8,mB8]:=by
 rw [exA_is,exB_is,rest_fm or_ex (by decide),if_pos rfl,rest_BA];rfl
theorem end_A:endsE ex18 exA = 0∧endsE ex18 exB = 0∧srcT ex18 exA = srcT ex18 exB:=by decide +kernel
theorem res_1:resP ex18 exA exB = (.mk 1 [] false [.mk 0 [98] false []],0):=by
 unfold resP pairE
 rw [ready_ex,end_A.1,end_A.2.1,end_A.2.2,if_neg (by simp),rest_1];rfl
theorem res_2:resP ex18 exB exA = (.mk 0 [103] false [mB8,mB8],0):=by
 unfold resP pairE
 rw [ready_ex,end_A.1,end_A.2.1,end_A.2.2,if_neg (by simp),rest_2];rfl
theorem l18_system_s:PF n_l18_system [] (encRs ex18):=by
 refine pf_of l18_system.ok rfl ?_
 push_cast
 exact pf_ret (by push_cast [l18_system.rs];rfl)
theorem alive18:PF n_l18_alive [] (.bool true):=by
 have h1:=residual_Residual_s (r:=ex18) (a:=exA) (b:=exB) (by decide) (by decide) (by decide)
 have h2:=residual_Residual_s (r:=ex18) (a:=exB) (b:=exA) (by decide) (by decide) (by decide)
 rw [resV_P,res_1] at h1
 rw [resV_P,res_2] at h2
 refine pf_of l18_alive.ok rfl ?_
 push_cast
 refine .of l18_system_s ?_
 push_cast
 refine .of h1 ?_
 push_cast
 refine .of l18_system_s ?_
 push_cast
 refine .of h2 ?_
 push_cast
 refine .of (r17_Same_self _ (by decide)) ?_
 push_cast
 refine .of (r17_Same_self _ (by decide)) ?_
 push_cast
 exact pf_ret (by push_cast [l18_alive.rs])
end Go.Dw
end
