/-
  Contracts and lemmas for ResidualCube: part g of 8.
-/
import Derived.Test.YtkdcfkfdkimaeaaGreatDoorCaf
import Derived.WalkKit
import Derived.Laws.MathBits
import Derived.Test.YtkdcfkfdkimaeaaGreatDoorCad
import Derived.Test.YtkdcfkfdkimaeaaGreatDoorCae
set_option linter.unusedVariables false
set_option linter.unusedSimpArgs false
set_option maxRecDepth 100000
section
namespace Go.Dw
theorem wide_size (t:Term):wide t≤size t:=by
 induction t using term_ind with
 | h t ih =>
 have h1:=size_args t
 have h2:=length_le_sizes t.args
 have key:∀ l:List Term,(∀ a∈l,wide a≤size a)→wides l≤sizes l:=by
  intro l
  induction l with
  | nil=>intro _;simp [wides,sizes]
  | cons a l ihl =>
   intro h
   have:=h a (by simp)
   have:=ihl fun b hb=>h b (by simp [hb])
   simp only [wides,sizes];omega
 have h3:=key t.args ih
 have h4:wide t = max t.args.length (wides t.args):=by cases t;rfl
 omega
theorem occ_short {v:Str} (t:Term):short t = true→occ v t = true→v.length≤24:=by
 induction t using term_ind with
 | h t ih =>
 intro h ho
 obtain ⟨h1,h2,h3⟩:=short_iff.1 h
 rcases uocc_iff.1 ho with ⟨_,e⟩ | ⟨a,ha,ho⟩
 ·rw [← e];exact h1
 ·exact ih a ha (h3 a ha) ho
theorem solvesW_keep {P:Term→Prop} {Q:Str→Prop} (hP:∀ t a,P t→a∈t.args→P a) (hQ:∀ t,P t→t.var = true→Q t.name) {n:Nat}:∀ (l m:List Term) (s:List ABind) (r:List ABind × Bool),(∀ v t,image s v = some t→P t∧Q v)→(∀ a∈l,P a)→(∀ b∈m,P b)→solvesW (solveN n) s l m = some r→∀ v t,image r.1 v = some t→P t∧Q v
 | [],m,s,r,hs,_,_,h=>by simp only [solvesW,Option.some.injEq] at h;subst h;exact hs
 | a :: l,[],s,r,hs,_,_,h=>by simp only [solvesW,Option.some.injEq] at h;subst h;exact hs
 | a :: l,b :: m,s,r,hs,hl,hm,h=>by
  simp only [solvesW] at h
  cases hf:solveN n s a b with
  | none=>rw [hf] at h;cases h
  | some p =>
   obtain ⟨s1,ok⟩:=p
   rw [hf] at h
   have h1:=solveN_keep hP hQ n s a b _ hs (hl a (by simp)) (hm b (by simp)) hf
   cases ok with
   | false=>simp only [Option.some.injEq] at h;subst h;exact h1
   | true=>exact solvesW_keep hP hQ l m s1 r h1 (fun x hx=>hl x (by simp [hx])) (fun x hx=>hm x (by simp [hx])) h
theorem short_app {f:Sub} (t:Term):short t = true→(∀ v,occ v t = true→short (f v) = true)→short (app f t) = true:=by
 induction t using term_ind with
 | h t ih =>
 intro ht h
 obtain ⟨h1,h2,h3⟩:=short_iff.1 ht
 cases hv:t.var with
 | true=>rw [app_var hv];exact h _ (uocc_iff.2 (.inl ⟨hv,rfl⟩))
 | false =>
  rw [app_fun hv]
  refine short_iff.2 ⟨h1,(fun e=>by cases e),fun a ha=>?_⟩
  simp only [Term.args,List.mem_map] at ha
  obtain ⟨b,hb,rfl⟩:=ha
  exact ih b hb (h3 b hb) fun v hv=>h v (uocc_iff.2 (.inr ⟨b,hb,hv⟩))
theorem UOk.short {s:List ABind} {σ:Sub} {rk:Str→Nat} (h:UOk s σ rk) (hs:∀ v t,image s v = some t→Dw.short t = true) (v:Str):v.length≤24→Dw.short (σ v) = true:=by
 revert v
 refine h.ind fun v ih=>?_
 intro hv
 cases hi:image s v with
 | none =>
  rw [h.free v hi]
  exact short_iff.2 ⟨hv,fun _=>rfl,fun a ha=>by cases ha⟩
 | some t =>
  rw [h.fix v t hi]
  exact short_app t (hs v t hi) fun w hw=>ih t w hi hw (occ_short t (hs v t hi) hw)
structure GoodT (t:Term):Prop where
 sh:short t = true
 sz:size t≤4000
 dp:depth t≤200
theorem GoodT.vf {t:Term} (h:GoodT t):vfl t = true:=short_vfl t h.sh
theorem GoodT.tb {t:Term} (h:GoodT t):tb t < 2^20:=by have:=tb_short t h.sh;have:=h.sz;omega
theorem GoodT.of_check {t:Term} (h:check t = 0):GoodT t:=by
 obtain ⟨h1,h2⟩:=check_iff.1 h
 unfold fits at h2
 rw [Bool.and_eq_true,decide_eq_true_eq,decide_eq_true_eq] at h2
 exact ⟨formed_short t h1,h2.1,h2.2⟩
def vs2 (a b:Term):List Str:=varsT a++varsT b
theorem vs2_len {a b:Term} (ha:GoodT a) (hb:GoodT b):(vs2 a b).length≤8000:=by
 have h1:=collectT_len a []
 have h2:=collectT_len b []
 have h3:=ha.sz
 have h4:=hb.sz
 unfold vs2
 rw [List.length_append]
 have e1:varsT a = collectT [] a:=rfl
 have e2:varsT b = collectT [] b:=rfl
 rw [e1,e2]
 simp only [List.length_nil] at h1 h2
 omega
theorem vs2_mem {a b:Term} {w:Str}:w∈vs2 a b ↔ occ w a = true ∨ occ w b = true:=by
 unfold vs2
 rw [List.mem_append]
 have h1:=mem_collectT w a []
 have h2:=mem_collectT w b []
 simp only [List.not_mem_nil,false_or] at h1 h2
 exact or_congr h1 h2
theorem solveOk2 {a b:Term} (ha:GoodT a) (hb:GoodT b):SolveOk [⟨a,b⟩] (vs2 a b) 200:=by
 have hl:=vs2_len ha hb
 have h1:=wide_size a
 have h2:=wide_size b
 have h3:=ha.sz
 have h4:=hb.sz
 refine ⟨fun x hx=>?_,fun x hx=>?_,fun x hx=>?_,by omega,by omega,by simp⟩
 all_goals rw [List.mem_singleton.1 hx]
 ·exact ⟨⟨ha.vf,fun w hw=>vs2_mem.2 (.inl hw)⟩,⟨hb.vf,fun w hw=>vs2_mem.2 (.inr hw)⟩⟩
 ·exact ⟨by show wide a < _;omega,by show wide b < _;omega⟩
 ·exact ⟨ha.dp,hb.dp⟩
theorem vs2_short {a b:Term} (ha:GoodT a) (hb:GoodT b):∀ v∈vs2 a b,v.length≤24:=fun v hv=>by
 rcases vs2_mem.1 hv with h | h
 ·exact occ_short a ha.sh h
 ·exact occ_short b hb.sh h
noncomputable abbrev unif1 (a b:Term):List ABind × Bool × Int:=unifE [a] [b]
theorem program_unif {a b:Term} (ha:GoodT a) (hb:GoodT b):PF n_unify_Solve [encRs [⟨a,b⟩]] (encUn (unif1 a b)):=unify_Solve_s _ _ _ (solveOk2 ha hb)
structure UnOk (a b:Term) (s:List ABind):Prop where
 srt:Sorted s
 len:s.length≤8000
 sh:∀ x∈s,short x.term = true∧size x.term≤4000∧x.name.length≤24
 bb:bbs s < 2^34
theorem bbs_le {s:List ABind} {m:Nat} (h:∀ x∈s,1+x.name.length+tb x.term≤m):bbs s≤s.length * m:=by
 induction s with
 | nil=>simp [bbs]
 | cons x s ih =>
  have h1:=h x (by simp)
  have h2:=ih fun y hy=>h y (by simp [hy])
  simp only [bbs,List.length_cons,Nat.succ_mul];omega
theorem unif1_errs (a b:Term):(unif1 a b).2.2 = 0 ∨ ((unif1 a b).2.2 = 3∧(unif1 a b).2.1 = false):=by
 unfold unif1 unifE
 split
 ·exact .inl rfl
 ·split
  ·exact .inr ⟨rfl,rfl⟩
  ·exact .inl rfl
theorem unif1_ok {a b:Term} (ha:GoodT a) (hb:GoodT b) (h:(unif1 a b).2.1 = true):UnOk a b (unif1 a b).1∧(unif1 a b).2.2 = 0∧(unif1 a b).1 = wholeS (solveS [a] [b]).1:=by
 obtain ⟨n,r,hr⟩:=solvesW_ends (vs2 a b) [a] [b] [] varT (fun _=>0) UOk.nil (fun v t h=>by cases h) (fun z hz=>by rw [List.mem_singleton.1 hz];exact ⟨ha.vf,fun w hw=>vs2_mem.2 (.inl hw)⟩) (fun z hz=>by rw [List.mem_singleton.1 hz];exact ⟨hb.vf,fun w hw=>vs2_mem.2 (.inr hw)⟩)
 have hS:=solveS_eq hr
 obtain ⟨rk,hu,ham,_,_⟩:=solveS_ok (Vs:=vs2 a b) (l:=[a]) (m:=[b]) (fun z hz=>by rw [List.mem_singleton.1 hz];exact ⟨ha.vf,fun w hw=>vs2_mem.2 (.inl hw)⟩) (fun z hz=>by rw [List.mem_singleton.1 hz];exact ⟨hb.vf,fun w hw=>vs2_mem.2 (.inr hw)⟩) rfl
 have hk:=solvesW_keep (P:=fun t=>short t = true) (Q:=fun _=>True) (fun t a h ha=>(short_iff.1 h).2.2 a ha) (fun _ _ _=>trivial) [a] [b] [] r (fun v t h=>by cases h) (fun z hz=>by rw [List.mem_singleton.1 hz];exact ha.sh) (fun z hz=>by rw [List.mem_singleton.1 hz];exact hb.sh) hr
 rw [← hS] at hk
 unfold unif1 unifE at h ⊢
 generalize solveS [a] [b] = q at h hu ham hk
 by_cases c1:q.2 = false
 ·rw [if_pos c1] at h;cases h
 ·rw [if_neg c1] at h ⊢
  by_cases c2:hugeS q.1 = true
  ·rw [if_pos c2] at h;cases h
  ·rw [if_neg c2]
   have hlen:=among_names hu.srt ham
   have hv2:=vs2_len ha hb
   have hmem:∀ x∈wholeS q.1,short x.term = true∧size x.term≤4000∧x.name.length≤24:=by
    intro x hx
    unfold wholeS at hx
    obtain ⟨y,hy,rfl⟩:=List.mem_map.1 hx
    have hi:=image_of_mem hu.srt hy
    have hnm:y.name.length≤24:=vs2_short ha hb _ (ham _ _ hi).2
    refine ⟨hu.short (fun v t h=>(hk v t h).1) y.name hnm,?_,hnm⟩
    have c3:hugeS q.1 = false:=by simpa using c2
    unfold hugeS at c3
    rw [List.any_eq_false] at c3
    have:=c3 y hy
    unfold fits at this
    simp only [Bool.not_eq_true,Bool.not_eq_false',Bool.not_not,Bool.and_eq_true,decide_eq_true_eq] at this
    exact this.1
   have hwl:(wholeS q.1).length = q.1.length:=by simp [wholeS]
   refine ⟨⟨?_,by rw [hwl];omega,hmem,?_⟩,rfl,rfl⟩
   ·unfold wholeS Sorted
    rw [List.pairwise_map]
    exact hu.srt
   ·have h1:=bbs_le (s:=wholeS q.1) (m:=100100) fun x hx=>by
     obtain ⟨e1,e2,e3⟩:=hmem x hx
     have:=tb_short x.term e1
     omega
    have h2:(wholeS q.1).length * 100100≤8000 * 100100:=Nat.mul_le_mul_right _ (by rw [hwl];omega)
    show bbs (wholeS q.1) < 2^34
    omega
theorem dig_len2:∀ (k n:Nat),n < 10^(k+1)→(dig n).length≤k+1
 | 0,n,h=>by unfold dig Lib.decDigits;rw [dif_pos (by simpa using h)];simp
 | k+1,n,h=>by
  unfold dig Lib.decDigits
  split
  ·simp
  ·have:=dig_len2 k (n / 10) (by rw [Nat.pow_succ] at h;omega)
   unfold dig at this
   simp only [List.length_append,List.length_singleton];omega
theorem posS_lt {l:List Str} {v:Str} {j:Nat} (h:posS l v = some j):j < l.length:=by
 induction l generalizing j with
 | nil=>cases h
 | cons x l ih =>
  simp only [posS] at h
  split at h
  ·cases h;simp
  ·cases hq:posS l v with
   | none=>rw [hq] at h;cases h
   | some i =>
    rw [hq] at h;cases h
    have:=ih hq
    simp;omega
theorem var_shape {f:Sub} (hf:∀ v,∃ w,f v = varT w) (t:Term):vfl t = true→size (app f t) = size t∧depth (app f t) = depth t:=by
 induction t using term_ind with
 | h t ih =>
 intro ht
 cases hv:t.var with
 | true =>
  rw [app_var hv]
  obtain ⟨w,hw⟩:=hf t.name
  rw [hw,vfl_var ht hv];exact ⟨rfl,rfl⟩
 | false =>
  have key:∀ l:List Term,(∀ a∈l,a∈t.args)→sizes (l.map (app f)) = sizes l∧depths (l.map (app f)) = depths l:=by
   intro l
   induction l with
   | nil=>intro _;exact ⟨rfl,rfl⟩
   | cons a l ihl =>
    intro hl
    have h1:=ih a (hl a (by simp)) (vfl_arg ht (hl a (by simp)))
    have h2:=ihl fun b hb=>hl b (by simp [hb])
    simp only [List.map_cons,sizes,depths,h1,h2,and_self]
  have h3:=key t.args fun _ h=>h
  have e1:=size_args t
  have e2:=depth_args t
  rw [app_fun hv]
  have e3:size (Term.mk t.name false (t.args.map (app f))) = 1+sizes (t.args.map (app f)):=rfl
  have e4:depth (Term.mk t.name false (t.args.map (app f))) = depths (t.args.map (app f))+1:=rfl
  omega
theorem rho_good {pre:Str} (hp:pre.length = 1) {l:List Str} (hl:l.length≤4000) {t:Term} (ht:GoodT t) (hs:Stands l t):GoodT (app (rho pre l) t):=by
 have h1:=var_shape (f:=rho pre l) (fun v=>⟨_,rfl⟩) t ht.vf
 refine ⟨short_app t ht.sh fun v hv=>?_,by rw [h1.1];exact ht.sz,by rw [h1.2];exact ht.dp⟩
 unfold rho
 cases hq:posS l v with
 | none=>exact absurd (hs v hv) (posS_none.1 hq)
 | some j =>
  have h2:=posS_lt hq
  have h3:=dig_len2 3 j (by omega)
  exact short_iff.2 ⟨by show (pre++dig j).length≤24;rw [List.length_append];omega,fun _=>rfl,fun a ha=>by cases ha⟩
structure GoodR (x:ARule):Prop where
 l:GoodT x.left
 r:GoodT x.right
 v:∀ v,occ v x.right = true→occ v x.left = true
theorem renQ_good {pre:Str} (hp:pre.length = 1) {x:ARule} (h:GoodR x):GoodR (renQ pre x):=by
 have hl:(firstT [] x.left).length≤4000:=by have:=firstT_size x.left [];have:=h.l.sz;simp only [List.length_nil] at *;omega
 have hs:=(firstT_pre x.left []).2 h.l.vf
 have hs2:Stands (firstT [] x.left) x.right:=fun v hv=>hs v (h.v v hv)
 refine ⟨rho_good hp hl h.l hs,rho_good hp hl h.r hs2,fun v hv=>?_⟩
 obtain ⟨w,h1,h2⟩:=(occ_app x.right h.r.vf).1 hv
 exact (occ_app x.left h.l.vf).2 ⟨w,h.v w h1,h2⟩
end Go.Dw
end
section
namespace Go.Dw
theorem slices_Clone_int_p (p:List Int) (hp:p.length < 2^40):PF n_slices_Clone_s_int_int [encP p] (encP p):=by
 refine pf_of slices_Clone_s_int_int.ok rfl ?_
 push_cast
 intro c hc
 refine ⟨fun h=>?_,fun h=>⟨by rw [List.length_map];unfold maxEls;omega,?_⟩⟩
 ·have hp0:p = []:=by simpa using hc (by cases c <;> simp_all)
  subst hp0
  exact pf_ret (by push_cast [slices_Clone_s_int_int.rs];rfl)
 ·exact pf_ret (by push_cast [slices_Clone_s_int_int.rs];rfl)
end Go.Dw
end
section
namespace Go.Dw
theorem callG_std {N:Nat→C} {B:Nat} {k:List K} {t:T} {Q:X→T→List Ob→Prop} {dd:Option Nat} {l:List S} (H:List Ob) (k':Run prog N B (.r l :: k) (setO dd (.fn (.func n_term_Standard_1) [] [.ptr (H.length+1) 0]) t) (nHp H [] []) Q):CallG prog N B dd l k t Q (.func n_term_Standard) [] H:=by
 refine CallG.some [] (by simp) (by simp) (R:=fun x' H'=>x' = .fn (.func n_term_Standard_1) [] [.ptr 1 0]∧H' = nH []) ?_ ?_
 ·exact specF_func ▸ term_Standard_s
 rintro x' H' ⟨rfl,rfl⟩ _
 have h0:∀ n,back [] n 0 = some n:=fun n=>rfl
 have h1:∀ n,back [] n 1 = some (n+1):=fun n=>rfl
 have e:takeB [] H (nH []) = nHp H [] []:=by
  unfold takeB
  have e1:takeG [] H ((nH []).map (renOb (back [] H.length))) = H:=by
   unfold takeG
   apply List.ext_getElem?
   intro i
   by_cases hi:i < H.length
   ·simp [pos?,hi,List.getD_eq_getElem?_getD]
   ·simp [hi]
  rw [e1]
  push_cast [h0]
  rfl
 rw [e]
 push_cast [h1] at k' ⊢
 exact k'
abbrev ovZ:List V:=[.int .i64 0,.int .i64 0,.sl 1 [],.str [],.bool false,.sl 3 [],.str [],.bool false,.sl 3 [],.str [],.bool false,.sl 3 []]
abbrev ov4 (W:Term):List Ob:=[.cells t_Overlap ovZ,.dead,.dead,.cells t_Term (cT W)]
theorem ov_args (z:Term):rens (pos? [4,5]) [encT z,V.ptr 5 0] = [encT z,V.ptr 1 0]:=by
 have q5:pos? [4,5] 5 = some 1:=rfl
 push_cast [q5]
structure AOv where
 outer:Int
 inner:Int
 pos:List Int
 peak:Term
 left:Term
 right:Term
def noOv:AOv:=⟨0,0,[],noT,noT,noT⟩
def cOv (o:AOv):List V:=[.int .i64 o.outer,.int .i64 o.inner,encP o.pos]++cT o.peak++cT o.left++cT o.right
def encOv (o:AOv):V:=.agg (cOv o)
theorem ren_encOv {σ:Nat→Option Nat} (o:AOv):ren σ (encOv o) = encOv o:=rfl
noncomputable def overE (a b:ARule) (pos:List Int) (sub:Term):Bool × Int :=
 if (unif1 sub b.left).2.1 = false then (false,(unif1 sub b.left).2.2)
 else if (fits (inst (unif1 sub b.left).1 a.left) && (fits (inst (unif1 sub b.left).1 a.right) && fits (inst (unif1 sub b.left).1 b.right))) = false then (false,3)
 else if fits (setT (inst (unif1 sub b.left).1 a.left) pos (inst (unif1 sub b.left).1 b.right)) = false then (false,3) else (true,0)
noncomputable def ovO (a b:ARule) (pos:List Int) (sub:Term):AOv :=
 if (overE a b pos sub).1 then
  let s:=(unif1 sub b.left).1
  let p:=renT [120] [] (inst s a.left)
  let q:=renT [120] p.1 (inst s a.right)
  ⟨0,0,pos,p.2,q.2,(renT [120] q.1 (setT (inst s a.left) pos (inst s b.right))).2⟩
 else noOv
theorem overlap_one_s {a b:ARule} (ha:GoodR a) (hb:GoodR b) {pos:List Int} (hpos:pos.length < 2^20) {sub:Term} (hsub:GoodT sub) :
  PF n_overlap_one [encR a,encR b,encP pos,encT sub] (.tup [encOv (ovO a b pos sub),.bool (overE a b pos sub).1,.int .i64 (overE a b pos sub).2]):=by
 have hU:=program_unif hsub hb.l
 have hE:=unif1_errs sub b.left
 have hO:=unif1_ok hsub hb.l
 unfold ovO overE
 generalize hu:unif1 sub b.left = u at hU hE hO
 obtain ⟨s,ok,e⟩:=u
 simp only at hE hO
 refine pf_of overlap_one.ok rfl ?_
 push_cast
 refine .of hU ?_
 cases ok with
 | false =>
  simp only [if_true,Bool.false_eq_true,if_false]
  rcases hE with rfl | ⟨rfl,_⟩
  ·push_cast [encUn]
   exact pf_ret (by push_cast [overlap_one.rs];rfl)
  ·push_cast [encUn]
   exact pf_ret (by push_cast [overlap_one.rs];rfl)
 | true =>
  obtain ⟨hs,rfl,_⟩:=hO rfl
  have hI1:=term_Instance_sw s hs.srt hs.bb a.left (by have:=ha.l.tb;omega)
  have hI2:=term_Instance_sw s hs.srt hs.bb a.right (by have:=ha.r.tb;omega)
  have hI3:=term_Instance_sw s hs.srt hs.bb b.right (by have:=hb.r.tb;omega)
  simp only [Bool.true_eq_false,if_false]
  clear hU hE hO hu
  by_cases hf:(fits (inst s a.left) && (fits (inst s a.right) && fits (inst s b.right))) = false
  ·rw [if_pos hf]
   simp only [Bool.false_eq_true,if_false]
   cases f1:fits (inst s a.left) <;> cases f2:fits (inst s a.right) <;> cases f3:fits (inst s b.right)
   case true.true.true=>rw [f1,f2,f3] at hf;cases hf
   all_goals
    rw [f1] at hI1
    rw [f2] at hI2
    rw [f3] at hI3
    simp only [Bool.false_eq_true,if_false,if_true,encTE] at hI1 hI2 hI3
    push_cast [encUn]
    refine .of hI1 ?_
    push_cast
    refine .of hI2 ?_
    push_cast
    refine .of hI3 ?_
    push_cast
    exact pf_ret (by push_cast [overlap_one.rs];rfl)
  ·rw [if_neg hf]
   have hf2:fits (inst s a.left) = true∧fits (inst s a.right) = true∧fits (inst s b.right) = true:=by simpa using hf
   obtain ⟨f1,f2,f3⟩:=hf2
   rw [f1] at hI1
   rw [f2] at hI2
   rw [f3] at hI3
   simp only [if_true,encTE] at hI1 hI2 hI3
   have z1:size (inst s a.left)≤4000:=by unfold fits at f1;simp at f1;exact f1.1
   have z2:size (inst s a.right)≤4000:=by unfold fits at f2;simp at f2;exact f2.1
   have z3:size (inst s b.right)≤4000:=by unfold fits at f3;simp at f3;exact f3.1
   have hSet:=term_Set_s pos (inst s a.left) (inst s b.right) (by omega) (by omega) (by omega)
   have z4:=setT_size pos (inst s a.left) (inst s b.right)
   have hFit:=term_Fit_s (setT (inst s a.left) pos (inst s b.right)) (by omega)
   generalize inst s a.left = P at *
   generalize inst s a.right = L at *
   generalize inst s b.right = R at *
   generalize setT P pos R = W at *
   push_cast [encUn]
   refine .of hI1 ?_
   push_cast
   refine .of hI2 ?_
   push_cast
   refine .of hI3 ?_
   push_cast
   refine .of hSet ?_
   push_cast
   refine .of hFit ?_
   cases f4:fits W with
   | false =>
    push_cast [encTE]
    exact pf_ret (by push_cast [overlap_one.rs];rfl)
   | true =>
    push_cast [encTE]
    have hC:=slices_Clone_int_p pos (by omega)
    have r1:=renT_size [120] P []
    have r2:=renT_size [120] L (renT [120] [] P).1
    simp only [List.length_nil] at r1
    have hN1:=term_Standard_1_s [] P (by simp;omega)
    have hN2:=term_Standard_1_s (renT [120] [] P).1 L (by omega)
    have hN3:=term_Standard_1_s (renT [120] (renT [120] [] P).1 L).1 W (by omega)
    generalize renT [120] [] P = P' at *
    generalize renT [120] P'.1 L = L' at *
    generalize renT [120] L'.1 W = W' at *
    refine callG_std _ ?_
    push_cast
    refine .of hC ?_
    push_cast
    refine ⟨?_,?_⟩
    ·refine callG_np (ov4 W) [] (ov_args P) (specF_func ▸ hN1) ?_
     push_cast
     refine ⟨?_,?_⟩
     ·refine callG_np (ov4 W) [] (ov_args L) (specF_func ▸ hN2) ?_
      push_cast
      refine callG_np (ov4 W) [] (ov_args W) (specF_func ▸ hN3) ?_
      push_cast
      exact pf_ret (by push_cast [overlap_one.rs];rfl)
     ·refine callG_np (ov4 W) [] (ov_args L) (specF_func ▸ hN2) ?_
      push_cast
      refine callG_np (ov4 W) [] (ov_args W) (specF_func ▸ hN3) ?_
      push_cast
      exact pf_ret (by push_cast [overlap_one.rs];rfl)
    ·refine callG_np (ov4 W) [] (ov_args P) (specF_func ▸ hN1) ?_
     push_cast
     refine callG_np (ov4 W) [] (ov_args L) (specF_func ▸ hN2) ?_
     push_cast
     refine callG_np (ov4 W) [] (ov_args W) (specF_func ▸ hN3) ?_
     push_cast
     exact pf_ret (by push_cast [overlap_one.rs];rfl)
end Go.Dw
end
section
namespace Go.Dw
theorem r17_Same_self (m:AMulti) (hs:msize m < 2^40):PF n_r17_Same [encM m,encM m] (.bool true):=by
 induction m using multi_ind with
 | h m ih =>
 have hst:=msize_args m
 have hll:=length_le_msizes m.args
 refine pf_of r17_Same.ok rfl ?_
 have e:∀ x:Bool,(x != x) = false:=fun x=>by cases x <;> rfl
 push_cast [e]
 refine loop_up (n:=m.args.length) (R:=fun k=>r17_Same.L3 (.ro (cM m) 0) (.ro (cM m) 0) (.int .i64 m.args.length) (.int .i64 k) 0 [] (Ends 0 r17_Same.rs fun x' H'=>x' = .bool true∧H' = [])) ?_ ?_ 0 (by omega)
 ·intro k hk ih2
  have hmm:=getD_mem hk
  have hm2:=msize_mem hmm
  refine r17_Same.G3 ?_
  push_cast [ilt hk]
  refine .of (ih _ hmm (by omega)) ?_
  push_cast [ilt hk,w64 (show k < 2^62 by omega)]
  exact ih2
 ·refine r17_Same.G3 ?_
  push_cast [inlt (Nat.le_refl _)]
  exact pf_ret (by push_cast [r17_Same.rs])
end Go.Dw
end
section
namespace Go.Dw
mutual
def occR (v:Str):Term→List (List Int)
 | .mk n b l=>(if b && decide (n = v) then [[]] else [])++occRs v l 0
def occRs (v:Str):List Term→Nat→List (List Int)
 | [],_=>[]
 | a :: l,i=>(occR v a).map ((i:Int) :: ·)++occRs v l (i+1)
end
theorem occW_append (v:Str) (a b:List (List Int × Term)):occW v (a++b) = occW v a++occW v b:=by unfold occW;rw [List.filter_append,List.map_append]
mutual
theorem occW_visit (v:Str):∀ (t:Term) (p:List Int),occW v (visit t p) = (occR v t).map (p++·)
 | .mk n b l,p=>by
  have h:=occW_visits v l p 0
  have h1:occW v ((p,Term.mk n b l) :: visits l p 0) = (if b && decide (n = v) then [p] else [])++occW v (visits l p 0):=by
   unfold occW
   rw [List.filter_cons]
   show List.map Prod.fst (if (b && decide (n = v)) = true then _ else _) = _
   split <;> simp
  simp only [visit,occR,h1,h,List.map_append]
  congr 1
  split <;> simp
theorem occW_visits (v:Str):∀ (l:List Term) (p:List Int) (i:Nat),occW v (visits l p i) = (occRs v l i).map (p++·)
 | [],p,i=>rfl
 | a :: l,p,i=>by
  simp only [visits,occRs,occW_append,occW_visit v a,occW_visits v l p (i+1),List.map_append,List.map_map]
  congr 1
  apply List.map_congr_left
  intro q _;simp
end
theorem occM_R (t:Term) (v:Str):occM t v = occR v t:=by
 unfold occM
 rw [occW_visit]
 simp
mutual
theorem occR_some (v:Str):∀ t:Term,occ v t = true→occR v t ≠ []
 | .mk n b l,h=>by
  simp only [occ,Bool.or_eq_true] at h
  simp only [occR]
  rcases h with h | h
  ·rw [if_pos h];simp
  ·have:=occRs_some v l 0 h
   simp [this]
theorem occRs_some (v:Str):∀ (l:List Term) (i:Nat),occs v l = true→occRs v l i ≠ []
 | [],i,h=>by cases h
 | a :: l,i,h=>by
  simp only [occs,Bool.or_eq_true] at h
  simp only [occRs]
  rcases h with h | h
  ·have:=occR_some v a h
   simp [this]
  ·have:=occRs_some v l (i+1) h
   simp [this]
end
def nodeM:AMulti→List Int→AMulti
 | m,[]=>m
 | m,i :: p=>nodeM (m.args.getD i.toNat default) p
theorem varsOf_nodup (t:Term):(varsOf [t]).Nodup:=by
 have h2:(vsetT [] [t]).Nodup:=by
  show (vset [] (visit t [])).Nodup
  exact vset_nodup _ _ List.nodup_nil
 exact (List.mergeSort_perm _ _).nodup_iff.2 h2
theorem ixS_getD {vars:List Str} (hn:vars.Nodup) {k:Nat} (hk:k < vars.length):ixS (vars.getD k default) vars = k:=by
 obtain ⟨i1,i2,i3⟩:=idxI_ix (getD_mem hk)
 generalize hv:vars.getD k default = v at i1 i2 i3 ⊢
 rw [List.getD_eq_getElem?_getD,List.getElem?_eq_getElem hk,Option.getD_some] at hv
 rw [List.getD_eq_getElem?_getD,List.getElem?_eq_getElem i2,Option.getD_some] at i3
 exact (List.getElem_inj hn).1 (i3.trans hv.symm)
end Go.Dw
end
section
namespace Go.Dw
mutual
def plugMM (vars:List Str) (x:List AMulti):Term→AMulti
 | .mk n v l=>if v then x.getD (ixS n vars) default else .mk 0 n false (plugMMs vars x l)
def plugMMs (vars:List Str) (x:List AMulti):List Term→List AMulti
 | []=>[]
 | a :: l=>plugMM vars x a :: plugMMs vars x l
end
theorem plugMMs_map (vars:List Str) (x:List AMulti) (l:List Term):plugMMs vars x l = l.map (plugMM vars x):=by induction l with | nil=>rfl | cons a l ih=>simp [plugMMs,ih]
theorem plugMM_eq (vars:List Str) (x:List AMulti) (t:Term):plugMM vars x t = if t.var then x.getD (ixS t.name vars) default else .mk 0 t.name false (t.args.map (plugMM vars x)):=by cases t;simp only [plugMM,plugMMs_map,Term.name,Term.var,Term.args];rfl
end Go.Dw
end
section
namespace Go.Dw
theorem multi_Plug_s (vars:List Str) (x:List AMulti) (hva:vars.length≤x.length) (hl:vars.length < 2^40) (t:Term) (ht:size t < 2^40) (ho:∀ v,occ v t = true→v∈vars):PF n_multi_Plug [encT t,encSs vars,encMs x] (encM (plugMM vars x t)):=by
 induction t using term_ind with
 | h t ih =>
 have hst:=size_args t
 have hll:=length_le_sizes t.args
 refine pf_of multi_Plug.ok rfl ?_
 rw [plugMM_eq]
 cases hv:t.var with
 | true =>
  obtain ⟨h1,h2,h3⟩:=idxI_ix (ho _ (occ_self hv))
  have hI:=slices_Index_str_s vars t.name (by omega)
  rw [h1] at hI
  have hlt:((ixS t.name vars:Int) < (x.length:Int)) = True:=eq_true (by omega)
  push_cast [hv]
  refine .of hI ?_
  push_cast [hlt]
  exact pf_ret (by push_cast [multi_Plug.rs])
 | false =>
  push_cast [hv]
  refine loop_up (n:=t.args.length) (R:=fun k=>multi_Plug.L3 (encSs vars) (encMs x) (.ptr 0 0) (.ptr 1 0) (encTs t.args) (.int .i64 t.args.length) (.int .i64 k) 0 [.cells t_Multi [.int .i64 0,.str [],.bool false,.sl 4 []],.cells t_Multi [.int .i64 0,.str t.name,.bool false,ownL cM 2 4 ((t.args.take k).map (plugMM vars x))],.arr t_Multi 4 k] _) ?_ ?_ 0 (by omega)
  ·intro k hk ih2
   have hm:=getD_mem hk
   have hm2:=size_mem hm
   have hlen:((t.args.take k).map (plugMM vars x)).length = k:=by simp;omega
   rw [take_succ_getD hk,List.map_append,List.map_singleton] at ih2
   refine multi_Plug.G3 ?_
   push_cast [ilt hk]
   refine .of (ih _ hm (by omega) fun v hv2=>ho v (occ_arg hm hv2)) ?_
   push_cast [hlen,w64 (show k < 2^62 by omega)]
   exact ⟨by unfold maxEls;omega,ih2⟩
  ·refine multi_Plug.G3 ?_
   push_cast [inlt (Nat.le_refl _)]
   refine pf_ret ?_
   push_cast [multi_Plug.rs,List.take_length,cM_mk]
   try rfl
theorem rens_cMs {σ:Nat→Option Nat} {l:List AMulti}:(l.map cM).map (rens σ) = l.map cM:=by rw [List.map_map];rfl
end Go.Dw
end
section
namespace Go.Dw
theorem occM_pos (t:Term) (v:Str):occM t v = (posT t).filter fun p=>match subT t p with | some x=>x.var && decide (x.name = v) | none=>false:=by
 unfold occM occW
 have h1:=visit_pos t []
 simp only [List.nil_append,List.map_id'] at h1
 rw [← h1,List.filter_map]
 congr 1
 apply List.filter_congr
 intro x hx
 obtain ⟨q,hq,hs⟩:=visit_at t [] x hx
 rw [List.nil_append] at hq
 simp only [Function.comp,hq,hs,isV]
end Go.Dw
end
section
namespace Go.Dw
theorem endM_some {r:List ARule} {f:ARule→Term} {m:AMulti} (h:(endM r f m).2 = 0):checkM r m = 0∧fits (sideM r f m) = true∧endM r f m = (some (sideM r f m),0):=by
 unfold endM at h ⊢
 split at h
 ·rename_i h1;exact absurd h h1
 ·rename_i h1
  rw [if_neg h1]
  split at h
  ·rename_i h2
   rw [if_pos h2]
   exact ⟨Classical.not_not.1 h1,h2,rfl⟩
  ·cases h
end Go.Dw
end
section
namespace Go.Dw
theorem subT_app:∀ (p q:List Int) (t:Term),subT t (p++q) = (subT t p).bind fun u=>subT u q
 | [],q,t=>rfl
 | i :: p,q,t=>by
  simp only [List.cons_append,subT]
  split
  ·exact subT_app p q _
  ·rfl
theorem sub_inst {σ:List ABind}:∀ (p:List Int) (L y:Term),short L = true→subT L p = some y→subT (inst σ L) p = some (inst σ y)
 | [],L,y,_,h=>by cases h;rfl
 | i :: p,L,y,hs,h=>by
  have h3:=short_iff.1 hs
  simp only [subT] at h
  split at h
  ·rename_i hi
   have hk:i.toNat < L.args.length:=by omega
   have hv:L.var = false:=by
    cases hv:L.var with
    | false=>rfl
    | true=>rw [h3.2.1 hv] at hk;simp at hk
   rw [inst_eq,hv,if_neg (by simp)]
   have hl:(L.args.map (inst σ)).length = L.args.length:=List.length_map ..
   show (if 0≤i∧i < ((L.args.map (inst σ)).length:Int) then subT ((L.args.map (inst σ)).getD i.toNat default) p else none) = _
   rw [if_pos (by omega)]
   have e:(L.args.map (inst σ)).getD i.toNat default = inst σ (L.args.getD i.toNat default):=by simp [List.getD_eq_getElem?_getD,hk]
   rw [e]
   exact sub_inst p _ y (h3.2.2 _ (getD_mem hk)) h
  ·cases h
theorem occM_at {t:Term} {v:Str} {p:List Int} (h:p∈occM t v):∃ y,subT t p = some y∧y.var = true∧y.name = v:=by
 rw [occM_pos] at h
 obtain ⟨h1,h2⟩:=List.mem_filter.1 h
 cases hs:subT t p with
 | none=>rw [hs] at h2;cases h2
 | some y =>
  rw [hs] at h2
  simp only [Bool.and_eq_true,decide_eq_true_eq] at h2
  exact ⟨y,rfl,h2.1,h2.2⟩
end Go.Dw
end
section
namespace Go.Dw
theorem GoodT.arg {t a:Term} (h:GoodT t) (ha:a∈t.args):GoodT a:=by
 have h1:=size_args t
 have h2:=size_mem ha
 have h3:=depth_args t
 have h4:=depth_mem ha
 have h5:=h.sz
 have h6:=h.dp
 exact ⟨(short_iff.1 h.sh).2.2 a ha,by omega,by omega⟩
theorem GoodT.sub:∀ (p:List Int) {t x:Term},GoodT t→subT t p = some x→GoodT x
 | [],t,x,h,hx=>by simp only [subT,Option.some.injEq] at hx;subst hx;exact h
 | i :: p,t,x,h,hx=>by
  simp only [subT] at hx
  split at hx
  ·rename_i hi
   exact GoodT.sub p (h.arg (getD_mem (by omega))) hx
  ·cases hx
noncomputable def ovR (a b:ARule) (i j:Nat) (pos:List Int) (sub:Term):AOv :=
 if (overE a b pos sub).1 then
  let s:=(unif1 sub b.left).1
  let v:=renB (firstT [] (inst s a.left)) [120]
  ⟨i,j,pos,inst v (inst s a.left),inst v (inst s a.right),inst v (setT (inst s a.left) pos (inst s b.right))⟩
 else noOv
end Go.Dw
end
section
namespace Go.Dw
def scanE {α:Type} (F:List AOv→α→List AOv × Int):List AOv→List α→List AOv × Int
 | out,[]=>(out,0)
 | out,x :: l=>if (F out x).2 ≠ 0 then ([],(F out x).2) else scanE F (F out x).1 l
theorem scanE_ok {α:Type} {F:List AOv→α→List AOv × Int} {out o:List AOv} {x:α} {l:List α} (h:F out x = (o,0)):scanE F out (x :: l) = scanE F o l:=by simp [scanE,h]
theorem scanE_bad {α:Type} {F:List AOv→α→List AOv × Int} {out:List AOv} {x:α} {l:List α} {o:List AOv} {e:Int} (h:F out x = (o,e)) (he:e ≠ 0):scanE F out (x :: l) = ([],e):=by simp [scanE,h,he]
noncomputable def stepJ (r:List ARule) (i:Nat) (a:ARule) (pos:List Int) (sub:Term) (out:List AOv) (j:Nat):List AOv × Int :=
 if i = j∧pos = [] then (out,0)
 else if (overE a (renQ [121] (r.getD j default)) pos sub).2 ≠ 0 then ([],(overE a (renQ [121] (r.getD j default)) pos sub).2)
 else if (overE a (renQ [121] (r.getD j default)) pos sub).1 then
  (if 4096 < out.length+1 then ([],3) else (out++[{ ovO a (renQ [121] (r.getD j default)) pos sub with outer:=i,inner:=j }],0))
 else (if 4096 < out.length then ([],3) else (out,0))
noncomputable def stepV (r:List ARule) (i:Nat) (a:ARule) (out:List AOv) (x:List Int × Term):List AOv × Int :=
 if x.2.var then (out,0) else scanE (stepJ r i a x.1 x.2) out (List.range r.length)
noncomputable def stepI (r:List ARule) (out:List AOv) (i:Nat):List AOv × Int :=
 scanE (stepV r i (renQ [120] (r.getD i default))) out (visit (renQ [120] (r.getD i default)).left [])
noncomputable def allO (r:List ARule):List AOv × Int:=scanE (stepI r) [] (List.range r.length)
abbrev oH1 (out:List AOv) (o:V) (e:Int):List Ob:=[.cells t_s_Overlap [o],.cells t_Errno [.int .i64 e],.cells t_s_Overlap [ownL cOv 3 12 out],.arr t_Overlap 12 out.length]
abbrev oH8 (out:List AOv) (o:V) (e:Int) (a:ARule) (nm:NM):List Ob:=oH1 out o e++[.dead,.cells t_Rule (cR a),.map (encS V.str nm),.cells t_m_string_string [.map 6]]
theorem cOv_len (o:AOv):(cOv o).length = 12:=rfl
theorem sub_cOv (o:AOv):sub 0 12 (cOv o) = cOv o:=rfl
theorem sto_encOv (o:AOv):sto (encOv o) = some (cOv o):=rfl
theorem encOv_fold (o:AOv):V.agg (cOv o) = encOv o:=rfl
theorem rens_cOv {σ:Nat→Option Nat} (o:AOv):rens σ (cOv o) = cOv o:=rfl
theorem put_cOv0 (o:AOv) (i:Int):put 0 [V.int .i64 i] (cOv o) = cOv { o with outer:=i }:=rfl
theorem put_cOv1 (o:AOv) (i:Int):put 1 [V.int .i64 i] (cOv o) = cOv { o with inner:=i }:=rfl
theorem put_cOvz (o:AOv):put 0 (cOv o) [.int .i64 0,.int .i64 0,.sl 1 [],.str [],.bool false,.sl 3 [],.str [],.bool false,.sl 3 [],.str [],.bool false,.sl 3 []] = cOv o:=rfl
attribute [push_cast] put_cOv0 put_cOv1 put_cOvz
attribute [push_cast] cOv_len sub_cOv sto_encOv encOv_fold rens_cOv ren_encOv
theorem overE_err (a b:ARule) (pos:List Int) (sub:Term):(overE a b pos sub).2 ≠ 0→(overE a b pos sub).1 = false∧(overE a b pos sub).2 = 3:=by
 intro h
 have hE:=unif1_errs sub b.left
 unfold overE at h ⊢
 split at h
 ·rename_i c
  rw [if_pos c]
  rcases hE with e | ⟨e,_⟩
  ·exact absurd e h
  ·exact ⟨rfl,e⟩
 ·rename_i c
  rw [if_neg c]
  split at h
  ·rename_i c2
   rw [if_pos c2];exact ⟨rfl,rfl⟩
  ·rename_i c2
   rw [if_neg c2]
   split at h
   ·rename_i c3
    rw [if_pos c3];exact ⟨rfl,rfl⟩
   ·exact absurd rfl h
theorem all_inner {r:List ARule} (hr:∀ x∈r,GoodR x) (hrl:r.length≤64) {i:Nat} (hi:i < r.length) {a:ARule} (ha:GoodR a) {pos:List Int} (hpos:pos.length < 2^20) {sub:Term} (hs:GoodT sub) {nm:NM}
  {Q:X→T→List Ob→Prop} (L:Ob) (hL:renOb (clip 10) L = L) (S:List AOv × Int)
  (out0:List AOv) (h0:out0.length≤4096) (hS:scanE (stepJ r i a pos sub) out0 (List.range r.length) = S)
  (kOk:∀ out,S = (out,0)→out.length≤4096→∀ T,Q .fall T (oH8 out (.sl 12 []) 0 a nm++[L,.dead]))
  (kBad:∀ out e,S.2 = e→e ≠ 0→∀ T J,Q .ret T (oH8 out (.sl 12 []) e a nm++(L :: J))) :
  overlap_All.L7 (.ptr 0 0) (.ptr 1 0) (.ptr 2 0) (.ro [.int .i64 i] 0) (.ptr 5 0) (encP pos) (.ro (cT sub) 0) (encRs r) (.int .i64 r.length) (.int .i64 0) 9 (oH8 out0 (.sl 12 []) 0 a nm++[L,.dead]) Q:=by
 refine loop_up (n:=r.length) (R:=fun j=>∀ out:List AOv,out.length≤4096→scanE (stepJ r i a pos sub) out ((List.range r.length).drop j) = S→overlap_All.L7 (.ptr 0 0) (.ptr 1 0) (.ptr 2 0) (.ro [.int .i64 i] 0) (.ptr 5 0) (encP pos) (.ro (cT sub) 0) (encRs r) (.int .i64 r.length) (.int .i64 j) 9 (oH8 out (.sl 12 []) 0 a nm++[L,.dead]) Q) ?_ ?_ 0 (by omega) out0 h0 hS
 ·intro j hj ih out hol he
  have hx:=hr _ (getD_mem hj)
  have hjr:j < (List.range r.length).length:=by simpa using hj
  have hgj:(List.range r.length).getD j default = j:=by simp [List.getD_eq_getElem?_getD,hj]
  rw [drop_getD hjr,hgj] at he
  have hI:=overlap_inner_s (r.getD j default) (by have:=hx.l.sz;have:=hx.r.sz;omega)
  rw [renR_renQ (pre:=[121]) (by simp) hx.l.vf hx.r.vf hx.v] at hI
  have hb:=renQ_good (pre:=[121]) rfl hx
  have hO:=overlap_one_s ha hb hpos hs
  have hErr:=overE_err a (renQ [121] (r.getD j default)) pos sub
  have hst:stepJ r i a pos sub out j = stepJ r i a pos sub out j:=rfl
  conv at hst=>rhs;unfold stepJ
  have hl9:∀ k:Nat,clip 9 k = if k < 9 then some k else none:=fun _=>rfl
  refine overlap_All.G7 ?_
  by_cases hc:i = j∧pos = []
  ·rw [if_pos hc] at hst
   rw [scanE_ok hst] at he
   have:=ih out hol he
   obtain ⟨c1,c2⟩:=hc
   have i1:((i:Int) = (j:Int)) = True:=eq_true (by omega)
   have i2:((pos.length:Int) = 0) = True:=eq_true (by rw [c2];rfl)
   push_cast [ilt hj,hL,i1,i2,w64 (show j < 2^62 by omega)]
   push_cast at this
   exact this
  ·rw [if_neg hc] at hst
   have go:∀ T:T,True:=fun _=>trivial
   generalize renQ [121] (r.getD j default) = b at hI hb hO hErr hst
   generalize hoo:ovO a b pos sub = o at hO hst
   generalize hov:overE a b pos sub = v at hO hErr hst
   obtain ⟨ok,e⟩:=v
   simp only at hErr hst
   by_cases hi1:i = j
   ·have hp:pos ≠ []:=fun h=>hc ⟨hi1,h⟩
    have i1:((i:Int) = (j:Int)) = True:=eq_true (by omega)
    have i2:((pos.length:Int) = 0) = False:=eq_false (by have:=List.length_pos_iff.2 hp;omega)
    push_cast [ilt hj,i1,i2]
    refine .of hI ?_
    push_cast
    refine .of hO ?_
    have hroom:(out.length+1) * 184≤maxEls:=by unfold maxEls;omega
    by_cases he0:e = 0
    ·subst he0
     rw [if_neg (by simp)] at hst
     cases ok with
     | true =>
      rw [if_pos rfl] at hst
      by_cases h4:4096 < out.length+1
      ·rw [if_pos h4] at hst
       rw [scanE_bad hst (by omega)] at he
       have i4:((4096:Int) < (out.length:Int)+1) = True:=eq_true (by omega)
       push_cast [hroom,i4,List.length_append,List.length_singleton]
       have hl3:out.length+1 = (out++[({ o with outer:=(i:Int),inner:=(j:Int) }:AOv)]).length:=by simp
       rw [hl3]
       exact kBad (out++[_]) 3 (by rw [← he]) (by omega) _ _
      ·rw [if_neg h4] at hst
       rw [scanE_ok hst] at he
       have i4:((4096:Int) < (out.length:Int)+1) = False:=eq_false (by omega)
       have:=ih _ (by simp;omega) he
       push_cast [hroom,i4,hL,List.length_append,List.length_singleton,w64 (show j < 2^62 by omega)]
       push_cast [List.length_append,List.length_singleton] at this
       exact this
     | false =>
      rw [if_neg (by simp),if_neg (by omega)] at hst
      rw [scanE_ok hst] at he
      have i4:((4096:Int) < (out.length:Int)) = False:=eq_false (by omega)
      have:=ih _ hol he
      push_cast [i4,hL,w64 (show j < 2^62 by omega)]
      push_cast at this
      exact this
    ·rw [if_pos he0] at hst
     rw [scanE_bad hst he0] at he
     have i3:(e = 0) = False:=eq_false he0
     push_cast [i3]
     exact kBad out e (by rw [← he]) he0 _ _
   ·have i1:((i:Int) = (j:Int)) = False:=eq_false (by omega)
    push_cast [ilt hj,i1]
    refine .of hI ?_
    push_cast
    refine .of hO ?_
    have hroom:(out.length+1) * 184≤maxEls:=by unfold maxEls;omega
    by_cases he0:e = 0
    ·subst he0
     rw [if_neg (by simp)] at hst
     cases ok with
     | true =>
      rw [if_pos rfl] at hst
      by_cases h4:4096 < out.length+1
      ·rw [if_pos h4] at hst
       rw [scanE_bad hst (by omega)] at he
       have i4:((4096:Int) < (out.length:Int)+1) = True:=eq_true (by omega)
       push_cast [hroom,i4,List.length_append,List.length_singleton]
       have hl3:out.length+1 = (out++[({ o with outer:=(i:Int),inner:=(j:Int) }:AOv)]).length:=by simp
       rw [hl3]
       exact kBad (out++[_]) 3 (by rw [← he]) (by omega) _ _
      ·rw [if_neg h4] at hst
       rw [scanE_ok hst] at he
       have i4:((4096:Int) < (out.length:Int)+1) = False:=eq_false (by omega)
       have:=ih _ (by simp;omega) he
       push_cast [hroom,i4,hL,List.length_append,List.length_singleton,w64 (show j < 2^62 by omega)]
       push_cast [List.length_append,List.length_singleton] at this
       exact this
     | false =>
      rw [if_neg (by simp),if_neg (by omega)] at hst
      rw [scanE_ok hst] at he
      have i4:((4096:Int) < (out.length:Int)) = False:=eq_false (by omega)
      have:=ih _ hol he
      push_cast [i4,hL,w64 (show j < 2^62 by omega)]
      push_cast at this
      exact this
    ·rw [if_pos he0] at hst
     rw [scanE_bad hst he0] at he
     have i3:(e = 0) = False:=eq_false he0
     push_cast [i3]
     exact kBad out e (by rw [← he]) he0 _ _
 ·intro out hol he
  have e1:(List.range r.length).drop r.length = []:=by rw [List.drop_eq_nil_of_le];simp
  rw [e1] at he
  simp only [scanE] at he
  refine overlap_All.G7 ?_
  push_cast [inlt (Nat.le_refl _)]
  have:=kOk out he.symm hol
  exact this _
end Go.Dw
end
section
namespace Go.Dw
theorem shut_o8 (out:List AOv) (e:Int) (a:ARule) (nm:NM):Shut 8 (oH8 out (.sl 12 []) e a nm):=⟨rfl,by
 show [renOb (clip 8) (.cells t_s_Overlap [.sl 12 []]),renOb (clip 8) (.cells t_Errno [.int .i64 e]),renOb (clip 8) (.cells t_s_Overlap [ownL cOv 3 12 out]),renOb (clip 8) (.arr t_Overlap 12 out.length),renOb (clip 8) .dead,renOb (clip 8) (.cells t_Rule (cR a)),renOb (clip 8) (.map (encS V.str nm)),renOb (clip 8) (.cells t_m_string_string [.map 6])] = _
 have h3:clip 8 3 = some 3:=rfl
 have h6:clip 8 6 = some 6:=rfl
 push_cast [h3,h6]⟩
theorem cut_o8 (out:List AOv) (e:Int) (a:ARule) (nm:NM) (J:List Ob):cut 8 (oH8 out (.sl 12 []) e a nm++J) = oH8 out (.sl 12 []) e a nm:=by
 show [renOb (clip 9) (.cells t_s_Overlap [.sl 12 []]),renOb (clip 9) (.cells t_Errno [.int .i64 e]),renOb (clip 9) (.cells t_s_Overlap [ownL cOv 3 12 out]),renOb (clip 9) (.arr t_Overlap 12 out.length),renOb (clip 9) .dead,renOb (clip 9) (.cells t_Rule (cR a)),renOb (clip 9) (.map (encS V.str nm)),renOb (clip 9) (.cells t_m_string_string [.map 6])] = _
 have h3:clip 9 3 = some 3:=rfl
 have h6:clip 9 6 = some 6:=rfl
 push_cast [h3,h6]
theorem visit_good {t:Term} (ht:GoodT t) {x:List Int × Term} (hx:x∈visit t []):GoodT x.2∧x.1.length < 2^20∧subT t x.1 = some x.2:=by
 have h1:=visit_at t [] x hx
 obtain ⟨p,hp,h2⟩:=h1
 rw [List.nil_append] at hp
 rw [← hp] at h2
 have h3:=(visit_sub t [] x hx).2
 have:=ht.sz
 exact ⟨GoodT.sub _ ht h2,by simp only [List.length_nil] at h3;omega,h2⟩
theorem all_rf {r:List ARule} (hr:∀ x∈r,GoodR x) (hrl:r.length≤64) {i:Nat} (hi:i < r.length) {a:ARule} (ha:GoodR a) {nm:NM} (S:List AOv × Int) (out0:List AOv) (h0:out0.length≤4096)
  (hS:scanE (stepV r i a) out0 (visit a.left []) = S) (T:T) (Ks:List K) {Q:X→Dw.T→List Ob→Prop}
  (t34:lk T 34 = .fn (.func n_term_Walk_1) [] [.ro (cT a.left) 0]) (t1:lk T 1 = .ro [encRs r] 0) (t2:lk T 2 = .ptr 0 0) (t3:lk T 3 = .ptr 1 0) (t4:lk T 4 = .ptr 2 0) (t5:lk T 5 = .ro [.int .i64 i] 0) (t6:lk T 6 = .ptr 5 0)
  (hT8:(T.map fun p=>(p.1,ren (clip 8) p.2)) = T) (hT10:(T.map fun p=>(p.1,ren (clip 10) p.2)) = T)
  (kOk:∀ out,S = (out,0)→out.length≤4096→Run prog overlap_All.nd 0 Ks T (oH8 out (.sl 12 []) 0 a nm++[.dead]) Q)
  (kBad:∀ out e,S.2 = e→e ≠ 0→Run prog overlap_All.nd 0 (.c (jumpC .ret) :: Ks) T (oH8 out (.sl 12 []) e a nm++[.dead]) Q) :
  Run prog overlap_All.nd 0 (.c (.rf (.s 34) [35,36] (.seq (.reg [.mv 8 (.s 35)]) (.reg [.al 9 t_Term [.str [],.bool false,.sl 3 []],.sf 9 3 (.s 36)])) (.m 9)) :: Ks) T (oH8 out0 (.sl 12 []) 0 a nm) Q:=by
 refine Run.rf n_term_Walk_1 [] [.ro (cT a.left) 0] ((visit a.left []).map encIt) (fun j H1=>∃ out,H1 = oH8 out (.sl 12 []) 0 a nm∧out.length≤4096∧scanE (stepV r i a) out ((visit a.left []).drop j) = S) (fun e H1=>e = .ret∧∃ out e',S.2 = e'∧e' ≠ 0∧H1 = oH8 out (.sl 12 []) e' a nm) t34 (term_Walk_iter a.left (by have:=ha.l.sz;omega)) ?_ ⟨out0,rfl,h0,hS⟩ hT8 ?_ ?_ ?_ ?_ ?_
 ·intro it hit
  obtain ⟨x,_,rfl⟩:=List.mem_map.1 hit
  rfl
 ·rintro j H1 ⟨out,rfl,_⟩
  exact shut_o8 out 0 a nm
 ·rintro e H1 ⟨_,out,e',_,_,rfl⟩
  exact shut_o8 out e' a nm
 ·rintro lo rr j it H1 hit ⟨out,rfl,hol,hq⟩
  rw [List.getElem?_map] at hit
  cases hx:(visit a.left [])[j]? with
  | none=>rw [hx] at hit;cases hit
  | some x =>
  rw [hx] at hit
  have hit:it = encIt x:=by simpa using hit.symm
  subst hit
  have hj:j < (visit a.left []).length:=(List.getElem?_eq_some_iff.1 hx).1
  have hxj:(visit a.left []).getD j default = x:=by rw [List.getD_eq_getElem?_getD,hx];rfl
  have hxm:x∈visit a.left []:=hxj ▸ getD_mem hj
  obtain ⟨hg,hpl,hsb⟩:=visit_good ha.l hxm
  rw [drop_getD hj,hxj] at hq
  have hL:renOb (clip 10) (.lp lo .busy rr T) = .lp lo .busy rr T:=by push_cast [hT10]
  have hst:stepV r i a out x = stepV r i a out x:=rfl
  conv at hst=>rhs;unfold stepV
  push_cast [setPs,encIt]
  refine run_m.2 ?_
  cases hv:x.2.var with
  | true =>
   rw [hv,if_pos rfl] at hst
   rw [scanE_ok hst] at hq
   push_cast [hv,t1,t2,t3,t4,t5,t6]
   exact ⟨rfl,out,cut_o8 out 0 a nm [.lp lo .busy rr T,.dead],hol,hq⟩
  | false =>
   rw [hv,if_neg (by simp)] at hst
   push_cast [hv,t1,t2,t3,t4,t5,t6,hT10]
   refine all_inner hr hrl hi ha hpl hg (.lp lo .busy rr T) hL _ out hol rfl ?_ ?_
   ·intro out' h1 h2 T'
    rw [h1] at hst
    rw [scanE_ok hst] at hq
    exact ⟨rfl,out',cut_o8 out' 0 a nm [.lp lo .busy rr T,.dead],h2,hq⟩
   ·intro out' e' h1 h2 T' J
    generalize scanE (stepJ r i a x.1 x.2) out (List.range r.length) = S2 at hst h1
    obtain ⟨o2,e2⟩:=S2
    have h1:e2 = e':=h1
    subst h1
    rw [scanE_bad hst h2] at hq
    exact ⟨rfl,rfl,out',e2,by rw [← hq],h2,cut_o8 out' e2 a nm (.lp lo .busy rr T :: J)⟩
 ·rintro H1 ⟨out,rfl,hol,hq⟩
  rw [List.length_map,drop_map_none] at hq
  exact kOk out hq.symm hol
 ·rintro e H1 ⟨rfl,out,e',h1,h2,rfl⟩
  exact kBad out e' h1 h2
end Go.Dw
end
section
namespace Go.Dw
abbrev encOvs (l:List AOv):V:=encL cOv 12 l
abbrev p6 (out:List AOv) (x:ARule):List Ob:=oH1 out (.sl 12 []) 0++[.dead,.cells t_Rule (cR x)]
theorem all_args (z:Term):rens (pos? [6,7]) [encT z,V.ptr 7 0] = [encT z,V.ptr 1 0]:=by
 have q5:pos? [6,7] 7 = some 1:=rfl
 push_cast [q5]
theorem overlap_All_s {r:List ARule} (hr:∀ x∈r,GoodR x) (hrl:r.length≤64):PF n_overlap_All [encRs r] (.tup [encOvs (allO r).1,.int .i64 (allO r).2]):=by
 refine pf_of overlap_All.ok rfl ?_
 push_cast
 refine loop_up (n:=r.length) (R:=fun k=>∀ (out:List AOv),out.length≤4096→scanE (stepI r) out ((List.range r.length).drop k) = allO r→overlap_All.L11 (.ro [encRs r] 0) (.ptr 0 0) (.ptr 1 0) (.ptr 2 0) .any .any (encRs r) (.int .i64 r.length) (.int .i64 k) 0 (oH1 out (.sl 12 []) 0) (Ends 0 overlap_All.rs fun x' H'=>x' = .tup [encOvs (allO r).1,.int .i64 (allO r).2]∧H' = [])) ?_ ?_ 0 (by omega) [] (by simp) rfl
 ·intro k hk ih out hol he
  have hx:=hr _ (getD_mem hk)
  have hkr:k < (List.range r.length).length:=by simpa using hk
  have hgk:(List.range r.length).getD k default = k:=by simp [List.getD_eq_getElem?_getD,hk]
  rw [drop_getD hkr,hgk] at he
  have hst:stepI r out k = stepI r out k:=rfl
  conv at hst=>rhs;unfold stepI
  have hRR:=renR_renQ (pre:=[120]) (by simp) hx.l.vf hx.r.vf hx.v
  have hg:=renQ_good (pre:=[120]) rfl hx
  generalize hxx:r.getD k default = x at hx hRR hg hst
  have hN1:=term_Standard_1_s [] x.left (by have:=hx.l.sz;simp;omega)
  have hN2:=term_Standard_1_s (renT [120] [] x.left).1 x.right (by have:=renT_size [120] x.left [];have:=hx.l.sz;have:=hx.r.sz;simp only [List.length_nil] at *;omega)
  unfold renR at hRR
  generalize renT [120] [] x.left = u at hN1 hN2 hRR
  generalize renT [120] u.1 x.right = w at hN2 hRR
  have hcR:cR ⟨u.2,w.2⟩ = cR (renQ [120] x):=by rw [hRR]
  generalize renQ [120] x = a at hcR hg hst
  have hW:=term_Walk_s a.left
  refine overlap_All.G11 ?_
  simp only [overlap_All.nd]
  generalize hC:C.n 10 = c10
  push_cast [ilt hk]
  subst hC
  rw [run_n]
  simp only [overlap_All.nd]
  generalize hR:C.rf (O.s 34) [35,36] ((C.reg [S.mv 8 (O.s 35)]).seq (C.reg [S.al 9 t_Term [V.str [],V.bool false,V.sl 3 []],S.sf 9 3 (O.s 36)])) (C.m 9) = cRf
  have hz:∀ x:ARule,put 0 (cR x) [V.str [],V.bool false,V.sl 3 [],V.str [],V.bool false,V.sl 3 []] = cR x:=fun _=>rfl
  have hz2:∀ y:ARule,put 0 (cT u.2++cT w.2) (cR y) = cR a:=fun _=>by rw [← hcR];rfl
  push_cast [ilt hk,hxx]
  refine callG_std _ ?_
  push_cast [hz]
  refine ⟨?_,?_,?_⟩
  all_goals
   refine callG_np (p6 out x) [] (all_args x.left) (specF_func ▸ hN1) ?_
   push_cast [hz]
   refine callG_np (p6 out x) [] (all_args x.right) (specF_func ▸ hN2) ?_
   push_cast [hz,hz2]
   refine .of hW ?_
   push_cast
   subst hR
   refine all_rf hr hrl hk hg (nm:=w.1) _ out hol rfl _ _ rfl rfl rfl rfl rfl rfl rfl (by push_cast;rfl) (by push_cast;rfl) ?_ ?_
   ·intro out' h1 h2
    rw [h1] at hst
    rw [scanE_ok hst] at he
    have this:=ih out' h2 he
    push_cast [w64 (show k < 2^62 by omega)]
    push_cast at this
    exact this
   ·intro out' e' h1 h2
    generalize scanE (stepV r k a) out (visit a.left []) = S2 at hst h1
    obtain ⟨o2,e2⟩:=S2
    have h1:e2 = e':=h1
    subst h1
    rw [scanE_bad hst h2] at he
    rw [← he]
    push_cast [jumpC]
    exact pf_ret (by push_cast [overlap_All.rs];rfl)
 ·intro out hol he
  have e1:(List.range r.length).drop r.length = []:=by rw [List.drop_eq_nil_of_le];simp
  rw [e1] at he
  simp only [scanE] at he
  refine overlap_All.G11 ?_
  push_cast [inlt (Nat.le_refl _)]
  rw [← he]
  exact pf_ret (by push_cast [overlap_All.rs])
end Go.Dw
end
section
namespace Go.Dw
noncomputable def stepRJ (r:List ARule) (i:Nat) (p:List Int) (x:Term) (out:List AOv) (j:Nat):List AOv × Int :=
 if x.var = true ∨ (i = j∧p = []) then (out,0)
 else if (overE (renQ [120] (r.getD i default)) (renQ [121] (r.getD j default)) p (app (rho [120] (firstT [] (r.getD i default).left)) x)).2 ≠ 0 then ([],(overE (renQ [120] (r.getD i default)) (renQ [121] (r.getD j default)) p (app (rho [120] (firstT [] (r.getD i default).left)) x)).2)
 else if (overE (renQ [120] (r.getD i default)) (renQ [121] (r.getD j default)) p (app (rho [120] (firstT [] (r.getD i default).left)) x)).1 then (out++[ovR (renQ [120] (r.getD i default)) (renQ [121] (r.getD j default)) i j p (app (rho [120] (firstT [] (r.getD i default).left)) x)],0)
 else (out,0)
noncomputable def stepRV (r:List ARule) (i:Nat) (out:List AOv) (x:List Int × Term):List AOv × Int:=scanE (stepRJ r i x.1 x.2) out (List.range r.length)
noncomputable def stepRI (r:List ARule) (out:List AOv) (i:Nat):List AOv × Int:=scanE (stepRV r i) out (visit (r.getD i default).left [])
noncomputable def listR (r:List ARule):List AOv × Int :=
 if (scanE (stepRI r) [] (List.range r.length)).2 ≠ 0 then ([],(scanE (stepRI r) [] (List.range r.length)).2)
 else if 4096 < (scanE (stepRI r) [] (List.range r.length)).1.length then ([],3) else ((scanE (stepRI r) [] (List.range r.length)).1,0)
theorem rho_sub {x:ARule} (hx:GoodR x) {p:List Int} {y:Term} (h:subT x.left p = some y):subT (renQ [120] x).left p = some (app (rho [120] (firstT [] x.left)) y):=by
 have h1:=sub_inst (σ:=renB (firstT [] x.left) [120]) p x.left y hx.l.sh h
 rw [inst_renB,inst_renB] at h1
 exact h1
end Go.Dw
end
section
namespace Go.Dw
def RelO (P R:List AOv × Int):Prop:=(P.2 = 0∧R.2 = 0∧P.1.length = R.1.length∧P.1.length≤4096) ∨ (P.2 = 3∧(R.2 = 3 ∨ (R.2 = 0∧4096 < R.1.length)))
def MonO {β:Type} (G:List AOv→β→List AOv × Int) (l:List β):Prop:=∀ o,∀ y∈l,(G o y).2 = 3 ∨ ((G o y).2 = 0∧o.length≤(G o y).1.length)
theorem scan_mono {β:Type} {G:List AOv→β→List AOv × Int}:∀ (l:List β) (o:List AOv),MonO G l→(scanE G o l).2 = 3 ∨ ((scanE G o l).2 = 0∧o.length≤(scanE G o l).1.length)
 | [],o,_=>.inr ⟨rfl,Nat.le_refl _⟩
 | y :: l,o,h=>by
  simp only [scanE]
  rcases h o y (by simp) with h1 | ⟨h1,h2⟩
  ·rw [if_pos (by rw [h1];decide)];exact .inl h1
  ·rw [if_neg (by rw [h1];decide)]
   rcases scan_mono l (G o y).1 fun o z hz=>h o z (by simp [hz]) with h3 | ⟨h3,h4⟩
   ·exact .inl h3
   ·exact .inr ⟨h3,by omega⟩
theorem scan_rel {α β:Type} {F:List AOv→α→List AOv × Int} {G:List AOv→β→List AOv × Int} {f:β→α}:∀ (l:List β) (o o':List AOv),MonO G l→(∀ o o',∀ y∈l,o.length = o'.length→o.length≤4096→RelO (F o (f y)) (G o' y))→o.length = o'.length→o.length≤4096→RelO (scanE F o (l.map f)) (scanE G o' l)
 | [],o,o',_,_,h1,h2=>.inl ⟨rfl,rfl,h1,h2⟩
 | y :: l,o,o',hm,hs,h1,h2=>by
  simp only [List.map_cons,scanE]
  rcases hs o o' y (by simp) h1 h2 with ⟨a1,a2,a3,a4⟩ | ⟨a1,a2⟩
  ·rw [if_neg (by rw [a1];decide),if_neg (by rw [a2];decide)]
   exact scan_rel l _ _ (fun o z hz=>hm o z (by simp [hz])) (fun o o' z hz=>hs o o' z (by simp [hz])) a3 a4
  ·rw [if_pos (by rw [a1];decide)]
   refine .inr ⟨a1,?_⟩
   rcases a2 with a2 | ⟨a2,a3⟩
   ·rw [if_pos (by rw [a2];decide)];exact .inl a2
   ·rw [if_neg (by rw [a2];decide)]
    rcases scan_mono l (G o' y).1 fun o z hz=>hm o z (by simp [hz]) with h3 | ⟨h3,h4⟩
    ·exact .inl h3
    ·exact .inr ⟨h3,by omega⟩
theorem overE_errs (a b:ARule) (pos:List Int) (sub:Term):(overE a b pos sub).2 = 0 ∨ (overE a b pos sub).2 = 3:=by
 by_cases h:(overE a b pos sub).2 = 0
 ·exact .inl h
 ·exact .inr (overE_err a b pos sub h).2
theorem stepRJ_mono (r:List ARule) (i:Nat) (p:List Int) (x:Term) (l:List Nat):MonO (stepRJ r i p x) l:=fun o j _=>by
 unfold stepRJ
 split
 ·exact .inr ⟨rfl,Nat.le_refl _⟩
 ·split
  ·rename_i h
   rcases overE_errs (renQ [120] (r.getD i default)) (renQ [121] (r.getD j default)) p (app (rho [120] (firstT [] (r.getD i default).left)) x) with h2 | h2
   ·exact absurd h2 h
   ·exact .inl h2
  ·split
   ·exact .inr ⟨rfl,by simp⟩
   ·exact .inr ⟨rfl,Nat.le_refl _⟩
theorem stepRV_mono (r:List ARule) (i:Nat) (l:List (List Int × Term)):MonO (stepRV r i) l:=fun o y _=>scan_mono _ _ (stepRJ_mono r i y.1 y.2 _)
theorem stepRI_mono (r:List ARule) (l:List Nat):MonO (stepRI r) l:=fun o i _=>scan_mono _ _ (stepRV_mono r i _)
theorem step_rel (r:List ARule) (i:Nat) (p:List Int) (x:Term) (hx:x.var = false) (o o':List AOv) (j:Nat) (h1:o.length = o'.length) (h2:o.length≤4096) :
  RelO (stepJ r i (renQ [120] (r.getD i default)) p (app (rho [120] (firstT [] (r.getD i default).left)) x) o j) (stepRJ r i p x o' j):=by
 unfold stepJ stepRJ
 have he:=overE_errs (renQ [120] (r.getD i default)) (renQ [121] (r.getD j default)) p (app (rho [120] (firstT [] (r.getD i default).left)) x)
 generalize overE (renQ [120] (r.getD i default)) (renQ [121] (r.getD j default)) p (app (rho [120] (firstT [] (r.getD i default).left)) x) = v at he ⊢
 obtain ⟨ok,e⟩:=v
 simp only at he ⊢
 by_cases hc:i = j∧p = []
 ·rw [if_pos hc,if_pos (.inr hc)]
  exact .inl ⟨rfl,rfl,h1,h2⟩
 ·have c2:¬ (x.var = true ∨ (i = j∧p = [])):=by rw [hx];simp only [Bool.false_eq_true,false_or];exact hc
  rw [if_neg hc,if_neg c2]
  rcases he with rfl | rfl
  ·simp only [ne_eq,not_true_eq_false,if_false]
   cases ok with
   | true =>
    simp only [if_true]
    by_cases h4:4096 < o.length+1
    ·rw [if_pos h4]
     exact .inr ⟨rfl,.inr ⟨rfl,by simp;omega⟩⟩
    ·rw [if_neg h4]
     exact .inl ⟨rfl,rfl,by simp;omega,by simp;omega⟩
   | false =>
    simp only [Bool.false_eq_true,if_false]
    rw [if_neg (by omega)]
    exact .inl ⟨rfl,rfl,h1,h2⟩
  ·have c3:(3:Int) ≠ 0:=by decide
   rw [if_pos c3,if_pos c3]
   exact .inr ⟨rfl,.inl rfl⟩
theorem scan_same {β:Type} {G:List AOv→β→List AOv × Int} {o:List AOv}:∀ l:List β,(∀ y∈l,G o y = (o,0))→scanE G o l = (o,0)
 | [],_=>rfl
 | y :: l,h=>by rw [scanE_ok (h y (by simp))];exact scan_same l fun z hz=>h z (by simp [hz])
theorem stepV_rel (r:List ARule) (i:Nat) (o o':List AOv) (y:List Int × Term) (h1:o.length = o'.length) (h2:o.length≤4096) :
  RelO (stepV r i (renQ [120] (r.getD i default)) o (y.1,app (rho [120] (firstT [] (r.getD i default).left)) y.2)) (stepRV r i o' y):=by
 unfold stepV stepRV
 cases hv:y.2.var with
 | true =>
  have hv2:(app (rho [120] (firstT [] (r.getD i default).left)) y.2).var = true:=by rw [app_var hv];rfl
  rw [if_pos hv2,scan_same _ fun j _=>by unfold stepRJ;rw [if_pos (.inl hv)]]
  exact .inl ⟨rfl,rfl,h1,h2⟩
 | false =>
  have hv2:(app (rho [120] (firstT [] (r.getD i default).left)) y.2).var = false:=by rw [app_fun hv];rfl
  have hv3:¬ (((y.1,app (rho [120] (firstT [] (r.getD i default).left)) y.2):List Int × Term).2.var = true):=by
   show ¬ ((app (rho [120] (firstT [] (r.getD i default).left)) y.2).var = true)
   rw [hv2];simp
  rw [if_neg hv3]
  have:=scan_rel (F:=stepJ r i (renQ [120] (r.getD i default)) y.1 (app (rho [120] (firstT [] (r.getD i default).left)) y.2)) (G:=stepRJ r i y.1 y.2) (f:=id) (List.range r.length) o o' (stepRJ_mono r i y.1 y.2 _) (fun o o' j _ h1 h2=>step_rel r i y.1 y.2 hv o o' j h1 h2) h1 h2
  rw [List.map_id] at this
  exact this
theorem visit_app {f:Sub} (hf:∀ v,∃ w,f v = varT w) (t:Term):∀ p:List Int,vfl t = true→visit (app f t) p = (visit t p).map fun x=>(x.1,app f x.2):=by
 induction t using term_ind with
 | h t ih =>
 intro p ht
 rw [visit_eq (app f t),visit_eq t]
 cases hv:t.var with
 | true =>
  obtain ⟨w,hw⟩:=hf t.name
  have h0:t.args = []:=(vfl_iff.1 ht).1 hv
  have h1:(app f t).args = []:=by rw [app_var hv,hw];rfl
  rw [h0,h1]
  rfl
 | false =>
  have h1:(app f t).args = t.args.map (app f):=by rw [app_fun hv];rfl
  rw [h1]
  have key:∀ (l:List Term) (i:Nat),(∀ a∈l,a∈t.args)→visits (l.map (app f)) p i = (visits l p i).map fun x=>(x.1,app f x.2):=by
   intro l
   induction l with
   | nil=>intro i _;rfl
   | cons a l ihl =>
    intro i hl
    simp only [List.map_cons,visits,List.map_append]
    rw [ih a (hl a (by simp)) _ (vfl_arg ht (hl a (by simp))),ihl (i+1) fun b hb=>hl b (by simp [hb])]
  rw [key t.args 0 fun _ h=>h]
  rfl
theorem overlaps_same {r:List ARule} (hr:∀ x∈r,GoodR x):(allO r).2 = (listR r).2∧((allO r).2 = 0→(allO r).1.length = (listR r).1.length):=by
 have h:=scan_rel (F:=stepI r) (G:=stepRI r) (f:=id) (List.range r.length) [] [] (stepRI_mono r _) (fun o o' i hi h1 h2=>by
  have hi:i < r.length:=List.mem_range.1 hi
  have hx:=hr _ (getD_mem hi)
  unfold stepI stepRI
  have hv:=visit_app (f:=rho [120] (firstT [] (r.getD i default).left)) (fun v=>⟨_,rfl⟩) (r.getD i default).left [] hx.l.vf
  show RelO (scanE (stepV r i (renQ [120] (r.getD i default))) o (visit (app (rho [120] (firstT [] (r.getD i default).left)) (r.getD i default).left) [])) _
  rw [hv]
  exact scan_rel (f:=fun x:List Int × Term=>(x.1,app (rho [120] (firstT [] (r.getD i default).left)) x.2)) _ o o' (stepRV_mono r i _) (fun o o' y _ h1 h2=>stepV_rel r i o o' y h1 h2) h1 h2) rfl (by simp)
 rw [List.map_id] at h
 unfold listR
 show (scanE (stepI r) [] (List.range r.length)).2 = _∧((scanE (stepI r) [] (List.range r.length)).2 = 0→(scanE (stepI r) [] (List.range r.length)).1.length = _)
 generalize scanE (stepI r) [] (List.range r.length) = P at h ⊢
 generalize scanE (stepRI r) [] (List.range r.length) = R at h ⊢
 rcases h with ⟨a1,a2,a3,a4⟩ | ⟨a1,a2⟩
 ·rw [if_neg (by rw [a2];decide),if_neg (by omega)]
  exact ⟨a1,fun _=>a3⟩
 ·rcases a2 with a2 | ⟨a2,a3⟩
  ·rw [if_pos (by rw [a2];decide)]
   exact ⟨by rw [a1,a2],fun h=>by rw [a1] at h;cases h⟩
  ·rw [if_neg (by rw [a2];decide),if_pos a3]
   exact ⟨a1,fun h=>by rw [a1] at h;cases h⟩
end Go.Dw
end
section
namespace Go.Dw
theorem term_Count_s (t:Term) (v:Str) (hs:size t < 2^61):PF n_term_Count [encT t,.str v] (.int .i64 (count v t)):=by
 induction t using term_ind with
 | h t ih =>
 have hst:=size_args t
 have hla:=length_le_sizes t.args
 have hcl:=counts_le v t.args
 refine pf_of term_Count.ok rfl ?_
 have loop:∀ c0:Nat,c0≤1→count v t = c0+counts v t.args→term_Count.L3 (.str v) (.int .i64 c0) (encTs t.args) (.int .i64 t.args.length) (.int .i64 (0:Nat)) 0 [] (Ends 0 term_Count.rs fun x' H'=>x' = .int .i64 (count v t)∧H' = []):=by
  intro c0 hc0 he
  refine loop_up (n:=t.args.length) (R:=fun k=>∀ c:Nat,c = c0+counts v (t.args.take k)→term_Count.L3 (.str v) (.int .i64 c) (encTs t.args) (.int .i64 t.args.length) (.int .i64 k) 0 [] (Ends 0 term_Count.rs fun x' H'=>x' = .int .i64 (count v t)∧H' = [])) ?_ ?_ 0 (by omega) c0 (by simp [counts])
  ·intro k hk ih2 c hc
   have hm:=getD_mem hk
   have hsm:=size_mem hm
   have htk:=counts_take_le v t.args (k+1)
   rw [take_succ_getD hk,counts_append] at htk
   simp only [counts] at htk
   have hcall:=ih _ hm (by omega)
   have this:=ih2 (c+count v (t.args.getD k default)) (by rw [take_succ_getD hk,counts_append];simp only [counts];omega)
   generalize count v (t.args.getD k default) = d at hcall this htk
   have hw1:IntKind.i64.wrap ((c:Int)+(d:Int)) = (c:Int)+d:=wrap64 (by omega) (by omega)
   refine term_Count.G3 ?_
   push_cast [ilt hk]
   refine .of hcall ?_
   push_cast [hw1,w64 (show k < 2^62 by omega)]
   push_cast at this
   exact this
  ·intro c hc
   rw [List.take_length] at hc
   refine term_Count.G3 ?_
   push_cast [inlt (Nat.le_refl _)]
   rw [he,← hc]
   exact pf_ret (by push_cast [term_Count.rs])
 cases hv:t.var with
 | false =>
  have:=loop 0 (by omega) (by rw [count_eq,hv];simp)
  push_cast [hv]
  push_cast at this
  exact this
 | true =>
  by_cases hn:t.name = v
  ·have:=loop 1 (by omega) (by rw [count_eq,hv];simp [hn])
   push_cast [hv,hn,w64 (show 0 < 2^62 by omega)]
   push_cast at this
   exact this
  ·have:=loop 0 (by omega) (by rw [count_eq,hv];simp [hn])
   push_cast [hv,hn]
   push_cast at this
   exact this
def linB (t:Term):Bool:=!((varsT t).any fun v=>decide (1 < count v t))
theorem varsT_len {t:Term} (h:GoodT t):(varsT t).length≤4000:=by
 have h1:=collectT_len t []
 have:=h.sz
 have e:varsT t = collectT [] t:=rfl
 rw [e];simp only [List.length_nil] at h1;omega
theorem overlap_Linear_s {t:Term} (h:GoodT t):PF n_overlap_Linear [encT t] (.bool (linB t)):=by
 have hsz:=h.sz
 have hV:=term_VarsOf_s [t] (by simp [sizes];omega)
 rw [← varsT_eq] at hV
 have hC:=slices_ContainsFunc_s_string_string_s (p:=fun v=>decide (1 < count v t)) (g:=n_overlap_Linear_1) (caps:=[.ro (cT t) 0]) (fun _=>by push_cast) (varsT t) (by have:=varsT_len h;omega) fun v hv=>by
  refine pf_of overlap_Linear_1.ok rfl ?_
  push_cast
  refine .of (term_Count_s t v (by omega)) ?_
  push_cast
  have hq:decide ((1:Int) < (count v t:Int)) = decide (1 < count v t):=decide_eq_decide.2 ⟨fun h=>by omega,fun h=>by omega⟩
  exact pf_ret (by push_cast [overlap_Linear_1.rs];rw [hq])
 refine pf_of overlap_Linear.ok rfl ?_
 push_cast
 refine .of hV ?_
 push_cast
 refine .of hC ?_
 push_cast
 exact pf_ret (by push_cast [overlap_Linear.rs,linB])
theorem overlap_left_s {r:List ARule} (hr:∀ x∈r,GoodR x) (hl:r.length≤64):PF n_overlap_left [encRs r] (.bool (r.all fun x=>linB x.left)):=by
 have hC:=slices_ContainsFunc_s_Rule_Rule_s (p:=fun x=>!linB x.left) (g:=n_overlap_left_1) (caps:=[]) (fun _=>rfl) r (by omega) fun x hx=>by
  refine pf_of overlap_left_1.ok rfl ?_
  push_cast
  refine .of (overlap_Linear_s (hr x hx).l) ?_
  push_cast
  exact pf_ret (by push_cast [overlap_left_1.rs])
 refine pf_of overlap_left.ok rfl ?_
 push_cast
 refine .of hC ?_
 push_cast
 refine pf_ret ?_
 push_cast [overlap_left.rs]
 congr 1
 rw [List.all_eq_not_any_not]
theorem good_system {r:List ARule} (h:checkSystem r = 0):(∀ x∈r,GoodR x)∧r.length≤64:=by
 refine ⟨fun x hx=>?_,?_⟩
 ·obtain ⟨h1,h2⟩:=checkSystem_sides h x hx
  exact ⟨GoodT.of_check h1,GoodT.of_check h2,fun v hv=>(mem_varsOf v x.left).1 (varsOf_right h x hx v hv)⟩
 ·have h1:checkRules r = 0:=by
   unfold checkSystem at h
   split at h
   ·rename_i hc;exact absurd h hc
   ·rename_i hc;simpa using hc
  unfold checkRules at h1
  split at h1
  ·cases h1
  ·omega
noncomputable def orthoE (r:List ARule):Bool × Int :=
 if checkSystem r ≠ 0 then (false,checkSystem r) else if (allO r).2 ≠ 0 then (false,(allO r).2) else (decide ((allO r).1.length = 0) && r.all fun x=>linB x.left,0)
theorem overlap_Orthogonal_s {r:List ARule} (hs:rbs r < 2^38):PF n_overlap_Orthogonal [encRs r] (.tup [.bool (orthoE r).1,.int .i64 (orthoE r).2]):=by
 have hC:=term_CheckSystem_t r hs
 have hList:PF n_overlap_List [encRs r] (if checkSystem r ≠ 0 then .tup [encOvs [],.int .i64 (checkSystem r)] else .tup [encOvs (allO r).1,.int .i64 (allO r).2]):=by
  refine pf_of overlap_List.ok rfl ?_
  push_cast
  refine .of hC ?_
  by_cases h0:checkSystem r = 0
  ·obtain ⟨h1,h2⟩:=good_system h0
   rw [if_neg (by simpa using h0)]
   push_cast [h0]
   refine .of (overlap_All_s h1 h2) ?_
   push_cast
   exact pf_ret (by push_cast [overlap_List.rs])
  ·rw [if_pos h0]
   push_cast [h0]
   exact pf_ret (by push_cast [overlap_List.rs];rfl)
 refine pf_of overlap_Orthogonal.ok rfl ?_
 unfold orthoE
 push_cast
 refine .of hList ?_
 by_cases h0:checkSystem r = 0
 ·obtain ⟨h1,h2⟩:=good_system h0
  rw [if_neg (by simpa using h0),if_neg (by simpa using h0)]
  have hL:=overlap_left_s h1 h2
  generalize allO r = A
  obtain ⟨l,e⟩:=A
  simp only
  by_cases he:e = 0
  ·subst he
   simp only [ne_eq,not_true_eq_false,if_false]
   by_cases hl:l.length = 0
   ·have i1:((l.length:Int) = 0) = True:=eq_true (by omega)
    push_cast [i1]
    refine .of hL ?_
    push_cast
    exact pf_ret (by push_cast [overlap_Orthogonal.rs,hl])
   ·have i1:((l.length:Int) = 0) = False:=eq_false (by omega)
    push_cast [i1]
    exact pf_ret (by push_cast [overlap_Orthogonal.rs,hl])
  ·have i1:(e = 0) = False:=eq_false he
   rw [if_pos he]
   push_cast [i1]
   exact pf_ret (by push_cast [overlap_Orthogonal.rs])
 ·rw [if_pos h0,if_pos h0]
  have i1:(checkSystem r = 0) = False:=eq_false h0
  push_cast [i1]
  exact pf_ret (by push_cast [overlap_Orthogonal.rs])
end Go.Dw
end
section
namespace Go.Dw
noncomputable def readyE (r:List ARule):Int:=if (orthoE r).2 ≠ 0 then (orthoE r).2 else if (orthoE r).1 then 0 else 2
theorem residual_ready_s {r:List ARule} (hs:rbs r < 2^38):PF n_residual_ready [encRs r] (.int .i64 (readyE r)):=by
 have hO:=overlap_Orthogonal_s hs
 refine pf_of residual_ready.ok rfl ?_
 unfold readyE
 push_cast
 refine .of hO ?_
 generalize orthoE r = v
 obtain ⟨ok,e⟩:=v
 simp only
 by_cases he:e = 0
 ·subst he
  cases ok
  ·push_cast
   exact pf_ret (by push_cast [residual_ready.rs])
  ·push_cast
   exact pf_ret (by push_cast [residual_ready.rs])
 ·have i1:(e = 0) = False:=eq_false he
  push_cast [i1]
  exact pf_ret (by push_cast [residual_ready.rs])
theorem ready_ok {r:List ARule} (h:readyE r = 0):orthoE r = (true,0)∧checkSystem r = 0:=by
 have h1:orthoE r = (true,0):=by
  unfold readyE at h
  split at h
  ·rename_i hc;exact absurd h hc
  ·rename_i hc
   split at h
   ·rename_i h2
    have h3:(orthoE r).2 = 0:=by simpa using hc
    exact Prod.ext h2 h3
   ·cases h
 refine ⟨h1,?_⟩
 unfold orthoE at h1
 by_cases hc:checkSystem r = 0
 ·exact hc
 ·rw [if_pos hc] at h1
  exact absurd (congrArg Prod.fst h1) (by simp)
def endsE (r:List ARule) (m:AMulti):Int:=if (endM r ARule.left m).2 ≠ 0 then (endM r ARule.left m).2 else (endM r ARule.right m).2
def srcT (r:List ARule) (m:AMulti):Term:=(endM r ARule.left m).1.getD noT
def tgtT (r:List ARule) (m:AMulti):Term:=if (endM r ARule.left m).2 ≠ 0 then srcT r m else (endM r ARule.right m).1.getD noT
theorem encTE_getD (o:Option Term) (e:Int):encTE o e = .tup [encT (o.getD noT),.int .i64 e]:=by cases o <;> rfl
theorem residual_ends_s {r:List ARule} {m:AMulti} (hr:rbs r < 2^38) (hm:mb m < 2^38):PF n_residual_ends [encRs r,encM m] (.tup [encT (srcT r m),encT (tgtT r m),.int .i64 (endsE r m)]):=by
 have h1:=multi_Source_s r m hr hm
 have h2:=multi_Target_s r m hr hm
 rw [encTE_getD] at h1 h2
 unfold srcT tgtT endsE
 unfold srcT
 generalize endM r ARule.left m = A at *
 generalize endM r ARule.right m = B at *
 obtain ⟨o1,e1⟩:=A
 obtain ⟨o2,e2⟩:=B
 refine pf_of residual_ends.ok rfl ?_
 push_cast
 refine .of h1 ?_
 simp only
 by_cases he:e1 = 0
 ·subst he
  push_cast
  refine .of h2 ?_
  push_cast
  exact pf_ret (by push_cast [residual_ends.rs])
 ·have i1:(e1 = 0) = False:=eq_false he
  push_cast [i1]
  exact pf_ret (by push_cast [residual_ends.rs])
noncomputable def pairE (r:List ARule) (a b:AMulti):Int :=
 if readyE r ≠ 0 then readyE r else if endsE r a ≠ 0 then endsE r a else if endsE r b ≠ 0 then endsE r b else if srcT r a = srcT r b then 0 else 9
theorem endsE_ok {r:List ARule} {m:AMulti} (h:endsE r m = 0):checkM r m = 0∧srcT r m = sideM r ARule.left m∧tgtT r m = sideM r ARule.right m∧fits (sideM r ARule.left m) = true∧fits (sideM r ARule.right m) = true:=by
 unfold endsE at h
 split at h
 ·rename_i hc;exact absurd h hc
 ·rename_i hc
  have hc:(endM r ARule.left m).2 = 0:=by simpa using hc
  obtain ⟨a1,a2,a3⟩:=endM_some hc
  obtain ⟨b1,b2,b3⟩:=endM_some h
  refine ⟨a1,?_,?_,a2,b2⟩
  ·unfold srcT;rw [a3];rfl
  ·unfold tgtT;rw [if_neg (by simpa using hc),b3];rfl
theorem residual_both_s {r:List ARule} {a b:AMulti} (hr:rbs r < 2^38) (ha:mb a < 2^38) (hb:mb b < 2^38):PF n_residual_both [encRs r,encM a,encM b] (.int .i64 (pairE r a b)):=by
 have h0:=residual_ready_s hr
 have h1:=residual_ends_s hr ha
 have h2:=residual_ends_s hr hb
 have hz:endsE r a = 0→size (srcT r a) < 2^62:=fun h=>by
  obtain ⟨_,e,_,f,_⟩:=endsE_ok h
  rw [e]
  unfold fits at f
  simp at f
  omega
 unfold pairE
 refine pf_of residual_both.ok rfl ?_
 push_cast
 refine .of h0 ?_
 generalize readyE r = e0
 by_cases c0:e0 = 0
 ·subst c0
  simp only [ne_eq,not_true_eq_false,if_false]
  push_cast
  refine .of h1 ?_
  by_cases c1:endsE r a = 0
  ·have hz:=hz c1
   rw [if_neg (by simpa using c1)]
   push_cast [c1]
   refine .of h2 ?_
   by_cases c2:endsE r b = 0
   ·rw [if_neg (by simpa using c2)]
    push_cast [c2]
    refine .of (term_Equal_s (srcT r a) (srcT r b) hz) ?_
    by_cases c3:srcT r a = srcT r b
    ·rw [if_pos c3]
     push_cast [c3]
     exact pf_ret (by push_cast [residual_both.rs])
    ·rw [if_neg c3]
     push_cast [c3]
     exact pf_ret (by push_cast [residual_both.rs])
   ·rw [if_pos c2]
    have i2:(endsE r b = 0) = False:=eq_false c2
    push_cast [i2]
    exact pf_ret (by push_cast [residual_both.rs])
  ·rw [if_pos c1]
   have i1:(endsE r a = 0) = False:=eq_false c1
   push_cast [i1]
   exact pf_ret (by push_cast [residual_both.rs])
 ·rw [if_pos c0]
  have i0:(e0 = 0) = False:=eq_false c0
  push_cast [i0]
  exact pf_ret (by push_cast [residual_both.rs])
end Go.Dw
end
section
namespace Go.Dw
theorem visits_mem {x:List Int × Term}:∀ (l:List Term) (q:List Int) (i k:Nat),k < l.length→x∈visit (l.getD k default) (q++[((i+k:Nat):Int)])→x∈visits l q i
 | [],q,i,k,hk,_=>by simp at hk
 | a :: l,q,i,0,_,h=>by simp only [visits,List.mem_append];exact .inl h
 | a :: l,q,i,k+1,hk,h=>by
  simp only [visits,List.mem_append]
  exact .inr (visits_mem l q (i+1) k (by simpa using hk) (by rw [show i+1+k = i+(k+1) by omega];exact h))
theorem visit_mem:∀ (p:List Int) (t x:Term) (q:List Int),subT t p = some x→(q++p,x)∈visit t q
 | [],t,x,q,h=>by cases h;rw [visit_eq,List.append_nil];simp
 | i :: p,t,x,q,h=>by
  simp only [subT] at h
  split at h
  ·rename_i hi
   have ih:=visit_mem p _ x (q++[i]) h
   rw [visit_eq]
   refine List.mem_cons_of_mem _ (visits_mem t.args q 0 i.toNat (by omega) ?_)
   rw [show ((0+i.toNat:Nat):Int) = i by omega]
   simpa using ih
  ·cases h
end Go.Dw
end
section
namespace Go.Dw
def linT (t:Term):Prop:=∀ v,count v t≤1
structure Ortho (r:List ARule):Prop where
 sys:checkSystem r = 0
 lin:∀ x∈r,linT x.left
 nov:∀ i j,i < r.length→j < r.length→∀ p y,subT (r.getD i default).left p = some y→y.var = false→¬ (i = j∧p = [])→∀ f g:Sub,app f y ≠ app g (r.getD j default).left
abbrev MSub:=Str→AMulti
mutual
def pl (g:MSub):Term→AMulti
 | .mk n v l=>if v then g n else .mk 0 n false (pls g l)
def pls (g:MSub):List Term→List AMulti
 | []=>[]
 | a :: l=>pl g a :: pls g l
end
theorem pls_map (g:MSub) (l:List Term):pls g l = l.map (pl g):=by induction l with | nil=>rfl | cons a l ih=>simp [pls,ih]
theorem pl_eq (g:MSub) (t:Term):pl g t = if t.var then g t.name else .mk 0 t.name false (t.args.map (pl g)):=by
 cases t with | mk n v l=>simp only [pl,pls_map,Term.var,Term.name,Term.args];rfl
theorem pl_var {g:MSub} {t:Term} (h:t.var = true):pl g t = g t.name:=by rw [pl_eq,if_pos h]
theorem pl_fun {g:MSub} {t:Term} (h:t.var = false):pl g t = .mk 0 t.name false (t.args.map (pl g)):=by rw [pl_eq,if_neg (by simp [h])]
theorem pl_congr {f g:MSub} (t:Term):(∀ v,occ v t = true→f v = g v)→pl f t = pl g t:=by
 induction t using term_ind with
 | h t ih =>
 intro h
 rw [pl_eq,pl_eq]
 split
 ·rename_i hv;exact h _ (uocc_iff.2 (.inl ⟨hv,rfl⟩))
 ·congr 1
  exact List.map_congr_left fun a ha=>ih a ha fun v hv=>h v (uocc_iff.2 (.inr ⟨a,ha,hv⟩))
def ofL {α:Type} [Inhabited α] (vars:List Str) (xs:List α):Str→α:=fun n=>xs.getD (ixS n vars) default
theorem plugMM_pl (vars:List Str) (xs:List AMulti) (t:Term):plugMM vars xs t = pl (ofL vars xs) t:=by
 induction t using term_ind with
 | h t ih =>
 rw [plugMM_eq,pl_eq]
 split
 ·rfl
 ·congr 1
  exact List.map_congr_left fun a ha=>ih a ha
theorem plugT_app (vars:List Str) (xs:List Term) (t:Term):plugT vars xs t = app (ofL vars xs) t:=by
 induction t using term_ind with
 | h t ih =>
 rw [plugT_eq,app_eq]
 split
 ·rfl
 ·congr 1
  exact List.map_congr_left fun a ha=>ih a ha
theorem ofL_map {α β:Type} [Inhabited α] [Inhabited β] {vars:List Str} {xs:List α} {f:α→β} (hl:xs.length = vars.length) {n:Str} (hn:n∈vars):ofL vars (xs.map f) n = f (ofL vars xs n):=by
 obtain ⟨h1,h2,h3⟩:=idxI_ix hn
 unfold ofL
 simp [List.getD_eq_getElem?_getD,show ixS n vars < xs.length by omega]
theorem ofL_vars {α:Type} [Inhabited α] {vars:List Str} (f:Str→α) {n:Str} (hn:n∈vars):ofL vars (vars.map f) n = f n:=by
 obtain ⟨h1,h2,h3⟩:=idxI_ix hn
 unfold ofL
 rw [List.getD_eq_getElem?_getD,List.getElem?_map,List.getElem?_eq_getElem h2]
 rw [List.getD_eq_getElem?_getD,List.getElem?_eq_getElem h2] at h3
 exact congrArg f h3
theorem ofL_get {α:Type} [Inhabited α] {vars:List Str} (hn:vars.Nodup) {xs:List α} {i:Nat} (hi:i < vars.length):ofL vars xs (vars.getD i default) = xs.getD i default:=by
 unfold ofL;rw [ixS_getD hn hi]
theorem ofL_mem {α:Type} [Inhabited α] {vars:List Str} {xs:List α} (hl:xs.length = vars.length) {n:Str} (hn:n∈vars):ofL vars xs n∈xs:=by
 obtain ⟨h1,h2,h3⟩:=idxI_ix hn
 exact getD_mem (by omega)
theorem side_pl {r:List ARule} {f:ARule→Term} {g:MSub} (t:Term):sideM r f (pl g t) = app (fun v=>sideM r f (g v)) t:=by
 induction t using term_ind with
 | h t ih =>
 cases hv:t.var with
 | true=>rw [pl_var hv,app_var hv]
 | false =>
  rw [pl_fun hv,app_fun hv,sideM_eq,if_pos (by rfl)]
  simp only [AMulti.name,AMulti.var,AMulti.args,List.map_map]
  congr 1
  exact List.map_congr_left fun a ha=>ih a ha
theorem side_rule {r:List ARule} {f:ARule→Term} (hv:∀ x∈r,∀ v,occ v (f x) = true→v∈varsOf [x.left]) {m:AMulti} (hm:OkM r m) (h0:0 < m.rule):sideM r f m = app (fun v=>sideM r f (ofL (varsOf [(ruleOf r m).left]) m.args v)) (f (ruleOf r m)):=by
 obtain ⟨k1,k2,k3,k4,k5,k6⟩:=hm.rule (by omega)
 rw [sideM_eq,if_neg (by omega),plugT_app]
 exact app_congr _ fun v h=>ofL_map k4 (hv _ k3 v h)
theorem app_inj {f g:Sub} (t:Term):app f t = app g t→∀ v,occ v t = true→vfl t = true→f v = g v:=by
 induction t using term_ind with
 | h t ih =>
 intro h v ho ht
 cases hv:t.var with
 | true=>rw [app_var hv,app_var hv] at h;rw [← (occ_var ht hv).1 ho];exact h
 | false =>
  rw [app_fun hv,app_fun hv] at h
  injection h with _ _ h
  obtain ⟨a,ha,h1⟩:=(occ_fun hv).1 ho
  exact ih a ha (List.map_inj_left.1 h a ha) v h1 (vfl_arg ht ha)
theorem count_occ' {v:Str} {t:Term}:occ v t = true ↔ 0 < count v t:=by
 have:=count_occ v t
 cases h:occ v t with
 | true=>rw [h] at this;simp only [Bool.not_true,decide_eq_false_iff_not] at this;simp;omega
 | false=>rw [h] at this;simp only [Bool.not_false,decide_eq_true_eq] at this;simp [this]
theorem counts_mem {v:Str} {l:List Term} {a:Term} (h:a∈l):count v a≤counts v l:=by
 induction l with
 | nil=>cases h
 | cons x l ih =>
  simp only [counts]
  rcases List.mem_cons.1 h with rfl | h
  ·omega
  ·have:=ih h;omega
theorem linT.arg {t a:Term} (h:linT t) (ha:a∈t.args):linT a:=fun v=>by
 have h1:=h v
 rw [count_eq] at h1
 have:=counts_mem (v:=v) ha
 omega
theorem OkM.rule0 {r:List ARule} {m:AMulti} (hm:OkM r m):0≤m.rule∧m.rule≤r.length:=by
 have h1:=allM_self hm.rg
 unfold rangedM at h1
 rw [Bool.and_eq_true,decide_eq_true_eq,decide_eq_true_eq] at h1
 exact h1
theorem sub_arg {t:Term} {i:Nat} (hi:i < t.args.length):subT t [(i:Int)] = some (t.args.getD i default):=by
 show (if 0≤(i:Int)∧(i:Int) < (t.args.length:Int) then subT (t.args.getD (i:Int).toNat default) [] else none) = _
 rw [if_pos (by omega),Int.toNat_natCast];rfl
theorem left_form {r:List ARule} (h:Ortho r) {i:Nat} (hi:i < r.length) (L:Term):∀ (p:List Int) (b:AMulti) (f:Sub),subT (r.getD i default).left p = some L→OkM r b→(p = []→b.rule = 0)→linT L→vfl L = true→sideM r ARule.left b = app f L →
  ∃ g:MSub,b = pl g L∧∀ v,occ v L = true→OkM r (g v)∧sideM r ARule.left (g v) = f v∧msize (g v)≤msize b:=by
 induction L using term_ind with
 | h L ih =>
 intro p b f hp hb hr hl hf hs
 cases hv:L.var with
 | true =>
  refine ⟨fun _=>b,by rw [pl_var hv],fun v ho=>⟨hb,?_,Nat.le_refl _⟩⟩
  rw [app_var hv] at hs
  rw [hs,(occ_var hf hv).1 ho]
 | false =>
  have h0:b.rule = 0:=by
   rcases Classical.em (b.rule = 0) with h0 | h0
   ·exact h0
   ·exfalso
    have hpos:=hb.rule_pos h0
    obtain ⟨k1,k2,k3,k4,k5,k6⟩:=hb.rule h0
    rw [side_rule (fun x _=>varsOf_left x) hb hpos] at hs
    exact h.nov i (b.rule - 1).toNat hi (by omega) p L hp hv (fun e=>h0 (hr e.2)) _ _ hs.symm
  rw [sideM_eq,if_pos h0,app_fun hv] at hs
  injection hs with e1 e2 e3
  have key:∀ (l:List Term) (bs:List AMulti),(∀ a∈l,a∈L.args)→(∀ x∈bs,x∈b.args)→(∀ v,counts v l≤1)→bs.map (sideM r ARule.left) = l.map (app f) →
    ∃ g:MSub,bs = l.map (pl g)∧∀ v,occs v l = true→OkM r (g v)∧sideM r ARule.left (g v) = f v∧msize (g v)≤msize b:=by
   intro l
   induction l with
   | nil =>
    intro bs _ _ _ he
    have:bs = []:=by simpa using he
    subst this
    exact ⟨fun _=>zM,rfl,fun v ho=>by simp [occs] at ho⟩
   | cons a l ihl =>
    intro bs hal hbl hc he
    cases bs with
    | nil=>simp at he
    | cons x bs =>
     simp only [List.map_cons,List.cons.injEq] at he
     have haL:=hal a (by simp)
     obtain ⟨k,hk,hka⟩:=List.getElem_of_mem haL
     have hsub:subT (r.getD i default).left (p++[(k:Int)]) = some a:=by
      rw [subT_app,hp]
      show subT L [(k:Int)] = _
      rw [sub_arg hk,List.getD_eq_getElem?_getD,List.getElem?_eq_getElem hk,hka];rfl
     have hxb:=hbl x (by simp)
     have hms:=msize_mem hxb
     have hmb:=msize_args b
     obtain ⟨g1,h1,h2⟩:=ih a haL (p++[(k:Int)]) x f hsub (hb.arg hxb) (fun e=>by simp at e) (hl.arg haL) (vfl_arg hf haL) he.1
     obtain ⟨g2,h3,h4⟩:=ihl bs (fun y hy=>hal y (by simp [hy])) (fun y hy=>hbl y (by simp [hy])) (fun v=>by have:=hc v;simp only [counts] at this;omega) he.2
     refine ⟨fun v=>if occ v a = true then g1 v else g2 v,?_,fun v ho=>?_⟩
     ·rw [List.map_cons]
      congr 1
      ·rw [h1];exact pl_congr a fun v hv=>(if_pos hv).symm
      ·rw [h3]
       refine List.map_congr_left fun c hc'=>pl_congr c fun v hv=>?_
       have h5:=hc v
       simp only [counts] at h5
       have h6:=counts_mem (v:=v) hc'
       have h7:=count_occ'.1 hv
       exact (if_neg fun e=>by have:=count_occ'.1 e;omega).symm
     ·by_cases c:occ v a = true
      ·dsimp only;rw [if_pos c]
       obtain ⟨q1,q2,q3⟩:=h2 v c
       exact ⟨q1,q2,by omega⟩
      ·dsimp only;rw [if_neg c]
       simp only [occs,Bool.or_eq_true] at ho
       exact h4 v (ho.resolve_left c)
  obtain ⟨g,h1,h2⟩:=key L.args b.args (fun a ha=>ha) (fun x hx=>hx) (fun v=>by have:=hl v;rw [count_eq] at this;omega) e3
  refine ⟨g,?_,fun v ho=>h2 v ?_⟩
  ·rw [pl_fun hv,← h1,← e1,← e2,← h0];exact b.eta.symm
  ·rw [occ_eq,hv] at ho;simpa using ho
end Go.Dw
end
section
namespace Go.Dw
theorem okM_rule {r:List ARule} {k:Int} {ms:List AMulti} (h0:0≤k) (h1:k < r.length) (hl:ms.length = (varsOf [(r.getD k.toNat default).left]).length) (h:∀ a∈ms,OkM r a):OkM r (.mk (k+1) [] false ms):=by
 constructor
 ·rw [allM_eq,Bool.and_eq_true]
  refine ⟨?_,List.all_eq_true.2 fun a ha=>(h a ha).rg⟩
  unfold rangedM
  rw [Bool.and_eq_true,decide_eq_true_eq,decide_eq_true_eq]
  show 0≤k+1∧k+1≤(r.length:Int)
  omega
 ·rw [allM_eq,Bool.and_eq_true]
  refine ⟨?_,List.all_eq_true.2 fun a ha=>(h a ha).fm⟩
  unfold formedM
  have hk:(AMulti.mk (k+1) [] false ms).rule = k+1:=rfl
  rw [hk,if_pos (by omega)]
  have hru:ruleOf r (.mk (k+1) [] false ms) = r.getD k.toNat default:=by unfold ruleOf;rw [hk,show k+1 - 1 = k by omega]
  rw [hru]
  simp [AMulti.name,AMulti.var,AMulti.args,hl]
theorem subT_occ:∀ (p:List Int) (t y:Term),subT t p = some y→y.var = true→occ y.name t = true
 | [],t,y,h,hv=>by cases h;rw [occ_eq,hv];simp
 | i :: p,t,y,h,hv=>by
  simp only [subT] at h
  split at h
  ·rename_i hi
   have h1:=subT_occ p _ y h hv
   rw [occ_eq,occs_mem (getD_mem (by omega)) h1];simp
  ·cases h
end Go.Dw
end
section
namespace Go.Dw
def lft (r:List ARule) (k:Nat):Term:=(r.getD k default).left
def rgt (r:List ARule) (k:Nat):Term:=(r.getD k default).right
def vrs (r:List ARule) (k:Nat):List Str:=varsOf [lft r k]
def ru (r:List ARule) (k:Nat) (g:MSub):AMulti:=.mk ((k:Int)+1) [] false ((vrs r k).map g)
def fm (r:List ARule) (k:Nat) (b:Bool) (g:MSub):AMulti:=if b then ru r k g else pl g (lft r k)
theorem mem_vrs {r:List ARule} {k:Nat} {v:Str}:v∈vrs r k ↔ occ v (lft r k) = true:=mem_varsOf v (lft r k)
theorem ruleOf_ru (r:List ARule) (k:Nat) (g:MSub):ruleOf r (ru r k g) = r.getD k default:=by
 unfold ruleOf ru
 show r.getD ((k:Int)+1 - 1).toNat default = _
 rw [show (k:Int)+1 - 1 = k by omega,Int.toNat_natCast]
theorem ru_rule (r:List ARule) (k:Nat) (g:MSub):(ru r k g).rule = (k:Int)+1:=rfl
theorem ru_args (r:List ARule) (k:Nat) (g:MSub):(ru r k g).args = (vrs r k).map g:=rfl
theorem ru_congr {r:List ARule} {k:Nat} {f g:MSub} (h:∀ v∈vrs r k,f v = g v):ru r k f = ru r k g:=by
 unfold ru
 rw [List.map_congr_left h]
theorem fm_congr {r:List ARule} {k:Nat} {b:Bool} {f g:MSub} (h:∀ v∈vrs r k,f v = g v):fm r k b f = fm r k b g:=by
 cases b with
 | true=>exact ru_congr h
 | false=>exact pl_congr _ fun v hv=>h v (mem_vrs.2 hv)
section
variable {r:List ARule} (h:Ortho r)
include h
theorem Ortho.left {k:Nat} (hk:k < r.length):(lft r k).var = false∧vfl (lft r k) = true∧linT (lft r k)∧formed (lft r k) = true∧formed (rgt r k) = true∧vfl (rgt r k) = true∧∀ v,occ v (rgt r k) = true→v∈vrs r k:=by
 have hm:=getD_mem (l:=r) hk
 have h1:=checkSystem_sides h.sys _ hm
 exact ⟨checkSystem_nv h.sys _ hm,short_vfl _ (checkSystem_good h.sys _ hm).1.1,h.lin _ hm,(check_iff.1 h1.1).1,(check_iff.1 h1.2).1,short_vfl _ (checkSystem_good h.sys _ hm).2.1,varsOf_right h.sys _ hm⟩
omit h in
theorem okM_fun {r:List ARule} {n:Str} {ms:List AMulti} (hn:isName n true = true) (hl:ms.length≤8) (ha:∀ a∈ms,OkM r a):OkM r (.mk 0 n false ms):=by
 constructor
 ·rw [allM_eq,Bool.and_eq_true]
  exact ⟨by simp [rangedM,AMulti.rule],List.all_eq_true.2 fun a h=>(ha a h).rg⟩
 ·rw [allM_eq,Bool.and_eq_true]
  exact ⟨by simp [formedM,AMulti.rule,AMulti.var,AMulti.name,AMulti.args,hn,hl],List.all_eq_true.2 fun a h=>(ha a h).fm⟩
omit h in
theorem okM_pl {r:List ARule} {g:MSub} (t:Term):formed t = true→(∀ v,occ v t = true→OkM r (g v))→OkM r (pl g t):=by
 induction t using term_ind with
 | h t ih =>
 intro ht hg
 obtain ⟨h1,h2⟩:=formed_iff.1 ht
 cases hv:t.var with
 | true=>rw [pl_var hv];exact hg _ (uocc_iff.2 (.inl ⟨hv,rfl⟩))
 | false =>
  rw [hv] at h1
  simp only [nodeOk,Bool.false_eq_true,if_false,Bool.and_eq_true,decide_eq_true_eq] at h1
  rw [pl_fun hv]
  refine okM_fun h1.2 (by simp;omega) fun c hc=>?_
  obtain ⟨a,ha,rfl⟩:=List.mem_map.1 hc
  exact ih a ha (h2 a ha) fun v hv=>hg v (uocc_iff.2 (.inr ⟨a,ha,hv⟩))
omit h in
theorem okM_ru {r:List ARule} {k:Nat} (hk:k < r.length) {g:MSub} (hg:∀ v∈vrs r k,OkM r (g v)):OkM r (ru r k g):=by
 refine okM_rule (by omega) (by omega) ?_ fun a ha=>?_
 ·rw [List.length_map];unfold vrs lft;rw [Int.toNat_natCast]
 ·obtain ⟨v,hv,rfl⟩:=List.mem_map.1 ha
  exact hg v hv
theorem Ortho.ok_fm {k:Nat} (hk:k < r.length) {b:Bool} {g:MSub} (hg:∀ v∈vrs r k,OkM r (g v)):OkM r (fm r k b g):=by
 cases b with
 | true=>exact okM_ru hk hg
 | false=>exact okM_pl _ (h.left hk).2.2.2.1 fun v hv=>hg v (mem_vrs.2 hv)
omit h in
theorem side_ru {r:List ARule} {F:ARule→Term} {k:Nat} {g:MSub} (hv:∀ v,occ v (F (r.getD k default)) = true→v∈vrs r k):sideM r F (ru r k g) = app (fun v=>sideM r F (g v)) (F (r.getD k default)):=by
 rw [sideM_eq,if_neg (by rw [ru_rule];omega),ruleOf_ru,plugT_app,ru_args]
 refine app_congr _ fun v ho=>?_
 show ofL (vrs r k) _ v = _
 rw [List.map_map,ofL_vars _ (hv v ho)];rfl
theorem Ortho.src_fm {k:Nat} (hk:k < r.length) {b:Bool} {g:MSub}:sideM r ARule.left (fm r k b g) = app (fun v=>sideM r ARule.left (g v)) (lft r k):=by
 have hSys := h.sys
 cases b with
 | true=>exact side_ru fun v hv=>mem_vrs.2 hv
 | false=>exact side_pl _
theorem Ortho.tgt_fm {k:Nat} (hk:k < r.length) {b:Bool} {g:MSub}:sideM r ARule.right (fm r k b g) = app (fun v=>sideM r ARule.right (g v)) (if b then rgt r k else lft r k):=by
 cases b with
 | true=>exact side_ru (h.left hk).2.2.2.2.2.2
 | false=>exact side_pl _
omit h in
theorem rule_is {r:List ARule} {a:AMulti} (ha:OkM r a) (h0:0 < a.rule):∃ k,k < r.length∧a.rule = (k:Int)+1∧a = ru r k (ofL (vrs r k) a.args)∧a.args.length = (vrs r k).length:=by
 obtain ⟨k1,k2,k3,k4,k5,k6⟩:=ha.rule (by omega)
 have hvs:vrs r (a.rule - 1).toNat = varsOf [(ruleOf r a).left]:=rfl
 refine ⟨(a.rule - 1).toNat,by omega,by omega,?_,by rw [hvs];exact k4⟩
 have hmap:(vrs r (a.rule - 1).toNat).map (ofL (vrs r (a.rule - 1).toNat) a.args) = a.args:=by
  apply List.ext_getElem (by rw [List.length_map,hvs];omega)
  intro i h1 h2
  rw [List.getElem_map]
  have hi:i < (vrs r (a.rule - 1).toNat).length:=by simpa using h1
  have:=ofL_get (vars:=vrs r (a.rule - 1).toNat) (varsOf_nodup _) (xs:=a.args) hi
  rw [List.getD_eq_getElem?_getD,List.getElem?_eq_getElem hi,List.getD_eq_getElem?_getD,List.getElem?_eq_getElem h2] at this
  exact this
 unfold ru
 rw [hmap,← k5,← k6,show (((a.rule - 1).toNat:Nat):Int)+1 = a.rule by omega]
 exact a.eta.symm
theorem Ortho.form {a b:AMulti} (ha:OkM r a) (hb:OkM r b) {k:Nat} (hk:k < r.length) {f:MSub} (hf:a = ru r k f) (hs:sideM r ARule.left b = sideM r ARule.left a) :
  ∃ (β:Bool) (g:MSub),b = fm r k β g∧(β = true ↔ 0 < b.rule)∧∀ v∈vrs r k,OkM r (g v)∧sideM r ARule.left (g v) = sideM r ARule.left (f v)∧msize (g v)≤msize b:=by
 have hsa:sideM r ARule.left a = app (fun v=>sideM r ARule.left (f v)) (lft r k):=(congrArg (sideM r ARule.left) hf).trans (side_ru fun v hv=>mem_vrs.2 hv)
 obtain ⟨q1,q2,q3,q4,q5,q6⟩:=h.left hk
 by_cases h0:0 < b.rule
 ·obtain ⟨j,hj,hjr,hbj,hlen⟩:=rule_is hb h0
  have hjk:k = j:=by
   rcases Classical.em (k = j) with e | e
   ·exact e
   ·exfalso
    have hsb:sideM r ARule.left b = app (fun v=>sideM r ARule.left (ofL (vrs r j) b.args v)) (lft r j):=(congrArg (sideM r ARule.left) hbj).trans (side_ru fun v hv=>mem_vrs.2 hv)
    exact h.nov k j hk hj [] (lft r k) rfl q1 (fun e2=>e e2.1) _ _ (hsa.symm.trans (hs.symm.trans hsb))
  subst hjk
  refine ⟨true,ofL (vrs r k) b.args,hbj,by simp [h0],fun v hv=>?_⟩
  have hm:=ofL_mem hlen hv
  refine ⟨hb.arg hm,?_,Nat.le_of_lt (by have:=msize_mem hm;have:=msize_args b;omega)⟩
  have hsb:sideM r ARule.left b = app (fun v=>sideM r ARule.left (ofL (vrs r k) b.args v)) (lft r k):=(congrArg (sideM r ARule.left) hbj).trans (side_ru fun v hv=>mem_vrs.2 hv)
  exact app_inj (lft r k) (hsb.symm.trans (hs.trans hsa)) v (mem_vrs.1 hv) q2
 ·have h0':b.rule = 0:=by have:=hb.rule0.1;omega
  obtain ⟨g,h1,h2⟩:=left_form h hk (lft r k) [] b _ rfl hb (fun _=>h0') q3 q2 (hs.trans hsa)
  exact ⟨false,g,h1,by simp [h0],fun v hv=>h2 v (mem_vrs.1 hv)⟩
omit h in
theorem node_form {r:List ARule} {a b:AMulti} (ha:a.rule = 0) (hb:b.rule = 0) (hs:sideM r ARule.left b = sideM r ARule.left a):b = .mk 0 a.name a.var b.args∧b.args.map (sideM r ARule.left) = a.args.map (sideM r ARule.left):=by
 rw [sideM_eq,if_pos hb,sideM_eq,if_pos ha] at hs
 injection hs with e1 e2 e3
 refine ⟨?_,e3⟩
 rw [← e1,← e2,← hb];exact b.eta.symm
end
def underM (vars:List Str) (L:Term) (b:AMulti):List AMulti:=vars.map fun v=>nodeM b ((occM L v).getD 0 [])
theorem msize_pos (m:AMulti):0 < msize m:=by have:=msize_args m;omega
theorem nodeM_size:∀ (p:List Int) (m:AMulti),msize (nodeM m p)≤msize m
 | [],m=>Nat.le_refl _
 | i :: p,m=>by
  show msize (nodeM (m.args.getD i.toNat default) p)≤_
  have h1:=nodeM_size p (m.args.getD i.toNat default)
  by_cases hi:i.toNat < m.args.length
  ·have h2:=msize_mem (getD_mem hi)
   have h3:=msize_args m
   omega
  ·have e:m.args.getD i.toNat default = default:=by simp [List.getD_eq_getElem?_getD,show m.args.length≤i.toNat by omega]
   rw [e] at h1 ⊢
   have e2:msize (default:AMulti) = 1:=rfl
   have:=msize_pos m
   omega
theorem node_pl {g:MSub}:∀ (p:List Int) (L y:Term),vfl L = true→subT L p = some y→nodeM (pl g L) p = pl g y
 | [],L,y,_,h=>by cases h;rfl
 | i :: p,L,y,hf,h=>by
  simp only [subT] at h
  split at h
  ·rename_i hi
   have hv:L.var = false:=by
    cases hv:L.var with
    | false=>rfl
    | true=>rw [(vfl_iff.1 hf).1 hv] at hi;simp at hi;omega
   have hk:i.toNat < L.args.length:=by omega
   rw [pl_fun hv]
   show nodeM ((L.args.map (pl g)).getD i.toNat default) p = _
   have e:(L.args.map (pl g)).getD i.toNat default = pl g (L.args.getD i.toNat default):=by simp [List.getD_eq_getElem?_getD,hk]
   rw [e]
   exact node_pl p _ y (vfl_arg hf (getD_mem hk)) h
  ·cases h
theorem under_pl {L:Term} (hf:vfl L = true) (g:MSub):underM (varsOf [L]) L (pl g L) = (varsOf [L]).map g:=by
 refine List.map_congr_left fun v hv=>?_
 have hne:occM L v ≠ []:=by rw [occM_R];exact occR_some v _ ((mem_varsOf _ _).1 hv)
 generalize hps:occM L v = ps at hne
 cases ps with
 | nil=>exact absurd rfl hne
 | cons p ps =>
  obtain ⟨y,h1,h2,h3⟩:=occM_at (show p∈occM L v by rw [hps];simp)
  show nodeM _ p = _
  rw [node_pl p L y hf h1,pl_var h2,h3]
def restM (r:List ARule):Nat→AMulti→AMulti→AMulti
 | 0,_,_=>zM
 | n+1,a,b =>
  if 0 < b.rule then plugMM (varsOf [(ruleOf r b).left]) (List.zipWith (restM r n) (if 0 < a.rule then a.args else underM (varsOf [(ruleOf r b).left]) (ruleOf r b).left a) b.args) (ruleOf r b).right
  else if 0 < a.rule then .mk a.rule [] false (List.zipWith (restM r n) a.args (underM (varsOf [(ruleOf r a).left]) (ruleOf r a).left b))
  else .mk 0 a.name a.var (List.zipWith (restM r n) a.args b.args)
theorem zip_congr {α β γ:Type} {f g:α→β→γ}:∀ {l:List α} {m:List β},(∀ x∈l,∀ y∈m,f x y = g x y)→List.zipWith f l m = List.zipWith g l m
 | [],_,_=>by simp
 | _ :: _,[],_=>by simp
 | a :: l,b :: m,h=>by
  simp only [List.zipWith_cons_cons]
  rw [h a (by simp) b (by simp),zip_congr fun x hx y hy=>h x (by simp [hx]) y (by simp [hy])]
theorem zip_map {α β γ δ:Type} {f:β→γ→δ} {g:α→β} {k:α→γ} (l:List α):List.zipWith f (l.map g) (l.map k) = l.map fun x=>f (g x) (k x):=by
 induction l with
 | nil=>rfl
 | cons a l ih=>simp [ih]
theorem under_mem {vars:List Str} {L:Term} {a x:AMulti} (h:x∈underM vars L a):msize x≤msize a:=by
 obtain ⟨v,_,rfl⟩:=List.mem_map.1 h
 exact nodeM_size _ _
theorem arg_lt {a x:AMulti} (h:x∈a.args):msize x < msize a:=by have:=msize_mem h;have:=msize_args a;omega
theorem restM_fuel (r:List ARule):∀ (n m:Nat) (a b:AMulti),msize a+msize b≤n→msize a+msize b≤m→restM r n a b = restM r m a b
 | 0,_,a,b,h,_=>by have:=msize_pos a;omega
 | _+1,0,a,b,_,h=>by have:=msize_pos a;omega
 | n+1,m+1,a,b,h1,h2=>by
  simp only [restM]
  split
  ·congr 1
   refine zip_congr fun x hx y hy=>restM_fuel r n m x y ?_ ?_ <;>
   ·have:=arg_lt hy
    split at hx
    ·have:=arg_lt hx;omega
    ·have:=under_mem hx;omega
  ·split
   ·congr 1
    refine zip_congr fun x hx y hy=>restM_fuel r n m x y ?_ ?_ <;>
    ·have:=arg_lt hx
     have:=under_mem hy;omega
   ·congr 1
    refine zip_congr fun x hx y hy=>restM_fuel r n m x y ?_ ?_ <;>
    ·have:=arg_lt hx
     have:=arg_lt hy;omega
def rest (r:List ARule) (a b:AMulti):AMulti:=restM r (msize a+msize b) a b
theorem rest_eq (r:List ARule) (a b:AMulti):rest r a b =
  if 0 < b.rule then plugMM (varsOf [(ruleOf r b).left]) (List.zipWith (rest r) (if 0 < a.rule then a.args else underM (varsOf [(ruleOf r b).left]) (ruleOf r b).left a) b.args) (ruleOf r b).right
  else if 0 < a.rule then .mk a.rule [] false (List.zipWith (rest r) a.args (underM (varsOf [(ruleOf r a).left]) (ruleOf r a).left b))
  else .mk 0 a.name a.var (List.zipWith (rest r) a.args b.args):=by
 have e:rest r a b = restM r (msize a+msize b+1) a b:=restM_fuel r _ _ a b (Nat.le_refl _) (by omega)
 rw [e]
 simp only [restM]
 split
 ·congr 1
  refine zip_congr fun x hx y hy=>restM_fuel r _ _ x y ?_ (Nat.le_refl _)
  have:=arg_lt hy
  split at hx
  ·have:=arg_lt hx;omega
  ·have:=under_mem hx;omega
 ·split
  ·congr 1
   refine zip_congr fun x hx y hy=>restM_fuel r _ _ x y ?_ (Nat.le_refl _)
   have:=arg_lt hx
   have:=under_mem hy;omega
  ·congr 1
   refine zip_congr fun x hx y hy=>restM_fuel r _ _ x y ?_ (Nat.le_refl _)
   have:=arg_lt hx
   have:=arg_lt hy;omega
theorem rest_node (r:List ARule) (n:Str) (v:Bool) (la lb:List AMulti) (n':Str) (v':Bool):rest r (.mk 0 n v la) (.mk 0 n' v' lb) = .mk 0 n v (List.zipWith (rest r) la lb):=by
 rw [rest_eq,if_neg (by simp [AMulti.rule]),if_neg (by simp [AMulti.rule])];rfl
theorem rest_pl (r:List ARule) (f g:MSub) (t:Term):rest r (pl f t) (pl g t) = pl (fun v=>rest r (f v) (g v)) t:=by
 induction t using term_ind with
 | h t ih =>
 cases hv:t.var with
 | true=>rw [pl_var hv,pl_var hv,pl_var hv]
 | false =>
  rw [pl_fun hv,pl_fun hv,pl_fun hv,rest_node,zip_map]
  congr 1
  exact List.map_congr_left fun a ha=>ih a ha
theorem pl_rule {g:MSub} {t:Term} (h:t.var = false):(pl g t).rule = 0:=by rw [pl_fun h];rfl
theorem rest_fm {r:List ARule} (h:Ortho r) {k:Nat} (hk:k < r.length) (α β:Bool) (f g:MSub):rest r (fm r k α f) (fm r k β g) = if β then pl (fun v=>rest r (f v) (g v)) (rgt r k) else fm r k α (fun v=>rest r (f v) (g v)):=by
 obtain ⟨q1,q2,q3,q4,q5,q6,q7⟩:=h.left hk
 cases β with
 | true =>
  have hb:fm r k true g = ru r k g:=rfl
  rw [hb,rest_eq,if_pos (by rw [ru_rule];omega),ruleOf_ru,ru_args]
  have hx:(if 0 < (fm r k α f).rule then (fm r k α f).args else underM (varsOf [(r.getD k default).left]) (r.getD k default).left (fm r k α f)) = (vrs r k).map f:=by
   cases α with
   | true=>exact if_pos (by show 0 < (ru r k f).rule;rw [ru_rule];omega)
   | false =>
    rw [if_neg (by show ¬ 0 < (pl f (lft r k)).rule;rw [pl_rule q1];omega)]
    exact under_pl q2 f
  rw [hx,zip_map,plugMM_pl]
  exact pl_congr _ fun v hv=>ofL_vars _ (q7 v hv)
 | false =>
  cases α with
  | false=>exact rest_pl r f g _
  | true =>
   have ha:fm r k true f = ru r k f:=rfl
   have hb:fm r k false g = pl g (lft r k):=rfl
   rw [ha,hb,rest_eq,if_neg (by rw [pl_rule q1];omega),if_pos (by rw [ru_rule];omega),ruleOf_ru,ru_args]
   have:underM (varsOf [(r.getD k default).left]) (r.getD k default).left (pl g (lft r k)) = (vrs r k).map g:=under_pl q2 g
   rw [this,zip_map];rfl
end Go.Dw
end
section
namespace Go.Dw
theorem scan_all {β:Type} {G:List AOv→β→List AOv × Int}:∀ (l:List β),MonO G l→scanE G [] l = ([],0)→∀ y∈l,G [] y = ([],0)
 | [],_,_,y,hy=>by cases hy
 | z :: l,hm,h,y,hy=>by
  simp only [scanE] at h
  rcases hm [] z (by simp) with h1 | ⟨h1,h2⟩
  ·rw [if_pos (by rw [h1];decide)] at h
   have:=congrArg Prod.snd h
   simp only at this
   rw [h1] at this;cases this
  ·rw [if_neg (by rw [h1];decide)] at h
   have h3:(G [] z).1 = []:=by
    rcases scan_mono l (G [] z).1 fun o w hw=>hm o w (by simp [hw]) with h4 | ⟨h4,h5⟩
    ·rw [h] at h4;cases h4
    ·rw [h] at h5
     exact List.length_eq_zero_iff.1 (by simpa using h5)
   have h4:G [] z = ([],0):=Prod.ext h3 h1
   rw [h3] at h
   rcases List.mem_cons.1 hy with rfl | hy
   ·exact h4
   ·exact scan_all l (fun o w hw=>hm o w (by simp [hw])) h y hy
theorem no_over {r:List ARule} (h:(listR r).2 = 0) (h0:(listR r).1.length = 0) {i j:Nat} (hi:i < r.length) (hj:j < r.length) {p:List Int} {y:Term} (hy:(p,y)∈visit (r.getD i default).left []) (hv:y.var = false) (hne:¬ (i = j∧p = [])) :
  overE (renQ [120] (r.getD i default)) (renQ [121] (r.getD j default)) p (app (rho [120] (firstT [] (r.getD i default).left)) y) = (false,0):=by
 have hS:scanE (stepRI r) [] (List.range r.length) = ([],0):=by
  unfold listR at h h0
  split at h
  ·rename_i hc;exact absurd h hc
  ·rename_i hc
   rw [if_neg hc] at h0
   split at h
   ·cases h
   ·rename_i hc2
    rw [if_neg hc2] at h0
    exact Prod.ext (List.length_eq_zero_iff.1 h0) (by simpa using hc)
 have h1:=scan_all _ (stepRI_mono r _) hS i (List.mem_range.2 hi)
 have h2:=scan_all _ (stepRV_mono r i _) h1 (p,y) hy
 have h3:=scan_all _ (stepRJ_mono r i p y _) h2 j (List.mem_range.2 hj)
 unfold stepRJ at h3
 rw [if_neg (by rw [hv];simp only [Bool.false_eq_true,false_or];exact hne)] at h3
 have he:=overE_errs (renQ [120] (r.getD i default)) (renQ [121] (r.getD j default)) p (app (rho [120] (firstT [] (r.getD i default).left)) y)
 generalize overE (renQ [120] (r.getD i default)) (renQ [121] (r.getD j default)) p (app (rho [120] (firstT [] (r.getD i default).left)) y) = v at h3 he ⊢
 obtain ⟨ok,e⟩:=v
 simp only at h3 he
 rcases he with rfl | rfl
 ·cases ok with
  | false=>rfl
  | true=>simp at h3
 ·simp at h3
theorem over_unif {a b:ARule} {pos:List Int} {sub:Term} (hs:GoodT sub) (hb:GoodT b.left) {θ:Sub} (h:app θ sub = app θ b.left):overE a b pos sub ≠ (false,0):=by
 obtain ⟨_,_,_,_,hm⟩:=solveS_ok (Vs:=vs2 sub b.left) (l:=[sub]) (m:=[b.left]) (fun z hz=>by rw [List.mem_singleton.1 hz];exact ⟨hs.vf,fun w hw=>vs2_mem.2 (.inl hw)⟩) (fun z hz=>by rw [List.mem_singleton.1 hz];exact ⟨hb.vf,fun w hw=>vs2_mem.2 (.inr hw)⟩) rfl
 have h1:=(hm θ (by simp [h])).1
 have h2:(unif1 sub b.left).2.1 = false→(unif1 sub b.left).2.2 = 3:=by
  unfold unif1 unifE
  rw [h1]
  simp only [Bool.true_eq_false,if_false]
  split
  ·intro _;rfl
  ·intro hc;cases hc
 intro he
 unfold overE at he
 split at he
 ·rename_i hc
  have:=congrArg Prod.snd he
  simp only at this
  rw [h2 hc] at this;cases this
 ·split at he
  ·cases he
  ·split at he
   ·cases he
   ·cases he
theorem ofNat_inj {a b:Nat} (ha:a < 10) (hb:b < 10) (h:UInt8.ofNat (48+a) = UInt8.ofNat (48+b)):a = b:=by
 have:=congrArg UInt8.toNat h
 simp only [UInt8.toNat_ofNat'] at this
 omega
theorem dig_ne (n:Nat):dig n ≠ []:=by
 unfold dig Lib.decDigits
 split <;> simp
theorem dig_inj:∀ (m n:Nat),dig m = dig n→m = n:=by
 intro m
 induction m using Nat.strongRecOn with
 | ind m ih =>
 intro n h
 have hd:∀ k:Nat,dig k = if k < 10 then [UInt8.ofNat (48+k)] else dig (k / 10)++[UInt8.ofNat (48+k % 10)]:=fun k=>by
  unfold dig
  conv=>lhs;unfold Lib.decDigits
  split <;> rfl
 rw [hd m,hd n] at h
 by_cases hm:m < 10
 ·rw [if_pos hm] at h
  by_cases hn:n < 10
  ·rw [if_pos hn] at h
   injection h with h _
   exact ofNat_inj hm hn h
  ·rw [if_neg hn] at h
   have:=congrArg List.length h
   simp only [List.length_append,List.length_singleton] at this
   have h2:=List.length_pos_iff.2 (dig_ne (n / 10))
   omega
 ·rw [if_neg hm] at h
  by_cases hn:n < 10
  ·rw [if_pos hn] at h
   have:=congrArg List.length h
   simp only [List.length_append,List.length_singleton] at this
   have h2:=List.length_pos_iff.2 (dig_ne (m / 10))
   omega
  ·rw [if_neg hn] at h
   obtain ⟨h1,h2⟩:=List.append_inj' h (by simp)
   injection h2 with h2 _
   have e1:=ih (m / 10) (by omega) (n / 10) h1
   have e2:=ofNat_inj (a:=m % 10) (b:=n % 10) (by omega) (by omega) h2
   omega
theorem posS_inj {l:List Str} {u v:Str} {j:Nat} (h1:posS l u = some j) (h2:posS l v = some j):u = v:=by
 induction l generalizing j with
 | nil=>cases h1
 | cons x l ih =>
  simp only [posS] at h1 h2
  by_cases e1:x = u
  ·rw [if_pos e1] at h1
   cases h1
   by_cases e2:x = v
   ·exact e1.symm.trans e2
   ·rw [if_neg e2] at h2
    cases hq:posS l v with
    | none=>rw [hq] at h2;cases h2
    | some i=>rw [hq] at h2;cases h2
  ·rw [if_neg e1] at h1
   by_cases e2:x = v
   ·rw [if_pos e2] at h2
    cases h2
    cases hq:posS l u with
    | none=>rw [hq] at h1;cases h1
    | some i=>rw [hq] at h1;cases h1
   ·rw [if_neg e2] at h2
    cases hq:posS l u with
    | none=>rw [hq] at h1;cases h1
    | some i =>
     cases hq2:posS l v with
     | none=>rw [hq2] at h2;cases h2
     | some k =>
      rw [hq] at h1
      rw [hq2] at h2
      simp only [Option.map_some,Option.some.injEq] at h1 h2
      have:i = k:=by omega
      subst this
      exact ih hq hq2
def nmP (pre:Str) (l:List Str) (v:Str):Option Str:=(posS l v).map fun j=>pre++dig j
theorem nmP_inj {c d:UInt8} {l m:List Str} {u v:Str} {w:Str} (h1:nmP [c] l u = some w) (h2:nmP [d] m v = some w):c = d∧∃ j,posS l u = some j∧posS m v = some j:=by
 unfold nmP at h1 h2
 cases hq:posS l u with
 | none=>rw [hq] at h1;cases h1
 | some i =>
  cases hq2:posS m v with
  | none=>rw [hq2] at h2;cases h2
  | some k =>
   rw [hq] at h1
   rw [hq2] at h2
   simp only [Option.map_some,Option.some.injEq] at h1 h2
   rw [← h2] at h1
   simp only [List.cons_append,List.nil_append,List.cons.injEq] at h1
   refine ⟨h1.1,i,rfl,?_⟩
   rw [dig_inj i k h1.2]
open Classical in
noncomputable def both2 (l m:List Str) (f g:Sub):Sub:=fun w =>
 if h:∃ u,nmP [120] l u = some w then f h.choose else if h:∃ u,nmP [121] m u = some w then g h.choose else varT w
theorem both2_l {l m:List Str} {f g:Sub} {v:Str} (hv:v∈l):app (both2 l m f g) (rho [120] l v) = f v:=by
 unfold rho
 cases hq:posS l v with
 | none=>exact absurd hv (posS_none.1 hq)
 | some j =>
  have hn:nmP [120] l v = some ([120]++dig j):=by unfold nmP;rw [hq];rfl
  rw [app_var (t:=varT ([120]++dig j)) rfl]
  show both2 l m f g ([120]++dig j) = f v
  unfold both2
  have h:∃ u,nmP [120] l u = some ([120]++dig j):=⟨v,hn⟩
  rw [dif_pos h]
  obtain ⟨_,i,h1,h2⟩:=nmP_inj h.choose_spec hn
  rw [posS_inj h1 h2]
theorem both2_r {l m:List Str} {f g:Sub} {v:Str} (hv:v∈m):app (both2 l m f g) (rho [121] m v) = g v:=by
 unfold rho
 cases hq:posS m v with
 | none=>exact absurd hv (posS_none.1 hq)
 | some j =>
  have hn:nmP [121] m v = some ([121]++dig j):=by unfold nmP;rw [hq];rfl
  rw [app_var (t:=varT ([121]++dig j)) rfl]
  show both2 l m f g ([121]++dig j) = g v
  unfold both2
  have hno:¬ ∃ u,nmP [120] l u = some ([121]++dig j):=fun ⟨u,hu⟩=>by
   have:=(nmP_inj hu hn).1
   exact absurd this (by decide)
  have h:∃ u,nmP [121] m u = some ([121]++dig j):=⟨v,hn⟩
  rw [dif_neg hno,dif_pos h]
  obtain ⟨_,i,h1,h2⟩:=nmP_inj h.choose_spec hn
  rw [posS_inj h1 h2]
theorem counts_occ2 {v:Str}:∀ l:List Term,(∀ a∈l,0 < count v a→occ v a = true)→0 < counts v l→∃ a∈l,occ v a = true
 | [],_,h=>by simp [counts] at h
 | a :: l,hs,h=>by
  simp only [counts] at h
  by_cases ha:0 < count v a
  ·exact ⟨a,by simp,hs a (by simp) ha⟩
  ·obtain ⟨b,hb,ho⟩:=counts_occ2 l (fun b hb=>hs b (by simp [hb])) (by omega)
   exact ⟨b,by simp [hb],ho⟩
theorem count_occ2 {v:Str} (t:Term):0 < count v t→occ v t = true:=by
 induction t using term_ind with
 | h t ih =>
 intro h
 rw [count_eq] at h
 by_cases hc:(t.var && decide (t.name = v)) = true
 ·rw [Bool.and_eq_true,decide_eq_true_eq] at hc
  exact uocc_iff.2 (.inl hc)
 ·rw [if_neg hc] at h
  obtain ⟨a,ha,ho⟩:=counts_occ2 t.args ih (by omega)
  exact uocc_iff.2 (.inr ⟨a,ha,ho⟩)
theorem subT_occ2 {v:Str}:∀ (p:List Int) (t y:Term),subT t p = some y→occ v y = true→occ v t = true
 | [],t,y,h,ho=>by simp only [subT,Option.some.injEq] at h;subst h;exact ho
 | i :: p,t,y,h,ho=>by
  simp only [subT] at h
  split at h
  ·rename_i hi
   exact uocc_iff.2 (.inr ⟨_,getD_mem (by omega),subT_occ2 p _ y h ho⟩)
  ·cases h
theorem ortho_of {r:List ARule} (h:orthoE r = (true,0)):Ortho r:=by
 have hsys:checkSystem r = 0:=by
  unfold orthoE at h
  by_cases hc:checkSystem r = 0
  ·exact hc
  ·rw [if_pos hc] at h
   exact absurd (congrArg Prod.fst h) (by simp)
 obtain ⟨hg,hrl⟩:=good_system hsys
 unfold orthoE at h
 rw [if_neg (by simpa using hsys)] at h
 obtain ⟨s1,s2⟩:=overlaps_same hg
 have ha:(allO r).2 = 0:=by
  by_cases hc:(allO r).2 = 0
  ·exact hc
  ·rw [if_pos hc] at h
   exact absurd (congrArg Prod.fst h) (by simp)
 rw [if_neg (by simpa using ha)] at h
 have h:=congrArg Prod.fst h
 simp only [Bool.and_eq_true,decide_eq_true_eq,List.all_eq_true] at h
 obtain ⟨h0,hlin⟩:=h
 refine ⟨hsys,fun x hx v=>?_,fun i j hi hj p y hy hv hne f g he=>?_⟩
 ·have hb:=hlin x hx
  by_cases hc:count v x.left≤1
  ·exact hc
  ·exfalso
   have ho:=count_occ2 x.left (v:=v) (by omega)
   unfold linB at hb
   rw [Bool.not_eq_true'] at hb
   rw [List.any_eq_false] at hb
   have:=hb v ((mem_collectT v x.left []).2 (.inr ho))
   simp only [decide_eq_true_eq] at this
   omega
 ·have hxi:=hg _ (getD_mem hi)
  have hxj:=hg _ (getD_mem hj)
  have hvis:(p,y)∈visit (r.getD i default).left []:=by
   have:=visit_mem p (r.getD i default).left y [] hy
   simpa using this
  have hno:=no_over (s1 ▸ ha) (by rw [← s2 ha];exact h0) hi hj hvis hv hne
  have hsub:=rho_sub hxi hy
  have hgi:=renQ_good (pre:=[120]) rfl hxi
  have hgj:=renQ_good (pre:=[121]) rfl hxj
  refine over_unif (a:=renQ [120] (r.getD i default)) (b:=renQ [121] (r.getD j default)) (pos:=p) (GoodT.sub p hgi.l hsub) hgj.l (θ:=both2 (firstT [] (r.getD i default).left) (firstT [] (r.getD j default).left) f g) ?_ hno
  have e1:app (both2 (firstT [] (r.getD i default).left) (firstT [] (r.getD j default).left) f g) (app (rho [120] (firstT [] (r.getD i default).left)) y) = app f y:=by
   rw [app_app]
   refine app_congr y fun v hvo=>both2_l ?_
   exact (firstT_pre (r.getD i default).left []).2 hxi.l.vf v (subT_occ2 p _ y hy hvo)
  have e2:app (both2 (firstT [] (r.getD i default).left) (firstT [] (r.getD j default).left) f g) (renQ [121] (r.getD j default)).left = app g (r.getD j default).left:=by
   show app _ (app (rho [121] (firstT [] (r.getD j default).left)) (r.getD j default).left) = _
   rw [app_app]
   exact app_congr _ fun v hvo=>both2_r ((firstT_pre (r.getD j default).left []).2 hxj.l.vf v hvo)
  rw [e1,e2,he]
end Go.Dw
end
section
namespace Go.Dw
theorem rep_set {n k:Nat} {Z:List AMulti} (hk:k < n) (hZ:n≤Z.length):(Z.take k++List.replicate (n - k) zM).set k (Z.getD k default) = Z.take (k+1)++List.replicate (n - (k+1)) zM:=by
 have h1:(Z.take k).length = k:=by simp;omega
 rw [List.set_append,if_neg (by omega),h1,Nat.sub_self]
 obtain ⟨m,hm⟩:∃ m,n - k = m+1:=⟨n - k - 1,by omega⟩
 have h2:n - (k+1) = m:=by omega
 rw [hm,h2,List.replicate_succ,List.set_cons_zero,take_succ_getD (by omega),List.append_assoc];rfl
theorem residual_zip_s {F:AMulti→AMulti→AMulti} {g:Nat} {caps:List V} (hc:∀ σ,rens σ caps = caps) (a b:List AMulti) (hla:a.length≤b.length) (hl:a.length < 2^38) (h:∀ k,k < a.length→PF g (encM (a.getD k default) :: encM (b.getD k default) :: caps) (encM (F (a.getD k default) (b.getD k default)))) :
  PF n_residual_zip [encMs a,encMs b,.fn (.func g) [] caps] (encMs (List.zipWith F a b)):=by
 have hz:∀ τ,List.map (rens τ) (List.replicate a.length [V.int IntKind.i64 0,V.str [],V.bool false,V.sl 4 []]) = (List.replicate a.length zM).map cM:=fun τ=>by
  rw [List.map_replicate,List.map_replicate];rfl
 have hz0:List.replicate a.length [V.int IntKind.i64 0,V.str [],V.bool false,V.sl 4 []] = (List.replicate a.length zM).map cM:=by rw [List.map_replicate];rfl
 have m1:a.length≤maxEls:=by unfold maxEls;omega
 have m2:a.length * 56≤maxEls:=by unfold maxEls;omega
 have hZl:(List.zipWith F a b).length = a.length:=by rw [List.length_zipWith];omega
 refine pf_of residual_zip.ok rfl ?_
 push_cast [hc,hz,hz0,m1,m2,rens_cMs]
 refine loop_up (n:=a.length) (R:=fun k=>residual_zip.L3 (encMs a) (encMs b) (.fn (.func g) [] caps) (.rw 0 4 a.length) (.int .i64 a.length) (.int .i64 k) 0 [.row t_Multi 4 (((List.zipWith F a b).take k++List.replicate (a.length - k) zM).map cM)] (Ends 0 residual_zip.rs fun x' H'=>x' = encMs (List.zipWith F a b)∧H' = [])) ?_ ?_ 0 (by omega)
 ·intro k hk ih
  have hkb:k < b.length:=by omega
  have hcall:=h k hk
  have hge:(List.zipWith F a b).getD k default = F (a.getD k default) (b.getD k default):=by
   have e1:(List.zipWith F a b)[k]? = some (F (a.getD k default) (b.getD k default)):=by
    have ea:a[k]? = some (a.getD k default):=by simp [List.getD_eq_getElem?_getD,hk]
    have eb:b[k]? = some (b.getD k default):=by simp [List.getD_eq_getElem?_getD,hkb]
    rw [List.getElem?_zipWith,ea,eb]
   rw [List.getD_eq_getElem?_getD,e1];rfl
  have hset:=rep_set (n:=a.length) (k:=k) (Z:=List.zipWith F a b) hk (by omega)
  rw [← hset,hge] at ih
  have hlen:((List.zipWith F a b).take k++List.replicate (a.length - k) zM).length = a.length:=by simp;omega
  generalize (List.zipWith F a b).take k++List.replicate (a.length - k) zM = L at ih hlen
  generalize F (a.getD k default) (b.getD k default) = y at hcall ih
  have hset2:(L.map cM).set k (put 0 (cM y) ((L.map cM).getD k [])) = (L.set k y).map cM:=by
   have e:(L.map cM).getD k [] = cM (L.getD k default):=by simp [List.getD_eq_getElem?_getD,hlen,hk]
   rw [e,List.map_set];rfl
  have hg1:(L.map cM)[k]? = some (cM (L.getD k default)):=by simp [List.getD_eq_getElem?_getD,hlen,hk]
  refine residual_zip.G3 ?_
  push_cast [ilt hk,ilt hkb,hc]
  refine .of hcall ?_
  push_cast [hset2,hg1,hc,rens_cMs,List.length_map,hlen,ilt hk,w64 (show k < 2^62 by omega)]
  push_cast at ih
  first | exact ih | exact ⟨by omega,ih⟩
 ·refine residual_zip.G3 ?_
  have hfin:((List.zipWith F a b).take a.length++List.replicate (a.length - a.length) zM) = List.zipWith F a b:=by
   rw [List.take_of_length_le (by omega),Nat.sub_self,List.replicate_zero,List.append_nil]
  rw [hfin]
  push_cast [inlt (Nat.le_refl _),List.length_map,hZl,rens_cMs]
  exact pf_ret (by push_cast [residual_zip.rs,rens_cMs];rfl)
end Go.Dw
end
section
namespace Go.Dw
def hU3 (n:Nat) (out:List AMulti):List Ob:=[.dead,.row t_Multi 4 (out.map cM),.cells t_s_Multi [.rw 1 4 n]]
theorem shut_hU3 (n:Nat) (out:List AMulti):Shut 3 (hU3 n out):=⟨rfl,by
 show [renOb (clip 3) .dead,renOb (clip 3) (.row t_Multi 4 (out.map cM)),renOb (clip 3) (.cells t_s_Multi [.rw 1 4 n])] = _
 have h3:clip 3 1 = some 1:=rfl
 push_cast [h3,rens_cMs,List.map_map];rfl⟩
theorem cut_hU3 (n:Nat) (out:List AMulti) (J:List Ob):cut 3 (hU3 n out++J) = hU3 n out:=by
 show [renOb (clip 4) .dead,renOb (clip 4) (.row t_Multi 4 (out.map cM)),renOb (clip 4) (.cells t_s_Multi [.rw 1 4 n])] = _
 have h3:clip 4 1 = some 1:=rfl
 push_cast [h3,rens_cMs];rfl
def InvU (L:Term) (g:MSub) (vars:List Str) (j:Nat) (out:List AMulti):Prop :=
 out.length = vars.length∧∀ k,k < vars.length→(∃ x∈(visit L []).take j,x.2.var = true∧x.2.name = vars.getD k default)→out.getD k default = g (vars.getD k default)
theorem inv_skip {L:Term} {g:MSub} {vars:List Str} {j:Nat} {out:List AMulti} (h:InvU L g vars j out) (hj:j < (visit L []).length) (hv:((visit L []).getD j default).2.var = false):InvU L g vars (j+1) out:=by
 refine ⟨h.1,fun k hk hx=>h.2 k hk ?_⟩
 obtain ⟨x,hx,h1,h2⟩:=hx
 rw [take_succ_getD hj,List.mem_append,List.mem_singleton] at hx
 rcases hx with hx | rfl
 ·exact ⟨x,hx,h1,h2⟩
 ·rw [hv] at h1;cases h1
theorem inv_step {L:Term} {g:MSub} {vars:List Str} {j:Nat} {out:List AMulti} (hnd:vars.Nodup) (h:InvU L g vars j out) (hj:j < (visit L []).length) {x:List Int × Term} (hx0:(visit L []).getD j default = x) {i:Nat} (hi:i < vars.length) (hn:vars.getD i default = x.2.name):InvU L g vars (j+1) (out.set i (g x.2.name)):=by
 refine ⟨by rw [List.length_set,h.1],fun k hk hx=>?_⟩
 obtain ⟨y,hy,h1,h2⟩:=hx
 by_cases hik:i = k
 ·subst hik
  rw [hn]
  simp [List.getD_eq_getElem?_getD,h.1,hi]
 ·have e:(out.set i (g x.2.name)).getD k default = out.getD k default:=by simp [List.getD_eq_getElem?_getD,hik]
  rw [e]
  refine h.2 k hk ?_
  rw [take_succ_getD hj,List.mem_append,List.mem_singleton] at hy
  rcases hy with hy | rfl
  ·exact ⟨y,hy,h1,h2⟩
  ·exact absurd (by
    have e1:vars[i]? = vars[k]?:=by
     rw [hx0] at h2
     have a1:vars[i]? = some (vars.getD i default):=by simp [List.getD_eq_getElem?_getD,hi]
     have a2:vars[k]? = some (vars.getD k default):=by simp [List.getD_eq_getElem?_getD,hk]
     rw [a1,a2,hn,h2]
    exact (List.getElem?_inj hi hnd).1 e1) hik
theorem sub_fun {y z:Term} {i:Int} {p:List Int} (hf:vfl y = true) (h:subT y (i :: p) = some z):y.var = false∧0≤i∧i.toNat < y.args.length∧subT (y.args.getD i.toNat default) p = some z:=by
 simp only [subT] at h
 split at h
 ·rename_i hi
  have hv:y.var = false:=by
   cases hv:y.var with
   | false=>rfl
   | true=>rw [(vfl_iff.1 hf).1 hv] at hi;simp at hi;omega
  exact ⟨hv,by omega,by omega,h⟩
 ·cases h
theorem under_walk {vars:List Str} {g:MSub} {x:List Int × Term} (O:Ob) (hO:renOb (clip 6) O = O) (out:List AMulti) (hol:out.length = vars.length) (hvl:vars.length < 2^38) (y0:Term) (hy0:vfl y0 = true) (hsub:subT y0 x.1 = some x.2) (hv:x.2.var = true) (hm:x.2.name∈vars) (hpl:x.1.length < 2^38) (Q:X→T→List Ob→Prop)
  (hq:∀ T J,Q .fall T (hU3 vars.length (out.set (ixS x.2.name vars) (g x.2.name))++O :: J)) :
  residual_under.L3 (.ro [encSs vars] 0) (.ptr 2 0) (.ro (cT x.2) 0) (.ptr 5 0) (encP x.1) (.int .i64 x.1.length) (.int .i64 0) 4 (hU3 vars.length out++[O,.dead,.cells t_Multi (cM (pl g y0))]) Q:=by
 refine loop_up (n:=x.1.length) (R:=fun k=>∀ y,vfl y = true→subT y (x.1.drop k) = some x.2→residual_under.L3 (.ro [encSs vars] 0) (.ptr 2 0) (.ro (cT x.2) 0) (.ptr 5 0) (encP x.1) (.int .i64 x.1.length) (.int .i64 k) 4 (hU3 vars.length out++[O,.dead,.cells t_Multi (cM (pl g y))]) Q) ?_ ?_ 0 (Nat.zero_le _) y0 hy0 (by rw [List.drop_zero];exact hsub)
 ·intro k hk ih y hy hs
  rw [drop_getD hk] at hs
  obtain ⟨h1,h2,h3,h4⟩:=sub_fun hy hs
  have ih:=ih _ (vfl_arg hy (getD_mem h3)) h4
  simp only [hU3,List.cons_append,List.nil_append] at ih ⊢
  refine residual_under.G3 ?_
  have e:((y.args.map (pl g)).getD (x.1.getD k default).toNat default) = pl g (y.args.getD (x.1.getD k default).toNat default):=by
   generalize (x.1.getD k default).toNat = i at h3
   simp [List.getD_eq_getElem?_getD,h3]
  have e2:(AMulti.mk 0 y.name false (y.args.map (pl g))).args = y.args.map (pl g):=rfl
  push_cast [ilt hk,pl_fun h1,hO,rens_cMs,e2,e,List.length_map,w64 (show k < 2^62 by omega)]
  exact ⟨⟨by omega,by omega⟩,ih⟩
 ·intro y hy hs
  rw [List.drop_length] at hs
  have hs:y = x.2:=by simpa [subT] using hs
  subst hs
  have hix:=slices_Index_str_s vars x.2.name (by omega)
  obtain ⟨i1,i2,i3⟩:=idxI_ix hm
  rw [i1] at hix
  simp only [hU3,List.cons_append,List.nil_append]
  refine residual_under.G3 ?_
  push_cast [inlt (Nat.le_refl _),hO]
  refine .of hix ?_
  have hset:(out.map cM).set (ixS x.2.name vars) (put 0 (cM (g x.2.name)) ((out.map cM).getD (ixS x.2.name vars) [])) = (out.set (ixS x.2.name vars) (g x.2.name)).map cM:=by
   have e:(out.map cM).getD (ixS x.2.name vars) [] = cM (out.getD (ixS x.2.name vars) default):=by simp [List.getD_eq_getElem?_getD,hol,i2]
   rw [e,List.map_set];rfl
  push_cast [hO,pl_var hv,hset,rens_cMs,List.length_map,hol]
  exact ⟨by omega,i2,hq _ [_,_]⟩
theorem residual_under_s {L:Term} (hL:vfl L = true) (hs:size L < 2^38) (g:MSub):PF n_residual_under [encT L,encM (pl g L)] (encMs ((varsOf [L]).map g)):=by
 have hvs:=term_VarsOf_s [L] (by simp only [sizes];omega)
 have hw:=term_Walk_s L
 have hvl:(varsOf [L]).length < 2^38:=by have:=varsOf_len [L];simp only [sizes] at this;omega
 have hnd:=varsOf_nodup L
 generalize hvars:varsOf [L] = vars at hvs hvl hnd
 have hz:∀ τ,List.map (rens τ) (List.replicate vars.length [V.int IntKind.i64 0,V.str [],V.bool false,V.sl 4 []]) = (List.replicate vars.length zM).map cM:=fun τ=>by
  rw [List.map_replicate,List.map_replicate];rfl
 have hz0:List.replicate vars.length [V.int IntKind.i64 0,V.str [],V.bool false,V.sl 4 []] = (List.replicate vars.length zM).map cM:=by rw [List.map_replicate];rfl
 have m1:vars.length≤maxEls:=by unfold maxEls;omega
 have m2:vars.length * 56≤maxEls:=by unfold maxEls;omega
 refine pf_of residual_under.ok rfl ?_
 push_cast
 refine .of hvs ?_
 push_cast [hz,hz0,m1,m2,rens_cMs]
 refine .of hw ?_
 push_cast [hz,hz0,rens_cMs]
 refine Run.rf n_term_Walk_1 [] [.ro (cT L) 0] ((visit L []).map encIt) (fun j H1=>∃ out,H1 = hU3 vars.length out∧InvU L g vars j out) (fun _ _=>False) rfl (term_Walk_iter L (by omega)) ?_ ⟨List.replicate vars.length zM,rfl,by simp,fun k hk hx=>by simp at hx⟩ ?_ ?_ ?_ ?_ ?_ ?_
 ·intro it hit
  obtain ⟨x,_,rfl⟩:=List.mem_map.1 hit
  rfl
 ·push_cast
 ·rintro j H1 ⟨out,rfl,_⟩
  exact shut_hU3 _ out
 ·rintro e H1 h
  exact h.elim
 ·rintro lo rr j it H1 hit ⟨out,rfl,hI⟩
  rw [List.getElem?_map] at hit
  cases hx:(visit L [])[j]? with
  | none=>rw [hx] at hit;cases hit
  | some x =>
  rw [hx] at hit
  have hit:it = encIt x:=by simpa using hit.symm
  subst hit
  have hj:j < (visit L []).length:=(List.getElem?_eq_some_iff.1 hx).1
  have hxj:(visit L []).getD j default = x:=by rw [List.getD_eq_getElem?_getD,hx];rfl
  have hxm:x∈visit L []:=hxj ▸ getD_mem hj
  push_cast [setPs,encIt,hU3]
  refine run_m.2 ?_
  cases hv:x.2.var with
  | false =>
   push_cast [hv]
   refine ⟨rfl,out,cut_hU3 _ out _,inv_skip hI hj (by rw [hxj];exact hv)⟩
  | true =>
   push_cast [hv]
   have hv1:=visit_at L [] x hxm
   obtain ⟨p,hp,h2⟩:=hv1
   rw [List.nil_append] at hp
   rw [← hp] at h2
   have h3:=(visit_sub L [] x hxm).2
   have hm:x.2.name∈vars:=by
    rw [← hvars,mem_varsOf]
    exact subT_occ _ _ _ h2 hv
   obtain ⟨i1,i2,i3⟩:=idxI_ix hm
   rw [rens_cMs]
   refine under_walk (vars:=vars) (g:=g) (x:=x) (.lp lo .busy rr _) ?_ out hI.1 hvl L hL h2 hv hm (by simp only [List.length_nil] at h3;omega) _ ?_
   ·push_cast
   ·intro T J
    exact ⟨rfl,_,cut_hU3 _ _ (_ :: J),inv_step hnd hI hj hxj i2 i3⟩
 ·rintro H1 ⟨out,rfl,hI⟩
  have hout:out = vars.map g:=by
   refine List.ext_getElem? fun k=>?_
   by_cases hk:k < vars.length
   ·have e:=hI.2 k hk (by
     rw [List.length_map,List.take_length]
     have hm:vars.getD k default∈varsOf [L]:=by rw [hvars];exact getD_mem hk
     have hne:occM L (vars.getD k default) ≠ []:=by rw [occM_R];exact occR_some _ _ ((mem_varsOf _ _).1 hm)
     unfold occM occW at hne
     obtain ⟨x,hx⟩:=List.exists_mem_of_ne_nil _ (fun h=>hne (by rw [h];rfl):((visit L []).filter (isV (vars.getD k default))) ≠ [])
     obtain ⟨h1,h2⟩:=List.mem_filter.1 hx
     simp only [isV,Bool.and_eq_true,decide_eq_true_eq] at h2
     exact ⟨x,h1,by first | exact h2 | exact ⟨h2.1,h2.2.symm⟩⟩)
    have e1:out[k]? = some (out.getD k default):=by simp [List.getD_eq_getElem?_getD,hI.1,hk]
    have e2:(vars.map g)[k]? = some (g (vars.getD k default)):=by simp [List.getD_eq_getElem?_getD,hk]
    rw [e1,e2,e]
   ·rw [List.getElem?_eq_none (by have:=hI.1;omega),List.getElem?_eq_none (by rw [List.length_map];omega)]
  subst hout
  push_cast [hU3,rens_cMs]
  refine ⟨by rw [List.length_map,List.length_map],pf_ret ?_⟩
  push_cast [residual_under.rs,rens_cMs]
  rfl
 ·rintro e H1 h
  exact h.elim
end Go.Dw
end
section
namespace Go.Dw
theorem residual_split_0 (r:List ARule) (m:AMulti) (hm:m.rule = 0):PF n_residual_split_1 [encM m,.ro [.int .i64 0] 0,.ro [encRs r] 0] (encMs m.args):=by
 refine pf_of residual_split_1.ok rfl ?_
 push_cast [hm]
 refine pf_ret ?_
 push_cast [residual_split_1.rs]
theorem residual_split_k {r:List ARule} {k:Nat} (hk:k < r.length) (hkl:k < 2^40) (hv:(lft r k).var = false) (hf:vfl (lft r k) = true) (hs:size (lft r k) < 2^38) (β:Bool) (g:MSub):PF n_residual_split_1 [encM (fm r k β g),.ro [.int .i64 (k+1)] 0,.ro [encRs r] 0] (encMs ((vrs r k).map g)):=by
 refine pf_of residual_split_1.ok rfl ?_
 cases β with
 | true =>
  have e:fm r k true g = ru r k g:=rfl
  have h1:(0:Int) < k+1:=by omega
  push_cast [e,ru_rule,ru_args,h1]
  refine pf_ret ?_
  push_cast [residual_split_1.rs]
 | false =>
  have e:fm r k false g = pl g (lft r k):=rfl
  have hu:=residual_under_s hf hs g
  have h0:(pl g (lft r k)).rule = 0:=pl_rule hv
  have h1:((k:Int)+1 = 0) = False:=by simp;omega
  have hw:IntKind.i64.wrap ((k:Int)+1 - 1) = k:=by
   rw [Int.add_sub_cancel];exact wrap64 (by omega) (by omega)
  push_cast [e,h0,h1,hw]
  refine ⟨by omega,.of hu ?_⟩
  push_cast
  refine pf_ret ?_
  push_cast [residual_split_1.rs]
  rfl
theorem residual_split_0_s (r:List ARule) (a b:AMulti) (ha:a.rule = 0) (hb:b.rule = 0):PF n_residual_split [encRs r,encM a,encM b] (.tup [.int .i64 0,encMs a.args,encMs b.args]):=by
 refine pf_of residual_split.ok rfl ?_
 push_cast [ha,hb]
 refine .of (residual_split_0 r a ha) ?_
 push_cast
 refine .of (residual_split_0 r b hb) ?_
 push_cast
 refine pf_ret ?_
 push_cast [residual_split.rs]
theorem residual_split_k_s {r:List ARule} {k:Nat} (hk:k < r.length) (hkl:k < 2^40) (hv:(lft r k).var = false) (hf:vfl (lft r k) = true) (hs:size (lft r k) < 2^38) (β γ:Bool) (f g:MSub) (hβ:β = true ∨ γ = true):PF n_residual_split [encRs r,encM (fm r k β f),encM (fm r k γ g)] (.tup [.int .i64 (k+1),encMs ((vrs r k).map f),encMs ((vrs r k).map g)]):=by
 have c1:=residual_split_k hk hkl hv hf hs β f
 have c2:=residual_split_k hk hkl hv hf hs γ g
 have hr:∀ (δ:Bool) (f:MSub),(fm r k δ f).rule = if δ then (k:Int)+1 else 0:=fun δ f=>by
  cases δ with
  | true=>rfl
  | false=>exact pl_rule hv
 have hm:(if (fm r k β f).rule < (fm r k γ g).rule then (fm r k γ g).rule else (fm r k β f).rule) = (k:Int)+1:=by
  rw [hr,hr]
  rcases hβ with rfl | rfl
  ·cases γ <;> simp <;> omega
  ·cases β <;> simp <;> omega
 refine pf_of residual_split.ok rfl ?_
 push_cast [hm]
 refine .of c1 ?_
 push_cast
 refine .of c2 ?_
 push_cast
 refine pf_ret ?_
 push_cast [residual_split.rs]
end Go.Dw
end
section
namespace Go.Dw
theorem residual_rest_1_s {r:List ARule} {a b y:AMulti} (h:PF n_residual_rest [encRs r,encM a,encM b] (encM y)):PF n_residual_rest_1 [encM a,encM b,.ro [encRs r] 0] (encM y):=by
 refine pf_of residual_rest_1.ok rfl ?_
 push_cast
 refine .of h ?_
 push_cast
 refine pf_ret ?_
 push_cast [residual_rest_1.rs]
theorem residual_rest_0 {r:List ARule} {a b:AMulti} (ha:a.rule = 0) (hb:b.rule = 0) (hl:a.args.length≤b.args.length) (hl2:a.args.length < 2^38) (F:AMulti→AMulti→AMulti)
  (hF:∀ k,k < a.args.length→PF n_residual_rest [encRs r,encM (a.args.getD k default),encM (b.args.getD k default)] (encM (F (a.args.getD k default) (b.args.getD k default)))) :
  PF n_residual_rest [encRs r,encM a,encM b] (encM (.mk 0 a.name a.var (List.zipWith F a.args b.args))):=by
 have hz:=residual_zip_s (F:=F) (g:=n_residual_rest_1) (caps:=[.ro [encRs r] 0]) (fun σ=>by push_cast) a.args b.args hl hl2 (fun k hk=>residual_rest_1_s (hF k hk))
 refine pf_of residual_rest.ok rfl ?_
 push_cast
 refine .of (residual_split_0_s r a b ha hb) ?_
 push_cast
 refine .of hz ?_
 push_cast
 refine pf_ret ?_
 push_cast [residual_rest.rs]
 first | rfl | (rw [encM,cM_eq];rfl) | (simp only [encM,cM];rfl)
theorem residual_rest_a {r:List ARule} {k:Nat} (hk:k < r.length) (hkl:k < 2^40) (hv:(lft r k).var = false) (hf:vfl (lft r k) = true) (hs:size (lft r k) < 2^38) (f g:MSub) (F:AMulti→AMulti→AMulti)
  (hF:∀ v,v∈vrs r k→PF n_residual_rest [encRs r,encM (f v),encM (g v)] (encM (F (f v) (g v)))) :
  PF n_residual_rest [encRs r,encM (fm r k true f),encM (fm r k false g)] (encM (.mk (k+1) [] false (List.zipWith F ((vrs r k).map f) ((vrs r k).map g)))):=by
 have hvl:(vrs r k).length < 2^38:=by have:=varsOf_len [lft r k];simp only [sizes] at this;unfold vrs;omega
 have hz:=residual_zip_s (F:=F) (g:=n_residual_rest_1) (caps:=[.ro [encRs r] 0]) (fun σ=>by push_cast) ((vrs r k).map f) ((vrs r k).map g) (by simp) (by simpa using hvl) (fun j hj=>by
  rw [List.length_map] at hj
  have e:∀ f:MSub,((vrs r k).map f).getD j default = f ((vrs r k).getD j default):=fun f=>by simp [List.getD_eq_getElem?_getD,hj]
  rw [e,e]
  exact residual_rest_1_s (hF _ (getD_mem hj)))
 refine pf_of residual_rest.ok rfl ?_
 push_cast
 refine .of (residual_split_k_s hk hkl hv hf hs true false f g (.inl rfl)) ?_
 push_cast
 refine .of hz ?_
 have e0:(fm r k false g).rule = 0:=pl_rule hv
 have h1:((k:Int)+1 = 0) = False:=by simp;omega
 push_cast [e0,h1]
 refine pf_ret ?_
 push_cast [residual_rest.rs]
 first | rfl | (rw [encM,cM_eq];rfl) | (simp only [encM,cM];rfl)
theorem residual_rest_b {r:List ARule} {k:Nat} (hk:k < r.length) (hkl:k < 2^40) (hv:(lft r k).var = false) (hf:vfl (lft r k) = true) (hs:size (lft r k) < 2^38) (hs2:size (rgt r k) < 2^40) (ho:∀ v,occ v (rgt r k) = true→v∈vrs r k) (β:Bool) (f g:MSub) (F:AMulti→AMulti→AMulti)
  (hF:∀ v,v∈vrs r k→PF n_residual_rest [encRs r,encM (f v),encM (g v)] (encM (F (f v) (g v)))) :
  PF n_residual_rest [encRs r,encM (fm r k β f),encM (fm r k true g)] (encM (plugMM (vrs r k) (List.zipWith F ((vrs r k).map f) ((vrs r k).map g)) (rgt r k))):=by
 have hvl:(vrs r k).length < 2^38:=by have:=varsOf_len [lft r k];simp only [sizes] at this;unfold vrs;omega
 have hz:=residual_zip_s (F:=F) (g:=n_residual_rest_1) (caps:=[.ro [encRs r] 0]) (fun σ=>by push_cast) ((vrs r k).map f) ((vrs r k).map g) (by simp) (by simpa using hvl) (fun j hj=>by
  rw [List.length_map] at hj
  have e:∀ f:MSub,((vrs r k).map f).getD j default = f ((vrs r k).getD j default):=fun f=>by simp [List.getD_eq_getElem?_getD,hj]
  rw [e,e]
  exact residual_rest_1_s (hF _ (getD_mem hj)))
 have hvs:=term_VarsOf_s [lft r k] (by simp only [sizes];omega)
 have hp:=multi_Plug_s (vrs r k) (List.zipWith F ((vrs r k).map f) ((vrs r k).map g)) (by simp) (by omega) (rgt r k) hs2 ho
 refine pf_of residual_rest.ok rfl ?_
 push_cast
 refine .of (residual_split_k_s hk hkl hv hf hs β true f g (.inr rfl)) ?_
 push_cast
 refine .of hz ?_
 have e0:(fm r k true g).rule = (k:Int)+1:=rfl
 have h1:((k:Int)+1 = 0) = False:=by simp;omega
 have hw:IntKind.i64.wrap ((k:Int)+1 - 1) = k:=by
  rw [Int.add_sub_cancel];exact wrap64 (by omega) (by omega)
 push_cast [e0,h1,hw]
 refine ⟨by omega,by omega,.of hvs ?_⟩
 push_cast
 refine .of hp ?_
 push_cast
 refine pf_ret ?_
 push_cast [residual_rest.rs]
end Go.Dw
end
section
namespace Go.Dw
section
variable {r:List ARule} (h:Ortho r)
include h
theorem Ortho.shapes {a b:AMulti} (ha:OkM r a) (hb:OkM r b) (hs:sideM r ARule.left b = sideM r ARule.left a) :
  (a.rule = 0∧b.rule = 0∧b = .mk 0 a.name a.var b.args∧b.args.map (sideM r ARule.left) = a.args.map (sideM r ARule.left)) ∨
  ∃ (k:Nat) (α β:Bool) (f g:MSub),k < r.length∧a = fm r k α f∧b = fm r k β g∧(α = true ∨ β = true)∧∀ v∈vrs r k,OkM r (f v)∧OkM r (g v)∧sideM r ARule.left (g v) = sideM r ARule.left (f v)∧msize (f v)+msize (g v) < msize a+msize b:=by
 by_cases h0:0 < a.rule
 ·obtain ⟨k,hk,hkr,hak,hlen⟩:=rule_is ha h0
  obtain ⟨β,g,h1,h2,h3⟩:=h.form ha hb hk hak hs
  refine .inr ⟨k,true,β,_,g,hk,hak,h1,.inl rfl,fun v hv=>?_⟩
  have hm:=ofL_mem hlen hv
  obtain ⟨q1,q2,q3⟩:=h3 v hv
  have:=msize_mem hm
  have:=msize_args a
  exact ⟨ha.arg hm,q1,q2,by omega⟩
 ·have ha0:a.rule = 0:=by have:=ha.rule0.1;omega
  by_cases h1:0 < b.rule
  ·obtain ⟨k,hk,hkr,hbk,hlen⟩:=rule_is hb h1
   obtain ⟨α,f,h1,h2,h3⟩:=h.form hb ha hk hbk hs.symm
   refine .inr ⟨k,α,true,f,_,hk,h1,hbk,.inr rfl,fun v hv=>?_⟩
   have hm:=ofL_mem hlen hv
   obtain ⟨q1,q2,q3⟩:=h3 v hv
   have:=msize_mem hm
   have:=msize_args b
   exact ⟨q1,hb.arg hm,q2.symm,by omega⟩
  ·have hb0:b.rule = 0:=by have:=hb.rule0.1;omega
   obtain ⟨q1,q2⟩:=node_form ha0 hb0 hs
   exact .inl ⟨ha0,hb0,q1,q2⟩
theorem residual_rest_s (hrl:r.length≤64) (hsz:∀ k,k < r.length→size (lft r k) < 2^38∧size (rgt r k) < 2^38):∀ (n:Nat) (a b:AMulti),msize a+msize b≤n→OkM r a→OkM r b→sideM r ARule.left b = sideM r ARule.left a→PF n_residual_rest [encRs r,encM a,encM b] (encM (rest r a b))
 | 0,a,b,hn,_,_,_=>by have:=msize_pos a;omega
 | n+1,a,b,hn,ha,hb,hs=>by
  rcases h.shapes ha hb hs with ⟨a0,b0,hbe,hm⟩ | ⟨k,α,β,f,g,hk,rfl,rfl,hαβ,hp⟩
  ·have hl:b.args.length = a.args.length:=by have:=congrArg List.length hm;simpa using this
   have e:rest r a b = .mk 0 a.name a.var (List.zipWith (rest r) a.args b.args):=by
    rw [rest_eq,if_neg (by omega),if_neg (by omega)]
   rw [e]
   refine residual_rest_0 a0 b0 (by omega) ?_ (rest r) fun k hk=>?_
   ·have hf:=allM_self ha.fm
    unfold formedM at hf
    rw [if_neg (by omega)] at hf
    split at hf
    ·simp only [Bool.and_eq_true,decide_eq_true_eq] at hf;omega
    ·simp only [Bool.and_eq_true,decide_eq_true_eq] at hf;omega
   ·have h1:=getD_mem hk
    have h2:=getD_mem (l:=b.args) (k:=k) (by omega)
    have:=arg_lt h1
    have:=arg_lt h2
    refine residual_rest_s hrl hsz n _ _ (by omega) (ha.arg h1) (hb.arg h2) ?_
    have e:=congrArg (fun l=>l.getD k default) hm
    have ea:(a.args.map (sideM r ARule.left)).getD k default = sideM r ARule.left (a.args.getD k default):=by simp [List.getD_eq_getElem?_getD,hk]
    have eb:(b.args.map (sideM r ARule.left)).getD k default = sideM r ARule.left (b.args.getD k default):=by simp [List.getD_eq_getElem?_getD,show k < b.args.length by omega]
    rw [← ea,← eb]
    exact e
  ·obtain ⟨q1,q2,q3,q4,q5,q6,q7⟩:=h.left hk
   obtain ⟨s1,s2⟩:=hsz k hk
   have hF:∀ v,v∈vrs r k→PF n_residual_rest [encRs r,encM (f v),encM (g v)] (encM (rest r (f v) (g v))):=fun v hv=>by
    obtain ⟨p1,p2,p3,p4⟩:=hp v hv
    exact residual_rest_s hrl hsz n _ _ (by omega) p1 p2 p3
   rw [rest_fm h hk]
   cases β with
   | true =>
    have:=residual_rest_b hk (by omega) q1 q2 s1 (by omega) q7 α f g (rest r) hF
    rw [zip_map,plugMM_pl] at this
    rw [if_pos rfl]
    have e:pl (ofL (vrs r k) (List.map (fun x=>rest r (f x) (g x)) (vrs r k))) (rgt r k) = pl (fun v=>rest r (f v) (g v)) (rgt r k):=pl_congr _ fun v hv=>ofL_vars _ (q7 v hv)
    rw [e] at this
    exact this
   | false =>
    have hα:α = true:=by simpa using hαβ
    subst hα
    have:=residual_rest_a hk (by omega) q1 q2 s1 f g (rest r) hF
    rw [zip_map] at this
    exact this
end
end Go.Dw
end
section
namespace Go.Dw
theorem okM_same {r:List ARule} {a:AMulti} (ha:OkM r a) (h0:a.rule = 0) {l:List AMulti} (hl:l.length = a.args.length) (h:∀ x∈l,OkM r x):OkM r (.mk 0 a.name a.var l):=by
 refine ⟨?_,?_⟩
 ·rw [allM_eq,Bool.and_eq_true,List.all_eq_true]
  exact ⟨by simp [rangedM,AMulti.rule],fun x hx=>(h x hx).rg⟩
 ·rw [allM_eq,Bool.and_eq_true,List.all_eq_true]
  refine ⟨?_,fun x hx=>(h x hx).fm⟩
  have hf:=allM_self ha.fm
  cases a with
  | mk k n v l0 =>
   have h0:k = 0:=h0
   subst h0
   have hl:l.length = l0.length:=hl
   unfold formedM at hf ⊢
   simp only [AMulti.rule,AMulti.var,AMulti.args,AMulti.name,hl] at hf ⊢
   exact hf
section
variable {r:List ARule} (h:Ortho r)
include h
theorem Ortho.rest_ok:∀ (n:Nat) (a b:AMulti),msize a+msize b≤n→OkM r a→OkM r b→sideM r ARule.left b = sideM r ARule.left a→OkM r (rest r a b)∧sideM r ARule.left (rest r a b) = sideM r ARule.right b
 | 0,a,b,hn,_,_,_=>by have:=msize_pos a;omega
 | n+1,a,b,hn,ha,hb,hs=>by
  rcases h.shapes ha hb hs with ⟨a0,b0,hbe,hm⟩ | ⟨k,α,β,f,g,hk,rfl,rfl,hαβ,hp⟩
  ·have hl:b.args.length = a.args.length:=by have:=congrArg List.length hm;simpa using this
   have e:rest r a b = .mk 0 a.name a.var (List.zipWith (rest r) a.args b.args):=by
    rw [rest_eq,if_neg (by omega),if_neg (by omega)]
   have hi:∀ k,k < a.args.length→OkM r (rest r (a.args.getD k default) (b.args.getD k default))∧sideM r ARule.left (rest r (a.args.getD k default) (b.args.getD k default)) = sideM r ARule.right (b.args.getD k default):=fun k hk=>by
    have h1:=getD_mem hk
    have h2:=getD_mem (l:=b.args) (k:=k) (by omega)
    have:=arg_lt h1
    have:=arg_lt h2
    refine Ortho.rest_ok n _ _ (by omega) (ha.arg h1) (hb.arg h2) ?_
    have e:=congrArg (fun l=>l.getD k default) hm
    have ea:(a.args.map (sideM r ARule.left)).getD k default = sideM r ARule.left (a.args.getD k default):=by simp [List.getD_eq_getElem?_getD,hk]
    have eb:(b.args.map (sideM r ARule.left)).getD k default = sideM r ARule.left (b.args.getD k default):=by simp [List.getD_eq_getElem?_getD,show k < b.args.length by omega]
    rw [← ea,← eb]
    exact e
   have hz:∀ k,k < a.args.length→(List.zipWith (rest r) a.args b.args)[k]? = some (rest r (a.args.getD k default) (b.args.getD k default)):=fun k hk=>by
    have ea:a.args[k]? = some (a.args.getD k default):=by simp [List.getD_eq_getElem?_getD,hk]
    have eb:b.args[k]? = some (b.args.getD k default):=by simp [List.getD_eq_getElem?_getD,show k < b.args.length by omega]
    rw [List.getElem?_zipWith,ea,eb]
   have hzl:(List.zipWith (rest r) a.args b.args).length = a.args.length:=by rw [List.length_zipWith];omega
   rw [e]
   refine ⟨okM_same ha a0 hzl fun x hx=>?_,?_⟩
   ·obtain ⟨k,hk,rfl⟩:=List.getElem_of_mem hx
    have h1:=hz k (by omega)
    rw [List.getElem?_eq_getElem hk] at h1
    injection h1 with h1
    rw [h1];exact (hi k (by omega)).1
   ·rw [sideM_eq,if_pos (show (AMulti.mk 0 a.name a.var (List.zipWith (rest r) a.args b.args)).rule = 0 from rfl),sideM_eq,if_pos b0]
    have en:b.name = a.name:=by have:=congrArg AMulti.name hbe;exact this
    have ev:b.var = a.var:=by have:=congrArg AMulti.var hbe;exact this
    rw [en,ev]
    congr 1
    refine List.ext_getElem? fun k=>?_
    by_cases hk:k < a.args.length
    ·have eb:b.args[k]? = some (b.args.getD k default):=by simp [List.getD_eq_getElem?_getD,show k < b.args.length by omega]
     rw [List.getElem?_map,List.getElem?_map,eb]
     have e2:(AMulti.mk 0 a.name a.var (List.zipWith (rest r) a.args b.args)).args = List.zipWith (rest r) a.args b.args:=rfl
     rw [e2,hz k hk]
     exact congrArg some (hi k hk).2
    ·rw [List.getElem?_eq_none (by rw [List.length_map];show (List.zipWith (rest r) a.args b.args).length≤k;omega),List.getElem?_eq_none (by rw [List.length_map];omega)]
  ·obtain ⟨q1,q2,q3,q4,q5,q6,q7⟩:=h.left hk
   have hi:∀ v∈vrs r k,OkM r (rest r (f v) (g v))∧sideM r ARule.left (rest r (f v) (g v)) = sideM r ARule.right (g v):=fun v hv=>by
    obtain ⟨p1,p2,p3,p4⟩:=hp v hv
    exact Ortho.rest_ok n _ _ (by omega) p1 p2 p3
   rw [rest_fm h hk,h.tgt_fm hk]
   cases β with
   | true =>
    refine ⟨okM_pl _ q5 fun v hv=>(hi v (q7 v hv)).1,?_⟩
    rw [if_pos rfl,if_pos rfl,side_pl]
    exact app_congr _ fun v hv=>(hi v (q7 v hv)).2
   | false =>
    refine ⟨h.ok_fm hk fun v hv=>(hi v hv).1,?_⟩
    have e:=h.src_fm hk (b:=α) (g:=fun v=>rest r (f v) (g v))
    refine e.trans ?_
    rw [if_neg (by simp)]
    exact app_congr _ fun v hv=>(hi v (mem_vrs.2 hv)).2
end
end Go.Dw
end
section
namespace Go.Dw
def sumA (σ:Sub) (L:Term):List Str→Nat
 | []=>0
 | v :: vs=>(if occ v L then size (σ v) else 0)+sumA σ L vs
def sumAs (σ:Sub) (l:List Term):List Str→Nat
 | []=>0
 | v :: vs=>(if occs v l then size (σ v) else 0)+sumAs σ l vs
theorem sumAs_cons (σ:Sub) (a:Term) (l:List Term) (vs:List Str):sumAs σ (a :: l) vs≤sumA σ a vs+sumAs σ l vs:=by
 induction vs with
 | nil=>simp [sumAs,sumA]
 | cons v vs ih =>
  simp only [sumAs,sumA,occs,Bool.or_eq_true]
  by_cases h1:occ v a = true <;> by_cases h2:occs v l = true <;> simp [h1,h2] <;> omega
theorem sumA_var (σ:Sub) (n:Str):∀ vs:List Str,vs.Nodup→sumA σ (.mk n true []) vs≤size (σ n)
 | [],_=>by simp [sumA]
 | v :: vs,h=>by
  obtain ⟨h1,h2⟩:=List.nodup_cons.1 h
  have ih:=sumA_var σ n vs h2
  simp only [sumA]
  by_cases he:n = v
  ·subst he
   have h0:∀ ws:List Str,n ∉ ws→sumA σ (.mk n true []) ws = 0:=by
    intro ws
    induction ws with
    | nil=>intro _;rfl
    | cons w ws ihw =>
     intro hw
     simp only [List.mem_cons,not_or] at hw
     simp only [sumA,ihw hw.2,occ,occs,Bool.or_false,Bool.true_and,decide_eq_true_eq]
     rw [if_neg hw.1]
   rw [h0 vs h1]
   split <;> omega
  ·have:occ v (.mk n true []) = false:=by simp [occ,occs,he]
   rw [this]
   simp only [Bool.false_eq_true,if_false,Nat.zero_add]
   exact ih
mutual
theorem sumA_le (σ:Sub) (vs:List Str) (hn:vs.Nodup):∀ L:Term,vfl L = true→sumA σ L vs≤size (app σ L)∧(L.var = false→sumA σ L vs < size (app σ L))
 | .mk n true l,hs=>by
  have ha:l = []:=(vfl_iff.1 hs).1 rfl
  subst ha
  refine ⟨?_,fun h=>by cases h⟩
  rw [app_eq]
  exact sumA_var σ n vs hn
 | .mk n false l,hs=>by
  have h:=sumAs_le σ vs hn l (vfl_iff.1 hs).2
  have e:∀ ws,sumA σ (.mk n false l) ws = sumAs σ l ws:=by
   intro ws
   induction ws with
   | nil=>rfl
   | cons w ws ih=>simp only [sumA,sumAs,occ,Bool.false_and,Bool.false_or,ih]
  rw [e]
  have hi:size (app σ (.mk n false l)) = 1+sizes (l.map (app σ)):=by
   rw [app_eq];rfl
  rw [hi]
  exact ⟨by omega,fun _=>by omega⟩
theorem sumAs_le (σ:Sub) (vs:List Str) (hn:vs.Nodup):∀ l:List Term,(∀ a∈l,vfl a = true)→sumAs σ l vs≤sizes (l.map (app σ))
 | [],_=>by
  have:∀ ws,sumAs σ [] ws = 0:=by
   intro ws
   induction ws with
   | nil=>rfl
   | cons w ws ih=>simp [sumAs,occs,ih]
  rw [this];exact Nat.zero_le _
 | a :: l,hs=>by
  have h1:=sumAs_cons σ a l vs
  have h2:=(sumA_le σ vs hn a (hs a (by simp))).1
  have h3:=sumAs_le σ vs hn l fun b hb=>hs b (by simp [hb])
  simp only [List.map_cons,sizes];omega
end
theorem sumA_map (f:Sub) (L:Term):∀ vs:List Str,(∀ v∈vs,occ v L = true)→sumA f L vs = sizes (vs.map f)
 | [],_=>rfl
 | v :: vs,h=>by
  simp only [sumA,List.map_cons,sizes]
  rw [if_pos (h v (by simp)),sumA_map f L vs fun w hw=>h w (by simp [hw])]
theorem msizes_map_le {F:AMulti→Term}:∀ {l:List AMulti},(∀ a∈l,msize a≤size (F a))→msizes l≤sizes (l.map F)
 | [],_=>Nat.le_refl _
 | a :: l,h=>by
  have h1:=h a (by simp)
  have h2:=msizes_map_le (l:=l) fun x hx=>h x (by simp [hx])
  simp only [msizes,List.map_cons,sizes]
  omega
theorem Ortho.size_le {r:List ARule} (h:Ortho r):∀ (n:Nat) (m:AMulti),msize m≤n→OkM r m→msize m≤size (sideM r ARule.left m)
 | 0,m,hn,_=>by have:=msize_pos m;omega
 | n+1,m,hn,hm=>by
  have ih:msizes m.args≤sizes (m.args.map (sideM r ARule.left)):=msizes_map_le fun a ha=>h.size_le n a (by have:=arg_lt ha;omega) (hm.arg ha)
  have hsz:=msize_args m
  by_cases h0:0 < m.rule
  ·obtain ⟨k,hk,hkr,hmk,hlen⟩:=rule_is hm h0
   obtain ⟨q1,q2,q3,q4,q5,q6,q7⟩:=h.left hk
   have e:sideM r ARule.left m = app (fun v=>sideM r ARule.left (ofL (vrs r k) m.args v)) (lft r k):=(congrArg (sideM r ARule.left) hmk).trans (side_ru fun v hv=>mem_vrs.2 hv)
   have h1:=(sumA_le (fun v=>sideM r ARule.left (ofL (vrs r k) m.args v)) (vrs r k) (varsOf_nodup _) (lft r k) q2).2 q1
   rw [sumA_map _ _ _ fun v hv=>mem_vrs.1 hv] at h1
   have e2:(vrs r k).map (fun v=>sideM r ARule.left (ofL (vrs r k) m.args v)) = m.args.map (sideM r ARule.left):=by
    have e3:m.args = (vrs r k).map (ofL (vrs r k) m.args):=congrArg AMulti.args hmk
    conv=>rhs;rw [e3]
    rw [List.map_map];rfl
   rw [e2] at h1
   rw [e];omega
  ·have m0:m.rule = 0:=by have:=hm.rule0.1;omega
   rw [sideM_eq,if_pos m0]
   simp only [size]
   omega
end Go.Dw
end
section
namespace Go.Dw
theorem pairE_ok {r:List ARule} {a b:AMulti} (h:pairE r a b = 0):readyE r = 0∧endsE r a = 0∧endsE r b = 0∧srcT r a = srcT r b:=by
 unfold pairE at h
 split at h
 ·rename_i hc;exact absurd h hc
 ·rename_i h1
  split at h
  ·rename_i hc;exact absurd h hc
  ·rename_i h2
   split at h
   ·rename_i hc;exact absurd h hc
   ·rename_i h3
    split at h
    ·rename_i h4
     exact ⟨Classical.not_not.1 h1,Classical.not_not.1 h2,Classical.not_not.1 h3,h4⟩
    ·cases h
theorem pair_good {r:List ARule} {a b:AMulti} (h:pairE r a b = 0):Ortho r∧OkM r a∧OkM r b∧sideM r ARule.left b = sideM r ARule.left a∧fits (sideM r ARule.left a) = true∧fits (sideM r ARule.right b) = true∧fits (sideM r ARule.right a) = true∧r.length≤64∧∀ k,k < r.length→size (lft r k) < 2^38∧size (rgt r k) < 2^38:=by
 obtain ⟨h1,h2,h3,h4⟩:=pairE_ok h
 obtain ⟨a1,a2,a3,a4,a5⟩:=endsE_ok h2
 obtain ⟨b1,b2,b3,b4,b5⟩:=endsE_ok h3
 have hr:=ready_ok h1
 have hg:=good_system hr.2
 refine ⟨ortho_of hr.1,(checkM_ok a1).2.1,(checkM_ok b1).2.1,by rw [← a2,← b2,h4],a4,b5,a5,hg.2,fun k hk=>?_⟩
 have hx:=hg.1 _ (getD_mem hk)
 have:=hx.l.sz
 have:=hx.r.sz
 exact ⟨by unfold lft;omega,by unfold rgt;omega⟩
noncomputable def resV (r:List ARule) (a b:AMulti):V:=if pairE r a b ≠ 0 then encME none (pairE r a b) else fitE (rest r a b)
theorem fitE_ex (m:AMulti):fitE m = encME (if fitM m then some m else none) (if fitM m then 0 else 3):=by unfold fitE;split <;> rfl
theorem residual_Residual_s {r:List ARule} {a b:AMulti} (hr:rbs r < 2^38) (ha:mb a < 2^38) (hb:mb b < 2^38):PF n_residual_Residual [encRs r,encM a,encM b] (resV r a b):=by
 have h0:=residual_both_s hr ha hb
 unfold resV
 refine pf_of residual_Residual.ok rfl ?_
 push_cast
 refine .of h0 ?_
 by_cases hp:pairE r a b = 0
 ·obtain ⟨g1,g2,g3,g4,g5,g6,g7,g8,g9⟩:=pair_good hp
  have h1:=residual_rest_s g1 g8 g9 _ a b (Nat.le_refl _) g2 g3 g4
  have hk:=g1.rest_ok _ a b (Nat.le_refl _) g2 g3 g4
  have h2:=multi_Fit_s (rest r a b) (by
   have:=g1.size_le _ _ (Nat.le_refl _) hk.1
   rw [hk.2] at this
   have:size (sideM r ARule.right b)≤4000:=by
    unfold fits at g6
    simp only [Bool.and_eq_true,decide_eq_true_eq] at g6
    exact g6.1
   omega)
  rw [if_neg (by simp [hp]),fitE_ex]
  rw [fitE_ex] at h2
  push_cast [hp]
  refine .of h1 ?_
  push_cast
  refine .of h2 ?_
  split
  ·push_cast [encME]
   exact pf_ret (by push_cast [residual_Residual.rs])
  ·push_cast [encME]
   exact pf_ret (by push_cast [residual_Residual.rs])
 ·rw [if_pos hp]
  push_cast [hp]
  exact pf_ret (by push_cast [residual_Residual.rs,encME];rfl)
end Go.Dw
end
section
namespace Go.Dw
theorem zip3_ext {F:AMulti→AMulti→AMulti}:∀ {l m o:List AMulti},m.length = l.length→o.length = l.length→(∀ k,k < l.length→F (F (l.getD k default) (m.getD k default)) (F (o.getD k default) (m.getD k default)) = F (F (l.getD k default) (o.getD k default)) (F (m.getD k default) (o.getD k default)))→List.zipWith F (List.zipWith F l m) (List.zipWith F o m) = List.zipWith F (List.zipWith F l o) (List.zipWith F m o)
 | [],_,_,_,_,_=>by simp
 | _ :: _,[],_,hl,_,_=>by simp at hl
 | _ :: _,_ :: _,[],_,hl,_=>by simp at hl
 | a :: l,b :: m,c :: o,hl,hl2,h=>by
  have h0:F (F a b) (F c b) = F (F a c) (F b c):=h 0 (by simp)
  have ih:=zip3_ext (F:=F) (l:=l) (m:=m) (o:=o) (by simpa using hl) (by simpa using hl2) fun k hk=>h (k+1) (by simpa using hk)
  simp only [List.zipWith_cons_cons]
  rw [ih,h0]
theorem map_get {α β:Type} [Inhabited α] [Inhabited β] {F:α→β} {l m:List α} (h:l.map F = m.map F) {k:Nat} (hk:k < m.length):F (l.getD k default) = F (m.getD k default):=by
 have hl:l.length = m.length:=by have:=congrArg List.length h;simpa using this
 have e:=congrArg (fun l=>l.getD k default) h
 have ea:(l.map F).getD k default = F (l.getD k default):=by simp [List.getD_eq_getElem?_getD,show k < l.length by omega]
 have eb:(m.map F).getD k default = F (m.getD k default):=by simp [List.getD_eq_getElem?_getD,hk]
 rw [← ea,← eb];exact e
end Go.Dw
end
section
namespace Go.Dw
section
variable {r:List ARule} (h:Ortho r)
include h
theorem Ortho.shapes3 {a b c:AMulti} (ha:OkM r a) (hb:OkM r b) (hc:OkM r c) (hab:sideM r ARule.left b = sideM r ARule.left a) (hac:sideM r ARule.left c = sideM r ARule.left a) :
  (a.rule = 0∧b.rule = 0∧c.rule = 0) ∨
  ∃ (k:Nat) (α β γ:Bool) (f g e:MSub),k < r.length∧a = fm r k α f∧b = fm r k β g∧c = fm r k γ e∧(α = true ∨ β = true ∨ γ = true) ∧
   ∀ v∈vrs r k,OkM r (f v)∧OkM r (g v)∧OkM r (e v)∧sideM r ARule.left (g v) = sideM r ARule.left (f v)∧sideM r ARule.left (e v) = sideM r ARule.left (f v)∧msize (f v)+msize (g v)+msize (e v) < msize a+msize b+msize c:=by
 by_cases h0:0 < a.rule
 ·obtain ⟨k,hk,hkr,hak,hlen⟩:=rule_is ha h0
  obtain ⟨β,g,h1,_,h3⟩:=h.form ha hb hk hak hab
  obtain ⟨γ,e,h4,_,h6⟩:=h.form ha hc hk hak hac
  refine .inr ⟨k,true,β,γ,_,g,e,hk,hak,h1,h4,.inl rfl,fun v hv=>?_⟩
  have hm:=ofL_mem hlen hv
  obtain ⟨q1,q2,q3⟩:=h3 v hv
  obtain ⟨t1,t2,t3⟩:=h6 v hv
  have:=arg_lt hm
  exact ⟨ha.arg hm,q1,t1,q2,t2,by omega⟩
 ·have ha0:a.rule = 0:=by have:=ha.rule0.1;omega
  by_cases h1:0 < b.rule
  ·obtain ⟨k,hk,hkr,hbk,hlen⟩:=rule_is hb h1
   obtain ⟨α,f,h1,_,h3⟩:=h.form hb ha hk hbk hab.symm
   obtain ⟨γ,e,h4,_,h6⟩:=h.form hb hc hk hbk (hac.trans hab.symm)
   refine .inr ⟨k,α,true,γ,f,_,e,hk,h1,hbk,h4,.inr (.inl rfl),fun v hv=>?_⟩
   have hm:=ofL_mem hlen hv
   obtain ⟨q1,q2,q3⟩:=h3 v hv
   obtain ⟨t1,t2,t3⟩:=h6 v hv
   have:=arg_lt hm
   exact ⟨q1,hb.arg hm,t1,q2.symm,t2.trans q2.symm,by omega⟩
  ·have hb0:b.rule = 0:=by have:=hb.rule0.1;omega
   by_cases h2:0 < c.rule
   ·obtain ⟨k,hk,hkr,hck,hlen⟩:=rule_is hc h2
    obtain ⟨α,f,h1,_,h3⟩:=h.form hc ha hk hck hac.symm
    obtain ⟨β,g,h4,_,h6⟩:=h.form hc hb hk hck (hab.trans hac.symm)
    refine .inr ⟨k,α,β,true,f,g,_,hk,h1,h4,hck,.inr (.inr rfl),fun v hv=>?_⟩
    have hm:=ofL_mem hlen hv
    obtain ⟨q1,q2,q3⟩:=h3 v hv
    obtain ⟨t1,t2,t3⟩:=h6 v hv
    have:=arg_lt hm
    exact ⟨q1,t1,hc.arg hm,t2.trans q2.symm,q2.symm,by omega⟩
   ·exact .inl ⟨ha0,hb0,by have:=hc.rule0.1;omega⟩
omit h in
theorem restN {r:List ARule} {a b:AMulti} (ha:a.rule = 0) (hb:b.rule = 0):rest r a b = .mk 0 a.name a.var (List.zipWith (rest r) a.args b.args):=by
 rw [rest_eq,if_neg (by omega),if_neg (by omega)]
omit h in
theorem restN2 {r:List ARule} {n n':Str} {v v':Bool} {l m:List AMulti}:rest r (.mk 0 n v l) (.mk 0 n' v' m) = .mk 0 n v (List.zipWith (rest r) l m):=restN rfl rfl
omit h in
theorem nodeA {r:List ARule} {a b:AMulti} (ha:a.rule = 0) (hb:b.rule = 0) (hs:sideM r ARule.left b = sideM r ARule.left a):b.args.map (sideM r ARule.left) = a.args.map (sideM r ARule.left):=(node_form ha hb hs).2
theorem Ortho.cube:∀ (n:Nat) (a b c:AMulti),msize a+msize b+msize c≤n→OkM r a→OkM r b→OkM r c→sideM r ARule.left b = sideM r ARule.left a→sideM r ARule.left c = sideM r ARule.left a →
  rest r (rest r a b) (rest r c b) = rest r (rest r a c) (rest r b c)
 | 0,a,b,c,hn,_,_,_,_,_=>by have:=msize_pos a;omega
 | n+1,a,b,c,hn,ha,hb,hc,hab,hac=>by
  rcases h.shapes3 ha hb hc hab hac with ⟨a0,b0,c0⟩ | ⟨k,α,β,γ,f,g,e,hk,rfl,rfl,rfl,hαβ,hp⟩
  ·have hm:=nodeA a0 b0 hab
   have hm2:=nodeA a0 c0 hac
   have hl:b.args.length = a.args.length:=by have:=congrArg List.length hm;simpa using this
   have hl2:c.args.length = a.args.length:=by have:=congrArg List.length hm2;simpa using this
   have hi:∀ k,k < a.args.length→_:=fun k hk=>by
    have h1:=getD_mem hk
    have h2:=getD_mem (l:=b.args) (k:=k) (by omega)
    have h3:=getD_mem (l:=c.args) (k:=k) (by omega)
    have:=arg_lt h1
    have:=arg_lt h2
    have:=arg_lt h3
    exact Ortho.cube n (a.args.getD k default) (b.args.getD k default) (c.args.getD k default) (by omega) (ha.arg h1) (hb.arg h2) (hc.arg h3) (map_get hm hk) (map_get hm2 hk)
   rw [restN a0 b0,restN c0 b0,restN a0 c0,restN b0 c0,restN2,restN2,zip3_ext hl hl2 hi]
  ·obtain ⟨q1,q2,q3,q4,q5,q6,q7⟩:=h.left hk
   have hi:∀ v∈vrs r k,_:=fun v hv=>by
    obtain ⟨p1,p2,p3,p4,p5,p6⟩:=hp v hv
    exact Ortho.cube n (f v) (g v) (e v) (by omega) p1 p2 p3 p4 p5
   rw [rest_fm h hk,rest_fm h hk,rest_fm h hk,rest_fm h hk]
   cases β <;> cases γ <;> simp only [Bool.false_eq_true,if_true,if_false]
   ·have hα:α = true:=by simpa using hαβ
    subst hα
    rw [rest_fm h hk,rest_fm h hk]
    simp only [Bool.false_eq_true,if_false]
    exact fm_congr hi
   ·rw [rest_fm h hk,rest_pl]
    simp only [if_true]
    exact pl_congr _ fun v hv=>hi v (q7 v hv)
   ·rw [rest_fm h hk,rest_pl]
    simp only [if_true]
    exact pl_congr _ fun v hv=>hi v (q7 v hv)
   ·rw [rest_pl,rest_pl]
    exact pl_congr _ fun v hv=>hi v (q7 v hv)
end
end Go.Dw
end
section
namespace Go.Dw
theorem ok_mb {r:List ARule} (m:AMulti):OkM r m→mb m≤25 * msize m:=by
 induction m using multi_ind with
 | h m ih =>
 intro hm
 have h1:=mb_args m
 have h2:=msize_args m
 have h3:∀ l:List AMulti,(∀ a∈l,a∈m.args)→mbs l≤25 * msizes l:=by
  intro l
  induction l with
  | nil=>intro _;simp [mbs,msizes]
  | cons a l ihl =>
   intro hl
   have:=ih a (hl a (by simp)) (hm.arg (hl a (by simp)))
   have:=ihl fun x hx=>hl x (by simp [hx])
   simp only [mbs,msizes];omega
 have h4:=h3 m.args fun a ha=>ha
 have h5:m.name.length≤24:=by
  have hf:=allM_self hm.fm
  unfold formedM at hf
  split at hf
  ·rw [Bool.and_eq_true,decide_eq_true_eq] at hf
   rw [hf.1];simp
  ·split at hf
   ·simp only [Bool.and_eq_true,isName,decide_eq_true_eq] at hf;exact hf.2.1
   ·simp only [Bool.and_eq_true,isName,decide_eq_true_eq] at hf;exact hf.2.1
 omega
noncomputable def resP (r:List ARule) (a b:AMulti):AMulti × Int:=if pairE r a b ≠ 0 then (zM,pairE r a b) else if fitM (rest r a b) = true then (rest r a b,0) else (zM,3)
theorem resV_P (r:List ARule) (a b:AMulti):resV r a b = .tup [encM (resP r a b).1,.int .i64 (resP r a b).2]:=by
 unfold resV resP fitE
 split
 ·rfl
 ·split <;> rfl
theorem resP_ok {r:List ARule} {a b:AMulti} (h:(resP r a b).2 = 0):pairE r a b = 0∧fitM (rest r a b) = true∧(resP r a b).1 = rest r a b:=by
 unfold resP at h ⊢
 split at h
 ·rename_i hc;exact absurd h hc
 ·rename_i hc
  rw [if_neg hc]
  split at h
  ·rename_i h2;rw [if_pos h2];exact ⟨Classical.not_not.1 hc,h2,rfl⟩
  ·cases h
theorem fitM_le {m:AMulti} (h:fitM m = true):msize m≤4000∧mdepth m≤200:=by
 unfold fitM at h
 simpa using h
theorem endM_of {r:List ARule} {m:AMulti} {f:ARule→Term} (h:checkM r m = 0):endM r f m = if fits (sideM r f m) = true then (some (sideM r f m),0) else (none,3):=by
 unfold endM;rw [if_neg (by simpa using h)]
theorem ends_of {r:List ARule} {m:AMulti} (h:checkM r m = 0) (hs:fits (sideM r ARule.left m) = true):(endsE r m = 0 ∨ endsE r m = 3)∧srcT r m = sideM r ARule.left m:=by
 unfold endsE srcT
 rw [endM_of h,if_pos hs]
 refine ⟨?_,rfl⟩
 simp only [ne_eq,not_true_eq_false,if_false]
 rw [endM_of h]
 split
 ·exact .inl rfl
 ·exact .inr rfl
theorem res_good {r:List ARule} {a b:AMulti} (h:(resP r a b).2 = 0):(resP r a b).1 = rest r a b∧checkM r (rest r a b) = 0∧OkM r (rest r a b)∧sideM r ARule.left (rest r a b) = sideM r ARule.right b∧fits (sideM r ARule.right b) = true∧mb (rest r a b) < 2^28:=by
 obtain ⟨h1,h2,h3⟩:=resP_ok h
 obtain ⟨g1,g2,g3,g4,g5,g6,g7,g8,g9⟩:=pair_good h1
 obtain ⟨k1,k2⟩:=g1.rest_ok _ a b (Nat.le_refl _) g2 g3 g4
 obtain ⟨k3,k4⟩:=fitM_le h2
 have:=ok_mb _ k1
 exact ⟨h3,checkM_iff.2 ⟨g1.sys,k1,k3,k4⟩,k1,k2,g6,by omega⟩
theorem pair_res {r:List ARule} {a b c:AMulti} (h:(resP r a b).2 = 0) (h2:(resP r c b).2 = 0):pairE r (rest r a b) (rest r c b) = 0 ∨ pairE r (rest r a b) (rest r c b) = 3:=by
 obtain ⟨a1,a2,a3,a4,a5,a6⟩:=res_good h
 obtain ⟨c1,c2,c3,c4,c5,c6⟩:=res_good h2
 obtain ⟨p1,p2⟩:=ends_of a2 (a4 ▸ a5)
 obtain ⟨q1,q2⟩:=ends_of c2 (c4 ▸ c5)
 have hr:=(pairE_ok (resP_ok h).1).1
 unfold pairE
 rw [if_neg (by simpa using hr)]
 rcases p1 with p1 | p1
 ·rw [if_neg (by simpa using p1)]
  rcases q1 with q1 | q1
  ·rw [if_neg (by simpa using q1),if_pos (by rw [p2,q2,a4,c4])];exact .inl rfl
  ·rw [if_pos (by rw [q1];decide)];exact .inr q1
 ·rw [if_pos (by rw [p1];decide)];exact .inr p1
theorem resP_two {r:List ARule} {a b:AMulti} (h:pairE r a b = 0 ∨ pairE r a b = 3):(resP r a b).2 = 3 ∨ ((resP r a b).2 = 0∧(resP r a b).1 = rest r a b):=by
 unfold resP
 rcases h with h | h
 ·rw [if_neg (by simpa using h)]
  split
  ·exact .inr ⟨rfl,rfl⟩
  ·exact .inl rfl
 ·rw [if_pos (by rw [h];decide)];exact .inl h
theorem cube_law {r:List ARule} {a b c:AMulti} (h1:(resP r a b).2 = 0) (h2:(resP r c b).2 = 0) (h3:(resP r a c).2 = 0) (h4:(resP r b c).2 = 0) :
  (resP r (resP r a b).1 (resP r c b).1).2 = 3 ∨ (resP r (resP r a c).1 (resP r b c).1).2 = 3 ∨
   ((resP r (resP r a b).1 (resP r c b).1).2 = 0∧(resP r (resP r a c).1 (resP r b c).1).2 = 0∧(resP r (resP r a b).1 (resP r c b).1).1 = (resP r (resP r a c).1 (resP r b c).1).1):=by
 rw [(res_good h1).1,(res_good h2).1,(res_good h3).1,(res_good h4).1]
 obtain ⟨g1,g2,g3,g4,_⟩:=pair_good (resP_ok h1).1
 obtain ⟨_,_,g5,g6,_⟩:=pair_good (resP_ok h3).1
 rcases resP_two (pair_res h1 h2) with e | ⟨e,e1⟩
 ·exact .inl e
 ·rcases resP_two (pair_res h3 h4) with f | ⟨f,f1⟩
  ·exact .inr (.inl f)
  ·exact .inr (.inr ⟨e,f,by rw [e1,f1];exact g1.cube _ a b c (Nat.le_refl _) g2 g3 g5 g4 g6⟩)
end Go.Dw
end
section
namespace Go.Dw
theorem ResidualCube_s (hal:PF n_l18_alive [] (.bool true)) {r:List ARule} {a b c:AMulti} (hr:rbs r < 2^28) (ha:mb a < 2^28) (hb:mb b < 2^28) (hc:mb c < 2^28) :
  SpecE prog n_l18_ResidualCube [encRs r,encM a,encM b,encM c] [] (fun x' H'=>x' = .bool true∧H' = []):=by
 have h1:=residual_Residual_s (r:=r) (a:=a) (b:=b) (by omega) (by omega) (by omega)
 have h2:=residual_Residual_s (r:=r) (a:=c) (b:=b) (by omega) (by omega) (by omega)
 have h3:=residual_Residual_s (r:=r) (a:=a) (b:=c) (by omega) (by omega) (by omega)
 have h4:=residual_Residual_s (r:=r) (a:=b) (b:=c) (by omega) (by omega) (by omega)
 rw [resV_P] at h1 h2 h3 h4
 refine spece_of_run mixed l18_ResidualCube.ok rfl ?_
 push_cast
 refine .of h1 ?_
 push_cast
 refine .of h2 ?_
 push_cast
 refine .of h3 ?_
 push_cast
 refine .of h4 ?_
 by_cases c1:(resP r a b).2 = 0
 ·by_cases c2:(resP r c b).2 = 0
  ·by_cases c3:(resP r a c).2 = 0
   ·by_cases c4:(resP r b c).2 = 0
    ·have m1:mb (resP r a b).1 < 2^28:=by rw [(res_good c1).1];exact (res_good c1).2.2.2.2.2
     have m2:mb (resP r c b).1 < 2^28:=by rw [(res_good c2).1];exact (res_good c2).2.2.2.2.2
     have m3:mb (resP r a c).1 < 2^28:=by rw [(res_good c3).1];exact (res_good c3).2.2.2.2.2
     have m4:mb (resP r b c).1 < 2^28:=by rw [(res_good c4).1];exact (res_good c4).2.2.2.2.2
     have h5:=residual_Residual_s (r:=r) (a:=(resP r a b).1) (b:=(resP r c b).1) (by omega) (by omega) (by omega)
     have h6:=residual_Residual_s (r:=r) (a:=(resP r a c).1) (b:=(resP r b c).1) (by omega) (by omega) (by omega)
     rw [resV_P] at h5 h6
     push_cast [c1,c2,c3,c4]
     refine .of h5 ?_
     push_cast
     refine .of h6 ?_
     have hl:=cube_law c1 c2 c3 c4
     have hz:(resP r (resP r a b).1 (resP r c b).1).2 = 0→msize (resP r (resP r a b).1 (resP r c b).1).1 < 2^40:=fun h=>by
      have:=(fitM_le (resP_ok h).2.1).1
      rw [(resP_ok h).2.2];omega
     generalize resP r (resP r a b).1 (resP r c b).1 = A at *
     generalize resP r (resP r a c).1 (resP r b c).1 = B at *
     obtain ⟨x,i⟩:=A
     obtain ⟨y,j⟩:=B
     simp only at hl hz ⊢
     by_cases k1:i = 3
     ·subst k1
      push_cast
      refine .of hal ?_
      push_cast
      exact pf_ret (by push_cast [l18_ResidualCube.rs])
     ·by_cases k2:j = 3
      ·subst k2
       push_cast [eq_false k1]
       refine .of hal ?_
       push_cast
       exact pf_ret (by push_cast [l18_ResidualCube.rs])
      ·obtain ⟨rfl,rfl,rfl⟩:=(hl.resolve_left k1).resolve_left k2
       push_cast
       refine .of (r17_Same_self x (hz rfl)) ?_
       push_cast
       refine .of hal ?_
       push_cast
       exact pf_ret (by push_cast [l18_ResidualCube.rs])
    ·push_cast [c1,c2,c3,eq_false c4]
     refine .of hal ?_
     push_cast
     exact pf_ret (by push_cast [l18_ResidualCube.rs])
   ·push_cast [c1,c2,eq_false c3]
    refine .of hal ?_
    push_cast
    exact pf_ret (by push_cast [l18_ResidualCube.rs])
  ·push_cast [c1,eq_false c2]
   refine .of hal ?_
   push_cast
   exact pf_ret (by push_cast [l18_ResidualCube.rs])
 ·push_cast [eq_false c1]
  refine .of hal ?_
  push_cast
  exact pf_ret (by push_cast [l18_ResidualCube.rs])
end Go.Dw
end
section
namespace Go.Dw
theorem unif_clash {a b:Term} (ha:a.var = false) (hb:b.var = false) (hn:a.name ≠ b.name):unif1 a b = ([],false,0):=by
 have h:solvesW (solveN 1) [] [a] [b] = some ([],false):=by
  simp only [solvesW,solveN,headN,ha,hb,Bool.false_eq_true,if_false]
  rw [if_pos (.inl hn)]
 unfold unif1 unifE
 rw [solveS_eq h,if_pos rfl]
theorem overE_clash {a b:ARule} {pos:List Int} {sub:Term} (h1:sub.var = false) (h2:b.left.var = false) (h3:sub.name ≠ b.left.name):overE a b pos sub = (false,0):=by
 unfold overE;rw [unif_clash h1 h2 h3,if_pos rfl]
theorem stepJ_no {r:List ARule} {i j:Nat} {a:ARule} {pos:List Int} {sub:Term} (h:overE a (renQ [121] (r.getD j default)) pos sub = (false,0)):stepJ r i a pos sub [] j = ([],0):=by
 unfold stepJ
 split
 ·rfl
 ·rw [h];rfl
theorem stepJ_self {r:List ARule} {i:Nat} {a:ARule} {sub:Term}:stepJ r i a [] sub [] i = ([],0):=by
 unfold stepJ
 rw [if_pos ⟨rfl,rfl⟩]
def vX8:Term:=.mk [120] true []
def tA8:Term:=.mk [97] false []
def tB8:Term:=.mk [98] false []
def ex18:List ARule:=[⟨.mk [102] false [vX8],.mk [103] false [vX8,vX8]⟩,⟨tA8,tB8⟩]
def mA8:AMulti:=.mk 0 [97] false []
def mB8:AMulti:=.mk 2 [] false []
def exA:AMulti:=.mk 1 [] false [mA8]
def exB:AMulti:=.mk 0 [102] false [mB8]
theorem ren_f (pre:Str):∃ w,(renQ pre (ex18.getD 0 default)).left = .mk [102] false [.mk w true []]:=⟨_,rfl⟩
theorem ren_a (pre:Str):(renQ pre (ex18.getD 1 default)).left = .mk [97] false []:=rfl
theorem range_ex:List.range ex18.length = [0,1]:=rfl
theorem step_0:stepI ex18 [] 0 = ([],0):=by
 unfold stepI
 obtain ⟨w,hw⟩:=ren_f [120]
 rw [hw]
 have hv:visit (.mk [102] false [.mk w true []]) [] = [([],.mk [102] false [.mk w true []]),([0],.mk w true [])]:=rfl
 rw [hv]
 have h1:stepV ex18 0 (renQ [120] (ex18.getD 0 default)) [] ([],.mk [102] false [.mk w true []]) = ([],0):=by
  unfold stepV
  rw [if_neg (by simp [Term.var]),range_ex]
  have e:stepJ ex18 0 (renQ [120] (ex18.getD 0 default)) [] (.mk [102] false [.mk w true []]) [] 1 = ([],0):=stepJ_no (overE_clash rfl (by rw [ren_a];rfl) (by rw [ren_a];show ([102]:Str) ≠ [97];decide))
  rw [scanE_ok stepJ_self,scanE_ok e];rfl
 have h2:stepV ex18 0 (renQ [120] (ex18.getD 0 default)) [] ([0],.mk w true []) = ([],0):=by
  unfold stepV
  exact if_pos rfl
 rw [scanE_ok h1,scanE_ok h2];rfl
theorem step_1:stepI ex18 [] 1 = ([],0):=by
 unfold stepI
 rw [ren_a]
 have hv:visit (.mk [97] false []) [] = [([],.mk [97] false [])]:=rfl
 rw [hv]
 have h1:stepV ex18 1 (renQ [120] (ex18.getD 1 default)) [] ([],.mk [97] false []) = ([],0):=by
  unfold stepV
  rw [if_neg (by simp [Term.var]),range_ex]
  obtain ⟨w,hw⟩:=ren_f [121]
  have e:stepJ ex18 1 (renQ [120] (ex18.getD 1 default)) [] (.mk [97] false []) [] 0 = ([],0):=stepJ_no (overE_clash rfl (by rw [hw];rfl) (by rw [hw];show ([97]:Str) ≠ [102];decide))
  rw [scanE_ok e,scanE_ok stepJ_self];rfl
 rw [scanE_ok h1];rfl
theorem all_ex:allO ex18 = ([],0):=by
 unfold allO
 rw [range_ex,scanE_ok step_0,scanE_ok step_1];rfl
theorem sys_ex:checkSystem ex18 = 0:=by decide +kernel
theorem ortho_ex:orthoE ex18 = (true,0):=by
 unfold orthoE
 rw [if_neg (by rw [sys_ex];simp),all_ex,if_neg (by simp)]
 have:(ex18.all fun x=>linB x.left) = true:=by decide +kernel
 rw [this];rfl
theorem ready_ex:readyE ex18 = 0:=by
 unfold readyE
 rw [ortho_ex];rfl
theorem or_ex:Ortho ex18:=ortho_of ortho_ex
theorem vars_0:vrs ex18 0 = [[120]]:=by
 unfold vrs lft varsOf
 have:vsetT [] [(ex18.getD 0 default).left] = [[120]]:=by decide
 rw [this]
 unfold Proofs.sortS
 exact List.mergeSort_of_pairwise (by decide)
theorem vars_1:vrs ex18 1 = []:=by
 unfold vrs lft varsOf
 have:vsetT [] [(ex18.getD 1 default).left] = []:=by decide
 rw [this]
 unfold Proofs.sortS
 exact List.mergeSort_of_pairwise (by decide)
theorem exA_is:exA = fm ex18 0 true fun _=>mA8:=by
 show exA = ru ex18 0 _
 unfold ru;rw [vars_0];rfl
theorem exB_is:exB = fm ex18 0 false fun _=>mB8:=rfl
theorem mA_is:mA8 = fm ex18 1 false fun _=>zM:=rfl
theorem mB_is:mB8 = fm ex18 1 true fun _=>zM:=by
 show mB8 = ru ex18 1 _
 unfold ru;rw [vars_1];rfl
theorem rest_AB:rest ex18 mA8 mB8 = .mk 0 [98] false []:=by
 rw [mA_is,mB_is,rest_fm or_ex (by decide),if_pos rfl];rfl
theorem rest_BA:rest ex18 mB8 mA8 = mB8:=by
 conv=>lhs;rw [mA_is,mB_is,rest_fm or_ex (by decide),if_neg (by simp)]
 show ru ex18 1 _ = _
 unfold ru;rw [vars_1];rfl
theorem rest_1:rest ex18 exA exB = .mk 1 [] false [.mk 0 [98] false []]:=by
 rw [exA_is,exB_is,rest_fm or_ex (by decide),if_neg (by simp)]
 show ru ex18 0 _ = _
 unfold ru;rw [vars_0,List.map_singleton,rest_AB];rfl
theorem rest_2:rest ex18 exB exA = .mk 0 [103] false [mB8,mB8]:=by
 rw [exA_is,exB_is,rest_fm or_ex (by decide),if_pos rfl,rest_BA];rfl
theorem end_A:endsE ex18 exA = 0∧endsE ex18 exB = 0∧srcT ex18 exA = srcT ex18 exB:=by decide +kernel
theorem res_1:resP ex18 exA exB = (.mk 1 [] false [.mk 0 [98] false []],0):=by
 unfold resP pairE
 rw [ready_ex,end_A.1,end_A.2.1,end_A.2.2,if_neg (by simp),rest_1];rfl
theorem res_2:resP ex18 exB exA = (.mk 0 [103] false [mB8,mB8],0):=by
 unfold resP pairE
 rw [ready_ex,end_A.1,end_A.2.1,end_A.2.2,if_neg (by simp),rest_2];rfl
theorem l18_system_s:PF n_l18_system [] (encRs ex18):=by
 refine pf_of l18_system.ok rfl ?_
 push_cast
 exact pf_ret (by push_cast [l18_system.rs];rfl)
theorem alive18:PF n_l18_alive [] (.bool true):=by
 have h1:=residual_Residual_s (r:=ex18) (a:=exA) (b:=exB) (by decide) (by decide) (by decide)
 have h2:=residual_Residual_s (r:=ex18) (a:=exB) (b:=exA) (by decide) (by decide) (by decide)
 rw [resV_P,res_1] at h1
 rw [resV_P,res_2] at h2
 refine pf_of l18_alive.ok rfl ?_
 push_cast
 refine .of l18_system_s ?_
 push_cast
 refine .of h1 ?_
 push_cast
 refine .of l18_system_s ?_
 push_cast
 refine .of h2 ?_
 push_cast
 refine .of (r17_Same_self _ (by decide)) ?_
 push_cast
 refine .of (r17_Same_self _ (by decide)) ?_
 push_cast
 exact pf_ret (by push_cast [l18_alive.rs])
end Go.Dw
end
