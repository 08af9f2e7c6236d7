/-
  Contracts and lemmas for ResidualTriangle: part g of 9.
-/
import Derived.Test.YtkdcfkfdkimaeaaGreatDoorTaf
import Derived.Test.YtkdcfkfdkimaeaaGreatDoorTae
import Derived.WalkKit
import Derived.Laws.MathBits
import Derived.Test.YtkdcfkfdkimaeaaGreatDoorTad
set_option linter.unusedVariables false
set_option linter.unusedSimpArgs false
set_option maxRecDepth 100000
section
namespace Go.Dw
def posS:List Str→Str→Option Nat
 | [],_=>none
 | x :: l,v=>if x = v then some 0 else (posS l v).map (·+1)
theorem posS_none {l:List Str} {v:Str}:posS l v = none ↔ v ∉ l:=by
 induction l with
 | nil=>simp [posS]
 | cons x l ih =>
  simp only [posS]
  by_cases h:x = v
  ·simp [h]
  ·have h':v ≠ x:=fun e=>h e.symm
   rw [if_neg h];simp [ih,h']
theorem posS_app {l m:List Str} {v:Str} (h:v∈l):posS (l++m) v = posS l v:=by
 induction l with
 | nil=>cases h
 | cons x l ih =>
  simp only [List.cons_append,posS]
  by_cases e:x = v
  ·rw [if_pos e,if_pos e]
  ·rw [if_neg e,if_neg e]
   rcases List.mem_cons.1 h with h | h
   ·exact absurd h.symm e
   ·rw [ih h]
theorem posS_snoc {l:List Str} {v:Str} (h:v ∉ l):posS (l++[v]) v = some l.length:=by
 induction l with
 | nil=>simp [posS]
 | cons x l ih =>
  simp only [List.mem_cons,not_or] at h
  simp only [List.cons_append,posS]
  rw [if_neg (fun e=>h.1 e.symm),ih h.2];rfl
def nmAt (pre:Str):Nat→List Str→NM
 | _,[]=>[]
 | i,v :: l=>(v,pre++dig i) :: nmAt pre (i+1) l
abbrev nmOf (pre:Str) (l:List Str):NM:=nmAt pre 0 l
theorem nmAt_len (pre:Str):∀ (l:List Str) (i:Nat),(nmAt pre i l).length = l.length
 | [],_=>rfl
 | v :: l,i=>by simp [nmAt,nmAt_len pre l]
theorem getK_nmAt (pre:Str) (v:Str):∀ (l:List Str) (i:Nat),getK (nmAt pre i l) v = (posS l v).map fun j=>pre++dig (i+j)
 | [],i=>rfl
 | x :: l,i=>by
  simp only [nmAt,getK,posS]
  by_cases h:x = v
  ·rw [if_pos h,if_pos h];rfl
  ·rw [if_neg h,if_neg h,getK_nmAt pre v l (i+1)]
   cases posS l v with
   | none=>rfl
   | some j=>simp only [Option.map_some];rw [show i+1+j = i+(j+1) by omega]
theorem nmAt_snoc (pre:Str) (v:Str):∀ (l:List Str) (i:Nat),nmAt pre i (l++[v]) = nmAt pre i l++[(v,pre++dig (i+l.length))]
 | [],i=>rfl
 | x :: l,i=>by
  simp only [List.cons_append,nmAt,nmAt_snoc pre v l (i+1),List.length_cons]
  rw [show i+1+l.length = i+(l.length+1) by omega]
def rho (pre:Str) (l:List Str):Sub:=fun v=>varT (match posS l v with | some j=>pre++dig j | none=>v)
theorem nameF_nm {pre:Str} (hp:pre ≠ []) (l:List Str) (v:Str):nameF pre (nmOf pre l) v = (nmOf pre (if v∈l then l else l++[v]),(match posS (if v∈l then l else l++[v]) v with | some j=>pre++dig j | none=>v)):=by
 unfold nameF
 rw [getK_nmAt]
 by_cases h:v∈l
 ·rw [if_pos h]
  cases hq:posS l v with
  | none=>exact absurd h (posS_none.1 hq)
  | some j =>
   have hne:pre++dig (0+j) ≠ []:=fun e=>hp (List.append_eq_nil_iff.1 e).1
   simp only [Option.map_some,Option.getD_some]
   rw [if_neg hne,Nat.zero_add]
 ·rw [if_neg h]
  have hq:=posS_none.2 h
  rw [hq]
  simp only [Option.map_none,Option.getD_none,if_true]
  rw [posS_snoc h]
  have hk:getK (nmOf pre l) v = none:=by rw [getK_nmAt,hq];rfl
  rw [setK_new hk,nmAt_len]
  have e:nmOf pre (l++[v]) = nmOf pre l++[(v,pre++dig l.length)]:=by
   have e:=nmAt_snoc pre v l 0
   rw [Nat.zero_add] at e
   exact e
  rw [e]
def Stands (l:List Str) (t:Term):Prop:=∀ v,occ v t = true→v∈l
theorem firstT_pre (t:Term):∀ l:List Str,(∃ m,firstT l t = l++m)∧(vfl t = true→Stands (firstT l t) t):=by
 induction t using term_ind with
 | h t ih =>
 intro l
 rw [firstT_eq]
 cases hv:t.var with
 | true =>
  rw [if_pos rfl]
  refine ⟨?_,fun ht v ho=>?_⟩
  ·split
   ·exact ⟨[],by simp⟩
   ·exact ⟨_,rfl⟩
  ·have e:=(occ_var ht hv).1 ho
   subst e
   split
   ·assumption
   ·simp
 | false =>
  rw [if_neg (by simp)]
  have key:∀ (ar:List Term) (l:List Str),(∀ a∈ar,a∈t.args)→(∃ m,firstTs l ar = l++m)∧((∀ a∈ar,vfl a = true)→∀ a∈ar,Stands (firstTs l ar) a):=by
   intro ar
   induction ar with
   | nil=>intro l _;exact ⟨⟨[],by simp [firstTs]⟩,by simp⟩
   | cons a ar ihl =>
    intro l hl
    obtain ⟨⟨m1,h1⟩,h2⟩:=ih a (hl a (by simp)) l
    obtain ⟨⟨m2,h3⟩,h4⟩:=ihl (firstT l a) fun b hb=>hl b (by simp [hb])
    simp only [firstTs]
    refine ⟨⟨m1++m2,by rw [h3,h1,List.append_assoc]⟩,fun hvf b hb=>?_⟩
    rcases List.mem_cons.1 hb with rfl | hb
    ·intro v ho
     have:=h2 (hvf _ (by simp)) v ho
     rw [h3];exact List.mem_append_left _ this
    ·exact h4 (fun c hc=>hvf c (by simp [hc])) b hb
  obtain ⟨h1,h2⟩:=key t.args l fun _ h=>h
  refine ⟨h1,fun ht v ho=>?_⟩
  obtain ⟨a,ha,ho⟩:=(occ_fun hv).1 ho
  exact h2 (fun a ha=>vfl_arg ht ha) a ha v ho
theorem rho_app {pre:Str} {l m:List Str} {t:Term} (h:Stands l t):app (rho pre (l++m)) t = app (rho pre l) t :=
 app_congr t fun v hv=>by unfold rho;rw [posS_app (h v hv)]
theorem renT_first {pre:Str} (hp:pre ≠ []) (t:Term):∀ l:List Str,vfl t = true→renT pre (nmOf pre l) t = (nmOf pre (firstT l t),app (rho pre (firstT l t)) t):=by
 induction t using term_ind with
 | h t ih =>
 intro l ht
 rw [renT_eq,firstT_eq]
 cases hv:t.var with
 | true =>
  rw [if_pos rfl,if_pos rfl,nameF_nm hp,app_var hv];rfl
 | false =>
  rw [if_neg (by simp),if_neg (by simp),app_fun hv]
  have key:∀ (ar:List Term) (l:List Str),(∀ a∈ar,a∈t.args)→renTs pre (nmOf pre l) ar = (nmOf pre (firstTs l ar),ar.map (app (rho pre (firstTs l ar)))):=by
   intro ar
   induction ar with
   | nil=>intro l _;rfl
   | cons a ar ihl =>
    intro l hl
    have hvf:∀ b∈a :: ar,vfl b = true:=fun b hb=>vfl_arg ht (hl b hb)
    simp only [renTs,firstTs]
    rw [ih a (hl a (by simp)) l (hvf a (by simp))]
    simp only
    rw [ihl (firstT l a) fun b hb=>hl b (by simp [hb])]
    simp only [List.map_cons]
    have h1:=(firstT_pre a l).2 (hvf a (by simp))
    have h2:∃ m,firstTs (firstT l a) ar = firstT l a++m:=by
     clear ihl hvf h1
     have:∀ (ar:List Term) (l:List Str),∃ m,firstTs l ar = l++m:=by
      intro ar
      induction ar with
      | nil=>intro l;exact ⟨[],by simp [firstTs]⟩
      | cons b ar ihm =>
       intro l
       obtain ⟨m1,e1⟩:=(firstT_pre b l).1
       obtain ⟨m2,e2⟩:=ihm (firstT l b)
       exact ⟨m1++m2,by simp only [firstTs];rw [e2,e1,List.append_assoc]⟩
     exact this ar _
    obtain ⟨m,hm⟩:=h2
    rw [hm,rho_app h1]
  rw [key t.args l fun _ h=>h]
theorem image_app2 {a b:List ABind} {v:Str}:image (a++b) v = (image a v).or (image b v):=by
 induction a with
 | nil=>simp [image]
 | cons x a ih =>
  simp only [List.cons_append,image]
  split
  ·rfl
  ·exact ih
theorem image_renV_ne {pre u v:Str} (h:u ≠ v):∀ (l:List Str) (i:Nat),image (renV pre u i l) v = none
 | [],i=>rfl
 | x :: l,i=>by
  simp only [renV,image_app2]
  rw [image_renV_ne h l (i+1)]
  have h2:image (if x = u then [(⟨u,varT (pre++dig i)⟩:ABind)] else []) v = none:=by
   split
   ·simp only [image];rw [if_neg h]
   ·rfl
  rw [h2];rfl
theorem image_renV {pre v:Str}:∀ (l:List Str) (i:Nat),image (renV pre v i l) v = (posS l v).map fun j=>varT (pre++dig (i+j))
 | [],i=>rfl
 | x :: l,i=>by
  simp only [renV,image_app2,posS]
  by_cases h:x = v
  ·rw [if_pos h,if_pos h];simp [image]
  ·rw [if_neg h,if_neg h,image_renV l (i+1)]
   cases posS l v with
   | none=>rfl
   | some j=>simp only [image,Option.map_some,Option.none_or];rw [show i+1+j = i+(j+1) by omega]
theorem image_renB (l:List Str) (pre v:Str):image (renB l pre) v = (posS l v).map fun j=>varT (pre++dig j):=by
 unfold renB
 have key:∀ S:List Str,image (S.flatMap fun u=>renV pre u 0 l) v = if v∈S then (posS l v).map fun j=>varT (pre++dig j) else none:=by
  intro S
  induction S with
  | nil=>rfl
  | cons u S ih =>
   simp only [List.flatMap_cons,image_app2,ih]
   by_cases h:u = v
   ·subst h
    rw [image_renV]
    simp only [List.mem_cons,true_or,if_true,Nat.zero_add]
    cases posS l u with
    | none=>simp
    | some j=>rfl
   ·have h':v ≠ u:=fun e=>h e.symm
    rw [image_renV_ne h]
    simp [h']
 rw [key]
 by_cases h:v∈l
 ·have h2:v∈sortedS l:=(mem_foldl_insS l []).2 (.inr h)
  rw [if_pos h2]
 ·rw [posS_none.2 h];split <;> rfl
theorem inst_app (s:List ABind) (t:Term):inst s t = app (fun v=>(image s v).getD (varT v)) t:=by
 induction t using term_ind with
 | h t ih =>
 rw [app_eq]
 cases t with | mk n v l =>
 cases v with
 | true=>simp only [inst,Term.var,Term.name,if_true,varT]
 | false =>
  simp only [inst,Term.var,Term.name,Term.args,insts_map,Bool.false_eq_true,if_false]
  congr 1
  exact List.map_congr_left fun a ha=>ih a ha
theorem inst_renB (l:List Str) (pre:Str) (t:Term):inst (renB l pre) t = app (rho pre l) t:=by
 rw [inst_app]
 refine app_congr t fun v _=>?_
 rw [image_renB]
 unfold rho
 cases posS l v <;> rfl
def renQ (pre:Str) (x:ARule):ARule:=⟨app (rho pre (firstT [] x.left)) x.left,app (rho pre (firstT [] x.left)) x.right⟩
theorem firstT_stand {l:List Str} (t:Term):Stands l t→vfl t = true→firstT l t = l:=by
 induction t using term_ind generalizing l with
 | h t ih =>
 intro h ht
 rw [firstT_eq]
 cases hv:t.var with
 | true=>rw [if_pos rfl,if_pos (h _ ((occ_var ht hv).2 rfl))]
 | false =>
  rw [if_neg (by simp)]
  have key:∀ (ar:List Term),(∀ a∈ar,a∈t.args)→firstTs l ar = l:=by
   intro ar
   induction ar with
   | nil=>intro _;rfl
   | cons a ar ihl =>
    intro hl
    simp only [firstTs]
    rw [ih a (hl a (by simp)) (fun v hv'=>h v ((occ_fun hv).2 ⟨a,hl a (by simp),hv'⟩)) (vfl_arg ht (hl a (by simp)))]
    exact ihl fun b hb=>hl b (by simp [hb])
  exact key t.args fun _ h=>h
theorem renR_renQ {pre:Str} (hp:pre ≠ []) {x:ARule} (hl:vfl x.left = true) (hr:vfl x.right = true) (hx:∀ v,occ v x.right = true→occ v x.left = true):renR pre x = renQ pre x:=by
 unfold renR renQ
 have e1:=renT_first hp x.left [] hl
 have e0:nmOf pre [] = []:=rfl
 rw [e0] at e1
 rw [e1]
 simp only
 rw [renT_first hp x.right _ hr]
 have hs:Stands (firstT [] x.left) x.right:=fun v hv=>(firstT_pre x.left []).2 hl v (hx v hv)
 rw [firstT_stand x.right hs hr]
end Go.Dw
end
section
namespace Go.Dw
theorem inst_smallw {s:List ABind} {t:Term} (ht:tb t < 2^24) (hs:bbs s < 2^34):size (inst s t)≤2^60:=by
 have h1:=inst_size s t
 have h2:=size_le_tb t
 have:size t * (1+bbs s)≤2^24 * 2^35:=Nat.mul_le_mul (by omega) (by omega)
 omega
theorem term_measure_sw (s:List ABind) (hs:Sorted s) (hb:bbs s < 2^34) (t:Term) (ht:tb t < 2^24):PF n_term_measure [encBs s,encT t] (.agg [.int .i64 (size (inst s t)),.int .i64 (depth (inst s t))]):=by
 have hl:=length_le_bbs s
 induction t using term_ind with
 | h t ih =>
 have hI:=term_Image_s s t.name hs (by omega)
 have htb:=tb_args t
 have hlt:=length_le_tbs t.args
 have hsm:=inst_smallw ht hb
 refine pf_of term_measure.ok rfl ?_
 cases hv:t.var with
 | true =>
  push_cast [hv]
  refine .of hI ?_
  rw [inst_eq,hv]
  cases hx:image s t.name with
  | some x =>
   have h1:=image_size hx
   have h2:=size_le_tb x
   push_cast [encOT]
   refine .of (term_Size_s x (by omega)) ?_
   push_cast
   refine .of (term_Depth_s x (by omega)) ?_
   push_cast
   refine pf_ret ?_
   push_cast [term_measure.rs]
   exact ⟨rfl,rfl⟩
  | none =>
   push_cast [encOT]
   refine pf_ret ?_
   push_cast [term_measure.rs]
   exact ⟨rfl,rfl⟩
 | false =>
  have he:inst s t = .mk t.name false (t.args.map (inst s)):=by rw [inst_eq,hv];rfl
  rw [he] at hsm
  rw [he]
  simp only [size] at hsm
  have hd:=depths_le_sizes (t.args.map (inst s))
  push_cast [hv]
  refine loop_up (n:=t.args.length) (R:=fun k=>term_measure.L3 (encBs s) (.ptr 0 0) (.ptr 1 0) (encTs t.args) (.int .i64 t.args.length) (.int .i64 k) 0
   [.cells t_term_meter [.int .i64 0,.int .i64 0],.cells t_term_meter [.int .i64 (1+sizes ((t.args.take k).map (inst s)):Nat),.int .i64 (depths ((t.args.take k).map (inst s)):Nat)]] _) ?_ ?_ 0 (by omega)
  ·intro k hk ih2
   have hm:=getD_mem hk
   have hs1:sizes ((t.args.take (k+1)).map (inst s)) = sizes ((t.args.take k).map (inst s))+size (inst s (t.args.getD k default)):=by
    rw [take_succ_getD hk,List.map_append,sizes_append];simp [sizes]
   have hd1:depths ((t.args.take (k+1)).map (inst s)) = max (depths ((t.args.take k).map (inst s))) (depth (inst s (t.args.getD k default))):=by
    rw [take_succ_getD hk,List.map_append,depths_append];simp [depths]
   have hle:sizes ((t.args.take (k+1)).map (inst s))≤sizes (t.args.map (inst s)):=by
    rw [List.map_take];exact sizes_take_le _ _
   have htm:=tb_mem hm
   rw [hs1,hd1] at ih2
   refine term_measure.G3 ?_
   push_cast [ilt hk]
   refine .of (ih _ hm (by omega)) ?_
   push_cast [w64 (show k < 2^62 by omega)]
   rw [wrap64 (by omega) (by omega),Int.add_assoc]
   push_cast at ih2
   exact ih2
  ·refine term_measure.G3 ?_
   push_cast [inlt (Nat.le_refl _)]
   refine pf_ret ?_
   rw [wrap64 (by rw [List.take_length];omega) (by rw [List.take_length];omega)]
   push_cast [term_measure.rs,size,depth,List.take_length]
theorem term_Instance_sw (s:List ABind) (hs:Sorted s) (hb:bbs s < 2^34) (t:Term) (ht:tb t < 2^24):PF n_term_Instance [encBs s,encT t] (if fits (inst s t) then encTE (some (inst s t)) 0 else encTE none 3):=by
 rw [← inst_none]
 refine pf_of term_Instance.ok rfl ?_
 push_cast
 refine .of (term_measure_sw s hs hb t ht) ?_
 by_cases h1:4000 < size (inst s t)
 ·have h1':((4000:Int) < (size (inst s t):Int)) = True:=eq_true (by omega)
  push_cast [h1']
  refine pf_ret ?_
  push_cast [term_Instance.rs]
  rw [if_pos (.inl h1)];rfl
 ·have h1':((4000:Int) < (size (inst s t):Int)) = False:=eq_false (by omega)
  by_cases h2:200 < depth (inst s t)
  ·have h2':((200:Int) < (depth (inst s t):Int)) = True:=eq_true (by omega)
   push_cast [h1',h2']
   refine pf_ret ?_
   push_cast [term_Instance.rs]
   rw [if_pos (.inr h2)];rfl
  ·have h2':((200:Int) < (depth (inst s t):Int)) = False:=eq_false (by omega)
   push_cast [h1',h2']
   refine .of (term_replace_s s hs (by omega) t (by omega)) ?_
   push_cast
   refine pf_ret ?_
   push_cast [term_Instance.rs]
   rw [if_neg (by omega)];rfl
end Go.Dw
end
section
namespace Go.Dw
abbrev encU:Unit→V:=fun _=>.bool true
abbrev TM:=List (Str × Term)
abbrev DM:=List (Key × Unit)
abbrev SM:=List (Str × Unit)
abbrev uHl (m:TM) (d:DM) (l:List Ob):List Ob:=.map (encS encT m) :: .map (encQ encU d) :: .cells t_unify_unifier [.map 0,.map 1] :: l
abbrev uH (m:TM) (d:DM):List Ob:=uHl m d []
theorem ren_encST {σ:Nat→Option Nat} (m:TM):((encS encT m).map fun p=>(ren σ p.1,ren σ p.2)) = encS encT m:=ren_encS (fun x=>ren_encT x) m
theorem ren_encSU {σ:Nat→Option Nat} (m:SM):((encS encU m).map fun p=>(ren σ p.1,ren σ p.2)) = encS encU m:=ren_encS (fun x=>rfl) m
theorem ren_encQU {σ:Nat→Option Nat} (m:DM):((encQ encU m).map fun p=>(ren σ p.1,ren σ p.2)) = encQ encU m:=ren_encQ (fun x=>rfl) m
attribute [push_cast] ren_encST ren_encSU ren_encQU
theorem shut_u (m:TM) (d:DM):Shut 3 (uH m d):=⟨rfl,by
 show [renOb (clip 3) (.map (encS encT m)),renOb (clip 3) (.map (encQ encU d)),renOb (clip 3) (.cells t_unify_unifier [.map 0,.map 1])] = _
 have h0:clip 3 0 = some 0:=rfl
 have h1:clip 3 1 = some 1:=rfl
 push_cast [h0,h1]⟩
section
variable {s:List ABind} {m:TM} (d:DM) (hm:∀ v,getK m v = image s v)
include hm
theorem lk_some {v:Str} {x:Term} (h:image s v = some x):∀ l,lookV (.map (encS encT m) :: l) true true (.agg [.str [],.bool false,.sl 3 []]) (.map 0) (.str v) = some (.tup [encT x,.bool true]):=fun l=>by
 have:=look_encS encT m v true (.agg [.str [],.bool false,.sl 3 []]) (H:=.map (encS encT m) :: l) (i:=0) rfl
 rw [hm,h] at this;exact this
theorem lk_none {v:Str} (h:image s v = none):∀ l,lookV (.map (encS encT m) :: l) true true (.agg [.str [],.bool false,.sl 3 []]) (.map 0) (.str v) = some (.tup [.agg [.str [],.bool false,.sl 3 []],.bool false]):=fun l=>by
 have:=look_encS encT m v true (.agg [.str [],.bool false,.sl 3 []]) (H:=.map (encS encT m) :: l) (i:=0) rfl
 rw [hm,h] at this;exact this
theorem unify_head_s (n:Nat) (t h:Term) (hh:headN n s t = some h):Spec prog n_unify_unifier_head [.ptr 2 0,encT t] (uH m d) fun x H'=>x = encT h∧H' = uH m d:=by
 refine spec_of_run mixed unify_unifier_head.ok rfl ?_
 have key:∀ (n:Nat) (t:Term),headN n s t = some h→unify_unifier_head.L3 (.ptr 2 0) (.ptr 3 0) (.ptr 4 0) 3 (uHl m d [.cells t_Term (cT t),.cells t_Term [.str [],.bool false,.sl 3 []]]) (Ends 3 unify_unifier_head.rs fun x' H'=>x' = encT h∧H' = uH m d):=by
  intro n
  induction n with
  | zero=>intro t h;cases h
  | succ n ih =>
   intro t ht
   simp only [headN] at ht
   refine unify_unifier_head.G3 ?_
   cases hv:t.var with
   | false =>
    rw [if_neg (by simp [hv])] at ht
    cases ht
    push_cast [hv]
    exact ends_keep (H:=uH m d) (J:=[_,_]) (shut_u m d) rfl ⟨by push_cast,rfl⟩
   | true =>
    rw [if_pos hv] at ht
    cases hi:image s t.name with
    | none =>
     rw [hi] at ht
     cases ht
     push_cast [hv,lk_none hm hi]
     exact ends_keep (H:=uH m d) (J:=[_,_,_]) (shut_u m d) rfl ⟨by push_cast,rfl⟩
    | some x =>
     rw [hi] at ht
     push_cast [hv,lk_some hm hi]
     exact ih x ht
 push_cast
 exact key n t hh
def occF (s:List ABind) (v:Str):Nat→SM→Term→SM × Bool
 | 0,σ,_=>(σ,false)
 | n+1,σ,t=>if t.var then (if t.name = v then (σ,true) else match image s t.name with
   | none=>(σ,false)
   | some x=>if (getK σ t.name).isSome then (σ,false) else occF s v n (setK σ t.name ()) x)
  else stF (occF s v n) σ t.args
abbrev oH (m:TM) (d:DM) (σ:SM):List Ob:=uHl m d [.map (encS encU σ)]
abbrev oJ (m:TM) (d:DM) (σ:SM):List Ob:=uHl m d [.map (encS encU σ),.cells t_p_unify_unifier [.ptr 2 0],.cells t_m_string_bool [.map 3]]
omit hm in
theorem shut_o (m:TM) (d:DM) (σ:SM):Shut 4 (oH m d σ):=⟨rfl,by
 show [renOb (clip 4) (.map (encS encT m)),renOb (clip 4) (.map (encQ encU d)),renOb (clip 4) (.cells t_unify_unifier [.map 0,.map 1]),renOb (clip 4) (.map (encS encU σ))] = _
 have h0:clip 4 0 = some 0:=rfl
 have h1:clip 4 1 = some 1:=rfl
 push_cast [h0,h1]⟩
omit hm in
theorem give_o (m:TM) (d:DM) (σ:SM) (J:List Ob):give [0,1,2,3] (uHl m d (.map (encS encU σ) :: J)) = oH m d σ:=by
 show [renOb (pos? [0,1,2,3]) (.map (encS encT m)),renOb (pos? [0,1,2,3]) (.map (encQ encU d)),renOb (pos? [0,1,2,3]) (.cells t_unify_unifier [.map 0,.map 1]),renOb (pos? [0,1,2,3]) (.map (encS encU σ))] = _
 have h0:pos? [0,1,2,3] 0 = some 0:=rfl
 have h1:pos? [0,1,2,3] 1 = some 1:=rfl
 push_cast [h0,h1]
omit hm in
theorem take_o (m:TM) (d:DM) (σ σ':SM) (a b:Ob):takeB [0,1,2,3] (uHl m d [.map (encS encU σ),a,b]) (oH m d σ') = uHl m d [.map (encS encU σ'),a,b]:=by
 show [renOb (back [0,1,2,3] 6) (.map (encS encT m)),renOb (back [0,1,2,3] 6) (.map (encQ encU d)),renOb (back [0,1,2,3] 6) (.cells t_unify_unifier [.map 0,.map 1]),renOb (back [0,1,2,3] 6) (.map (encS encU σ')),a,b] = _
 have h0:back [0,1,2,3] 6 0 = some 0:=rfl
 have h1:back [0,1,2,3] 6 1 = some 1:=rfl
 push_cast [h0,h1]
omit hm in
section
variable {N:Nat→C} {B:Nat} {k:List K} {t:T} {Q:X→T→List Ob→Prop} {dd:Option Nat} {l:List S} {f:Nat} {v:Str} {z:Term} {b:Bool} {σ σ':SM} {m:TM} {d:DM} {a c:Ob}
theorem callG_o (h:Spec prog f [.ptr 2 0,.str v,encT z,.map 3] (oH m d σ) fun x' H'=>x' = .bool b∧H' = oH m d σ') (k':Run prog N B (.r l :: k) (setO dd (.bool b) t) (uHl m d [.map (encS encU σ'),a,c]) Q):CallG prog N B dd l k t Q (.func f) [.ptr 2 0,.str v,encT z,.map 3] (uHl m d [.map (encS encU σ),a,c]):=by
 have h2:pos? [0,1,2,3] 2 = some 2:=rfl
 have h3:pos? [0,1,2,3] 3 = some 3:=rfl
 refine CallG.some [0,1,2,3] (by simp) (by simp) (R:=fun x' H'=>x' = .bool b∧H' = oH m d σ') (by rw [give_o];push_cast [h2,h3];exact h) ?_
 rintro x' H' ⟨rfl,rfl⟩ _
 rw [take_o];exact k'
end
omit hm in
theorem take_o3 (m:TM) (d:DM) (σ σ':SM) (a b c:Ob):takeB [0,1,2,3] (uHl m d [.map (encS encU σ),a,b,c]) (oH m d σ') = uHl m d [.map (encS encU σ'),a,b,c]:=by
 show [renOb (back [0,1,2,3] 7) (.map (encS encT m)),renOb (back [0,1,2,3] 7) (.map (encQ encU d)),renOb (back [0,1,2,3] 7) (.cells t_unify_unifier [.map 0,.map 1]),renOb (back [0,1,2,3] 7) (.map (encS encU σ')),a,b,c] = _
 have h0:back [0,1,2,3] 7 0 = some 0:=rfl
 have h1:back [0,1,2,3] 7 1 = some 1:=rfl
 push_cast [h0,h1]
omit hm in
section
variable {N:Nat→C} {B:Nat} {k:List K} {t:T} {Q:X→T→List Ob→Prop} {dd:Option Nat} {l:List S} {f:Nat} {v:Str} {z:Term} {b:Bool} {σ σ':SM} {m:TM} {d:DM} {a c e:Ob}
theorem callG_o3 (h:Spec prog f [.ptr 2 0,.str v,encT z,.map 3] (oH m d σ) fun x' H'=>x' = .bool b∧H' = oH m d σ') (k':Run prog N B (.r l :: k) (setO dd (.bool b) t) (uHl m d [.map (encS encU σ'),a,c,e]) Q):CallG prog N B dd l k t Q (.func f) [.ptr 2 0,.str v,encT z,.map 3] (uHl m d [.map (encS encU σ),a,c,e]):=by
 have h2:pos? [0,1,2,3] 2 = some 2:=rfl
 have h3:pos? [0,1,2,3] 3 = some 3:=rfl
 refine CallG.some [0,1,2,3] (by simp) (by simp) (R:=fun x' H'=>x' = .bool b∧H' = oH m d σ') (by rw [give_o];push_cast [h2,h3];exact h) ?_
 rintro x' H' ⟨rfl,rfl⟩ _
 rw [take_o3];exact k'
end
omit hm in
theorem unify_occurs_1_s {m:TM} {d:DM} {σ σ':SM} {v:Str} {a:Term} {b:Bool} (h:Spec prog n_unify_unifier_occurs [.ptr 2 0,.str v,encT a,.map 3] (oH m d σ) fun x H'=>x = .bool b∧H' = oH m d σ') :
  Spec prog n_unify_unifier_occurs_1 [encT a,.ptr 4 0,.ro [.str v] 0,.ptr 5 0] (oJ m d σ) fun x H'=>x = .bool b∧H' = oJ m d σ':=by
 refine spec_of_run mixed unify_unifier_occurs_1.ok rfl ?_
 push_cast
 refine callG_o h ?_
 push_cast
 exact ends_all (.inl rfl) rfl ⟨rfl,rfl⟩
theorem unify_occurs_s (hw:∀ v x,image s v = some x→wide x < 2^40) (v:Str):∀ (n:Nat) (t:Term) (σ:SM),Need s n t→wide t < 2^40→Spec prog n_unify_unifier_occurs [.ptr 2 0,.str v,encT t,.map 3] (oH m d σ) fun x H'=>x = .bool (occF s v n σ t).2∧H' = oH m d (occF s v n σ t).1:=by
 intro n
 induction n with
 | zero=>intro t σ h;exact h.elim
 | succ n ih =>
  intro t σ hn ht
  simp only [Need] at hn
  refine spec_of_run mixed unify_unifier_occurs.ok rfl ?_
  unfold occF
  cases hv:t.var with
  | true =>
   rw [if_pos rfl]
   rw [if_pos hv] at hn
   by_cases hz:t.name = v
   ·rw [if_pos hz]
    push_cast [hv,hz]
    exact ends_keep (H:=oH m d σ) (J:=[_,_]) (shut_o m d σ) rfl ⟨rfl,rfl⟩
   ·rw [if_neg hz]
    have hz2:(t.name == v) = false:=by simpa using hz
    cases hi:image s t.name with
    | none =>
     push_cast [hv,hz,hz2,lk_none hm hi]
     exact ends_keep (H:=oH m d σ) (J:=[_,_,_]) (shut_o m d σ) rfl ⟨rfl,rfl⟩
    | some x =>
     have hlk:∀ l,_:=fun l=>look_encS encU σ t.name false (.bool false) (H:=uHl m d (.map (encS encU σ) :: l)) (i:=3) rfl
     have hup:=upd_encS encU σ t.name ()
     have hok:=ih x (setK σ t.name ()) (hn x hi) (hw _ _ hi)
     cases hg:getK σ t.name with
     | some u =>
      rw [hg] at hlk
      simp only [Option.map_some,Option.getD_some] at hlk
      push_cast [hv,hz,hz2,lk_some hm hi,hlk]
      exact ends_keep (H:=oH m d σ) (J:=[_,_,_]) (shut_o m d σ) rfl ⟨rfl,rfl⟩
     | none =>
      rw [hg] at hlk
      simp only [Option.map_none,Option.getD_none] at hlk
      push_cast [hv,hz,hz2,lk_some hm hi,hlk,hup]
      refine ⟨rfl,callG_o3 hok ?_⟩
      push_cast
      exact ends_keep (H:=oH m d (occF s v n (setK σ t.name ()) x).1) (J:=[_,_,_]) (shut_o m d _) rfl ⟨rfl,rfl⟩
  | false =>
   rw [if_neg (by simp)]
   rw [if_neg (by simp [hv])] at hn
   push_cast [hv]
   have hwa:=wide_args t
   have hC:=ContainsFunc_st (F:=occF s v n) (Hs:=oJ m d) (Inv:=fun _=>True) (g:=n_unify_unifier_occurs_1) (n:=6) (caps:=[.ptr 4 0,.ro [.str v] 0,.ptr 5 0]) (fun _=>rfl) rfl
    (fun σ=>by
     show [renOb (clip 6) (.map (encS encT m)),renOb (clip 6) (.map (encQ encU d)),renOb (clip 6) (.cells t_unify_unifier [.map 0,.map 1]),renOb (clip 6) (.map (encS encU σ)),renOb (clip 6) (.cells t_p_unify_unifier [.ptr 2 0]),renOb (clip 6) (.cells t_m_string_bool [.map 3])] = _
     have h0:clip 6 0 = some 0:=rfl
     have h1:clip 6 1 = some 1:=rfl
     have h2:clip 6 2 = some 2:=rfl
     have h3:clip 6 3 = some 3:=rfl
     push_cast [h0,h1,h2,h3])
    t.args (by omega) (fun a ha σ _=>unify_occurs_1_s (ih a σ (hn a ha) (by have:=wide_mem ha;omega))) (fun _ _ _ _ _=>trivial) σ trivial
   refine CallG.all (R:=fun x H'=>x = .bool (stF (occF s v n) σ t.args).2∧H' = oJ m d (stF (occF s v n) σ t.args).1) hC ?_
   rintro x H' ⟨rfl,rfl⟩
   push_cast
   exact ends_keep (H:=oH m d _) (J:=[_,_]) (shut_o m d _) rfl ⟨rfl,rfl⟩
omit hm in
theorem stF_true {F:SM→Term→SM × Bool}:∀ (l:List Term) (σ:SM),(stF F σ l).2 = true→∃ a∈l,∃ σ',(F σ' a).2 = true
 | [],σ,h=>by cases h
 | a :: l,σ,h=>by
  unfold stF at h
  by_cases h1:(F σ a).2 = true
  ·exact ⟨a,by simp,σ,h1⟩
  ·rw [if_neg h1] at h
   obtain ⟨b,hb,h2⟩:=stF_true l _ h
   exact ⟨b,by simp [hb],h2⟩
omit hm in
theorem occF_true {v:Str}:∀ (n:Nat) (σ:SM) (t:Term),(occF s v n σ t).2 = true→Occ s v t
 | 0,σ,t,h=>by cases h
 | n+1,σ,t,h=>by
  unfold occF at h
  cases hv:t.var with
  | true =>
   rw [if_pos hv] at h
   by_cases hz:t.name = v
   ·exact .here hv hz
   ·rw [if_neg hz] at h
    cases hi:image s t.name with
    | none=>rw [hi] at h;cases h
    | some x =>
     rw [hi] at h
     simp only at h
     split at h
     ·cases h
     ·exact .bound hv hi (occF_true n _ x h)
  | false =>
   rw [if_neg (by simp [hv])] at h
   obtain ⟨a,ha,σ',h1⟩:=stF_true _ _ h
   exact .arg hv ha (occF_true n σ' a h1)
omit hm in
theorem stF_false {F:SM→Term→SM × Bool} {P:Term→Prop} {Q:SM→Prop}:∀ (l:List Term) (σ:SM),Q σ→(∀ a∈l,∀ σ,Q σ→(F σ a).2 = false→P a∧Q (F σ a).1)→(stF F σ l).2 = false→(∀ a∈l,P a)∧Q (stF F σ l).1
 | [],σ,hq,_,h=>⟨by simp,hq⟩
 | a :: l,σ,hq,hs,h=>by
  unfold stF at h ⊢
  by_cases h1:(F σ a).2 = true
  ·rw [if_pos h1] at h;cases h
  ·rw [if_neg h1] at h ⊢
   obtain ⟨h2,h3⟩:=hs a (by simp) σ hq (by simpa using h1)
   obtain ⟨h4,h5⟩:=stF_false l _ h3 (fun b hb=>hs b (by simp [hb])) h
   exact ⟨fun b hb=>by rcases List.mem_cons.1 hb with rfl | hb;exact h2;exact h4 b hb,h5⟩
omit hm in
theorem not_occ_var {v w:Str} {x:Term} (hw:w ≠ v) (hi:image s w = some x) (h:¬ Occ s v x):¬ Occ s v (varT w):=by
 intro ho
 cases ho with
 | here _ h2=>exact hw h2
 | bound _ h2 h3=>rw [show (varT w).name = w from rfl,hi] at h2;cases h2;exact h h3
 | arg h1 _ _=>cases h1
omit hm in
theorem occF_false {σ':Sub} {rk:Str→Nat} (hu:UOk s σ' rk) {v:Str}:∀ (n:Nat) (σ:SM) (t:Term) (R:Nat),Need s n t→vfl t = true→(∀ u,occ u t = true→rk u < R)→(∀ w,(getK σ w).isSome = true→¬ Occ s v (varT w) ∨ R≤rk w)→(occF s v n σ t).2 = false →
  ¬ Occ s v t∧∀ w,(getK (occF s v n σ t).1 w).isSome = true→(getK σ w).isSome = true ∨ ¬ Occ s v (varT w)
 | 0,σ,t,R,h,_,_,_,_=>h.elim
 | n+1,σ,t,R,hn,ht,hR,hσ,h=>by
  simp only [Need] at hn
  unfold occF at h ⊢
  cases hv:t.var with
  | true =>
   rw [if_pos hv] at h hn
   rw [if_pos rfl]
   have hocc:occ t.name t = true:=uocc_iff.2 (.inl ⟨hv,rfl⟩)
   have htv:=vfl_var ht hv
   by_cases hz:t.name = v
   ·rw [if_pos hz] at h;cases h
   ·rw [if_neg hz] at h ⊢
    cases hi:image s t.name with
    | none =>
     refine ⟨fun ho=>?_,fun w hw=>.inl hw⟩
     cases ho with
     | here _ h2=>exact hz h2
     | bound _ h2 _=>rw [hi] at h2;cases h2
     | arg h1 _ _=>rw [hv] at h1;cases h1
    | some x =>
     rw [hi] at h
     simp only at h ⊢
     by_cases hg:(getK σ t.name).isSome = true
     ·rw [if_pos hg]
      rcases hσ _ hg with h1 | h1
      ·exact ⟨by rw [htv];exact h1,fun w hw=>.inl hw⟩
      ·have:=hR _ hocc;omega
     ·rw [if_neg hg] at h ⊢
      obtain ⟨h1,h2⟩:=occF_false hu n (setK σ t.name ()) x (rk t.name) (hn x hi) (hu.vf _ _ hi) (hu.low _ _ hi) (fun w hw=>by
       rw [getK_setK] at hw
       by_cases e:t.name = w
       ·exact .inr (by rw [e];exact Nat.le_refl _)
       ·rw [if_neg e] at hw
        rcases hσ w hw with h3 | h3
        ·exact .inl h3
        ·exact .inr (by have:=hR _ hocc;omega)) h
      have h3:=not_occ_var hz hi h1
      refine ⟨by rw [htv];exact h3,fun w hw=>?_⟩
      rcases h2 w hw with h4 | h4
      ·rw [getK_setK] at h4
       by_cases e:t.name = w
       ·exact .inr (e ▸ h3)
       ·rw [if_neg e] at h4;exact .inl h4
      ·exact .inr h4
  | false =>
   rw [if_neg (by simp [hv])] at h hn
   rw [if_neg (by simp)]
   obtain ⟨h1,h2⟩:=stF_false (P:=fun a=>¬ Occ s v a) (Q:=fun τ=>∀ w,(getK τ w).isSome = true→(getK σ w).isSome = true ∨ ¬ Occ s v (varT w)) t.args σ (fun w hw=>.inl hw)
    (fun a ha τ hτ hf=>by
     obtain ⟨h3,h4⟩:=occF_false hu n τ a R (hn a ha) (vfl_arg ht ha) (fun u hu'=>hR u (uocc_iff.2 (.inr ⟨a,ha,hu'⟩))) (fun w hw=>by
      rcases hτ w hw with h5 | h5
      ·exact hσ w h5
      ·exact .inl h5) hf
     refine ⟨h3,fun w hw=>?_⟩
     rcases h4 w hw with h5 | h5
     ·exact hτ w h5
     ·exact .inr h5) h
   refine ⟨fun ho=>?_,h2⟩
   cases ho with
   | here h3 _=>rw [hv] at h3;cases h3
   | bound h3 _ _=>rw [hv] at h3;cases h3
   | arg _ h3 h4=>exact h1 _ h3 h4
omit hm in
theorem occF_eq {σ':Sub} {rk:Str→Nat} (hu:UOk s σ' rk) {v:Str} {n:Nat} {t:Term} (hn:Need s n t) (ht:vfl t = true):(occF s v n [] t).2 = true ↔ Occ s v t:=by
 constructor
 ·exact occF_true n [] t
 ·intro ho
  obtain ⟨M,hM⟩:=occ_most rk t
  cases h:(occF s v n [] t).2 with
  | true=>rfl
  | false=>exact absurd ho (occF_false hu n [] t (M+1) hn ht (fun u h=>by have:=hM u h;omega) (fun w hw=>by cases hw) h).1
theorem unify_set_s {σ':Sub} {rk:Str→Nat} (hu:UOk s σ' rk) (hw:∀ v x,image s v = some x→wide x < 2^40) (v:Str) (t:Term) (ht:vfl t = true) (hwt:wide t < 2^40) :
  Spec prog n_unify_unifier_set [.ptr 2 0,.str v,encT t] (uH m d) fun x H'=>x = .bool (setU s v t).2∧H' = uH (if (setU s v t).2 then setK m v t else m) d:=by
 obtain ⟨n,hn⟩:=hu.need t
 have hO:=unify_occurs_s d hm hw v n t [] hn hwt
 have hup:=upd_encS encT m v t
 refine spec_of_run mixed unify_unifier_set.ok rfl ?_
 push_cast
 refine CallG.all (R:=fun x H'=>x = .bool (occF s v n [] t).2∧H' = oH m d (occF s v n [] t).1) hO ?_
 rintro x H' ⟨rfl,rfl⟩
 have hq:=occF_eq hu (v:=v) hn ht
 rcases setU_cases s v t with ⟨ho,e⟩ | ⟨ho,e⟩
 ·rw [e]
  have hq:=hq.2 ho
  push_cast [hq]
  exact ends_keep (H:=uH m d) (J:=[_]) (shut_u m d) rfl ⟨rfl,rfl⟩
 ·rw [e]
  have hq:(occF s v n [] t).2 = false:=by
   cases h:(occF s v n [] t).2 with
   | true=>exact absurd (hq.1 h) ho
   | false=>rfl
  push_cast [hq,hup]
  exact ⟨rfl,ends_keep (H:=uH (setK m v t) d) (J:=[_]) (shut_u _ d) rfl ⟨rfl,rfl⟩⟩
end
end Go.Dw
end
section
namespace Go.Dw
theorem UOk.sat_comp {s:List ABind} {σ θ:Sub} {rk:Str→Nat} (h:UOk s σ rk) (hθ:Sat θ s):∀ v,θ v = app θ (σ v):=by
 refine h.ind fun v ih=>?_
 cases hi:image s v with
 | none=>rw [h.free v hi];exact (app_var (f:=θ) (t:=varT v) rfl).symm
 | some t =>
  rw [h.fix v t hi,hθ v t hi,app_app]
  exact app_congr t fun w hw=>ih t w hi hw
theorem UOk.sat_app {s:List ABind} {σ θ:Sub} {rk:Str→Nat} (h:UOk s σ rk) (hθ:Sat θ s) (t:Term):app θ t = app θ (app σ t):=by
 rw [app_app];exact app_congr t fun v _=>h.sat_comp hθ v
theorem map_eq_get {f:Term→Term} {l m:List Term} (h:l.map f = m.map f):l.length = m.length:=by simpa using congrArg List.length h
theorem solve_eq {s:List ABind} {σ:Sub} {rk:Str→Nat} (h:UOk s σ rk):∀ (n:Nat) (a b:Term) (r:List ABind × Bool),vfl a = true→vfl b = true→solveN n s a b = some r→app σ a = app σ b→r = (s,true)
 | 0,_,_,_,_,_,hr,_=>by cases hr
 | n+1,a,b,r,ha,hb,hr,he=>by
  obtain ⟨x,y,hx,hy,hc⟩:=solveN_succ hr
  have hxv:vfl x = true:=head_keep (P:=fun t=>vfl t = true) h.vf ha hx
  have hyv:vfl y = true:=head_keep (P:=fun t=>vfl t = true) h.vf hb hy
  rw [← head_sat h.sat hx,← head_sat h.sat hy] at he
  have hfx:x.var = true→app σ x = varT x.name:=fun c=>by rw [app_var c];exact h.free _ (head_free hx c)
  have hfy:y.var = true→app σ y = varT y.name:=fun c=>by rw [app_var c];exact h.free _ (head_free hy c)
  rcases hc with ⟨c1,c2,c3,rfl⟩ | ⟨c1,c2,rfl⟩ | ⟨c1,c2,rfl⟩ | ⟨c1,c2,c3,rfl⟩ | ⟨c1,c2,c3,c4,c5⟩
  ·rfl
  ·exfalso
   rw [hfx c1] at he
   cases hv:y.var with
   | true =>
    rw [hfy hv] at he
    injection he with e1 e2 e3
    exact c2 ⟨hv,e1⟩
   | false=>rw [app_fun hv] at he;injection he with e1 e2 e3;cases e2
  ·exfalso
   rw [hfy c2,app_fun c1] at he
   injection he with e1 e2 e3;cases e2
  ·exfalso
   rw [app_fun c1,app_fun c2] at he
   injection he with e1 e2 e3
   rcases c3 with c3 | c3
   ·exact c3 e1
   ·exact c3 (map_eq_get e3)
  ·rw [app_fun c1,app_fun c2] at he
   injection he with e1 e2 e3
   have key:∀ (l m:List Term),(∀ z∈l,vfl z = true)→(∀ z∈m,vfl z = true)→l.map (app σ) = m.map (app σ)→solvesW (solveN n) s l m = some r→r = (s,true):=by
    intro l
    induction l with
    | nil=>intro m _ _ _ h;simp only [solvesW,Option.some.injEq] at h;exact h.symm
    | cons a l ihl =>
     intro m hl hm he h
     cases m with
     | nil=>simp at he
     | cons b m =>
      simp only [List.map_cons,List.cons.injEq] at he
      simp only [solvesW] at h
      cases hf:solveN n s a b with
      | none=>rw [hf] at h;cases h
      | some p =>
       rw [hf] at h
       have e:=solve_eq ‹UOk s σ rk› n a b p (hl a (by simp)) (hm b (by simp)) hf he.1
       subst e
       exact ihl m (fun x hx=>hl x (by simp [hx])) (fun x hx=>hm x (by simp [hx])) he.2 h
   exact key x.args y.args (fun z hz=>vfl_arg hxv hz) (fun z hz=>vfl_arg hyv hz) e3 c5
theorem wide_arg {t a:Term} (h:wide t < 2^40) (ha:a∈t.args):wide a < 2^40:=by
 have:=wide_args t
 have:=wide_mem ha
 omega
def WB (s:List ABind):Prop:=∀ v x,image s v = some x→wide x < 2^40
theorem WB.solve {s:List ABind} (h:WB s) {n:Nat} {a b:Term} {r:List ABind × Bool} (ha:wide a < 2^40) (hb:wide b < 2^40) (hr:solveN n s a b = some r):WB r.1 :=
 fun v x hx=>(solveN_keep (P:=fun t=>wide t < 2^40) (Q:=fun _=>True) (fun t a h ha=>wide_arg h ha) (fun _ _ _=>trivial) n s a b r (fun v t hv=>⟨h v t hv,trivial⟩) ha hb hr v x hx).1
def MR (s:List ABind) (m:TM):Prop:=(∀ v,getK m v = image s v)∧Keys m
theorem MR.bind {s:List ABind} {m:TM} (h:MR s m) {v:Str} (hv:image s v = none) (t:Term):MR (bindT s v t) (setK m v t) :=
 ⟨fun w=>by rw [getK_setK,image_bindT hv,h.1 w],keys_setK h.2 v t⟩
def DoneK (s:List ABind) (k:Key):Prop:=∀ θ,Sat θ s→θ k.1 = θ k.2
def SolR (d:DM) (r:List ABind × Bool) (x:V) (m':TM) (d':DM):Prop:=x = .bool r.2∧(r.2 = true→MR r.1 m'∧∀ k,(getK d' k).isSome = true→(getK d k).isSome = true ∨ DoneK r.1 k)
theorem take_u (m m':TM) (d d':DM) (J:List Ob):takeB [0,1,2] (uHl m d J) (uH m' d') = uHl m' d' J:=by
 apply List.ext_getElem?
 intro i
 rw [takeB_get (by simp)]
 have h0:∀ n,back [0,1,2] n 0 = some 0:=fun _=>rfl
 have h1:∀ n,back [0,1,2] n 1 = some 1:=fun _=>rfl
 match i with
 | 0=>rw [if_pos (by simp)];show some (renOb _ (.map (encS encT m'))) = some _;push_cast
 | 1=>rw [if_pos (by simp)];show some (renOb _ (.map (encQ encU d'))) = some _;push_cast
 | 2=>rw [if_pos (by simp)];show some (renOb _ (.cells t_unify_unifier [.map 0,.map 1])) = some _;push_cast [h0,h1]
 | i+3 =>
  have hp:pos? [0,1,2] (i+3) = none:=by simp [pos?,List.findIdx?_cons]
  by_cases h:i < J.length
  ·rw [if_pos (by simp;omega),hp]
   simp [List.getD_eq_getElem?_getD,h]
  ·rw [if_neg (by simp;omega)]
   have e1:(uHl m' d' J)[i+3]? = none:=List.getElem?_eq_none (by simp;omega)
   have e2:(uH m' d')[[0,1,2].length+(i+3 - (uHl m d J).length)]? = none:=List.getElem?_eq_none (by simp)
   rw [e1,e2];rfl
theorem give_u (m:TM) (d:DM) (J:List Ob):give [0,1,2] (uHl m d J) = uH m d:=by
 show [renOb (pos? [0,1,2]) (.map (encS encT m)),renOb (pos? [0,1,2]) (.map (encQ encU d)),renOb (pos? [0,1,2]) (.cells t_unify_unifier [.map 0,.map 1])] = _
 have h0:pos? [0,1,2] 0 = some 0:=rfl
 have h1:pos? [0,1,2] 1 = some 1:=rfl
 push_cast [h0,h1]
section
variable {N:Nat→C} {B:Nat} {k:List K} {t:T} {Q:X→T→List Ob→Prop} {dd:Option Nat} {l:List S} {f:Nat} {vs vs':List V} {m:TM} {d:DM} {J:List Ob}
theorem callG_u {R:V→TM→DM→Prop} (hv:rens (pos? [0,1,2]) vs = vs') (h:Spec prog f vs' (uH m d) fun x' H'=>∃ m' d',R x' m' d'∧H' = uH m' d') (k':∀ x' m' d',R x' m' d'→Run prog N B (.r l :: k) (setO dd (ren (back [0,1,2] (J.length+3)) x') t) (uHl m' d' J) Q):CallG prog N B dd l k t Q (.func f) vs (uHl m d J):=by
 refine CallG.some [0,1,2] (by simp) (by simp) (R:=fun x' H'=>∃ m' d',R x' m' d'∧H' = uH m' d') (by rw [give_u,hv];exact h) ?_
 rintro x' H' ⟨m',d',hr,rfl⟩ _
 rw [take_u];exact k' x' m' d' hr
theorem callG_ul {x:V} (hv:rens (pos? [0,1,2]) vs = vs') (h:Spec prog f vs' (uH m d) fun x' H'=>x' = x∧H' = uH m d) (k':Run prog N B (.r l :: k) (setO dd (ren (back [0,1,2] (J.length+3)) x) t) (uHl m d J) Q):CallG prog N B dd l k t Q (.func f) vs (uHl m d J):=by
 refine callG_u (R:=fun x' m' d'=>x' = x∧m' = m∧d' = d) hv (Spec.mono h fun x' H' h=>⟨m,d,⟨h.1,rfl,rfl⟩,h.2⟩) ?_
 rintro x' m' d' ⟨rfl,rfl,rfl⟩;exact k'
end
end Go.Dw
end
section
namespace Go.Dw
theorem unify_solve_s:∀ (n:Nat) (s:List ABind) (σ:Sub) (rk:Str→Nat) (m:TM) (d:DM) (a b:Term) (r:List ABind × Bool),UOk s σ rk→MR s m→WB s→vfl a = true→vfl b = true→wide a < 2^40→wide b < 2^40→solveN n s a b = some r →
  (∀ k,(getK d k).isSome = true→DoneK s k ∨ ∀ θ,Sat θ s→size (app θ a) < size (θ k.1))→Spec prog n_unify_unifier_solve [.ptr 2 0,encT a,encT b] (uH m d) fun x H'=>∃ m' d',SolR d r x m' d'∧H' = uH m' d':=by
 intro n
 induction n with
 | zero=>intro s σ rk m d a b r _ _ _ _ _ _ _ h;cases h
 | succ n ih =>
  intro s σ rk m d a b r hu hm hwb ha hb hwa hwb2 hr hd
  have rest:∀ (d:DM) (Q:V→List Ob→Prop) (T:T) (J:List Ob),(∀ x m' d',SolR d r x m' d'→Q x (uH m' d'))→lk T 0 = .ptr 2 0→lk T 4 = .ptr 3 0→lk T 5 = .ptr 4 0→(∀ k,(getK d k).isSome = true→DoneK s k ∨ ∀ θ,Sat θ s→size (app θ a)≤size (θ k.1)) →
    Run prog unify_unifier_solve.nd 3 [.c (.n 5)] T (uHl m d (.cells t_Term (cT a) :: .cells t_Term (cT b) :: J)) (Ends 3 unify_unifier_solve.rs Q):=by
   intro d Q T J hQ h0 h4 h5 hd
   obtain ⟨x,y,hx,hy,hc⟩:=solveN_succ hr
   have hxv:vfl x = true:=head_keep (P:=fun t=>vfl t = true) hu.vf ha hx
   have hyv:vfl y = true:=head_keep (P:=fun t=>vfl t = true) hu.vf hb hy
   have hxw:wide x < 2^40:=head_keep (P:=fun t=>wide t < 2^40) hwb hwa hx
   have hyw:wide y < 2^40:=head_keep (P:=fun t=>wide t < 2^40) hwb hwb2 hy
   have hxs:∀ θ,Sat θ s→app θ x = app θ a:=fun θ hθ=>head_sat hθ hx
   have hA:=unify_head_s d hm.1 (n+1) a x hx
   have hB:=unify_head_s d hm.1 (n+1) b y hy
   have hlx:=wide_args x
   have hly:=wide_args y
   have p2:pos? [0,1,2] 2 = some 2:=rfl
   have same:∀ r:List ABind × Bool,r.1 = s→∀ x:V,x = .bool r.2→SolR d r x m d:=fun r h x e=>⟨e,fun _=>⟨h ▸ hm,fun k hk=>.inl hk⟩⟩
   have setF:∀ (v:Str) (t:Term),image s v = none→r = setU s v t→∀ (x':V) (m':TM) (d':DM),(x' = .bool (setU s v t).2∧m' = (if (setU s v t).2 then setK m v t else m)∧d' = d)→SolR d r x' m' d':=by
    rintro v t hv rfl x' m' d' ⟨rfl,rfl,rfl⟩
    refine ⟨rfl,fun h=>⟨?_,fun k hk=>.inl hk⟩⟩
    rcases setU_cases s v t with ⟨_,e⟩ | ⟨_,e⟩
    ·rw [e] at h;cases h
    ·rw [e,if_pos rfl];exact hm.bind hv t
   push_cast [h0,h4,h5]
   refine ⟨callG_ul (by push_cast [p2]) hA ?_,callG_ul (by push_cast [p2]) hA ?_⟩
   all_goals
    push_cast [h0,h4,h5]
    refine callG_ul (by push_cast [p2]) hB ?_
    rcases hc with ⟨c1,c2,c3,c6⟩ | ⟨c1,c2,c6⟩ | ⟨c1,c2,c6⟩ | ⟨c1,c2,c3,c6⟩ | ⟨c1,c2,c3,c4,c5⟩
    ·push_cast [h0,h4,h5,c1,c2,c3]
     exact ends_keep (H:=uH m d) (J:=_ :: _ :: J) (shut_u m d) rfl (hQ _ m d (same r (by rw [c6]) _ (by rw [c6];rfl)))
    ·have hS:=unify_set_s d hm.1 hu hwb x.name y hyv hyw
     have hS2:=Spec.mono hS (Q':=fun x' H'=>∃ m' d',(x' = .bool (setU s x.name y).2∧m' = (if (setU s x.name y).2 then setK m x.name y else m)∧d' = d)∧H' = uH m' d') fun x' H' h=>⟨_,_,⟨h.1,rfl,rfl⟩,h.2⟩
     by_cases c3:y.var = true
     ·have c4:x.name ≠ y.name:=fun e=>c2 ⟨c3,e⟩
      push_cast [h0,h4,h5,c1,c3,c4]
      refine callG_u (by push_cast [p2]) hS2 ?_
      intro x' m' d' hR
      have hf:=setF x.name y (head_free hx c1) c6 x' m' d' hR
      obtain ⟨rfl,_,_⟩:=hR
      push_cast
      exact ends_keep (H:=uH m' d') (J:=_ :: _ :: J) (shut_u m' d') rfl (hQ _ m' d' hf)
     ·have c3:y.var = false:=by simpa using c3
      push_cast [h0,h4,h5,c1,c3]
      refine callG_u (by push_cast [p2]) hS2 ?_
      intro x' m' d' hR
      have hf:=setF x.name y (head_free hx c1) c6 x' m' d' hR
      obtain ⟨rfl,_,_⟩:=hR
      push_cast
      exact ends_keep (H:=uH m' d') (J:=_ :: _ :: J) (shut_u m' d') rfl (hQ _ m' d' hf)
    ·have hS:=unify_set_s d hm.1 hu hwb y.name x hxv hxw
     have hS2:=Spec.mono hS (Q':=fun x' H'=>∃ m' d',(x' = .bool (setU s y.name x).2∧m' = (if (setU s y.name x).2 then setK m y.name x else m)∧d' = d)∧H' = uH m' d') fun x' H' h=>⟨_,_,⟨h.1,rfl,rfl⟩,h.2⟩
     push_cast [h0,h4,h5,c1,c2]
     refine callG_u (by push_cast [p2]) hS2 ?_
     intro x' m' d' hR
     have hf:=setF y.name x (head_free hy c2) c6 x' m' d' hR
     obtain ⟨rfl,_,_⟩:=hR
     push_cast
     exact ends_keep (H:=uH m' d') (J:=_ :: _ :: J) (shut_u m' d') rfl (hQ _ m' d' hf)
    ·by_cases hn:x.name = y.name
     ·have hlen:((x.args.length:Int) = (y.args.length:Int)) = False:=eq_false (by rcases c3 with h | h;exact absurd hn h;omega)
      push_cast [h0,h4,h5,c1,c2,hn,hlen]
      exact ends_keep (H:=uH m d) (J:=_ :: _ :: J) (shut_u m d) rfl (hQ _ m d (same r (by rw [c6]) _ (by rw [c6];rfl)))
     ·push_cast [h0,h4,h5,c1,c2,hn]
      exact ends_keep (H:=uH m d) (J:=_ :: _ :: J) (shut_u m d) rfl (hQ _ m d (same r (by rw [c6]) _ (by rw [c6];rfl)))
    ·have hlen:((x.args.length:Int) = (y.args.length:Int)) = True:=eq_true (by omega)
     push_cast [h0,h4,h5,c1,c2,c3,hlen]
     refine loop_up (n:=x.args.length) (R:=fun k=>∀ (s':List ABind) (σ':Sub) (rk':Str→Nat) (m':TM) (d':DM),UOk s' σ' rk'→MR s' m'→WB s'→(∀ θ,Sat θ s'→Sat θ s)→(∀ k,(getK d' k).isSome = true→(getK d k).isSome = true ∨ DoneK s' k)→solvesW (solveN n) s' (x.args.drop k) (y.args.drop k) = some r →
      unify_unifier_solve.L3 (.ptr 2 0) (.ptr 3 0) (.ptr 4 0) (.int .i64 x.args.length) (.int .i64 k) 3 (uHl m' d' [.cells t_Term (cT x),.cells t_Term (cT y)]) (Ends 3 unify_unifier_solve.rs Q)) ?_ ?_ 0 (by omega) s σ rk m d hu hm hwb (fun _ h=>h) (fun k hk=>.inl hk) c5
     ·intro k hk ih2 s' σ' rk' m' d' hu' hm' hwb' hsat hkeys hsol
      have hk2:k < y.args.length:=by omega
      have hmx:=getD_mem hk
      have hmy:=getD_mem hk2
      rw [drop_getD hk,drop_getD hk2] at hsol
      generalize hc:x.args.getD k default = c at hmx hsol
      generalize he:y.args.getD k default = e at hmy hsol
      simp only [solvesW] at hsol
      cases hf:solveN n s' c e with
      | none=>rw [hf] at hsol;cases hsol
      | some p =>
       obtain ⟨s1,ok⟩:=p
       rw [hf] at hsol
       have hcall:=ih s' σ' rk' m' d' c e (s1,ok) hu' hm' hwb' (vfl_arg hxv hmx) (vfl_arg hyv hmy) (wide_arg hxw hmx) (wide_arg hyw hmy) hf (fun k hk=>by
        rcases hkeys k hk with h | h
        ·rcases hd k h with h | h
         ·exact .inl fun θ hθ=>h θ (hsat θ hθ)
         ·refine .inr fun θ hθ=>?_
          have h1:=h θ (hsat θ hθ)
          rw [← hxs θ (hsat θ hθ),app_fun c1] at h1
          have h2:size (Term.mk x.name false (x.args.map (app θ))) = 1+sizes (x.args.map (app θ)):=rfl
          have h3:=size_mem (List.mem_map_of_mem (f:=app θ) hmx)
          omega
        ·exact .inl h)
       obtain ⟨σ1,rk1,hok⟩:=solveN_ok n s' σ' rk' c e (s1,ok) hu' (vfl_arg hxv hmx) (vfl_arg hyv hmy) hf
       refine unify_unifier_solve.G3 ?_
       push_cast [ilt hk,ilt hk2,hc,he]
       refine callG_u (by push_cast [p2]) hcall ?_
       intro x' m1 d1 hR
       obtain ⟨rfl,hR⟩:=hR
       cases ok with
       | false =>
        simp only [Option.some.injEq] at hsol
        push_cast
        exact ends_keep (H:=uH m1 d1) (J:=[_,_]) (shut_u m1 d1) rfl (hQ _ m1 d1 ⟨by rw [← hsol];rfl,fun h=>by rw [← hsol] at h;cases h⟩)
       | true =>
        obtain ⟨hm1,hk1⟩:=hR rfl
        push_cast [w64 (show k < 2^62 by omega)]
        have:=ih2 s1 σ1 rk1 m1 d1 hok.ok hm1 (hwb'.solve (wide_arg hxw hmx) (wide_arg hyw hmy) hf) (fun θ hθ=>hsat θ (hθ.mono hok.ext)) (fun k hk=>by
         rcases hk1 k hk with h | h
         ·rcases hkeys k h with h | h
          ·exact .inl h
          ·exact .inr fun θ hθ=>h θ (hθ.mono hok.ext)
         ·exact .inr h) hsol
        push_cast at this
        exact this
     ·intro s' σ' rk' m' d' hu' hm' hwb' hsat hkeys hsol
      rw [drop_map_none] at hsol
      simp only [solvesW,Option.some.injEq] at hsol
      refine unify_unifier_solve.G3 ?_
      push_cast [inlt (Nat.le_refl _)]
      exact ends_keep (H:=uH m' d') (J:=[_,_]) (shut_u m' d') rfl (hQ _ m' d' ⟨by rw [← hsol];rfl,fun _=>⟨by rw [← hsol];exact hm',fun k hk=>by rw [← hsol];exact hkeys k hk⟩⟩)
  refine spec_of_run mixed unify_unifier_solve.ok rfl ?_
  unfold unify_unifier_solve.body
  generalize hC:C.n 5 = c5
  obtain ⟨σ1,rk1,hok⟩:=solveN_ok (n+1) s σ rk a b r hu ha hb hr
  have hd1:∀ k,(getK d k).isSome = true→DoneK s k ∨ ∀ θ,Sat θ s→size (app θ a)≤size (θ k.1):=fun k hk=>by
   rcases hd k hk with h | h
   ·exact .inl h
   ·exact .inr fun θ hθ=>Nat.le_of_lt (h θ hθ)
  cases hva:a.var with
  | false =>
   push_cast [hva]
   subst hC
   exact rest d _ _ [] (fun x m' d' h=>⟨m',d',h,rfl⟩) rfl rfl rfl hd1
  | true =>
   cases hvb:b.var with
   | false =>
    push_cast [hva,hvb]
    subst hC
    exact rest d _ _ [] (fun x m' d' h=>⟨m',d',h,rfl⟩) rfl rfl rfl hd1
   | true =>
    have hlk:∀ l,_:=fun l=>look_encQ encU d (a.name,b.name) false (.bool false) (H:=uHl m d l) (i:=1) rfl
    have hup:=upd_encQ encU d (a.name,b.name) ()
    cases hg:getK d (a.name,b.name) with
    | some u =>
     rw [hg] at hlk
     simp only [Option.map_some,Option.getD_some,encK] at hlk hup
     push_cast [hva,hvb,hlk]
     have hrr:r = (s,true):=by
      rcases hd (a.name,b.name) (by rw [hg];rfl) with h | h
      ·exact solve_eq hu (n+1) a b r ha hb hr (by rw [app_var hva,app_var hvb];exact h σ hu.sat)
      ·have:=h σ hu.sat
       rw [app_var hva] at this
       exact absurd this (Nat.lt_irrefl _)
     exact ends_keep (H:=uH m d) (J:=[_,_,_]) (shut_u m d) rfl ⟨m,d,⟨by rw [hrr];rfl,fun _=>⟨by rw [hrr];exact hm,fun k hk=>.inl hk⟩⟩,rfl⟩
    | none =>
     rw [hg] at hlk
     simp only [Option.map_none,Option.getD_none,encK] at hlk hup
     push_cast [hva,hvb,hlk,hup]
     subst hC
     refine ⟨rfl,rest (setK d (a.name,b.name) ()) _ _ [.dead] (fun x m' d' h=>?_) rfl rfl rfl fun k hk=>?_⟩
     ·obtain ⟨e,h1⟩:=h
      refine ⟨m',d',⟨e,fun hr2=>⟨(h1 hr2).1,fun k hk=>?_⟩⟩,rfl⟩
      rcases (h1 hr2).2 k hk with h3 | h3
      ·rw [getK_setK] at h3
       by_cases e:(a.name,b.name) = k
       ·subst e
        refine .inr fun θ hθ=>?_
        have h4:=hok.eq hr2
        have h5:=hok.ok.sat_app hθ a
        have h6:=hok.ok.sat_app hθ b
        rw [h4,← h6,app_var hva,app_var hvb] at h5
        exact h5
       ·rw [if_neg e] at h3;exact .inl h3
      ·exact .inr h3
     ·rw [getK_setK] at hk
      by_cases e:(a.name,b.name) = k
      ·subst e
       exact .inr fun θ hθ=>by rw [app_var hva];exact Nat.le_refl _
      ·rw [if_neg e] at hk;exact hd1 k hk
end Go.Dw
end
section
namespace Go.Dw
theorem unify_whole_s {s:List ABind} {σ:Sub} {rk:Str→Nat} (hu:UOk s σ rk) {m:TM} {d:DM} (hm:∀ v,getK m v = image s v) (hwb:WB s):∀ (n:Nat) (t:Term),Need s n t→vfl t = true→wide t < 2^40→Spec prog n_unify_unifier_whole [.ptr 2 0,encT t] (uH m d) fun x H'=>x = encT (app σ t)∧H' = uH m d:=by
 intro n
 induction n with
 | zero=>intro t h;exact h.elim
 | succ n ih =>
  intro t hn ht hw
  simp only [Need] at hn
  have p2:pos? [0,1,2] 2 = some 2:=rfl
  refine spec_of_run mixed unify_unifier_whole.ok rfl ?_
  cases hv:t.var with
  | true =>
   rw [if_pos hv] at hn
   rw [app_var hv]
   cases hi:image s t.name with
   | none =>
    rw [hu.free _ hi]
    push_cast [hv,lk_none hm hi]
    exact ends_keep (H:=uH m d) (J:=[_,_]) (shut_u m d) rfl ⟨by push_cast;rfl,rfl⟩
   | some x =>
    have hc:=ih x (hn x hi) (hu.vf _ _ hi) (hwb _ _ hi)
    rw [hu.fix _ _ hi]
    push_cast [hv,lk_some hm hi]
    refine callG_ul (J:=[_,_]) (by push_cast [p2]) hc ?_
    push_cast
    exact ends_keep (H:=uH m d) (J:=[_,_]) (shut_u m d) rfl ⟨by push_cast,rfl⟩
  | false =>
   rw [if_neg (by simp [hv])] at hn
   rw [app_fun hv]
   have hwa:=wide_args t
   push_cast [hv]
   refine loop_up (n:=t.args.length) (R:=fun k=>unify_unifier_whole.L3 (.ptr 2 0) (.ptr 3 0) (.ptr 4 0) (encTs t.args) (.int .i64 t.args.length) (.int .i64 k) 3
    (uHl m d [.cells t_Term [.str [],.bool false,.sl 3 []],.cells t_Term [.str t.name,.bool false,ownL cT 5 3 ((t.args.map (app σ)).take k)],.arr t_Term 3 k]) _) ?_ ?_ 0 (by omega)
   ·intro k hk ih2
    have hme:=getD_mem hk
    have hk2:k < (t.args.map (app σ)).length:=by simpa using hk
    have hlt:((t.args.map (app σ)).take k).length = k:=by simp;omega
    have hge:(t.args.map (app σ)).getD k default = app σ (t.args.getD k default):=by
     simp [List.getD_eq_getElem?_getD,hk]
    have hc:=ih _ (hn _ hme) (vfl_arg ht hme) (wide_arg hw hme)
    rw [take_succ_getD hk2,hge] at ih2
    refine unify_unifier_whole.G3 ?_
    push_cast [ilt hk]
    refine ⟨⟨?_,?_⟩,?_⟩
    all_goals
     refine callG_ul (J:=[_,_,_,_]) (by push_cast [p2]) hc ?_
     push_cast [hlt,room (show k < 2^40 by omega) (show 48≤64 by omega),w64 (show k < 2^62 by omega)]
     push_cast at ih2
     exact ih2
   ·refine unify_unifier_whole.G3 ?_
    push_cast [inlt (Nat.le_refl _)]
    rw [List.take_of_length_le (by simp)]
    refine ends_keep (H:=uH m d) (J:=[_,_,_]) (shut_u m d) rfl ⟨?_,rfl⟩
    push_cast [unify_unifier_whole.rs]
    rw [encT,cT_eq];rfl
abbrev MM:=List (Str × (Nat × Nat))
def encMt (p:Nat × Nat):V:=.agg [.int .i64 p.1,.int .i64 p.2]
theorem ren_encSM {σ:Nat→Option Nat} (m:MM):((encS encMt m).map fun p=>(ren σ p.1,ren σ p.2)) = encS encMt m:=ren_encS (fun x=>rfl) m
attribute [push_cast] ren_encSM
def mtr (σ:Sub) (t:Term):Nat × Nat:=(min (size (app σ t)) 4001,depth (app σ t))
def KnOk (σ:Sub) (kn:MM):Prop:=∀ v p,getK kn v = some p→p = mtr σ (varT v)
abbrev kHl (m:TM) (d:DM) (kn:MM) (J:List Ob):List Ob:=uHl m d (.map (encS encMt kn) :: J)
abbrev kH (m:TM) (d:DM) (kn:MM):List Ob:=kHl m d kn []
theorem shut_k (m:TM) (d:DM) (kn:MM):Shut 4 (kH m d kn):=⟨rfl,by
 show [renOb (clip 4) (.map (encS encT m)),renOb (clip 4) (.map (encQ encU d)),renOb (clip 4) (.cells t_unify_unifier [.map 0,.map 1]),renOb (clip 4) (.map (encS encMt kn))] = _
 have h0:clip 4 0 = some 0:=rfl
 have h1:clip 4 1 = some 1:=rfl
 push_cast [h0,h1]⟩
theorem take_k (m:TM) (d:DM) (kn kn':MM) (J:List Ob):takeB [0,1,2,3] (kHl m d kn J) (kH m d kn') = kHl m d kn' J:=by
 apply List.ext_getElem?
 intro i
 rw [takeB_get (by simp)]
 have h0:∀ n,back [0,1,2,3] n 0 = some 0:=fun _=>rfl
 have h1:∀ n,back [0,1,2,3] n 1 = some 1:=fun _=>rfl
 match i with
 | 0=>rw [if_pos (by simp)];show some (renOb _ (.map (encS encT m))) = some _;push_cast
 | 1=>rw [if_pos (by simp)];show some (renOb _ (.map (encQ encU d))) = some _;push_cast
 | 2=>rw [if_pos (by simp)];show some (renOb _ (.cells t_unify_unifier [.map 0,.map 1])) = some _;push_cast [h0,h1]
 | 3=>rw [if_pos (by simp)];show some (renOb _ (.map (encS encMt kn'))) = some _;push_cast
 | i+4 =>
  have hp:pos? [0,1,2,3] (i+4) = none:=by simp [pos?,List.findIdx?_cons]
  by_cases h:i < J.length
  ·rw [if_pos (by simp;omega),hp]
   simp [List.getD_eq_getElem?_getD,h]
  ·rw [if_neg (by simp;omega)]
   have e1:(kHl m d kn' J)[i+4]? = none:=List.getElem?_eq_none (by simp;omega)
   have e2:(kH m d kn')[[0,1,2,3].length+(i+4 - (kHl m d kn J).length)]? = none:=List.getElem?_eq_none (by simp)
   rw [e1,e2];rfl
theorem give_k (m:TM) (d:DM) (kn:MM) (J:List Ob):give [0,1,2,3] (kHl m d kn J) = kH m d kn:=by
 show [renOb (pos? [0,1,2,3]) (.map (encS encT m)),renOb (pos? [0,1,2,3]) (.map (encQ encU d)),renOb (pos? [0,1,2,3]) (.cells t_unify_unifier [.map 0,.map 1]),renOb (pos? [0,1,2,3]) (.map (encS encMt kn))] = _
 have h0:pos? [0,1,2,3] 0 = some 0:=rfl
 have h1:pos? [0,1,2,3] 1 = some 1:=rfl
 push_cast [h0,h1]
theorem callG_k {N:Nat→C} {B:Nat} {k:List K} {t:T} {Q:X→T→List Ob→Prop} {dd:Option Nat} {l:List S} {f:Nat} {z:Term} {m:TM} {d:DM} {kn:MM} {J:List Ob} {R:V→MM→Prop}
  (h:Spec prog f [.ptr 2 0,encT z,.map 3] (kH m d kn) fun x' H'=>∃ kn',R x' kn'∧H' = kH m d kn') (k':∀ x' kn',R x' kn'→Run prog N B (.r l :: k) (setO dd (ren (back [0,1,2,3] (J.length+4)) x') t) (kHl m d kn' J) Q):CallG prog N B dd l k t Q (.func f) [.ptr 2 0,encT z,.map 3] (kHl m d kn J):=by
 have h2:pos? [0,1,2,3] 2 = some 2:=rfl
 have h3:pos? [0,1,2,3] 3 = some 3:=rfl
 refine CallG.some [0,1,2,3] (by simp) (by simp) (R:=fun x' H'=>∃ kn',R x' kn'∧H' = kH m d kn') (by rw [give_k];push_cast [h2,h3];exact h) ?_
 rintro x' H' ⟨kn',hr,rfl⟩ _
 rw [take_k];exact k' x' kn' hr
theorem unify_measure_s {s:List ABind} {σ:Sub} {rk:Str→Nat} (hu:UOk s σ rk) {m:TM} {d:DM} (hm:∀ v,getK m v = image s v) (hwb:WB s):∀ (n:Nat) (t:Term) (kn:MM),Need s n t→vfl t = true→wide t < 2^40→depth (app σ t) < 2^60→KnOk σ kn →
  Spec prog n_unify_unifier_measure [.ptr 2 0,encT t,.map 3] (kH m d kn) fun x H'=>∃ kn',(x = encMt (mtr σ t)∧KnOk σ kn')∧H' = kH m d kn':=by
 intro n
 induction n with
 | zero=>intro t kn h;exact h.elim
 | succ n ih =>
  intro t kn hn ht hw hdp hkn
  simp only [Need] at hn
  refine spec_of_run mixed unify_unifier_measure.ok rfl ?_
  cases hv:t.var with
  | true =>
   rw [if_pos hv] at hn
   rw [app_var hv] at hdp
   cases hi:image s t.name with
   | none =>
    have e:mtr σ t = (1,1):=by
     unfold mtr
     rw [app_var hv,hu.free _ hi];rfl
    rw [e]
    push_cast [hv,lk_none hm hi]
    exact ends_keep (H:=kH m d kn) (J:=[_,_]) (shut_k m d kn) rfl ⟨kn,⟨rfl,hkn⟩,rfl⟩
   | some x =>
    have hlk:∀ l,_:=fun l=>look_encS encMt kn t.name true (.agg [.int .i64 0,.int .i64 0]) (H:=kHl m d kn l) (i:=3) rfl
    have e:mtr σ t = mtr σ x:=by
     unfold mtr
     rw [app_var hv,hu.fix _ _ hi]
    have e2:mtr σ (varT t.name) = mtr σ t:=by
     unfold mtr
     rw [app_var (t:=varT t.name) rfl,app_var hv];rfl
    generalize hp:mtr σ t = p at e e2
    have hp':mtr σ x = p:=e.symm
    obtain ⟨p1,p2⟩:=p
    cases hg:getK kn t.name with
    | some q =>
     have hq:=hkn _ _ hg
     rw [e2] at hq
     subst hq
     rw [hg] at hlk
     simp only [Option.map_some,Option.getD_some,Option.isSome_some,if_true,encMt] at hlk
     push_cast [hv,lk_some hm hi,hlk]
     exact ends_keep (H:=kH m d kn) (J:=[_,_,_]) (shut_k m d kn) rfl ⟨kn,⟨rfl,hkn⟩,rfl⟩
    | none =>
     rw [hg] at hlk
     simp only [Option.map_none,Option.getD_none,Option.isSome_none,if_true] at hlk
     have hc:=ih x kn (hn x hi) (hu.vf _ _ hi) (hwb _ _ hi) (by rw [← hu.fix _ _ hi];exact hdp) hkn
     rw [hp'] at hc
     push_cast [hv,lk_some hm hi,hlk]
     refine callG_k (R:=fun x' kn'=>x' = encMt (p1,p2)∧KnOk σ kn') (J:=[_,_,_]) hc ?_
     rintro x' kn' ⟨rfl,hkn'⟩
     have hup:updM (.str t.name) (.agg [.int .i64 p1,.int .i64 p2]) (encS encMt kn') = some (encS encMt (setK kn' t.name (p1,p2))):=upd_encS encMt kn' t.name (p1,p2)
     push_cast [encMt,hup]
     refine ⟨rfl,ends_keep (H:=kH m d (setK kn' t.name (p1,p2))) (J:=[_,_,_,_]) (shut_k m d _) rfl ⟨_,⟨rfl,fun w q hq=>?_⟩,rfl⟩⟩
     rw [getK_setK] at hq
     by_cases ew:t.name = w
     ·rw [if_pos ew] at hq
      cases hq
      rw [← ew];exact e2.symm
     ·rw [if_neg ew] at hq;exact hkn' w q hq
  | false =>
   rw [if_neg (by simp [hv])] at hn
   have hwa:=wide_args t
   have happ:=app_fun (f:=σ) hv
   generalize hL:t.args.map (app σ) = L at happ
   have hLl:L.length = t.args.length:=by rw [← hL];simp
   have hsz:size (app σ t) = 1+sizes L:=by rw [happ];rfl
   have hdz:depth (app σ t) = depths L+1:=by rw [happ];rfl
   push_cast [hv]
   refine loop_up (n:=t.args.length) (R:=fun k=>∀ (kn':MM) (c e:Nat),KnOk σ kn'→c = min (1+sizes (L.take k)) 4001→e = depths (L.take k)→unify_unifier_measure.L3 (.ptr 2 0) (.map 3) (.ptr 4 0) (.ptr 5 0) (encTs t.args) (.int .i64 t.args.length) (.int .i64 k) 4
    (kHl m d kn' [.cells t_unify_meter [.int .i64 0,.int .i64 0],.cells t_unify_meter [.int .i64 c,.int .i64 e]]) (Ends 4 unify_unifier_measure.rs fun x H'=>∃ kn',(x = encMt (mtr σ t)∧KnOk σ kn')∧H' = kH m d kn')) ?_ ?_ 0 (by omega) kn 1 0 hkn (by simp [sizes]) (by simp [depths])
   ·intro k hk ih2 kn' c e hkn' hc he
    have hme:=getD_mem hk
    have hk2:k < L.length:=by omega
    have hge:L.getD k default = app σ (t.args.getD k default):=by
     rw [← hL];simp [List.getD_eq_getElem?_getD,hk]
    have hmL:=getD_mem hk2
    have hdl:depth (app σ (t.args.getD k default))≤depths L:=by rw [← hge];exact depth_mem hmL
    have hcall:=ih (t.args.getD k default) kn' (hn _ hme) (vfl_arg ht hme) (wide_arg hw hme) (by omega) hkn'
    have hp1:mtr σ (t.args.getD k default) = (min (size (L.getD k default)) 4001,depth (L.getD k default)):=by rw [hge];rfl
    rw [hp1] at hcall
    generalize hq1:min (size (L.getD k default)) 4001 = a1 at hcall
    generalize hq2:depth (L.getD k default) = b1 at hcall
    have hw1:IntKind.i64.wrap ((c:Int)+(a1:Int)) = (c:Int)+a1:=wrap64 (by omega) (by omega)
    refine unify_unifier_measure.G3 ?_
    push_cast [ilt hk]
    refine callG_k (R:=fun x' kn'=>x' = encMt (a1,b1)∧KnOk σ kn') (J:=[_,_,_]) hcall ?_
    rintro x' kn1 ⟨rfl,hkn1⟩
    obtain ⟨c1,hc1⟩:∃ c1,c1 = min (c+a1) 4001:=⟨_,rfl⟩
    obtain ⟨e1,he1⟩:∃ e1,e1 = max e b1:=⟨_,rfl⟩
    have this:=ih2 kn1 c1 e1 hkn1 (by rw [take_succ_getD hk2,sizes_append,hc1,hc,← hq1];simp only [sizes];omega) (by rw [take_succ_getD hk2,depths_append,he1,he,← hq2];simp [depths])
    have hmn:(if (4001:Int) < (c:Int)+(a1:Int) then (4001:Int) else (c:Int)+(a1:Int)) = (c1:Int):=by
     split <;> omega
    have hmx:(if (e:Int) < (b1:Int) then (b1:Int) else (e:Int)) = (e1:Int):=by
     split <;> omega
    push_cast [encMt,hw1,hmn,hmx,← he1,w64 (show k < 2^62 by omega)]
    push_cast [encMt] at this
    exact this
   ·intro kn' c e hkn' hc he
    rw [List.take_of_length_le (by omega)] at hc he
    refine unify_unifier_measure.G3 ?_
    push_cast [inlt (Nat.le_refl _),w64 (show e < 2^62 by omega)]
    refine ends_keep (H:=kH m d kn') (J:=[_,_]) (shut_k m d kn') rfl ⟨kn',⟨?_,hkn'⟩,rfl⟩
    push_cast [unify_unifier_measure.rs]
    unfold mtr encMt
    rw [hsz,hdz,← hc,← he]
    push_cast
end Go.Dw
end
section
namespace Go.Dw
theorem depth_app {σ:Sub} {M:Nat} (t:Term):(∀ w,occ w t = true→depth (σ w)≤M)→depth (app σ t)≤depth t+M:=by
 induction t using term_ind with
 | h t ih =>
 intro h
 cases hv:t.var with
 | true =>
  rw [app_var hv]
  have:=h _ (uocc_iff.2 (.inl ⟨hv,rfl⟩))
  omega
 | false =>
  rw [app_fun hv,depth_args,depth_args t]
  show depths (t.args.map (app σ))+1≤depths t.args+1+M
  have key:∀ l:List Term,(∀ a∈l,a∈t.args)→depths (l.map (app σ))≤depths l+M:=by
   intro l
   induction l with
   | nil=>intro _;simp [depths]
   | cons a l ihl =>
    intro hl
    have h1:=ih a (hl a (by simp)) fun w hw=>h w (uocc_iff.2 (.inr ⟨a,hl a (by simp),hw⟩))
    have h2:=ihl fun b hb=>hl b (by simp [hb])
    simp only [List.map_cons,depths]
    omega
  have:=key t.args fun _ h=>h
  omega
theorem countP_lt {α:Type} {p q:α→Bool}:∀ {l:List α} {x:α},x∈l→(∀ y,p y = true→q y = true)→q x = true→p x = false→l.countP p < l.countP q
 | [],x,h,_,_,_=>by cases h
 | y :: l,x,h,hpq,hq,hp=>by
  have hle:l.countP p≤l.countP q:=List.countP_mono_left fun z _=>hpq z
  simp only [List.countP_cons]
  rcases List.mem_cons.1 h with rfl | h
  ·rw [hq,hp];simp;omega
  ·have:=countP_lt h hpq hq hp
   have h2:(if p y = true then 1 else 0)≤(if q y = true then 1 else 0):=by
    by_cases hy:p y = true
    ·rw [if_pos hy,if_pos (hpq y hy)];exact Nat.le_refl _
    ·rw [if_neg hy];exact Nat.zero_le _
   omega
def cnt (s:List ABind) (rk:Str→Nat) (v:Str):Nat:=s.countP fun b=>decide (rk b.name≤rk v)
theorem cnt_le (s:List ABind) (rk:Str→Nat) (v:Str):cnt s rk v≤s.length:=List.countP_le_length
theorem image_mem2 {s:List ABind} {v:Str} {t:Term} (h:image s v = some t):⟨v,t⟩∈s:=by
 obtain ⟨b,hb,h1,h2⟩:=image_mem h
 subst h1;subst h2;exact hb
theorem UOk.cnt_lt {s:List ABind} {σ:Sub} {rk:Str→Nat} (h:UOk s σ rk) {v w:Str} {t:Term} (hi:image s v = some t) (hw:occ w t = true):cnt s rk w < cnt s rk v:=by
 have:=h.low v t hi w hw
 refine countP_lt (image_mem2 hi) (fun y hy=>?_) (by simp) (by simp;exact this)
 simp only [decide_eq_true_eq] at hy ⊢
 omega
theorem UOk.deep {s:List ABind} {σ:Sub} {rk:Str→Nat} (h:UOk s σ rk) {D:Nat} (hD:∀ v t,image s v = some t→depth t≤D):∀ v,depth (σ v)≤cnt s rk v * D+1:=by
 refine h.ind fun v ih=>?_
 cases hi:image s v with
 | none=>rw [h.free v hi];show depth (varT v)≤_;simp [varT,depth,depths]
 | some t =>
  rw [h.fix v t hi]
  obtain ⟨c,hc⟩:∃ c,cnt s rk v = c+1 ∨ cnt s rk v = 0:=by
   cases hz:cnt s rk v with
   | zero=>exact ⟨0,.inr rfl⟩
   | succ c=>exact ⟨c,.inl rfl⟩
  rcases hc with hc | hc
  ·have h1:=depth_app (σ:=σ) (M:=c * D+1) t fun w hw=>by
    have h2:=ih t w hi hw
    have h3:=h.cnt_lt hi hw
    have h4:cnt s rk w * D≤c * D:=Nat.mul_le_mul_right D (by omega)
    omega
   have h2:=hD v t hi
   rw [hc,Nat.succ_mul]
   omega
  ·have h1:=depth_app (σ:=σ) (M:=0) t fun w hw=>by
    have h3:=h.cnt_lt hi hw
    omega
   exfalso
   have:0 < cnt s rk v:=List.countP_pos_iff.2 ⟨_,image_mem2 hi,by simp⟩
   omega
theorem sorted_ext:∀ {a b:List ABind},Sorted a→Sorted b→(∀ x,x∈a ↔ x∈b)→a = b
 | [],[],_,_,_=>rfl
 | [],y :: b,_,_,h=>by have:=(h y).2 (by simp);cases this
 | x :: a,[],_,_,h=>by have:=(h x).1 (by simp);cases this
 | x :: a,y :: b,ha,hb,h=>by
  obtain ⟨h1,h2⟩:=List.pairwise_cons.1 ha
  obtain ⟨h3,h4⟩:=List.pairwise_cons.1 hb
  have e:x = y:=by
   rcases List.mem_cons.1 ((h x).1 (by simp)) with e | hx
   ·exact e
   ·rcases List.mem_cons.1 ((h y).2 (by simp)) with e | hy
    ·exact e.symm
    ·exact absurd (slt_trans (h1 y hy) (h3 x hx)) (slt_irrefl _)
  subst e
  congr 1
  refine sorted_ext h2 h4 fun z=>⟨fun hz=>?_,fun hz=>?_⟩
  ·rcases List.mem_cons.1 ((h z).1 (by simp [hz])) with e | h
   ·subst e;exact absurd (h1 z hz) (slt_irrefl _)
   ·exact h
  ·rcases List.mem_cons.1 ((h z).2 (by simp [hz])) with e | h
   ·subst e;exact absurd (h3 z hz) (slt_irrefl _)
   ·exact h
abbrev sHl (m:TM) (d:DM) (out:List ABind) (kn:MM) (J:List Ob):List Ob:=uHl m d (rowB out :: .map (encS encMt kn) :: J)
theorem take_s (m:TM) (d:DM) (out:List ABind) (kn kn':MM) (J:List Ob):takeB [0,1,2,4] (sHl m d out kn J) (kH m d kn') = sHl m d out kn' J:=by
 apply List.ext_getElem?
 intro i
 rw [takeB_get (by simp)]
 have h0:∀ n,back [0,1,2,4] n 0 = some 0:=fun _=>rfl
 have h1:∀ n,back [0,1,2,4] n 1 = some 1:=fun _=>rfl
 match i with
 | 0=>rw [if_pos (by simp)];show some (renOb _ (.map (encS encT m))) = some _;push_cast
 | 1=>rw [if_pos (by simp)];show some (renOb _ (.map (encQ encU d))) = some _;push_cast
 | 2=>rw [if_pos (by simp)];show some (renOb _ (.cells t_unify_unifier [.map 0,.map 1])) = some _;push_cast [h0,h1]
 | 3=>rw [if_pos (by simp)];rfl
 | 4=>rw [if_pos (by simp)];show some (renOb _ (.map (encS encMt kn'))) = some _;push_cast
 | i+5 =>
  have hp:pos? [0,1,2,4] (i+5) = none:=by simp [pos?,List.findIdx?_cons]
  by_cases h:i < J.length
  ·rw [if_pos (by simp;omega),hp]
   simp [List.getD_eq_getElem?_getD,h]
  ·rw [if_neg (by simp;omega)]
   have e1:(sHl m d out kn' J)[i+5]? = none:=List.getElem?_eq_none (by simp;omega)
   have e2:(kH m d kn')[[0,1,2,4].length+(i+5 - (sHl m d out kn J).length)]? = none:=List.getElem?_eq_none (by simp)
   rw [e1,e2];rfl
theorem give_s (m:TM) (d:DM) (out:List ABind) (kn:MM) (J:List Ob):give [0,1,2,4] (sHl m d out kn J) = kH m d kn:=by
 show [renOb (pos? [0,1,2,4]) (.map (encS encT m)),renOb (pos? [0,1,2,4]) (.map (encQ encU d)),renOb (pos? [0,1,2,4]) (.cells t_unify_unifier [.map 0,.map 1]),renOb (pos? [0,1,2,4]) (.map (encS encMt kn))] = _
 have h0:pos? [0,1,2,4] 0 = some 0:=rfl
 have h1:pos? [0,1,2,4] 1 = some 1:=rfl
 push_cast [h0,h1]
theorem take_b (m:TM) (d:DM) (out out':List ABind) (kn:MM) (J:List Ob):takeB [3] (sHl m d out kn J) [rowB out'] = sHl m d out' kn J:=by
 apply List.ext_getElem?
 intro i
 rw [takeB_get (by simp)]
 match i with
 | 0=>rw [if_pos (by simp)];rfl
 | 1=>rw [if_pos (by simp)];rfl
 | 2=>rw [if_pos (by simp)];rfl
 | 3=>rw [if_pos (by simp)];show some (renOb _ (rowB out')) = some _;rw [renOb_row,rens_cBs]
 | i+4 =>
  have hp:pos? [3] (i+4) = none:=by simp [pos?,List.findIdx?_cons]
  by_cases h:i+4 < (sHl m d out kn J).length
  ·rw [if_pos h,hp]
   simp only [List.length_cons] at h
   have h2:i+1 < (Ob.map (encS encMt kn) :: J).length+1:=by simp;omega
   simp only [List.getD_eq_getElem?_getD,List.getElem?_cons_succ]
   cases hx:(Ob.map (encS encMt kn) :: J)[i]? with
   | none=>rw [List.getElem?_eq_none_iff] at hx;simp at hx;omega
   | some y=>rfl
  ·rw [if_neg h]
   have e1:(sHl m d out' kn J)[i+4]? = none:=List.getElem?_eq_none (by simp at h ⊢;omega)
   have e2:([rowB out']:List Ob)[[3].length+(i+4 - (sHl m d out kn J).length)]? = none:=List.getElem?_eq_none (by simp)
   rw [e1,e2];rfl
theorem give_b (m:TM) (d:DM) (out:List ABind) (kn:MM) (J:List Ob):give [3] (sHl m d out kn J) = [rowB out]:=by
 show [renOb (pos? [3]) (rowB out)] = _
 rw [renOb_row,rens_cBs]
section
variable {N:Nat→C} {B:Nat} {k:List K} {t:T} {Q:X→T→List Ob→Prop} {dd:Option Nat} {l:List S} {f:Nat} {m:TM} {d:DM} {out out':List ABind} {kn:MM} {J:List Ob}
theorem callG_s {z:Term} {R:V→MM→Prop} (h:Spec prog f [.ptr 2 0,encT z,.map 3] (kH m d kn) fun x' H'=>∃ kn',R x' kn'∧H' = kH m d kn') (k':∀ x' kn',R x' kn'→Run prog N B (.r l :: k) (setO dd (ren (back [0,1,2,4] (J.length+5)) x') t) (sHl m d out kn' J) Q):CallG prog N B dd l k t Q (.func f) [.ptr 2 0,encT z,.map 4] (sHl m d out kn J):=by
 have h2:pos? [0,1,2,4] 2 = some 2:=rfl
 have h3:pos? [0,1,2,4] 4 = some 3:=rfl
 refine CallG.some [0,1,2,4] (by simp) (by simp) (R:=fun x' H'=>∃ kn',R x' kn'∧H' = kH m d kn') (by rw [give_s];push_cast [h2,h3];exact h) ?_
 rintro x' H' ⟨kn',hr,rfl⟩ _
 rw [take_s];exact k' x' kn' hr
theorem callG_b {v:Str} {z:Term} {n:Nat} (h:Spec prog f [.rw 0 4 n,.str v,encT z] [rowB out] fun x' H'=>x' = .rw 0 4 (n+1)∧H' = [rowB out']) (k':Run prog N B (.r l :: k) (setO dd (.rw 3 4 (n+1)) t) (sHl m d out' kn J) Q):CallG prog N B dd l k t Q (.func f) [.rw 3 4 n,.str v,encT z] (sHl m d out kn J):=by
 have h3:pos? [3] 3 = some 0:=rfl
 have h0:∀ n,back [3] n 0 = some 3:=fun _=>rfl
 refine CallG.some [3] (by simp) (by simp) (R:=fun x' H'=>x' = .rw 0 4 (n+1)∧H' = [rowB out']) (by rw [give_b];push_cast [h3];exact h) ?_
 rintro x' H' ⟨rfl,rfl⟩ _
 rw [take_b];push_cast [h0];exact k'
end
end Go.Dw
end
section
namespace Go.Dw
theorem image_bound {s:List ABind} (hs:Sorted s) {v:Str} (h:∀ b∈s,b.name ≠ v):image s v = none:=by
 cases hi:image s v with
 | none=>rfl
 | some t=>exact absurd rfl (h _ (image_mem2 hi))
theorem mem_bindT {s:List ABind} {v:Str} {t:Term} {b:ABind}:b∈bindT s v t ↔ b∈s ∨ b = ⟨v,t⟩:=by
 constructor
 ·exact bindT_mem
 ·intro h
  unfold bindT
  rw [List.mem_append,List.mem_cons]
  rcases h with h | h
  ·rw [← List.take_append_drop (lbd v s) s,List.mem_append] at h
   rcases h with h | h
   ·exact .inl h
   ·exact .inr (.inr h)
  ·exact .inr (.inl h)
theorem keys_len {s:List ABind} {m:TM} (h:MR s m) (hs:Sorted s):m.length≤s.length:=by
 have h1:(m.map (·.1)).Nodup:=h.2
 have h2:=h1.length_le_of_subset (l₂:=s.map (·.name)) fun v hv=>by
  obtain ⟨p,hp,rfl⟩:=List.mem_map.1 hv
  have h3:=getK_of_mem h.2 (k:=p.1) (x:=p.2) hp
  rw [h.1] at h3
  exact List.mem_map.2 ⟨_,image_mem2 h3,rfl⟩
 simpa using h2
section
variable {s:List ABind} {σ:Sub} {rk:Str→Nat} (hu:UOk s σ rk) {m:TM} {d:DM} (hm:MR s m) (hwb:WB s) {D:Nat} (hD:∀ v,depth (σ v)≤D) (hDb:D < 2^60) (hlen:s.length < 2^38)
include hu hm hwb hD hDb hlen
theorem solve_range (hsig:sigma s = σ):unify_Solve.L3 (.ptr 2 0) (.rw 3 4 0) (.map 4) (.it 5) 0 (sHl m d [] [] [.iter (some 0) m.length []]) (Ends 0 unify_Solve.rs fun x H'=>x = (if hugeS s then .tup [encBs [],.bool false,.int .i64 3] else .tup [encBs (wholeS s),.bool true,.int .i64 0])∧H' = []):=by
 have hml:=keys_len hm hu.srt
 have hel:(encS encT m).length = m.length:=encS_len _ _
 have hkey:∀ {i j:Nat},i < m.length→j < m.length→(m.getD i default).1 = (m.getD j default).1→i = j:=fun {i j} hi hj e=>by
  have h1:(m.map (·.1)).Nodup:=hm.2
  have:=(List.getElem_inj (i:=i) (j:=j) (h₀:=by simpa using hi) (h₁:=by simpa using hj) h1).1
  simp only [List.getElem_map] at this
  exact this (by simpa [List.getD_eq_getElem?_getD,hi,hj] using e)
 have himg:∀ {i:Nat},i < m.length→image s (m.getD i default).1 = some (m.getD i default).2:=fun {i} hi=>by
  rw [← hm.1]
  exact getK_of_mem hm.2 (getD_mem hi)
 refine range_up m.length (fun seen=>∀ (out:List ABind) (kn:MM),Sorted out→out.length = seen.length→(∀ b,b∈out ↔ ∃ i∈seen,b = ⟨(m.getD i default).1,σ (m.getD i default).1⟩)→(∀ i∈seen,fits (σ (m.getD i default).1) = true)→KnOk σ kn →
  unify_Solve.L3 (.ptr 2 0) (.rw 3 4 seen.length) (.map 4) (.it 5) 0 (sHl m d out kn [.iter (some 0) m.length seen]) (Ends 0 unify_Solve.rs fun x H'=>x = (if hugeS s then .tup [encBs [],.bool false,.int .i64 3] else .tup [encBs (wholeS s),.bool true,.int .i64 0])∧H' = [])) ?_ [] [] List.Pairwise.nil rfl (by simp) (by simp) (fun v p h=>by cases h)
 intro seen hnd hlt hl ih out kn hso hlo hmem hfit hkn
 refine unify_Solve.G3 ?_
 push_cast
 refine nxP_of 0 m.length seen (encS encT m) rfl rfl hel.symm (fun hall=>?_) (fun k p hp hk=>?_)
 ·have hout:out = wholeS s:=by
   refine sorted_ext hso ?_ fun x=>?_
   ·unfold wholeS Sorted
    rw [List.pairwise_map]
    exact hu.srt
   ·rw [hmem]
    unfold wholeS
    rw [List.mem_map,hsig]
    constructor
    ·rintro ⟨i,hi,rfl⟩
     exact ⟨_,image_mem2 (himg (hlt i hi)),rfl⟩
    ·rintro ⟨b,hb,rfl⟩
     have h1:=image_of_mem hu.srt hb
     rw [← hm.1] at h1
     obtain ⟨i,hi,e⟩:=List.getElem_of_mem (getK_mem h1)
     refine ⟨i,hall i hi,?_⟩
     have:(m.getD i default) = (b.name,b.term):=by simp [List.getD_eq_getElem?_getD,hi,e]
     rw [this]
  have hhu:hugeS s = false:=by
   unfold hugeS
   rw [List.any_eq_false]
   intro b hb
   have h1:(⟨b.name,σ b.name⟩:ABind)∈out:=by
    rw [hout];unfold wholeS;rw [hsig];exact List.mem_map_of_mem (f:=fun b:ABind=>(⟨b.name,σ b.name⟩:ABind)) hb
   obtain ⟨i,hi,e⟩:=(hmem _).1 h1
   have:=hfit i hi
   injection e with e1 e2
   rw [hsig,e2,this];simp
  rw [hhu]
  have hlo':(wholeS s).length = seen.length:=by rw [← hout,hlo]
  rw [hout]
  push_cast
  exact ⟨by simp [hlo'],pf_ret (by push_cast [unify_Solve.rs];rfl)⟩
 ·have hkl:k < m.length:=by rw [← hel];exact (List.getElem?_eq_some_iff.1 hp).1
  have hpe:p = (.str (m.getD k default).1,encT (m.getD k default).2):=by
   unfold encS at hp
   rw [List.getElem?_map] at hp
   simp [hkl] at hp
   rw [← hp];simp [List.getD_eq_getElem?_getD,hkl]
  subst hpe
  have hi:=himg hkl
  have hen:∀ (J:List Ob),enV (sHl m d out kn (.iter (some 0) m.length (seen++[k]) :: J)) (.it 5) = some (.tup [.str (m.getD k default).1,encT (m.getD k default).2]):=fun J=>by
   simp [enV,hel,hp]
  generalize hv:(m.getD k default).1 = v at hi hen
  obtain ⟨n,hn⟩:=hu.need (varT v)
  have hdv:depth (app σ (varT v))≤D:=by rw [app_var rfl];exact hD v
  have hM:=unify_measure_s hu (d:=d) hm.1 hwb n (varT v) kn hn rfl (by simp [varT,wide,wides]) (by omega) hkn
  have hW:=unify_whole_s hu (d:=d) hm.1 hwb n (varT v) hn rfl (by simp [varT,wide,wides])
  rw [app_var (t:=varT v) rfl] at hW
  have hz:V.agg [.str v,.bool true,.sl 3 []] = encT (varT v):=rfl
  have hmt:mtr σ (varT v) = (min (size (σ v)) 4001,depth (σ v)):=by unfold mtr;rw [app_var (t:=varT v) rfl];rfl
  rw [hmt] at hM
  have hfe:fits (σ v) = (decide (size (σ v)≤4000) && decide (depth (σ v)≤200)):=rfl
  generalize hp1:min (size (σ v)) 4001 = p1 at hM
  generalize hp2:depth (σ v) = p2 at hM hfe
  push_cast [hen]
  rw [hz]
  refine callG_s (J:=[_,_]) (R:=fun x' kn'=>x' = encMt (p1,p2)∧KnOk σ kn') hM ?_
  rintro x' kn' ⟨rfl,hkn'⟩
  by_cases hf:fits (σ v) = true
  ·have hf2:=hf
   rw [hfe,Bool.and_eq_true,decide_eq_true_eq,decide_eq_true_eq] at hf2
   have c1:((4000:Int) < (p1:Int)) = False:=eq_false (by omega)
   have c2:((200:Int) < (p2:Int)) = False:=eq_false (by omega)
   push_cast [encMt,c1,c2]
   rw [hz]
   have p2':pos? [0,1,2] 2 = some 2:=rfl
   refine callG_ul (J:=[_,_,_,_,_]) (by push_cast [p2']) hW ?_
   push_cast
   rw [← hlo]
   refine callG_b (J:=[_,_,_]) (unify_bind_row out v _ hso (by omega)) ?_
   have hnew:image out v = none:=image_bound hso fun b hb e=>by
    obtain ⟨i,hi2,rfl⟩:=(hmem b).1 hb
    have:=hkey (hlt i hi2) hkl (e.trans hv.symm)
    exact hk (this ▸ hi2)
   have:=ih k hkl hk (bindT out v (σ v)) kn' (bindT_sorted hso hnew) (by rw [bindT_len,hlo];simp) (fun b=>by
    rw [mem_bindT,hmem]
    constructor
    ·rintro (⟨i,hi2,rfl⟩ | rfl)
     ·exact ⟨i,by simp [hi2],rfl⟩
     ·exact ⟨k,by simp,by rw [hv]⟩
    ·rintro ⟨i,hi2,rfl⟩
     rcases List.mem_append.1 hi2 with h | h
     ·exact .inl ⟨i,h,rfl⟩
     ·rw [List.mem_singleton.1 h];exact .inr (by rw [hv])) (fun i hi2=>by
    rcases List.mem_append.1 hi2 with h | h
    ·exact hfit i h
    ·rw [List.mem_singleton.1 h,hv];exact hf) hkn'
   have hsl:(seen++[k]).length = out.length+1:=by simp [hlo]
   rw [hsl] at this
   push_cast
   push_cast at this
   exact this
  ·have hhu:hugeS s = true:=by
    unfold hugeS
    rw [List.any_eq_true]
    refine ⟨_,image_mem2 hi,?_⟩
    rw [hsig];simp [hf]
   rw [hhu,if_pos rfl]
   have hf2:¬ (size (σ v)≤4000∧p2≤200):=fun h=>hf (by rw [hfe];simp [h])
   by_cases h1:size (σ v)≤4000
   ·have c1:((4000:Int) < (p1:Int)) = False:=eq_false (by omega)
    have c2:((200:Int) < (p2:Int)) = True:=eq_true (by omega)
    push_cast [encMt,c1,c2]
    exact pf_ret (by push_cast [unify_Solve.rs];rfl)
   ·have c1:((4000:Int) < (p1:Int)) = True:=eq_true (by omega)
    push_cast [encMt,c1]
    exact pf_ret (by push_cast [unify_Solve.rs];rfl)
end
def encUn (r:List ABind × Bool × Int):V:=.tup [encBs r.1,.bool r.2.1,.int .i64 r.2.2]
structure SolveOk (l:List ARule) (Vs:List Str) (D:Nat):Prop where
 am:∀ x∈l,Among Vs x.left∧Among Vs x.right
 wd:∀ x∈l,wide x.left < 2^40∧wide x.right < 2^40
 dp:∀ x∈l,depth x.left≤D∧depth x.right≤D
 vs:Vs.length < 2^28
 hd:D < 2^28
 len:l.length < 2^40
theorem unify_Solve_s (l:List ARule) (Vs:List Str) (D:Nat) (h:SolveOk l Vs D):PF n_unify_Solve [encRs l] (encUn (unifE (l.map (·.left)) (l.map (·.right)))):=by
 obtain ⟨n,r,hr⟩:=solvesW_ends Vs (l.map (·.left)) (l.map (·.right)) [] varT (fun _=>0) UOk.nil (fun v t h=>by cases h) (by simp only [List.mem_map];rintro z ⟨x,hx,rfl⟩;exact (h.am x hx).1) (by simp only [List.mem_map];rintro z ⟨x,hx,rfl⟩;exact (h.am x hx).2)
 have hS:=solveS_eq hr
 have hlv:=h.len
 have p2:pos? [0,1,2] 2 = some 2:=rfl
 refine pf_of unify_Solve.ok rfl ?_
 push_cast
 refine loop_up (n:=l.length) (R:=fun k=>∀ (s:List ABind) (σ:Sub) (rk:Str→Nat) (m:TM) (d:DM),UOk s σ rk→MR s m→WB s→(∀ v t,image s v = some t→depth t≤D)→(∀ v t,image s v = some t→Among Vs t∧v∈Vs)→(∀ k,(getK d k).isSome = true→DoneK s k) →
   solvesW (solveN n) s ((l.map (·.left)).drop k) ((l.map (·.right)).drop k) = some r→unify_Solve.L7 (.ptr 2 0) (encRs l) (.int .i64 l.length) (.int .i64 k) 0 (uHl m d []) (Ends 0 unify_Solve.rs fun x H'=>x = encUn (unifE (l.map (·.left)) (l.map (·.right)))∧H' = [])) ?_ ?_ 0 (by omega)
  [] varT (fun _=>0) [] [] UOk.nil ⟨fun v=>rfl,List.nodup_nil⟩ (fun v t h=>by cases h) (fun v t h=>by cases h) (fun v t h=>by cases h) (fun k h=>by cases h) hr
 ·intro k hk ih s σ rk m d hu hm hwb hdp ham hdone hsol
  have hme:=getD_mem hk
  have e1:(l.map (·.left)).getD k default = (l.getD k default).left:=by simp [List.getD_eq_getElem?_getD,hk]
  have e2:(l.map (·.right)).getD k default = (l.getD k default).right:=by simp [List.getD_eq_getElem?_getD,hk]
  rw [drop_getD (show k < (l.map (·.left)).length by simpa using hk),drop_getD (show k < (l.map (·.right)).length by simpa using hk),e1,e2] at hsol
  generalize hx:l.getD k default = x at hme hsol
  obtain ⟨hal,har⟩:=h.am x hme
  obtain ⟨hwl,hwr⟩:=h.wd x hme
  obtain ⟨hdl,hdr⟩:=h.dp x hme
  simp only [solvesW] at hsol
  cases hf:solveN n s x.left x.right with
  | none=>rw [hf] at hsol;cases hsol
  | some p =>
   obtain ⟨s1,ok⟩:=p
   rw [hf] at hsol
   obtain ⟨σ1,rk1,hok⟩:=solveN_ok n s σ rk x.left x.right (s1,ok) hu hal.1 har.1 hf
   have hc:=unify_solve_s n s σ rk m d x.left x.right (s1,ok) hu hm hwb hal.1 har.1 hwl hwr hf fun k hk=>.inl (hdone k hk)
   refine unify_Solve.G7 ?_
   push_cast [ilt hk,hx]
   refine callG_u (J:=[_]) (by push_cast [p2]) hc ?_
   rintro x' m1 d1 ⟨rfl,hR⟩
   cases ok with
   | false =>
    simp only [Option.some.injEq] at hsol
    have hu2:unifE (l.map (·.left)) (l.map (·.right)) = ([],false,0):=by unfold unifE;rw [hS,← hsol];rfl
    push_cast
    rw [hu2]
    exact pf_ret (by push_cast [unify_Solve.rs];rfl)
   | true =>
    obtain ⟨hm1,hk1⟩:=hR rfl
    push_cast [w64 (show k < 2^62 by omega)]
    have:=ih s1 σ1 rk1 m1 d1 hok.ok hm1 (hwb.solve hwl hwr hf)
     (fun v t hv=>(solveN_keep (P:=fun t=>depth t≤D) (Q:=fun _=>True) (fun t a h ha=>by have:=depth_args t;have:=depth_mem ha;omega) (fun _ _ _=>trivial) n s x.left x.right _ (fun v t hv=>⟨hdp v t hv,trivial⟩) hdl hdr hf v t hv).1)
     (among_keep ham hal har hf) (fun k hk=>by
      rcases hk1 k hk with h | h
      ·exact fun θ hθ=>hdone k h θ (hθ.mono hok.ext)
      ·exact h) hsol
    push_cast at this
    exact this
 ·intro s σ rk m d hu hm hwb hdp ham hdone hsol
  have e1:(l.map (·.left)).drop l.length = []:=by rw [List.drop_eq_nil_of_le];simp
  rw [e1] at hsol
  simp only [solvesW,Option.some.injEq] at hsol
  have hlen:=among_names hu.srt ham
  have hvs:=h.vs
  have hhd:=h.hd
  have hsig:=sigma_eq hu
  have hDb:s.length * D+1 < 2^60:=by
   have:s.length * D≤2^28 * 2^28:=Nat.mul_le_mul (by omega) (by omega)
   omega
  have hq:=solve_range hu (d:=d) hm hwb (D:=s.length * D+1) (fun v=>by
   have h1:=hu.deep hdp v
   have h2:cnt s rk v * D≤s.length * D:=Nat.mul_le_mul_right D (cnt_le s rk v)
   omega) hDb (by omega) hsig
  have hu2:encUn (unifE (l.map (·.left)) (l.map (·.right))) = (if hugeS s then .tup [encBs [],.bool false,.int .i64 3] else .tup [encBs (wholeS s),.bool true,.int .i64 0]):=by
   unfold unifE
   rw [hS,← hsol]
   simp only [Bool.true_eq_false,if_false]
   cases hugeS s <;> rfl
  rw [hu2]
  refine unify_Solve.G7 ?_
  push_cast [inlt (Nat.le_refl _),encS_len]
  exact hq
end Go.Dw
end
section
namespace Go.Dw
def cNt (n:Nat):List V:=[.int .i64 n]
theorem rens_cNt {σ:Nat→Option Nat} (l:List Nat):(l.map cNt).map (rens σ) = l.map cNt:=by rw [List.map_map];rfl
attribute [push_cast] rens_cNt
end Go.Dw
end
section
namespace Go.Dw
theorem wide_size (t:Term):wide t≤size t:=by
 induction t using term_ind with
 | h t ih =>
 have h1:=size_args t
 have h2:=length_le_sizes t.args
 have key:∀ l:List Term,(∀ a∈l,wide a≤size a)→wides l≤sizes l:=by
  intro l
  induction l with
  | nil=>intro _;simp [wides,sizes]
  | cons a l ihl =>
   intro h
   have:=h a (by simp)
   have:=ihl fun b hb=>h b (by simp [hb])
   simp only [wides,sizes];omega
 have h3:=key t.args ih
 have h4:wide t = max t.args.length (wides t.args):=by cases t;rfl
 omega
theorem occ_short {v:Str} (t:Term):short t = true→occ v t = true→v.length≤24:=by
 induction t using term_ind with
 | h t ih =>
 intro h ho
 obtain ⟨h1,h2,h3⟩:=short_iff.1 h
 rcases uocc_iff.1 ho with ⟨_,e⟩ | ⟨a,ha,ho⟩
 ·rw [← e];exact h1
 ·exact ih a ha (h3 a ha) ho
theorem solvesW_keep {P:Term→Prop} {Q:Str→Prop} (hP:∀ t a,P t→a∈t.args→P a) (hQ:∀ t,P t→t.var = true→Q t.name) {n:Nat}:∀ (l m:List Term) (s:List ABind) (r:List ABind × Bool),(∀ v t,image s v = some t→P t∧Q v)→(∀ a∈l,P a)→(∀ b∈m,P b)→solvesW (solveN n) s l m = some r→∀ v t,image r.1 v = some t→P t∧Q v
 | [],m,s,r,hs,_,_,h=>by simp only [solvesW,Option.some.injEq] at h;subst h;exact hs
 | a :: l,[],s,r,hs,_,_,h=>by simp only [solvesW,Option.some.injEq] at h;subst h;exact hs
 | a :: l,b :: m,s,r,hs,hl,hm,h=>by
  simp only [solvesW] at h
  cases hf:solveN n s a b with
  | none=>rw [hf] at h;cases h
  | some p =>
   obtain ⟨s1,ok⟩:=p
   rw [hf] at h
   have h1:=solveN_keep hP hQ n s a b _ hs (hl a (by simp)) (hm b (by simp)) hf
   cases ok with
   | false=>simp only [Option.some.injEq] at h;subst h;exact h1
   | true=>exact solvesW_keep hP hQ l m s1 r h1 (fun x hx=>hl x (by simp [hx])) (fun x hx=>hm x (by simp [hx])) h
theorem short_app {f:Sub} (t:Term):short t = true→(∀ v,occ v t = true→short (f v) = true)→short (app f t) = true:=by
 induction t using term_ind with
 | h t ih =>
 intro ht h
 obtain ⟨h1,h2,h3⟩:=short_iff.1 ht
 cases hv:t.var with
 | true=>rw [app_var hv];exact h _ (uocc_iff.2 (.inl ⟨hv,rfl⟩))
 | false =>
  rw [app_fun hv]
  refine short_iff.2 ⟨h1,(fun e=>by cases e),fun a ha=>?_⟩
  simp only [Term.args,List.mem_map] at ha
  obtain ⟨b,hb,rfl⟩:=ha
  exact ih b hb (h3 b hb) fun v hv=>h v (uocc_iff.2 (.inr ⟨b,hb,hv⟩))
theorem UOk.short {s:List ABind} {σ:Sub} {rk:Str→Nat} (h:UOk s σ rk) (hs:∀ v t,image s v = some t→Dw.short t = true) (v:Str):v.length≤24→Dw.short (σ v) = true:=by
 revert v
 refine h.ind fun v ih=>?_
 intro hv
 cases hi:image s v with
 | none =>
  rw [h.free v hi]
  exact short_iff.2 ⟨hv,fun _=>rfl,fun a ha=>by cases ha⟩
 | some t =>
  rw [h.fix v t hi]
  exact short_app t (hs v t hi) fun w hw=>ih t w hi hw (occ_short t (hs v t hi) hw)
structure GoodT (t:Term):Prop where
 sh:short t = true
 sz:size t≤4000
 dp:depth t≤200
theorem GoodT.vf {t:Term} (h:GoodT t):vfl t = true:=short_vfl t h.sh
theorem GoodT.tb {t:Term} (h:GoodT t):tb t < 2^20:=by have:=tb_short t h.sh;have:=h.sz;omega
theorem GoodT.of_check {t:Term} (h:check t = 0):GoodT t:=by
 obtain ⟨h1,h2⟩:=check_iff.1 h
 unfold fits at h2
 rw [Bool.and_eq_true,decide_eq_true_eq,decide_eq_true_eq] at h2
 exact ⟨formed_short t h1,h2.1,h2.2⟩
def vs2 (a b:Term):List Str:=varsT a++varsT b
theorem vs2_len {a b:Term} (ha:GoodT a) (hb:GoodT b):(vs2 a b).length≤8000:=by
 have h1:=collectT_len a []
 have h2:=collectT_len b []
 have h3:=ha.sz
 have h4:=hb.sz
 unfold vs2
 rw [List.length_append]
 have e1:varsT a = collectT [] a:=rfl
 have e2:varsT b = collectT [] b:=rfl
 rw [e1,e2]
 simp only [List.length_nil] at h1 h2
 omega
theorem vs2_mem {a b:Term} {w:Str}:w∈vs2 a b ↔ occ w a = true ∨ occ w b = true:=by
 unfold vs2
 rw [List.mem_append]
 have h1:=mem_collectT w a []
 have h2:=mem_collectT w b []
 simp only [List.not_mem_nil,false_or] at h1 h2
 exact or_congr h1 h2
theorem solveOk2 {a b:Term} (ha:GoodT a) (hb:GoodT b):SolveOk [⟨a,b⟩] (vs2 a b) 200:=by
 have hl:=vs2_len ha hb
 have h1:=wide_size a
 have h2:=wide_size b
 have h3:=ha.sz
 have h4:=hb.sz
 refine ⟨fun x hx=>?_,fun x hx=>?_,fun x hx=>?_,by omega,by omega,by simp⟩
 all_goals rw [List.mem_singleton.1 hx]
 ·exact ⟨⟨ha.vf,fun w hw=>vs2_mem.2 (.inl hw)⟩,⟨hb.vf,fun w hw=>vs2_mem.2 (.inr hw)⟩⟩
 ·exact ⟨by show wide a < _;omega,by show wide b < _;omega⟩
 ·exact ⟨ha.dp,hb.dp⟩
theorem vs2_short {a b:Term} (ha:GoodT a) (hb:GoodT b):∀ v∈vs2 a b,v.length≤24:=fun v hv=>by
 rcases vs2_mem.1 hv with h | h
 ·exact occ_short a ha.sh h
 ·exact occ_short b hb.sh h
noncomputable abbrev unif1 (a b:Term):List ABind × Bool × Int:=unifE [a] [b]
theorem program_unif {a b:Term} (ha:GoodT a) (hb:GoodT b):PF n_unify_Solve [encRs [⟨a,b⟩]] (encUn (unif1 a b)):=unify_Solve_s _ _ _ (solveOk2 ha hb)
structure UnOk (a b:Term) (s:List ABind):Prop where
 srt:Sorted s
 len:s.length≤8000
 sh:∀ x∈s,short x.term = true∧size x.term≤4000∧x.name.length≤24
 bb:bbs s < 2^34
theorem bbs_le {s:List ABind} {m:Nat} (h:∀ x∈s,1+x.name.length+tb x.term≤m):bbs s≤s.length * m:=by
 induction s with
 | nil=>simp [bbs]
 | cons x s ih =>
  have h1:=h x (by simp)
  have h2:=ih fun y hy=>h y (by simp [hy])
  simp only [bbs,List.length_cons,Nat.succ_mul];omega
theorem unif1_errs (a b:Term):(unif1 a b).2.2 = 0 ∨ ((unif1 a b).2.2 = 3∧(unif1 a b).2.1 = false):=by
 unfold unif1 unifE
 split
 ·exact .inl rfl
 ·split
  ·exact .inr ⟨rfl,rfl⟩
  ·exact .inl rfl
theorem unif1_ok {a b:Term} (ha:GoodT a) (hb:GoodT b) (h:(unif1 a b).2.1 = true):UnOk a b (unif1 a b).1∧(unif1 a b).2.2 = 0∧(unif1 a b).1 = wholeS (solveS [a] [b]).1:=by
 obtain ⟨n,r,hr⟩:=solvesW_ends (vs2 a b) [a] [b] [] varT (fun _=>0) UOk.nil (fun v t h=>by cases h) (fun z hz=>by rw [List.mem_singleton.1 hz];exact ⟨ha.vf,fun w hw=>vs2_mem.2 (.inl hw)⟩) (fun z hz=>by rw [List.mem_singleton.1 hz];exact ⟨hb.vf,fun w hw=>vs2_mem.2 (.inr hw)⟩)
 have hS:=solveS_eq hr
 obtain ⟨rk,hu,ham,_,_⟩:=solveS_ok (Vs:=vs2 a b) (l:=[a]) (m:=[b]) (fun z hz=>by rw [List.mem_singleton.1 hz];exact ⟨ha.vf,fun w hw=>vs2_mem.2 (.inl hw)⟩) (fun z hz=>by rw [List.mem_singleton.1 hz];exact ⟨hb.vf,fun w hw=>vs2_mem.2 (.inr hw)⟩) rfl
 have hk:=solvesW_keep (P:=fun t=>short t = true) (Q:=fun _=>True) (fun t a h ha=>(short_iff.1 h).2.2 a ha) (fun _ _ _=>trivial) [a] [b] [] r (fun v t h=>by cases h) (fun z hz=>by rw [List.mem_singleton.1 hz];exact ha.sh) (fun z hz=>by rw [List.mem_singleton.1 hz];exact hb.sh) hr
 rw [← hS] at hk
 unfold unif1 unifE at h ⊢
 generalize solveS [a] [b] = q at h hu ham hk
 by_cases c1:q.2 = false
 ·rw [if_pos c1] at h;cases h
 ·rw [if_neg c1] at h ⊢
  by_cases c2:hugeS q.1 = true
  ·rw [if_pos c2] at h;cases h
  ·rw [if_neg c2]
   have hlen:=among_names hu.srt ham
   have hv2:=vs2_len ha hb
   have hmem:∀ x∈wholeS q.1,short x.term = true∧size x.term≤4000∧x.name.length≤24:=by
    intro x hx
    unfold wholeS at hx
    obtain ⟨y,hy,rfl⟩:=List.mem_map.1 hx
    have hi:=image_of_mem hu.srt hy
    have hnm:y.name.length≤24:=vs2_short ha hb _ (ham _ _ hi).2
    refine ⟨hu.short (fun v t h=>(hk v t h).1) y.name hnm,?_,hnm⟩
    have c3:hugeS q.1 = false:=by simpa using c2
    unfold hugeS at c3
    rw [List.any_eq_false] at c3
    have:=c3 y hy
    unfold fits at this
    simp only [Bool.not_eq_true,Bool.not_eq_false',Bool.not_not,Bool.and_eq_true,decide_eq_true_eq] at this
    exact this.1
   have hwl:(wholeS q.1).length = q.1.length:=by simp [wholeS]
   refine ⟨⟨?_,by rw [hwl];omega,hmem,?_⟩,rfl,rfl⟩
   ·unfold wholeS Sorted
    rw [List.pairwise_map]
    exact hu.srt
   ·have h1:=bbs_le (s:=wholeS q.1) (m:=100100) fun x hx=>by
     obtain ⟨e1,e2,e3⟩:=hmem x hx
     have:=tb_short x.term e1
     omega
    have h2:(wholeS q.1).length * 100100≤8000 * 100100:=Nat.mul_le_mul_right _ (by rw [hwl];omega)
    show bbs (wholeS q.1) < 2^34
    omega
theorem dig_len2:∀ (k n:Nat),n < 10^(k+1)→(dig n).length≤k+1
 | 0,n,h=>by unfold dig Lib.decDigits;rw [dif_pos (by simpa using h)];simp
 | k+1,n,h=>by
  unfold dig Lib.decDigits
  split
  ·simp
  ·have:=dig_len2 k (n / 10) (by rw [Nat.pow_succ] at h;omega)
   unfold dig at this
   simp only [List.length_append,List.length_singleton];omega
theorem posS_lt {l:List Str} {v:Str} {j:Nat} (h:posS l v = some j):j < l.length:=by
 induction l generalizing j with
 | nil=>cases h
 | cons x l ih =>
  simp only [posS] at h
  split at h
  ·cases h;simp
  ·cases hq:posS l v with
   | none=>rw [hq] at h;cases h
   | some i =>
    rw [hq] at h;cases h
    have:=ih hq
    simp;omega
theorem var_shape {f:Sub} (hf:∀ v,∃ w,f v = varT w) (t:Term):vfl t = true→size (app f t) = size t∧depth (app f t) = depth t:=by
 induction t using term_ind with
 | h t ih =>
 intro ht
 cases hv:t.var with
 | true =>
  rw [app_var hv]
  obtain ⟨w,hw⟩:=hf t.name
  rw [hw,vfl_var ht hv];exact ⟨rfl,rfl⟩
 | false =>
  have key:∀ l:List Term,(∀ a∈l,a∈t.args)→sizes (l.map (app f)) = sizes l∧depths (l.map (app f)) = depths l:=by
   intro l
   induction l with
   | nil=>intro _;exact ⟨rfl,rfl⟩
   | cons a l ihl =>
    intro hl
    have h1:=ih a (hl a (by simp)) (vfl_arg ht (hl a (by simp)))
    have h2:=ihl fun b hb=>hl b (by simp [hb])
    simp only [List.map_cons,sizes,depths,h1,h2,and_self]
  have h3:=key t.args fun _ h=>h
  have e1:=size_args t
  have e2:=depth_args t
  rw [app_fun hv]
  have e3:size (Term.mk t.name false (t.args.map (app f))) = 1+sizes (t.args.map (app f)):=rfl
  have e4:depth (Term.mk t.name false (t.args.map (app f))) = depths (t.args.map (app f))+1:=rfl
  omega
theorem rho_good {pre:Str} (hp:pre.length = 1) {l:List Str} (hl:l.length≤4000) {t:Term} (ht:GoodT t) (hs:Stands l t):GoodT (app (rho pre l) t):=by
 have h1:=var_shape (f:=rho pre l) (fun v=>⟨_,rfl⟩) t ht.vf
 refine ⟨short_app t ht.sh fun v hv=>?_,by rw [h1.1];exact ht.sz,by rw [h1.2];exact ht.dp⟩
 unfold rho
 cases hq:posS l v with
 | none=>exact absurd (hs v hv) (posS_none.1 hq)
 | some j =>
  have h2:=posS_lt hq
  have h3:=dig_len2 3 j (by omega)
  exact short_iff.2 ⟨by show (pre++dig j).length≤24;rw [List.length_append];omega,fun _=>rfl,fun a ha=>by cases ha⟩
structure GoodR (x:ARule):Prop where
 l:GoodT x.left
 r:GoodT x.right
 v:∀ v,occ v x.right = true→occ v x.left = true
theorem renQ_good {pre:Str} (hp:pre.length = 1) {x:ARule} (h:GoodR x):GoodR (renQ pre x):=by
 have hl:(firstT [] x.left).length≤4000:=by have:=firstT_size x.left [];have:=h.l.sz;simp only [List.length_nil] at *;omega
 have hs:=(firstT_pre x.left []).2 h.l.vf
 have hs2:Stands (firstT [] x.left) x.right:=fun v hv=>hs v (h.v v hv)
 refine ⟨rho_good hp hl h.l hs,rho_good hp hl h.r hs2,fun v hv=>?_⟩
 obtain ⟨w,h1,h2⟩:=(occ_app x.right h.r.vf).1 hv
 exact (occ_app x.left h.l.vf).2 ⟨w,h.v w h1,h2⟩
end Go.Dw
end
section
namespace Go.Dw
theorem slices_Clone_int_p (p:List Int) (hp:p.length < 2^40):PF n_slices_Clone_s_int_int [encP p] (encP p):=by
 refine pf_of slices_Clone_s_int_int.ok rfl ?_
 push_cast
 intro c hc
 refine ⟨fun h=>?_,fun h=>⟨by rw [List.length_map];unfold maxEls;omega,?_⟩⟩
 ·have hp0:p = []:=by simpa using hc (by cases c <;> simp_all)
  subst hp0
  exact pf_ret (by push_cast [slices_Clone_s_int_int.rs];rfl)
 ·exact pf_ret (by push_cast [slices_Clone_s_int_int.rs];rfl)
end Go.Dw
end
section
namespace Go.Dw
theorem callG_std {N:Nat→C} {B:Nat} {k:List K} {t:T} {Q:X→T→List Ob→Prop} {dd:Option Nat} {l:List S} (H:List Ob) (k':Run prog N B (.r l :: k) (setO dd (.fn (.func n_term_Standard_1) [] [.ptr (H.length+1) 0]) t) (nHp H [] []) Q):CallG prog N B dd l k t Q (.func n_term_Standard) [] H:=by
 refine CallG.some [] (by simp) (by simp) (R:=fun x' H'=>x' = .fn (.func n_term_Standard_1) [] [.ptr 1 0]∧H' = nH []) ?_ ?_
 ·exact specF_func ▸ term_Standard_s
 rintro x' H' ⟨rfl,rfl⟩ _
 have h0:∀ n,back [] n 0 = some n:=fun n=>rfl
 have h1:∀ n,back [] n 1 = some (n+1):=fun n=>rfl
 have e:takeB [] H (nH []) = nHp H [] []:=by
  unfold takeB
  have e1:takeG [] H ((nH []).map (renOb (back [] H.length))) = H:=by
   unfold takeG
   apply List.ext_getElem?
   intro i
   by_cases hi:i < H.length
   ·simp [pos?,hi,List.getD_eq_getElem?_getD]
   ·simp [hi]
  rw [e1]
  push_cast [h0]
  rfl
 rw [e]
 push_cast [h1] at k' ⊢
 exact k'
abbrev ovZ:List V:=[.int .i64 0,.int .i64 0,.sl 1 [],.str [],.bool false,.sl 3 [],.str [],.bool false,.sl 3 [],.str [],.bool false,.sl 3 []]
abbrev ov4 (W:Term):List Ob:=[.cells t_Overlap ovZ,.dead,.dead,.cells t_Term (cT W)]
theorem ov_args (z:Term):rens (pos? [4,5]) [encT z,V.ptr 5 0] = [encT z,V.ptr 1 0]:=by
 have q5:pos? [4,5] 5 = some 1:=rfl
 push_cast [q5]
structure AOv where
 outer:Int
 inner:Int
 pos:List Int
 peak:Term
 left:Term
 right:Term
def noOv:AOv:=⟨0,0,[],noT,noT,noT⟩
def cOv (o:AOv):List V:=[.int .i64 o.outer,.int .i64 o.inner,encP o.pos]++cT o.peak++cT o.left++cT o.right
def encOv (o:AOv):V:=.agg (cOv o)
theorem ren_encOv {σ:Nat→Option Nat} (o:AOv):ren σ (encOv o) = encOv o:=rfl
noncomputable def overE (a b:ARule) (pos:List Int) (sub:Term):Bool × Int :=
 if (unif1 sub b.left).2.1 = false then (false,(unif1 sub b.left).2.2)
 else if (fits (inst (unif1 sub b.left).1 a.left) && (fits (inst (unif1 sub b.left).1 a.right) && fits (inst (unif1 sub b.left).1 b.right))) = false then (false,3)
 else if fits (setT (inst (unif1 sub b.left).1 a.left) pos (inst (unif1 sub b.left).1 b.right)) = false then (false,3) else (true,0)
noncomputable def ovO (a b:ARule) (pos:List Int) (sub:Term):AOv :=
 if (overE a b pos sub).1 then
  let s:=(unif1 sub b.left).1
  let p:=renT [120] [] (inst s a.left)
  let q:=renT [120] p.1 (inst s a.right)
  ⟨0,0,pos,p.2,q.2,(renT [120] q.1 (setT (inst s a.left) pos (inst s b.right))).2⟩
 else noOv
theorem overlap_one_s {a b:ARule} (ha:GoodR a) (hb:GoodR b) {pos:List Int} (hpos:pos.length < 2^20) {sub:Term} (hsub:GoodT sub) :
  PF n_overlap_one [encR a,encR b,encP pos,encT sub] (.tup [encOv (ovO a b pos sub),.bool (overE a b pos sub).1,.int .i64 (overE a b pos sub).2]):=by
 have hU:=program_unif hsub hb.l
 have hE:=unif1_errs sub b.left
 have hO:=unif1_ok hsub hb.l
 unfold ovO overE
 generalize hu:unif1 sub b.left = u at hU hE hO
 obtain ⟨s,ok,e⟩:=u
 simp only at hE hO
 refine pf_of overlap_one.ok rfl ?_
 push_cast
 refine .of hU ?_
 cases ok with
 | false =>
  simp only [if_true,Bool.false_eq_true,if_false]
  rcases hE with rfl | ⟨rfl,_⟩
  ·push_cast [encUn]
   exact pf_ret (by push_cast [overlap_one.rs];rfl)
  ·push_cast [encUn]
   exact pf_ret (by push_cast [overlap_one.rs];rfl)
 | true =>
  obtain ⟨hs,rfl,_⟩:=hO rfl
  have hI1:=term_Instance_sw s hs.srt hs.bb a.left (by have:=ha.l.tb;omega)
  have hI2:=term_Instance_sw s hs.srt hs.bb a.right (by have:=ha.r.tb;omega)
  have hI3:=term_Instance_sw s hs.srt hs.bb b.right (by have:=hb.r.tb;omega)
  simp only [Bool.true_eq_false,if_false]
  clear hU hE hO hu
  by_cases hf:(fits (inst s a.left) && (fits (inst s a.right) && fits (inst s b.right))) = false
  ·rw [if_pos hf]
   simp only [Bool.false_eq_true,if_false]
   cases f1:fits (inst s a.left) <;> cases f2:fits (inst s a.right) <;> cases f3:fits (inst s b.right)
   case true.true.true=>rw [f1,f2,f3] at hf;cases hf
   all_goals
    rw [f1] at hI1
    rw [f2] at hI2
    rw [f3] at hI3
    simp only [Bool.false_eq_true,if_false,if_true,encTE] at hI1 hI2 hI3
    push_cast [encUn]
    refine .of hI1 ?_
    push_cast
    refine .of hI2 ?_
    push_cast
    refine .of hI3 ?_
    push_cast
    exact pf_ret (by push_cast [overlap_one.rs];rfl)
  ·rw [if_neg hf]
   have hf2:fits (inst s a.left) = true∧fits (inst s a.right) = true∧fits (inst s b.right) = true:=by simpa using hf
   obtain ⟨f1,f2,f3⟩:=hf2
   rw [f1] at hI1
   rw [f2] at hI2
   rw [f3] at hI3
   simp only [if_true,encTE] at hI1 hI2 hI3
   have z1:size (inst s a.left)≤4000:=by unfold fits at f1;simp at f1;exact f1.1
   have z2:size (inst s a.right)≤4000:=by unfold fits at f2;simp at f2;exact f2.1
   have z3:size (inst s b.right)≤4000:=by unfold fits at f3;simp at f3;exact f3.1
   have hSet:=term_Set_s pos (inst s a.left) (inst s b.right) (by omega) (by omega) (by omega)
   have z4:=setT_size pos (inst s a.left) (inst s b.right)
   have hFit:=term_Fit_s (setT (inst s a.left) pos (inst s b.right)) (by omega)
   generalize inst s a.left = P at *
   generalize inst s a.right = L at *
   generalize inst s b.right = R at *
   generalize setT P pos R = W at *
   push_cast [encUn]
   refine .of hI1 ?_
   push_cast
   refine .of hI2 ?_
   push_cast
   refine .of hI3 ?_
   push_cast
   refine .of hSet ?_
   push_cast
   refine .of hFit ?_
   cases f4:fits W with
   | false =>
    push_cast [encTE]
    exact pf_ret (by push_cast [overlap_one.rs];rfl)
   | true =>
    push_cast [encTE]
    have hC:=slices_Clone_int_p pos (by omega)
    have r1:=renT_size [120] P []
    have r2:=renT_size [120] L (renT [120] [] P).1
    simp only [List.length_nil] at r1
    have hN1:=term_Standard_1_s [] P (by simp;omega)
    have hN2:=term_Standard_1_s (renT [120] [] P).1 L (by omega)
    have hN3:=term_Standard_1_s (renT [120] (renT [120] [] P).1 L).1 W (by omega)
    generalize renT [120] [] P = P' at *
    generalize renT [120] P'.1 L = L' at *
    generalize renT [120] L'.1 W = W' at *
    refine callG_std _ ?_
    push_cast
    refine .of hC ?_
    push_cast
    refine ⟨?_,?_⟩
    ·refine callG_np (ov4 W) [] (ov_args P) (specF_func ▸ hN1) ?_
     push_cast
     refine ⟨?_,?_⟩
     ·refine callG_np (ov4 W) [] (ov_args L) (specF_func ▸ hN2) ?_
      push_cast
      refine callG_np (ov4 W) [] (ov_args W) (specF_func ▸ hN3) ?_
      push_cast
      exact pf_ret (by push_cast [overlap_one.rs];rfl)
     ·refine callG_np (ov4 W) [] (ov_args L) (specF_func ▸ hN2) ?_
      push_cast
      refine callG_np (ov4 W) [] (ov_args W) (specF_func ▸ hN3) ?_
      push_cast
      exact pf_ret (by push_cast [overlap_one.rs];rfl)
    ·refine callG_np (ov4 W) [] (ov_args P) (specF_func ▸ hN1) ?_
     push_cast
     refine callG_np (ov4 W) [] (ov_args L) (specF_func ▸ hN2) ?_
     push_cast
     refine callG_np (ov4 W) [] (ov_args W) (specF_func ▸ hN3) ?_
     push_cast
     exact pf_ret (by push_cast [overlap_one.rs];rfl)
end Go.Dw
end
section
namespace Go.Dw
def bindL (vars:List Str) (x:List Term):List ABind:=List.zipWith ABind.mk vars x
theorem image_bindL {v:Str}:∀ {vars:List Str} {x:List Term},v∈vars→vars.length≤x.length→image (bindL vars x) v = some (x.getD (ixS v vars) default)
 | [],_,h,_=>by cases h
 | w :: vars,[],_,hl=>by simp at hl
 | w :: vars,u :: x,h,hl=>by
  simp only [bindL,List.zipWith_cons_cons,image]
  unfold ixS
  simp only [idxI]
  by_cases he:v = w
  ·subst he;simp
  ·have hm:v∈vars:=(List.mem_cons.1 h).resolve_left he
   obtain ⟨h1,h2,h3⟩:=idxI_ix hm
   have hd:decide (v = w) = false:=by simpa using he
   have ih:=image_bindL (x:=x) hm (by simpa using hl)
   unfold bindL at ih
   rw [if_neg (fun e=>he e.symm)]
   simp only [hd,Bool.false_eq_true,if_false]
   rw [h1,ih]
   have hn:¬ ((ixS v vars:Nat):Int) < 0:=by omega
   have h4:(((ixS v vars:Nat):Int)+1).toNat = ixS v vars+1:=by omega
   simp only [hn,if_false,h4]
   simp [List.getD_eq_getElem?_getD]
theorem inst_bindL (vars:List Str) (x:List Term) (hl:vars.length≤x.length) (t:Term) (ho:∀ v,occ v t = true→v∈vars):inst (bindL vars x) t = plugT vars x t:=by
 induction t using term_ind with
 | h t ih =>
  rw [inst_eq,plugT_eq]
  cases hv:t.var with
  | true=>rw [if_pos rfl,if_pos rfl,image_bindL (ho _ (occ_self hv)) hl];rfl
  | false =>
   rw [if_neg (by simp),if_neg (by simp)]
   congr 1
   exact List.map_congr_left fun a ha=>ih a ha fun v hv2=>ho v (occ_arg ha hv2)
end Go.Dw
end
section
namespace Go.Dw
theorem short_def:short (default:Term) = true:=by decide
theorem plug_short (vars:List Str) (x:List Term) (hx:∀ a∈x,short a = true) (t:Term) (ht:short t = true):short (plugT vars x t) = true:=by
 induction t using term_ind with
 | h t ih =>
  obtain ⟨h1,h2,h3⟩:=short_iff.1 ht
  rw [plugT_eq]
  split
  ·by_cases hk:ixS t.name vars < x.length
   ·exact hx _ (getD_mem hk)
   ·rw [List.getD_eq_getElem?_getD,List.getElem?_eq_none (by omega)];exact short_def
  ·refine short_iff.2 ⟨h1,fun h=>(by cases h),fun a ha=>?_⟩
   obtain ⟨u,hu,rfl⟩:=List.mem_map.1 ha
   exact ih u hu (h3 u hu)
theorem side_short (r:List ARule) (f:ARule→Term) (hf:∀ x∈r,short (f x) = true) (m:AMulti) (hok:OkM r m):short (sideM r f m) = true:=by
 induction m using multi_ind with
 | h m ih =>
  have hx:∀ a∈m.args.map (sideM r f),short a = true:=fun a ha=>by
   obtain ⟨u,hu,rfl⟩:=List.mem_map.1 ha
   exact ih u hu (hok.arg hu)
  rw [sideM_eq]
  split
  ·rename_i h0
   have hfm:=allM_self hok.fm
   unfold formedM at hfm
   rw [if_neg (by omega)] at hfm
   cases hv:m.var with
   | true =>
    rw [hv,if_pos rfl,Bool.and_eq_true,decide_eq_true_eq] at hfm
    have hn:isName m.name false = true:=hfm.2
    unfold isName at hn
    rw [Bool.and_eq_true,decide_eq_true_eq] at hn
    have ha:m.args = []:=List.length_eq_zero_iff.1 hfm.1
    exact short_iff.2 ⟨hn.1,fun _=>(by show m.args.map _ = [];rw [ha];rfl),hx⟩
   | false =>
    rw [hv,if_neg (by simp),Bool.and_eq_true] at hfm
    have hn:isName m.name true = true:=hfm.2
    unfold isName at hn
    rw [Bool.and_eq_true,decide_eq_true_eq] at hn
    exact short_iff.2 ⟨hn.1,fun h=>(by cases h),hx⟩
  ·rename_i h0
   exact plug_short _ _ hx _ (hf _ (hok.rule h0).2.2.1)
end Go.Dw
end
section
namespace Go.Dw
theorem r17_Same_self (m:AMulti) (hs:msize m < 2^40):PF n_r17_Same [encM m,encM m] (.bool true):=by
 induction m using multi_ind with
 | h m ih =>
 have hst:=msize_args m
 have hll:=length_le_msizes m.args
 refine pf_of r17_Same.ok rfl ?_
 have e:∀ x:Bool,(x != x) = false:=fun x=>by cases x <;> rfl
 push_cast [e]
 refine loop_up (n:=m.args.length) (R:=fun k=>r17_Same.L3 (.ro (cM m) 0) (.ro (cM m) 0) (.int .i64 m.args.length) (.int .i64 k) 0 [] (Ends 0 r17_Same.rs fun x' H'=>x' = .bool true∧H' = [])) ?_ ?_ 0 (by omega)
 ·intro k hk ih2
  have hmm:=getD_mem hk
  have hm2:=msize_mem hmm
  refine r17_Same.G3 ?_
  push_cast [ilt hk]
  refine .of (ih _ hmm (by omega)) ?_
  push_cast [ilt hk,w64 (show k < 2^62 by omega)]
  exact ih2
 ·refine r17_Same.G3 ?_
  push_cast [inlt (Nat.le_refl _)]
  exact pf_ret (by push_cast [r17_Same.rs])
end Go.Dw
end
section
namespace Go.Dw
mutual
def occR (v:Str):Term→List (List Int)
 | .mk n b l=>(if b && decide (n = v) then [[]] else [])++occRs v l 0
def occRs (v:Str):List Term→Nat→List (List Int)
 | [],_=>[]
 | a :: l,i=>(occR v a).map ((i:Int) :: ·)++occRs v l (i+1)
end
theorem occW_append (v:Str) (a b:List (List Int × Term)):occW v (a++b) = occW v a++occW v b:=by unfold occW;rw [List.filter_append,List.map_append]
mutual
theorem occW_visit (v:Str):∀ (t:Term) (p:List Int),occW v (visit t p) = (occR v t).map (p++·)
 | .mk n b l,p=>by
  have h:=occW_visits v l p 0
  have h1:occW v ((p,Term.mk n b l) :: visits l p 0) = (if b && decide (n = v) then [p] else [])++occW v (visits l p 0):=by
   unfold occW
   rw [List.filter_cons]
   show List.map Prod.fst (if (b && decide (n = v)) = true then _ else _) = _
   split <;> simp
  simp only [visit,occR,h1,h,List.map_append]
  congr 1
  split <;> simp
theorem occW_visits (v:Str):∀ (l:List Term) (p:List Int) (i:Nat),occW v (visits l p i) = (occRs v l i).map (p++·)
 | [],p,i=>rfl
 | a :: l,p,i=>by
  simp only [visits,occRs,occW_append,occW_visit v a,occW_visits v l p (i+1),List.map_append,List.map_map]
  congr 1
  apply List.map_congr_left
  intro q _;simp
end
theorem occM_R (t:Term) (v:Str):occM t v = occR v t:=by
 unfold occM
 rw [occW_visit]
 simp
mutual
theorem occR_some (v:Str):∀ t:Term,occ v t = true→occR v t ≠ []
 | .mk n b l,h=>by
  simp only [occ,Bool.or_eq_true] at h
  simp only [occR]
  rcases h with h | h
  ·rw [if_pos h];simp
  ·have:=occRs_some v l 0 h
   simp [this]
theorem occRs_some (v:Str):∀ (l:List Term) (i:Nat),occs v l = true→occRs v l i ≠ []
 | [],i,h=>by cases h
 | a :: l,i,h=>by
  simp only [occs,Bool.or_eq_true] at h
  simp only [occRs]
  rcases h with h | h
  ·have:=occR_some v a h
   simp [this]
  ·have:=occRs_some v l (i+1) h
   simp [this]
end
def nodeM:AMulti→List Int→AMulti
 | m,[]=>m
 | m,i :: p=>nodeM (m.args.getD i.toNat default) p
theorem varsOf_nodup (t:Term):(varsOf [t]).Nodup:=by
 have h2:(vsetT [] [t]).Nodup:=by
  show (vset [] (visit t [])).Nodup
  exact vset_nodup _ _ List.nodup_nil
 exact (List.mergeSort_perm _ _).nodup_iff.2 h2
theorem ixS_getD {vars:List Str} (hn:vars.Nodup) {k:Nat} (hk:k < vars.length):ixS (vars.getD k default) vars = k:=by
 obtain ⟨i1,i2,i3⟩:=idxI_ix (getD_mem hk)
 generalize hv:vars.getD k default = v at i1 i2 i3 ⊢
 rw [List.getD_eq_getElem?_getD,List.getElem?_eq_getElem hk,Option.getD_some] at hv
 rw [List.getD_eq_getElem?_getD,List.getElem?_eq_getElem i2,Option.getD_some] at i3
 exact (List.getElem_inj hn).1 (i3.trans hv.symm)
end Go.Dw
end
section
namespace Go.Dw
def imgV (s:List ABind) (n:Str):Term:=(image s n).getD (.mk n true [])
def AgreeB (s d:List ABind):Prop:=∀ n x,image s n = some x→x = imgV d n
theorem match_complete (d:List ABind) (p:Term):∀ s:List ABind,AgreeB s d→(matchT s p (inst d p)).2 = true∧AgreeB (matchT s p (inst d p)).1 d:=by
 induction p using term_ind with
 | h p ih =>
 intro s hs
 rw [matchT_eq]
 cases hv:p.var with
 | true =>
  have hi:inst d p = imgV d p.name:=by rw [inst_eq,hv,if_pos rfl];rfl
  rw [if_pos rfl,hi]
  cases hx:image s p.name with
  | some x=>exact ⟨by simpa using hs _ _ hx,hs⟩
  | none =>
   refine ⟨rfl,fun n x h=>?_⟩
   rw [image_bindT hx] at h
   split at h
   ·rename_i e;subst e;cases h;rfl
   ·exact hs n x h
 | false =>
  have hi:inst d p = .mk p.name false (p.args.map (inst d)):=by rw [inst_eq,hv,if_neg (by simp)]
  have hl:p.args.length = (p.args.map (inst d)).length:=by simp
  rw [if_neg (by simp),hi,if_neg (by simp only [Term.var,Term.name,Term.args];simp)]
  show (matchTs s p.args (p.args.map (inst d))).2 = true∧AgreeB (matchTs s p.args (p.args.map (inst d))).1 d
  have key:∀ (l:List Term) (s:List ABind),(∀ a∈l,a∈p.args)→AgreeB s d→(matchTs s l (l.map (inst d))).2 = true∧AgreeB (matchTs s l (l.map (inst d))).1 d:=by
   intro l
   induction l with
   | nil=>intro s _ h;exact ⟨rfl,h⟩
   | cons a l ihl =>
    intro s hm h
    obtain ⟨h1,h2⟩:=ih a (hm a (by simp)) s h
    simp only [List.map_cons,matchTs]
    rw [if_pos h1]
    exact ihl _ (fun x hx=>hm x (by simp [hx])) h2
  exact key p.args s (fun _ h=>h) hs
mutual
def plugMM (vars:List Str) (x:List AMulti):Term→AMulti
 | .mk n v l=>if v then x.getD (ixS n vars) default else .mk 0 n false (plugMMs vars x l)
def plugMMs (vars:List Str) (x:List AMulti):List Term→List AMulti
 | []=>[]
 | a :: l=>plugMM vars x a :: plugMMs vars x l
end
theorem plugMMs_map (vars:List Str) (x:List AMulti) (l:List Term):plugMMs vars x l = l.map (plugMM vars x):=by induction l with | nil=>rfl | cons a l ih=>simp [plugMMs,ih]
theorem plugMM_eq (vars:List Str) (x:List AMulti) (t:Term):plugMM vars x t = if t.var then x.getD (ixS t.name vars) default else .mk 0 t.name false (t.args.map (plugMM vars x)):=by cases t;simp only [plugMM,plugMMs_map,Term.name,Term.var,Term.args];rfl
end Go.Dw
end
section
namespace Go.Dw
theorem sl_snocI {l:List Int} {v:Int}:(.sl 1 (l.map cI++[[V.int .i64 v]]):V) = encP (l++[v]):=by simp [encL,cI]
end Go.Dw
end
section
namespace Go.Dw
theorem multi_Plug_s (vars:List Str) (x:List AMulti) (hva:vars.length≤x.length) (hl:vars.length < 2^40) (t:Term) (ht:size t < 2^40) (ho:∀ v,occ v t = true→v∈vars):PF n_multi_Plug [encT t,encSs vars,encMs x] (encM (plugMM vars x t)):=by
 induction t using term_ind with
 | h t ih =>
 have hst:=size_args t
 have hll:=length_le_sizes t.args
 refine pf_of multi_Plug.ok rfl ?_
 rw [plugMM_eq]
 cases hv:t.var with
 | true =>
  obtain ⟨h1,h2,h3⟩:=idxI_ix (ho _ (occ_self hv))
  have hI:=slices_Index_str_s vars t.name (by omega)
  rw [h1] at hI
  have hlt:((ixS t.name vars:Int) < (x.length:Int)) = True:=eq_true (by omega)
  push_cast [hv]
  refine .of hI ?_
  push_cast [hlt]
  exact pf_ret (by push_cast [multi_Plug.rs])
 | false =>
  push_cast [hv]
  refine loop_up (n:=t.args.length) (R:=fun k=>multi_Plug.L3 (encSs vars) (encMs x) (.ptr 0 0) (.ptr 1 0) (encTs t.args) (.int .i64 t.args.length) (.int .i64 k) 0 [.cells t_Multi [.int .i64 0,.str [],.bool false,.sl 4 []],.cells t_Multi [.int .i64 0,.str t.name,.bool false,ownL cM 2 4 ((t.args.take k).map (plugMM vars x))],.arr t_Multi 4 k] _) ?_ ?_ 0 (by omega)
  ·intro k hk ih2
   have hm:=getD_mem hk
   have hm2:=size_mem hm
   have hlen:((t.args.take k).map (plugMM vars x)).length = k:=by simp;omega
   rw [take_succ_getD hk,List.map_append,List.map_singleton] at ih2
   refine multi_Plug.G3 ?_
   push_cast [ilt hk]
   refine .of (ih _ hm (by omega) fun v hv2=>ho v (occ_arg hm hv2)) ?_
   push_cast [hlen,w64 (show k < 2^62 by omega)]
   exact ⟨by unfold maxEls;omega,ih2⟩
  ·refine multi_Plug.G3 ?_
   push_cast [inlt (Nat.le_refl _)]
   refine pf_ret ?_
   push_cast [multi_Plug.rs,List.take_length,cM_mk]
   try rfl
theorem rens_cMs {σ:Nat→Option Nat} {l:List AMulti}:(l.map cM).map (rens σ) = l.map cM:=by rw [List.map_map];rfl
end Go.Dw
end
section
namespace Go.Dw
namespace plcs
end plcs
namespace cps
end cps
theorem size_pos (t:Term):0 < size t:=by have:=size_args t;omega
end Go.Dw
end
section
namespace Go.Dw
theorem occM_pos (t:Term) (v:Str):occM t v = (posT t).filter fun p=>match subT t p with | some x=>x.var && decide (x.name = v) | none=>false:=by
 unfold occM occW
 have h1:=visit_pos t []
 simp only [List.nil_append,List.map_id'] at h1
 rw [← h1,List.filter_map]
 congr 1
 apply List.filter_congr
 intro x hx
 obtain ⟨q,hq,hs⟩:=visit_at t [] x hx
 rw [List.nil_append] at hq
 simp only [Function.comp,hq,hs,isV]
end Go.Dw
end
section
namespace Go.Dw
theorem endM_some {r:List ARule} {f:ARule→Term} {m:AMulti} (h:(endM r f m).2 = 0):checkM r m = 0∧fits (sideM r f m) = true∧endM r f m = (some (sideM r f m),0):=by
 unfold endM at h ⊢
 split at h
 ·rename_i h1;exact absurd h h1
 ·rename_i h1
  rw [if_neg h1]
  split at h
  ·rename_i h2
   rw [if_pos h2]
   exact ⟨Classical.not_not.1 h1,h2,rfl⟩
  ·cases h
end Go.Dw
end
section
namespace Go.Dw
theorem plug_formed {vars:List Str} {x:List Term} (hl:vars.length≤x.length) (hx:∀ a∈x,formed a = true) (t:Term) (ht:formed t = true) (ho:∀ n,occ n t = true→n∈vars):formed (plugT vars x t) = true:=by
 induction t using term_ind with
 | h t ih =>
 obtain ⟨h1,h2⟩:=formed_iff.1 ht
 rw [plugT_eq]
 cases hv:t.var with
 | true =>
  obtain ⟨i1,i2,i3⟩:=idxI_ix (ho _ (occ_self hv))
  rw [if_pos rfl]
  exact hx _ (getD_mem (by omega))
 | false =>
  rw [if_neg (by simp)]
  refine formed_iff.2 ⟨?_,fun a ha=>?_⟩
  ·rw [hv] at h1
   show nodeOk t.name false (t.args.map (plugT vars x)).length = true
   rw [List.length_map];exact h1
  ·obtain ⟨b,hb,rfl⟩:=List.mem_map.1 (show a∈t.args.map (plugT vars x) from ha)
   exact ih b hb (h2 b hb) fun n hn=>ho n (occ_arg hb hn)
theorem side_formed {r:List ARule} {f:ARule→Term} (hf:∀ x∈r,formed (f x) = true) (hv:∀ x∈r,∀ v,occ v (f x) = true→v∈varsOf [x.left]) (m:AMulti) (hm:OkM r m):formed (sideM r f m) = true:=by
 induction m using multi_ind with
 | h m ih =>
 have hx:∀ a∈m.args.map (sideM r f),formed a = true:=fun a ha=>by
  obtain ⟨u,hu,rfl⟩:=List.mem_map.1 ha
  exact ih u hu (hm.arg hu)
 rw [sideM_eq]
 by_cases h0:m.rule = 0
 ·rw [if_pos h0]
  have hfm:=allM_self hm.fm
  unfold formedM at hfm
  rw [if_neg (by omega)] at hfm
  refine formed_iff.2 ⟨?_,hx⟩
  cases hmv:m.var with
  | true =>
   rw [hmv,if_pos rfl,Bool.and_eq_true,decide_eq_true_eq] at hfm
   simp [nodeOk,Term.args,Term.name,Term.var,hfm.2]
   exact List.length_eq_zero_iff.1 hfm.1
  | false =>
   rw [hmv,if_neg (by simp),Bool.and_eq_true,decide_eq_true_eq] at hfm
   simp [nodeOk,Term.args,Term.name,Term.var,hfm.2,hfm.1]
 ·obtain ⟨k1,k2,k3,k4,k5,k6⟩:=hm.rule h0
  rw [if_neg h0]
  exact plug_formed (by rw [List.length_map];omega) hx _ (hf _ k3) (hv _ k3)
end Go.Dw
end
section
namespace Go.Dw
namespace bldr
def nd:Nat→C
 | 0=>.seq (.reg [.la 154 4 (.s 17),.st 4 (.s 6) (.s 154)]) (.ret)
 | 1=>.gh [.ks 7 [3,4,5,6,12,17,104,105,106]] (.m 7)
 | 2=>.gh [.ks 8 [3,4,5,6,12,17,20,104,105,106,112,113,114]] (.m 5)
 | 3=>.seq (.reg [.mv 143 (.s 21),.bin 144 .eql (.s 143) (.i 0)]) (.cond (.s 144) (.reg [.la 145 4 (.s 25),.st 4 (.s 20) (.s 145)]) (.skip))
 | 4=>.seq (.blk 7 (.seq (.reg [.mv 116 (.s 114),.ia 117 1 (.s 112) (.s 114),.ld 118 (.s 117),.mv 21 (.s 116),.mv 22 (.s 118)]) (.seq (.reg [.la 120 3 (.s 4),.mv 121 (.s 22),.callp (some 122) n_term_Sub [.s 120,.s 121],.mv 119 (.s 122),.ex 123 (.s 119) 0,.ex 124 (.s 119) 1,.al 23 t_Term [.str [],.bool false,.sl 3 []],.sf 23 3 (.s 123),.mv 24 (.s 124)]) (.seq (.dr [0,1,2,3,4,5] [.ld 125 (.s 3),.la 126 3 (.s 23),.ld 127 (.s 5),.mv 128 (.s 22),.bs 129 1 [.s 127,.s 128],.callp (some 130) n_slices_Concat_s_int_int [.s 129],.alt [([6,7,8],[.call (some 131) n_multi_builder_build [.s 125,.s 126,.s 130],.al 25 t_Multi [.int .i64 0,.str [],.bool false,.sl 4 []],.sf 25 4 (.s 131)]),([7,6,8],[.al 25 t_Multi [.int .i64 0,.str [],.bool false,.sl 4 []],.call (some 131) n_multi_builder_build [.s 125,.s 126,.s 130],.sf 25 4 (.s 131)])]]) (.seq (.seq (.reg [.mv 132 (.s 21),.bin 133 .gtr (.s 132) (.i 0),.mv 134 (.s 133),.gd (.s 134) true [135,136,137,138] [.la 135 4 (.s 20),.la 136 4 (.s 25),.callp (some 137) n_multi_Equal [.s 135,.s 136],.un 138 .not (.s 137)],.pick 139 (.s 134) (.s 138) (.c (.bool false))]) (.cond (.s 139) (.reg [.ld 140 (.s 3),.nc 141 (.s 140),.fa 142 2 (.s 141),.st 1 (.s 142) (.c (.bool true))]) (.skip))) (.n 3)))))) (.reg [.bin 146 .add (.s 114) (.i 1),.mv 114 (.s 146)])
 | 5=>.seq (.reg [.bin 115 .lss (.s 114) (.s 113)]) (.seq (.cond (.s 115) (.skip) (.exit 6)) (.n 4))
 | 6=>.seq (.blk 5 (.seq (.reg [.ia 108 1 (.s 104) (.s 106),.ld 109 (.s 108),.mv 19 (.s 109)]) (.seq (.reg [.al 20 t_Multi [.int .i64 0,.str [],.bool false,.sl 4 []]]) (.seq (.seq (.reg [.la 110 3 (.s 12),.mv 111 (.s 19),.callp (some 112) n_multi_occurrences [.s 110,.s 111],.len 113 (.s 112),.mv 114 (.i 0)]) (.blk 6 (.loop (.n 2)))) (.reg [.fa 147 3 (.s 17),.ld 148 (.s 147),.la 149 4 (.s 20),.bs 150 4 [.s 149],.app 151 t_Multi 4 56 (.s 148) (.s 150),.fa 152 3 (.s 17),.st 1 (.s 152) (.s 151)]))))) (.reg [.bin 153 .add (.s 106) (.i 1),.mv 106 (.s 153)])
 | 7=>.seq (.reg [.bin 107 .lss (.s 106) (.s 105)]) (.seq (.cond (.s 107) (.skip) (.exit 4)) (.n 6))
 | 8=>.seq (.reg [.fa 98 0 (.s 7),.ld 99 (.s 98),.bin 100 .add (.s 99) (.i 1),.bd 101 [.int .i64 0,.str [],.bool false,.nil] [(0,1,(.s 100))],.al 17 t_Multi [.int .i64 0,.str [],.bool false,.nil],.st 4 (.s 17) (.s 101),.ono t_Multi 4 3 (.s 17)]) (.seq (.seq (.reg [.la 102 3 (.s 12),.bs 103 3 [.s 102],.callp (some 104) n_term_VarsOf [.s 103],.len 105 (.s 104),.mv 106 (.i 0)]) (.blk 4 (.loop (.n 1)))) (.n 0))
 | 9=>.blk 3 (.seq (.dr [0,1,2,3,4] [.ld 76 (.s 3),.ld 77 (.s 5),.mv 78 (.s 13),.bs 79 1 [.s 77,.s 78],.callp (some 80) n_slices_Concat_s_int_int [.s 79],.alt [([5,6,7,8,9,10,11],[.call (some 81) n_multi_builder_at [.s 76,.s 80],.mv 75 (.s 81),.ex 82 (.s 75) 0,.ex 83 (.s 75) 1,.al 15 t_Step [.int .i64 0,.sl 1 []],.sf 15 2 (.s 82),.mv 16 (.s 83)]),([9,5,6,7,8,10,11],[.al 15 t_Step [.int .i64 0,.sl 1 []],.call (some 81) n_multi_builder_at [.s 76,.s 80],.mv 75 (.s 81),.ex 82 (.s 75) 0,.ex 83 (.s 75) 1,.sf 15 2 (.s 82),.mv 16 (.s 83)])]]) (.seq (.reg [.mv 84 (.s 16),.mv 85 (.s 84),.gd (.s 85) true [86,87,88] [.fa 86 1 (.s 14),.ld 87 (.s 86),.un 88 .not (.s 87)],.pick 89 (.s 85) (.s 88) (.c (.bool false)),.mv 90 (.s 89),.gd (.s 90) true [91,92,93] [.mv 91 (.s 13),.len 92 (.s 91),.bin 93 .gtr (.s 92) (.i 0)],.pick 94 (.s 90) (.s 93) (.c (.bool false))]) (.cond (.s 94) (.reg [.ld 95 (.s 3),.nc 96 (.s 95),.fa 97 2 (.s 96),.st 1 (.s 97) (.c (.bool true))]) (.skip))))
 | 10=>.seq (.dr [0,1,2,3,4,5,6,7,8,9,10] [.ld 62 (.s 3),.nc 63 (.s 62),.fa 64 0 (.s 63),.ld 65 (.s 64),.fa 66 0 (.s 7),.ld 67 (.s 66),.ia 68 6 (.s 65) (.s 67),.fa 69 0 (.s 68),.la 70 3 (.s 69),.al 12 t_Term [.str [],.bool false,.sl 3 []],.sf 12 3 (.s 70)]) (.seq (.seq (.reg [.la 71 3 (.s 12),.callp (some 72) n_term_Walk [.s 71]]) (.blk 2 (.rf (.s 72) [73,74] (.seq (.reg [.mv 13 (.s 73)]) (.reg [.al 14 t_Term [.str [],.bool false,.sl 3 []],.sf 14 3 (.s 74)])) (.m 9)))) (.n 8))
 | 11=>.seq (.reg [.la 61 4 (.s 9),.st 4 (.s 6) (.s 61)]) (.ret)
 | 12=>.gh [.ks 5 [3,5,6,9,40,41,42]] (.m 14)
 | 13=>.seq (.blk 1 (.seq (.reg [.mv 44 (.s 42),.ia 45 3 (.s 40) (.s 42),.la 46 3 (.s 45),.al 11 t_Term [.str [],.bool false,.sl 3 []],.mv 10 (.s 44),.sf 11 3 (.s 46)]) (.dr [3,4,6,7] [.lar 50 3 (.s 11),.ldr 51 (.s 5),.mv 53 (.s 10),.bs 54 1 [.s 53],.alt [([0],[.fa 47 3 (.s 9),.alt [([1],[.ld 48 (.s 47),.alt [([2,5,8,9,10,11,12,13],[.ld 49 (.s 3),.call (some 52) n_slices_Clone_s_int_int [.s 51],.app 55 t_int 1 8 (.s 52) (.s 54),.call (some 56) n_multi_builder_build [.s 49,.s 50,.s 55],.bs 57 4 [.s 56],.app 58 t_Multi 4 56 (.s 48) (.s 57),.fa 59 3 (.s 9),.st 1 (.s 59) (.s 58)]),([5,2,8,9,10,11,12,13],[.call (some 52) n_slices_Clone_s_int_int [.s 51],.ld 49 (.s 3),.app 55 t_int 1 8 (.s 52) (.s 54),.call (some 56) n_multi_builder_build [.s 49,.s 50,.s 55],.bs 57 4 [.s 56],.app 58 t_Multi 4 56 (.s 48) (.s 57),.fa 59 3 (.s 9),.st 1 (.s 59) (.s 58)])]]),([2],[.ld 49 (.s 3),.alt [([1,5,8,9,10,11,12,13],[.ld 48 (.s 47),.call (some 52) n_slices_Clone_s_int_int [.s 51],.app 55 t_int 1 8 (.s 52) (.s 54),.call (some 56) n_multi_builder_build [.s 49,.s 50,.s 55],.bs 57 4 [.s 56],.app 58 t_Multi 4 56 (.s 48) (.s 57),.fa 59 3 (.s 9),.st 1 (.s 59) (.s 58)]),([5,8],[.call (some 52) n_slices_Clone_s_int_int [.s 51],.app 55 t_int 1 8 (.s 52) (.s 54),.alt [([1,9,10,11,12,13],[.ld 48 (.s 47),.call (some 56) n_multi_builder_build [.s 49,.s 50,.s 55],.bs 57 4 [.s 56],.app 58 t_Multi 4 56 (.s 48) (.s 57),.fa 59 3 (.s 9),.st 1 (.s 59) (.s 58)]),([9,1,10,11,12,13],[.call (some 56) n_multi_builder_build [.s 49,.s 50,.s 55],.ld 48 (.s 47),.bs 57 4 [.s 56],.app 58 t_Multi 4 56 (.s 48) (.s 57),.fa 59 3 (.s 9),.st 1 (.s 59) (.s 58)])]])]]),([5,2,8],[.call (some 52) n_slices_Clone_s_int_int [.s 51],.ld 49 (.s 3),.app 55 t_int 1 8 (.s 52) (.s 54),.alt [([1,9,10,11,12,13],[.ld 48 (.s 47),.call (some 56) n_multi_builder_build [.s 49,.s 50,.s 55],.bs 57 4 [.s 56],.app 58 t_Multi 4 56 (.s 48) (.s 57),.fa 59 3 (.s 9),.st 1 (.s 59) (.s 58)]),([9,1,10,11,12,13],[.call (some 56) n_multi_builder_build [.s 49,.s 50,.s 55],.ld 48 (.s 47),.bs 57 4 [.s 56],.app 58 t_Multi 4 56 (.s 48) (.s 57),.fa 59 3 (.s 9),.st 1 (.s 59) (.s 58)])]])]]),([2],[.ld 49 (.s 3),.alt [([0],[.fa 47 3 (.s 9),.alt [([1,5,8,9,10,11,12,13],[.ld 48 (.s 47),.call (some 52) n_slices_Clone_s_int_int [.s 51],.app 55 t_int 1 8 (.s 52) (.s 54),.call (some 56) n_multi_builder_build [.s 49,.s 50,.s 55],.bs 57 4 [.s 56],.app 58 t_Multi 4 56 (.s 48) (.s 57),.fa 59 3 (.s 9),.st 1 (.s 59) (.s 58)]),([5,8],[.call (some 52) n_slices_Clone_s_int_int [.s 51],.app 55 t_int 1 8 (.s 52) (.s 54),.alt [([1,9,10,11,12,13],[.ld 48 (.s 47),.call (some 56) n_multi_builder_build [.s 49,.s 50,.s 55],.bs 57 4 [.s 56],.app 58 t_Multi 4 56 (.s 48) (.s 57),.fa 59 3 (.s 9),.st 1 (.s 59) (.s 58)]),([9,1,10,11,12,13],[.call (some 56) n_multi_builder_build [.s 49,.s 50,.s 55],.ld 48 (.s 47),.bs 57 4 [.s 56],.app 58 t_Multi 4 56 (.s 48) (.s 57),.fa 59 3 (.s 9),.st 1 (.s 59) (.s 58)])]])]]),([5,8],[.call (some 52) n_slices_Clone_s_int_int [.s 51],.app 55 t_int 1 8 (.s 52) (.s 54),.alt [([0],[.fa 47 3 (.s 9),.alt [([1,9,10,11,12,13],[.ld 48 (.s 47),.call (some 56) n_multi_builder_build [.s 49,.s 50,.s 55],.bs 57 4 [.s 56],.app 58 t_Multi 4 56 (.s 48) (.s 57),.fa 59 3 (.s 9),.st 1 (.s 59) (.s 58)]),([9,1,10,11,12,13],[.call (some 56) n_multi_builder_build [.s 49,.s 50,.s 55],.ld 48 (.s 47),.bs 57 4 [.s 56],.app 58 t_Multi 4 56 (.s 48) (.s 57),.fa 59 3 (.s 9),.st 1 (.s 59) (.s 58)])]]),([9,0,1,10,11,12,13],[.call (some 56) n_multi_builder_build [.s 49,.s 50,.s 55],.fa 47 3 (.s 9),.ld 48 (.s 47),.bs 57 4 [.s 56],.app 58 t_Multi 4 56 (.s 48) (.s 57),.fa 59 3 (.s 9),.st 1 (.s 59) (.s 58)])]])]]),([5,2,8],[.call (some 52) n_slices_Clone_s_int_int [.s 51],.ld 49 (.s 3),.app 55 t_int 1 8 (.s 52) (.s 54),.alt [([0],[.fa 47 3 (.s 9),.alt [([1,9,10,11,12,13],[.ld 48 (.s 47),.call (some 56) n_multi_builder_build [.s 49,.s 50,.s 55],.bs 57 4 [.s 56],.app 58 t_Multi 4 56 (.s 48) (.s 57),.fa 59 3 (.s 9),.st 1 (.s 59) (.s 58)]),([9,1,10,11,12,13],[.call (some 56) n_multi_builder_build [.s 49,.s 50,.s 55],.ld 48 (.s 47),.bs 57 4 [.s 56],.app 58 t_Multi 4 56 (.s 48) (.s 57),.fa 59 3 (.s 9),.st 1 (.s 59) (.s 58)])]]),([9,0,1,10,11,12,13],[.call (some 56) n_multi_builder_build [.s 49,.s 50,.s 55],.fa 47 3 (.s 9),.ld 48 (.s 47),.bs 57 4 [.s 56],.app 58 t_Multi 4 56 (.s 48) (.s 57),.fa 59 3 (.s 9),.st 1 (.s 59) (.s 58)])]])]]))) (.reg [.bin 60 .add (.s 42) (.i 1),.mv 42 (.s 60)])
 | 14=>.seq (.reg [.bin 43 .lss (.s 42) (.s 41)]) (.seq (.cond (.s 43) (.skip) (.exit 0)) (.n 13))
 | _=>.skip
def body:C:=.seq (.reg [.bx 3 t_p_multi_builder (.s 0),.br 4 t_Term (.s 1),.br 5 t_s_int (.s 2),.al 6 t_Multi [.int .i64 0,.str [],.bool false,.sl 4 []]]) (.seq (.reg [.ld 27 (.s 3),.ld 28 (.s 5),.call (some 29) n_multi_builder_at [.s 27,.s 28],.mv 26 (.s 29),.ex 30 (.s 26) 0,.ex 31 (.s 26) 1,.al 7 t_Step [.int .i64 0,.sl 1 []],.sf 7 2 (.s 30),.mv 8 (.s 31)]) (.seq (.seq (.reg [.mv 32 (.s 8),.un 33 .not (.s 32)]) (.cond (.s 33) (.seq (.reg [.fa 34 0 (.s 4),.ld 35 (.s 34),.fa 36 1 (.s 4),.ld 37 (.s 36),.bd 38 [.int .i64 0,.str [],.bool false,.nil] [(1,1,(.s 35)),(2,1,(.s 37))],.al 9 t_Multi [.int .i64 0,.str [],.bool false,.nil],.st 4 (.s 9) (.s 38),.ono t_Multi 4 3 (.s 9)]) (.seq (.seq (.reg [.fa 39 2 (.s 4),.ld 40 (.s 39),.len 41 (.s 40),.mv 42 (.i 0)]) (.blk 0 (.loop (.n 12)))) (.n 11))) (.skip))) (.n 10)))
def rs:List RV:=[.a 6 4]
attribute [push_cast] nd body
theorem ok:okF prog n_multi_builder_build nd body 3 rs = true:=by kernel_rfl
abbrev L5 (v3 v4 v5 v6 v12 v17 v20 v104 v105 v106 v112 v113 v114:V) (B:Nat) (H:List Ob) (Q:X→T→List Ob→Prop):Prop:=Run prog nd B [.c (.m 5),.c (.loop (.n 2)),.mk 6,.c (.reg [.fa 147 3 (.s 17),.ld 148 (.s 147),.la 149 4 (.s 20),.bs 150 4 [.s 149],.app 151 t_Multi 4 56 (.s 148) (.s 150),.fa 152 3 (.s 17),.st 1 (.s 152) (.s 151)]),.mk 5,.c (.reg [.bin 153 .add (.s 106) (.i 1),.mv 106 (.s 153)]),.c (.loop (.n 1)),.mk 4,.c (.n 0)] [(3,v3),(4,v4),(5,v5),(6,v6),(12,v12),(17,v17),(20,v20),(104,v104),(105,v105),(106,v106),(112,v112),(113,v113),(114,v114)] H Q
theorem G5 {v3 v4 v5 v6 v12 v17 v20 v104 v105 v106 v112 v113 v114:V} {B:Nat} {H:List Ob} {Q:X→T→List Ob→Prop} (h:Run prog nd B [.c (nd 5),.c (.loop (.n 2)),.mk 6,.c (.reg [.fa 147 3 (.s 17),.ld 148 (.s 147),.la 149 4 (.s 20),.bs 150 4 [.s 149],.app 151 t_Multi 4 56 (.s 148) (.s 150),.fa 152 3 (.s 17),.st 1 (.s 152) (.s 151)]),.mk 5,.c (.reg [.bin 153 .add (.s 106) (.i 1),.mv 106 (.s 153)]),.c (.loop (.n 1)),.mk 4,.c (.n 0)] [(3,v3),(4,v4),(5,v5),(6,v6),(12,v12),(17,v17),(20,v20),(104,v104),(105,v105),(106,v106),(112,v112),(113,v113),(114,v114)] H Q):L5 v3 v4 v5 v6 v12 v17 v20 v104 v105 v106 v112 v113 v114 B H Q:=run_m.2 h
abbrev L7 (v3 v4 v5 v6 v12 v17 v104 v105 v106:V) (B:Nat) (H:List Ob) (Q:X→T→List Ob→Prop):Prop:=Run prog nd B [.c (.m 7),.c (.loop (.n 1)),.mk 4,.c (.n 0)] [(3,v3),(4,v4),(5,v5),(6,v6),(12,v12),(17,v17),(104,v104),(105,v105),(106,v106)] H Q
theorem G7 {v3 v4 v5 v6 v12 v17 v104 v105 v106:V} {B:Nat} {H:List Ob} {Q:X→T→List Ob→Prop} (h:Run prog nd B [.c (nd 7),.c (.loop (.n 1)),.mk 4,.c (.n 0)] [(3,v3),(4,v4),(5,v5),(6,v6),(12,v12),(17,v17),(104,v104),(105,v105),(106,v106)] H Q):L7 v3 v4 v5 v6 v12 v17 v104 v105 v106 B H Q:=run_m.2 h
abbrev L14 (v3 v5 v6 v9 v40 v41 v42:V) (B:Nat) (H:List Ob) (Q:X→T→List Ob→Prop):Prop:=Run prog nd B [.c (.m 14),.c (.loop (.n 12)),.mk 0,.c (.n 11),.c (.n 10)] [(3,v3),(5,v5),(6,v6),(9,v9),(40,v40),(41,v41),(42,v42)] H Q
theorem G14 {v3 v5 v6 v9 v40 v41 v42:V} {B:Nat} {H:List Ob} {Q:X→T→List Ob→Prop} (h:Run prog nd B [.c (nd 14),.c (.loop (.n 12)),.mk 0,.c (.n 11),.c (.n 10)] [(3,v3),(5,v5),(6,v6),(9,v9),(40,v40),(41,v41),(42,v42)] H Q):L14 v3 v5 v6 v9 v40 v41 v42 B H Q:=run_m.2 h
end bldr
namespace batr
def nd:Nat→C
 | 0=>.seq (.reg [.bd 23 [.int .i64 0,.sl 1 []] [],.st 2 (.s 4) (.s 23),.mv 5 (.c (.bool false))]) (.ret)
 | 1=>.gh [.ks 1 [1,4,11,12,13]] (.m 3)
 | 2=>.seq (.blk 1 (.seq (.reg [.ia 15 2 (.s 11) (.s 13),.la 16 2 (.s 15),.al 7 t_Step [.int .i64 0,.sl 1 []],.sf 7 2 (.s 16)]) (.seq (.reg [.fa 17 1 (.s 7),.ld 18 (.s 17),.mv 19 (.s 1),.callp (some 20) n_slices_Equal_s_int_int [.s 18,.s 19]]) (.cond (.s 20) (.seq (.reg [.la 21 2 (.s 7),.st 2 (.s 4) (.s 21),.mv 5 (.c (.bool true))]) (.ret)) (.skip))))) (.reg [.bin 22 .add (.s 13) (.i 1),.mv 13 (.s 22)])
 | 3=>.seq (.reg [.bin 14 .lss (.s 13) (.s 12)]) (.seq (.cond (.s 14) (.skip) (.exit 0)) (.n 2))
 | _=>.skip
def body:C:=.seq (.reg [.al 4 t_Step [.int .i64 0,.sl 1 []],.mv 5 (.c (.bool false))]) (.seq (.seq (.reg [.mv 8 (.s 0),.nc 9 (.s 8),.fa 10 1 (.s 9),.ld 11 (.s 10),.len 12 (.s 11),.mv 13 (.i 0)]) (.blk 0 (.loop (.n 1)))) (.n 0))
def rs:List RV:=[.a 4 2,.t 5]
attribute [push_cast] nd body
theorem ok:okF prog n_multi_builder_at nd body 2 rs = true:=by kernel_rfl
abbrev L3 (v1 v4 v11 v12 v13:V) (B:Nat) (H:List Ob) (Q:X→T→List Ob→Prop):Prop:=Run prog nd B [.c (.m 3),.c (.loop (.n 1)),.mk 0,.c (.n 0)] [(1,v1),(4,v4),(11,v11),(12,v12),(13,v13)] H Q
theorem G3 {v1 v4 v11 v12 v13:V} {B:Nat} {H:List Ob} {Q:X→T→List Ob→Prop} (h:Run prog nd B [.c (nd 3),.c (.loop (.n 1)),.mk 0,.c (.n 0)] [(1,v1),(4,v4),(11,v11),(12,v12),(13,v13)] H Q):L3 v1 v4 v11 v12 v13 B H Q:=run_m.2 h
end batr
theorem slices_Equal_int_s (a b:List Int) (hl:a.length < 2^62):PF n_slices_Equal_s_int_int [encP a,encP b] (.bool (decide (a = b))):=by
 refine pf_of slices_Equal_s_int_int.ok rfl ?_
 push_cast
 refine ⟨fun hne=>pf_ret ?_,fun he=>?_⟩
 ·push_cast [slices_Equal_s_int_int.rs]
  have:¬ a = b:=by rintro rfl;exact hne rfl
  simp [this]
 ·have he:a.length = b.length:=by omega
  refine loop_up (n:=a.length) (R:=fun k=>a.take k = b.take k→slices_Equal_s_int_int.L3 (encP a) (encP b) (.int .i64 a.length) (.int .i64 k) 0 [] _) ?_ ?_ 0 (by omega) rfl
  ·intro k hk ih hq
   have hkb:k < b.length:=by omega
   refine slices_Equal_s_int_int.G3 ?_
   by_cases hx:a.getD k default = b.getD k default
   ·push_cast [ilt hk,ilt hkb,hx,w64 (show k < 2^62 by omega)]
    exact ih (by rw [take_succ_getD hk,take_succ_getD hkb,hq,hx])
   ·push_cast [ilt hk,ilt hkb,eq_false hx]
    refine pf_ret ?_
    push_cast [slices_Equal_s_int_int.rs]
    have:¬ a = b:=by rintro rfl;exact hx rfl
    simp [this]
  ·intro hq
   refine slices_Equal_s_int_int.G3 ?_
   push_cast [inlt (Nat.le_refl _)]
   refine pf_ret ?_
   push_cast [slices_Equal_s_int_int.rs]
   rw [List.take_of_length_le (Nat.le_refl _),List.take_of_length_le (by omega)] at hq
   simp [hq]
theorem slices_IndexFunc_s_Step_Step_s {p:AStep→Bool} {g:Nat} {caps:List V} (hc:∀ σ,rens σ caps = caps) (l:List AStep) (hl:l.length < 2^62) (h:∀ a∈l,PF g (encSt a :: caps) (.bool (p a))) :
  PF n_slices_IndexFunc_s_Step_Step [encL cSt 2 l,.fn (.func g) [] caps] (.int .i64 (idxI p l)):=by
 refine pf_of slices_IndexFunc_s_Step_Step.ok rfl ?_
 push_cast [hc]
 refine loop_up (n:=l.length) (R:=fun k=>(∀ j,j < k→p (l.getD j default) = false)→slices_IndexFunc_s_Step_Step.L3 (encL cSt 2 l) (.fn (.func g) [] caps) (.int .i64 l.length) (.int .i64 k) 0 [] _) ?_ ?_ 0 (by omega) (by intro j hj;omega)
 ·intro k hk ih hq
  refine slices_IndexFunc_s_Step_Step.G3 ?_
  push_cast [ilt hk,cU8_0,cS_0,hc]
  refine .of (h _ (getD_mem hk)) ?_
  push_cast [w64 (show k < 2^62 by omega),hc]
  refine ⟨fun hp=>pf_ret ?_,fun hp=>?_⟩
  ·push_cast [slices_IndexFunc_s_Step_Step.rs]
   rw [idxI_some hk hp hq]
  ·exact ih fun j hj=>by rcases Nat.lt_succ_iff_lt_or_eq.1 hj with h | rfl;exact hq j h;exact hp
 ·intro hq
  refine slices_IndexFunc_s_Step_Step.G3 ?_
  push_cast [inlt (Nat.le_refl _)]
  refine pf_ret ?_
  push_cast [slices_IndexFunc_s_Step_Step.rs]
  rw [idxI_none hq]
theorem slices_ContainsFunc_s_Step_Step_s {p:AStep→Bool} {g:Nat} {caps:List V} (hc:∀ σ,rens σ caps = caps) (l:List AStep) (hl:l.length < 2^62) (h:∀ a∈l,PF g (encSt a :: caps) (.bool (p a))) :
  PF n_slices_ContainsFunc_s_Step_Step [encL cSt 2 l,.fn (.func g) [] caps] (.bool (l.any p)):=by
 refine pf_of slices_ContainsFunc_s_Step_Step.ok rfl ?_
 push_cast [hc]
 refine .of (slices_IndexFunc_s_Step_Step_s hc l hl h) ?_
 push_cast [hc]
 refine pf_ret ?_
 push_cast [slices_ContainsFunc_s_Step_Step.rs,idxI_any]
theorem EqualFuncM_s {f:AMulti→AMulti→Bool} {g:Nat} (l m:List AMulti) (hl:l.length < 2^62) (h:∀ a∈l,∀ b,PF g [encM a,encM b] (.bool (f a b))) :
  PF n_slices_EqualFunc_s_Multi_s_Multi_Multi_Multi [encMs l,encMs m,.fn (.func g) [] []] (.bool (eqf f l m)):=by
 refine pf_of slices_EqualFunc_s_Multi_s_Multi_Multi_Multi.ok rfl ?_
 push_cast
 refine ⟨fun hne=>pf_ret ?_,fun he=>?_⟩
 ·push_cast [slices_EqualFunc_s_Multi_s_Multi_Multi_Multi.rs]
  cases hq:eqf f l m with
  | false=>rfl
  | true=>have:=eqf_len hq;omega
 ·have he:l.length = m.length:=by omega
  refine loop_up (n:=l.length) (R:=fun k=>eqf f (l.drop k) (m.drop k) = eqf f l m→slices_EqualFunc_s_Multi_s_Multi_Multi_Multi.L3 (encMs m) (.fn (.func g) [] []) (encMs l) (.int .i64 l.length) (.int .i64 k) 0 [] _) ?_ ?_ 0 (by omega) (by simp)
  ·intro k hk ih hq
   have hkm:k < m.length:=by omega
   refine slices_EqualFunc_s_Multi_s_Multi_Multi_Multi.G3 ?_
   push_cast [ilt hk,ilt hkm]
   refine .of (h _ (getD_mem hk) _) ?_
   push_cast [w64 (show k < 2^62 by omega)]
   rw [drop_getD hk,drop_getD hkm] at hq
   simp only [eqf] at hq
   refine ⟨fun hf=>pf_ret ?_,fun hf=>?_⟩
   ·push_cast [slices_EqualFunc_s_Multi_s_Multi_Multi_Multi.rs]
    simp only [Bool.not_eq_true'] at hf
    rw [hf,Bool.false_and] at hq
    exact hq
   ·simp only [Bool.not_eq_false'] at hf
    simp only [hf,Bool.true_and] at hq
    exact ih hq
  ·intro hq
   refine slices_EqualFunc_s_Multi_s_Multi_Multi_Multi.G3 ?_
   push_cast [inlt (Nat.le_refl _)]
   refine pf_ret ?_
   push_cast [slices_EqualFunc_s_Multi_s_Multi_Multi_Multi.rs]
   rw [List.drop_eq_nil_of_le (by omega),List.drop_eq_nil_of_le (by omega)] at hq
   simpa [eqf] using hq
theorem multi_Equal_s (a b:AMulti) (hs:msize a < 2^62):PF n_multi_Equal [encM a,encM b] (.bool (decide (a = b))):=by
 induction a using multi_ind generalizing b with
 | h a ih =>
 have hst:=msize_args a
 have hl:=length_le_msizes a.args
 refine pf_of multi_Equal.ok rfl ?_
 have hE:=EqualFuncM_s (f:=fun a b=>decide (a = b)) (g:=n_multi_Equal) a.args b.args (by omega) fun x hx y=>ih x hx y (by have:=msize_mem hx;omega)
 rw [eqf_eqM fun _ _ _=>rfl] at hE
 have hi:=multi_eq_iff a b
 by_cases h0:a.rule = b.rule <;> by_cases h1:a.name = b.name <;> by_cases h2:a.var = b.var <;> push_cast [h0,h1,h2,beq_self_eq_true,show ∀ x y:Bool,(x == y) = decide (x = y) from fun x y=>by cases x <;> cases y <;> rfl]
 ·refine .of hE ?_
  push_cast
  refine pf_ret ?_
  push_cast [multi_Equal.rs]
  simp [hi,h0,h1,h2]
 all_goals
  refine pf_ret ?_
  push_cast [multi_Equal.rs]
  simp [hi,h0,h1,h2]
def atM (l:List AStep) (pos:List Int):Option AStep:=l.find? fun s=>decide (s.pos = pos)
def encAt:Option AStep→V
 | some s=>.tup [encSt s,.bool true]
 | none=>.tup [encSt ⟨0,[]⟩,.bool false]
def bldH (r:List ARule) (l:List AStep) (bad:Bool):List Ob:=[.cells t_multi_builder [encRs r,encSts l,.bool bad]]
theorem builder_at_s (r:List ARule) (l:List AStep) (bad:Bool) (pos:List Int) (hl:l.length < 2^62) (hp:∀ s∈l,s.pos.length < 2^62):Spec prog n_multi_builder_at [.ptr 0 0,encP pos] (bldH r l bad) fun x H'=>x = encAt (atM l pos)∧H' = bldH r l bad:=by
 refine spec_of_run mixed batr.ok rfl ?_
 unfold bldH
 push_cast
 refine loop_up (n:=l.length) (R:=fun k=>atM (l.drop k) pos = atM l pos→batr.L3 (encP pos) (.ptr 1 0) (encSts l) (.int .i64 l.length) (.int .i64 k) 1 [.cells t_multi_builder [encRs r,encSts l,.bool bad],.cells t_Step [.int .i64 0,.sl 1 []]] _) ?_ ?_ 0 (by omega) rfl
 ·intro k hk ih hq
  have hm:=getD_mem hk
  rw [drop_getD hk] at hq
  generalize hs:l.getD k default = s at hm hq
  have hE:=slices_Equal_int_s s.pos pos (hp s hm)
  refine batr.G3 ?_
  push_cast [ilt hk,hs]
  refine .of hE ?_
  have hc:atM (s :: l.drop (k+1)) pos = if s.pos = pos then some s else atM (l.drop (k+1)) pos:=by
   unfold atM
   rw [List.find?_cons]
   by_cases h:s.pos = pos <;> simp [h]
  rw [hc] at hq
  by_cases h:s.pos = pos
  ·rw [if_pos h] at hq
   push_cast [h]
   rw [← hq]
   exact ends_keep (x:=encAt (some s)) (H:=[.cells t_multi_builder [encRs r,encSts l,.bool bad]]) (J:=[.cells t_Step (cSt s),.dead]) ⟨rfl,rfl⟩ (by push_cast [batr.rs];rfl) ⟨rfl,rfl⟩
  ·rw [if_neg h] at hq
   push_cast [eq_false h,w64 (show k < 2^62 by omega)]
   exact ih hq
 ·intro hq
  rw [List.drop_eq_nil_of_le (Nat.le_refl _)] at hq
  refine batr.G3 ?_
  push_cast [inlt (Nat.le_refl _)]
  rw [← hq]
  exact ends_keep (x:=encAt none) (H:=[.cells t_multi_builder [encRs r,encSts l,.bool bad]]) (J:=[.cells t_Step [.int .i64 0,.sl 1 []]]) ⟨rfl,rfl⟩ (by push_cast [batr.rs];rfl) ⟨rfl,rfl⟩
end Go.Dw
end
section
namespace Go.Dw
theorem subT_app:∀ (p q:List Int) (t:Term),subT t (p++q) = (subT t p).bind fun u=>subT u q
 | [],q,t=>rfl
 | i :: p,q,t=>by
  simp only [List.cons_append,subT]
  split
  ·exact subT_app p q _
  ·rfl
theorem subT_lt {p:List Int} {t u:Term} (hp:p ≠ []) (h:subT t p = some u):size u < size t∧depth u < depth t:=by
 cases p with
 | nil=>exact absurd rfl hp
 | cons i p =>
  simp only [subT] at h
  split at h
  ·rename_i hi
   have hm:=getD_mem (l:=t.args) (k:=i.toNat) (by omega)
   have h1:=subT_size p _ u h
   have h2:=size_mem hm
   have h3:=size_args t
   have h4:=subT_depth p _ u h
   have h5:=depth_mem hm
   have h6:=depth_args t
   omega
  ·cases h
theorem subT_fit:∀ (p:List Int) (t u:Term),subT t p = some u→p.length+size u≤size t
 | [],t,u,h=>by cases h;simp
 | i :: p,t,u,h=>by
  simp only [subT] at h
  split at h
  ·rename_i hi
   have h1:=subT_fit p _ u h
   have h2:=size_mem (getD_mem (l:=t.args) (k:=i.toNat) (by omega))
   have h3:=size_args t
   simp only [List.length_cons];omega
  ·cases h
theorem sub_inst {σ:List ABind}:∀ (p:List Int) (L y:Term),short L = true→subT L p = some y→subT (inst σ L) p = some (inst σ y)
 | [],L,y,_,h=>by cases h;rfl
 | i :: p,L,y,hs,h=>by
  have h3:=short_iff.1 hs
  simp only [subT] at h
  split at h
  ·rename_i hi
   have hk:i.toNat < L.args.length:=by omega
   have hv:L.var = false:=by
    cases hv:L.var with
    | false=>rfl
    | true=>rw [h3.2.1 hv] at hk;simp at hk
   rw [inst_eq,hv,if_neg (by simp)]
   have hl:(L.args.map (inst σ)).length = L.args.length:=List.length_map ..
   show (if 0≤i∧i < ((L.args.map (inst σ)).length:Int) then subT ((L.args.map (inst σ)).getD i.toNat default) p else none) = _
   rw [if_pos (by omega)]
   have e:(L.args.map (inst σ)).getD i.toNat default = inst σ (L.args.getD i.toNat default):=by simp [List.getD_eq_getElem?_getD,hk]
   rw [e]
   exact sub_inst p _ y (h3.2.2 _ (getD_mem hk)) h
  ·cases h
theorem occM_at {t:Term} {v:Str} {p:List Int} (h:p∈occM t v):∃ y,subT t p = some y∧y.var = true∧y.name = v:=by
 rw [occM_pos] at h
 obtain ⟨h1,h2⟩:=List.mem_filter.1 h
 cases hs:subT t p with
 | none=>rw [hs] at h2;cases h2
 | some y =>
  rw [hs] at h2
  simp only [Bool.and_eq_true,decide_eq_true_eq] at h2
  exact ⟨y,rfl,h2.1,h2.2⟩
def leftOf (r:List ARule) (s:AStep):Term:=(r.getD s.rule.toNat default).left
def MatS (r:List ARule) (l:List AStep) (t:Term) (pos:List Int):Prop :=
 ∀ s∈l,∀ q,s.pos = pos++q→∃ x,subT t q = some x∧0≤s.rule∧s.rule < r.length∧(matchT [] (leftOf r s) x).2 = true
theorem MatS.sub {r:List ARule} {l:List AStep} {t u:Term} {pos p:List Int} (h:MatS r l t pos) (hu:subT t p = some u):MatS r l u (pos++p):=by
 intro s hs q hq
 obtain ⟨x,h1,h2⟩:=h s hs (p++q) (by rw [hq,List.append_assoc])
 rw [subT_app,hu] at h1
 exact ⟨x,h1,h2⟩
theorem atM_some {l:List AStep} {pos:List Int} {s:AStep} (h:atM l pos = some s):s∈l∧s.pos = pos:=by
 unfold atM at h
 exact ⟨List.mem_of_find?_eq_some h,by simpa using List.find?_some h⟩
theorem atM_none {l:List AStep} {pos:List Int}:atM l pos = none ↔ ∀ s∈l,s.pos ≠ pos:=by
 unfold atM
 rw [List.find?_eq_none]
 simp
def subD (t:Term) (p:List Int):Term:=(subT t p).getD noT
def overB (l:List AStep) (pos:List Int) (x:List Int × Term):Bool:=(atM l (pos++x.1)).isSome && (!x.2.var && decide (0 < x.1.length))
def fstB (bs:List (AMulti × Bool)):AMulti:=(bs.getD 0 (zM,false)).1
def badB (bs:List (AMulti × Bool)):Bool:=bs.any fun b=>b.2 || !decide (fstB bs = b.1)
def buildM (r:List ARule) (l:List AStep):Nat→Term→List Int→AMulti × Bool
 | 0,_,_=>(zM,false)
 | n+1,t,pos=>match atM l pos with
  | none=>(.mk 0 t.name t.var ((List.range t.args.length).map fun i=>(buildM r l n (t.args.getD i default) (pos++[(i:Int)])).1),(List.range t.args.length).any fun i=>(buildM r l n (t.args.getD i default) (pos++[(i:Int)])).2)
  | some s=>(.mk (s.rule+1) [] false ((varsOf [leftOf r s]).map fun v=>fstB ((occM (leftOf r s) v).map fun p=>buildM r l n (subD t p) (pos++p))),
    (visit (leftOf r s) []).any (overB l pos) || (varsOf [leftOf r s]).any fun v=>badB ((occM (leftOf r s) v).map fun p=>buildM r l n (subD t p) (pos++p)))
theorem MatS.vars {r:List ARule} {l:List AStep} {t:Term} {pos:List Int} {s:AStep} (hc:checkSystem r = 0) (hm:MatS r l t pos) (hs:atM l pos = some s):leftOf r s = (r.getD s.rule.toNat default).left∧r.getD s.rule.toNat default∈r∧0≤s.rule∧s.rule < r.length∧(leftOf r s).var = false∧short (leftOf r s) = true ∧
  (matchT [] (leftOf r s) t).2 = true∧∀ v,∀ p∈occM (leftOf r s) v,p ≠ []∧subT t p = some (imgV (matchT [] (leftOf r s) t).1 v)∧subD t p = imgV (matchT [] (leftOf r s) t).1 v:=by
 obtain ⟨h1,h2⟩:=atM_some hs
 obtain ⟨x,h3,h4,h5,h6⟩:=hm s h1 [] (by rw [h2,List.append_nil])
 cases h3
 have hmem:r.getD s.rule.toNat default∈r:=getD_mem (by omega)
 have hv:=checkSystem_nv hc _ hmem
 have hsh:=(checkSystem_good hc _ hmem).1.1
 refine ⟨rfl,hmem,h4,h5,hv,hsh,h6,fun v p hp=>?_⟩
 obtain ⟨y,y1,y2,y3⟩:=occM_at hp
 have hpn:p ≠ []:=by
  rintro rfl
  cases y1
  unfold leftOf at y2
  rw [hv] at y2;cases y2
 have hsub:subT (inst (matchT [] (leftOf r s) t).1 (leftOf r s)) p = some (inst (matchT [] (leftOf r s) t).1 y):=sub_inst p _ y hsh y1
 have hiy:inst (matchT [] (leftOf r s) t).1 y = imgV (matchT [] (leftOf r s) t).1 v:=by
  rw [inst_eq,y2,if_pos rfl,y3];rfl
 rw [match_inst h6,hiy] at hsub
 exact ⟨hpn,hsub,by unfold subD;rw [hsub];rfl⟩
def sumV (σ:List ABind) (L:Term):List Str→Nat
 | []=>0
 | v :: vs=>(if occ v L then size (imgV σ v) else 0)+sumV σ L vs
def sumVs (σ:List ABind) (l:List Term):List Str→Nat
 | []=>0
 | v :: vs=>(if occs v l then size (imgV σ v) else 0)+sumVs σ l vs
theorem sumVs_cons (σ:List ABind) (a:Term) (l:List Term) (vs:List Str):sumVs σ (a :: l) vs≤sumV σ a vs+sumVs σ l vs:=by
 induction vs with
 | nil=>simp [sumVs,sumV]
 | cons v vs ih =>
  simp only [sumVs,sumV,occs,Bool.or_eq_true]
  by_cases h1:occ v a = true <;> by_cases h2:occs v l = true <;> simp [h1,h2] <;> omega
theorem sumV_var (σ:List ABind) (n:Str):∀ vs:List Str,vs.Nodup→sumV σ (.mk n true []) vs≤size (imgV σ n)
 | [],_=>by simp [sumV]
 | v :: vs,h=>by
  obtain ⟨h1,h2⟩:=List.nodup_cons.1 h
  have ih:=sumV_var σ n vs h2
  simp only [sumV]
  by_cases he:n = v
  ·subst he
   have h0:∀ ws:List Str,n ∉ ws→sumV σ (.mk n true []) ws = 0:=by
    intro ws
    induction ws with
    | nil=>intro _;rfl
    | cons w ws ihw =>
     intro hw
     simp only [List.mem_cons,not_or] at hw
     simp only [sumV,ihw hw.2,occ,occs,Bool.or_false,Bool.true_and,decide_eq_true_eq]
     rw [if_neg hw.1]
   rw [h0 vs h1]
   split <;> omega
  ·have:occ v (.mk n true []) = false:=by simp [occ,occs,he]
   rw [this]
   simp only [Bool.false_eq_true,if_false,Nat.zero_add]
   exact ih
mutual
theorem sumV_le (σ:List ABind) (vs:List Str) (hn:vs.Nodup):∀ L:Term,short L = true→sumV σ L vs≤size (inst σ L)∧(L.var = false→sumV σ L vs < size (inst σ L))
 | .mk n true l,hs=>by
  have ha:l = []:=(short_iff.1 hs).2.1 rfl
  subst ha
  refine ⟨?_,fun h=>by cases h⟩
  rw [inst_eq]
  exact sumV_var σ n vs hn
 | .mk n false l,hs=>by
  have h:=sumVs_le σ vs hn l (short_iff.1 hs).2.2
  have e:∀ ws,sumV σ (.mk n false l) ws = sumVs σ l ws:=by
   intro ws
   induction ws with
   | nil=>rfl
   | cons w ws ih=>simp only [sumV,sumVs,occ,Bool.false_and,Bool.false_or,ih]
  rw [e]
  have hi:size (inst σ (.mk n false l)) = 1+sizes (l.map (inst σ)):=by
   rw [inst_eq];rfl
  rw [hi]
  exact ⟨by omega,fun _=>by omega⟩
theorem sumVs_le (σ:List ABind) (vs:List Str) (hn:vs.Nodup):∀ l:List Term,(∀ a∈l,short a = true)→sumVs σ l vs≤sizes (l.map (inst σ))
 | [],_=>by
  have:∀ ws,sumVs σ [] ws = 0:=by
   intro ws
   induction ws with
   | nil=>rfl
   | cons w ws ih=>simp [sumVs,occs,ih]
  rw [this];exact Nat.zero_le _
 | a :: l,hs=>by
  have h1:=sumVs_cons σ a l vs
  have h2:=(sumV_le σ vs hn a (hs a (by simp))).1
  have h3:=sumVs_le σ vs hn l fun b hb=>hs b (by simp [hb])
  simp only [List.map_cons,sizes];omega
end
theorem buildM_size {r:List ARule} {l:List AStep} (hc:checkSystem r = 0):∀ (n:Nat) (t:Term) (pos:List Int),size t≤n→MatS r l t pos→msize (buildM r l n t pos).1≤size t∧mdepth (buildM r l n t pos).1≤depth t
 | 0,t,pos,hn,_=>by have:=size_pos t;omega
 | n+1,t,pos,hn,hm=>by
  have hst:=size_args t
  have hdt:=depth_args t
  simp only [buildM]
  cases ha:atM l pos with
  | none =>
   dsimp only
   simp only [msize,mdepth]
   have key:∀ k,k≤t.args.length→msizes ((List.range k).map fun i=>(buildM r l n (t.args.getD i default) (pos++[(i:Int)])).1)≤sizes (t.args.take k)∧mdepths ((List.range k).map fun i=>(buildM r l n (t.args.getD i default) (pos++[(i:Int)])).1)≤depths (t.args.take k):=by
    intro k
    induction k with
    | zero=>intro _;simp [msizes,mdepths]
    | succ k ih =>
     intro hk
     obtain ⟨i1,i2⟩:=ih (by omega)
     have hmem:=getD_mem (l:=t.args) (k:=k) (by omega)
     have hsub:subT t [(k:Int)] = some (t.args.getD k default):=by
      simp only [subT];rw [if_pos (by omega),Int.toNat_natCast]
     have h2:=size_mem hmem
     obtain ⟨b1,b2⟩:=buildM_size hc n (t.args.getD k default) (pos++[(k:Int)]) (by omega) (hm.sub hsub)
     rw [List.range_succ,List.map_append,msizes_append,mdepths_append,sizes_take_succ _ _ (by omega),depths_take_succ _ _ (by omega)]
     simp only [List.map_cons,List.map_nil,msizes,mdepths,Nat.add_zero]
     omega
   obtain ⟨k1,k2⟩:=key t.args.length (Nat.le_refl _)
   rw [List.take_length] at k1 k2
   omega
  | some s =>
   dsimp only
   obtain ⟨e1,e2,e3,e4,e5,e6,e7,e8⟩:=hm.vars hc ha
   have hnd:=varsOf_nodup (leftOf r s)
   have hL:=(sumV_le (matchT [] (leftOf r s) t).1 (varsOf [leftOf r s]) hnd (leftOf r s) e6).2 e5
   rw [match_inst e7] at hL
   simp only [msize,mdepth]
   have key:∀ vs:List Str,(∀ v∈vs,v∈varsOf [leftOf r s])→msizes (vs.map fun v=>fstB ((occM (leftOf r s) v).map fun p=>buildM r l n (subD t p) (pos++p)))≤sumV (matchT [] (leftOf r s) t).1 (leftOf r s) vs∧mdepths (vs.map fun v=>fstB ((occM (leftOf r s) v).map fun p=>buildM r l n (subD t p) (pos++p))) < depth t:=by
    intro vs
    induction vs with
    | nil=>intro _;simp only [List.map_nil,msizes,mdepths,sumV];omega
    | cons v vs ih =>
     intro hv
     obtain ⟨i1,i2⟩:=ih fun w hw=>hv w (by simp [hw])
     have hov:=(mem_varsOf v _).1 (hv v (by simp))
     have hne:occM (leftOf r s) v ≠ []:=by rw [occM_R];exact occR_some _ _ hov
     cases hoc:occM (leftOf r s) v with
     | nil=>exact absurd hoc hne
     | cons p ps =>
      obtain ⟨g1,g2,g3⟩:=e8 v p (by rw [hoc];simp)
      have hlt:=subT_lt g1 g2
      obtain ⟨b1,b2⟩:=buildM_size hc n (subD t p) (pos++p) (by rw [g3];omega) (by rw [g3];exact hm.sub g2)
      rw [g3] at b1 b2
      simp only [List.map_cons,msizes,mdepths,sumV,hov,if_true]
      rw [hoc]
      simp only [List.map_cons]
      have ef:fstB (buildM r l n (subD t p) (pos++p) :: List.map (fun p=>buildM r l n (subD t p) (pos++p)) ps) = (buildM r l n (subD t p) (pos++p)).1:=rfl
      rw [ef,g3]
      omega
   obtain ⟨k1,k2⟩:=key _ fun _ h=>h
   omega
end Go.Dw
end
section
namespace Go.Dw
theorem GoodT.arg {t a:Term} (h:GoodT t) (ha:a∈t.args):GoodT a:=by
 have h1:=size_args t
 have h2:=size_mem ha
 have h3:=depth_args t
 have h4:=depth_mem ha
 have h5:=h.sz
 have h6:=h.dp
 exact ⟨(short_iff.1 h.sh).2.2 a ha,by omega,by omega⟩
theorem GoodT.sub:∀ (p:List Int) {t x:Term},GoodT t→subT t p = some x→GoodT x
 | [],t,x,h,hx=>by simp only [subT,Option.some.injEq] at hx;subst hx;exact h
 | i :: p,t,x,h,hx=>by
  simp only [subT] at hx
  split at hx
  ·rename_i hi
   exact GoodT.sub p (h.arg (getD_mem (by omega))) hx
  ·cases hx
noncomputable def ovR (a b:ARule) (i j:Nat) (pos:List Int) (sub:Term):AOv :=
 if (overE a b pos sub).1 then
  let s:=(unif1 sub b.left).1
  let v:=renB (firstT [] (inst s a.left)) [120]
  ⟨i,j,pos,inst v (inst s a.left),inst v (inst s a.right),inst v (setT (inst s a.left) pos (inst s b.right))⟩
 else noOv
end Go.Dw
end
section
namespace Go.Dw
def scanE {α:Type} (F:List AOv→α→List AOv × Int):List AOv→List α→List AOv × Int
 | out,[]=>(out,0)
 | out,x :: l=>if (F out x).2 ≠ 0 then ([],(F out x).2) else scanE F (F out x).1 l
theorem scanE_ok {α:Type} {F:List AOv→α→List AOv × Int} {out o:List AOv} {x:α} {l:List α} (h:F out x = (o,0)):scanE F out (x :: l) = scanE F o l:=by simp [scanE,h]
theorem scanE_bad {α:Type} {F:List AOv→α→List AOv × Int} {out:List AOv} {x:α} {l:List α} {o:List AOv} {e:Int} (h:F out x = (o,e)) (he:e ≠ 0):scanE F out (x :: l) = ([],e):=by simp [scanE,h,he]
noncomputable def stepJ (r:List ARule) (i:Nat) (a:ARule) (pos:List Int) (sub:Term) (out:List AOv) (j:Nat):List AOv × Int :=
 if i = j∧pos = [] then (out,0)
 else if (overE a (renQ [121] (r.getD j default)) pos sub).2 ≠ 0 then ([],(overE a (renQ [121] (r.getD j default)) pos sub).2)
 else if (overE a (renQ [121] (r.getD j default)) pos sub).1 then
  (if 4096 < out.length+1 then ([],3) else (out++[{ ovO a (renQ [121] (r.getD j default)) pos sub with outer:=i,inner:=j }],0))
 else (if 4096 < out.length then ([],3) else (out,0))
noncomputable def stepV (r:List ARule) (i:Nat) (a:ARule) (out:List AOv) (x:List Int × Term):List AOv × Int :=
 if x.2.var then (out,0) else scanE (stepJ r i a x.1 x.2) out (List.range r.length)
noncomputable def stepI (r:List ARule) (out:List AOv) (i:Nat):List AOv × Int :=
 scanE (stepV r i (renQ [120] (r.getD i default))) out (visit (renQ [120] (r.getD i default)).left [])
noncomputable def allO (r:List ARule):List AOv × Int:=scanE (stepI r) [] (List.range r.length)
abbrev oH1 (out:List AOv) (o:V) (e:Int):List Ob:=[.cells t_s_Overlap [o],.cells t_Errno [.int .i64 e],.cells t_s_Overlap [ownL cOv 3 12 out],.arr t_Overlap 12 out.length]
abbrev oH8 (out:List AOv) (o:V) (e:Int) (a:ARule) (nm:NM):List Ob:=oH1 out o e++[.dead,.cells t_Rule (cR a),.map (encS V.str nm),.cells t_m_string_string [.map 6]]
theorem cOv_len (o:AOv):(cOv o).length = 12:=rfl
theorem sub_cOv (o:AOv):sub 0 12 (cOv o) = cOv o:=rfl
theorem sto_encOv (o:AOv):sto (encOv o) = some (cOv o):=rfl
theorem encOv_fold (o:AOv):V.agg (cOv o) = encOv o:=rfl
theorem rens_cOv {σ:Nat→Option Nat} (o:AOv):rens σ (cOv o) = cOv o:=rfl
theorem put_cOv0 (o:AOv) (i:Int):put 0 [V.int .i64 i] (cOv o) = cOv { o with outer:=i }:=rfl
theorem put_cOv1 (o:AOv) (i:Int):put 1 [V.int .i64 i] (cOv o) = cOv { o with inner:=i }:=rfl
theorem put_cOvz (o:AOv):put 0 (cOv o) [.int .i64 0,.int .i64 0,.sl 1 [],.str [],.bool false,.sl 3 [],.str [],.bool false,.sl 3 [],.str [],.bool false,.sl 3 []] = cOv o:=rfl
attribute [push_cast] put_cOv0 put_cOv1 put_cOvz
attribute [push_cast] cOv_len sub_cOv sto_encOv encOv_fold rens_cOv ren_encOv
theorem overE_err (a b:ARule) (pos:List Int) (sub:Term):(overE a b pos sub).2 ≠ 0→(overE a b pos sub).1 = false∧(overE a b pos sub).2 = 3:=by
 intro h
 have hE:=unif1_errs sub b.left
 unfold overE at h ⊢
 split at h
 ·rename_i c
  rw [if_pos c]
  rcases hE with e | ⟨e,_⟩
  ·exact absurd e h
  ·exact ⟨rfl,e⟩
 ·rename_i c
  rw [if_neg c]
  split at h
  ·rename_i c2
   rw [if_pos c2];exact ⟨rfl,rfl⟩
  ·rename_i c2
   rw [if_neg c2]
   split at h
   ·rename_i c3
    rw [if_pos c3];exact ⟨rfl,rfl⟩
   ·exact absurd rfl h
theorem all_inner {r:List ARule} (hr:∀ x∈r,GoodR x) (hrl:r.length≤64) {i:Nat} (hi:i < r.length) {a:ARule} (ha:GoodR a) {pos:List Int} (hpos:pos.length < 2^20) {sub:Term} (hs:GoodT sub) {nm:NM}
  {Q:X→T→List Ob→Prop} (L:Ob) (hL:renOb (clip 10) L = L) (S:List AOv × Int)
  (out0:List AOv) (h0:out0.length≤4096) (hS:scanE (stepJ r i a pos sub) out0 (List.range r.length) = S)
  (kOk:∀ out,S = (out,0)→out.length≤4096→∀ T,Q .fall T (oH8 out (.sl 12 []) 0 a nm++[L,.dead]))
  (kBad:∀ out e,S.2 = e→e ≠ 0→∀ T J,Q .ret T (oH8 out (.sl 12 []) e a nm++(L :: J))) :
  overlap_All.L7 (.ptr 0 0) (.ptr 1 0) (.ptr 2 0) (.ro [.int .i64 i] 0) (.ptr 5 0) (encP pos) (.ro (cT sub) 0) (encRs r) (.int .i64 r.length) (.int .i64 0) 9 (oH8 out0 (.sl 12 []) 0 a nm++[L,.dead]) Q:=by
 refine loop_up (n:=r.length) (R:=fun j=>∀ out:List AOv,out.length≤4096→scanE (stepJ r i a pos sub) out ((List.range r.length).drop j) = S→overlap_All.L7 (.ptr 0 0) (.ptr 1 0) (.ptr 2 0) (.ro [.int .i64 i] 0) (.ptr 5 0) (encP pos) (.ro (cT sub) 0) (encRs r) (.int .i64 r.length) (.int .i64 j) 9 (oH8 out (.sl 12 []) 0 a nm++[L,.dead]) Q) ?_ ?_ 0 (by omega) out0 h0 hS
 ·intro j hj ih out hol he
  have hx:=hr _ (getD_mem hj)
  have hjr:j < (List.range r.length).length:=by simpa using hj
  have hgj:(List.range r.length).getD j default = j:=by simp [List.getD_eq_getElem?_getD,hj]
  rw [drop_getD hjr,hgj] at he
  have hI:=overlap_inner_s (r.getD j default) (by have:=hx.l.sz;have:=hx.r.sz;omega)
  rw [renR_renQ (pre:=[121]) (by simp) hx.l.vf hx.r.vf hx.v] at hI
  have hb:=renQ_good (pre:=[121]) rfl hx
  have hO:=overlap_one_s ha hb hpos hs
  have hErr:=overE_err a (renQ [121] (r.getD j default)) pos sub
  have hst:stepJ r i a pos sub out j = stepJ r i a pos sub out j:=rfl
  conv at hst=>rhs;unfold stepJ
  have hl9:∀ k:Nat,clip 9 k = if k < 9 then some k else none:=fun _=>rfl
  refine overlap_All.G7 ?_
  by_cases hc:i = j∧pos = []
  ·rw [if_pos hc] at hst
   rw [scanE_ok hst] at he
   have:=ih out hol he
   obtain ⟨c1,c2⟩:=hc
   have i1:((i:Int) = (j:Int)) = True:=eq_true (by omega)
   have i2:((pos.length:Int) = 0) = True:=eq_true (by rw [c2];rfl)
   push_cast [ilt hj,hL,i1,i2,w64 (show j < 2^62 by omega)]
   push_cast at this
   exact this
  ·rw [if_neg hc] at hst
   have go:∀ T:T,True:=fun _=>trivial
   generalize renQ [121] (r.getD j default) = b at hI hb hO hErr hst
   generalize hoo:ovO a b pos sub = o at hO hst
   generalize hov:overE a b pos sub = v at hO hErr hst
   obtain ⟨ok,e⟩:=v
   simp only at hErr hst
   by_cases hi1:i = j
   ·have hp:pos ≠ []:=fun h=>hc ⟨hi1,h⟩
    have i1:((i:Int) = (j:Int)) = True:=eq_true (by omega)
    have i2:((pos.length:Int) = 0) = False:=eq_false (by have:=List.length_pos_iff.2 hp;omega)
    push_cast [ilt hj,i1,i2]
    refine .of hI ?_
    push_cast
    refine .of hO ?_
    have hroom:(out.length+1) * 184≤maxEls:=by unfold maxEls;omega
    by_cases he0:e = 0
    ·subst he0
     rw [if_neg (by simp)] at hst
     cases ok with
     | true =>
      rw [if_pos rfl] at hst
      by_cases h4:4096 < out.length+1
      ·rw [if_pos h4] at hst
       rw [scanE_bad hst (by omega)] at he
       have i4:((4096:Int) < (out.length:Int)+1) = True:=eq_true (by omega)
       push_cast [hroom,i4,List.length_append,List.length_singleton]
       have hl3:out.length+1 = (out++[({ o with outer:=(i:Int),inner:=(j:Int) }:AOv)]).length:=by simp
       rw [hl3]
       exact kBad (out++[_]) 3 (by rw [← he]) (by omega) _ _
      ·rw [if_neg h4] at hst
       rw [scanE_ok hst] at he
       have i4:((4096:Int) < (out.length:Int)+1) = False:=eq_false (by omega)
       have:=ih _ (by simp;omega) he
       push_cast [hroom,i4,hL,List.length_append,List.length_singleton,w64 (show j < 2^62 by omega)]
       push_cast [List.length_append,List.length_singleton] at this
       exact this
     | false =>
      rw [if_neg (by simp),if_neg (by omega)] at hst
      rw [scanE_ok hst] at he
      have i4:((4096:Int) < (out.length:Int)) = False:=eq_false (by omega)
      have:=ih _ hol he
      push_cast [i4,hL,w64 (show j < 2^62 by omega)]
      push_cast at this
      exact this
    ·rw [if_pos he0] at hst
     rw [scanE_bad hst he0] at he
     have i3:(e = 0) = False:=eq_false he0
     push_cast [i3]
     exact kBad out e (by rw [← he]) he0 _ _
   ·have i1:((i:Int) = (j:Int)) = False:=eq_false (by omega)
    push_cast [ilt hj,i1]
    refine .of hI ?_
    push_cast
    refine .of hO ?_
    have hroom:(out.length+1) * 184≤maxEls:=by unfold maxEls;omega
    by_cases he0:e = 0
    ·subst he0
     rw [if_neg (by simp)] at hst
     cases ok with
     | true =>
      rw [if_pos rfl] at hst
      by_cases h4:4096 < out.length+1
      ·rw [if_pos h4] at hst
       rw [scanE_bad hst (by omega)] at he
       have i4:((4096:Int) < (out.length:Int)+1) = True:=eq_true (by omega)
       push_cast [hroom,i4,List.length_append,List.length_singleton]
       have hl3:out.length+1 = (out++[({ o with outer:=(i:Int),inner:=(j:Int) }:AOv)]).length:=by simp
       rw [hl3]
       exact kBad (out++[_]) 3 (by rw [← he]) (by omega) _ _
      ·rw [if_neg h4] at hst
       rw [scanE_ok hst] at he
       have i4:((4096:Int) < (out.length:Int)+1) = False:=eq_false (by omega)
       have:=ih _ (by simp;omega) he
       push_cast [hroom,i4,hL,List.length_append,List.length_singleton,w64 (show j < 2^62 by omega)]
       push_cast [List.length_append,List.length_singleton] at this
       exact this
     | false =>
      rw [if_neg (by simp),if_neg (by omega)] at hst
      rw [scanE_ok hst] at he
      have i4:((4096:Int) < (out.length:Int)) = False:=eq_false (by omega)
      have:=ih _ hol he
      push_cast [i4,hL,w64 (show j < 2^62 by omega)]
      push_cast at this
      exact this
    ·rw [if_pos he0] at hst
     rw [scanE_bad hst he0] at he
     have i3:(e = 0) = False:=eq_false he0
     push_cast [i3]
     exact kBad out e (by rw [← he]) he0 _ _
 ·intro out hol he
  have e1:(List.range r.length).drop r.length = []:=by rw [List.drop_eq_nil_of_le];simp
  rw [e1] at he
  simp only [scanE] at he
  refine overlap_All.G7 ?_
  push_cast [inlt (Nat.le_refl _)]
  have:=kOk out he.symm hol
  exact this _
end Go.Dw
end
section
namespace Go.Dw
theorem shut_o8 (out:List AOv) (e:Int) (a:ARule) (nm:NM):Shut 8 (oH8 out (.sl 12 []) e a nm):=⟨rfl,by
 show [renOb (clip 8) (.cells t_s_Overlap [.sl 12 []]),renOb (clip 8) (.cells t_Errno [.int .i64 e]),renOb (clip 8) (.cells t_s_Overlap [ownL cOv 3 12 out]),renOb (clip 8) (.arr t_Overlap 12 out.length),renOb (clip 8) .dead,renOb (clip 8) (.cells t_Rule (cR a)),renOb (clip 8) (.map (encS V.str nm)),renOb (clip 8) (.cells t_m_string_string [.map 6])] = _
 have h3:clip 8 3 = some 3:=rfl
 have h6:clip 8 6 = some 6:=rfl
 push_cast [h3,h6]⟩
theorem cut_o8 (out:List AOv) (e:Int) (a:ARule) (nm:NM) (J:List Ob):cut 8 (oH8 out (.sl 12 []) e a nm++J) = oH8 out (.sl 12 []) e a nm:=by
 show [renOb (clip 9) (.cells t_s_Overlap [.sl 12 []]),renOb (clip 9) (.cells t_Errno [.int .i64 e]),renOb (clip 9) (.cells t_s_Overlap [ownL cOv 3 12 out]),renOb (clip 9) (.arr t_Overlap 12 out.length),renOb (clip 9) .dead,renOb (clip 9) (.cells t_Rule (cR a)),renOb (clip 9) (.map (encS V.str nm)),renOb (clip 9) (.cells t_m_string_string [.map 6])] = _
 have h3:clip 9 3 = some 3:=rfl
 have h6:clip 9 6 = some 6:=rfl
 push_cast [h3,h6]
theorem visit_good {t:Term} (ht:GoodT t) {x:List Int × Term} (hx:x∈visit t []):GoodT x.2∧x.1.length < 2^20∧subT t x.1 = some x.2:=by
 have h1:=visit_at t [] x hx
 obtain ⟨p,hp,h2⟩:=h1
 rw [List.nil_append] at hp
 rw [← hp] at h2
 have h3:=(visit_sub t [] x hx).2
 have:=ht.sz
 exact ⟨GoodT.sub _ ht h2,by simp only [List.length_nil] at h3;omega,h2⟩
theorem all_rf {r:List ARule} (hr:∀ x∈r,GoodR x) (hrl:r.length≤64) {i:Nat} (hi:i < r.length) {a:ARule} (ha:GoodR a) {nm:NM} (S:List AOv × Int) (out0:List AOv) (h0:out0.length≤4096)
  (hS:scanE (stepV r i a) out0 (visit a.left []) = S) (T:T) (Ks:List K) {Q:X→Dw.T→List Ob→Prop}
  (t34:lk T 34 = .fn (.func n_term_Walk_1) [] [.ro (cT a.left) 0]) (t1:lk T 1 = .ro [encRs r] 0) (t2:lk T 2 = .ptr 0 0) (t3:lk T 3 = .ptr 1 0) (t4:lk T 4 = .ptr 2 0) (t5:lk T 5 = .ro [.int .i64 i] 0) (t6:lk T 6 = .ptr 5 0)
  (hT8:(T.map fun p=>(p.1,ren (clip 8) p.2)) = T) (hT10:(T.map fun p=>(p.1,ren (clip 10) p.2)) = T)
  (kOk:∀ out,S = (out,0)→out.length≤4096→Run prog overlap_All.nd 0 Ks T (oH8 out (.sl 12 []) 0 a nm++[.dead]) Q)
  (kBad:∀ out e,S.2 = e→e ≠ 0→Run prog overlap_All.nd 0 (.c (jumpC .ret) :: Ks) T (oH8 out (.sl 12 []) e a nm++[.dead]) Q) :
  Run prog overlap_All.nd 0 (.c (.rf (.s 34) [35,36] (.seq (.reg [.mv 8 (.s 35)]) (.reg [.al 9 t_Term [.str [],.bool false,.sl 3 []],.sf 9 3 (.s 36)])) (.m 9)) :: Ks) T (oH8 out0 (.sl 12 []) 0 a nm) Q:=by
 refine Run.rf n_term_Walk_1 [] [.ro (cT a.left) 0] ((visit a.left []).map encIt) (fun j H1=>∃ out,H1 = oH8 out (.sl 12 []) 0 a nm∧out.length≤4096∧scanE (stepV r i a) out ((visit a.left []).drop j) = S) (fun e H1=>e = .ret∧∃ out e',S.2 = e'∧e' ≠ 0∧H1 = oH8 out (.sl 12 []) e' a nm) t34 (term_Walk_iter a.left (by have:=ha.l.sz;omega)) ?_ ⟨out0,rfl,h0,hS⟩ hT8 ?_ ?_ ?_ ?_ ?_
 ·intro it hit
  obtain ⟨x,_,rfl⟩:=List.mem_map.1 hit
  rfl
 ·rintro j H1 ⟨out,rfl,_⟩
  exact shut_o8 out 0 a nm
 ·rintro e H1 ⟨_,out,e',_,_,rfl⟩
  exact shut_o8 out e' a nm
 ·rintro lo rr j it H1 hit ⟨out,rfl,hol,hq⟩
  rw [List.getElem?_map] at hit
  cases hx:(visit a.left [])[j]? with
  | none=>rw [hx] at hit;cases hit
  | some x =>
  rw [hx] at hit
  have hit:it = encIt x:=by simpa using hit.symm
  subst hit
  have hj:j < (visit a.left []).length:=(List.getElem?_eq_some_iff.1 hx).1
  have hxj:(visit a.left []).getD j default = x:=by rw [List.getD_eq_getElem?_getD,hx];rfl
  have hxm:x∈visit a.left []:=hxj ▸ getD_mem hj
  obtain ⟨hg,hpl,hsb⟩:=visit_good ha.l hxm
  rw [drop_getD hj,hxj] at hq
  have hL:renOb (clip 10) (.lp lo .busy rr T) = .lp lo .busy rr T:=by push_cast [hT10]
  have hst:stepV r i a out x = stepV r i a out x:=rfl
  conv at hst=>rhs;unfold stepV
  push_cast [setPs,encIt]
  refine run_m.2 ?_
  cases hv:x.2.var with
  | true =>
   rw [hv,if_pos rfl] at hst
   rw [scanE_ok hst] at hq
   push_cast [hv,t1,t2,t3,t4,t5,t6]
   exact ⟨rfl,out,cut_o8 out 0 a nm [.lp lo .busy rr T,.dead],hol,hq⟩
  | false =>
   rw [hv,if_neg (by simp)] at hst
   push_cast [hv,t1,t2,t3,t4,t5,t6,hT10]
   refine all_inner hr hrl hi ha hpl hg (.lp lo .busy rr T) hL _ out hol rfl ?_ ?_
   ·intro out' h1 h2 T'
    rw [h1] at hst
    rw [scanE_ok hst] at hq
    exact ⟨rfl,out',cut_o8 out' 0 a nm [.lp lo .busy rr T,.dead],h2,hq⟩
   ·intro out' e' h1 h2 T' J
    generalize scanE (stepJ r i a x.1 x.2) out (List.range r.length) = S2 at hst h1
    obtain ⟨o2,e2⟩:=S2
    have h1:e2 = e':=h1
    subst h1
    rw [scanE_bad hst h2] at hq
    exact ⟨rfl,rfl,out',e2,by rw [← hq],h2,cut_o8 out' e2 a nm (.lp lo .busy rr T :: J)⟩
 ·rintro H1 ⟨out,rfl,hol,hq⟩
  rw [List.length_map,drop_map_none] at hq
  exact kOk out hq.symm hol
 ·rintro e H1 ⟨rfl,out,e',h1,h2,rfl⟩
  exact kBad out e' h1 h2
end Go.Dw
end
section
namespace Go.Dw
abbrev encOvs (l:List AOv):V:=encL cOv 12 l
abbrev p6 (out:List AOv) (x:ARule):List Ob:=oH1 out (.sl 12 []) 0++[.dead,.cells t_Rule (cR x)]
theorem all_args (z:Term):rens (pos? [6,7]) [encT z,V.ptr 7 0] = [encT z,V.ptr 1 0]:=by
 have q5:pos? [6,7] 7 = some 1:=rfl
 push_cast [q5]
theorem overlap_All_s {r:List ARule} (hr:∀ x∈r,GoodR x) (hrl:r.length≤64):PF n_overlap_All [encRs r] (.tup [encOvs (allO r).1,.int .i64 (allO r).2]):=by
 refine pf_of overlap_All.ok rfl ?_
 push_cast
 refine loop_up (n:=r.length) (R:=fun k=>∀ (out:List AOv),out.length≤4096→scanE (stepI r) out ((List.range r.length).drop k) = allO r→overlap_All.L11 (.ro [encRs r] 0) (.ptr 0 0) (.ptr 1 0) (.ptr 2 0) .any .any (encRs r) (.int .i64 r.length) (.int .i64 k) 0 (oH1 out (.sl 12 []) 0) (Ends 0 overlap_All.rs fun x' H'=>x' = .tup [encOvs (allO r).1,.int .i64 (allO r).2]∧H' = [])) ?_ ?_ 0 (by omega) [] (by simp) rfl
 ·intro k hk ih out hol he
  have hx:=hr _ (getD_mem hk)
  have hkr:k < (List.range r.length).length:=by simpa using hk
  have hgk:(List.range r.length).getD k default = k:=by simp [List.getD_eq_getElem?_getD,hk]
  rw [drop_getD hkr,hgk] at he
  have hst:stepI r out k = stepI r out k:=rfl
  conv at hst=>rhs;unfold stepI
  have hRR:=renR_renQ (pre:=[120]) (by simp) hx.l.vf hx.r.vf hx.v
  have hg:=renQ_good (pre:=[120]) rfl hx
  generalize hxx:r.getD k default = x at hx hRR hg hst
  have hN1:=term_Standard_1_s [] x.left (by have:=hx.l.sz;simp;omega)
  have hN2:=term_Standard_1_s (renT [120] [] x.left).1 x.right (by have:=renT_size [120] x.left [];have:=hx.l.sz;have:=hx.r.sz;simp only [List.length_nil] at *;omega)
  unfold renR at hRR
  generalize renT [120] [] x.left = u at hN1 hN2 hRR
  generalize renT [120] u.1 x.right = w at hN2 hRR
  have hcR:cR ⟨u.2,w.2⟩ = cR (renQ [120] x):=by rw [hRR]
  generalize renQ [120] x = a at hcR hg hst
  have hW:=term_Walk_s a.left
  refine overlap_All.G11 ?_
  simp only [overlap_All.nd]
  generalize hC:C.n 10 = c10
  push_cast [ilt hk]
  subst hC
  rw [run_n]
  simp only [overlap_All.nd]
  generalize hR:C.rf (O.s 34) [35,36] ((C.reg [S.mv 8 (O.s 35)]).seq (C.reg [S.al 9 t_Term [V.str [],V.bool false,V.sl 3 []],S.sf 9 3 (O.s 36)])) (C.m 9) = cRf
  have hz:∀ x:ARule,put 0 (cR x) [V.str [],V.bool false,V.sl 3 [],V.str [],V.bool false,V.sl 3 []] = cR x:=fun _=>rfl
  have hz2:∀ y:ARule,put 0 (cT u.2++cT w.2) (cR y) = cR a:=fun _=>by rw [← hcR];rfl
  push_cast [ilt hk,hxx]
  refine callG_std _ ?_
  push_cast [hz]
  refine ⟨?_,?_,?_⟩
  all_goals
   refine callG_np (p6 out x) [] (all_args x.left) (specF_func ▸ hN1) ?_
   push_cast [hz]
   refine callG_np (p6 out x) [] (all_args x.right) (specF_func ▸ hN2) ?_
   push_cast [hz,hz2]
   refine .of hW ?_
   push_cast
   subst hR
   refine all_rf hr hrl hk hg (nm:=w.1) _ out hol rfl _ _ rfl rfl rfl rfl rfl rfl rfl (by push_cast;rfl) (by push_cast;rfl) ?_ ?_
   ·intro out' h1 h2
    rw [h1] at hst
    rw [scanE_ok hst] at he
    have this:=ih out' h2 he
    push_cast [w64 (show k < 2^62 by omega)]
    push_cast at this
    exact this
   ·intro out' e' h1 h2
    generalize scanE (stepV r k a) out (visit a.left []) = S2 at hst h1
    obtain ⟨o2,e2⟩:=S2
    have h1:e2 = e':=h1
    subst h1
    rw [scanE_bad hst h2] at he
    rw [← he]
    push_cast [jumpC]
    exact pf_ret (by push_cast [overlap_All.rs];rfl)
 ·intro out hol he
  have e1:(List.range r.length).drop r.length = []:=by rw [List.drop_eq_nil_of_le];simp
  rw [e1] at he
  simp only [scanE] at he
  refine overlap_All.G11 ?_
  push_cast [inlt (Nat.le_refl _)]
  rw [← he]
  exact pf_ret (by push_cast [overlap_All.rs])
end Go.Dw
end
section
namespace Go.Dw
noncomputable def stepRJ (r:List ARule) (i:Nat) (p:List Int) (x:Term) (out:List AOv) (j:Nat):List AOv × Int :=
 if x.var = true ∨ (i = j∧p = []) then (out,0)
 else if (overE (renQ [120] (r.getD i default)) (renQ [121] (r.getD j default)) p (app (rho [120] (firstT [] (r.getD i default).left)) x)).2 ≠ 0 then ([],(overE (renQ [120] (r.getD i default)) (renQ [121] (r.getD j default)) p (app (rho [120] (firstT [] (r.getD i default).left)) x)).2)
 else if (overE (renQ [120] (r.getD i default)) (renQ [121] (r.getD j default)) p (app (rho [120] (firstT [] (r.getD i default).left)) x)).1 then (out++[ovR (renQ [120] (r.getD i default)) (renQ [121] (r.getD j default)) i j p (app (rho [120] (firstT [] (r.getD i default).left)) x)],0)
 else (out,0)
noncomputable def stepRV (r:List ARule) (i:Nat) (out:List AOv) (x:List Int × Term):List AOv × Int:=scanE (stepRJ r i x.1 x.2) out (List.range r.length)
noncomputable def stepRI (r:List ARule) (out:List AOv) (i:Nat):List AOv × Int:=scanE (stepRV r i) out (visit (r.getD i default).left [])
noncomputable def listR (r:List ARule):List AOv × Int :=
 if (scanE (stepRI r) [] (List.range r.length)).2 ≠ 0 then ([],(scanE (stepRI r) [] (List.range r.length)).2)
 else if 4096 < (scanE (stepRI r) [] (List.range r.length)).1.length then ([],3) else ((scanE (stepRI r) [] (List.range r.length)).1,0)
theorem rho_sub {x:ARule} (hx:GoodR x) {p:List Int} {y:Term} (h:subT x.left p = some y):subT (renQ [120] x).left p = some (app (rho [120] (firstT [] x.left)) y):=by
 have h1:=sub_inst (σ:=renB (firstT [] x.left) [120]) p x.left y hx.l.sh h
 rw [inst_renB,inst_renB] at h1
 exact h1
end Go.Dw
end
section
namespace Go.Dw
def RelO (P R:List AOv × Int):Prop:=(P.2 = 0∧R.2 = 0∧P.1.length = R.1.length∧P.1.length≤4096) ∨ (P.2 = 3∧(R.2 = 3 ∨ (R.2 = 0∧4096 < R.1.length)))
def MonO {β:Type} (G:List AOv→β→List AOv × Int) (l:List β):Prop:=∀ o,∀ y∈l,(G o y).2 = 3 ∨ ((G o y).2 = 0∧o.length≤(G o y).1.length)
theorem scan_mono {β:Type} {G:List AOv→β→List AOv × Int}:∀ (l:List β) (o:List AOv),MonO G l→(scanE G o l).2 = 3 ∨ ((scanE G o l).2 = 0∧o.length≤(scanE G o l).1.length)
 | [],o,_=>.inr ⟨rfl,Nat.le_refl _⟩
 | y :: l,o,h=>by
  simp only [scanE]
  rcases h o y (by simp) with h1 | ⟨h1,h2⟩
  ·rw [if_pos (by rw [h1];decide)];exact .inl h1
  ·rw [if_neg (by rw [h1];decide)]
   rcases scan_mono l (G o y).1 fun o z hz=>h o z (by simp [hz]) with h3 | ⟨h3,h4⟩
   ·exact .inl h3
   ·exact .inr ⟨h3,by omega⟩
theorem scan_rel {α β:Type} {F:List AOv→α→List AOv × Int} {G:List AOv→β→List AOv × Int} {f:β→α}:∀ (l:List β) (o o':List AOv),MonO G l→(∀ o o',∀ y∈l,o.length = o'.length→o.length≤4096→RelO (F o (f y)) (G o' y))→o.length = o'.length→o.length≤4096→RelO (scanE F o (l.map f)) (scanE G o' l)
 | [],o,o',_,_,h1,h2=>.inl ⟨rfl,rfl,h1,h2⟩
 | y :: l,o,o',hm,hs,h1,h2=>by
  simp only [List.map_cons,scanE]
  rcases hs o o' y (by simp) h1 h2 with ⟨a1,a2,a3,a4⟩ | ⟨a1,a2⟩
  ·rw [if_neg (by rw [a1];decide),if_neg (by rw [a2];decide)]
   exact scan_rel l _ _ (fun o z hz=>hm o z (by simp [hz])) (fun o o' z hz=>hs o o' z (by simp [hz])) a3 a4
  ·rw [if_pos (by rw [a1];decide)]
   refine .inr ⟨a1,?_⟩
   rcases a2 with a2 | ⟨a2,a3⟩
   ·rw [if_pos (by rw [a2];decide)];exact .inl a2
   ·rw [if_neg (by rw [a2];decide)]
    rcases scan_mono l (G o' y).1 fun o z hz=>hm o z (by simp [hz]) with h3 | ⟨h3,h4⟩
    ·exact .inl h3
    ·exact .inr ⟨h3,by omega⟩
theorem overE_errs (a b:ARule) (pos:List Int) (sub:Term):(overE a b pos sub).2 = 0 ∨ (overE a b pos sub).2 = 3:=by
 by_cases h:(overE a b pos sub).2 = 0
 ·exact .inl h
 ·exact .inr (overE_err a b pos sub h).2
theorem stepRJ_mono (r:List ARule) (i:Nat) (p:List Int) (x:Term) (l:List Nat):MonO (stepRJ r i p x) l:=fun o j _=>by
 unfold stepRJ
 split
 ·exact .inr ⟨rfl,Nat.le_refl _⟩
 ·split
  ·rename_i h
   rcases overE_errs (renQ [120] (r.getD i default)) (renQ [121] (r.getD j default)) p (app (rho [120] (firstT [] (r.getD i default).left)) x) with h2 | h2
   ·exact absurd h2 h
   ·exact .inl h2
  ·split
   ·exact .inr ⟨rfl,by simp⟩
   ·exact .inr ⟨rfl,Nat.le_refl _⟩
theorem stepRV_mono (r:List ARule) (i:Nat) (l:List (List Int × Term)):MonO (stepRV r i) l:=fun o y _=>scan_mono _ _ (stepRJ_mono r i y.1 y.2 _)
theorem stepRI_mono (r:List ARule) (l:List Nat):MonO (stepRI r) l:=fun o i _=>scan_mono _ _ (stepRV_mono r i _)
theorem step_rel (r:List ARule) (i:Nat) (p:List Int) (x:Term) (hx:x.var = false) (o o':List AOv) (j:Nat) (h1:o.length = o'.length) (h2:o.length≤4096) :
  RelO (stepJ r i (renQ [120] (r.getD i default)) p (app (rho [120] (firstT [] (r.getD i default).left)) x) o j) (stepRJ r i p x o' j):=by
 unfold stepJ stepRJ
 have he:=overE_errs (renQ [120] (r.getD i default)) (renQ [121] (r.getD j default)) p (app (rho [120] (firstT [] (r.getD i default).left)) x)
 generalize overE (renQ [120] (r.getD i default)) (renQ [121] (r.getD j default)) p (app (rho [120] (firstT [] (r.getD i default).left)) x) = v at he ⊢
 obtain ⟨ok,e⟩:=v
 simp only at he ⊢
 by_cases hc:i = j∧p = []
 ·rw [if_pos hc,if_pos (.inr hc)]
  exact .inl ⟨rfl,rfl,h1,h2⟩
 ·have c2:¬ (x.var = true ∨ (i = j∧p = [])):=by rw [hx];simp only [Bool.false_eq_true,false_or];exact hc
  rw [if_neg hc,if_neg c2]
  rcases he with rfl | rfl
  ·simp only [ne_eq,not_true_eq_false,if_false]
   cases ok with
   | true =>
    simp only [if_true]
    by_cases h4:4096 < o.length+1
    ·rw [if_pos h4]
     exact .inr ⟨rfl,.inr ⟨rfl,by simp;omega⟩⟩
    ·rw [if_neg h4]
     exact .inl ⟨rfl,rfl,by simp;omega,by simp;omega⟩
   | false =>
    simp only [Bool.false_eq_true,if_false]
    rw [if_neg (by omega)]
    exact .inl ⟨rfl,rfl,h1,h2⟩
  ·have c3:(3:Int) ≠ 0:=by decide
   rw [if_pos c3,if_pos c3]
   exact .inr ⟨rfl,.inl rfl⟩
theorem scan_same {β:Type} {G:List AOv→β→List AOv × Int} {o:List AOv}:∀ l:List β,(∀ y∈l,G o y = (o,0))→scanE G o l = (o,0)
 | [],_=>rfl
 | y :: l,h=>by rw [scanE_ok (h y (by simp))];exact scan_same l fun z hz=>h z (by simp [hz])
theorem stepV_rel (r:List ARule) (i:Nat) (o o':List AOv) (y:List Int × Term) (h1:o.length = o'.length) (h2:o.length≤4096) :
  RelO (stepV r i (renQ [120] (r.getD i default)) o (y.1,app (rho [120] (firstT [] (r.getD i default).left)) y.2)) (stepRV r i o' y):=by
 unfold stepV stepRV
 cases hv:y.2.var with
 | true =>
  have hv2:(app (rho [120] (firstT [] (r.getD i default).left)) y.2).var = true:=by rw [app_var hv];rfl
  rw [if_pos hv2,scan_same _ fun j _=>by unfold stepRJ;rw [if_pos (.inl hv)]]
  exact .inl ⟨rfl,rfl,h1,h2⟩
 | false =>
  have hv2:(app (rho [120] (firstT [] (r.getD i default).left)) y.2).var = false:=by rw [app_fun hv];rfl
  have hv3:¬ (((y.1,app (rho [120] (firstT [] (r.getD i default).left)) y.2):List Int × Term).2.var = true):=by
   show ¬ ((app (rho [120] (firstT [] (r.getD i default).left)) y.2).var = true)
   rw [hv2];simp
  rw [if_neg hv3]
  have:=scan_rel (F:=stepJ r i (renQ [120] (r.getD i default)) y.1 (app (rho [120] (firstT [] (r.getD i default).left)) y.2)) (G:=stepRJ r i y.1 y.2) (f:=id) (List.range r.length) o o' (stepRJ_mono r i y.1 y.2 _) (fun o o' j _ h1 h2=>step_rel r i y.1 y.2 hv o o' j h1 h2) h1 h2
  rw [List.map_id] at this
  exact this
theorem visit_app {f:Sub} (hf:∀ v,∃ w,f v = varT w) (t:Term):∀ p:List Int,vfl t = true→visit (app f t) p = (visit t p).map fun x=>(x.1,app f x.2):=by
 induction t using term_ind with
 | h t ih =>
 intro p ht
 rw [visit_eq (app f t),visit_eq t]
 cases hv:t.var with
 | true =>
  obtain ⟨w,hw⟩:=hf t.name
  have h0:t.args = []:=(vfl_iff.1 ht).1 hv
  have h1:(app f t).args = []:=by rw [app_var hv,hw];rfl
  rw [h0,h1]
  rfl
 | false =>
  have h1:(app f t).args = t.args.map (app f):=by rw [app_fun hv];rfl
  rw [h1]
  have key:∀ (l:List Term) (i:Nat),(∀ a∈l,a∈t.args)→visits (l.map (app f)) p i = (visits l p i).map fun x=>(x.1,app f x.2):=by
   intro l
   induction l with
   | nil=>intro i _;rfl
   | cons a l ihl =>
    intro i hl
    simp only [List.map_cons,visits,List.map_append]
    rw [ih a (hl a (by simp)) _ (vfl_arg ht (hl a (by simp))),ihl (i+1) fun b hb=>hl b (by simp [hb])]
  rw [key t.args 0 fun _ h=>h]
  rfl
theorem overlaps_same {r:List ARule} (hr:∀ x∈r,GoodR x):(allO r).2 = (listR r).2∧((allO r).2 = 0→(allO r).1.length = (listR r).1.length):=by
 have h:=scan_rel (F:=stepI r) (G:=stepRI r) (f:=id) (List.range r.length) [] [] (stepRI_mono r _) (fun o o' i hi h1 h2=>by
  have hi:i < r.length:=List.mem_range.1 hi
  have hx:=hr _ (getD_mem hi)
  unfold stepI stepRI
  have hv:=visit_app (f:=rho [120] (firstT [] (r.getD i default).left)) (fun v=>⟨_,rfl⟩) (r.getD i default).left [] hx.l.vf
  show RelO (scanE (stepV r i (renQ [120] (r.getD i default))) o (visit (app (rho [120] (firstT [] (r.getD i default).left)) (r.getD i default).left) [])) _
  rw [hv]
  exact scan_rel (f:=fun x:List Int × Term=>(x.1,app (rho [120] (firstT [] (r.getD i default).left)) x.2)) _ o o' (stepRV_mono r i _) (fun o o' y _ h1 h2=>stepV_rel r i o o' y h1 h2) h1 h2) rfl (by simp)
 rw [List.map_id] at h
 unfold listR
 show (scanE (stepI r) [] (List.range r.length)).2 = _∧((scanE (stepI r) [] (List.range r.length)).2 = 0→(scanE (stepI r) [] (List.range r.length)).1.length = _)
 generalize scanE (stepI r) [] (List.range r.length) = P at h ⊢
 generalize scanE (stepRI r) [] (List.range r.length) = R at h ⊢
 rcases h with ⟨a1,a2,a3,a4⟩ | ⟨a1,a2⟩
 ·rw [if_neg (by rw [a2];decide),if_neg (by omega)]
  exact ⟨a1,fun _=>a3⟩
 ·rcases a2 with a2 | ⟨a2,a3⟩
  ·rw [if_pos (by rw [a2];decide)]
   exact ⟨by rw [a1,a2],fun h=>by rw [a1] at h;cases h⟩
  ·rw [if_neg (by rw [a2];decide),if_pos a3]
   exact ⟨a1,fun h=>by rw [a1] at h;cases h⟩
end Go.Dw
end
section
namespace Go.Dw
theorem term_Count_s (t:Term) (v:Str) (hs:size t < 2^61):PF n_term_Count [encT t,.str v] (.int .i64 (count v t)):=by
 induction t using term_ind with
 | h t ih =>
 have hst:=size_args t
 have hla:=length_le_sizes t.args
 have hcl:=counts_le v t.args
 refine pf_of term_Count.ok rfl ?_
 have loop:∀ c0:Nat,c0≤1→count v t = c0+counts v t.args→term_Count.L3 (.str v) (.int .i64 c0) (encTs t.args) (.int .i64 t.args.length) (.int .i64 (0:Nat)) 0 [] (Ends 0 term_Count.rs fun x' H'=>x' = .int .i64 (count v t)∧H' = []):=by
  intro c0 hc0 he
  refine loop_up (n:=t.args.length) (R:=fun k=>∀ c:Nat,c = c0+counts v (t.args.take k)→term_Count.L3 (.str v) (.int .i64 c) (encTs t.args) (.int .i64 t.args.length) (.int .i64 k) 0 [] (Ends 0 term_Count.rs fun x' H'=>x' = .int .i64 (count v t)∧H' = [])) ?_ ?_ 0 (by omega) c0 (by simp [counts])
  ·intro k hk ih2 c hc
   have hm:=getD_mem hk
   have hsm:=size_mem hm
   have htk:=counts_take_le v t.args (k+1)
   rw [take_succ_getD hk,counts_append] at htk
   simp only [counts] at htk
   have hcall:=ih _ hm (by omega)
   have this:=ih2 (c+count v (t.args.getD k default)) (by rw [take_succ_getD hk,counts_append];simp only [counts];omega)
   generalize count v (t.args.getD k default) = d at hcall this htk
   have hw1:IntKind.i64.wrap ((c:Int)+(d:Int)) = (c:Int)+d:=wrap64 (by omega) (by omega)
   refine term_Count.G3 ?_
   push_cast [ilt hk]
   refine .of hcall ?_
   push_cast [hw1,w64 (show k < 2^62 by omega)]
   push_cast at this
   exact this
  ·intro c hc
   rw [List.take_length] at hc
   refine term_Count.G3 ?_
   push_cast [inlt (Nat.le_refl _)]
   rw [he,← hc]
   exact pf_ret (by push_cast [term_Count.rs])
 cases hv:t.var with
 | false =>
  have:=loop 0 (by omega) (by rw [count_eq,hv];simp)
  push_cast [hv]
  push_cast at this
  exact this
 | true =>
  by_cases hn:t.name = v
  ·have:=loop 1 (by omega) (by rw [count_eq,hv];simp [hn])
   push_cast [hv,hn,w64 (show 0 < 2^62 by omega)]
   push_cast at this
   exact this
  ·have:=loop 0 (by omega) (by rw [count_eq,hv];simp [hn])
   push_cast [hv,hn]
   push_cast at this
   exact this
def linB (t:Term):Bool:=!((varsT t).any fun v=>decide (1 < count v t))
theorem varsT_len {t:Term} (h:GoodT t):(varsT t).length≤4000:=by
 have h1:=collectT_len t []
 have:=h.sz
 have e:varsT t = collectT [] t:=rfl
 rw [e];simp only [List.length_nil] at h1;omega
theorem overlap_Linear_s {t:Term} (h:GoodT t):PF n_overlap_Linear [encT t] (.bool (linB t)):=by
 have hsz:=h.sz
 have hV:=term_VarsOf_s [t] (by simp [sizes];omega)
 rw [← varsT_eq] at hV
 have hC:=slices_ContainsFunc_s_string_string_s (p:=fun v=>decide (1 < count v t)) (g:=n_overlap_Linear_1) (caps:=[.ro (cT t) 0]) (fun _=>by push_cast) (varsT t) (by have:=varsT_len h;omega) fun v hv=>by
  refine pf_of overlap_Linear_1.ok rfl ?_
  push_cast
  refine .of (term_Count_s t v (by omega)) ?_
  push_cast
  have hq:decide ((1:Int) < (count v t:Int)) = decide (1 < count v t):=decide_eq_decide.2 ⟨fun h=>by omega,fun h=>by omega⟩
  exact pf_ret (by push_cast [overlap_Linear_1.rs];rw [hq])
 refine pf_of overlap_Linear.ok rfl ?_
 push_cast
 refine .of hV ?_
 push_cast
 refine .of hC ?_
 push_cast
 exact pf_ret (by push_cast [overlap_Linear.rs,linB])
theorem overlap_left_s {r:List ARule} (hr:∀ x∈r,GoodR x) (hl:r.length≤64):PF n_overlap_left [encRs r] (.bool (r.all fun x=>linB x.left)):=by
 have hC:=slices_ContainsFunc_s_Rule_Rule_s (p:=fun x=>!linB x.left) (g:=n_overlap_left_1) (caps:=[]) (fun _=>rfl) r (by omega) fun x hx=>by
  refine pf_of overlap_left_1.ok rfl ?_
  push_cast
  refine .of (overlap_Linear_s (hr x hx).l) ?_
  push_cast
  exact pf_ret (by push_cast [overlap_left_1.rs])
 refine pf_of overlap_left.ok rfl ?_
 push_cast
 refine .of hC ?_
 push_cast
 refine pf_ret ?_
 push_cast [overlap_left.rs]
 congr 1
 rw [List.all_eq_not_any_not]
theorem good_system {r:List ARule} (h:checkSystem r = 0):(∀ x∈r,GoodR x)∧r.length≤64:=by
 refine ⟨fun x hx=>?_,?_⟩
 ·obtain ⟨h1,h2⟩:=checkSystem_sides h x hx
  exact ⟨GoodT.of_check h1,GoodT.of_check h2,fun v hv=>(mem_varsOf v x.left).1 (varsOf_right h x hx v hv)⟩
 ·have h1:checkRules r = 0:=by
   unfold checkSystem at h
   split at h
   ·rename_i hc;exact absurd h hc
   ·rename_i hc;simpa using hc
  unfold checkRules at h1
  split at h1
  ·cases h1
  ·omega
noncomputable def orthoE (r:List ARule):Bool × Int :=
 if checkSystem r ≠ 0 then (false,checkSystem r) else if (allO r).2 ≠ 0 then (false,(allO r).2) else (decide ((allO r).1.length = 0) && r.all fun x=>linB x.left,0)
theorem overlap_Orthogonal_s {r:List ARule} (hs:rbs r < 2^38):PF n_overlap_Orthogonal [encRs r] (.tup [.bool (orthoE r).1,.int .i64 (orthoE r).2]):=by
 have hC:=term_CheckSystem_t r hs
 have hList:PF n_overlap_List [encRs r] (if checkSystem r ≠ 0 then .tup [encOvs [],.int .i64 (checkSystem r)] else .tup [encOvs (allO r).1,.int .i64 (allO r).2]):=by
  refine pf_of overlap_List.ok rfl ?_
  push_cast
  refine .of hC ?_
  by_cases h0:checkSystem r = 0
  ·obtain ⟨h1,h2⟩:=good_system h0
   rw [if_neg (by simpa using h0)]
   push_cast [h0]
   refine .of (overlap_All_s h1 h2) ?_
   push_cast
   exact pf_ret (by push_cast [overlap_List.rs])
  ·rw [if_pos h0]
   push_cast [h0]
   exact pf_ret (by push_cast [overlap_List.rs];rfl)
 refine pf_of overlap_Orthogonal.ok rfl ?_
 unfold orthoE
 push_cast
 refine .of hList ?_
 by_cases h0:checkSystem r = 0
 ·obtain ⟨h1,h2⟩:=good_system h0
  rw [if_neg (by simpa using h0),if_neg (by simpa using h0)]
  have hL:=overlap_left_s h1 h2
  generalize allO r = A
  obtain ⟨l,e⟩:=A
  simp only
  by_cases he:e = 0
  ·subst he
   simp only [ne_eq,not_true_eq_false,if_false]
   by_cases hl:l.length = 0
   ·have i1:((l.length:Int) = 0) = True:=eq_true (by omega)
    push_cast [i1]
    refine .of hL ?_
    push_cast
    exact pf_ret (by push_cast [overlap_Orthogonal.rs,hl])
   ·have i1:((l.length:Int) = 0) = False:=eq_false (by omega)
    push_cast [i1]
    exact pf_ret (by push_cast [overlap_Orthogonal.rs,hl])
  ·have i1:(e = 0) = False:=eq_false he
   rw [if_pos he]
   push_cast [i1]
   exact pf_ret (by push_cast [overlap_Orthogonal.rs])
 ·rw [if_pos h0,if_pos h0]
  have i1:(checkSystem r = 0) = False:=eq_false h0
  push_cast [i1]
  exact pf_ret (by push_cast [overlap_Orthogonal.rs])
end Go.Dw
end
section
namespace Go.Dw
noncomputable def readyE (r:List ARule):Int:=if (orthoE r).2 ≠ 0 then (orthoE r).2 else if (orthoE r).1 then 0 else 2
theorem residual_ready_s {r:List ARule} (hs:rbs r < 2^38):PF n_residual_ready [encRs r] (.int .i64 (readyE r)):=by
 have hO:=overlap_Orthogonal_s hs
 refine pf_of residual_ready.ok rfl ?_
 unfold readyE
 push_cast
 refine .of hO ?_
 generalize orthoE r = v
 obtain ⟨ok,e⟩:=v
 simp only
 by_cases he:e = 0
 ·subst he
  cases ok
  ·push_cast
   exact pf_ret (by push_cast [residual_ready.rs])
  ·push_cast
   exact pf_ret (by push_cast [residual_ready.rs])
 ·have i1:(e = 0) = False:=eq_false he
  push_cast [i1]
  exact pf_ret (by push_cast [residual_ready.rs])
theorem ready_ok {r:List ARule} (h:readyE r = 0):orthoE r = (true,0)∧checkSystem r = 0:=by
 have h1:orthoE r = (true,0):=by
  unfold readyE at h
  split at h
  ·rename_i hc;exact absurd h hc
  ·rename_i hc
   split at h
   ·rename_i h2
    have h3:(orthoE r).2 = 0:=by simpa using hc
    exact Prod.ext h2 h3
   ·cases h
 refine ⟨h1,?_⟩
 unfold orthoE at h1
 by_cases hc:checkSystem r = 0
 ·exact hc
 ·rw [if_pos hc] at h1
  exact absurd (congrArg Prod.fst h1) (by simp)
def endsE (r:List ARule) (m:AMulti):Int:=if (endM r ARule.left m).2 ≠ 0 then (endM r ARule.left m).2 else (endM r ARule.right m).2
def srcT (r:List ARule) (m:AMulti):Term:=(endM r ARule.left m).1.getD noT
def tgtT (r:List ARule) (m:AMulti):Term:=if (endM r ARule.left m).2 ≠ 0 then srcT r m else (endM r ARule.right m).1.getD noT
theorem encTE_getD (o:Option Term) (e:Int):encTE o e = .tup [encT (o.getD noT),.int .i64 e]:=by cases o <;> rfl
theorem residual_ends_s {r:List ARule} {m:AMulti} (hr:rbs r < 2^38) (hm:mb m < 2^38):PF n_residual_ends [encRs r,encM m] (.tup [encT (srcT r m),encT (tgtT r m),.int .i64 (endsE r m)]):=by
 have h1:=multi_Source_s r m hr hm
 have h2:=multi_Target_s r m hr hm
 rw [encTE_getD] at h1 h2
 unfold srcT tgtT endsE
 unfold srcT
 generalize endM r ARule.left m = A at *
 generalize endM r ARule.right m = B at *
 obtain ⟨o1,e1⟩:=A
 obtain ⟨o2,e2⟩:=B
 refine pf_of residual_ends.ok rfl ?_
 push_cast
 refine .of h1 ?_
 simp only
 by_cases he:e1 = 0
 ·subst he
  push_cast
  refine .of h2 ?_
  push_cast
  exact pf_ret (by push_cast [residual_ends.rs])
 ·have i1:(e1 = 0) = False:=eq_false he
  push_cast [i1]
  exact pf_ret (by push_cast [residual_ends.rs])
noncomputable def pairE (r:List ARule) (a b:AMulti):Int :=
 if readyE r ≠ 0 then readyE r else if endsE r a ≠ 0 then endsE r a else if endsE r b ≠ 0 then endsE r b else if srcT r a = srcT r b then 0 else 9
theorem endsE_ok {r:List ARule} {m:AMulti} (h:endsE r m = 0):checkM r m = 0∧srcT r m = sideM r ARule.left m∧tgtT r m = sideM r ARule.right m∧fits (sideM r ARule.left m) = true∧fits (sideM r ARule.right m) = true:=by
 unfold endsE at h
 split at h
 ·rename_i hc;exact absurd h hc
 ·rename_i hc
  have hc:(endM r ARule.left m).2 = 0:=by simpa using hc
  obtain ⟨a1,a2,a3⟩:=endM_some hc
  obtain ⟨b1,b2,b3⟩:=endM_some h
  refine ⟨a1,?_,?_,a2,b2⟩
  ·unfold srcT;rw [a3];rfl
  ·unfold tgtT;rw [if_neg (by simpa using hc),b3];rfl
theorem residual_both_s {r:List ARule} {a b:AMulti} (hr:rbs r < 2^38) (ha:mb a < 2^38) (hb:mb b < 2^38):PF n_residual_both [encRs r,encM a,encM b] (.int .i64 (pairE r a b)):=by
 have h0:=residual_ready_s hr
 have h1:=residual_ends_s hr ha
 have h2:=residual_ends_s hr hb
 have hz:endsE r a = 0→size (srcT r a) < 2^62:=fun h=>by
  obtain ⟨_,e,_,f,_⟩:=endsE_ok h
  rw [e]
  unfold fits at f
  simp at f
  omega
 unfold pairE
 refine pf_of residual_both.ok rfl ?_
 push_cast
 refine .of h0 ?_
 generalize readyE r = e0
 by_cases c0:e0 = 0
 ·subst c0
  simp only [ne_eq,not_true_eq_false,if_false]
  push_cast
  refine .of h1 ?_
  by_cases c1:endsE r a = 0
  ·have hz:=hz c1
   rw [if_neg (by simpa using c1)]
   push_cast [c1]
   refine .of h2 ?_
   by_cases c2:endsE r b = 0
   ·rw [if_neg (by simpa using c2)]
    push_cast [c2]
    refine .of (term_Equal_s (srcT r a) (srcT r b) hz) ?_
    by_cases c3:srcT r a = srcT r b
    ·rw [if_pos c3]
     push_cast [c3]
     exact pf_ret (by push_cast [residual_both.rs])
    ·rw [if_neg c3]
     push_cast [c3]
     exact pf_ret (by push_cast [residual_both.rs])
   ·rw [if_pos c2]
    have i2:(endsE r b = 0) = False:=eq_false c2
    push_cast [i2]
    exact pf_ret (by push_cast [residual_both.rs])
  ·rw [if_pos c1]
   have i1:(endsE r a = 0) = False:=eq_false c1
   push_cast [i1]
   exact pf_ret (by push_cast [residual_both.rs])
 ·rw [if_pos c0]
  have i0:(e0 = 0) = False:=eq_false c0
  push_cast [i0]
  exact pf_ret (by push_cast [residual_both.rs])
end Go.Dw
end
