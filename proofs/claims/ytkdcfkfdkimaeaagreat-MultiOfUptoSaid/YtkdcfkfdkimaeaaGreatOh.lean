/-
  Contracts and lemmas for MultiOf: part h of 9.
-/
import Derived.Test.YtkdcfkfdkimaeaaGreatOg
set_option linter.unusedVariables false
set_option linter.unusedSimpArgs false
set_option maxRecDepth 100000
section
namespace Go.Dw
theorem drop_eq_of {α:Type} [Inhabited α] {a b:List α} {k:Nat} (ha:k < a.length) (hb:k < b.length):(a.drop k = b.drop k) ↔ (a.getD k default = b.getD k default∧a.drop (k+1) = b.drop (k+1)):=by
 rw [drop_getD ha,drop_getD hb];simp
theorem r01_SamePos_g (a b:List Int) (hp:a.length < 2^62):PF n_r01_SamePos [encP a,encP b] (.bool (decide (a = b))):=by
 refine pf_of r01_SamePos.ok rfl ?_
 by_cases hl:a.length = b.length
 ·have hl':((a.length:Int) = (b.length:Int)) = True:=eq_true (by omega)
  push_cast [hl']
  refine loop_up (n:=a.length) (R:=fun k=>(a = b ↔ a.drop k = b.drop k)→r01_SamePos.L3 (encP a) (encP b) (.int .i64 a.length) (.int .i64 k) 0 [] _) ?_ ?_ 0 (by omega) (by simp)
  ·intro k hk ih hq
   rw [drop_eq_of hk (by omega)] at hq
   refine r01_SamePos.G3 ?_
   have hkb:((k:Int) < (b.length:Int)) = True:=eq_true (by omega)
   push_cast [ilt hk,hkb]
   by_cases he:a.getD k default = b.getD k default
   ·push_cast [he,w64 (show k < 2^62 by omega)]
    exact ih (hq.trans (and_iff_right he))
   ·push_cast [eq_false he]
    exact pf_ret (by push_cast [r01_SamePos.rs];rw [decide_eq_false (fun e=>he (hq.1 e).1)])
  ·intro hq
   refine r01_SamePos.G3 ?_
   push_cast [inlt (Nat.le_refl _)]
   rw [List.drop_length,List.drop_eq_nil_of_le (by omega)] at hq
   exact pf_ret (by push_cast [r01_SamePos.rs];rw [decide_eq_true (hq.2 rfl)])
 ·have hl':((a.length:Int) = (b.length:Int)) = False:=eq_false (by omega)
  push_cast [hl']
  exact pf_ret (by push_cast [r01_SamePos.rs];rw [decide_eq_false (fun e=>hl (by rw [e]))])
theorem r04_Below_s (p q:List Int) (hp:p.length < 2^62):PF n_r04_Below [encP p,encP q] (.bool (decide (q.length < p.length) && decide (p.take q.length = q))):=by
 refine pf_of r04_Below.ok rfl ?_
 by_cases h:q.length < p.length
 ·have h':((q.length:Int) < (p.length:Int)) = True:=eq_true (by omega)
  have h2:q.length≤p.length:=by omega
  push_cast [h',h2,Nat.sub_zero,List.drop_zero]
  refine ⟨Nat.zero_le _,.of (r01_SamePos_g (p.take q.length) q (by simp;omega)) ?_⟩
  push_cast
  exact pf_ret (by push_cast [r04_Below.rs];rw [decide_eq_true h,Bool.true_and])
 ·have h':((q.length:Int) < (p.length:Int)) = False:=eq_false (by omega)
  push_cast [h']
  exact pf_ret (by push_cast [r04_Below.rs];rw [decide_eq_false h,Bool.false_and])
theorem r17_contains_s (l:List AStep) (s:AStep) (hl:l.length < 2^62) (hs:∀ x∈l,x.pos.length < 2^62):PF n_r17_contains [encSts l,encSt s] (.bool (decide (s∈l))):=by
 refine pf_of r17_contains.ok rfl ?_
 push_cast
 refine loop_up (n:=l.length) (R:=fun k=>(s∈l ↔ s∈l.drop k)→r17_contains.L3 (.ro (cSt s) 0) (encSts l) (.int .i64 l.length) (.int .i64 k) 0 [] _) ?_ ?_ 0 (by omega) (by simp)
 ·intro k hk ih hq
  rw [drop_getD hk,List.mem_cons] at hq
  have hsl:=hs _ (getD_mem hk)
  refine r17_contains.G3 ?_
  push_cast [ilt hk]
  generalize l.getD k default = x at hq hsl
  by_cases h1:x.rule = s.rule
  ·push_cast [h1]
   refine .of (r01_SamePos_g x.pos s.pos hsl) ?_
   by_cases h2:x.pos = s.pos
   ·push_cast [h2]
    refine pf_ret ?_
    push_cast [r17_contains.rs]
    rw [decide_eq_true (hq.2 (.inl (by cases x;cases s;simp_all)))]
   ·push_cast [decide_eq_false h2,w64 (show k < 2^62 by omega)]
    refine ih ?_
    rw [hq]
    constructor
    ·rintro (e | e)
     ·exact absurd (by rw [e]) h2
     ·exact e
    ·exact .inr
  ·push_cast [eq_false h1,w64 (show k < 2^62 by omega)]
   refine ih ?_
   rw [hq]
   constructor
   ·rintro (e | e)
    ·exact absurd (by rw [e]) h1
    ·exact e
   ·exact .inr
 ·intro hq
  refine r17_contains.G3 ?_
  push_cast [inlt (Nat.le_refl _)]
  rw [List.drop_length] at hq
  exact pf_ret (by push_cast [r17_contains.rs];rw [decide_eq_false (fun e=>by cases hq.1 e)])
theorem r17_SameSet_s (a b:List AStep) (ha:a.length < 2^62) (hb:b.length < 2^62) (hs:∀ x∈b,x.pos.length < 2^62):PF n_r17_SameSet [encSts a,encSts b] (.bool (sameSt a b)):=by
 refine pf_of r17_SameSet.ok rfl ?_
 push_cast
 refine loop_up (n:=a.length) (R:=fun k=>((a.drop k).all (fun s=>decide (s∈b)) = a.all (fun s=>decide (s∈b)))→r17_SameSet.L3 (encSts a) (encSts b) (encSts a) (.int .i64 a.length) (.int .i64 k) 0 [] _) ?_ ?_ 0 (by omega) (by simp)
 ·intro k hk ih hq
  rw [drop_getD hk,List.all_cons] at hq
  refine r17_SameSet.G3 ?_
  push_cast [ilt hk]
  refine .of (r17_contains_s b _ hb hs) ?_
  by_cases h:a.getD k default∈b
  ·push_cast [decide_eq_true h,w64 (show k < 2^62 by omega)]
   rw [decide_eq_true h,Bool.true_and] at hq
   exact ih hq
  ·push_cast [decide_eq_false h]
   rw [decide_eq_false h,Bool.false_and] at hq
   refine pf_ret ?_
   push_cast [r17_SameSet.rs]
   unfold sameSt
   rw [← hq,Bool.false_and]
 ·intro hq
  refine r17_SameSet.G3 ?_
  push_cast [inlt (Nat.le_refl _)]
  rw [List.drop_length] at hq
  refine pf_ret ?_
  push_cast [r17_SameSet.rs]
  unfold sameSt
  rw [← hq]
  simp
  omega
theorem underS_append (a b:List AStep) (p:List Int):underS (a++b) p = underS a p++underS b p:=by
 induction a with
 | nil=>rfl
 | cons s a ih=>simp only [List.cons_append,underS];split <;> simp [ih]
theorem underS_len (l:List AStep) (p:List Int):(underS l p).length≤l.length:=by
 induction l with
 | nil=>simp [underS]
 | cons s l ih=>simp only [underS];split <;> simp <;> omega
theorem prefix_test (p q:List Int):p.isPrefixOf q = (decide (q = p) || (decide (p.length < q.length) && decide (q.take p.length = p))):=by
 rw [Bool.eq_iff_iff]
 simp only [List.isPrefixOf_iff_prefix,Bool.or_eq_true,Bool.and_eq_true,decide_eq_true_eq]
 rw [List.prefix_iff_eq_take]
 constructor
 ·intro h
  by_cases hl:p.length < q.length
  ·exact .inr ⟨hl,h.symm⟩
  ·left
   rw [List.take_of_length_le (by omega)] at h
   exact h.symm
 ·rintro (h | ⟨_,h⟩)
  ·rw [h,List.take_length]
  ·exact h.symm
theorem r17_Under_s (l:List AStep) (p:List Int) (hl:l.length < 2^40) (hs:∀ x∈l,x.pos.length < 2^40):PF n_r17_Under [encSts l,encP p] (encSts (underS l p)):=by
 refine pf_of r17_Under.ok rfl ?_
 push_cast
 refine loop_up (n:=l.length) (R:=fun k=>r17_Under.L3 (encP p) (ownL cSt 0 2 (underS (l.take k) p)) (encSts l) (.int .i64 l.length) (.int .i64 k) 0 [.arr t_Step 2 (underS (l.take k) p).length] _) ?_ ?_ 0 (by omega)
 ·intro k hk ih
  have hm:=getD_mem hk
  have hsl:=hs _ hm
  have hle:=underS_len (l.take k) p
  rw [List.length_take] at hle
  rw [take_succ_getD hk,underS_append] at ih
  generalize underS (l.take k) p = out at ih hle ⊢
  refine r17_Under.G3 ?_
  generalize hx:l.getD k default = x at ih hm hsl
  push_cast [ilt hk,hx]
  refine .of (r01_SamePos_g x.pos p (by omega)) ?_
  have hpt:=prefix_test p x.pos
  simp only [underS] at ih
  have hmx:maxEls = 140737488355328:=rfl
  by_cases h1:x.pos = p
  ·rw [decide_eq_true h1,Bool.true_or] at hpt
   rw [if_pos hpt,List.length_append] at ih
   have hd:p.length≤x.pos.length:=by rw [h1];exact Nat.le_refl _
   push_cast [decide_eq_true h1,hd,hmx,w64 (show k < 2^62 by omega)]
   rw [List.take_of_length_le (show (x.pos.drop p.length).length≤x.pos.length - p.length by simp)]
   refine ⟨by simp;omega,by omega,?_⟩
   rw [show (V.sl 1 (List.map cI (List.drop p.length x.pos))) = encP (x.pos.drop p.length) from rfl,own_st]
   exact ih
  ·push_cast [decide_eq_false h1]
   refine .of (r04_Below_s x.pos p (by omega)) ?_
   rw [decide_eq_false h1,Bool.false_or] at hpt
   rw [← hpt]
   by_cases h2:p.isPrefixOf x.pos = true
   ·rw [if_pos h2,List.length_append] at ih
    rw [h2]
    have hd:p.length≤x.pos.length:=by
     have:=List.isPrefixOf_iff_prefix.1 h2
     exact this.length_le
    push_cast [hd,hmx,w64 (show k < 2^62 by omega)]
    rw [List.take_of_length_le (show (x.pos.drop p.length).length≤x.pos.length - p.length by simp)]
    refine ⟨by simp;omega,by omega,?_⟩
    rw [show (V.sl 1 (List.map cI (List.drop p.length x.pos))) = encP (x.pos.drop p.length) from rfl,own_st]
    exact ih
   ·rw [if_neg h2,List.append_nil] at ih
    have h2:p.isPrefixOf x.pos = false:=Bool.eq_false_iff.2 h2
    rw [h2]
    push_cast [w64 (show k < 2^62 by omega)]
    exact ih
 ·refine r17_Under.G3 ?_
  push_cast [inlt (Nat.le_refl _),List.take_length]
  exact pf_ret (by push_cast [r17_Under.rs];try rfl)
end Go.Dw
end
section
namespace Go.Dw
def ofE (o:Option AMulti):V:=encME o (if o.isSome then 0 else 9)
theorem ofE_none:ofE none = .tup [encM zM,.int .i64 9]:=rfl
theorem ofE_some (m:AMulti):ofE (some m) = .tup [encM m,.int .i64 0]:=rfl
theorem rootS_append (a b:List AStep):rootS (a++b) = rootS a++rootS b:=List.filter_append ..
theorem rootS_len (l:List AStep):(rootS l).length≤l.length:=List.length_filter_le _ _
theorem optAll_snoc {α:Type}:∀ {l:List (Option α)} {ms:List α} {x:Option α},optAll l = some ms→optAll (l++[x]) = x.map fun a=>ms++[a]
 | [],ms,x,h=>by
  cases h
  cases x <;> rfl
 | none :: l,ms,x,h=>by cases h
 | some a :: l,ms,x,h=>by
  simp only [optAll,Option.map_eq_some_iff] at h
  obtain ⟨k,h,rfl⟩:=h
  simp only [List.cons_append,optAll,optAll_snoc h]
  cases x <;> rfl
theorem optAll_none {α:Type}:∀ {l m:List (Option α)},optAll l = none→optAll (l++m) = none
 | [],m,h=>by cases h
 | none :: l,m,h=>rfl
 | some a :: l,m,h=>by
  simp only [optAll,Option.map_eq_none_iff] at h
  simp only [List.cons_append,optAll,optAll_none h,Option.map_none]
theorem optAll_len {α:Type} {l:List (Option α)} {ms:List α} (h:optAll l = some ms):ms.length = l.length:=by
 rw [optAll_some.1 h];simp
theorem take_map {α β:Type} [Inhabited α] {f:α→β} {l:List α} {k:Nat} (hk:k < l.length):l.map f = (l.take k).map f++f (l.getD k default) :: (l.drop (k+1)).map f:=by
 conv=>lhs;rw [split_at hk]
 simp
theorem encM_parts (k:Int) (n:Str) (v:Bool) (ms:List AMulti):encM (.mk k n v ms) = .agg [.int .i64 k,.str n,.bool v,encMs ms]:=by unfold encM;rw [cM_eq];rfl
theorem seen_le {l:List AStep} {P:List (List Int)} (hP:Apart P) (hne:∀ p∈P,p ≠ []):seenS l P≤l.length:=by
 have:=(seen_cover hP hne l).1
 omega
theorem varO_cons {f:List Int→Option AMulti} {l:List AStep} {p:List Int} {qs:List (List Int)}:varO f l (p :: qs) = if qs.all fun q=>sameSt (underS l p) (underS l q) then f p else none:=rfl
theorem sub_argN {t:Term} {i:Nat} (hi:i < t.args.length):subT t [(i:Int)] = some (t.args.getD i default):=by
 show (if 0≤(i:Int)∧(i:Int) < (t.args.length:Int) then subT (t.args.getD (i:Int).toNat default) [] else none) = _
 rw [if_pos (by omega),Int.toNat_natCast];rfl
theorem seenS_app (l:List AStep):∀ a b:List (List Int),seenS l (a++b) = seenS l a+seenS l b
 | [],b=>by rw [List.nil_append,show seenS l [] = 0 from rfl,Nat.zero_add]
 | p :: a,b=>by rw [List.cons_append,seenS_c,seenS_c,seenS_app l a b];omega
theorem under_pos {l:List AStep} {p:List Int} {N:Nat} (h:∀ s∈l,s.pos.length < N):∀ s∈underS l p,s.pos.length < N:=fun s hs=>by
 have:=h _ (mem_underS.1 hs)
 simp only [preS,List.length_append] at this
 omega
set_option maxHeartbeats 4000000 in
theorem r17_of_s (r:List ARule) (hr:rbs r < 2^28) (hc:checkSystem r = 0):∀ (n:Nat) (t:Term) (l:List AStep),size t≤n→size t < 2^20→l.length < 2^20→(∀ s∈l,s.pos.length < 2^30)→MatS r l t [] →
  PF n_r17_of [encRs r,encT t,encSts l] (ofE (ofR r n t l))
 | 0,t,_,h,_,_,_,_=>by have:=size_pos t;omega
 | n+1,t,l,hn,hz,hl,hp,hM=>by
  have hst:=size_args t
  have hmx:maxEls = 140737488355328:=rfl
  refine pf_of r17_of.ok rfl ?_
  push_cast
  refine loop_up (n:=l.length) (R:=fun k=>r17_of.L17 (encRs r) (encSts l) (.ro (cT t) 0) (.ptr 0 0) (ownL cSt 1 2 (rootS (l.take k))) (encSts l) (.int .i64 l.length) (.int .i64 k) 0 [.cells t_Multi [.int .i64 0,.str [],.bool false,.sl 4 []],.arr t_Step 2 (rootS (l.take k)).length] _) ?_ ?_ 0 (by omega)
  ·intro k hk ih
   have hle:=rootS_len (l.take k)
   rw [List.length_take] at hle
   rw [take_succ_getD hk,rootS_append] at ih
   generalize rootS (l.take k) = out at ih hle ⊢
   refine r17_of.G17 ?_
   generalize hx:l.getD k default = x at ih
   push_cast [ilt hk,hx]
   by_cases h1:x.pos.length = 0
   ·have h2:x.pos = []:=List.eq_nil_of_length_eq_zero h1
    have e:rootS [x] = [x]:=by unfold rootS;rw [List.filter_cons,if_pos (by simpa using h2)];rfl
    rw [e,List.length_append] at ih
    have h1':((x.pos.length:Int) = 0) = True:=eq_true (by omega)
    push_cast [h1',hmx,w64 (show k < 2^62 by omega)]
    refine ⟨by omega,?_⟩
    exact ih
   ·have e:rootS [x] = []:=by unfold rootS;rw [List.filter_cons,if_neg (by simpa using fun e=>h1 (by rw [e];rfl))];rfl
    rw [e,List.append_nil] at ih
    have h1':((x.pos.length:Int) = 0) = False:=eq_false (by omega)
    push_cast [h1',w64 (show k < 2^62 by omega)]
    exact ih
  ·refine r17_of.G17 ?_
   push_cast [inlt (Nat.le_refl _),List.take_length]
   simp only [ofR]
   cases hroot:rootS l with
   | nil =>
    push_cast [ownL,List.length_nil,List.map_nil]
    have hF:∀ k,k < t.args.length→(List.range t.args.length).map (fun i=>ofR r n (t.args.getD i default) (underS l [(i:Int)])) = (List.range k).map (fun i=>ofR r n (t.args.getD i default) (underS l [(i:Int)]))++ofR r n (t.args.getD k default) (underS l [(k:Int)]) :: ((List.range t.args.length).drop (k+1)).map (fun i=>ofR r n (t.args.getD i default) (underS l [(i:Int)])):=fun k hk=>by
     rw [take_map (l:=List.range t.args.length) (k:=k) (by simpa using hk),List.take_range,Nat.min_eq_left (by omega)]
     have:(List.range t.args.length).getD k default = k:=by simp [List.getD_eq_getElem?_getD,hk]
     rw [this]
    have h9:=loop_up (n:=t.args.length) (R:=fun k=>∀ ms,optAll ((List.range k).map fun i=>ofR r n (t.args.getD i default) (underS l [(i:Int)])) = some ms→r17_of.L12 (encRs r) (encSts l) (.ptr 0 0) (.ptr 2 0) (encTs t.args) (.int .i64 t.args.length) (.int .i64 k) 0 [.cells t_Multi [.int .i64 0,.str [],.bool false,.sl 4 []],.arr t_Step 2 0,.cells t_Multi [.int .i64 0,.str t.name,.bool t.var,ownL cM 3 4 ms],.arr t_Multi 4 k]
     (Ends 0 r17_of.rs fun x' H'=>x' = ofE (Option.map (AMulti.mk 0 t.name t.var) (optAll (List.map (fun i=>ofR r n (t.args.getD i default) (underS l [(i:Int)])) (List.range t.args.length))))∧H' = [])) ?_ ?_ 0 (by omega) [] rfl
    ·exact h9
    ·intro k hk ih ms hms
     have hml:=optAll_len hms
     rw [List.length_map,List.length_range] at hml
     have hF:=hF k hk
     have hlls:=length_le_sizes t.args
     have hsz:=size_mem (getD_mem hk)
     have hI:=r17_of_s r hr hc n (t.args.getD k default) (underS l [(k:Int)]) (by omega) (by omega) (by have:=underS_len l [(k:Int)];omega) (under_pos hp) (hM.under (sub_argN hk))
     rw [List.range_succ,List.map_append,List.map_singleton] at ih
     generalize ofR r n (t.args.getD k default) (underS l [(k:Int)]) = o at hF hI ih
     refine r17_of.G12 ?_
     generalize hax:t.args.getD k default = a at hI hsz
     push_cast [ilt hk,hax]
     refine .of (r17_Under_s l [(k:Int)] (by omega) (fun x hx=>by have:=hp x hx;omega)) ?_
     push_cast
     refine .of hI ?_
     cases o with
     | none =>
      rw [ofE_none]
      push_cast
      refine pf_ret ?_
      push_cast [r17_of.rs]
      have e:optAll (List.map (fun i=>ofR r n (t.args.getD i default) (underS l [(i:Int)])) (List.range t.args.length)) = none:=by
       rw [hF,show ∀ (a:List (Option AMulti)) b,a++none :: b = (a++[none])++b from fun a b=>by simp]
       exact optAll_none (by rw [optAll_snoc hms];rfl)
      rw [e];rfl
     | some m =>
      rw [ofE_some]
      push_cast [hml,hmx,w64 (show k < 2^62 by omega)]
      refine ⟨by omega,?_⟩
      have ih:=ih (ms++[m]) (by rw [optAll_snoc hms];rfl)
      exact ih
    ·intro ms hms
     refine r17_of.G12 ?_
     push_cast [inlt (Nat.le_refl _)]
     refine pf_ret ?_
     push_cast [r17_of.rs]
     rw [hms]
     rw [Option.map_some,ofE_some,encM_parts]
   | cons s0 rest =>
    cases rest with
    | cons s1 rest =>
     have h1:((1:Int) < (rest.length:Int)+1+1) = True:=eq_true (by omega)
     push_cast [List.length_cons,h1]
     refine pf_ret ?_
     push_cast [r17_of.rs]
     rfl
    | nil =>
     have hat:atM l [] = some s0:=by
      unfold atM
      rw [← List.head?_filter]
      have:l.filter (fun s=>decide (s.pos = [])) = [s0]:=hroot
      rw [this];rfl
     obtain ⟨e1,e2,e3,e4,e5,e6,e7,e8⟩:=hM.vars hc hat
     have hlr:=length_le_rbs r
     have hrm:=rbs_mem e2
     have hzl:=size_le_tb (r.getD s0.rule.toNat default).left
     have hw:IntKind.i64.wrap (s0.rule+1) = s0.rule+1:=wrap64 (by omega) (by omega)
     have hc1:((0:Int)≤s0.rule) = True:=eq_true e3
     have hc2:(s0.rule < (r.length:Int)) = True:=eq_true e4
     push_cast [List.length_cons,List.length_nil,List.getD_cons_zero,hw,hc1,hc2]
     refine .of (r17_Vars_s (r.getD s0.rule.toNat default) (by omega)) ?_
     push_cast
     rw [← e1]
     generalize hL:leftOf r s0 = L at *
     have hvl:=varsOf_len [L]
     have hsl:sizes [L] = size L:=by simp [sizes]
     have hzL:size L < 2^28:=by rw [e1];omega
     have hP:=vars_apart e6 e5
     have hseen:=seen_le (l:=l) hP.1 hP.2
     generalize hT:(if 1+seenS l ((varsOf [L]).flatMap (occM L)) = l.length then Option.map (AMulti.mk (s0.rule+1) [] false) (optAll (List.map (fun v=>varO (fun p=>ofR r n (subD t p) (underS l p)) l (occM L v)) (varsOf [L]))) else none) = O
     have hnone:optAll (List.map (fun v=>varO (fun p=>ofR r n (subD t p) (underS l p)) l (occM L v)) (varsOf [L])) = none→O = none:=fun h=>by rw [← hT,h];simp
     have h9:=loop_up (n:=(varsOf [L]).length) (R:=fun k=>∀ ms (x:Int),optAll (((varsOf [L]).take k).map fun v=>varO (fun p=>ofR r n (subD t p) (underS l p)) l (occM L v)) = some ms→x = 1+seenS l (((varsOf [L]).take k).flatMap (occM L))→r17_of.L7 (encRs r) (encSts l) (.ro (cT t) 0) (.ptr 0 0) (.ro (cT L) 0) (.ptr 3 0) (.int .i64 x) (encSs (varsOf [L])) (.int .i64 (varsOf [L]).length) (.int .i64 k) 0
      [.cells t_Multi [.int .i64 0,.str [],.bool false,.sl 4 []],.arr t_Step 2 1,.dead,.cells t_Multi [.int .i64 (s0.rule+1),.str [],.bool false,ownL cM 4 4 ms],.arr t_Multi 4 k] (Ends 0 r17_of.rs fun x' H'=>x' = ofE O∧H' = [])) ?_ ?_ 0 (by omega) [] 1 rfl (by simp [seenS])
     ·exact h9
     ·intro k hk ih ms x hms hx
      have hml:=optAll_len hms
      rw [List.length_map,List.length_take,Nat.min_eq_left (by omega)] at hml
      have hsplit:(varsOf [L]).flatMap (occM L) = ((varsOf [L]).take k).flatMap (occM L)++(occM L ((varsOf [L]).getD k default)++((varsOf [L]).drop (k+1)).flatMap (occM L)):=by
       conv=>lhs;rw [split_at hk]
       simp
      have hmap:=take_map (f:=fun v=>varO (fun p=>ofR r n (subD t p) (underS l p)) l (occM L v)) hk
      rw [hsplit,seenS_app,seenS_app] at hseen
      rw [take_succ_getD hk,List.map_append,List.map_singleton,List.flatMap_append] at ih
      simp only [List.flatMap_cons,List.flatMap_nil,List.append_nil] at ih
      rw [seenS_app] at ih
      generalize hS:seenS l (((varsOf [L]).take k).flatMap (occM L)) = S at ih hseen hx ⊢
      refine r17_of.G7 ?_
      generalize hv:(varsOf [L]).getD k default = v at ih hseen hmap
      have hvm:v∈varsOf [L]:=by rw [← hv];exact getD_mem hk
      have hne:occM L v ≠ []:=by rw [occM_R];exact occR_some v _ ((mem_varsOf _ _).1 hvm)
      push_cast [ilt hk,hv]
      refine .of (r17_Occurrences_s L v (by omega)) ?_
      push_cast
      have e8:=e8 v
      have hshort:∀ p∈occM L v,p.length < 2^30:=fun p hp=>by
       obtain ⟨y,y1,_⟩:=occM_at hp
       have:=subT_fit p L y y1
       omega
      generalize hps:occM L v = ps at ih hseen hmap hne e8 hshort ⊢
      cases ps with
      | nil=>exact absurd rfl hne
      | cons p0 qs =>
      have hpl:(p0 :: qs).length≤2^28:=by
       rw [← hps]
       have h1:=occW_len v (visit L [])
       rw [visit_len] at h1
       unfold occM;omega
      obtain ⟨g1,g2,g3⟩:=e8 p0 (by simp)
      have hlt:=subT_lt g1 g2
      rw [varO_cons] at ih hmap
      have hI:=r17_of_s r hr hc n (subD t p0) (underS l p0) (by rw [g3];omega) (by rw [g3];omega) (by have:=underS_len l p0;omega) (under_pos hp) (by rw [g3];exact hM.under g2)
      have hsd:subT t p0 = some (subD t p0):=by rw [g3];exact g2
      have hu0:=underS_len l p0
      rw [seenS_c] at hseen
      refine r17_of.G5 ?_
      have h0l:((0:Int) < (qs.length:Int)+1) = True:=eq_true (by omega)
      have hw0:IntKind.i64.wrap 1 = 1:=wrap64 (by omega) (by omega)
      have hw1:IntKind.i64.wrap (x+((underS l p0).length:Int)) = x+(underS l p0).length:=wrap64 (by omega) (by omega)
      push_cast [h0l,List.getD_cons_zero,List.length_cons]
      refine .of (r17_Under_s l p0 (by omega) (fun x hx=>by have:=hp x hx;omega)) ?_
      push_cast [hw1]
      refine .of (r01_At_s t p0 (by have:=hshort p0 (by simp);omega) (by omega)) ?_
      rw [hsd]
      push_cast [encOT]
      refine .of hI ?_
      generalize hof:ofR r n (subD t p0) (underS l p0) = o at hmap ih
      cases o with
      | none =>
       rw [ofE_none]
       push_cast
       refine pf_ret ?_
       push_cast [r17_of.rs]
       have e:optAll (List.map (fun v=>varO (fun p=>ofR r n (subD t p) (underS l p)) l (occM L v)) (varsOf [L])) = none:=by
        rw [hmap,ite_self,show ∀ (a:List (Option AMulti)) b,a++none :: b = (a++[none])++b from fun a b=>by simp]
        exact optAll_none (by rw [optAll_snoc hms];rfl)
       rw [hnone e];rfl
      | some a =>
       rw [ofE_some]
       push_cast [hml,hmx,hw0]
       refine ⟨by omega,?_⟩
       have h8:=loop_up (n:=(p0 :: qs).length) (R:=fun j=>0 < j→(qs.take (j - 1)).all (fun q=>sameSt (underS l p0) (underS l q)) = true→∀ x:Int,x = 1+S+(underS l p0).length+seenS l (qs.take (j - 1))→r17_of.L5 (encRs r) (encSts l) (.ro (cT t) 0) (.ptr 0 0) (.ro (cT L) 0) (.ptr 3 0) (.int .i64 x) (encSts (underS l p0)) (encSs (varsOf [L])) (.int .i64 (varsOf [L]).length) (.int .i64 k) (encPs (p0 :: qs)) (.int .i64 (p0 :: qs).length) (.int .i64 j) 0
        [.cells t_Multi [.int .i64 0,.str [],.bool false,.sl 4 []],.arr t_Step 2 1,.dead,.cells t_Multi [.int .i64 (s0.rule+1),.str [],.bool false,ownL cM 4 4 (ms++[a])],.arr t_Multi 4 (k+1)] (Ends 0 r17_of.rs fun x' H'=>x' = ofE O∧H' = [])) ?_ ?_ 1 (by simp) (by omega) rfl (x+(underS l p0).length) (by simp [seenS];omega)
       ·exact h8
       ·intro j hj ihj h0 hall y hy
        have hjq:(p0 :: qs).getD j default = qs.getD (j - 1) default:=by
         obtain ⟨i,rfl⟩:∃ i,j = i+1:=⟨j - 1,by omega⟩
         simp
        have hjl:j - 1 < qs.length:=by simp only [List.length_cons] at hj;omega
        have hqm:=getD_mem hjl
        have htk:qs.take (j+1 - 1) = qs.take (j - 1)++[qs.getD (j - 1) default]:=by
         rw [show j+1 - 1 = (j - 1)+1 by omega,take_succ_getD hjl]
        rw [htk,List.all_append,hall,Bool.true_and,seenS_app] at ihj
        have hsq:seenS l (qs.take (j - 1))+(underS l (qs.getD (j - 1) default)).length+seenS l (qs.drop (j - 1+1)) = seenS l qs:=by
         conv=>rhs;rw [split_at hjl]
         rw [seenS_app,seenS_c];omega
        generalize hq:qs.getD (j - 1) default = q at hjq hqm ihj hsq
        have hu1:=underS_len l q
        have hw2:IntKind.i64.wrap (y+((underS l q).length:Int)) = y+(underS l q).length:=wrap64 (by omega) (by omega)
        have hj0:((j:Int) = 0) = False:=eq_false (by omega)
        have hjl2:((j:Int) < (qs.length:Int)+1) = True:=eq_true (by omega)
        refine r17_of.G5 ?_
        push_cast [hjl2,hjq,List.length_cons]
        refine .of (r17_Under_s l q (by omega) (fun x hx=>by have:=hp x hx;omega)) ?_
        push_cast [hw2,hj0]
        refine .of (r17_SameSet_s (underS l p0) (underS l q) (by omega) (by omega) (fun x hx=>by have:=under_pos hp x hx;omega)) ?_
        cases hsm:sameSt (underS l p0) (underS l q) with
        | false =>
         push_cast
         refine pf_ret ?_
         push_cast [r17_of.rs]
         have hff:(qs.all fun q=>sameSt (underS l p0) (underS l q)) = false:=by
          rw [List.all_eq_false]
          exact ⟨q,hqm,by rw [hsm];simp⟩
         rw [hff,if_neg (by simp)] at hmap
         have e:optAll (List.map (fun v=>varO (fun p=>ofR r n (subD t p) (underS l p)) l (occM L v)) (varsOf [L])) = none:=by
          rw [hmap,show ∀ (a:List (Option AMulti)) b,a++none :: b = (a++[none])++b from fun a b=>by simp]
          exact optAll_none (by rw [optAll_snoc hms];rfl)
         rw [hnone e];rfl
        | true =>
         push_cast [w64 (show j < 2^62 by omega)]
         have ihj:=ihj (by omega) (by simp [hsm]) (y+(underS l q).length) (by simp only [seenS_c];rw [show seenS l [] = 0 from rfl];omega)
         exact ihj
       ·intro h0 hall y hy
        rw [List.length_cons,Nat.add_sub_cancel,List.take_length] at hall hy
        rw [hall,if_pos rfl] at ih
        refine r17_of.G5 ?_
        push_cast [show ((qs.length:Int)+1 < (qs.length:Int)+1) = False from eq_false (by omega),List.length_cons,w64 (show k < 2^62 by omega)]
        have ih:=ih (ms++[a]) y (by rw [optAll_snoc hms];rfl) (by rw [hy,seenS_c];omega)
        exact ih
     ·intro ms x hms hx
      refine r17_of.G7 ?_
      rw [List.take_length] at hms hx
      by_cases hq:1+seenS l ((varsOf [L]).flatMap (occM L)) = l.length
      ·have hq':(x = (l.length:Int)) = True:=eq_true (by omega)
       rw [if_pos hq,hms] at hT
       subst hT
       push_cast [inlt (Nat.le_refl _),hq']
       refine pf_ret ?_
       push_cast [r17_of.rs]
       show _ = ofE (some _)
       rw [ofE_some,encM_parts]
      ·have hq':(x = (l.length:Int)) = False:=eq_false (by omega)
       rw [if_neg hq] at hT
       subst hT
       push_cast [inlt (Nat.le_refl _),hq']
       refine pf_ret ?_
       push_cast [r17_of.rs]
       rfl
end Go.Dw
end
section
namespace Go.Dw
def stepsV (r:List ARule) (m:AMulti):V:=if (endM r ARule.left m).2 ≠ 0 then .tup [encSts [],.int .i64 (endM r ARule.left m).2] else .tup [encSts (stepsM r m),.int .i64 0]
theorem multi_Steps_s (r:List ARule) (m:AMulti) (hr:rbs r < 2^28) (hm:mb m < 2^28):PF n_multi_Steps [encRs r,encM m] (stepsV r m):=by
 have hS:=multi_Source_s r m (by omega) (by omega)
 refine pf_of multi_Steps.ok rfl ?_
 unfold stepsV
 by_cases h1:(endM r ARule.left m).2 = 0
 ·obtain ⟨k1,k2,k3⟩:=endM_some h1
  obtain ⟨c1,c2,c3,c4⟩:=checkM_ok k1
  have hz:=fits_size k2
  have hwl:=walk_len c1 m c2
  have hwd:=walk_distinct c1 m c2
  have hw:=multi_walk_s r hr m c2 c3 [] [] (by simp;omega) (by simp;omega)
  rw [List.nil_append,map_preS_nil] at hw
  have hso:=sortSt_row (walkM r m) (by omega) (fun s hs=>by
   obtain ⟨x,h2,_⟩:=walk_mat c1 m c2 s hs
   have:=subT_fit _ _ _ h2
   omega) hwd
  rw [sort_walk r (fun x hx=>(checkSystem_good c1 x hx).1.1) (checkSystem_nv c1) m c2] at hso
  have hsl:(stepsM r m).length = (walkM r m).length:=(walkM_perm r (fun x hx=>(checkSystem_good c1 x hx).1.1) m c2).length_eq.symm
  rw [if_neg (by simpa using h1)]
  rw [k3] at hS
  unfold encTE at hS
  generalize walkM r m = wk at hw hso hsl
  generalize stepsM r m = st at hso hsl ⊢
  push_cast
  refine .of hS ?_
  push_cast
  refine CallG.some [1,2] (by simp) (by simp) (R:=fun x' H'=>x' = .bool true∧H' = walkH wk) ?_ ?_
  ·exact specF_func ▸ hw
  ·rintro x' H' ⟨rfl,rfl⟩ _
   have ht:∀ a b c d e:Ob,takeB [1,2] [a,b,c] [d,e] = [a,renOb (back [1,2] 3) d,renOb (back [1,2] 3) e]:=fun _ _ _ _ _=>rfl
   unfold walkH
   rw [ht]
   have hb:back [1,2] 3 1 = some 2:=rfl
   push_cast [hb,rens_cSts]
   refine CallG.some [2] (by simp) (by simp) (R:=fun x' H'=>x' = .tup []∧H' = [.row t_Step 2 (st.map cSt)]) ?_ ?_
   ·have hg:∀ a b c:Ob,give [2] [a,b,c] = [renOb (pos? [2]) c]:=fun _ _ _=>rfl
    have hp:pos? [2] 2 = some 0:=rfl
    rw [hg]
    push_cast [hp,rens_cSts]
    exact specF_func ▸ hso
   ·rintro x' H' ⟨rfl,rfl⟩ _
    have ht:∀ a b c d:Ob,takeB [2] [a,b,c] [d] = [a,b,renOb (back [2] 3) d]:=fun _ _ _ _=>rfl
    rw [ht]
    push_cast [rens_cSts,List.length_map,hsl]
    exact pf_ret (by push_cast [multi_Steps.rs];rfl)
 ·have h2:=endM_none h1
  rw [h2] at hS
  rw [if_pos h1]
  unfold encTE at hS
  push_cast
  refine .of hS ?_
  push_cast [eq_false h1]
  exact pf_ret (by push_cast [multi_Steps.rs];rfl)
namespace shf
end shf
end Go.Dw
end
section
namespace Go.Dw
theorem dupB_no {l:List AStep} (h:l.Pairwise fun a b=>a.pos ≠ b.pos):dupB l = false:=by
 unfold dupB
 rw [List.any_eq_false]
 intro i hi hx
 have hi:=List.mem_range.1 hi
 obtain ⟨x,hx,he⟩:=List.any_eq_true.1 hx
 rw [decide_eq_true_eq] at he
 obtain ⟨j,hj,rfl⟩:=List.getElem_of_mem hx
 rw [List.length_take] at hj
 rw [List.getElem_take,List.getD_eq_getElem?_getD,List.getElem?_eq_getElem hi] at he
 exact List.pairwise_iff_getElem.1 h j i (by omega) hi (by omega) he
end Go.Dw
end
section
namespace Go.Dw
theorem dupB_dist {l:List AStep} (h:dupB l = false):DistS l:=by
 unfold dupB at h
 rw [List.any_eq_false] at h
 refine List.pairwise_iff_getElem.2 fun i j hi hj hij e=>?_
 have h1:=h j (List.mem_range.2 hj)
 refine h1 (List.any_eq_true.2 ⟨l[i],?_,?_⟩)
 ·rw [List.mem_take_iff_getElem]
  exact ⟨i,by omega,rfl⟩
 ·rw [decide_eq_true_eq,List.getD_eq_getElem?_getD,List.getElem?_eq_getElem hj];exact e
theorem ofR_bare {r:List ARule} {t:Term} {l:List AStep} (hc:checkSystem r = 0) (ht:formed t = true) (hM:MatS r l t []):ofR r (size t) t l = (bareM r t l).1∧(bareM r t l).2 = (if (ofR r (size t) t l).isSome then 0 else 9):=by
 cases ho:ofR r (size t) t l with
 | some m =>
  obtain ⟨h1,h2,h3,h4⟩:=ofR_sound hc _ _ _ _ ht hM ho
  have hB:=build_rep hc h3 (size t) m [] (by rw [h2];exact Nat.le_refl _) h1 h4
  rw [h2] at hB
  unfold bareM
  rw [hB,dupB_no h3]
  exact ⟨rfl,rfl⟩
 | none =>
  unfold bareM
  by_cases hb:(dupB l || (buildM r l (size t) t []).2) = true
  ·rw [if_pos hb];exact ⟨rfl,rfl⟩
  ·exfalso
   simp only [Bool.or_eq_true,not_or,Bool.not_eq_true] at hb
   have hd:=dupB_dist hb.1
   obtain ⟨h1,h2,h3⟩:=build_sound hc hd (size t) t [] _ (Nat.le_refl _) ht hM (Prod.ext rfl hb.2)
   have h4:=ofR_rep hc (size t) _ l (by rw [h2];exact Nat.le_refl _) h1 hd h3
   rw [h2,ho] at h4;cases h4
theorem bare_some {r:List ARule} {t:Term} {l:List AStep} {m:AMulti} (hc:checkSystem r = 0) (ht:check t = 0) (hM:MatS r l t []) (h:(bareM r t l).1 = some m):OkM r m∧sideM r ARule.left m = t∧DistS l∧Rep r l [] m∧msize m≤4000∧mdepth m≤200:=by
 obtain ⟨h1,h2⟩:=ofR_bare hc (check_iff.1 ht).1 hM
 rw [h] at h1
 obtain ⟨a1,a2,a3,a4⟩:=ofR_sound hc _ _ _ _ (check_iff.1 ht).1 hM h1
 have hs:=buildM_size hc (size t) t [] (Nat.le_refl _) hM
 have hf:=(check_iff.1 ht).2
 simp only [fits,Bool.and_eq_true,decide_eq_true_eq] at hf
 unfold bareM at h
 split at h
 ·cases h
 ·simp only [Option.some.injEq] at h
  rw [h] at hs
  exact ⟨a1,a2,a3,a4,by omega,by omega⟩
theorem ok_mb {r:List ARule} (m:AMulti):OkM r m→mb m≤25 * msize m:=by
 induction m using multi_ind with
 | h m ih =>
 intro hm
 have h1:=mb_args m
 have h2:=msize_args m
 have h3:∀ l:List AMulti,(∀ a∈l,a∈m.args)→mbs l≤25 * msizes l:=by
  intro l
  induction l with
  | nil=>intro _;simp [mbs,msizes]
  | cons a l ihl =>
   intro hl
   have:=ih a (hl a (by simp)) (hm.arg (hl a (by simp)))
   have:=ihl fun x hx=>hl x (by simp [hx])
   simp only [mbs,msizes];omega
 have h4:=h3 m.args fun a ha=>ha
 have h5:m.name.length≤24:=by
  have hf:=allM_self hm.fm
  unfold formedM at hf
  split at hf
  ·rw [Bool.and_eq_true,decide_eq_true_eq] at hf
   rw [hf.1];simp
  ·split at hf
   ·simp only [Bool.and_eq_true,isName,decide_eq_true_eq] at hf;exact hf.2.1
   ·simp only [Bool.and_eq_true,isName,decide_eq_true_eq] at hf;exact hf.2.1
 omega
theorem r17_Of_s (r:List ARule) (t:Term) (l:List AStep) (hr:rbs r < 2^28) (ht:tb t < 2^28) (hl:l.length < 2^40) (hp:∀ s∈l,s.pos.length < 2^40):PF n_r17_Of [encRs r,encT t,encSts l] (encME (ofM r t l).1 (ofM r t l).2):=by
 refine pf_of r17_Of.ok rfl ?_
 unfold ofM
 push_cast
 refine .of (r04_Check_s r t (by omega) (by omega)) ?_
 by_cases hb:bothE r t = 0
 ·rw [hb,if_neg (by simp)]
  have hc:checkSystem r = 0:=by
   unfold bothE at hb
   split at hb
   ·rename_i h;exact absurd hb h
   ·rename_i h;simpa using h
  have hct:check t = 0:=by
   unfold bothE at hb
   rw [if_neg (by simpa using hc)] at hb;exact hb
  have hg:=check_good hct
  push_cast
  by_cases h4:4096 < l.length
  ·have h4':((4096:Int) < (l.length:Int)) = True:=eq_true (by omega)
   rw [if_pos h4]
   push_cast [h4']
   exact pf_ret (by push_cast [r17_Of.rs];rfl)
  ·have h4':((4096:Int) < (l.length:Int)) = False:=eq_false (by omega)
   rw [if_neg h4]
   push_cast [h4']
   refine loop_up (n:=l.length) (R:=fun k=>stepErr r t (l.drop k) = stepErr r t l→r17_Of.L4 (encRs r) (encSts l) (.ro (cT t) 0) (.ptr 0 0) (encSts l) (.int .i64 l.length) (.int .i64 k) 0 [.cells t_Multi [.int .i64 0,.str [],.bool false,.sl 4 []]] _) ?_ ?_ 0 (by omega) rfl
   ·intro k hk ih hq
    have hm:=getD_mem hk
    have hpl:=hp _ hm
    rw [drop_getD hk] at hq
    simp only [stepErr] at hq
    refine r17_Of.G4 ?_
    generalize hx:l.getD k default = x at hq hpl
    push_cast [ilt hk,hx]
    refine .of (r04_Step_s r t x hr (checkSystem_good hc) hg hpl) ?_
    by_cases hd:(doE r t x).2 = 0
    ·obtain ⟨u,hu⟩:∃ u,doE r t x = (some u,0):=by
      cases hdo:doE r t x with
      | mk o e =>
       rw [hdo] at hd
       cases o with
       | none=>exact absurd hd (doE_none hdo)
       | some u=>exact ⟨u,by rw [show e = 0 from hd]⟩
     rw [hu]
     push_cast [encTE,w64 (show k < 2^62 by omega)]
     refine ih ?_
     rw [if_neg (by simpa using hd)] at hq
     exact hq
    ·rw [if_pos hd] at hq
     rw [if_pos (by rw [← hq];exact hd),← hq]
     have hno:(doE r t x).1 = none:=by
      cases hdo:doE r t x with
      | mk o e =>
       cases o with
       | none=>rfl
       | some u =>
        rw [hdo] at hd
        exact absurd (doE_good (fun y hy=>(checkSystem_good hc y hy).2.1) hg.1 hdo).2 hd
     rw [hno]
     generalize (doE r t x).2 = e at hd
     push_cast [encTE,eq_false hd]
     exact pf_ret (by push_cast [r17_Of.rs];rfl)
   ·intro hq
    rw [List.drop_length] at hq
    have hq:stepErr r t l = 0:=hq.symm
    have hM:=stepErr_matS hq
    have hz:=fits_size (check_iff.1 hct).2
    have hplen:∀ s∈l,s.pos.length < 2^30:=fun s hs=>by
     obtain ⟨x,h1,_⟩:=hM s hs s.pos rfl
     have:=subT_fit _ _ _ h1
     omega
    have hOf:=r17_of_s r hr hc (size t) t l (Nat.le_refl _) (by omega) (by omega) hplen hM
    obtain ⟨q1,q2⟩:=ofR_bare hc (check_iff.1 hct).1 hM
    rw [if_neg (by simpa using hq)]
    refine r17_Of.G4 ?_
    push_cast [inlt (Nat.le_refl _)]
    refine .of hOf ?_
    cases ho:(bareM r t l).1 with
    | none =>
     rw [ho] at q1
     rw [q1] at q2 ⊢
     rw [q2,ofE_none]
     push_cast
     exact pf_ret (by push_cast [r17_Of.rs];rfl)
    | some m =>
     obtain ⟨_,_,_,_,b1,b2⟩:=bare_some hc hct hM ho
     have hsm:=r17_Small_s m (by omega)
     have hfit:fitM m = true:=(fitM_iff m).2 (by omega)
     rw [hfit] at hsm
     rw [ho] at q1
     rw [q1] at q2 ⊢
     rw [q2,ofE_some]
     push_cast
     refine .of hsm ?_
     push_cast
     exact pf_ret (by push_cast [r17_Of.rs];rfl)
 ·rw [if_pos hb]
  push_cast [eq_false hb]
  exact pf_ret (by push_cast [r17_Of.rs];rfl)
set_option maxHeartbeats 2000000 in
theorem MultiOf_s (r:List ARule) (t:Term) (l:List AStep) (hr:rbs r < 2^28) (ht:tb t < 2^28) (hl:l.length < 2^40) (hp:∀ s∈l,s.pos.length < 2^40):SpecE prog n_l17_MultiOf [encRs r,encT t,encSts l] [] (fun x' H'=>x' = .bool true∧H' = []):=by
 have hA:=multi_Of_s r t l hr ht hl hp
 have hB:=r17_Of_s r t l hr ht hl hp
 refine spece_of_run mixed l17_MultiOf.ok rfl ?_
 have hcase:(∃ e,ofM r t l = (none,e)∧e ≠ 0) ∨ ∃ m,ofM r t l = (some m,0)∧checkSystem r = 0∧check t = 0∧MatS r l t []∧(bareM r t l).1 = some m:=by
  unfold ofM
  by_cases hb:bothE r t = 0
  ·have hc:checkSystem r = 0:=by
    unfold bothE at hb
    split at hb
    ·rename_i h;exact absurd hb h
    ·rename_i h;simpa using h
   have hct:check t = 0:=by
    unfold bothE at hb
    rw [if_neg (by simpa using hc)] at hb;exact hb
   rw [if_neg (by simpa using hb)]
   by_cases h4:4096 < l.length
   ·rw [if_pos h4];exact .inl ⟨3,rfl,by omega⟩
   ·rw [if_neg h4]
    by_cases hq:stepErr r t l = 0
    ·rw [if_neg (by simpa using hq)]
     obtain ⟨q1,q2⟩:=ofR_bare hc (check_iff.1 hct).1 (stepErr_matS hq)
     cases ho:(bareM r t l).1 with
     | none =>
      rw [ho] at q1
      rw [q1] at q2
      exact .inl ⟨9,Prod.ext ho q2,by omega⟩
     | some m =>
      rw [ho] at q1
      rw [q1] at q2
      exact .inr ⟨m,Prod.ext ho q2,hc,hct,stepErr_matS hq,rfl⟩
    ·rw [if_pos hq];exact .inl ⟨_,rfl,hq⟩
  ·rw [if_pos hb];exact .inl ⟨_,rfl,hb⟩
 rcases hcase with ⟨e,he,hne⟩ | ⟨m,he,hc,hct,hM,hbm⟩
 ·rw [he] at hA hB
  unfold encME at hA hB
  push_cast
  refine .of hA ?_
  push_cast
  refine .of hB ?_
  push_cast
  refine .of (r17_Same_self zM (by decide)) ?_
  push_cast [eq_false hne]
  refine .of alive17 ?_
  push_cast
  exact pf_ret (by push_cast [l17_MultiOf.rs])
 ·obtain ⟨a1,a2,a3,a4,a5,a6⟩:=bare_some hc hct hM hbm
  have hmb:=ok_mb m a1
  have hck:checkM r m = 0:=checkM_iff.2 ⟨hc,a1,a5,a6⟩
  have hend:(endM r ARule.left m).2 = 0:=by
   unfold endM
   rw [if_neg (by simpa using hck),a2,if_pos (check_iff.1 hct).2]
  have hS:=multi_Steps_s r m hr (by omega)
  unfold stepsV at hS
  rw [if_neg (by simpa using hend)] at hS
  have hz:=fits_size (check_iff.1 hct).2
  obtain ⟨s1,s2⟩:=steps_small hc a1 (by rw [a2];exact hz)
  have hpm:(stepsM r m).Perm l:=(walkM_perm r (fun x hx=>(checkSystem_good hc x hx).1.1) m a1).symm.trans (rep_perm hc a1 a3 a4).symm
  have hSS:=r17_SameSet_s (stepsM r m) l (by omega) (by omega) (fun x hx=>by have:=hp x hx;omega)
  rw [perm_same hpm] at hSS
  rw [he] at hA hB
  unfold encME at hA hB
  push_cast
  refine .of hA ?_
  push_cast
  refine .of hB ?_
  push_cast
  refine .of (r17_Same_self m (by omega)) ?_
  push_cast
  refine .of hS ?_
  push_cast
  refine .of hSS ?_
  push_cast
  refine .of alive17 ?_
  push_cast
  exact pf_ret (by push_cast [l17_MultiOf.rs])
end Go.Dw
end
