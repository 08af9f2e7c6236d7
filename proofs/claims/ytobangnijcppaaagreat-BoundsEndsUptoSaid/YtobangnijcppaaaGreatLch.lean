/-
  Contracts and lemmas for BoundsEnds: part h of 9.
-/
import Derived.Test.YtobangnijcppaaaGreatLcg
import Derived.Test.YtobangnijcppaaaGreatLcf
import Derived.WalkKit
import Derived.Laws.MathBits
import Derived.Test.YtobangnijcppaaaGreatLcc
import Derived.Laws.MakeOwn
import Derived.Test.YtobangnijcppaaaGreatLce
set_option linter.unusedVariables false
set_option linter.unusedSimpArgs false
set_option maxRecDepth 100000
section
namespace Go.Dw
def WayM:Int→List AMove→Int→Prop
 | p,[],q=>p = q
 | p,x :: l,q=>x.src = p∧WayM x.dst l q
theorem way_append:∀ {A B:List AMove} {p q:Int},WayM p (A++B) q ↔ ∃ m,WayM p A m∧WayM m B q
 | [],B,p,q=>by simp [WayM]
 | x :: A,B,p,q=>by
  simp only [List.cons_append,WayM,way_append]
  exact ⟨fun ⟨h,m,h1,h2⟩=>⟨m,⟨h,h1⟩,h2⟩,fun ⟨m,⟨h,h1⟩,h2⟩=>⟨h,m,h1,h2⟩⟩
theorem way_readL {mv:List AMove} {fit:Int→Bool}:∀ (n:Nat) (ms:List AMove),ms.length = n→∀ (s:ASp) (q:Int),WayM s.1 ms q→(∀ x∈ms,x∈mv∧fit x.h = true) →
  ∃ u∈readL mv fit s (ms.map AMove.name),u.1 = q∧(u.2 = s.2 ∨ ∃ x∈ms,x.h = u.2)∧(∀ x∈ms,u.2≤x.h):=by
 intro n
 induction n with
 | zero =>
  intro ms hl s q hw _
  obtain rfl:=List.length_eq_zero_iff.1 hl
  exact ⟨s,by simp [readL],hw,.inl rfl,by simp⟩
 | succ n ih =>
  intro ms hl s q hw hm
  rcases List.eq_nil_or_concat ms with rfl | ⟨A,x,rfl⟩
  ·simp at hl
  ·rw [List.concat_eq_append] at hl hw hm ⊢
   obtain ⟨m,h1,h2⟩:=way_append.1 hw
   obtain ⟨h2,h3⟩:x.src = m∧x.dst = q:=h2
   obtain ⟨u,g1,g2,g3,g4⟩:=ih A (by simp at hl;exact hl) s m h1 fun y hy=>hm y (by simp [hy])
   have hx:=hm x (by simp)
   refine ⟨(x.dst,if x.h < u.2 then x.h else u.2),?_,h3,?_,?_⟩
   ·rw [List.map_append]
    show _∈readL mv fit s (A.map AMove.name++[x.name])
    rw [readL_snoc,nextL_mem]
    exact ⟨u,g1,List.mem_map.2 ⟨x,List.mem_filter.2 ⟨List.mem_filter.2 ⟨hx.1,by simp [g2,h2]⟩,by simp [hx.2]⟩,rfl⟩⟩
   ·simp only
    split
    ·exact .inr ⟨x,by simp,rfl⟩
    ·rcases g3 with g3 | ⟨y,hy,e⟩
     ·exact .inl g3
     ·exact .inr ⟨y,by simp [hy],e⟩
   ·intro y hy
    simp only
    rcases List.mem_append.1 hy with hy | hy
    ·have:=g4 y hy;split <;> omega
    ·rw [List.mem_singleton.1 hy];split <;> omega
theorem readL_way {mv:List AMove} {fit:Int→Bool}:∀ (n:Nat) (w:List Str),w.length = n→∀ (s u:ASp),u∈readL mv fit s w→∃ ms,WayM s.1 ms u.1∧ms.map AMove.name = w∧∀ x∈ms,x∈mv∧fit x.h = true:=by
 intro n
 induction n with
 | zero =>
  intro w hl s u hu
  obtain rfl:=List.length_eq_zero_iff.1 hl
  have:u = s:=by simpa [readL] using hu
  exact ⟨[],by rw [this];rfl,rfl,by simp⟩
 | succ n ih =>
  intro w hl s u hu
  rcases List.eq_nil_or_concat w with rfl | ⟨A,c,rfl⟩
  ·simp at hl
  ·rw [List.concat_eq_append] at hl hu ⊢
   rw [readL_snoc,nextL_mem] at hu
   obtain ⟨t,ht,hu⟩:=hu
   obtain ⟨x,hx,rfl⟩:=List.mem_map.1 hu
   obtain ⟨z1,z2⟩:=List.mem_filter.1 hx
   obtain ⟨z3,z4⟩:=List.mem_filter.1 z1
   obtain ⟨ms,h1,h2,h3⟩:=ih A (by simp at hl;exact hl) s t ht
   have z4:x.src = t.1:=by simpa using z4
   have z2:x.name = c∧fit x.h = true:=by simpa using z2
   exact ⟨ms++[x],way_append.2 ⟨t.1,h1,z4,rfl⟩,by rw [List.map_append,h2];simp [z2.1],fun y hy=>by
    rcases List.mem_append.1 hy with hy | hy
    ·exact h3 y hy
    ·rw [List.mem_singleton.1 hy];exact ⟨z3,z2.2⟩⟩
def wtL (L:Nat):Nat→Nat
 | 0=>1
 | k+1=>1+L * wtL L k
theorem lenP_wt {L n:Nat}:∀ {k j v:Nat},lenP L n k (wtL L j) = some v→v = n * wtL L (k+j)
 | 0,j,v,h=>by
  simp only [lenP] at h
  split at h
  ·cases h
  ·cases h;rw [Nat.zero_add]
 | k+1,j,v,h=>by
  simp only [lenP] at h
  split at h
  ·cases h
  ·have:=lenP_wt (j:=j+1) h
   rw [this,Nat.add_assoc,Nat.add_comm 1 j]
def msr (L:Nat) (b:Int) (ms:List AMove):Nat:=(ms.map fun x=>wtL L (b - x.h).toNat).sum
theorem msr_append {L:Nat} {b:Int} {A B:List AMove}:msr L b (A++B) = msr L b A+msr L b B:=by simp [msr]
theorem msr_mem {L:Nat} {b:Int} {x:AMove}:∀ {l:List AMove},x∈l→wtL L (b - x.h).toNat≤msr L b l
 | y :: l,h=>by
  have e:msr L b (y :: l) = wtL L (b - y.h).toNat+msr L b l:=rfl
  rcases List.mem_cons.1 h with rfl | h
  ·omega
  ·have:=msr_mem (L:=L) (b:=b) h;omega
theorem msr_const {L:Nat} {b h:Int}:∀ {l:List AMove},(∀ x∈l,x.h = h)→msr L b l = l.length * wtL L (b - h).toNat
 | [],_=>by simp [msr]
 | y :: l,hl=>by
  have e:msr L b (y :: l) = wtL L (b - y.h).toNat+msr L b l:=rfl
  rw [e,msr_const fun x hx=>hl x (by simp [hx]),hl y (by simp),List.length_cons,Nat.succ_mul,Nat.add_comm]
theorem wtL_pos (L k:Nat):0 < wtL L k:=by cases k <;> simp only [wtL] <;> omega
theorem longM_le2 {ws:List (List Str)} {w:List Str} (h:w∈ws):w.length≤longM ws:=by
 induction ws with
 | nil=>cases h
 | cons v ws ih =>
  simp only [longM]
  rcases List.mem_cons.1 h with rfl | h
  ·exact Nat.le_max_left _ _
  ·exact Nat.le_trans (ih h) (Nat.le_max_right _ _)
def GoodM (r:List ARule) (a:AAut) (x:AMove):Prop:=x∈a.moves ∨ x.src = 0∧x.dst = 0∧x.h = 0∧x.name ∉ symbolsR r
def LR (r:List ARule):Nat:=longM (r.map fun x=>(wordT x.right).1)
theorem way_step {r:List ARule} {a:AAut} (hck:checkB r a = 0) {x:ARule} (hx:x∈r) {A B:List Str} {ms:List AMove} (hw:WayM 0 ms 0) (hn:ms.map AMove.name = A++(wordT x.left).1++B) (hg:∀ y∈ms,GoodM r a y) :
  ∃ ms',WayM 0 ms' 0∧ms'.map AMove.name = A++(wordT x.right).1++B∧(∀ y∈ms',GoodM r a y)∧msr (LR r) a.bound ms' < msr (LR r) a.bound ms:=by
 obtain ⟨c1,c2,c3,c4,c5⟩:=checkB_ok hck
 have hln:=word_nil (checkSystem_nv c1 x hx) (by have:=List.all_eq_true.1 c2 x hx;unfold strR at this;rw [Bool.and_eq_true] at this;exact this.1)
 obtain ⟨M1,MB,rfl,hn1,hnB⟩:=List.map_eq_append_iff.1 hn
 obtain ⟨MA,ML,rfl,hnA,hnL⟩:=List.map_eq_append_iff.1 hn1
 obtain ⟨q,hw1,hwB⟩:=way_append.1 hw
 obtain ⟨p,hwA,hwL⟩:=way_append.1 hw1
 have hmL:∀ y∈ML,y∈a.moves:=fun y hy=>by
  rcases hg y (by simp [hy]) with h | ⟨_,_,_,h⟩
  ·exact h
  ·exact absurd (symR_mem.2 ⟨x,hx,.inl (by rw [← hnL];exact List.mem_map.2 ⟨y,hy,rfl⟩)⟩) h
 have hMLn:ML ≠ []:=fun e=>hln (by rw [← hnL,e];rfl)
 obtain ⟨y0,M0,rfl⟩:=List.exists_cons_of_ne_nil hMLn
 have hp:y0.src = p:=hwL.1
 have hpr:=(c3.mv y0 (hmL y0 (by simp))).1
 obtain ⟨u,u1,u2,u3,u4⟩:=way_readL (mv:=a.moves) (fit:=fun _=>true) _ (y0 :: M0) rfl (p,17) q hwL fun y hy=>⟨hmL y hy,rfl⟩
 rw [hnL] at u1
 have hlk:=lacks_none.1 c5 (toRl x) (List.mem_map.2 ⟨x,hx,rfl⟩) p.toNat (by omega) u (by rw [show ((p.toNat:Nat):Int) = p by omega];exact u1)
 rw [show ((p.toNat:Nat):Int) = p by omega,linked_iff] at hlk
 obtain ⟨v,hv1,hv2⟩:=hlk
 obtain ⟨MR,r1,r2,r3⟩:=readL_way _ _ rfl _ _ hv1
 have hb:=c3.bd
 have hatt:∃ y∈y0 :: M0,y.h = u.2:=by
  rcases u3 with h | h
  ·have:=u4 y0 (by simp)
   have:=(c3.mv y0 (hmL y0 (by simp))).2.2.1
   simp only at h;omega
  ·exact h
 obtain ⟨y1,hy1,hy1h⟩:=hatt
 have hy1r:=(c3.mv y1 (hmL y1 hy1)).2.2.1
 refine ⟨MA++MR++MB,way_append.2 ⟨q,way_append.2 ⟨p,hwA,by rw [← u2,← hv2];exact r1⟩,hwB⟩,?_,?_,?_⟩
 ·rw [List.map_append,List.map_append,hnA,hnB,r2];rfl
 ·intro y hy
  rcases List.mem_append.1 hy with hy | hy
  ·rcases List.mem_append.1 hy with hy | hy
   ·exact hg y (by simp [hy])
   ·exact .inl (r3 y hy).1
  ·exact hg y (by simp [hy])
 ·have h1:=msr_mem (L:=LR r) (b:=a.bound) hy1
  have h2:msr (LR r) a.bound MR = MR.length * wtL (LR r) (a.bound - (u.2+1)).toNat:=msr_const fun y hy=>by simpa using (r3 y hy).2
  have h3:MR.length≤LR r:=by
   have:MR.length = ((toRl x).right).length:=by rw [← r2,List.length_map]
   rw [this];exact longM_le2 (List.mem_map.2 ⟨x,hx,rfl⟩)
  have h4:msr (LR r) a.bound MR < wtL (LR r) (a.bound - y1.h).toNat:=by
   rw [h2]
   cases hR:MR with
   | nil=>rw [List.length_nil,Nat.zero_mul];exact wtL_pos _ _
   | cons z R =>
    have hz:=r3 z (by rw [hR];simp)
    have hzh:z.h = u.2+1:=by simpa using hz.2
    have hzb:=(c3.mv z hz.1).2.2.1
    have e:(a.bound - y1.h).toNat = (a.bound - (u.2+1)).toNat+1:=by omega
    rw [e,← hR]
    simp only [wtL]
    have:=Nat.mul_le_mul_right (wtL (LR r) (a.bound - (u.2+1)).toNat) h3
    omega
  rw [msr_append,msr_append,msr_append,msr_append]
  omega
end Go.Dw
end
section
namespace Go.Dw
theorem inst_word {σ:List ABind}:∀ (n:Nat) (t:Term),size t≤n→(wordT t).2.var = true→wordT (inst σ t) = ((wordT t).1++(wordT (inst σ (wordT t).2)).1,(wordT (inst σ (wordT t).2)).2)
 | 0,t,h=>by have:=size_args t;omega
 | n+1,t,h=>by
  intro hv
  have hs:=size_args t
  rw [wordT_step t] at hv ⊢
  split at hv
  ·rename_i hc
   rw [if_pos hc]
   have ih:=inst_word (σ:=σ) n (t.args.getD 0 default) (by have:=size_mem (getD_mem (l:=t.args) (k:=0) (by omega));omega) hv
   obtain ⟨nm,v,l⟩:=t
   simp only [Term.var,Term.args] at hc
   obtain ⟨rfl,hl⟩:=hc
   obtain ⟨a,rfl⟩:=List.length_eq_one_iff.1 hl
   have e:inst σ (.mk nm false [a]) = .mk nm false [inst σ a]:=by simp [inst,insts]
   have e2:(Term.mk nm false [a]).args.getD 0 default = a:=rfl
   rw [e2] at ih ⊢
   rw [e,wordT_step (.mk nm false [inst σ a]),if_pos ⟨rfl,rfl⟩]
   show (nm :: (wordT (inst σ a)).1,(wordT (inst σ a)).2) = _
   rw [ih];rfl
  ·rename_i hc
   rw [if_neg hc]
   simp
theorem sub_word:∀ (p:List Int) (t x y:Term),(wordT t).2.args = []→subT t p = some x→∃ A,(wordT t).1 = A++(wordT x).1∧(wordT t).2 = (wordT x).2∧wordT (setT t p y) = (A++(wordT y).1,(wordT y).2)
 | [],t,x,y,ht,h=>by
  cases h
  exact ⟨[],rfl,rfl,rfl⟩
 | i :: p,t,x,y,ht,h=>by
  simp only [subT] at h
  split at h
  ·rename_i hi
   by_cases hc:t.var = false∧t.args.length = 1
   ·have hw:=wordT_step t
    rw [if_pos hc] at hw
    rw [hw] at ht ⊢
    obtain ⟨nm,v,l⟩:=t
    simp only [Term.var,Term.args] at hc hi
    obtain ⟨rfl,hl⟩:=hc
    obtain ⟨a,rfl⟩:=List.length_eq_one_iff.1 hl
    obtain rfl:i = 0:=by simp only [List.length_singleton] at hi;omega
    have h:subT a p = some x:=h
    obtain ⟨A,h1,h2,h3⟩:=sub_word p a x y ht h
    refine ⟨nm :: A,by show nm :: (wordT a).1 = _;rw [h1];rfl,h2,?_⟩
    have e:setT (.mk nm false [a]) (0 :: p) y = .mk nm false [setT a p y]:=by simp [setT,Term.name,Term.var,Term.args]
    rw [e,wordT_step,if_pos ⟨rfl,rfl⟩]
    show (nm :: (wordT (setT a p y)).1,(wordT (setT a p y)).2) = _
    rw [h3];rfl
   ·have hw:=wordT_step t
    rw [if_neg hc] at hw
    rw [hw] at ht
    have ht:t.args = []:=ht
    rw [ht] at hi
    simp at hi;omega
  ·cases h
theorem doE_word {r:List ARule} (hq:r.all strQ = true) {t u:Term} {s:AStep} {e:Int} (ht:(wordT t).2.args = []) (h:doE r t s = (some u,e)) :
  ∃ x∈r,∃ A B,(wordT t).1 = A++(wordT x.left).1++B∧(wordT u).1 = A++(wordT x.right).1++B∧(wordT u).2.args = []:=by
 unfold doE at h
 split at h
 ·cases h
 ·rename_i hf
  have hf:(findE r t s).2 = 0:=Classical.not_not.1 hf
  split at h
  ·split at h
   ·have hu:setT t s.pos (inst (findE r t s).1 (r.getD s.rule.toNat default).right) = u:=by cases h;rfl
    unfold findE at hf hu
    split at hf
    ·cases hf
    ·rename_i hc
     rw [if_neg hc] at hu
     cases hs:subT t s.pos with
     | none=>rw [hs] at hf;cases hf
     | some x =>
      rw [hs] at hf hu
      simp only at hf hu
      split at hf
      ·rename_i hm
       rw [if_pos hm] at hu
       have hmem:r.getD s.rule.toNat default∈r:=getD_mem (by omega)
       generalize r.getD s.rule.toNat default = z at hu hm hmem
       have hz:=List.all_eq_true.1 hq z hmem
       unfold strQ at hz
       rw [Bool.and_eq_true,Bool.and_eq_true,decide_eq_true_eq] at hz
       obtain ⟨⟨z1,z2⟩,z3⟩:=hz
       have hsd:=(matchT_sound z.left [] x hm).2 _ (ExtB.refl _)
       simp only at hu
       generalize (matchT [] z.left x).1 = σ at hu hsd
       have hl:=inst_word (σ:=σ) _ z.left (Nat.le_refl _) z1
       have hr:=inst_word (σ:=σ) _ z.right (Nat.le_refl _) z2
       have he:inst σ (wordT z.right).2 = inst σ (wordT z.left).2:=by
        rw [inst_eq,inst_eq,z1,z2,if_pos rfl,if_pos rfl,z3]
       rw [he] at hr
       rw [hsd] at hl
       obtain ⟨A,a1,a2,a3⟩:=sub_word s.pos t x (inst σ z.right) ht hs
       rw [hu] at a3
       refine ⟨z,hmem,A,(wordT (inst σ (wordT z.left).2)).1,?_,?_,?_⟩
       ·rw [a1,hl];simp
       ·rw [a3,hr];simp
       ·rw [a3,hr]
        show (wordT (inst σ (wordT z.left).2)).2.args = []
        rw [a2,hl] at ht
        exact ht
      ·cases hf
   ·cases h
  ·cases h
theorem run_short {r:List ARule} {a:AAut} (hck:checkB r a = 0) (hq:r.all strQ = true):∀ (l:List AStep) (t:Term) (ts:List Term),runE r t l = (ts,0)→(wordT t).2.args = []→∀ ms,WayM 0 ms 0→ms.map AMove.name = (wordT t).1 →
  (∀ y∈ms,GoodM r a y)→l.length≤msr (LR r) a.bound ms
 | [],t,ts,_,_,ms,_,_,_=>by simp
 | s :: l,t,ts,h,ht,ms,hw,hn,hg=>by
  cases hd:doE r t s with
  | mk o e =>
   cases o with
   | none =>
    rw [runE_none hd] at h
    have:=doE_none hd
    cases h;exact absurd rfl this
   | some u =>
    rw [runE_some hd] at h
    obtain ⟨x,hx,A,B,h1,h2,h3⟩:=doE_word hq ht hd
    rw [h1] at hn
    obtain ⟨ms',w1,w2,w3,w4⟩:=way_step hck hx hw hn hg
    have h0:(runE r u l).2 = 0:=by
     unfold addE at h
     split at h
     ·assumption
     ·rename_i hc;exact absurd (Prod.mk.inj h).2 hc
    have:=run_short hck hq l u (runE r u l).1 (by rw [← h0]) h3 ms' w1 (by rw [w2,h2]) w3
    simp only [List.length_cons];omega
theorem short_law {r:List ARule} {a:AAut} {c:AChain} (hck:checkB r a = 0) (ht:(termsE r c).2 = 0) (htx:(wordT c.start).2.args = []) {v:Nat} (hv:lenB r a (wordT c.start).1.length = ((v:Int),0)):c.steps.length≤v:=by
 obtain ⟨c1,c2,c3,c4,c5⟩:=checkB_ok hck
 have hq:r.all strQ = true:=by rw [← strR_Q c1];exact c2
 unfold termsE at ht
 rw [if_neg (by simpa using c1)] at ht
 unfold chainE at ht
 split at ht
 ·cases ht
 ·split at ht
  ·rename_i h;exact absurd ht h
  ·have h0:(runE r c.start c.steps).2 = 0:=by
    unfold addE at ht
    split at ht
    ·assumption
    ·rename_i hc;exact absurd ht hc
   let ms:List AMove:=(wordT c.start).1.map fun n=>⟨0,0,n,0⟩
   have hway:∀ l:List Str,WayM 0 (l.map fun n=>(⟨0,0,n,0⟩:AMove)) 0:=fun l=>by
    induction l with
    | nil=>rfl
    | cons n l ih=>exact ⟨rfl,ih⟩
   have hnm:ms.map AMove.name = (wordT c.start).1:=by simp only [ms,List.map_map];exact List.map_id' _
   have hgood:∀ y∈ms,GoodM r a y:=fun y hy=>by
    obtain ⟨n,hn,rfl⟩:=List.mem_map.1 hy
    by_cases hs:n∈symbolsR r
    ·rw [loops_has,List.all_eq_true] at c4
     have:=c4 n hs
     unfold hasM at this
     obtain ⟨z,hz,e⟩:=List.any_eq_true.1 this
     have e:(⟨0,0,n,0⟩:AMove) = z:=by simpa using e
     exact .inl (by rw [e];exact hz)
    ·exact .inr ⟨rfl,rfl,rfl,hs⟩
   have hrun:=run_short hck hq c.steps c.start (runE r c.start c.steps).1 (by rw [← h0]) htx ms (hway _) hnm hgood
   have hm:msr (LR r) a.bound ms = (wordT c.start).1.length * wtL (LR r) a.bound.toNat:=by
    rw [msr_const (h:=0) fun x hx=>by obtain ⟨n,_,rfl⟩:=List.mem_map.1 hx;rfl]
    simp [ms]
   rw [hm] at hrun
   unfold lenB at hv
   rw [if_neg (by simpa using hck)] at hv
   split at hv
   ·cases hv
   ·split at hv
    ·rename_i h
     have:(wordT c.start).1.length = 0:=by omega
     rw [this,Nat.zero_mul] at hrun;omega
    ·cases hl:lenP (longM (r.map fun x=>(wordT x.right).1)) ((wordT c.start).1.length:Int).toNat a.bound.toNat 1 with
     | none=>rw [hl] at hv;cases hv
     | some w =>
      rw [hl] at hv
      have:=lenP_wt (j:=0) hl
      have hw:w = v:=by
       simp only [lenV',Prod.mk.injEq] at hv;omega
      rw [← hw,this,Int.toNat_natCast]
      exact hrun
end Go.Dw
end
section
namespace Go.Dw
def leastL:List Int→Int
 | []=>0
 | x :: l=>l.foldl (fun a b=>if b < a then b else a) x
theorem foldl_least:∀ (l:List Int) (x:Int),(l.foldl (fun a b=>if b < a then b else a) x∈x :: l)∧∀ y∈x :: l,l.foldl (fun a b=>if b < a then b else a) x≤y
 | [],x=>by simp
 | z :: l,x=>by
  obtain ⟨h1,h2⟩:=foldl_least l (if z < x then z else x)
  rw [List.foldl_cons]
  refine ⟨?_,fun y hy=>?_⟩
  ·rcases List.mem_cons.1 h1 with h | h
   ·rw [h];split <;> simp
   ·simp [h]
  ·have h3:=h2 _ (List.mem_cons_self ..)
   have h4:(if z < x then z else x)≤x∧(if z < x then z else x)≤z:=by split <;> omega
   rcases List.mem_cons.1 hy with rfl | hy
   ·exact Int.le_trans h3 h4.1
   ·rcases List.mem_cons.1 hy with rfl | hy
    ·exact Int.le_trans h3 h4.2
    ·exact h2 y (by simp [hy])
theorem least_eq {l:List Int} {m:Int} (h1:m∈l) (h2:∀ y∈l,m≤y):leastL l = m:=by
 cases l with
 | nil=>cases h1
 | cons x l =>
  obtain ⟨h3,h4⟩:=foldl_least l x
  have:=h4 m h1
  have:=h2 _ h3
  show l.foldl _ x = m
  omega
def hStep (now:List Int) (i l r:Nat):List Int:=now.take i++List.replicate r (leastL ((now.drop i).take l)+1)++now.drop (i+l)
theorem sub_word_len:∀ (p:List Int) (t x:Term),(wordT t).2.args = []→subT t p = some x→(wordT t).1.length = p.length+(wordT x).1.length
 | [],t,x,ht,h=>by cases h;simp
 | i :: p,t,x,ht,h=>by
  simp only [subT] at h
  split at h
  ·rename_i hi
   by_cases hc:t.var = false∧t.args.length = 1
   ·have hw:=wordT_step t
    rw [if_pos hc] at hw
    rw [hw] at ht ⊢
    have e:i.toNat = 0:=by omega
    rw [e] at h
    have:=sub_word_len p _ x ht h
    simp only [List.length_cons];omega
   ·have hw:=wordT_step t
    rw [if_neg hc] at hw
    rw [hw] at ht
    have ht:t.args = []:=ht
    rw [ht] at hi
    simp at hi;omega
  ·cases h
theorem doE_word2 {r:List ARule} (hq:r.all strQ = true) {t u:Term} {s:AStep} {e:Int} (ht:(wordT t).2.args = []) (h:doE r t s = (some u,e)) :
  r.getD s.rule.toNat default∈r∧(0≤s.rule∧s.rule < r.length)∧∃ A B,A.length = s.pos.length∧(wordT t).1 = A++(wordT (r.getD s.rule.toNat default).left).1++B∧(wordT u).1 = A++(wordT (r.getD s.rule.toNat default).right).1++B∧(wordT u).2.args = []:=by
 unfold doE at h
 split at h
 ·cases h
 ·rename_i hf
  have hf:(findE r t s).2 = 0:=Classical.not_not.1 hf
  split at h
  ·split at h
   ·have hu:setT t s.pos (inst (findE r t s).1 (r.getD s.rule.toNat default).right) = u:=by cases h;rfl
    unfold findE at hf hu
    split at hf
    ·cases hf
    ·rename_i hc
     rw [if_neg hc] at hu
     cases hs:subT t s.pos with
     | none=>rw [hs] at hf;cases hf
     | some x =>
      rw [hs] at hf hu
      simp only at hf hu
      split at hf
      ·rename_i hm
       rw [if_pos hm] at hu
       have hmem:r.getD s.rule.toNat default∈r:=getD_mem (by omega)
       refine ⟨hmem,by omega,?_⟩
       generalize r.getD s.rule.toNat default = z at hu hm hmem ⊢
       have hz:=List.all_eq_true.1 hq z hmem
       unfold strQ at hz
       rw [Bool.and_eq_true,Bool.and_eq_true,decide_eq_true_eq] at hz
       obtain ⟨⟨z1,z2⟩,z3⟩:=hz
       have hsd:=(matchT_sound z.left [] x hm).2 _ (ExtB.refl _)
       simp only at hu
       generalize (matchT [] z.left x).1 = σ at hu hsd
       have hl:=inst_word (σ:=σ) _ z.left (Nat.le_refl _) z1
       have hr:=inst_word (σ:=σ) _ z.right (Nat.le_refl _) z2
       have he:inst σ (wordT z.right).2 = inst σ (wordT z.left).2:=by
        rw [inst_eq,inst_eq,z1,z2,if_pos rfl,if_pos rfl,z3]
       rw [he] at hr
       rw [hsd] at hl
       obtain ⟨A,a1,a2,a3⟩:=sub_word s.pos t x (inst σ z.right) ht hs
       have a4:=sub_word_len s.pos t x ht hs
       rw [hu] at a3
       refine ⟨A,(wordT (inst σ (wordT z.left).2)).1,?_,?_,?_,?_⟩
       ·rw [a1,List.length_append] at a4;omega
       ·rw [a1,hl];simp
       ·rw [a3,hr];simp
       ·rw [a3,hr]
        show (wordT (inst σ (wordT z.left).2)).2.args = []
        rw [a2,hl] at ht
        exact ht
      ·cases hf
   ·cases h
  ·cases h
theorem way_heights {r:List ARule} {a:AAut} (hck:checkB r a = 0) {x:ARule} (hx:x∈r) {A B:List Str} {ms:List AMove} (hw:WayM 0 ms 0) (hn:ms.map AMove.name = A++(wordT x.left).1++B) (hg:∀ y∈ms,GoodM r a y) :
  ∃ ms',WayM 0 ms' 0∧ms'.map AMove.name = A++(wordT x.right).1++B∧(∀ y∈ms',GoodM r a y)∧ms'.map AMove.h = hStep (ms.map AMove.h) A.length (wordT x.left).1.length (wordT x.right).1.length:=by
 obtain ⟨c1,c2,c3,c4,c5⟩:=checkB_ok hck
 have hln:=word_nil (checkSystem_nv c1 x hx) (by have:=List.all_eq_true.1 c2 x hx;unfold strR at this;rw [Bool.and_eq_true] at this;exact this.1)
 obtain ⟨M1,MB,rfl,hn1,hnB⟩:=List.map_eq_append_iff.1 hn
 obtain ⟨MA,ML,rfl,hnA,hnL⟩:=List.map_eq_append_iff.1 hn1
 obtain ⟨q,hw1,hwB⟩:=way_append.1 hw
 obtain ⟨p,hwA,hwL⟩:=way_append.1 hw1
 have hmL:∀ y∈ML,y∈a.moves:=fun y hy=>by
  rcases hg y (by simp [hy]) with h | ⟨_,_,_,h⟩
  ·exact h
  ·exact absurd (symR_mem.2 ⟨x,hx,.inl (by rw [← hnL];exact List.mem_map.2 ⟨y,hy,rfl⟩)⟩) h
 have hMLn:ML ≠ []:=fun e=>hln (by rw [← hnL,e];rfl)
 obtain ⟨y0,M0,rfl⟩:=List.exists_cons_of_ne_nil hMLn
 have hp:y0.src = p:=hwL.1
 have hpr:=(c3.mv y0 (hmL y0 (by simp))).1
 obtain ⟨u,u1,u2,u3,u4⟩:=way_readL (mv:=a.moves) (fit:=fun _=>true) _ (y0 :: M0) rfl (p,17) q hwL fun y hy=>⟨hmL y hy,rfl⟩
 rw [hnL] at u1
 have hlk:=lacks_none.1 c5 (toRl x) (List.mem_map.2 ⟨x,hx,rfl⟩) p.toNat (by omega) u (by rw [show ((p.toNat:Nat):Int) = p by omega];exact u1)
 rw [show ((p.toNat:Nat):Int) = p by omega,linked_iff] at hlk
 obtain ⟨v,hv1,hv2⟩:=hlk
 obtain ⟨MR,r1,r2,r3⟩:=readL_way _ _ rfl _ _ hv1
 have hb:=c3.bd
 have hatt:∃ y∈y0 :: M0,y.h = u.2:=by
  rcases u3 with h | h
  ·have:=u4 y0 (by simp)
   have:=(c3.mv y0 (hmL y0 (by simp))).2.2.1
   simp only at h;omega
  ·exact h
 obtain ⟨y1,hy1,hy1h⟩:=hatt
 refine ⟨MA++MR++MB,way_append.2 ⟨q,way_append.2 ⟨p,hwA,by rw [← u2,← hv2];exact r1⟩,hwB⟩,?_,?_,?_⟩
 ·rw [List.map_append,List.map_append,hnA,hnB,r2];rfl
 ·intro y hy
  rcases List.mem_append.1 hy with hy | hy
  ·rcases List.mem_append.1 hy with hy | hy
   ·exact hg y (by simp [hy])
   ·exact .inl (r3 y hy).1
  ·exact hg y (by simp [hy])
 ·have lA:(MA.map AMove.h).length = A.length:=by rw [List.length_map,← hnA,List.length_map]
  have lL:((y0 :: M0).map AMove.h).length = (wordT x.left).1.length:=by rw [List.length_map,← hnL,List.length_map]
  have lR:MR.length = (wordT x.right).1.length:=by
   have:MR.length = ((toRl x).right).length:=by rw [← r2,List.length_map]
   exact this
  have hm:leastL ((y0 :: M0).map AMove.h) = u.2:=least_eq (List.mem_map.2 ⟨y1,hy1,hy1h⟩) fun y hy=>by
   obtain ⟨z,hz,rfl⟩:=List.mem_map.1 hy;exact u4 z hz
  have hMR:MR.map AMove.h = List.replicate (wordT x.right).1.length (u.2+1):=by
   rw [← lR]
   refine List.eq_replicate_iff.2 ⟨by simp,fun b hb=>?_⟩
   obtain ⟨z,hz,rfl⟩:=List.mem_map.1 hb
   simpa using (r3 z hz).2
  unfold hStep
  rw [List.map_append,List.map_append,List.map_append,List.map_append,hMR]
  generalize (y0 :: M0).map AMove.h = L at lL hm ⊢
  generalize MA.map AMove.h = HA at lA ⊢
  generalize MB.map AMove.h = HB
  rw [List.append_assoc HA L HB,← lA,List.take_left,List.drop_left,← lL,List.take_left,hm,← List.drop_drop,List.drop_left,List.drop_left]
def liftL (r:List ARule) (now:List Int):List AStep→List (List Int)
 | []=>[now]
 | s :: l=>now :: liftL r (hStep now s.pos.length (wordT (r.getD s.rule.toNat default).left).1.length (wordT (r.getD s.rule.toNat default).right).1.length) l
theorem run_heights {r:List ARule} {a:AAut} (hck:checkB r a = 0) (hq:r.all strQ = true):∀ (l:List AStep) (t:Term) (ts:List Term),runE r t l = (ts,0)→(wordT t).2.args = []→∀ ms,WayM 0 ms 0→ms.map AMove.name = (wordT t).1 →
  (∀ y∈ms,GoodM r a y)→∀ hs∈liftL r (ms.map AMove.h) l,∀ h∈hs,h≤a.bound:=by
 have low:∀ ms:List AMove,(∀ y∈ms,GoodM r a y)→∀ h∈ms.map AMove.h,h≤a.bound:=fun ms hg h hh=>by
  obtain ⟨z,hz,rfl⟩:=List.mem_map.1 hh
  have hc:=(checkB_ok hck).2.2.1
  rcases hg z hz with h | ⟨_,_,h,_⟩
  ·exact (hc.mv z h).2.2.1.2
  ·rw [h];exact hc.bd.1
 intro l
 induction l with
 | nil =>
  intro t ts _ _ ms _ _ hg hs hh
  rw [List.mem_singleton.1 hh];exact low ms hg
 | cons s l ih =>
  intro t ts h ht ms hw hn hg hs hh
  cases hd:doE r t s with
  | mk o e =>
   cases o with
   | none =>
    rw [runE_none hd] at h
    have:=doE_none hd
    cases h;exact absurd rfl this
   | some u =>
    rw [runE_some hd] at h
    obtain ⟨hx,_,A,B,hA,h1,h2,h3⟩:=doE_word2 hq ht hd
    rw [h1] at hn
    obtain ⟨ms',w1,w2,w3,w4⟩:=way_heights hck hx hw hn hg
    have h0:(runE r u l).2 = 0:=by
     unfold addE at h
     split at h
     ·assumption
     ·rename_i hc;exact absurd (Prod.mk.inj h).2 hc
    rcases List.mem_cons.1 hh with rfl | hh
    ·exact low ms hg
    ·rw [← hA,← w4] at hh
     exact ih u (runE r u l).1 (by rw [← h0]) h3 ms' w1 (by rw [w2,h2]) w3 hs hh
theorem heights_law {r:List ARule} {a:AAut} {c:AChain} (hck:checkB r a = 0) (ht:(termsE r c).2 = 0) (htx:(wordT c.start).2.args = []) :
  ∀ hs∈liftL r (List.replicate (wordT c.start).1.length 0) c.steps,∀ h∈hs,h≤a.bound:=by
 obtain ⟨c1,c2,c3,c4,c5⟩:=checkB_ok hck
 have hq:r.all strQ = true:=by rw [← strR_Q c1];exact c2
 unfold termsE at ht
 rw [if_neg (by simpa using c1)] at ht
 unfold chainE at ht
 split at ht
 ·cases ht
 ·split at ht
  ·rename_i h;exact absurd ht h
  ·have h0:(runE r c.start c.steps).2 = 0:=by
    unfold addE at ht
    split at ht
    ·assumption
    ·rename_i hc;exact absurd ht hc
   have hway:∀ l:List Str,WayM 0 (l.map fun n=>(⟨0,0,n,0⟩:AMove)) 0:=fun l=>by
    induction l with
    | nil=>rfl
    | cons n l ih=>exact ⟨rfl,ih⟩
   have hnm:((wordT c.start).1.map fun n=>(⟨0,0,n,0⟩:AMove)).map AMove.name = (wordT c.start).1:=by rw [List.map_map];exact List.map_id' _
   have hgood:∀ y∈((wordT c.start).1.map fun n=>(⟨0,0,n,0⟩:AMove)),GoodM r a y:=fun y hy=>by
    obtain ⟨n,hn,rfl⟩:=List.mem_map.1 hy
    by_cases hs:n∈symbolsR r
    ·rw [loops_has,List.all_eq_true] at c4
     have:=c4 n hs
     unfold hasM at this
     obtain ⟨z,hz,e⟩:=List.any_eq_true.1 this
     have e:(⟨0,0,n,0⟩:AMove) = z:=by simpa using e
     exact .inl (by rw [e];exact hz)
    ·exact .inr ⟨rfl,rfl,rfl,hs⟩
   have hrun:=run_heights hck hq c.steps c.start (runE r c.start c.steps).1 (by rw [← h0]) htx _ (hway _) hnm hgood
   have hz:((wordT c.start).1.map fun n=>(⟨0,0,n,0⟩:AMove)).map AMove.h = List.replicate (wordT c.start).1.length 0:=by
    refine List.eq_replicate_iff.2 ⟨by simp,fun b hb=>?_⟩
    obtain ⟨z,hz,rfl⟩:=List.mem_map.1 hb
    obtain ⟨n,_,rfl⟩:=List.mem_map.1 hz
    rfl
   rw [hz] at hrun
   exact hrun
end Go.Dw
end
section
namespace Go.Proofs
open Go.RowKit
theorem Tryz.wrapU' {x:Int} (h0:0≤x) (h1:x < 18446744073709551616):IntKind.u64.wrap x = x:=by
 rw [IntKind.wrap_u64];omega
set_option maxHeartbeats 4000000 in
set_option maxRecDepth 100000 in
theorem Tryz.mul64_one (n:Nat) (hn:n < 2^40) (w:World):Calls Tryz.prog 215 #[.int .u64 1,.int .u64 n] w fun e w'=>e = .returned (.tuple #[.int .u64 0,.int .u64 n])∧w' = w:=by
 have a1:bits .and .u64 1 4294967295 = 1:=by rw [and_low32 1 (by omega) (by omega)];rfl
 have a2:bits .and .u64 (n:Int) 4294967295 = (n:Int) % 4294967296:=and_low32 n (by omega) (by omega)
 have a3:IntKind.u64.wrap ((n:Int) % 4294967296) = (n:Int) % 4294967296:=Tryz.wrapU' (by omega) (by omega)
 have a4:(n:Int) % 4294967296 / 4294967296 = 0:=by omega
 have a5:IntKind.u64.wrap ((n:Int) / 4294967296) = (n:Int) / 4294967296:=Tryz.wrapU' (by omega) (by omega)
 have a6:(n:Int) / 4294967296 / 4294967296 = 0:=by omega
 have a7:bits .and .u64 0 4294967295 = 0:=by rw [and_low32 0 (by omega) (by omega)];rfl
 have a8:IntKind.u64.wrap 0 = 0:=Tryz.wrapU' (by omega) (by omega)
 have a9:IntKind.u64.wrap (n:Int) = n:=Tryz.wrapU' (by omega) (by omega)
 go_enter Tryz.func215,Tryz.ntmps215
 go_wp2
 all_goals go_ret2
 all_goals exact ⟨rfl,rfl⟩
set_option maxHeartbeats 4000000 in
set_option maxRecDepth 100000 in
theorem Tryz.mul_one (n:Nat) (hn:n < 2^40) (w:World):Calls Tryz.prog 155 #[.int .u64 1,.int .u64 n] w fun e w'=>e = .returned (.tuple #[.int .u64 0,.int .u64 n])∧w' = w:=by
 have hm:=Tryz.mul64_one n hn
 go_enter Tryz.func155,Tryz.ntmps155
 go_wp2_with (go_at_call 215;refine (hm _).mono ?_;rintro e w' ⟨rfl,rfl⟩)
 go_ret2
 exact ⟨rfl,rfl⟩
end Go.Proofs
end
section
namespace Go.Proofs
open Go.RowKit Go.Lib
structure RpS (w wr:World) (n k:Nat) (h:Int):Prop where
 sz:wr.heap.size = w.heap.size+1
 old:∀ b,b < w.heap.size→wr.heap[b]? = w.heap[b]?
 os:wr.os = w.os
 tape:wr.tape = w.tape
 out:wr.output = w.output
 dr:w.drawn≤wr.drawn
 row:wr.rowIs w.heap.size 3 n (fun j=>.int .i64 (if j < k then h else 0))
theorem RpS.drew {w wr:World} {n k:Nat} {h:Int} (H:RpS w wr n k h):RpS w wr.drew n k h:=⟨H.sz,H.old,H.os,H.tape,H.out,Nat.le_succ_of_le H.dr,H.row⟩
theorem RpS.size (w:World) (o:Obj):(w.alloc o).heap.size = w.heap.size+1:=by show (w.heap.push o).size = _;simp
theorem RpS.new (w:World) (o:Obj):(w.alloc o).heap[w.heap.size]? = some o:=by show (w.heap.push o)[_]? = _;simp
theorem RpS.lt (w:World) (o:Obj) {b:Nat} (hb:b < w.heap.size):(w.alloc o).heap[b]? = w.heap[b]?:=by show (w.heap.push o)[_]? = _;rw [Array.getElem?_push_lt hb,← Array.getElem?_eq_getElem hb]
theorem RpS.start (w:World) (n:Nat) (h:Int):RpS w (w.alloc (.cells (madeCells (Value.int .i64 0).cells (n * 1)) 3)) n 0 h:=by
 refine ⟨RpS.size _ _,fun b hb=>?_,rfl,rfl,rfl,Nat.le_refl _,⟨_,RpS.new _ _,by simp [madeCells],fun i hi=>?_⟩⟩
 ·exact RpS.lt _ _ hb
 ·simp [madeCells,hi,show (Value.int .i64 0).cells = #[Value.int .i64 0] from rfl,Nat.mod_one]
theorem RpS.set {w wr:World} {n k m:Nat} {h:Int} (H:RpS w wr n k h) (hk:k+m≤n):RpS w (wr.setCells w.heap.size k (List.replicate m (.int .i64 h))) n (k+m) h:=by
 obtain ⟨h1,h2,h3,h4,h5,h6⟩:=Go.Dw.heap_setCells w.heap.size (List.replicate m (.int .i64 h)) k wr
 refine ⟨by rw [h1];exact H.sz,fun b hb=>by rw [h2 b (by omega)];exact H.old b hb,by rw [h4];exact H.os,by rw [h5];exact H.tape,by rw [h6];exact H.out,by rw [Go.Dw.drawn_setCells];exact H.dr,?_⟩
 have:=rowIs_setCells (List.replicate m (Value.int .i64 h)) k wr _ H.row
 obtain ⟨c,q1,q2,q3⟩:=this
 refine ⟨c,q1,q2,fun i hi=>?_⟩
 rw [q3 i hi]
 simp only [List.length_replicate]
 by_cases hc:k≤i∧i < k+m
 ·rw [if_pos hc,if_pos hc.2]
  rw [List.getElem?_replicate,if_pos (by omega)];rfl
 ·rw [if_neg hc]
  by_cases h2:i < k
  ·rw [if_pos h2,if_pos (by omega)]
  ·rw [if_neg h2,if_neg (by omega)]
theorem RpS.fz {w wr:World} {n k:Nat} {h:Int} (H:RpS w wr n k h) (x:Nat):wr.frozen? ⟨w.heap.size,x,none⟩ = false:=by
 obtain ⟨c,hb,_,_⟩:=H.row
 simp [World.frozen?,hb]
theorem RpS.copy {w wr:World} {n k m xo sl:Nat} {h:Int} {xb:Nat} (H:RpS w wr n k h) (hk:k+m≤n) (hx:∀ j,j < m→wr.cell? ⟨xb,xo+j,none⟩ = some (.int .i64 h)) (hm:m = Nat.min sl (n - k)) (ty:TypeId) (dc sc:Nat) :
  (Builtin.copy_ #[56,56] ty #[.slice (some ⟨w.heap.size,k,none⟩) (n - k) dc,.slice (some ⟨xb,xo,none⟩) sl sc]).run Tryz.prog wr = .ok (goInt m) (wr.setCells w.heap.size k (List.replicate m (.int .i64 h))):=by
 have:=run_copy_cellsZ (P:=Tryz.prog) wr 56 56 ty 3 w.heap.size k (n - k) dc ⟨xb,xo,none⟩ sl sc 1 (List.replicate m (.int .i64 h)) Tryz.underlying56 (by kernel_rfl) (by simp [hm])
  (fun j v hj=>by
   rw [List.getElem?_replicate] at hj
   split at hj
   ·rename_i hjm;cases hj;rw [Addr.add_lit];exact hx j hjm
   ·cases hj)
  (fun j hj=>by rw [H.row.cell (by simp at hj;omega)];rfl) (fun j _=>H.fz _) (fun v hv=>by rw [List.eq_of_mem_replicate hv];rfl)
 rw [this,hm]
theorem Tryz.rep_info:(Tryz.prog.info? 3).map (fun i=>(i.zero,i.size,i.bytes)) = some (some (.int .i64 0),1,8):=by kernel_rfl
set_option maxHeartbeats 4000000 in
set_option maxRecDepth 100000 in
theorem Tryz.repeat_c (xb xo xc n:Nat) (h:Int) (w:World) (hx:w.cell? ⟨xb,xo,none⟩ = some (.int .i64 h)) (hxb:xb < w.heap.size) (hn:n < 2^40) :
  Calls Tryz.prog 87 #[.slice (some ⟨xb,xo,none⟩) 1 xc,.int .i64 n] w fun e w'=>e = .returned (.slice (some ⟨w.heap.size,0,none⟩) n n)∧RpS w w' n n h:=by
 have hm:=Tryz.mul_one n hn
 have e1:¬ (n:Int) < 0:=by omega
 have e2:IntKind.u64.wrap (n:Int) = n:=Tryz.wrapU' (by omega) (by omega)
 have e3:¬ ((9223372036854775807:Int) < (n:Int)):=by omega
 have e4:IntKind.i64.wrap (n:Int) = n:=by rw [IntKind.wrap_i64];omega
 have mixed:=Go.Dw.mixed
 have hu56:=Tryz.underlying56
 have hmk:∀ W:World,(Instr.makeSlice 56 (.int .i64 n) (.int .i64 n)).run Tryz.prog W = .ok (.slice (some ⟨W.heap.size,0,none⟩) n n) (W.alloc (.cells (madeCells (Value.int .i64 0).cells (n * 1)) 3)):=fun W=>by
  cases hi:Tryz.prog.info? 3 with
  | none=>have:=Tryz.rep_info;simp [hi] at this
  | some i =>
   have:=Tryz.rep_info
   simp only [hi,Option.map_some,Option.some.injEq,Prod.mk.injEq] at this
   obtain ⟨z1,z2,z3⟩:=this
   have:=run_make (P:=Tryz.prog) W 56 3 i (.int .i64 0) hu56 hi z1 .i64 .i64 n n (by omega) (Int.le_refl _) (by rw [z3];omega) (by omega)
   rw [z2] at this
   simpa using this
 have hS:=RpS.start w n h
 have hxS:∀ j,j < 1→(w.alloc (.cells (madeCells (Value.int .i64 0).cells (n * 1)) 3)).cell? ⟨xb,xo+j,none⟩ = some (.int .i64 h):=fun j hj=>by
  have:j = 0:=by omega
  subst this
  rw [Nat.add_zero,← hx]
  exact World.cell?_of_block (hS.old xb hxb)
 obtain ⟨m0,hm0⟩:∃ m0,m0 = Nat.min 1 (n - 0):=⟨_,rfl⟩
 have hm0a:m0≤n∧m0≤1∧(0 < n→m0 = 1):=by rw [hm0];simp only [Nat.min_def];split <;> omega
 have hcp0:=hS.copy (m:=m0) (xb:=xb) (xo:=xo) (sl:=1) (by omega) (fun j hj=>hxS j (by omega)) hm0
 have hS1:=hS.set (m:=m0) (by omega)
 rw [Nat.zero_add] at hS1
 clear hm0
 generalize madeCells (Value.int .i64 0).cells (n * 1) = M at hmk hcp0 hS1
 simp only [Nat.sub_zero] at hcp0
 generalize hW0:(w.alloc (.cells M 3)).setCells w.heap.size 0 (List.replicate m0 (.int .i64 h)) = W0 at hcp0 hS1
 go_enter Tryz.func87,Tryz.ntmps87
 go_wp2_with (first | (go_at_call 155;refine (hm _).mono ?_;rintro e w1 ⟨rfl,hw1⟩;rw [hw1];clear hw1) | simp only [hmk] | simp only [hcp0])
 go_loopw [8] (fun v wr=>∃ k:Nat,(0 < n→1≤k)∧k≤n∧v = .int .i64 k∧RpS w wr n k h) (fun v _=>n - (intOf v).toNat)
 case atStart=>exact ⟨m0,by omega,by omega,rfl,hS1⟩
 case round =>
  obtain ⟨k,hk1,hk2,rfl,hR⟩:=hrel
  obtain ⟨m,hm2⟩:∃ m,m = Nat.min k (n - k):=⟨_,rfl⟩
  have hmk2:k+m≤n:=by rw [hm2];simp only [Nat.min_def];split <;> omega
  have hm1:k < n→1≤m:=fun hlt=>by have:=hk1 (by omega);rw [hm2];simp only [Nat.min_def];split <;> omega
  have hcp:=hR.drew.copy (m:=m) (xb:=w.heap.size) (xo:=0) (sl:=k) hmk2 (fun j hj=>by
   have hjk:j < k:=by rw [hm2] at hj;simp only [Nat.min_def] at hj;split at hj <;> omega
   rw [hR.drew.row.cell (by omega),Nat.zero_add,if_pos hjk]) hm2
  have hRn:=hR.drew.set hmk2
  generalize hWn:wr.drew.setCells w.heap.size k (List.replicate m (.int .i64 h)) = Wn at hcp hRn
  clear hm2
  have f1:(0:Int)≤(k:Int):=by omega
  have f2:(k:Int)≤(n:Int):=by omega
  have f3:IntKind.i64.wrap ((k:Int)+(m:Int)) = ((k+m:Nat):Int):=by rw [IntKind.wrap_i64];omega
  have f4:((k:Int)).toNat = k:=by omega
  by_cases hlt:k < n
  ·have hlti:(k:Int) < (n:Int):=by omega
   have hk1:=hk1 (by omega)
   have hm1:=hm1 hlt
   have f5:¬ (n = k):=by omega
   go_wp2
   go_region_law_o (refine step_copy_runI rfl _ _ 56 56 rfl _ _ (by simp [Act.eval,Act.put]) (by simp [Act.eval,Act.put]) (hcp _ _ _) ?_)
   try go_wp2
   go_roundw
   case rel =>
    rw [show (k:Int)+(m:Int) = ((k+m:Nat):Int) by omega]
    exact ⟨_,_,_,_,_,_,_,_,_,_,_,_,_,_,⟨k+m,by omega,hmk2,rfl,hRn⟩,rfl⟩
   case measure =>
    rw [show (k:Int)+(m:Int) = ((k+m:Nat):Int) by omega]
    have e7:∀ x y:Nat,n - (intOf (.int .i64 ((x:Nat):Int))).toNat = n - x:=fun x y=>by simp [intOf]
    show n - (intOf (.int .i64 ((k+m:Nat):Int))).toNat < n - (intOf (.int .i64 (k:Int))).toNat
    rw [e7 _ 0,e7 _ 0];omega
  ·have hkn:k = n:=by omega
   subst hkn
   have f6:¬ (k:Int) < (k:Int):=by omega
   go_wp2
   go_ret
   exact ⟨rfl,hR⟩
end Go.Proofs
end
section
namespace Go.Dw
open Go.Proofs
theorem repeat_in (args:Array Value) (w:World):(callFunc 87 args).run Tryz.prog w = .ok (.enter 87 args) w:=enters_of (P:=Tryz.prog) Tryz.func87 (by kernel_rfl) rfl args w
theorem slices_Repeat_one_s (h:Int) (n:Nat) (hn:n < 2^40):PF n_slices_Repeat_s_int_int [encP [h],.int .i64 n] (encP (List.replicate n h)):=by
 intro c vs hH hc hr
 obtain ⟨v,vs1,rfl,h1,v2,vs2,rfl,h2,h3⟩:=hr
 have h2:v2 = .int .i64 n:=h2
 have h3:vs2 = []:=h3
 subst h2;subst h3
 obtain ⟨base,cap,b,o,rfl,q1,q2,q3,q4,q5⟩:=h1
 have hne:base = some ⟨b,o,none⟩:=by rcases q4 with h | h;exact absurd h (by simp);exact h
 subst hne
 obtain ⟨_,⟨⟨u,e1,e2,e3,e4⟩,_⟩,_⟩:=q5
 have e4:u = .int .i64 h:=e4
 subst e4
 have hblt:=hc.okLt _ _ e2
 try rw [Nat.zero_mul,Nat.add_zero] at e1
 left
 refine ⟨repeat_in _ _,?_⟩
 refine (Tryz.repeat_c b o cap n h c.w e1 hblt hn).mono ?_
 rintro e w' ⟨rfl,hR⟩
 obtain ⟨cs,k1,k2,k3⟩:=hR.row
 have hheap:w'.heap = c.w.heap.push (.cells cs 3):=by
  apply Array.ext'
  apply List.ext_getElem?
  intro i
  simp only [Array.getElem?_toList]
  by_cases hi:i < c.w.heap.size
  ·rw [hR.old i hi,Array.getElem?_push_lt hi,← Array.getElem?_eq_getElem hi]
  ·by_cases hi2:i = c.w.heap.size
   ·subst hi2;rw [k1];simp
   ·rw [Array.getElem?_eq_none (by rw [hR.sz];omega),Array.getElem?_eq_none (by simp;omega)]
 obtain ⟨p1,p2⟩:=conc_heap (conc_addRo hc (.cells cs 3)) (w':=w') hheap hR.os hR.tape hR.out hR.dr
 refine ⟨_,encP (List.replicate n h),{ c.addRo (.cells cs 3) with w:=w' },rfl,rfl,⟨rfl,hH⟩,p1,?_,(fr_addRo hc _).trans p2⟩
 refine ⟨some ⟨c.w.heap.size,0,none⟩,n,c.w.heap.size,0,by simp,by simp,by unfold capMax;omega,by unfold maxEls;simp;omega,.inr rfl,prepE_mk fun i el he=>?_⟩
 rw [List.getElem?_map,List.getElem?_replicate] at he
 split at he
 case isFalse=>cases he
 rename_i hi
 cases he
 refine ⟨rfl,prepC_mk fun j x hj=>?_⟩
 cases j with
 | succ j=>simp [cI] at hj
 | zero =>
  simp only [cI,List.getElem?_cons_zero,Option.some.injEq] at hj
  subst hj
  refine ⟨.int .i64 h,?_,.inr rfl,rfl,rfl⟩
  have:=hR.row.cell hi
  rw [if_pos hi] at this
  simpa using this
end Go.Dw
end
section
namespace Go.Dw
theorem slices_Clone_int_p (p:List Int) (hp:p.length < 2^40):PF n_slices_Clone_s_int_int [encP p] (encP p):=by
 refine pf_of slices_Clone_s_int_int.ok rfl ?_
 push_cast
 intro c hc
 refine ⟨fun h=>?_,fun h=>⟨by rw [List.length_map];unfold maxEls;omega,?_⟩⟩
 ·have hp0:p = []:=by simpa using hc (by cases c <;> simp_all)
  subst hp0
  exact pf_ret (by push_cast [slices_Clone_s_int_int.rs];rfl)
 ·exact pf_ret (by push_cast [slices_Clone_s_int_int.rs];rfl)
def minL (x:Int) (l:List Int):Int:=l.foldl (fun a b=>if b < a then b else a) x
theorem leastL_cons (x:Int) (l:List Int):leastL (x :: l) = minL x l:=rfl
theorem minL_snoc (x:Int) (l:List Int) (y:Int):minL x (l++[y]) = if y < minL x l then y else minL x l:=by unfold minL;rw [List.foldl_append];rfl
theorem slices_Min_s (x:Int) (l:List Int) (hl:l.length < 2^40):PF n_slices_Min_s_int_int [encP (x :: l)] (.int .i64 (leastL (x :: l))):=by
 refine pf_of slices_Min_s_int_int.ok rfl ?_
 push_cast
 refine ⟨fun h=>by omega,fun _=>⟨by omega,?_⟩⟩
 refine loop_up (n:=l.length) (R:=fun k=>slices_Min_s_int_int.L3 (encP (x :: l)) (.int .i64 (minL x (l.take k))) (.int .i64 ((k+1:Nat):Int)) 0 [] (Ends 0 slices_Min_s_int_int.rs fun x' H'=>x' = .int .i64 (leastL (x :: l))∧H' = [])) ?_ ?_ 0 (Nat.zero_le _)
 ·intro k hk ih
  refine slices_Min_s_int_int.G3 ?_
  have hlt:((k:Int)+1 < (l.length:Int)+1) = True:=eq_true (by omega)
  have hg:(x :: l).getD (k+1) default = l.getD k default:=by simp [List.getD_eq_getElem?_getD]
  have ht:((k:Int)+1).toNat = k+1:=by omega
  have hw:IntKind.i64.wrap ((k:Int)+1+1) = (k:Int)+1+1:=wrap64 (by omega) (by omega)
  rw [take_succ_getD hk,minL_snoc] at ih
  generalize hy:l.getD k default = y at hg ih
  generalize minL x (l.take k) = m at ih ⊢
  push_cast [hlt,ht,hg,hw]
  push_cast at ih
  exact ⟨by omega,ih⟩
 ·refine slices_Min_s_int_int.G3 ?_
  have hlt:((l.length:Int)+1 < (l.length:Int)+1) = False:=eq_false (by omega)
  push_cast [hlt,List.take_length]
  exact pf_ret (by push_cast [slices_Min_s_int_int.rs,leastL_cons])
theorem sl_zeros {σ:Nat→Option Nat} (n:Nat):V.sl 1 (List.map (rens σ) (List.replicate n [V.int .i64 0])) = encP (List.replicate n 0):=by
 simp [encL,cI,List.map_replicate,rens,ren]
def liftE (r:List ARule) (c:AChain):List (List Int) × Int :=
 if checkSystem r ≠ 0 then ([],checkSystem r) else if r.all strR = false then ([],4) else if (chainE r c).2 ≠ 0 then ([],(chainE r c).2) else if (wordT c.start).2.args ≠ [] then ([],4) else (liftL r (List.replicate (wordT c.start).1.length 0) c.steps,0)
theorem bounds_Lift_s (r:List ARule) (c:AChain) (hr:rbs r < 2^28) (hc:tb c.start < 2^28) (hl:c.steps.length < 2^40) (hp:∀ s∈c.steps,s.pos.length < 2^40) :
  PF n_bounds_Lift [encRs r,encC c] (.tup [encPs (liftE r c).1,.int .i64 (liftE r c).2]):=by
 refine pf_of bounds_Lift.ok rfl ?_
 push_cast
 refine .of (bounds_system_s r (by omega)) ?_
 generalize hT:liftE r c = T
 unfold liftE at hT
 unfold systemE
 by_cases h1:¬ checkSystem r = 0
 ·rw [if_pos h1] at hT ⊢
  subst hT
  push_cast [eq_false h1]
  exact pf_ret (by push_cast [bounds_Lift.rs];rfl)
 have h1:checkSystem r = 0:=Classical.not_not.1 h1
 rw [if_neg (by simpa using h1)] at hT ⊢
 cases h2:r.all strR with
 | false =>
  rw [h2,if_pos rfl] at hT
  subst hT
  push_cast
  exact pf_ret (by push_cast [bounds_Lift.rs];rfl)
 | true =>
 rw [h2,if_neg (by simp)] at hT
 push_cast
 have hrs:∀ x∈r,short x.right = true:=fun x hx=>(checkSystem_good h1 x hx).2.1
 refine .of (derive_Run_s r c hr hrs hc hl hp) ?_
 by_cases h3:¬ (chainE r c).2 = 0
 ·rw [if_pos h3] at hT
  subst hT
  push_cast [eq_false h3]
  exact pf_ret (by push_cast [bounds_Lift.rs];rfl)
 have h3:(chainE r c).2 = 0:=Classical.not_not.1 h3
 rw [if_neg (by simpa using h3)] at hT
 push_cast [h3]
 refine .of (bounds_word_s c.start (by have:=size_le_tb c.start;omega)) ?_
 push_cast
 by_cases h4:(wordT c.start).2.args = []
 ·rw [if_neg (by simpa using h4)] at hT
  have hst:=size_le_tb c.start
  have hwl:=wordT_len _ c.start (Nat.le_refl _)
  have hme:maxEls = 140737488355328:=rfl
  push_cast [h4,sl_zeros]
  refine ⟨⟨by omega,by omega⟩,by simp,?_⟩
  refine .of (slices_Clone_int_p _ (by simp;omega)) ?_
  push_cast
  have hgc:good c.start:=by
   have hck:check c.start = 0:=by
    unfold chainE at h3
    split at h3
    ·cases h3
    ·split at h3
     ·rename_i hh;exact absurd h3 hh
     ·rename_i hh;exact Classical.not_not.1 hh
   exact check_good hck
  have h0:(runE r c.start c.steps).2 = 0:=by
   unfold chainE at h3
   split at h3
   ·cases h3
   ·split at h3
    ·rename_i hh;exact absurd h3 hh
    ·unfold addE at h3
     split at h3
     ·assumption
     ·rename_i hh;exact absurd h3 hh
  have hqq:r.all strQ = true:=by rw [← strR_Q h1];exact h2
  have hrl:=length_le_rbs r
  generalize hl0:liftL r (List.replicate (wordT c.start).1.length 0) c.steps = L0 at hT
  rw [show (V.own 2 1 [[encP (List.replicate (wordT c.start).1.length 0)]]:V) = ownL cPp 2 1 ([]++[List.replicate (wordT c.start).1.length 0]) from rfl]
  refine loop_up (n:=c.steps.length) (R:=fun k=>∀ (now:List Int) (pre:List (List Int)) (t:Term),now.length = (wordT t).1.length→good t→(runE r t (c.steps.drop k)).2 = 0→(wordT t).2.args = []→pre.length = k→(∀ h∈now,0≤h∧h≤(k:Int))→pre++liftL r now (c.steps.drop k) = L0 →
   bounds_Lift.L3 (encRls (r.map toRl)) (encP now) (ownL cPp 2 1 (pre++[now])) (encSts c.steps) (.int .i64 c.steps.length) (.int .i64 k) 0 [.dead,.dead,.arr t_s_int 1 (k+1)] (Ends 0 bounds_Lift.rs fun x' H'=>x' = .tup [encPs T.1,.int .i64 T.2]∧H' = [])) ?_ ?_ 0 (Nat.zero_le _) _ [] c.start (by simp) hgc h0 h4 rfl (fun h hh=>by rw [List.eq_of_mem_replicate hh];omega) (by simpa using hl0)
  ·intro k hk ih now pre t hlen hg h0 hargs hpre hb hq
   rw [drop_getD hk] at h0 hq
   have hm:=getD_mem hk
   generalize hs:c.steps.getD k default = s at hm h0 hq
   cases hd:doE r t s with
   | mk o e =>
   cases o with
   | none =>
    rw [runE_none hd] at h0
    exact absurd h0 (doE_none hd)
   | some u =>
   rw [runE_some hd] at h0
   have h0:(runE r u (c.steps.drop (k+1))).2 = 0:=by
    unfold addE at h0
    split at h0
    ·assumption
    ·rename_i hh;exact absurd h0 hh
   have hgu:=(doE_good hrs hg.1 hd).1
   obtain ⟨hx,hrng,A,B,hA,e1,e2,e3⟩:=doE_word2 hqq hargs hd
   have hpm:=hp s hm
   simp only [liftL] at hq
   have hget:(r.map toRl).getD s.rule.toNat default = toRl (r.getD s.rule.toNat default):=by
    have:s.rule.toNat < r.length:=by omega
    simp [List.getD_eq_getElem?_getD,this]
   have hln:=word_nil (checkSystem_nv h1 _ hx) (by have:=List.all_eq_true.1 h2 _ hx;unfold strR at this;rw [Bool.and_eq_true] at this;exact this.1)
   generalize r.getD s.rule.toNat default = x at hx hq e1 e2 hget hln
   have hx1:(toRl x).left = (wordT x.left).1:=rfl
   have hx2:(toRl x).right = (wordT x.right).1:=rfl
   generalize (wordT x.left).1 = lw at *
   generalize (wordT x.right).1 = rw' at *
   have hl1:now.length = s.pos.length+lw.length+B.length:=by rw [hlen,e1];simp [hA];omega
   have hl2:(wordT u).1.length = s.pos.length+rw'.length+B.length:=by rw [e2];simp [hA];omega
   have hsz:=wordT_len _ t (Nat.le_refl _)
   have hszu:=wordT_len _ u (Nat.le_refl _)
   have hg2:=hg.2
   have hgu2:=hgu.2
   have hlw:0 < lw.length:=List.length_pos_iff.2 hln
   refine bounds_Lift.G3 ?_
   have hrl1:s.rule < ((r.map toRl).length:Int):=by simp;omega
   have hw1:IntKind.i64.wrap ((s.pos.length:Int)+(lw.length:Int)) = (s.pos.length:Int)+(lw.length:Int):=wrap64 (by omega) (by omega)
   have hn1:((s.pos.length:Int)+(lw.length:Int)).toNat = s.pos.length+lw.length:=by omega
   have hn2:((s.pos.length:Int)).toNat = s.pos.length:=by omega
   have hc1:((0:Int)≤(s.pos.length:Int)+(lw.length:Int)) = True:=eq_true (by omega)
   have hc2:(s.pos.length≤s.pos.length+lw.length) = True:=eq_true (by omega)
   have hc3:(s.pos.length+lw.length≤now.length) = True:=eq_true (by omega)
   have hc4:(s.pos.length≤now.length) = True:=eq_true (by omega)
   obtain ⟨y,ys,hys⟩:∃ y ys,(now.drop s.pos.length).take lw.length = y :: ys:=by
    cases hl:(now.drop s.pos.length).take lw.length with
    | cons y ys=>exact ⟨y,ys,rfl⟩
    | nil=>have h9:=congrArg List.length hl;rw [List.length_take,List.length_drop,List.length_nil] at h9;omega
   have hyl:(y :: ys).length≤now.length:=by have:=congrArg List.length hys;rw [List.length_take,List.length_drop] at this;omega
   have hst:hStep now s.pos.length lw.length rw'.length = now.take s.pos.length++List.replicate rw'.length (leastL (y :: ys)+1)++now.drop (s.pos.length+lw.length):=by unfold hStep;rw [hys]
   rw [hst] at hq
   push_cast [ilt hk,hs,hget,hx1,hx2,hrl1,hrng.1,hw1,hn1,hn2,hc1,hc2,hc3,hc4,Nat.add_sub_cancel_left,hys]
   refine .of (slices_Min_s y ys (by rw [List.length_cons] at hyl;omega)) ?_
   have hmem:leastL (y :: ys)∈y :: ys:=(foldl_least ys y).1
   have hbl:=hb (leastL (y :: ys)) (List.mem_of_mem_drop (List.mem_of_mem_take (l:=now.drop s.pos.length) (i:=lw.length) (by rw [hys];exact hmem)))
   generalize hm0:leastL (y :: ys) = m0 at hq hbl
   have hw2:IntKind.i64.wrap (m0+1) = m0+1:=wrap64 (by omega) (by omega)
   push_cast [hw1,hw2,hn1,hn2,hc1,hc2,hc3,hc4,hx1,hx2]
   refine ⟨Nat.zero_le _,?_⟩
   refine .of (slices_Repeat_one_s (m0+1) rw'.length (by omega)) ?_
   have htl:(now.drop (s.pos.length+lw.length)).take (now.length - (s.pos.length+lw.length)) = now.drop (s.pos.length+lw.length):=List.take_of_length_le (by simp)
   push_cast [hw1,hw2,hn1,hn2,hc1,hc2,hc3,hc4,hx1,hx2,Nat.sub_zero,List.drop_zero,htl]
   have hfl:[now.take s.pos.length,List.replicate rw'.length (m0+1),now.drop (s.pos.length+lw.length)].flatten = now.take s.pos.length++List.replicate rw'.length (m0+1)++now.drop (s.pos.length+lw.length):=by simp
   have hfl2:(now.take s.pos.length++List.replicate rw'.length (m0+1)++now.drop (s.pos.length+lw.length)).length = (wordT u).1.length:=by simp;omega
   refine .of (slices_Concat_s [now.take s.pos.length,List.replicate rw'.length (m0+1),now.drop (s.pos.length+lw.length)] (by simp) (by rw [hfl,hfl2];omega)) ?_
   rw [hfl]
   have hb2:∀ h∈now.take s.pos.length++List.replicate rw'.length (m0+1)++now.drop (s.pos.length+lw.length),0≤h∧h≤((k+1:Nat):Int):=fun h hh=>by
    rcases List.mem_append.1 hh with hh | hh
    ·rcases List.mem_append.1 hh with hh | hh
     ·have:=hb h (List.mem_of_mem_take hh);omega
     ·rw [List.eq_of_mem_replicate hh];omega
    ·have:=hb h (List.mem_of_mem_drop hh);omega
   generalize now.take s.pos.length++List.replicate rw'.length (m0+1)++now.drop (s.pos.length+lw.length) = now' at hq hfl2 hb2 ⊢
   push_cast
   refine .of (slices_Clone_int_p _ (by omega)) ?_
   push_cast [w64 (show k < 2^62 by omega)]
   refine ⟨⟨hpre.symm,by omega⟩,?_⟩
   have:=ih now' (pre++[now]) u hfl2 hgu h0 e3 (by simp [hpre]) hb2 (by rw [List.append_assoc];exact hq)
   push_cast at this
   rw [own_pos,hpre,show pre++[now]++[now'] = pre++[now,now'] by simp]
   exact this
  ·intro now pre t hlen hg h0 hargs hpre hb hq
   rw [drop_map_none] at hq
   refine bounds_Lift.G3 ?_
   push_cast [inlt (Nat.le_refl _)]
   refine pf_ret ?_
   push_cast [bounds_Lift.rs,← hT]
   rw [← hq];rfl
 ·rw [if_pos h4] at hT
  have h4i:(0 < ((wordT c.start).2.args.length:Int)) = True:=eq_true (by have:=List.length_pos_iff.2 h4;omega)
  subst hT
  push_cast [h4i]
  exact pf_ret (by push_cast [bounds_Lift.rs];rfl)
end Go.Dw
end
section
namespace Go.Dw
theorem r24_Text_s (t:Term) (hs:size t < 2^40):PF n_r24_Text [encT t] (.bool (decide ((wordT t).2.args.length = 0))):=by
 refine pf_of r24_Text.ok rfl ?_
 push_cast
 refine .of (r24_Word_s t hs) ?_
 push_cast
 exact pf_ret (by push_cast [r24_Text.rs];simp)
theorem lenB_ok {r:List ARule} {a:AAut} {n:Int} (h:(lenB r a n).2 = 0):∃ v:Nat,lenB r a n = ((v:Int),0):=by
 unfold lenB at h ⊢
 split at h
 ·rename_i hc;exact absurd h hc
 ·rename_i hc
  rw [if_neg hc]
  split at h
  ·cases h
  ·rename_i hd
   rw [if_neg hd]
   generalize (if n = 0 then some 0 else lenP (longM (r.map fun x=>(wordT x.right).1)) n.toNat a.bound.toNat 1) = o at h ⊢
   cases o with
   | none=>cases h
   | some v=>exact ⟨v,rfl⟩
set_option maxHeartbeats 2000000 in
theorem BoundsShort_s (r:List ARule) (a:AAut) (c:AChain) (hs:Sz r a) (hc:tb c.start < 2^28) (hl:c.steps.length < 2^40) (hp:∀ s∈c.steps,s.pos.length < 2^40) :
  SpecE prog n_l24_BoundsShort [encRs r,encAu a,encC c] [] (fun x' H'=>x' = .bool true∧H' = []):=by
 have hsz:=size_le_tb c.start
 refine spece_of_run mixed l24_BoundsShort.ok rfl ?_
 push_cast
 refine .of (bounds_Check_s r a hs) ?_
 by_cases c1:checkB r a = 0
 ·push_cast [c1]
  refine .of (r05_Check_s r c hs.r hc hl hp) ?_
  by_cases c2:(termsE r c).2 = 0
  ·push_cast [c2]
   refine .of (r24_Text_s c.start (by omega)) ?_
   by_cases c3:(wordT c.start).2.args.length = 0
   ·push_cast [c3]
    refine .of (r24_Word_s c.start (by omega)) ?_
    push_cast
    refine .of (bounds_Length_s r a _ hs) ?_
    by_cases c4:(lenB r a (wordT c.start).1.length).2 = 0
    ·obtain ⟨v,hv⟩:=lenB_ok c4
     have:=short_law c1 c2 (List.length_eq_zero_iff.1 c3) hv
     rw [hv]
     have hwr:IntKind.u64.wrap (c.steps.length:Int) = c.steps.length:=wrapU (by omega) (by omega)
     have hle:((c.steps.length:Int)≤(v:Int)) = True:=eq_true (by omega)
     push_cast [hwr,hle]
     refine .of alive24 ?_
     push_cast
     exact pf_ret (by push_cast [l24_BoundsShort.rs])
    ·push_cast [c4]
     refine .of alive24 ?_
     push_cast
     exact pf_ret (by push_cast [l24_BoundsShort.rs])
   ·push_cast [c3]
    refine .of alive24 ?_
    push_cast
    exact pf_ret (by push_cast [l24_BoundsShort.rs])
  ·push_cast [c2]
   refine .of alive24 ?_
   push_cast
   exact pf_ret (by push_cast [l24_BoundsShort.rs])
 ·push_cast [c1]
  refine .of alive24 ?_
  push_cast
  exact pf_ret (by push_cast [l24_BoundsShort.rs])
end Go.Dw
end
section
namespace Go.Dw
theorem termsE_chain {r:List ARule} (h:checkSystem r = 0) (c:AChain):(termsE r c).2 = (chainE r c).2:=by
 unfold termsE;rw [if_neg (by simpa using h)]
theorem chain_start {r:List ARule} {c:AChain} (h3:(chainE r c).2 = 0):check c.start = 0∧(runE r c.start c.steps).2 = 0:=by
 unfold chainE at h3
 split at h3
 ·cases h3
 ·split at h3
  ·rename_i hh;exact absurd h3 hh
  ·rename_i hh
   refine ⟨Classical.not_not.1 hh,?_⟩
   unfold addE at h3
   split at h3
   ·assumption
   ·rename_i hh;exact absurd h3 hh
end Go.Dw
end
section
namespace Go.Dw
theorem lift_small {r:List ARule} {c:AChain} (hc:tb c.start < 2^28) (hl:c.steps.length < 2^40):(liftE r c).1.length < 2^41:=by
 have hL:∀ (l:List AStep) (now:List Int),(liftL r now l).length = l.length+1:=by
  intro l
  induction l with
  | nil=>intro now;rfl
  | cons s l ih=>intro now;simp only [liftL,List.length_cons,ih]
 unfold liftE
 split
 ·simp
 ·split
  ·simp
  ·split
   ·simp
   ·split
    ·simp
    ·simp only [hL];omega
theorem liftL_len {r:List ARule} (h1:checkSystem r = 0) (h2:r.all strQ = true):∀ (l:List AStep) (t:Term) (now:List Int),good t→(wordT t).2.args = []→(runE r t l).2 = 0→now.length = (wordT t).1.length→∀ p∈liftL r now l,p.length < 2^40
 | [],t,now,hg,_,_,hn,p,hp=>by
  rw [List.mem_singleton.1 hp]
  have:=wordT_len _ t (Nat.le_refl _)
  have:=hg.2
  omega
 | s :: l,t,now,hg,ht,h0,hn,p,hp=>by
  have hsz:=wordT_len _ t (Nat.le_refl _)
  have hg2:=hg.2
  rcases List.mem_cons.1 hp with rfl | hp
  ·omega
  ·cases hd:doE r t s with
   | mk o e =>
   cases o with
   | none=>rw [runE_none hd] at h0;exact absurd h0 (doE_none hd)
   | some u =>
    rw [runE_some hd] at h0
    have h0:(runE r u l).2 = 0:=by
     unfold addE at h0
     split at h0
     ·assumption
     ·rename_i hh;exact absurd h0 hh
    have hgu:=(doE_good (fun x hx=>(checkSystem_good h1 x hx).2.1) hg.1 hd).1
    obtain ⟨hx,hrng,A,B,hA,e1,e2,e3⟩:=doE_word2 h2 ht hd
    refine liftL_len h1 h2 l u _ hgu e3 h0 ?_ p hp
    rw [e2]
    unfold hStep
    rw [e1] at hn
    simp only [List.length_append] at hn ⊢
    rw [List.length_take,List.length_drop,List.length_replicate]
    omega
theorem lift_short {r:List ARule} {c:AChain}:∀ p∈(liftE r c).1,p.length < 2^40:=by
 intro p hp
 unfold liftE at hp
 split at hp
 ·cases hp
 ·rename_i h1
  split at hp
  ·cases hp
  ·rename_i h2
   split at hp
   ·cases hp
   ·rename_i h3
    split at hp
    ·cases hp
    ·rename_i h4
     have h1:=Classical.not_not.1 h1
     obtain ⟨k1,k2⟩:=chain_start (Classical.not_not.1 h3)
     exact liftL_len h1 (by rw [← strR_Q h1];simpa using h2) c.steps c.start _ (check_good k1) (Classical.not_not.1 h4) k2 (by simp) p hp
theorem lift_bound {r:List ARule} {a:AAut} {c:AChain} (hck:checkB r a = 0) (h0:(liftE r c).2 = 0):∀ hs∈(liftE r c).1,∀ h∈hs,h≤a.bound:=by
 obtain ⟨c1,c2,c3,c4,c5⟩:=checkB_ok hck
 unfold liftE at h0 ⊢
 rw [if_neg (by simpa using c1)] at h0 ⊢
 split at h0
 ·cases h0
 ·rename_i h2
  rw [if_neg h2]
  split at h0
  ·rename_i h3;exact absurd h0 h3
  ·rename_i h3
   rw [if_neg h3]
   split at h0
   ·cases h0
   ·rename_i h4
    rw [if_neg h4]
    exact heights_law hck (by rw [termsE_chain c1];exact Classical.not_not.1 h3) (Classical.not_not.1 h4)
theorem BoundsHeights_p (r:List ARule) (a:AAut) (c:AChain) (hs:Sz r a) (hc:tb c.start < 2^28) (hl:c.steps.length < 2^40) (hp:∀ s∈c.steps,s.pos.length < 2^40) :
  SpecE prog n_l24_BoundsHeights [encRs r,encAu a,encC c] [] (fun x' H'=>x' = .bool true∧H' = []):=by
 refine spece_of_run mixed l24_BoundsHeights.ok rfl ?_
 push_cast
 refine .of (bounds_Check_s r a hs) ?_
 by_cases c1:checkB r a = 0
 ·push_cast [c1]
  refine .of (bounds_Lift_s r c hs.r hc hl hp) ?_
  by_cases c2:(liftE r c).2 = 0
  ·have hlaw:=lift_bound c1 c2
   have hsm:=lift_small (r:=r) hc hl
   have hsh:=lift_short (r:=r) (c:=c)
   generalize (liftE r c).1 = L at hlaw hsm hsh ⊢
   push_cast [c2]
   refine loop_up (n:=L.length) (R:=fun k=>l24_BoundsHeights.L6 (.ro (cAu a) 0) (encPs L) (.int .i64 L.length) (.int .i64 k) 0 [] (Ends 0 l24_BoundsHeights.rs fun x' H'=>x' = .bool true∧H' = [])) ?_ ?_ 0 (Nat.zero_le _)
   ·intro k hk ih
    refine l24_BoundsHeights.G6 ?_
    have hm:=hsh _ (getD_mem hk)
    have hm2:=hlaw _ (getD_mem hk)
    generalize hx:L.getD k default = p at hm hm2
    push_cast [ilt hk,hx]
    refine loop_up (n:=p.length) (R:=fun j=>l24_BoundsHeights.L4 (.ro (cAu a) 0) (encPs L) (.int .i64 L.length) (.int .i64 k) (encP p) (.int .i64 p.length) (.int .i64 j) 0 [] (Ends 0 l24_BoundsHeights.rs fun x' H'=>x' = .bool true∧H' = [])) ?_ ?_ 0 (Nat.zero_le _)
    ·intro j hj ih2
     refine l24_BoundsHeights.G4 ?_
     have hm3:=hm2 _ (getD_mem hj)
     generalize hy:p.getD j default = y at hm3
     have hcy:(a.bound < y) = False:=eq_false (by omega)
     push_cast [ilt hj,hy,hcy,w64 (show j < 2^62 by omega)]
     exact ih2
    ·refine l24_BoundsHeights.G4 ?_
     push_cast [inlt (Nat.le_refl _),w64 (show k < 2^62 by omega)]
     exact ih
   ·refine l24_BoundsHeights.G6 ?_
    push_cast [inlt (Nat.le_refl _)]
    refine .of alive24 ?_
    push_cast
    exact pf_ret (by push_cast [l24_BoundsHeights.rs])
  ·push_cast [c2]
   refine .of alive24 ?_
   push_cast
   exact pf_ret (by push_cast [l24_BoundsHeights.rs])
 ·push_cast [c1]
  refine .of alive24 ?_
  push_cast
  exact pf_ret (by push_cast [l24_BoundsHeights.rs])
end Go.Dw
end
section
namespace Go.Dw
theorem findB_law {r:List ARule} {bound states:Int} (hr:rbs r < 2^28):(findB r bound states).2 ≠ 0 ∨ Sz r (findB r bound states).1:=by
 by_cases h1:(systemE r).2 = 0
 ·by_cases h2:bound < 0 ∨ 16 < bound ∨ states < 1 ∨ 256 < states
  ·left
   unfold findB
   rw [if_neg (by simpa using h1),if_pos h2];simp
  ·rcases findB_ok (r:=r) (bound:=bound) (states:=states) h1 (by omega) (by omega) with h | ⟨k1,k2,k3,k4,k5⟩
   ·left;rw [h];simp
   ·right
    have hfo:=(checkB_ok k4).2.2.1
    exact ⟨hr,by have:=hfo.len;omega,fun x hx=>by
     have:=sys_name hr x.name (k5.nm x hx)
     omega⟩
 ·left
  unfold findB
  rw [if_pos h1];exact h1
theorem BoundsEnds_s (r:List ARule) (bound states:Int) (c:AChain) (hr:rbs r < 2^28) (hc:tb c.start < 2^28) (hl:c.steps.length < 2^40) (hp:∀ s∈c.steps,s.pos.length < 2^40) :
  SpecE prog n_l24_BoundsEnds [encRs r,.int .i64 bound,.int .i64 states,encC c] [] (fun x' H'=>x' = .bool true∧H' = []):=by
 refine spece_of_run mixed l24_BoundsEnds.ok rfl ?_
 push_cast
 by_cases h0:40 < states
 ·push_cast [eq_true h0]
  exact pf_ret (by push_cast [l24_BoundsEnds.rs])
 push_cast [eq_false h0]
 refine .of (bounds_Find_s r bound states hr) ?_
 have hlaw:=findB_law (bound:=bound) (states:=states) hr
 generalize findB r bound states = F at hlaw ⊢
 obtain ⟨a,e⟩:=F
 have hfv:findV (a,e) = .tup [encAu a,.int .i64 e]:=rfl
 rw [hfv]
 by_cases he:e = 0
 ·subst he
  have hsz:Sz r a:=hlaw.resolve_left (by simp)
  push_cast
  refine .of ((BoundsHeights_p r a c hsz hc hl hp).spec) ?_
  push_cast
  refine .of ((BoundsShort_s r a c hsz hc hl hp).spec) ?_
  push_cast
  exact pf_ret (by push_cast [l24_BoundsEnds.rs])
 ·push_cast [eq_false he]
  refine .of alive24 ?_
  push_cast
  exact pf_ret (by push_cast [l24_BoundsEnds.rs])
end Go.Dw
end
section
namespace Go.Dw
open Go.Proofs.YtobangnijcppaaaGreat
theorem pos_of {c:AChain} (hc:tb c.start+sumB (fun s:AStep=>s.pos.length+1) c.steps < 2^28):∀ s∈c.steps,s.pos.length < 2^40:=fun s hs=>by
 have:=sum_mem (b:=fun s:AStep=>s.pos.length+1) hs
 try dsimp only at this
 omega
theorem BoundsEnds_t (r:List ARule) (bound states:Int) (c:AChain) (hr:rbs r < 2^28) (hc:tb c.start+sumB (fun s:AStep=>s.pos.length+1) c.steps < 2^28) :
  SpecE prog n_l24_BoundsEnds [encRs r,.int .i64 bound,.int .i64 states,encC c] [] (fun x' H'=>x' = .bool true∧H' = []) :=
 BoundsEnds_s r bound states c hr (by omega) (by have:=sum_steps c.steps;omega) (pos_of hc)
end Go.Dw
end
