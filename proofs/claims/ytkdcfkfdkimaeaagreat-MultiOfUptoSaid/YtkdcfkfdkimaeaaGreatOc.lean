/-
  Contracts and lemmas for MultiOf: part c of 9.
-/
import Derived.Orders
import Derived.Test.YtkdcfkfdkimaeaaGreatOb
import Derived.RangeFuncIn
import Derived.RangeFuncRecord
import Derived.Test.YtkdcfkfdkimaeaaGreatProg
set_option linter.unusedVariables false
set_option linter.unusedSimpArgs false
set_option maxRecDepth 100000
section
namespace Go.Dw
def consO:Option (Nat × V)→T→T
 | some p,t=>p :: t
 | none,t=>t
def rdO:O→List Nat
 | .s n=>[n]
 | _=>[]
def rdOo:Option O→List Nat
 | some x=>rdO x
 | none=>[]
def rdP:List (Nat × Nat × O)→List Nat
 | []=>[]
 | (_,_,x) :: l=>rdO x++rdP l
def rdL:List O→List Nat
 | []=>[]
 | x :: l=>rdO x++rdL l
def rdI:I→List Nat
 | .mv _ x | .bx _ _ x | .br _ _ x | .ldr _ x | .lar _ _ x | .far _ _ x | .ld _ x | .la _ _ x | .fa _ _ x | .nc _ x | .fd _ _ _ x | .un _ _ x | .cvi _ _ x | .cvs _ x | .s2b _ x | .b2s _ x | .len _ x | .lens _ x | .ex _ x _=>rdO x
 | .pick _ c a b=>rdO c++rdO a++rdO b
 | .al .. | .mkm ..=>[]
 | .mk _ _ _ _ _ x=>rdO x
 | .rg _ x | .en _ x=>rdO x
 | .lkp _ _ _ _ m k=>rdO m++rdO k
 | .mup _ m k x=>rdO m++rdO k++rdO x
 | .muq _ m k x=>rdO m++rdO k++rdO x
 | .eqs _ _ _ x y=>rdO x++rdO y
 | .apz _ _ _ _ k y=>k :: rdO y
 | .sf d _ x=>d :: rdO x
 | .st _ a x=>rdO a++rdO x
 | .bd _ _ ps=>rdP ps
 | .bs _ _ xs | .bo _ _ _ xs=>rdL xs
 | .bin _ _ x y | .bb _ _ x y | .sh _ _ x y | .ia _ _ x y | .ix _ x y | .ixa _ _ _ _ x y | .app _ _ _ _ x y | .apr _ _ _ _ x y | .mx _ x y | .mn _ x y=>rdO x++rdO y
 | .mf _ _ f c=>rdL f++rdL c
 | .sx _ _ x lo hi | .sxs _ x lo hi=>rdO x++rdOo lo++rdOo hi
 | .noz .. | .kt .. | .kk .. | .non .. | .ono .. | .ks .. | .rnon .. | .rono .. | .frz .. | .e2r .. | .frc ..=>[]
def dstI:I→Option Nat
 | .mv d _ | .bx d _ _ | .br d _ _ | .ldr d _ | .lar d _ _ | .far d _ _ | .ld d _ | .la d _ _ | .fa d _ _ | .nc d _ | .fd d _ _ _ | .un d _ _ | .cvi d _ _ | .cvs d _ | .s2b d _ | .b2s d _ | .len d _ | .lens d _ | .ex d _ _
 | .pick d _ _ _ | .al d _ _ | .sf d _ _ | .bd d _ _ | .bs d _ _ | .bo d _ _ _ | .bin d _ _ _ | .bb d _ _ _ | .sh d _ _ _ | .ia d _ _ _ | .ix d _ _ | .ixa d _ _ _ _ _ | .app d _ _ _ _ _ | .apr d _ _ _ _ _ | .mx d _ _ | .mn d _ _
 | .mk d _ _ _ _ _ | .mkm d | .rg d _ | .en d _ | .lkp d _ _ _ _ _ | .eqs d _ _ _ _ | .apz d _ _ _ _ _=>some d
 | .mup .. | .muq ..=>none
 | .mf d _ _ _ | .sx d _ _ _ _ | .sxs d _ _ _=>some d
 | .st ..=>none
 | .noz .. | .kt .. | .kk .. | .non .. | .ono .. | .ks .. | .rnon .. | .rono .. | .frz .. | .e2r .. | .frc ..=>none
def pureI:I→Bool
 | .ldr .. | .lar .. | .far .. | .mv .. | .br .. | .fd .. | .un .. | .cvi .. | .cvs .. | .s2b .. | .b2s .. | .len .. | .lens .. | .ex .. | .pick .. | .bd .. | .bs .. | .bin .. | .eqs .. | .bb .. | .sh .. | .ia .. | .ix .. | .ixa .. | .mx .. | .mn .. | .mf .. | .sx .. | .sxs ..=>true
 | _=>false
def readI:I→Bool
 | .ld .. | .la .. | .fa .. | .nc .. | .lkp ..=>true
 | i=>pureI i
def weakI:I→Bool
 | .fa .. | .nc ..=>true
 | _=>false
def keepI:I→Bool
 | .st .. | .app .. | .apr ..=>true
 | _=>false
def allocI:I→Bool
 | .al .. | .bx .. | .mkm .. | .mk .. | .bo ..=>true
 | _=>false
def appI:I→Bool
 | .app ..=>true
 | _=>false
theorem ev_ag {t t2:T} {x:O} (h:∀ n∈rdO x,lk t n = lk t2 n):ev t2 x = ev t x:=by
 cases x <;> simp only [rdO,ev,List.mem_singleton] at h ⊢
 exact (h _ rfl).symm
theorem map_ag {t t2:T}:∀ {xs:List O},(∀ n∈rdL xs,lk t n = lk t2 n)→xs.map (ev t2) = xs.map (ev t)
 | [],_=>rfl
 | x :: xs,h=>by
  simp only [List.map_cons]
  rw [ev_ag fun n hn=>h n (by simp only [rdL,List.mem_append];exact .inl hn),map_ag fun n hn=>h n (by simp only [rdL,List.mem_append];exact .inr hn)]
theorem omap_ag {t t2:T}:∀ {x:Option O},(∀ n∈rdOo x,lk t n = lk t2 n)→x.map (ev t2) = x.map (ev t)
 | none,_=>rfl
 | some x,h=>by simp only [Option.map_some];rw [ev_ag h]
theorem bdV_ag {t t2:T}:∀ {ps:List (Nat × Nat × O)} {z:List V},(∀ n∈rdP ps,lk t n = lk t2 n)→bdV t2 ps z = bdV t ps z
 | [],_,_=>rfl
 | (o,k,x) :: ps,z,h=>by
  simp only [bdV]
  rw [ev_ag fun n hn=>h n (by simp only [rdP,List.mem_append];exact .inl hn)]
  split
  ·split
   ·exact bdV_ag fun n hn=>h n (by simp only [rdP,List.mem_append];exact .inr hn)
   ·rfl
  ·rfl
theorem bsV_ag {t t2:T} {sz:Nat}:∀ {xs:List O},(∀ n∈rdL xs,lk t n = lk t2 n)→bsV t2 sz xs = bsV t sz xs
 | [],_=>rfl
 | x :: xs,h=>by
  simp only [bsV]
  rw [ev_ag fun n hn=>h n (by simp only [rdL,List.mem_append];exact .inl hn),bsV_ag fun n hn=>h n (by simp only [rdL,List.mem_append];exact .inr hn)]
theorem set1_ag {d:Nat} {o:Option V} {t t':T} {H H':List Ob} (h:set1 d o t H = some (t',H')):∃ v,o = some v∧t' = (d,v) :: t∧H' = H:=by
 unfold set1 at h
 split at h
 ·cases h;exact ⟨_,rfl,rfl,rfl⟩
 ·cases h
theorem exec_ag {B:Nat} {i:I} {t t':T} {H H':List Ob} (hg:ghost i = false) (h:exec B i t H = some (t',H')) :
  ∃ b:Option (Nat × V),t' = consO b t∧b.map (·.1) = dstI i∧∀ B2 t2,(∀ n∈rdI i,lk t n = lk t2 n)→exec B2 i t2 H = some (consO b t2,H'):=by
 cases i <;> simp only [ghost,Bool.true_eq_false,reduceCtorEq] at hg <;> simp only [exec] at h
 case mv=>cases h;exact ⟨some _,rfl,rfl,fun B2 t2 hag=>by simp only [exec,ev_ag hag,consO]⟩
 case al=>cases h;exact ⟨some _,rfl,rfl,fun B2 t2 hag=>by simp only [exec,consO]⟩
 case mf =>
  cases h
  refine ⟨some _,rfl,rfl,fun B2 t2 hag=>?_⟩
  simp only [rdI,List.mem_append] at hag
  simp only [exec,map_ag fun n hn=>hag n (.inl hn),map_ag fun n hn=>hag n (.inr hn),consO]
 case mkm=>cases h;exact ⟨some _,rfl,rfl,fun B2 t2 hag=>by simp only [exec,consO]⟩
 case mk d e sz bytes z x =>
  split at h
  case h_2=>cases h
  rename_i k n hev
  split at h
  case isFalse=>cases h
  rename_i hc
  cases h
  refine ⟨some _,rfl,rfl,fun B2 t2 hag=>?_⟩
  simp only [rdI] at hag
  simp only [exec,ev_ag hag,hev,if_pos hc,consO]
 case rg d m =>
  split at h
  case h_2=>cases h
  rename_i i hi
  split at h
  case h_2=>cases h
  rename_i es hes
  cases h
  exact ⟨some _,rfl,rfl,fun B2 t2 hag=>by simp only [exec,ev_ag hag,hi,hes,consO]⟩
 case mup ks m k x =>
  split at h
  case h_2=>cases h
  rename_i i hi
  split at h
  case h_2=>cases h
  rename_i es hes
  split at h
  case isFalse=>cases h
  rename_i hks
  split at h
  case h_2=>cases h
  rename_i es' hu
  cases h
  refine ⟨none,rfl,rfl,fun B2 t2 hag=>?_⟩
  simp only [rdI,List.mem_append] at hag
  simp only [exec,ev_ag fun n hn=>hag n (.inl (.inl hn)),ev_ag fun n hn=>hag n (.inl (.inr hn)),ev_ag fun n hn=>hag n (.inr hn),hi,hes,hks,if_true,hu,consO]
 case muq sh m k x =>
  split at h
  case h_2=>cases h
  rename_i i hi
  split at h
  case h_2=>cases h
  rename_i es hes
  split at h
  case isFalse=>cases h
  rename_i hks
  split at h
  case h_2=>cases h
  rename_i es' hu
  cases h
  refine ⟨none,rfl,rfl,fun B2 t2 hag=>?_⟩
  simp only [rdI,List.mem_append] at hag
  simp only [exec,ev_ag fun n hn=>hag n (.inl (.inl hn)),ev_ag fun n hn=>hag n (.inl (.inr hn)),ev_ag fun n hn=>hag n (.inr hn),hi,hes,hks,if_true,hu,consO]
 case bx =>
  split at h
  ·rename_i cs hc;cases h;exact ⟨some _,rfl,rfl,fun B2 t2 hag=>by simp only [exec,ev_ag hag,hc,consO]⟩
  ·cases h
 case br =>
  split at h
  ·rename_i cs hc;cases h;exact ⟨some _,rfl,rfl,fun B2 t2 hag=>by simp only [exec,ev_ag hag,hc,consO]⟩
  ·cases h
 case cvi =>
  split at h
  ·rename_i cs hc;cases h;exact ⟨some _,rfl,rfl,fun B2 t2 hag=>by simp only [exec,ev_ag hag,hc,consO]⟩
  ·cases h
 case cvs =>
  split at h
  ·rename_i cs hc;cases h;exact ⟨some _,rfl,rfl,fun B2 t2 hag=>by simp only [exec,ev_ag hag,hc,consO]⟩
  ·cases h
 case s2b =>
  split at h
  ·rename_i cs hc
   split at h
   ·rename_i hl;cases h;exact ⟨some _,rfl,rfl,fun B2 t2 hag=>by simp only [exec,ev_ag hag,hc,consO,hl,if_true]⟩
   ·cases h
  ·cases h
 case b2s =>
  split at h
  ·rename_i cs hc
   split at h
   ·rename_i l hl;cases h;exact ⟨some _,rfl,rfl,fun B2 t2 hag=>by simp only [exec,ev_ag hag,hc,consO,hl]⟩
   ·cases h
  ·cases h
 case pick =>
  split at h
  ·rename_i c hc
   cases h
   refine ⟨some _,rfl,rfl,fun B2 t2 hag=>?_⟩
   simp only [rdI,List.mem_append] at hag
   simp only [exec,ev_ag fun n hn=>hag n (.inl (.inl hn)),ev_ag fun n hn=>hag n (.inl (.inr hn)),ev_ag fun n hn=>hag n (.inr hn),hc,consO]
  ·cases h
 case sf d k x =>
  split at h
  case h_2=>cases h
  rename_i i hp
  split at h
  case h_2=>cases h
  rename_i e cs hH
  split at h
  case h_2=>cases h
  rename_i new hn
  split at h
  case isFalse=>cases h
  rename_i hl
  cases h
  refine ⟨some _,rfl,rfl,fun B2 t2 hag=>?_⟩
  simp only [rdI,List.mem_cons] at hag
  simp only [exec,← hag d (.inl rfl),ev_ag fun n hn=>hag n (.inr hn),hp,hH,hn,hl,and_self,if_true,consO]
 case st k x y =>
  split at h
  case h_3=>cases h
  case h_2 =>
   rename_i i n j off hp
   split at h
   case h_2=>cases h
   rename_i e sz els hH
   split at h
   case h_2=>cases h
   rename_i new hn
   split at h
   case isFalse=>cases h
   rename_i hl
   cases h
   refine ⟨none,rfl,rfl,fun B2 t2 hag=>?_⟩
   simp only [rdI,List.mem_append] at hag
   simp only [exec,ev_ag fun n hn=>hag n (.inl hn),ev_ag fun n hn=>hag n (.inr hn),hp,hH,hn]
   rw [if_pos hl];rfl
  rename_i i off hp
  split at h
  case h_2=>cases h
  rename_i e cs hH
  split at h
  case h_2=>cases h
  rename_i new hn
  split at h
  case isFalse=>cases h
  rename_i hl
  cases h
  refine ⟨none,rfl,rfl,fun B2 t2 hag=>?_⟩
  simp only [rdI,List.mem_append] at hag
  simp only [exec,ev_ag fun n hn=>hag n (.inl hn),ev_ag fun n hn=>hag n (.inr hn),hp,hH,hn,hl,and_self,if_true,consO]
 case bo =>
  split at h
  ·rename_i els hc;cases h;exact ⟨some _,rfl,rfl,fun B2 t2 hag=>by simp only [exec,bsV_ag hag,hc,consO]⟩
  ·cases h
 case app =>
  obtain ⟨v,H2,hr,rfl,rfl⟩:=set2_some h
  refine ⟨some _,rfl,rfl,fun B2 t2 hag=>?_⟩
  simp only [rdI,List.mem_append] at hag
  simp only [exec,ev_ag fun n hn=>hag n (.inl hn),ev_ag fun n hn=>hag n (.inr hn),hr,consO,set2]
 case apz d e sz bytes k y =>
  split at h
  ·rename_i hk
   obtain ⟨v,H2,hr,rfl,rfl⟩:=set2_some h
   refine ⟨some _,rfl,rfl,fun B2 t2 hag=>?_⟩
   simp only [rdI] at hag
   simp only [exec,← hag k List.mem_cons_self,hk,ev_ag fun n hn=>hag n (List.mem_cons_of_mem _ hn),hr,consO,set2]
  ·rename_i i0 z0 l0 hk
   obtain ⟨v,H2,hr,rfl,rfl⟩:=set2_some h
   refine ⟨some _,rfl,rfl,fun B2 t2 hag=>?_⟩
   simp only [rdI] at hag
   rw [hk] at hr
   simp only [exec,← hag k List.mem_cons_self,hk,ev_ag fun n hn=>hag n (List.mem_cons_of_mem _ hn),hr,consO,set2]
  ·cases h
 case apr =>
  obtain ⟨v,H2,hr,rfl,rfl⟩:=set2_some h
  refine ⟨some _,rfl,rfl,fun B2 t2 hag=>?_⟩
  simp only [rdI,List.mem_append] at hag
  simp only [exec,ev_ag fun n hn=>hag n (.inl hn),ev_ag fun n hn=>hag n (.inr hn),hr,consO,set2]
 case mx =>
  split at h
  case h_2=>cases h
  rename_i h1 h2
  split at h
  case isFalse=>cases h
  rename_i hk
  cases h
  refine ⟨some _,rfl,rfl,fun B2 t2 hag=>?_⟩
  simp only [rdI,List.mem_append] at hag
  simp only [exec,ev_ag fun n hn=>hag n (.inl hn),ev_ag fun n hn=>hag n (.inr hn),h1,h2,hk,if_true,consO]
 case mn =>
  split at h
  case h_2=>cases h
  rename_i h1 h2
  split at h
  case isFalse=>cases h
  rename_i hk
  cases h
  refine ⟨some _,rfl,rfl,fun B2 t2 hag=>?_⟩
  simp only [rdI,List.mem_append] at hag
  simp only [exec,ev_ag fun n hn=>hag n (.inl hn),ev_ag fun n hn=>hag n (.inr hn),h1,h2,hk,if_true,consO]
 all_goals
  obtain ⟨v,hv,rfl,rfl⟩:=set1_ag h
  refine ⟨some _,rfl,rfl,fun B2 t2 hag=>?_⟩
 case ldr=>simp only [exec,ev_ag hag,hv,set1,consO]
 case lar=>simp only [exec,ev_ag hag,hv,set1,consO]
 case far=>simp only [exec,ev_ag hag,hv,set1,consO]
 case ld=>simp only [exec,ev_ag hag,hv,set1,consO]
 case en=>simp only [exec,ev_ag hag,hv,set1,consO]
 case lkp=>simp only [rdI,List.mem_append] at hag;simp only [exec,ev_ag fun n hn=>hag n (.inl hn),ev_ag fun n hn=>hag n (.inr hn),hv,set1,consO]
 case la=>simp only [exec,ev_ag hag,hv,set1,consO]
 case fa=>simp only [exec,ev_ag hag,hv,set1,consO]
 case nc=>simp only [exec,ev_ag hag,hv,set1,consO]
 case fd=>simp only [exec,ev_ag hag,hv,set1,consO]
 case un=>simp only [exec,ev_ag hag,hv,set1,consO]
 case len=>simp only [exec,ev_ag hag,hv,set1,consO]
 case lens=>simp only [exec,ev_ag hag,hv,set1,consO]
 case ex=>simp only [exec,ev_ag hag,hv,set1,consO]
 case bd=>simp only [exec,bdV_ag hag,hv,set1,consO]
 case bs=>simp only [exec,bsV_ag hag,hv,set1,consO]
 case bin=>simp only [rdI,List.mem_append] at hag;simp only [exec,ev_ag fun n hn=>hag n (.inl hn),ev_ag fun n hn=>hag n (.inr hn),hv,set1,consO]
 case eqs=>simp only [rdI,List.mem_append] at hag;simp only [exec,ev_ag fun n hn=>hag n (.inl hn),ev_ag fun n hn=>hag n (.inr hn),hv,set1,consO]
 case bb=>simp only [rdI,List.mem_append] at hag;simp only [exec,ev_ag fun n hn=>hag n (.inl hn),ev_ag fun n hn=>hag n (.inr hn),hv,set1,consO]
 case sh=>simp only [rdI,List.mem_append] at hag;simp only [exec,ev_ag fun n hn=>hag n (.inl hn),ev_ag fun n hn=>hag n (.inr hn),hv,set1,consO]
 case ia=>simp only [rdI,List.mem_append] at hag;simp only [exec,ev_ag fun n hn=>hag n (.inl hn),ev_ag fun n hn=>hag n (.inr hn),hv,set1,consO]
 case ix=>simp only [rdI,List.mem_append] at hag;simp only [exec,ev_ag fun n hn=>hag n (.inl hn),ev_ag fun n hn=>hag n (.inr hn),hv,set1,consO]
 case ixa=>simp only [rdI,List.mem_append] at hag;simp only [exec,ev_ag fun n hn=>hag n (.inl hn),ev_ag fun n hn=>hag n (.inr hn),hv,set1,consO]
 case sx=>simp only [rdI,List.mem_append] at hag;simp only [exec,ev_ag fun n hn=>hag n (.inl (.inl hn)),omap_ag fun n hn=>hag n (.inl (.inr hn)),omap_ag fun n hn=>hag n (.inr hn),hv,set1,consO]
 case sxs=>simp only [rdI,List.mem_append] at hag;simp only [exec,ev_ag fun n hn=>hag n (.inl (.inl hn)),omap_ag fun n hn=>hag n (.inl (.inr hn)),omap_ag fun n hn=>hag n (.inr hn),hv,set1,consO]
theorem exec_pure {B:Nat} {i:I} {t t':T} {H H':List Ob} (hp:pureI i = true) (h:exec B i t H = some (t',H')):H' = H∧∀ H2,exec B i t H2 = some (t',H2):=by
 cases i <;> simp only [pureI,Bool.false_eq_true] at hp <;> simp only [exec] at h ⊢
 all_goals first
  | (cases h;exact ⟨rfl,fun _=>rfl⟩)
  | (obtain ⟨v,hv,rfl,rfl⟩:=set1_ag h;exact ⟨rfl,fun _=>by simp only [hv,set1]⟩)
  | (repeat' split at h)
 all_goals first
  | (cases h;done)
  | (cases h;exact ⟨rfl,fun _=>by simp only [*,if_true,if_false,Bool.false_eq_true]⟩)
  | skip
theorem get_app {H:List Ob} {i:Nat} {o:Ob} (h:H[i]? = some o) (os:List Ob):(H++os)[i]? = some o:=by
 rw [List.getElem?_append_left (List.getElem?_eq_some_iff.1 h).1];exact h
theorem exec_read {B:Nat} {i:I} {t t':T} {H H':List Ob} (hp:readI i = true) (h:exec B i t H = some (t',H')):H' = H∧∀ os,exec B i t (H++os) = some (t',H++os):=by
 by_cases hp':pureI i = true
 ·exact ⟨(exec_pure hp' h).1,fun os=>(exec_pure hp' h).2 _⟩
 cases i <;> simp only [readI,pureI,not_true_eq_false] at hp hp' <;> simp only [exec] at h ⊢ <;> first | cases hp;done | skip
 case ld d x =>
  obtain ⟨v,hv,rfl,rfl⟩:=set1_ag h
  refine ⟨rfl,fun os=>?_⟩
  have:ldV (H'++os) (ev t x) = some v:=by
   unfold ldV at hv ⊢
   split at hv
   ·exact hv
   ·split at hv
    ·rename_i hh;simp only [get_app hh];exact hv
    ·cases hv
   ·split at hv
    ·rename_i hh;simp only [get_app hh];exact hv
    ·cases hv
   ·cases hv
  simp only [this,set1]
 case la d k x =>
  obtain ⟨v,hv,rfl,rfl⟩:=set1_ag h
  refine ⟨rfl,fun os=>?_⟩
  have:laV k (H'++os) (ev t x) = some v:=by
   unfold laV at hv ⊢
   split at hv
   ·exact hv
   ·split at hv
    ·rename_i hh;simp only [get_app hh];exact hv
    ·cases hv
   ·split at hv
    ·rename_i hh;simp only [get_app hh];exact hv
    ·cases hv
   ·cases hv
  simp only [this,set1]
 case lkp d ks ok z m k =>
  obtain ⟨v,hv,rfl,rfl⟩:=set1_ag h
  refine ⟨rfl,fun os=>?_⟩
  have key:∀ m es,entsV H' m = some es→entsV (H'++os) m = some es:=fun m es hm=>by
   unfold entsV at hm ⊢
   split at hm
   ·exact hm
   ·split at hm
    ·rename_i hh;simp only [get_app hh];exact hm
    ·cases hm
   ·cases hm
  have:lookV (H'++os) ks ok z (ev t m) (ev t k) = some v:=by
   unfold lookV at hv ⊢
   split at hv
   case isFalse=>cases hv
   rename_i h1
   rw [if_pos h1]
   split at hv
   case h_2=>cases hv
   rename_i es hes
   rw [key _ _ hes]
   exact hv
  simp only [this,set1]
 case fa d k x =>
  obtain ⟨v,hv,rfl,rfl⟩:=set1_ag h
  refine ⟨rfl,fun os=>?_⟩
  have:faV k (H'++os) (ev t x) = some v:=by
   unfold faV at hv ⊢
   split at hv
   ·exact hv
   ·split at hv
    ·rename_i hh;simp only [get_app hh];exact hv
    ·cases hv
   ·exact hv
   ·cases hv
  simp only [this,set1]
 case nc d x =>
  obtain ⟨v,hv,rfl,rfl⟩:=set1_ag h
  refine ⟨rfl,fun os=>?_⟩
  have:ncV (H'++os) (ev t x) = some v:=by
   unfold ncV at hv ⊢
   split at hv
   ·exact hv
   ·split at hv
    ·rename_i hh;simp only [get_app hh];exact hv
    ·cases hv
   ·exact hv
   ·cases hv
  simp only [this,set1]
theorem set_cells {H:List Ob} {i j:Nat} {e:Nat} {cs:List V} {o:Ob} (hi:H[i]? = some (.cells e cs)) {e2:Nat} {c2:List V} (hj:H[j]? = some (.cells e2 c2)) {c3:List V}:∃ c4,(H.set j (.cells e2 c3))[i]? = some (.cells e c4):=by
 by_cases e1:j = i
 ·subst e1
  rw [hi] at hj;cases hj
  exact ⟨c3,by simp [(List.getElem?_eq_some_iff.1 hi).1]⟩
 ·exact ⟨cs,by rw [List.getElem?_set_ne e1];exact hi⟩
def Stays (H H':List Ob):Prop:=∀ (i e:Nat) (cs:List V),H[i]? = some (Ob.cells e cs)→∃ c2:List V,H'[i]? = some (Ob.cells e c2)
theorem exec_keep {B:Nat} {i:I} {t t':T} {H H':List Ob} (hp:keepI i = true) (h:exec B i t H = some (t',H')):Stays H H':=by
 cases i <;> simp only [keepI,Bool.false_eq_true] at hp <;> simp only [exec] at h
 case st k x y =>
  split at h
  case h_3=>cases h
  case h_2 =>
   rename_i i n j off hp
   split at h
   case h_2=>cases h
   rename_i e sz els hH
   split at h
   case h_2=>cases h
   split at h
   case isFalse=>cases h
   cases h
   intro i2 e cs hi
   refine ⟨cs,?_⟩
   rw [List.getElem?_set_ne]
   ·exact hi
   ·intro e1
    subst e1
    rw [hi] at hH;cases hH
  rename_i i off hp
  split at h
  case h_2=>cases h
  rename_i e cs hH
  split at h
  case h_2=>cases h
  rename_i new hn
  split at h
  case isFalse=>cases h
  cases h
  intro i e cs hi
  exact set_cells (o:=.dead) hi hH
 case app d e sz bytes x y =>
  obtain ⟨v,H2,hr,rfl,rfl⟩:=set2_some h
  unfold appV at hr
  repeat' split at hr
  all_goals first | (cases hr;done) | skip
  all_goals
   cases hr
   rename_i hH _
   intro i e cs hi
   refine ⟨cs,?_⟩
   rw [List.getElem?_set_ne]
   ·exact hi
   ·intro e1
    subst e1
    simp_all
 case apr d e sz bytes x y =>
  obtain ⟨v,H2,hr,rfl,rfl⟩:=set2_some h
  unfold aprV at hr
  repeat' split at hr
  all_goals first | (cases hr;done) | skip
  all_goals
   cases hr
   rename_i hH _
   intro i e cs hi
   refine ⟨cs,?_⟩
   rw [List.getElem?_set_ne]
   ·exact hi
   ·intro e1
    subst e1
    simp_all
theorem exec_weak {B:Nat} {i:I} {t t':T} {H H':List Ob} (hp:weakI i = true) (h:exec B i t H = some (t',H')):H' = H∧∀ H2,Stays H H2→exec B i t H2 = some (t',H2):=by
 cases i <;> simp only [weakI,Bool.false_eq_true] at hp <;> simp only [exec] at h ⊢
 case fa d k x =>
  obtain ⟨v,hv,rfl,rfl⟩:=set1_ag h
  refine ⟨rfl,fun H2 hst=>?_⟩
  have:faV k H2 (ev t x) = some v:=by
   unfold faV at hv ⊢
   split at hv
   ·exact hv
   ·split at hv
    ·rename_i hh
     obtain ⟨c2,hh2⟩:=hst _ _ _ hh
     simp only [hh2];exact hv
    ·cases hv
   ·exact hv
   ·cases hv
  simp only [this,set1]
 case nc d x =>
  obtain ⟨v,hv,rfl,rfl⟩:=set1_ag h
  refine ⟨rfl,fun H2 hst=>?_⟩
  have:ncV H2 (ev t x) = some v:=by
   unfold ncV at hv ⊢
   split at hv
   ·exact hv
   ·split at hv
    ·rename_i hh
     obtain ⟨c2,hh2⟩:=hst _ _ _ hh
     simp only [hh2];exact hv
    ·cases hv
   ·exact hv
   ·cases hv
  simp only [this,set1]
theorem exec_alloc {B:Nat} {i:I} {t t':T} {H H':List Ob} (hp:allocI i = true) (h:exec B i t H = some (t',H')):∃ os,H' = H++os:=by
 cases i <;> simp only [allocI,Bool.false_eq_true] at hp <;> simp only [exec] at h
 case al=>cases h;exact ⟨_,rfl⟩
 case mkm=>cases h;exact ⟨_,rfl⟩
 case mk =>
  split at h
  ·split at h
   ·cases h;exact ⟨_,rfl⟩
   ·cases h
  ·cases h
 case bo =>
  split at h
  ·cases h;exact ⟨_,rfl⟩
  ·cases h
 case bx =>
  split at h
  ·cases h;exact ⟨_,rfl⟩
  ·cases h
theorem exec_alloc2 {B:Nat} {i:I} {t t':T} {H os:List Ob} (hp:allocI i = true) (h:exec B i t H = some (t',H++os)):∀ H2:List Ob,H2.length = H.length→exec B i t H2 = some (t',H2++os):=by
 intro H2 hl
 cases i <;> simp only [allocI,Bool.false_eq_true] at hp <;> simp only [exec] at h ⊢
 case al=>simp only [Option.some.injEq,Prod.mk.injEq,List.append_cancel_left_eq] at h;rw [hl,h.1,h.2]
 case mkm=>simp only [Option.some.injEq,Prod.mk.injEq,List.append_cancel_left_eq] at h;rw [hl,h.1,h.2]
 case mk =>
  split at h
  ·split at h
   ·rename_i hc
    simp only [Option.some.injEq,Prod.mk.injEq,List.append_cancel_left_eq] at h;rw [if_pos hc,hl,h.1,h.2]
   ·cases h
  ·cases h
 case bo =>
  split at h
  ·simp only [Option.some.injEq,Prod.mk.injEq,List.append_cancel_left_eq] at h;rw [hl,h.1,h.2]
  ·cases h
 case bx =>
  split at h
  ·simp only [Option.some.injEq,Prod.mk.injEq,List.append_cancel_left_eq] at h;rw [hl,h.1,h.2]
  ·cases h
theorem set_app {H:List Ob} {i:Nat} {o o':Ob} (h:H[i]? = some o) (os:List Ob):(H++os).set i o' = H.set i o'++os:=by
 have hl:=(List.getElem?_eq_some_iff.1 h).1
 rw [List.set_append_left _ _ hl]
theorem exec_keep2 {B:Nat} {i:I} {t t':T} {H H':List Ob} (hp:keepI i = true) (h:exec B i t H = some (t',H')):H'.length = H.length∧∀ os,exec B i t (H++os) = some (t',H'++os):=by
 cases i <;> simp only [keepI,Bool.false_eq_true] at hp <;> simp only [exec] at h ⊢
 case st k x y =>
  split at h
  case h_3=>cases h
  case h_2 =>
   rename_i i n j off hp
   split at h
   case h_2=>cases h
   rename_i e sz els hH
   split at h
   case h_2=>cases h
   rename_i new hn
   split at h
   case isFalse=>cases h
   rename_i hl
   cases h
   refine ⟨by simp,fun os=>?_⟩
   simp only [hp,get_app hH,hn]
   rw [if_pos hl,set_app hH]
  rename_i i off hp
  split at h
  case h_2=>cases h
  rename_i e cs hH
  split at h
  case h_2=>cases h
  rename_i new hn
  split at h
  case isFalse=>cases h
  rename_i hl
  cases h
  refine ⟨by simp,fun os=>?_⟩
  simp only [hp,get_app hH,hn]
  rw [if_pos hl,set_app hH]
 case app d e sz bytes x y =>
  obtain ⟨v,H2,hr,rfl,rfl⟩:=set2_some h
  unfold appV at hr
  split at hr
  case h_2=>cases hr
  rename_i i sz1 els new hp hq
  split at hr
  case h_2=>cases hr
  rename_i e' sz' n hH
  split at hr
  case isFalse=>cases hr
  rename_i hc
  cases hr
  refine ⟨by simp,fun os=>?_⟩
  simp only [appV,hp,hq,get_app hH]
  rw [if_pos hc]
  simp only [set_app hH,set2]
 case apr d e sz bytes x y =>
  obtain ⟨v,H2,hr,rfl,rfl⟩:=set2_some h
  unfold aprV at hr
  split at hr
  case h_2=>cases hr
  rename_i i z0 n new hp hq
  split at hr
  case h_2=>cases hr
  rename_i e' sz' els hH
  split at hr
  case isFalse=>cases hr
  rename_i hc
  cases hr
  refine ⟨by simp,fun os=>?_⟩
  simp only [aprV,hp,hq,get_app hH]
  rw [if_pos hc]
  simp only [set_app hH,set2]
def AppTo (H H2:List Ob):Prop:=∃ j e sz n n',H[j]? = some (.arr e sz n)∧H2 = H.set j (.arr e sz n')
theorem AppTo.symm {H H2:List Ob} (h:AppTo H H2):AppTo H2 H:=by
 obtain ⟨j,e,sz,n,n',h1,rfl⟩:=h
 obtain ⟨hl,he⟩:=List.getElem?_eq_some_iff.1 h1
 refine ⟨j,e,sz,n',n,by simp [hl],?_⟩
 apply List.ext_getElem?
 intro i
 rw [List.getElem?_set,List.getElem?_set]
 by_cases e1:j = i
 ·subst e1;simp [hl,he]
 ·simp [e1]
theorem AppTo.get {H H2:List Ob} (h:AppTo H H2) {i:Nat} {o:Ob} (hi:H[i]? = some o) (ho:∀ e sz n,o ≠ .arr e sz n):H2[i]? = some o:=by
 obtain ⟨j,e,sz,n,n',h1,rfl⟩:=h
 rw [List.getElem?_set_ne]
 ·exact hi
 ·intro e1;subst e1;rw [hi] at h1;cases h1;exact ho _ _ _ rfl
theorem exec_app {B:Nat} {i:I} {t t':T} {H H':List Ob} (hp:appI i = true) (h:exec B i t H = some (t',H')):AppTo H H':=by
 cases i <;> simp only [appI,Bool.false_eq_true] at hp
 simp only [exec] at h
 obtain ⟨v,H2,hr,rfl,rfl⟩:=set2_some h
 unfold appV at hr
 split at hr
 case h_2=>cases hr
 rename_i i sz1 els new hp hq
 split at hr
 case h_2=>cases hr
 rename_i e' sz' n hH
 split at hr
 case isFalse=>cases hr
 rename_i hc
 obtain ⟨rfl,rfl,rfl,hc2⟩:=hc
 cases hr
 exact ⟨_,_,_,_,_,hH,rfl⟩
theorem exec_read_app {B:Nat} {i:I} {t t':T} {H H':List Ob} (hp:readI i = true) (h:exec B i t H = some (t',H')):H' = H∧∀ H2,AppTo H H2→exec B i t H2 = some (t',H2):=by
 by_cases hp':pureI i = true
 ·exact ⟨(exec_pure hp' h).1,fun H2 _=>(exec_pure hp' h).2 _⟩
 cases i <;> simp only [readI,pureI,not_true_eq_false] at hp hp' <;> simp only [exec] at h ⊢ <;> first | cases hp;done | skip
 all_goals
  obtain ⟨v,hv,rfl,rfl⟩:=set1_ag h
  refine ⟨rfl,fun H2 ha=>?_⟩
 case ld d x =>
  have:ldV H2 (ev t x) = some v:=by
   unfold ldV at hv ⊢
   split at hv
   ·exact hv
   ·split at hv
    ·rename_i hh;simp only [ha.get hh (by simp)];exact hv
    ·cases hv
   ·split at hv
    ·rename_i hh;simp only [ha.get hh (by simp)];exact hv
    ·cases hv
   ·cases hv
  simp only [this,set1]
 case la d k x =>
  have:laV k H2 (ev t x) = some v:=by
   unfold laV at hv ⊢
   split at hv
   ·exact hv
   ·split at hv
    ·rename_i hh;simp only [ha.get hh (by simp)];exact hv
    ·cases hv
   ·split at hv
    ·rename_i hh;simp only [ha.get hh (by simp)];exact hv
    ·cases hv
   ·cases hv
  simp only [this,set1]
 case lkp d ks ok z m k =>
  have key:∀ m es,entsV H' m = some es→entsV H2 m = some es:=fun m es hm=>by
   unfold entsV at hm ⊢
   split at hm
   ·exact hm
   ·split at hm
    ·rename_i hh;simp only [ha.get hh (by simp)];exact hm
    ·cases hm
   ·cases hm
  have:lookV H2 ks ok z (ev t m) (ev t k) = some v:=by
   unfold lookV at hv ⊢
   split at hv
   case isFalse=>cases hv
   rename_i h1
   rw [if_pos h1]
   split at hv
   case h_2=>cases hv
   rename_i es hes
   rw [key _ _ hes]
   exact hv
  simp only [this,set1]
 case fa d k x =>
  have:faV k H2 (ev t x) = some v:=by
   unfold faV at hv ⊢
   split at hv
   ·exact hv
   ·split at hv
    ·rename_i hh;simp only [ha.get hh (by simp)];exact hv
    ·cases hv
   ·exact hv
   ·cases hv
  simp only [this,set1]
 case nc d x =>
  have:ncV H2 (ev t x) = some v:=by
   unfold ncV at hv ⊢
   split at hv
   ·exact hv
   ·split at hv
    ·rename_i hh;simp only [ha.get hh (by simp)];exact hv
    ·cases hv
   ·exact hv
   ·cases hv
  simp only [this,set1]
structure E where
 g:Option (Nat × Bool)
 s:S
def rdB:S→List Nat
 | .op i=>rdI i
 | .callp _ _ args=>rdL args
 | .callvp _ g args=>rdO g++rdL args
 | .call _ _ args=>rdL args
 | .callv _ g args=>rdO g++rdL args
 | _=>[]
def dstB:S→Option Nat
 | .op i=>dstI i
 | .callp d _ _=>d
 | .callvp d _ _=>d
 | .call d _ _=>d
 | .callv d _ _=>d
 | _=>none
def rdE (e:E):List Nat:=match e.g with
 | some (n,_)=>n :: rdB e.s
 | none=>rdB e.s
def pureE (e:E):Bool:=match e.s with
 | .op i=>pureI i
 | .callp .. | .callvp ..=>true
 | _=>false
def readE (e:E):Bool:=match e.s with
 | .op i=>readI i
 | .callp .. | .callvp ..=>true
 | _=>false
def weakE (e:E):Bool:=match e.s with
 | .op i=>weakI i
 | _=>false
def keepE (e:E):Bool:=match e.s with
 | .op i=>keepI i
 | _=>false
def allocE (e:E):Bool:=match e.s with
 | .op i=>allocI i
 | _=>false
def basicStp (P:Program):S→T→List Ob→Option (Nat × V)→List Ob→Prop
 | .op i,t,H,b,H'=>ghost i = false∧exec 0 i t H = some (consO b t,H')∧b.map (·.1) = dstI i
 | .callp d f args,t,H,b,H'=>H' = H∧∃ x,Spec P f (rens (fun _=>none) (args.map (ev t))) [] (fun x' H'=>x' = x∧H' = [])∧b = d.map (·,ren (fun _=>none) x)
 | .callvp d g args,t,H,b,H'=>H' = H∧∃ f fst caps x,ev t g = .fn (.func f) fst caps∧Spec P f (rens (fun _=>none) (fst++args.map (ev t)++caps)) [] (fun x' H'=>x' = x∧H' = [])∧b = d.map (·,ren (fun _=>none) x)
 | _,_,_,_,_=>False
def Stp (P:Program) (e:E) (t:T) (H:List Ob) (b:Option (Nat × V)) (H':List Ob):Prop:=match e.g with
 | none=>basicStp P e.s t H b H'
 | some (n,w)=>(lk t n = .bool w∧basicStp P e.s t H b H') ∨ (((∃ c,lk t n = .bool c∧c ≠ w) ∨ lk t n = .tup [])∧H' = H∧b = (dstB e.s).map (·,.tup []))
theorem consO_inj {t:T}:∀ {b b':Option (Nat × V)},consO b t = consO b' t→b = b'
 | none,none,_=>rfl
 | none,some p,h=>absurd (congrArg List.length h) (by simp [consO])
 | some p,none,h=>absurd (congrArg List.length h) (by simp [consO])
 | some p,some q,h=>by simp only [consO,List.cons.injEq,and_true] at h;rw [h]
section
variable {P:Program} {t t2:T} {H H':List Ob} {b:Option (Nat × V)}
theorem basic_ag {s:S} (h:basicStp P s t H b H') (hag:∀ n∈rdB s,lk t n = lk t2 n):basicStp P s t2 H b H':=by
 cases s <;> simp only [basicStp] at h ⊢
 case op i =>
  obtain ⟨hg,h,hd⟩:=h
  obtain ⟨b',e1,e2,e3⟩:=exec_ag hg h
  cases consO_inj e1
  exact ⟨hg,e3 0 t2 hag,hd⟩
 case callp d f args =>
  obtain ⟨rfl,x,h1,h2⟩:=h
  exact ⟨rfl,x,by rw [map_ag hag];exact h1,h2⟩
 case callvp d g args =>
  simp only [rdB,List.mem_append] at hag
  obtain ⟨rfl,f,fst,caps,x,h0,h1,h2⟩:=h
  exact ⟨rfl,f,fst,caps,x,by rw [ev_ag fun n hn=>hag n (.inl hn)];exact h0,by rw [map_ag fun n hn=>hag n (.inr hn)];exact h1,h2⟩
theorem stp_ag {e:E} (h:Stp P e t H b H') (hag:∀ n∈rdE e,lk t n = lk t2 n):Stp P e t2 H b H':=by
 unfold Stp at h ⊢
 unfold rdE at hag
 cases hg:e.g with
 | none=>simp only [hg] at h hag ⊢;exact basic_ag h hag
 | some g =>
  obtain ⟨n,w⟩:=g
  simp only [hg] at h hag ⊢
  rw [hag n (by simp)] at h
  rcases h with ⟨h1,h2⟩ | h
  ·exact .inl ⟨h1,basic_ag h2 fun m hm=>hag m (List.mem_cons_of_mem _ hm)⟩
  ·exact .inr h
theorem basic_dst {s:S} (h:basicStp P s t H b H'):b.map (·.1) = dstB s:=by
 cases s <;> simp only [basicStp] at h
 case op i=>exact h.2.2
 case callp d f args=>obtain ⟨_,x,_,h2⟩:=h;subst h2;cases d <;> rfl
 case callvp d g args=>obtain ⟨_,f,fst,caps,x,_,_,h2⟩:=h;subst h2;cases d <;> rfl
theorem stp_dst {e:E} (h:Stp P e t H b H'):b.map (·.1) = dstB e.s:=by
 unfold Stp at h
 split at h
 ·exact basic_dst h
 ·rcases h with ⟨_,h⟩ | ⟨_,_,h⟩
  ·exact basic_dst h
  ·subst h;cases dstB e.s <;> rfl
theorem stp_pure {e:E} (hp:pureE e = true) (h:Stp P e t H b H'):H' = H∧∀ H2,Stp P e t H2 b H2:=by
 have key:basicStp P e.s t H b H'→H' = H∧∀ H2,basicStp P e.s t H2 b H2:=by
  unfold pureE at hp
  intro h
  cases hs:e.s <;> simp only [hs,Bool.false_eq_true] at hp <;> simp only [hs,basicStp] at h ⊢
  case op i =>
   obtain ⟨hg,h1,h2⟩:=h
   exact ⟨(exec_pure hp h1).1,fun H2=>⟨hg,(exec_pure hp h1).2 H2,h2⟩⟩
  case callp=>exact ⟨h.1,fun H2=>⟨trivial,h.2⟩⟩
  case callvp=>exact ⟨h.1,fun H2=>⟨trivial,h.2⟩⟩
 unfold Stp at h ⊢
 split at h
 ·exact key h
 ·rcases h with ⟨h1,h⟩ | ⟨h1,h2,h3⟩
  ·exact ⟨(key h).1,fun H2=>.inl ⟨h1,(key h).2 H2⟩⟩
  ·exact ⟨h2,fun H2=>.inr ⟨h1,rfl,h3⟩⟩
theorem stp_read {e:E} (hp:readE e = true) (h:Stp P e t H b H'):H' = H∧∀ os,Stp P e t (H++os) b (H++os):=by
 have key:basicStp P e.s t H b H'→H' = H∧∀ os,basicStp P e.s t (H++os) b (H++os):=by
  unfold readE at hp
  intro h
  cases hs:e.s <;> simp only [hs,Bool.false_eq_true] at hp <;> simp only [hs,basicStp] at h ⊢
  case op i =>
   obtain ⟨hg,h1,h2⟩:=h
   exact ⟨(exec_read hp h1).1,fun os=>⟨hg,(exec_read hp h1).2 os,h2⟩⟩
  case callp=>exact ⟨h.1,fun H2=>⟨trivial,h.2⟩⟩
  case callvp=>exact ⟨h.1,fun H2=>⟨trivial,h.2⟩⟩
 unfold Stp at h ⊢
 split at h
 ·exact key h
 ·rcases h with ⟨h1,h⟩ | ⟨h1,h2,h3⟩
  ·exact ⟨(key h).1,fun H2=>.inl ⟨h1,(key h).2 H2⟩⟩
  ·exact ⟨h2,fun H2=>.inr ⟨h1,rfl,h3⟩⟩
theorem stp_alloc {e:E} (hp:allocE e = true) (h:Stp P e t H b H'):∃ os,H' = H++os:=by
 have key:basicStp P e.s t H b H'→∃ os,H' = H++os:=by
  unfold allocE at hp
  intro h
  cases hs:e.s <;> simp only [hs,Bool.false_eq_true] at hp
  simp only [hs,basicStp] at h
  exact exec_alloc hp h.2.1
 unfold Stp at h
 split at h
 ·exact key h
 ·rcases h with ⟨h1,h⟩ | ⟨h1,h2,h3⟩
  ·exact key h
  ·exact ⟨[],by simp [h2]⟩
theorem stp_weak {e:E} (hp:weakE e = true) (h:Stp P e t H b H'):H' = H∧∀ H2,Stays H H2→Stp P e t H2 b H2:=by
 have key:basicStp P e.s t H b H'→H' = H∧∀ H2,Stays H H2→basicStp P e.s t H2 b H2:=by
  unfold weakE at hp
  intro h
  cases hs:e.s <;> simp only [hs,Bool.false_eq_true] at hp
  simp only [hs,basicStp] at h ⊢
  obtain ⟨hg,h1,h2⟩:=h
  exact ⟨(exec_weak hp h1).1,fun H2 hst=>⟨hg,(exec_weak hp h1).2 H2 hst,h2⟩⟩
 unfold Stp at h ⊢
 split at h
 ·exact key h
 ·rcases h with ⟨h1,h⟩ | ⟨h1,h2,h3⟩
  ·exact ⟨(key h).1,fun H2 hst=>.inl ⟨h1,(key h).2 H2 hst⟩⟩
  ·exact ⟨h2,fun H2 _=>.inr ⟨h1,rfl,h3⟩⟩
theorem stp_keep {e:E} (hp:keepE e = true) (h:Stp P e t H b H'):Stays H H':=by
 have key:basicStp P e.s t H b H'→Stays H H':=by
  unfold keepE at hp
  intro h
  cases hs:e.s <;> simp only [hs,Bool.false_eq_true] at hp
  simp only [hs,basicStp] at h
  exact exec_keep hp h.2.1
 unfold Stp at h
 split at h
 ·exact key h
 ·rcases h with ⟨h1,h⟩ | ⟨h1,h2,h3⟩
  ·exact key h
  ·subst h2;exact fun i e cs hi=>⟨cs,hi⟩
theorem stp_keep2 {e:E} (hp:keepE e = true) (h:Stp P e t H b H'):H'.length = H.length∧∀ os,Stp P e t (H++os) b (H'++os):=by
 have key:basicStp P e.s t H b H'→H'.length = H.length∧∀ os,basicStp P e.s t (H++os) b (H'++os):=by
  unfold keepE at hp
  intro h
  cases hs:e.s <;> simp only [hs,Bool.false_eq_true] at hp
  simp only [hs,basicStp] at h ⊢
  obtain ⟨hg,h1,h2⟩:=h
  exact ⟨(exec_keep2 hp h1).1,fun os=>⟨hg,(exec_keep2 hp h1).2 os,h2⟩⟩
 unfold Stp at h ⊢
 split at h
 ·exact key h
 ·rcases h with ⟨h1,h⟩ | ⟨h1,h2,h3⟩
  ·exact ⟨(key h).1,fun os=>.inl ⟨h1,(key h).2 os⟩⟩
  ·exact ⟨by rw [h2],fun os=>.inr ⟨h1,by rw [h2],h3⟩⟩
theorem stp_alloc2 {e:E} {os:List Ob} (hp:allocE e = true) (h:Stp P e t H b (H++os)):∀ H2:List Ob,H2.length = H.length→Stp P e t H2 b (H2++os):=by
 intro H2 hl
 have key:basicStp P e.s t H b (H++os)→basicStp P e.s t H2 b (H2++os):=by
  unfold allocE at hp
  intro h
  cases hs:e.s <;> simp only [hs,Bool.false_eq_true] at hp
  simp only [hs,basicStp] at h ⊢
  obtain ⟨hg,h1,h2⟩:=h
  exact ⟨hg,exec_alloc2 hp h1 H2 hl,h2⟩
 unfold Stp at h ⊢
 split at h
 ·exact key h
 ·rcases h with ⟨h1,h⟩ | ⟨h1,h2,h3⟩
  ·exact .inl ⟨h1,key h⟩
  ·have:os = []:=by simpa using h2
   subst this
   exact .inr ⟨h1,by simp,h3⟩
def appE (e:E):Bool:=match e.s with
 | .op i=>appI i
 | _=>false
theorem stp_app {e:E} (hp:appE e = true) (h:Stp P e t H b H'):H' = H ∨ AppTo H H':=by
 have key:basicStp P e.s t H b H'→AppTo H H':=by
  unfold appE at hp
  intro h
  cases hs:e.s <;> simp only [hs,Bool.false_eq_true] at hp
  simp only [hs,basicStp] at h
  exact exec_app hp h.2.1
 unfold Stp at h
 split at h
 ·exact .inr (key h)
 ·rcases h with ⟨h1,h⟩ | ⟨h1,h2,h3⟩
  ·exact .inr (key h)
  ·exact .inl h2
theorem stp_read_app {e:E} (hp:readE e = true) (h:Stp P e t H b H'):H' = H∧∀ H2,AppTo H H2→Stp P e t H2 b H2:=by
 have key:basicStp P e.s t H b H'→H' = H∧∀ H2,AppTo H H2→basicStp P e.s t H2 b H2:=by
  unfold readE at hp
  intro h
  cases hs:e.s <;> simp only [hs,Bool.false_eq_true] at hp <;> simp only [hs,basicStp] at h ⊢
  case op i =>
   obtain ⟨hg,h1,h2⟩:=h
   exact ⟨(exec_read_app hp h1).1,fun H2 ha=>⟨hg,(exec_read_app hp h1).2 H2 ha,h2⟩⟩
  case callp=>exact ⟨h.1,fun H2 _=>⟨trivial,h.2⟩⟩
  case callvp=>exact ⟨h.1,fun H2 _=>⟨trivial,h.2⟩⟩
 unfold Stp at h ⊢
 split at h
 ·exact key h
 ·rcases h with ⟨h1,h⟩ | ⟨h1,h2,h3⟩
  ·exact ⟨(key h).1,fun H2 ha=>.inl ⟨h1,(key h).2 H2 ha⟩⟩
  ·exact ⟨h2,fun H2 _=>.inr ⟨h1,rfl,h3⟩⟩
def apartE (x y:E):Bool :=
 (match dstB x.s with | some d=>!(rdE y).contains d && dstB y.s != some d | none=>true) && (match dstB y.s with | some d=>!(rdE x).contains d | none=>true)
def commE (x y:E):Bool:=apartE x y && (pureE x || pureE y || (readE x && (readE y || allocE y)) || (weakE x && keepE y) || (readE x && appE y) || (appE x && readE y) || (keepE x && allocE y))
theorem lk_consO {b:Option (Nat × V)} {n:Nat} (h:b.map (·.1) ≠ some n):lk (consO b t) n = lk t n:=by
 cases b with
 | none=>rfl
 | some p =>
  obtain ⟨d,v⟩:=p
  have:d ≠ n:=fun e=>h (by simp [e])
  simp [consO,lk,find,this]
theorem stp_comm {x y:E} {bx bY:Option (Nat × V)} {H1 H2:List Ob} (hc:commE x y = true) (hx:Stp P x t H bx H1) (hy:Stp P y (consO bx t) H1 bY H2) :
  ∃ H3,Stp P y t H bY H3∧Stp P x (consO bY t) H3 bx H2:=by
 simp only [commE,apartE,Bool.and_eq_true] at hc
 obtain ⟨⟨ha1,ha2⟩,hk⟩:=hc
 have hdx:=stp_dst hx
 have hdy:=stp_dst hy
 have agy:∀ n∈rdE y,lk (consO bx t) n = lk t n:=fun n hn=>lk_consO (by
  rw [hdx];intro e;rw [e] at ha1
  simp [hn] at ha1)
 have agx:∀ n∈rdE x,lk t n = lk (consO bY t) n:=fun n hn=>(lk_consO (by
  rw [hdy];intro e;rw [e] at ha2
  simp [hn] at ha2)).symm
 have hy':=stp_ag hy agy
 have hx':=stp_ag hx agx
 simp only [Bool.or_eq_true,Bool.and_eq_true] at hk
 rcases hk with (((((hk | hk) | ⟨hk,hk2⟩) | ⟨hk,hk2⟩) | ⟨hk,hk2⟩) | ⟨hk,hk2⟩) | ⟨hk,hk2⟩
 ·obtain ⟨rfl,q⟩:=stp_pure hk hx'
  exact ⟨H2,hy',q H2⟩
 ·obtain ⟨rfl,q⟩:=stp_pure hk hy'
  exact ⟨H,q H,hx'⟩
 ·obtain ⟨rfl,q⟩:=stp_read hk hx'
  refine ⟨H2,hy',?_⟩
  rcases hk2 with hk2 | hk2
  ·obtain ⟨rfl,_⟩:=stp_read hk2 hy'
   exact hx'
  ·obtain ⟨os,rfl⟩:=stp_alloc hk2 hy'
   exact q os
 ·obtain ⟨rfl,q⟩:=stp_weak hk hx'
  exact ⟨H2,hy',q H2 (stp_keep hk2 hy')⟩
 ·obtain ⟨rfl,q⟩:=stp_read_app hk hx'
  rcases stp_app hk2 hy' with rfl | ha
  ·exact ⟨H2,hy',hx'⟩
  ·exact ⟨H2,hy',q H2 ha⟩
 ·obtain ⟨rfl,q⟩:=stp_read_app hk2 hy'
  rcases stp_app hk hx' with rfl | ha
  ·exact ⟨_,hy',hx'⟩
  ·exact ⟨H,q H ha.symm,hx'⟩
 ·obtain ⟨hl,q⟩:=stp_keep2 hk hx'
  obtain ⟨os,rfl⟩:=stp_alloc hk2 hy'
  exact ⟨H++os,stp_alloc2 hk2 hy' H hl.symm,q os⟩
theorem comm_find {x y:E} (hc:commE x y = true) {bx bY:Option (Nat × V)} (hx:bx.map (·.1) = dstB x.s) (hy:bY.map (·.1) = dstB y.s) (n:Nat):find (consO bY (consO bx t)) n = find (consO bx (consO bY t)) n:=by
 simp only [commE,apartE,Bool.and_eq_true] at hc
 obtain ⟨⟨ha1,_⟩,_⟩:=hc
 cases bx with
 | none=>rfl
 | some p =>
  cases bY with
  | none=>rfl
  | some q =>
   obtain ⟨d,v⟩:=p
   obtain ⟨d',v'⟩:=q
   simp only [Option.map_some] at hx hy
   rw [← hx,← hy] at ha1
   simp only [Bool.and_eq_true,bne_iff_ne,ne_eq,Option.some.injEq] at ha1
   have hne:d' ≠ d:=ha1.2
   simp only [consO,find]
   by_cases e1:d' = n <;> by_cases e2:d = n <;> simp_all
end
def CallW (P:Program) (e:E) (t:T) (H:List Ob) (K:T→List Ob→Prop):Prop:=(∀ n w,e.g = some (n,w)→lk t n = .bool w)∧match e.s with
 | .call d f args=>(∃ (R:V→List Ob→Prop),Spec P f (args.map (ev t)) H R∧∀ x H',R x H'→K (setO d x t) H') ∨ ∃ (idx:List Nat) (R:V→List Ob→Prop),idx.Nodup∧(∀ i∈idx,i < H.length)∧Spec P f (rens (pos? idx) (args.map (ev t))) (give idx H) R ∧
   ∀ x H',R x H'→idx.length≤H'.length→K (setO d (ren (back idx H.length) x) t) (takeB idx H H')
 | .callv d g args=>(∃ (F:Fn) (fst caps:List V) (R:V→List Ob→Prop),ev t g = .fn F fst caps∧((∃ f,F = .func f) ∨ caps = [])∧SpecF P F (fst++args.map (ev t)++caps) H R∧∀ x H',R x H'→K (setO d x t) H') ∨ ∃ (F:Fn) (fst caps:List V) (idx:List Nat) (R:V→List Ob→Prop),ev t g = .fn F fst caps∧((∃ f,F = .func f) ∨ caps = [])∧idx.Nodup∧(∀ i∈idx,i < H.length)∧SpecF P F (rens (pos? idx) (fst++args.map (ev t)++caps)) (give idx H) R ∧
   ∀ x H',R x H'→idx.length≤H'.length→K (setO d (ren (back idx H.length) x) t) (takeB idx H H')
 | _=>False
def callE (e:E):Bool:=match e.s with
 | .call .. | .callv ..=>true
 | _=>false
def StpW (P:Program) (e:E) (t:T) (H:List Ob) (K:T→List Ob→Prop):Prop:=(∃ b H',Stp P e t H b H'∧K (consO b t) H') ∨ CallW P e t H K
theorem setO_cons {d:Option Nat} {x:V} {t:T}:setO d x t = consO (d.map (·,x)) t:=by cases d <;> rfl
theorem CallW.ag {P:Program} {e:E} {t t2:T} {H:List Ob} {K K':T→List Ob→Prop} (h:CallW P e t H K) (hag:∀ n∈rdE e,lk t n = lk t2 n) (hk:∀ b H',b.map (·.1) = dstB e.s→K (consO b t) H'→K' (consO b t2) H'):CallW P e t2 H K':=by
 unfold CallW at h ⊢
 obtain ⟨hg,h⟩:=h
 refine ⟨fun n w hgw=>by rw [← hag n (by simp [rdE,hgw])];exact hg n w hgw,?_⟩
 have hag:∀ n∈rdB e.s,lk t n = lk t2 n:=fun n hn=>hag n (by
  unfold rdE
  split
  ·exact List.mem_cons_of_mem _ hn
  ·exact hn)
 cases hs:e.s <;> simp only [hs,rdB] at h hag ⊢
 case call d f args =>
  rcases h with ⟨R,h3,h4⟩ | h
  ·refine .inl ⟨R,by rw [map_ag hag];exact h3,fun x H' hR=>?_⟩
   have:=h4 x H' hR
   rw [setO_cons] at this ⊢
   exact hk _ _ (by rw [hs];cases d <;> rfl) this
  obtain ⟨idx,R,h1,h2,h3,h4⟩:=h
  refine .inr ⟨idx,R,h1,h2,by rw [map_ag hag];exact h3,fun x H' hR hl=>?_⟩
  have:=h4 x H' hR hl
  rw [setO_cons] at this ⊢
  exact hk _ _ (by rw [hs];cases d <;> rfl) this
 case callv d g args =>
  simp only [List.mem_append] at hag
  rcases h with ⟨f,fst,caps,R,h0,hF,h3,h4⟩ | h
  ·refine .inl ⟨f,fst,caps,R,by rw [ev_ag fun n hn=>hag n (.inl hn)];exact h0,hF,by rw [map_ag fun n hn=>hag n (.inr hn)];exact h3,fun x H' hR=>?_⟩
   have:=h4 x H' hR
   rw [setO_cons] at this ⊢
   exact hk _ _ (by rw [hs];cases d <;> rfl) this
  obtain ⟨f,fst,caps,idx,R,h0,hF,h1,h2,h3,h4⟩:=h
  refine .inr ⟨f,fst,caps,idx,R,by rw [ev_ag fun n hn=>hag n (.inl hn)];exact h0,hF,h1,h2,by rw [map_ag fun n hn=>hag n (.inr hn)];exact h3,fun x H' hR hl=>?_⟩
  have:=h4 x H' hR hl
  rw [setO_cons] at this ⊢
  exact hk _ _ (by rw [hs];cases d <;> rfl) this
 all_goals exact h.elim
theorem StpW.ag {P:Program} {e:E} {t t2:T} {H:List Ob} {K K':T→List Ob→Prop} (h:StpW P e t H K) (hag:∀ n∈rdE e,lk t n = lk t2 n) (hk:∀ b H',b.map (·.1) = dstB e.s→K (consO b t) H'→K' (consO b t2) H'):StpW P e t2 H K':=by
 rcases h with ⟨b,H',h1,h2⟩ | h
 ·exact .inl ⟨b,H',stp_ag h1 hag,hk b H' (stp_dst h1) h2⟩
 ·exact .inr (h.ag hag hk)
def AnyR (P:Program) (md:Region.Mode) (ops:Array Oper) (all:List (Nat × E)) (Q:T→List Ob→Prop):Nat→Array Bool→T→List Ob→Prop
 | 0,listed,t,H=>Region.ready md ops listed = []∧Q t H
 | n+1,listed,t,H=>(Region.ready md ops listed = []→Q t H) ∧
  ∀ i∈Region.ready md ops listed,∃ e,(i,e)∈all∧StpW P e t H (AnyR P md ops all Q n (listed.setIfInBounds i true))
inductive Anc (md:Region.Mode) (ops:Array Oper):Nat→Nat→Prop
 | dir {j o e}:ops[j]? = some o→e∈o.after→Region.binds md e = true→Anc md ops j e.on
 | tr {j o e i}:ops[j]? = some o→e∈o.after→Region.binds md e = true→Anc md ops e.on i→Anc md ops j i
def Closed (md:Region.Mode) (ops:Array Oper) (listed:Array Bool):Prop:=∀ j o,ops[j]? = some o→listed.getD j false = true→∀ e∈o.after,Region.binds md e = true→listed.getD e.on false = true
theorem anc_listed {md:Region.Mode} {ops:Array Oper} {listed:Array Bool} (hc:Closed md ops listed) {j i:Nat} (h:Anc md ops j i):(∀ o,ops[j]? = some o→∀ e∈o.after,Region.binds md e = true→listed.getD e.on false = true)→listed.getD i false = true:=by
 induction h with
 | dir ho he hb=>exact fun h=>h _ ho _ he hb
 | tr ho he hb _ ih=>exact fun h=>ih fun o ho' e he' hb'=>hc _ o ho' (h _ ho _ he hb) e he' hb'
theorem closed_set {md:Region.Mode} {ops:Array Oper} {listed:Array Bool} (hc:Closed md ops listed) {i:Nat} (hr:i∈Region.ready md ops listed):Closed md ops (listed.setIfInBounds i true):=by
 intro j o ho hj e he hb
 refine getD_set_true ?_
 by_cases hji:i = j
 ·subst hji
  obtain ⟨_,o',ho',hall⟩:=mem_ready.1 hr
  rw [ho] at ho';cases ho'
  exact hall e he hb
 ·rw [getD_set_ne false hji] at hj
  exact hc j o ho hj e he hb
section
variable {P:Program} {md:Region.Mode} {ops:Array Oper} {all:List (Nat × E)} {Q:T→List Ob→Prop}
theorem lk_find_eq {t t2:T} (h:∀ n,find t n = find t2 n) (n:Nat):lk t n = lk t2 n:=by simp only [lk,h]
theorem find_consO {t t2:T} (h:∀ n,find t n = find t2 n) (b:Option (Nat × V)) (n:Nat):find (consO b t) n = find (consO b t2) n:=by
 cases b with
 | none=>exact h n
 | some p=>obtain ⟨d,v⟩:=p;simp only [consO,find,h]
theorem anyR_find (hQ:∀ t t2 H,(∀ n,find t n = find t2 n)→Q t H→Q t2 H):∀ (n:Nat) (listed:Array Bool) (t t2:T) (H:List Ob),(∀ n,find t n = find t2 n)→AnyR P md ops all Q n listed t H→AnyR P md ops all Q n listed t2 H
 | 0,_,_,_,_,hf,h=>⟨h.1,hQ _ _ _ hf h.2⟩
 | n+1,_,_,_,_,hf,h=>⟨fun h0=>hQ _ _ _ hf (h.1 h0),fun i hi=>by
  obtain ⟨e,h1,h2⟩:=h.2 i hi
  exact ⟨e,h1,h2.ag (fun n _=>lk_find_eq hf n) fun b H' _ h3=>anyR_find hQ n _ _ _ _ (find_consO hf b) h3⟩⟩
theorem anyR_done {listed:Array Bool} {t:T} {H:List Ob} (hr:Region.ready md ops listed = []) (h:Q t H):∀ n,AnyR P md ops all Q n listed t H
 | 0=>⟨hr,h⟩
 | _+1=>⟨fun _=>h,by rw [hr];simp⟩
theorem anyR_first (hQ:∀ t t2 H,(∀ n,find t n = find t2 n)→Q t H→Q t2 H) {i:Nat} {ei:E} (hi:(i,ei)∈all):∀ (fuel:Nat) (listed:Array Bool) (t:T) (H:List Ob) (b:Option (Nat × V)) (H1:List Ob),Closed md ops listed →
  (∀ j oj ej,ops[j]? = some oj→(j,ej)∈all→j ≠ i→listed.getD j true = false→¬ Anc md ops j i→commE ei ej = true) →
  i∈Region.ready md ops listed→Stp P ei t H b H1→AnyR P md ops all Q fuel (listed.setIfInBounds i true) (consO b t) H1→AnyR P md ops all Q (fuel+1) listed t H:=by
 intro fuel
 induction fuel with
 | zero =>
  intro listed t H b H1 _ _ hr hs HH
  refine ⟨fun h=>(by rw [h] at hr;cases hr),fun j hj=>?_⟩
  by_cases hji:j = i
  ·subst hji;exact ⟨ei,hi,.inl ⟨b,H1,hs,HH⟩⟩
  ·have:=ready_mono hj hji
   rw [HH.1] at this
   cases this
 | succ fuel ih =>
  intro listed t H b H1 hcl hfree hr hs HH
  refine ⟨fun h=>(by rw [h] at hr;cases hr),fun j hj=>?_⟩
  by_cases hji:j = i
  ·subst hji;exact ⟨ei,hi,.inl ⟨b,H1,hs,HH⟩⟩
  ·obtain ⟨ej,hj1,hjW⟩:=HH.2 j (ready_mono hj hji)
   obtain ⟨hjun,oj,hoj,hall⟩:=mem_ready.1 hj
   have hnot:¬ Anc md ops j i:=fun ha=>by
    have h1:=anc_listed hcl ha (fun o ho e he hb=>by rw [hoj] at ho;cases ho;exact hall e he hb)
    have h0:=(mem_ready.1 hr).1
    rcases Nat.lt_or_ge i listed.size with h' | h'
    ·simp [h'] at h0 h1;rw [h0] at h1;cases h1
    ·simp [Array.getElem?_eq_none h'] at h1
   have hcomm:=hfree j oj ej hoj hj1 hji hjun hnot
   have hfree':∀ k ok ek,ops[k]? = some ok→(k,ek)∈all→k ≠ i→(listed.setIfInBounds j true).getD k true = false→¬ Anc md ops k i→commE ei ek = true:=fun k ok ek hk hek hki hun hno=>by
    refine hfree k ok ek hk hek hki ?_ hno
    by_cases hjk:j = k
    ·subst hjk;exact hjun
    ·rw [getD_set_ne true hjk] at hun;exact hun
   refine ⟨ej,hj1,?_⟩
   rcases hjW with ⟨bj,H2,hj2,hj3⟩ | hjW
   ·obtain ⟨H3,q1,q2⟩:=stp_comm hcomm hs hj2
    refine .inl ⟨bj,H3,q1,?_⟩
    refine ih (listed.setIfInBounds j true) (consO bj t) H3 b H2 (closed_set hcl hj) hfree' (ready_mono hr (Ne.symm hji)) q2 ?_
    rw [Array.setIfInBounds_comm _ _ hji]
    exact anyR_find hQ _ _ _ _ _ (comm_find hcomm (stp_dst hs) (stp_dst hj2)) hj3
   ·-- a call that touches own objects: what goes before it looks at none
    have hpure:pureE ei = true:=by
     have hw:weakE ei = true→keepE ej = true→False:=fun _ hk=>by
      obtain ⟨_,h⟩:=hjW
      unfold keepE at hk
      split at hk
      ·rename_i hs;rw [hs] at h;exact h
      ·cases hk
     have hnp:pureE ej = false∧readE ej = false∧allocE ej = false∧keepE ej = false∧appE ej = false:=by
      obtain ⟨_,h⟩:=hjW
      unfold pureE readE allocE keepE appE
      cases hs:ej.s <;> simp only [hs] at h ⊢ <;> first | exact h.elim | simp
     simp only [commE,hnp.1,hnp.2.1,hnp.2.2.1,hnp.2.2.2.1,hnp.2.2.2.2,Bool.or_false,Bool.and_false,Bool.and_eq_true] at hcomm
     exact hcomm.2
    obtain ⟨rfl,hsp⟩:=stp_pure hpure hs
    have hap:=hcomm
    simp only [commE,apartE,Bool.and_eq_true] at hap
    obtain ⟨⟨ha1,ha2⟩,_⟩:=hap
    refine .inr (hjW.ag (fun n hn=>lk_consO (by
     rw [stp_dst hs];intro e;rw [e] at ha1
     simp [hn] at ha1)) fun bj H' hbj hA=>?_)
    refine ih (listed.setIfInBounds j true) (consO bj t) H' b H' (closed_set hcl hj) hfree' (ready_mono hr (Ne.symm hji)) (stp_ag (hsp H') fun n hn=>(lk_consO (by
     rw [hbj];intro e;rw [e] at ha2
     simp [hn] at ha2)).symm) ?_
    rw [Array.setIfInBounds_comm _ _ hji]
    exact anyR_find hQ _ _ _ _ _ (comm_find hcomm (stp_dst hs) hbj) hA
end
def ancAdd (acc:List Nat) (es:List Edge):Nat:=es.foldr (fun e s=>if Region.binds .any e then (2^e.on ||| acc.getD e.on 0) ||| s else s) 0
def ancs (l:List Oper):List Nat:=l.foldl (fun acc o=>acc++[ancAdd acc o.after.toList]) []
theorem ancAdd_bit {acc:List Nat} {i:Nat}:∀ {es:List Edge},(ancAdd acc es).testBit i = true→∃ e∈es,Region.binds .any e = true∧(e.on = i ∨ (acc.getD e.on 0).testBit i = true)
 | [],h=>by simp [ancAdd] at h
 | e :: es,h=>by
  simp only [ancAdd,List.foldr_cons] at h
  by_cases hb:Region.binds .any e = true
  ·simp only [hb,if_true,Nat.testBit_or,Bool.or_eq_true,Nat.testBit_two_pow,decide_eq_true_eq] at h
   rcases h with (h | h) | h
   ·exact ⟨e,by simp,hb,.inl h⟩
   ·exact ⟨e,by simp,hb,.inr h⟩
   ·obtain ⟨e',h1,h2⟩:=ancAdd_bit (es:=es) h
    exact ⟨e',List.mem_cons_of_mem _ h1,h2⟩
  ·simp only [hb] at h
   obtain ⟨e',h1,h2⟩:=ancAdd_bit (es:=es) h
   exact ⟨e',List.mem_cons_of_mem _ h1,h2⟩
theorem ancs_sound {ops:Array Oper}:∀ (l2:List Oper) (l1:List Oper) (acc:List Nat),ops.toList = l1++l2→acc.length = l1.length→(∀ j i,(acc.getD j 0).testBit i = true→Anc .any ops j i) →
  ∀ j i,((l2.foldl (fun acc o=>acc++[ancAdd acc o.after.toList]) acc).getD j 0).testBit i = true→Anc .any ops j i
 | [],_,_,_,_,h=>h
 | o :: l2,l1,acc,ho,hl,h=>by
  simp only [List.foldl_cons]
  refine ancs_sound l2 (l1++[o]) _ (by simp [ho]) (by simp [hl]) fun j i hb=>?_
  by_cases hj:j < acc.length
  ·rw [List.getD_eq_getElem?_getD,List.getElem?_append_left hj,← List.getD_eq_getElem?_getD] at hb
   exact h j i hb
  ·by_cases hj2:j = acc.length
   ·subst hj2
    have hget:ops[acc.length]? = some o:=by
     rw [← Array.getElem?_toList,ho,hl]
     simp
    simp only [List.getD_eq_getElem?_getD,List.getElem?_append_right (Nat.le_refl _),Nat.sub_self,List.getElem?_cons_zero,Option.getD_some] at hb
    obtain ⟨e,h1,h2,h3⟩:=ancAdd_bit hb
    have h1':e∈o.after:=by simpa using h1
    rcases h3 with rfl | h3
    ·exact .dir hget h1' h2
    ·exact .tr hget h1' h2 (h _ _ h3)
   ·rw [List.getD_eq_getElem?_getD,List.getElem?_eq_none (by simp;omega)] at hb
    simp at hb
def basicOk:S→Bool
 | .op i=>!ghost i
 | .callp .. | .callvp ..=>true
 | _=>false
def callS:S→Bool
 | .call .. | .callv ..=>true
 | _=>false
def toE:S→Option E
 | .call d f args=>some ⟨none,.call d f args⟩
 | .callv d g args=>some ⟨none,.callv d g args⟩
 | .gd (.s n) b ds [s]=>if (basicOk s || callS s) && ds == (dstB s).toList then some ⟨some (n,b),s⟩ else none
 | s=>if basicOk s then some ⟨none,s⟩ else none
def elems:Nat→List Nat→List S→Option (List (Nat × E))
 | 0,_,_=>none
 | _+1,[],[]=>some []
 | m+1,[],[.alt ls]=>ls.foldr (fun p r=>match elems m p.1 p.2,r with | some a,some b=>some (a++b) | _,_=>none) (some [])
 | m+1,i :: π,s :: l=>match toE s,elems m π l with
  | some e,some es=>some ((i,e) :: es)
  | _,_=>none
 | _,_,_=>none
def freeD (ops:Array Oper) (an:List Nat) (all:List (Nat × E)) (listed:Array Bool) (i:Nat) (e:E):Bool :=
 all.all fun p=>p.1 == i || listed.getD p.1 true || (an.getD p.1 0).testBit i || commE e p.2
def lexD (ops:Array Oper) (an:List Nat) (all:List (Nat × E)):Nat→Bool→Nat→List Nat→List S→Array Bool→Bool
 | 0,_,_,_,_,_=>false
 | _+1,false,_,[],[],listed=>(Region.ready .any ops listed).isEmpty
 | m+1,false,n,[],[.alt ls],listed=>!(Region.ready .any ops listed).isEmpty && decide (0 < n) && (Region.ready .any ops listed).all (fun i=>ls.any fun p=>p.1.head? == some i) && ls.all fun p=>lexD ops an all m true n p.1 p.2 listed
 | m+1,br,n+1,i :: π,s :: l,listed=>match toE s with
  | some e=>(Region.ready .any ops listed).contains i && (br || (if callE e then Region.ready .any ops listed == [i] else freeD ops an all listed i e)) && lexD ops an all m false n π l (listed.setIfInBounds i true)
  | none=>false
 | _,_,_,_,_,_=>false
def okDE (P:Program) (N:Nat) (ops:Array Oper) (i:Nat) (e:E):Bool:=match ops[i]? with
 | some o=>okE P N o e.s && (match o.guard,e.g with
  | none,none=>true
  | some (k,b'),some (n,b)=>b' == b && ((ops[k]?).bind (·.dst)) == some n && o.dst == dstB e.s && (match dstB e.s with | some d=>decide (d < N) | none=>true)
  | _,_=>false)
 | none=>false
def okDr (P:Program) (N:Nat) (ops:Array Oper) (π:List Nat) (l:List S):Bool:=match elems 1000 π l with
 | some es=>es.all (fun p=>okDE P N ops p.1 p.2) && lexD ops (ancs ops.toList) es 1000 false ops.size π l (Array.replicate ops.size false)
 | none=>false
section
variable {P:Program} {c0:Cx} {N:Nat} {D:List Deferred} {o:Oper} {a:Act} {w:World} {t:T} {H H':List Ob} {Q:Act→World→Prop} {b:Option (Nat × V)} {ops:Array Oper}
theorem basic_wp {s:S} (hok:okE P N o s = true) (h:basicStp P s t H b H') (hs:Sm c0 N D t H a w) {next:Act→World→Prop} (hn:∀ v w',Sm c0 N D (consO b t) H' (a.put o.dst v) w'→next (a.put o.dst v) w'):wpD P o a w next:=by
 cases s <;> simp only [basicStp] at h
 case op i=>exact (op_sound hok h.2.1 hs).wp fun v w' h=>hn v w' h
 case callp d f args =>
  obtain ⟨rfl,x,h1,rfl⟩:=h
  exact wp_callvp (fst:=[]) (caps:=[]) hs hok rfl (by simpa using h1) fun v w' hS=>hn v w' (by rw [← setO_cons];exact hS)
 case callvp d g args =>
  obtain ⟨rfl,f,fst,caps,x,h0,h1,rfl⟩:=h
  exact wp_callvp hs hok h0 h1 fun v w' hS=>hn v w' (by rw [← setO_cons];exact hS)
theorem stp_wp {i:Nat} {e:E} (hok:okDE P N ops i e = true) (h:Stp P e t H b H') (hs:Sm c0 N D t H a w) {next:Act→World→Prop} (hn:∀ a' w',Sm c0 N D (consO b t) H' a' w'→next a' w'):wpOpD P ops i next a w:=by
 unfold okDE at hok
 unfold wpOpD
 split at hok
 case h_2=>cases hok
 rename_i o ho
 simp only [Bool.and_eq_true] at hok
 obtain ⟨hok,hg⟩:=hok
 unfold Stp at h
 split at hg
 ·rename_i hg1 hg2
  simp only [ho,hg2] at h ⊢
  rw [if_pos (wanted_none hg1 _)]
  exact (basic_wp hok h hs fun v w' hS=>hn _ _ hS)
 ·rename_i k b' n bb hg1 hg2
  simp only [Bool.and_eq_true,beq_iff_eq] at hg
  obtain ⟨⟨⟨rfl,hkn⟩,hd⟩,hdN⟩:=hg
  simp only [ho,hg2] at h ⊢
  rcases h with ⟨h1,h⟩ | ⟨h1,rfl,rfl⟩
  ·obtain ⟨v,hv,c',hw',hH',hrep⟩:=find_lt hs (lk_find h1 (by simp))
   have hrep':v = .bool b':=hrep
   subst hrep'
   have hw:Region.wanted o (yielded ops a.tmps) = true:=by simp [Region.wanted,hg1,yielded_val hkn hv]
   rw [if_pos hw]
   exact (basic_wp hok h hs fun v w' hS=>hn _ _ hS)
  ·have hw:Region.wanted o (yielded ops a.tmps) = false:=by
    simp only [Region.wanted,hg1,beq_eq_false_iff_ne]
    rcases h1 with ⟨c,h1,h2⟩ | h1
    ·obtain ⟨v,hv,c',hw',hH',hrep⟩:=find_lt hs (lk_find h1 (by simp))
     have hrep':v = .bool c:=hrep
     subst hrep'
     rw [yielded_val hkn hv]
     simpa using h2
    ·obtain ⟨v,hv,c',hw',hH',hrep⟩:=find_lt hs (lk_find h1 (by simp))
     obtain ⟨vs,hrep',hvs⟩:=hrep
     subst hrep'
     rw [yielded_val hkn hv]
     simp
   rw [if_neg (by rw [hw];simp)]
   refine hn _ _ ?_
   rw [hd]
   cases hdst:dstB e.s with
   | none=>exact hs
   | some d=>rw [hdst] at hdN;exact sm_undef hs (by simpa using hdN)
 ·cases hg
theorem stpW_wp {i:Nat} {e:E} {K:T→List Ob→Prop} (hok:okDE P N ops i e = true) (h:StpW P e t H K) (hs:Sm c0 N D t H a w) {next:Act→World→Prop} (hn:∀ t' H' a' w',K t' H'→Sm c0 N D t' H' a' w'→next a' w'):wpOpD P ops i next a w:=by
 rcases h with ⟨b,H',h1,h2⟩ | ⟨hg,h⟩
 ·exact stp_wp hok h1 hs fun a' w' hS=>hn _ _ _ _ h2 hS
 ·unfold okDE at hok
  unfold wpOpD
  split at hok
  case h_2=>cases hok
  rename_i o ho
  simp only [Bool.and_eq_true] at hok
  obtain ⟨hok,hgd⟩:=hok
  have hwt:Region.wanted o (yielded ops a.tmps) = true:=by
   split at hgd
   ·rename_i hg1 hg2;exact wanted_none hg1 _
   ·rename_i k b' n bb hg1 hg2
    simp only [Bool.and_eq_true,beq_iff_eq] at hgd
    obtain ⟨⟨⟨rfl,hkn⟩,hd⟩,hdN⟩:=hgd
    have h1:=hg _ _ hg2
    obtain ⟨v,hv,c',hw',hH',hrep⟩:=find_lt hs (lk_find h1 (by simp))
    have hrep':v = .bool b':=hrep
    subst hrep'
    simp [Region.wanted,hg1,yielded_val hkn hv]
   ·cases hgd
  simp only [ho]
  rw [if_pos hwt]
  cases hes:e.s <;> simp only [hes] at h hok
  case call d f args =>
   rcases h with ⟨R,h3,h4⟩ | ⟨idx,R,h1,h2,h3,h4⟩
   ·exact wp_callvA (F:=.func f) (fst:=[]) (caps:=[]) hs hok rfl (.inl ⟨f,rfl⟩) (by rw [specF_func];simpa using h3) fun x H' v w' hR hS=>hn _ _ _ _ (h4 x H' hR) hS
   exact wp_callv (F:=.func f) (fst:=[]) (caps:=[]) hs hok rfl (.inl ⟨f,rfl⟩) h1 h2 (by rw [specF_func];simpa using h3) fun x H' v w' hR hle hS _=>hn _ _ _ _ (h4 x H' hR hle) hS
  case callv d g args =>
   rcases h with ⟨f,fst,caps,R,h0,hF,h3,h4⟩ | ⟨f,fst,caps,idx,R,h0,hF,h1,h2,h3,h4⟩
   ·exact wp_callvA hs hok h0 hF h3 fun x H' v w' hR hS=>hn _ _ _ _ (h4 x H' hR) hS
   exact wp_callv hs hok h0 hF h1 h2 h3 fun x H' v w' hR hle hS _=>hn _ _ _ _ (h4 x H' hR hle) hS
  all_goals exact h.elim
theorem anyR_sound {all:List (Nat × E)} {QR:T→List Ob→Prop} (hok:∀ p∈all,okDE P N ops p.1 p.2 = true) (hQ:∀ t H a w,QR t H→Sm c0 N D t H a w→Q a w) :
  ∀ (n:Nat) (listed:Array Bool) (t:T) (H:List Ob) (a:Act) (w:World),AnyR P .any ops all QR n listed t H→Sm c0 N D t H a w→wpAnyD P .any ops Q n listed a w
 | 0,_,_,_,_,_,h,hs=>⟨h.1,hQ _ _ _ _ h.2 hs⟩
 | n+1,_,_,_,_,_,h,hs=>⟨fun h0=>hQ _ _ _ _ (h.1 h0) hs,fun i hi=>by
  obtain ⟨e,h1,h2⟩:=h.2 i hi
  exact stpW_wp (hok (i,e) h1) h2 hs fun t' H' a' w' h3 hS=>anyR_sound hok hQ n _ _ _ _ _ h3 hS⟩
theorem run_basic {nd:Nat→C} {B:Nat} {k:List K} {QX:X→T→List Ob→Prop} {s:S} {l:List S} (hb:basicOk s = true) (h:Run P nd B (.r (s :: l) :: k) t H QX):∃ b H',basicStp P s t H b H'∧Run P nd B (.r l :: k) (consO b t) H' QX:=by
 cases s <;> simp only [basicOk,Bool.false_eq_true,Bool.not_eq_true'] at hb
 case op i =>
  cases h with
  | op t' H' he hr =>
   obtain ⟨b,rfl,hd,hag⟩:=exec_ag hb he
   exact ⟨b,H',⟨hb,hag 0 t fun _ _=>rfl,hd⟩,hr⟩
 case callp d f args =>
  cases h with
  | callp x h1 h2=>exact ⟨_,_,⟨rfl,x,h1,rfl⟩,by rw [← setO_cons];exact h2⟩
 case callvp d g args =>
  cases h with
  | callvp f fst caps x h0 h1 h2=>exact ⟨_,_,⟨rfl,f,fst,caps,x,h0,h1,rfl⟩,by rw [← setO_cons];exact h2⟩
theorem run_elem {nd:Nat→C} {B:Nat} {k:List K} {QX:X→T→List Ob→Prop} {s:S} {l:List S} {e:E} (he:toE s = some e) (hcE:callE e = false) (h:Run P nd B (.r (s :: l) :: k) t H QX):∃ b H',Stp P e t H b H'∧Run P nd B (.r l :: k) (consO b t) H' QX:=by
 have undo:∀ (d:Option Nat),((d.toList.map fun d=>(d,V.tup []))++t) = consO (d.map (·,V.tup [])) t:=fun d=>by cases d <;> rfl
 unfold toE at he
 split at he
 ·cases he;cases hcE
 ·cases he;cases hcE
 ·rename_i n bb ds s
  split at he
  case isFalse=>cases he
  rename_i hc
  simp only [Bool.and_eq_true,Bool.or_eq_true,beq_iff_eq] at hc
  obtain ⟨hc,rfl⟩:=hc
  cases he
  have hc:basicOk s = true:=by
   rcases hc with hc | hc
   ·exact hc
   ·cases s <;> simp only [callS,Bool.false_eq_true] at hc <;> cases hcE
  cases h with
  | gd c hx hr =>
   by_cases hcb:c = bb
   ·subst hcb
    simp only [if_true] at hr
    obtain ⟨b,H',h1,h2⟩:=run_basic hc hr
    exact ⟨b,H',.inl ⟨hx,h1⟩,h2⟩
   ·simp only [hcb,if_false,List.nil_append,undo] at hr
    exact ⟨_,H,.inr ⟨.inl ⟨c,hx,hcb⟩,rfl,rfl⟩,hr⟩
  | gdU hx hr =>
   rw [undo] at hr
   exact ⟨_,H,.inr ⟨.inr hx,rfl,rfl⟩,hr⟩
 ·split at he
  case isFalse=>cases he
  rename_i hc
  cases he
  obtain ⟨b,H',h1,h2⟩:=run_basic hc h
  exact ⟨b,H',h1,h2⟩
theorem run_elemW {nd:Nat→C} {B:Nat} {k:List K} {QX:X→T→List Ob→Prop} {s:S} {l:List S} {e:E} (he:toE s = some e) (h:Run P nd B (.r (s :: l) :: k) t H QX):StpW P e t H fun t' H'=>Run P nd B (.r l :: k) t' H' QX:=by
 have undo:∀ (d:Option Nat),((d.toList.map fun d=>(d,V.tup []))++t) = consO (d.map (·,V.tup [])) t:=fun d=>by cases d <;> rfl
 by_cases hc:callE e = true
 ·unfold toE at he
  split at he
  ·cases he
   right
   cases h with
   | callA R h3 h4=>exact ⟨fun _ _ h=>(by cases h),.inl ⟨R,h3,h4⟩⟩
   | call idx R h1 h2 h3 h4=>exact ⟨fun _ _ h=>(by cases h),.inr ⟨idx,R,h1,h2,h3,h4⟩⟩
  ·cases he
   right
   cases h with
   | callvA f fst caps R h0 hF h3 h4=>exact ⟨fun _ _ h=>(by cases h),.inl ⟨f,fst,caps,R,h0,hF,h3,h4⟩⟩
   | callv f fst caps idx R h0 hF h1 h2 h3 h4=>exact ⟨fun _ _ h=>(by cases h),.inr ⟨f,fst,caps,idx,R,h0,hF,h1,h2,h3,h4⟩⟩
  ·rename_i n bb ds s
   split at he
   case isFalse=>cases he
   rename_i hb
   simp only [Bool.and_eq_true,Bool.or_eq_true,beq_iff_eq] at hb
   obtain ⟨hb,rfl⟩:=hb
   cases he
   cases h with
   | gd c hx hr =>
    by_cases hcb:c = bb
    ·subst hcb
     simp only [if_true,List.singleton_append] at hr
     right
     cases s <;> simp only [callE,Bool.false_eq_true] at hc
     case call =>
      cases hr with
      | callA R h3 h4=>exact ⟨fun _ _ h=>(by cases h;exact hx),.inl ⟨R,h3,h4⟩⟩
      | call idx R h1 h2 h3 h4=>exact ⟨fun _ _ h=>(by cases h;exact hx),.inr ⟨idx,R,h1,h2,h3,h4⟩⟩
     case callv =>
      cases hr with
      | callvA f fst caps R h0 hF h3 h4=>exact ⟨fun _ _ h=>(by cases h;exact hx),.inl ⟨f,fst,caps,R,h0,hF,h3,h4⟩⟩
      | callv f fst caps idx R h0 hF h1 h2 h3 h4=>exact ⟨fun _ _ h=>(by cases h;exact hx),.inr ⟨f,fst,caps,idx,R,h0,hF,h1,h2,h3,h4⟩⟩
    ·simp only [hcb,if_false,List.nil_append,undo] at hr
     exact .inl ⟨_,H,.inr ⟨.inl ⟨c,hx,hcb⟩,rfl,rfl⟩,hr⟩
   | gdU hx hr =>
    rw [undo] at hr
    exact .inl ⟨_,H,.inr ⟨.inr hx,rfl,rfl⟩,hr⟩
  ·split at he
   ·rename_i hb
    cases he
    unfold callE at hc
    split at hc
    ·rename_i hs;simp only at hs;subst hs;cases hb
    ·rename_i hs;simp only at hs;subst hs;cases hb
    ·cases hc
   ·cases he
 ·obtain ⟨b,H',h1,h2⟩:=run_elem he (by simpa using hc) h
  exact .inl ⟨b,H',h1,h2⟩
theorem StpW.mono {e:E} {K K':T→List Ob→Prop} (h:StpW P e t H K) (hk:∀ t' H',K t' H'→K' t' H'):StpW P e t H K':=h.ag (fun _ _=>rfl) fun _ _ _ h=>hk _ _ h
theorem elems_head:∀ {m:Nat} {π:List Nat} {l:List S} {es:List (Nat × E)} {i:Nat},elems m π l = some es→π.head? = some i →
  ∃ m' π' s l' e es',m = m'+1∧π = i :: π'∧l = s :: l'∧toE s = some e∧elems m' π' l' = some es'∧es = (i,e) :: es'
 | 0,_,_,_,_,h,_=>by simp [elems] at h
 | _+1,[],_,_,_,_,h=>by simp at h
 | _+1,_ :: _,[],_,_,h,_=>by simp [elems] at h
 | m+1,i' :: π',s :: l',es,i,hes,hpi=>by
  simp only [List.head?_cons,Option.some.injEq] at hpi
  subst hpi
  simp only [elems] at hes
  split at hes
  case h_2=>cases hes
  rename_i e es2 he hes2
  cases hes
  exact ⟨m,π',s,l',e,es2,rfl,rfl,rfl,he,hes2,rfl⟩
theorem lexD_sound {nd:Nat→C} {B:Nat} {k:List K} {QX:X→T→List Ob→Prop} {all:List (Nat × E)} {an:List Nat} (han:∀ j i,(an.getD j 0).testBit i = true→Anc .any ops j i) {QR:T→List Ob→Prop} (hQ:∀ t t2 H,(∀ n,find t n = find t2 n)→QR t H→QR t2 H) (hk:∀ t H,Run P nd B k t H QX→QR t H) :
  ∀ (m:Nat) (n:Nat) (π:List Nat) (l:List S) (es:List (Nat × E)) (listed:Array Bool) (t:T) (H:List Ob),elems m π l = some es→(∀ p∈es,p∈all)→Closed .any ops listed→lexD ops an all m false n π l listed = true→Run P nd B (.r l :: k) t H QX→AnyR P .any ops all QR n listed t H:=by
 intro m
 induction m using Nat.strongRecOn with
 | _ m ih =>
 intro n π l es listed t H hz hm hcl hl hr
 match m,n,π,l,hz,hl with
 | 0,_,_,_,hz,_=>simp [elems] at hz
 | m+1,n,[],[],hz,hl =>
  cases hr with
  | rend hr =>
   simp only [lexD,List.isEmpty_iff] at hl
   exact anyR_done hl (hk t H hr) n
 | m+1,n,[],[.alt ls],hz,hl =>
  simp only [lexD,Bool.and_eq_true,decide_eq_true_eq] at hl
  obtain ⟨⟨⟨hl1,hl2⟩,hl3⟩,hl4⟩:=hl
  cases hr with
  | alt hr =>
   obtain ⟨n,rfl⟩:∃ n',n = n'+1:=⟨n - 1,by omega⟩
   refine ⟨fun h0=>(by rw [h0] at hl1;simp at hl1),fun i hi=>?_⟩
   have h3:=List.all_eq_true.1 hl3 i hi
   obtain ⟨p,hp,hpi⟩:=List.any_eq_true.1 h3
   have h4:=List.all_eq_true.1 hl4 p hp
   have hrp:=hr p hp
   have hez:∀ (ls:List (List Nat × List S)) (es:List (Nat × E)),p∈ls→ls.foldr (fun p r=>match elems m p.1 p.2,r with | some a,some b=>some (a++b) | _,_=>none) (some []) = some es→∃ es',elems m p.1 p.2 = some es'∧∀ q∈es',q∈es:=by
    intro ls
    induction ls with
    | nil=>intro es hp;cases hp
    | cons q ls ihl =>
     intro es hp hz
     simp only [List.foldr_cons] at hz
     split at hz
     case h_2=>cases hz
     rename_i a b ha hb
     cases hz
     rcases List.mem_cons.1 hp with rfl | hp
     ·exact ⟨a,ha,fun q hq=>List.mem_append_left _ hq⟩
     ·obtain ⟨es',q1,q2⟩:=ihl b hp hb
      exact ⟨es',q1,fun q hq=>List.mem_append_right _ (q2 q hq)⟩
   simp only [elems] at hz
   obtain ⟨es',hes,hesm⟩:=hez ls es hp hz
   obtain ⟨π',l'⟩:=p
   simp only [beq_iff_eq] at hrp hes h4 hpi
   obtain ⟨m',π'',s,l'',e,es2,rfl,rfl,rfl,he,hes2,rfl⟩:=elems_head hes hpi
   simp only [lexD,he,Bool.true_or,Bool.and_true,Bool.and_eq_true] at h4
   exact ⟨e,hm _ (hesm _ (by simp)),(run_elemW he hrp).mono fun t' H' g2=>ih m' (by omega) n π'' l'' es2 _ _ _ hes2 (fun q hq=>hm q (hesm q (List.mem_cons_of_mem _ hq))) (closed_set hcl hi) h4.2 g2⟩
 | m+1,0,i :: π,s :: l,hz,hl=>simp [lexD] at hl
 | m+1,n+1,i :: π,s :: l,hz,hl =>
  simp only [elems] at hz
  split at hz
  case h_2=>cases hz
  rename_i e es' he hz'
  cases hz
  simp only [lexD,he,Bool.false_or,Bool.and_eq_true] at hl
  obtain ⟨⟨hl1,hl2⟩,hl3⟩:=hl
  have hri:i∈Region.ready .any ops listed:=by simpa using hl1
  by_cases hcE:callE e = true
  ·rw [if_pos hcE] at hl2
   simp only [beq_iff_eq] at hl2
   refine ⟨fun h0=>(by rw [h0] at hri;cases hri),fun j hj=>?_⟩
   rw [hl2] at hj
   have hj:j = i:=by simpa using hj
   subst hj
   exact ⟨e,hm (j,e) (by simp),(run_elemW he hr).mono fun t' H' g2=>ih m (by omega) n π l es' _ _ _ hz' (fun p hp=>hm p (List.mem_cons_of_mem _ hp)) (closed_set hcl hri) hl3 g2⟩
  rw [if_neg hcE] at hl2
  obtain ⟨b,H',h1,h2⟩:=run_elem he (by simpa using hcE) hr
  refine anyR_first hQ (hm (i,e) (by simp)) n listed t H b H' hcl (fun j oj ej hoj hej hji hun hno=>?_) hri h1 (ih m (by omega) n π l es' _ _ _ hz' (fun p hp=>hm p (List.mem_cons_of_mem _ hp)) (closed_set hcl hri) hl3 h2)
  have:=List.all_eq_true.1 hl2 _ hej
  simp only [Bool.or_eq_true,beq_iff_eq,hji,false_or,hun,Bool.false_eq_true] at this
  rcases this with this | this
  ·exact absurd (han j i this) hno
  ·exact this
 | _+1,_,[],_ :: _ :: _,hz,_=>simp [elems] at hz
 | _+1,_,_ :: _,[],hz,_=>simp [elems] at hz
 | _+1,_,[],[.op _],hz,_=>simp [elems] at hz
 | _+1,_,[],[.call ..],hz,_=>simp [elems] at hz
 | _+1,_,[],[.callv ..],hz,_=>simp [elems] at hz
 | _+1,_,[],[.callp ..],hz,_=>simp [elems] at hz
 | _+1,_,[],[.callvp ..],hz,_=>simp [elems] at hz
 | _+1,_,[],[.gd ..],hz,_=>simp [elems] at hz
theorem dr_sound {nd:Nat→C} {B:Nat} {k:List K} {QX:X→T→List Ob→Prop} (hn:∀ t' H' a' w',Run P nd B k t' H' QX→Sm c0 N D t' H' a' w'→Q a' w') {π:List Nat} {l:List S} (hk:okDr P N ops π l = true) (hr:Run P nd B (.r l :: k) t H QX)
  (hs:Sm c0 N D t H a w):wpAnyD P .any ops Q ops.size (Array.replicate ops.size false) a w:=by
 unfold okDr at hk
 split at hk
 case h_2=>cases hk
 rename_i es hz
 simp only [Bool.and_eq_true] at hk
 obtain ⟨h3,h4⟩:=hk
 have han:=ancs_sound (ops:=ops) ops.toList [] [] (by simp) rfl (fun j i h=>by simp at h)
 refine anyR_sound (QR:=fun t H=>∃ t2,(∀ n,find t2 n = find t n)∧Run P nd B k t2 H QX) (all:=es) (fun p hp=>List.all_eq_true.1 h3 p hp) ?_ _ _ t H a w (lexD_sound (nd:=nd) (B:=B) (k:=k) (QX:=QX) han ?_ (fun t H h=>⟨t,fun _=>rfl,h⟩) 1000 _ π l es _ t H hz (fun _ h=>h) (fun j o ho hj=>?_) h4 hr) hs
 ·rintro t H a w ⟨t2,hf,hr⟩ hs
  exact hn t2 H a w hr (sm_find hs fun s x hx=>by rw [← hf];exact hx)
 ·rintro t t2 H hf ⟨t3,h5,h6⟩
  exact ⟨t3,fun n=>by rw [h5,hf],h6⟩
 ·exfalso
  simp only [Array.getD_eq_getD_getElem?,Array.getElem?_replicate] at hj
  split at hj <;> simp at hj
end
end Go.Dw
end
section
namespace Go.Dw
def Cx.addNew (c:Cx) (ob:Obj):Cx:=⟨{ c.w with heap:=c.w.heap.push ob },c.ok,c.ρ,c.H⟩
theorem fr_addNew {c:Cx} (hc:Conc c) (ob:Obj):Fr c (c.addNew ob) where
 okS _ _ h:=h
 cell b o h:=cell_push (hc.okLt _ _ h)
 size:=by simp [Cx.addNew]
 okN b _ h:=.inl h
 heap b hb _:=heap_push_lt hb
 own b:=.inl
 ext i o' h:=⟨o',h,by cases o' <;> simp [ExtOb,Cx.addNew]⟩
 os:=rfl
 tape:=rfl
 output:=rfl
 drawn:=Nat.le_refl _
theorem conc_addNew {c:Cx} (hc:Conc c) (ob:Obj):Conc (c.addNew ob) where
 inj:=hc.inj
 okLt b o h:=by have:=hc.okLt _ _ h;simp [Cx.addNew];omega
 obj i o h:=orep_push hc (fr_addNew hc ob) ob rfl (fun b o hb h=>h) h
 glob:=hc.globFr (fr_addNew hc ob)
def Cx.letGo (c:Cx) (b:Nat) (ob:Obj) (i:Nat):Cx:=⟨{ c.w with heap:=c.w.heap.setIfInBounds b ob },c.ok,upd c.ρ i none,c.H.set i .dead⟩
theorem letGo_ok {c:Cx} (hc:Conc c) {b i k:Nat} {o0:Ob} (hi:c.H[i]? = some o0) (hρ:c.ρ i = some (b,k)) (hno:∀ x,¬ c.ok b x) (ob:Obj):Fr c (c.letGo b ob i)∧Conc (c.letGo b ob i):=by
 have hil:i < c.H.length:=(List.getElem?_eq_some_iff.1 hi).1
 have hf:Fr c (c.letGo b ob i):=by
  refine ⟨fun _ _ h=>h,fun b' o' h=>?_,by simp [Cx.letGo],fun b' o' h=>.inl h,fun b' hb' hn=>?_,fun b' hb'=>?_,fun j o' hj=>?_,rfl,rfl,rfl,Nat.le_refl _⟩
  ·have hne:b' ≠ b:=by intro e;subst e;exact hno _ h
   simp only [Cx.letGo,World.cell?,heap_set_ne hne]
  ·have hne:b' ≠ b:=by intro e;subst e;exact hn ⟨i,k,hil,hρ⟩
   exact heap_set_ne hne
  ·obtain ⟨j,k',hj,hr⟩:=hb'
   simp only [Cx.letGo,List.length_set] at hj hr
   by_cases e1:j = i
   ·subst e1;rw [upd_same] at hr;cases hr
   ·rw [upd_ne e1] at hr;exact .inl ⟨j,k',hj,hr⟩
  ·simp only [Cx.letGo,set_get hil]
   by_cases e:i = j
   ·subst e
    exact ⟨.dead,by simp,by cases o' <;> trivial⟩
   ·refine ⟨o',by simp [e,hj],?_⟩
    rw [upd_ne (Ne.symm e)]
    cases o' <;> simp [ExtOb]
 refine ⟨hf,fun j1 j2 b' k1 k2 h1 h2 h3 h4=>?_,fun b' o' h=>by simpa [Cx.letGo] using hc.okLt b' o' h,fun j o' hj=>?_,hc.globFr hf⟩
 ·simp only [Cx.letGo,List.length_set] at h1 h2 h3 h4
  by_cases e1:j1 = i
  ·subst e1;rw [upd_same] at h3;cases h3
  ·by_cases e2:j2 = i
   ·subst e2;rw [upd_same] at h4;cases h4
   ·rw [upd_ne e1] at h3;rw [upd_ne e2] at h4
    exact hc.inj j1 j2 b' k1 k2 h1 h2 h3 h4
 ·simp only [Cx.letGo,set_get hil] at hj
  by_cases e:i = j
  ·subst e
   simp at hj;subst hj;exact upd_same _ _ _
  ·simp only [e,if_false] at hj
   have:(c.letGo b ob i).ρ j = c.ρ j:=upd_ne (Ne.symm e)
   rw [this]
   refine orep_keep hf (hc.obj j o' hj) fun b' k' hr=>?_
   have hne:b' ≠ b:=by
    intro eb;subst eb
    exact e (hc.inj i j _ _ _ hil (List.getElem?_eq_some_iff.1 hj).1 hρ hr)
   exact ⟨heap_set_ne hne,fun x hx=>hx⟩
theorem setPs_rep {N:Nat} {c:Cx}:∀ {ps:List Nat} {it:List V} {vs:List Value} {t:T} {tm:Array Value} (d:List Deferred),(∀ p∈ps,p < N)→repL c it vs→tm.size = N→TRep N c t { tmps:=tm,defers:=d } →
  ((ps.zip vs).foldl (fun tmps p=>tmps.setIfInBounds p.1 p.2) tm).size = N∧TRep N c (setPs ps it t) { tmps:=(ps.zip vs).foldl (fun tmps p=>tmps.setIfInBounds p.1 p.2) tm,defers:=d }
 | [],it,vs,t,tm,d,_,_,hN,h=>by cases it <;> exact ⟨hN,h⟩
 | p :: ps,[],vs,t,tm,d,_,hr,hN,h=>by
  simp only [repL] at hr
  subst hr
  exact ⟨hN,h⟩
 | p :: ps,x :: it,vs,t,tm,d,hp,hr,hN,h=>by
  obtain ⟨v,vs',rfl,h2,h3⟩:=hr
  simp only [List.zip_cons_cons,List.foldl_cons,setPs]
  refine setPs_rep d (fun q hq=>hp q (by simp [hq])) h3 (by simpa using hN) ?_
  have:=trep_put (N:=N) (c:=c) (t:=t) (a:={ tmps:=tm,defers:=d }) hN (hp p (by simp)) h2 h
  exact this
def lsOf:X→LS
 | .fall=>.ready
 | .ret=>.done .ret
 | .exit id=>.done (.exit id)
def jmp:X→Option Code
 | .fall=>none
 | .ret=>some .ret
 | .exit id=>some (.exit id)
section
variable {P:Program}
theorem round_close {c' c5:Cx} (hc5:Conc c5) (hf5:Fr c' c5) {n l:Nat} {r:Loop} {t:T} (hn:c'.H.length = n+1) (hl:c5.H[n]? = some (.lp l .busy r t)) (htr:tsOk c' t r.tmps) (e:X) :
  ∃ c8 w6,(Instr.endRound l (jmp e)).run P c5.w = .ok (.bool (jmp e).isNone) w6∧c8.w = w6∧Conc c8∧Fr c' c8∧c8.H = cut n c5.H++[.lp l (lsOf e) r t]:=by
 have hnl:n < c5.H.length:=(List.getElem?_eq_some_iff.1 hl).1
 obtain ⟨q1,q2,q3,q4⟩:=hc5.obj n _ hl
 have hrun:=run_endRound (P:=P) (w:=c5.w) (l:=l) (r:=lpOf .busy r) (jmp e) q2
 have hob:(({ lpOf .busy r with state:=if (jmp e).isNone then .ready else .done,pending:=jmp e }:Loop)) = lpOf (lsOf e) r:=by cases e <;> rfl
 rw [hob] at hrun
 have hext:ExtOb (.lp l .busy r t) (.lp l (lsOf e) r t) (c5.ρ n) (c5.ρ n):=⟨rfl,rfl⟩
 have hf6:=fr_pt hc5 hl q1 q3 (.loop (lpOf (lsOf e) r)) hext
 have hlt:l < c5.w.heap.size:=(Array.getElem?_eq_some_iff.1 q2).1
 have hc6:Conc (c5.pt l (.loop (lpOf (lsOf e) r)) n (.lp l (lsOf e) r t)):=by
  refine conc_pt hc5 hl q1 q3 _ hext ⟨q1,?_,q3,q4.mono fun _ _=>rep_fr hf6⟩
  simp [Cx.pt,hlt]
 generalize hg6:c5.pt l (.loop (lpOf (lsOf e) r)) n (.lp l (lsOf e) r t) = c6 at hf6 hc6
 have hw6:c6.w = c5.w.putObj l (.loop (lpOf (lsOf e) r)):=by rw [← hg6];rfl
 have hH6:c6.H = c5.H.set n (.lp l (lsOf e) r t):=by rw [← hg6];rfl
 have hn6:n < c6.H.length:=by rw [hH6];simpa using hnl
 have hfr6:Fr c' c6:=hf5.trans hf6
 obtain ⟨hc7,⟨hf7,_,_⟩,hr7⟩:=clip_conc hc6 (D:=[]) ⟨hfr6,fun d hd=>(by cases hd),List.nodup_nil⟩ (m:=n+1) (by omega)
 have hH7:(c6.H.take (n+1)).map (renOb (clip (n+1))) = cut n c5.H++[renOb (clip (n+1)) (.lp l (lsOf e) r t)]:=by
  rw [List.take_succ_eq_append_getElem hn6,List.map_append]
  congr 1
  ·simp only [cut,hH6]
   rw [List.take_set_of_le (Nat.le_refl n)]
  ·simp only [List.map_cons,List.map_nil,hH6,List.getElem_set_self]
 have hcl:(cut n c5.H).length = n:=by simp [cut];omega
 let c8:Cx:=⟨c6.w,c6.ok,c6.ρ,cut n c5.H++[.lp l (lsOf e) r t]⟩
 rw [hH7] at hc7 hf7 hr7
 have hgetlt:∀ i,i < n→(cut n c5.H++[renOb (clip (n+1)) (.lp l (lsOf e) r t)])[i]? = c8.H[i]?:=fun i hi=>by
  simp only [c8]
  rw [List.getElem?_append_left (by omega),List.getElem?_append_left (by omega)]
 have hf8:Fr ⟨c6.w,c6.ok,c6.ρ,cut n c5.H++[renOb (clip (n+1)) (.lp l (lsOf e) r t)]⟩ c8:=by
  refine ⟨fun _ _ h=>h,fun _ _ _=>rfl,Nat.le_refl _,fun _ _ h=>.inl h,fun _ _ _=>rfl,fun b hb=>?_,fun i o hi=>?_,rfl,rfl,rfl,Nat.le_refl _⟩
  ·obtain ⟨j,k,hj,hr⟩:=hb
   exact .inl ⟨j,k,by simpa [c8] using hj,hr⟩
  ·have hi2:=(List.getElem?_eq_some_iff.1 hi).1
   simp only [List.length_append,List.length_cons,List.length_nil,hcl] at hi2
   by_cases e1:i < n
   ·rw [hgetlt i e1] at hi
    exact ⟨o,hi,by cases o <;> simp [ExtOb,c8]⟩
   ·have e2:i = (cut n c5.H).length:=by omega
    subst e2
    simp only [List.getElem?_concat_length,Option.some.injEq] at hi
    subst hi
    exact ⟨.lp l (lsOf e) r t,by simp [c8],rfl,rfl⟩
 have hf8':Fr c' c8:=hf7.trans hf8
 have hc8:Conc c8:=by
  refine ⟨fun i j b k k' h1 h2 h3 h4=>hc7.inj i j b k k' (by simpa [c8] using h1) (by simpa [c8] using h2) h3 h4,hc7.okLt,fun i o hi=>?_,hc7.glob⟩
  have hi2:=(List.getElem?_eq_some_iff.1 hi).1
  simp only [c8,List.length_append,List.length_cons,List.length_nil,hcl] at hi2
  by_cases e1:i < n
  ·exact orep_keep hf8 (hc7.obj i o (by rw [hgetlt i e1];exact hi)) fun b k _=>⟨rfl,fun _ h=>h⟩
  ·have e2:i = n:=by omega
   subst e2
   have ho:o = .lp l (lsOf e) r t:=by
    have:c8.H[i]? = some (.lp l (lsOf e) r t):=by
     simp only [c8]
     rw [List.getElem?_append_right (by omega),hcl];simp
    rw [this] at hi;cases hi;rfl
   subst ho
   obtain ⟨p1,p2,p3,_⟩:=hc6.obj i (.lp l (lsOf e) r t) (by rw [hH6];simp [hnl])
   exact ⟨p1,p2,p3,htr.mono fun _ _=>rep_fr hf8'⟩
 exact ⟨c8,_,hrun,hw6,hc8,hf8',rfl⟩
end
end Go.Dw
end
section
namespace Go.Dw
def okK (P:Program) (N:Nat) (nd:Nat→C) (top:Bool):Nat→Code→C→Bool
 | 0,_,_=>false
 | m+1,code,c=>match c with
  | .n k=>okK P N nd top m code (nd k)
  | .m k=>okK P N nd top m code (nd k)
  | .bad=>true
  | .gh l c=>l.all (okG N) && l.all ghost && okK P N nd top m code c
  | .skip=>match code with | .skip=>true | _=>false
  | .reg l=>match code with | .region _ ops false=>okL P N ops l (List.range ops.size) | _=>false
  | .dr π l=>match code with | .region _ ops true=>okDr P N ops π l | _=>false
  | .seq x y=>match code with | .seq a b=>okK P N nd top m a x && okK P N nd top m b y | _=>false
  | .cond z x y=>match code with | .cond c a b=>okO c z && okK P N nd top m a x && okK P N nd top m b y | _=>false
  | .blk id x=>match code with | .block id' a=>id == id' && okK P N nd top m a x | _=>false
  | .loop x=>match code with | .loop a=>okK P N nd top m a x | _=>false
  | .exit id=>match code with | .exit id'=>id == id' | _=>false
  | .ret=>match code with | .ret=>true | _=>false
  | .rf x ps y z=>match code with | .rangeFunc g ps' a b=>top && okO g x && ps'.toList == ps && ps.all (fun p=>decide (p < N)) && okK P N nd false m a y && okK P N nd false m b z | _=>false
def okT (P:Program) (N:Nat) (nd:Nat→C) (ro:Option Nat):List K→List Item→Prop
 | [],k=>k = []
 | .c c :: s,.code code :: k=>(∃ m,okK P N nd ro.isNone m code c = true)∧okT P N nd ro s k
 | .c (.loop x) :: s,.inLoop a :: k=>(∃ m,okK P N nd ro.isNone m a x = true)∧okT P N nd ro s k
 | .mk id :: s,.inBlock id' :: k=>id = id'∧okT P N nd ro s k
 | .br l _ :: s,.beginRound :: k=>ro = some l∧okT P N nd ro s k
 | _,_=>False
def Fin (P:Program) (m:Machine) (b:Frame) (cs:List Frame) (e:X) (a:Act) (w:World):Prop:=match e with
 | .fall=>Steps P m (lone (b.atR a []) cs w)
 | .ret=>∃ todo,Steps P m (lone (b.atR a (.code .ret :: todo)) cs w)
 | .exit id=>∃ k,exitTo id k = none∧Steps P m (lone (b.atR a (.code (.exit id) :: k)) cs w)
theorem Fin.of_steps {P m m1 b cs e a w} (h:Steps P m m1) (h':Fin P m1 b cs e a w):Fin P m b cs e a w:=by
 cases e with
 | fall=>exact h.trans h'
 | ret=>obtain ⟨t,q⟩:=h';exact ⟨t,h.trans q⟩
 | exit id=>obtain ⟨k,q1,q2⟩:=h';exact ⟨k,q1,h.trans q2⟩
def Con (P:Program) (N:Nat) (nd:Nat→C) (ro:Option Nat) (B:Nat) (s:List K) (t:T) (H:List Ob) (Q:X→T→List Ob→Prop):Prop :=
 ∀ c0 D a w k,c0.H.length≤B→okT P N nd ro s k→Sm c0 N D t H a w→∀ b cs,b.roundOf = ro→∃ D' e t' H' a' w',Q e t' H'∧Sm c0 N D' t' H' a' w'∧Fin P (lone (b.atR a k) cs w) b cs e a' w'
def Mo (P:Program) (N:Nat) (nd:Nat→C) (ro:Option Nat) (B:Nat):List K→T→List Ob→(X→T→List Ob→Prop)→Prop
 | .r l :: s,t,H,Q=>Run P nd B [.r l] t H (fun e t' H'=>e = .fall∧Con P N nd ro B s t' H' Q)
 | s,t,H,Q=>Con P N nd ro B s t H Q
section
variable {P:Program} {c0:Cx} {N:Nat} {D:List Deferred} {nd:Nat→C} {B:Nat} {Q:X→T→List Ob→Prop} {t:T} {H:List Ob} {s:List K}
theorem Con.of_mo {ro:Option Nat} (h:Mo P N nd ro B s t H Q):Con P N nd ro B s t H Q:=by
 cases s with
 | nil=>exact h
 | cons x s =>
  cases x with
  | c c=>exact h
  | mk id=>exact h
  | br l n=>exact h
  | r l=>intro c0 D a w k hB hk;cases k <;> simp [okT] at hk
theorem okT_code {ro:Option Nat} {c:C} {k:List Item} (h:okT P N nd ro (.c c :: s) k):(∃ code k' m,k = .code code :: k'∧okK P N nd ro.isNone m code c = true∧okT P N nd ro s k') ∨ ∃ x a k' m,c = .loop x∧k = .inLoop a :: k'∧okK P N nd ro.isNone m a x = true∧okT P N nd ro s k':=by
 cases k with
 | nil=>cases c <;> simp [okT] at h
 | cons i k =>
  cases i
  case code code =>
   left
   obtain ⟨⟨m,h1⟩,h2⟩:(∃ m,okK P N nd ro.isNone m code c = true)∧okT P N nd ro s k:=by cases c <;> simpa [okT] using h
   exact ⟨code,k,m,rfl,h1,h2⟩
  case inLoop a =>
   right
   cases c <;> simp only [okT] at h
   obtain ⟨⟨m,h1⟩,h2⟩:=h
   exact ⟨_,a,k,m,rfl,rfl,h1,h2⟩
  all_goals (cases c <;> simp [okT] at h)
theorem okT_pop {ro:Option Nat} {id:Nat}:∀ {s s':List K} {k:List Item},popTo id s = some s'→okT P N nd ro s k→∃ k',exitTo id k = some k'∧okT P N nd ro s' k'
 | [],_,_,h,_=>by simp [popTo] at h
 | .mk j :: s,s',k,h,hk=>by
  cases k with
  | nil=>simp [okT] at hk
  | cons i k =>
   cases i <;> simp only [okT] at hk
   obtain ⟨rfl,hk⟩:=hk
   simp only [popTo] at h
   simp only [exitTo,beq_iff_eq]
   by_cases e:j = id
   ·rw [if_pos e] at h ⊢
    cases h
    exact ⟨k,rfl,hk⟩
   ·rw [if_neg e] at h ⊢
    exact okT_pop h hk
 | .c c :: s,s',k,h,hk=>by
  simp only [popTo] at h
  rcases okT_code hk with ⟨code,k',m,rfl,_,h2⟩ | ⟨x,a,k',m,rfl,rfl,_,h2⟩
  ·simp only [exitTo];exact okT_pop h h2
  ·simp only [exitTo];exact okT_pop h h2
 | .r l :: s,_,k,_,hk=>by cases k <;> simp [okT] at hk
 | .br l n :: s,s',k,h,hk=>by
  cases k with
  | nil=>simp [okT] at hk
  | cons i k =>
   cases i <;> simp only [okT] at hk
   simp only [popTo] at h
   simp only [exitTo]
   exact okT_pop h hk.2
theorem okT_pop_none {ro:Option Nat} {id:Nat}:∀ {s:List K} {k:List Item},popTo id s = none→okT P N nd ro s k→exitTo id k = none
 | [],k,_,hk=>by simp only [okT] at hk;subst hk;rfl
 | .mk j :: s,k,h,hk=>by
  cases k with
  | nil=>simp [okT] at hk
  | cons i k =>
   cases i <;> simp only [okT] at hk
   obtain ⟨rfl,hk⟩:=hk
   simp only [popTo] at h
   simp only [exitTo,beq_iff_eq]
   by_cases e:j = id
   ·rw [if_pos e] at h;cases h
   ·rw [if_neg e] at h ⊢
    exact okT_pop_none h hk
 | .c c :: s,k,h,hk=>by
  simp only [popTo] at h
  rcases okT_code hk with ⟨code,k',m,rfl,_,h2⟩ | ⟨x,a,k',m,rfl,rfl,_,h2⟩
  ·simp only [exitTo];exact okT_pop_none h h2
  ·simp only [exitTo];exact okT_pop_none h h2
 | .r l :: s,k,_,hk=>by cases k <;> simp [okT] at hk
 | .br l n :: s,k,h,hk=>by
  cases k with
  | nil=>simp [okT] at hk
  | cons i k =>
   cases i <;> simp only [okT] at hk
   simp only [popTo] at h
   simp only [exitTo]
   exact okT_pop_none h hk.2
theorem okL_ghosts {ops:Array Oper}:∀ {l:List I},l.all (okG N) = true→l.all ghost = true→okL P N ops (l.map .op) [] = true
 | [],_,_=>rfl
 | i :: l,h,h'=>by
  simp only [List.all_cons,Bool.and_eq_true] at h h'
  simp only [List.map_cons,okL,h'.1,if_true,h.1,Bool.true_and]
  exact okL_ghosts h.2 h'.2
theorem sm_drawn {a:Act} {w:World} (hs:Sm c0 N D t H a w) (n:Nat) (hn:w.drawn≤n):Sm c0 N D t H a { w with drawn:=n }:=by
 obtain ⟨q1,q2,c,h3,h4,h5,h6,h7⟩:=hs
 subst h3
 have hf:Fr c { c with w:={ c.w with drawn:=n } }:=⟨fun _ _ h=>h,fun _ _ _=>rfl,Nat.le_refl _,fun _ _ h=>.inl h,fun _ _ _=>rfl,fun _ h=>.inl h,fun i o hi=>⟨o,hi,by cases o <;> simp [ExtOb]⟩,rfl,rfl,rfl,hn⟩
 exact ⟨q1,q2,{ c with w:={ c.w with drawn:=n } },rfl,h4,⟨h5.inj,h5.okLt,fun i o ho=>orep_keep hf (h5.obj i o ho) fun b k hr=>⟨rfl,fun _ h=>h⟩,h5.glob⟩,h6.trans hf,trep_fr hf h7⟩
theorem yield_sound {l n:Nat} {r:Loop} {a' b':C} {t:T} {it:List V} {H1:List Ob} {next:List Ob→Prop} {stop:X→List Ob→Prop} (hps:∀ p∈r.params.toList,p < N) (hit:it.length = r.params.size) (hN:r.tmps.size = N) (hn:H1.length = n)
  (ha:∃ m,okK P N nd false m r.assign a' = true) (hb:∃ m,okK P N nd false m r.body b' = true)
  (hbody:Con P N nd (some l) (n+1) [.c a',.br l n,.c b'] (setPs r.params.toList it t) (H1++[.lp l .ready r t]) (RoundEnd l n r t next stop)) :
  SpecF P (.yield l) it (H1++[.lp l .ready r t]) fun x H'=>∃ e,x = .bool (jmp e).isNone∧∃ H2,H' = H2++[.lp l (lsOf e) r t]∧H2.length = n∧match e with | .fall=>next H2 | e=>stop e H2:=by
 intro c' vs hH hc hr
 have hlast:c'.H[n]? = some (.lp l .ready r t):=by rw [hH,List.getElem?_append_right (by omega),hn];simp
 have hlen:c'.H.length = n+1:=by rw [hH];simp [hn]
 obtain ⟨q1,q2,q3,q4⟩:=hc.obj n _ hlast
 have hvl:=repL_length hr
 refine ⟨_,_,_,_,run_yield (r:=lpOf .ready r) q2 (by simp [lpOf];omega),fun c cs=>?_⟩
 have hzip:(((lpOf .ready r).params.zip vs.toArray).foldl (fun tmps (p:Nat × Value)=>tmps.setIfInBounds p.1 p.2) (lpOf .ready r).tmps) = ((r.params.toList.zip vs).foldl (fun tmps p=>tmps.setIfInBounds p.1 p.2) r.tmps):=by
  rw [← Array.foldl_toList,Array.toList_zip];rfl
 generalize htm:((r.params.toList.zip vs).foldl (fun tmps p=>tmps.setIfInBounds p.1 p.2) r.tmps) = tm at hzip
 obtain ⟨hsz,htr⟩:=setPs_rep (N:=N) (c:=c') (ps:=r.params.toList) (it:=it) (vs:=vs) (t:=t) (tm:=r.tmps) [] hps hr hN (fun s x hx=>⟨by have:=(q4 s x hx).1;omega,(q4 s x hx).2⟩)
 rw [htm] at hsz htr
 let fr:Frame:={ (default:Frame) with fn:=r.fn,kind:=.normal,roundOf:=some l }
 have hfr:Frame.round l (lpOf .ready r).fn (((lpOf .ready r).params.zip vs.toArray).foldl (fun tmps (t,a)=>tmps.setIfInBounds t a) (lpOf .ready r).tmps) (lpOf .ready r).assign (lpOf .ready r).body .normal = fr.atR { tmps:=tm,defers:=[] } [.code r.assign,.beginRound,.code r.body]:=by
  rw [hzip];simp [Frame.round,Frame.atR,fr,lpOf]
 rw [hfr]
 have hS:Sm c' N [] (setPs r.params.toList it t) (H1++[.lp l .ready r t]) { tmps:=tm,defers:=[] } c'.w:=⟨hsz,rfl,c',rfl,hH,hc,⟨.refl c',fun d hd=>(by cases hd),List.nodup_nil⟩,htr⟩
 obtain ⟨D',e,t',H',a1,w1,⟨he1,he2⟩,⟨g1,g2,c5,g3,g4,g5,g6,g7⟩,hfin⟩:=hbody c' [] { tmps:=tm,defers:=[] } c'.w [.code r.assign,.beginRound,.code r.body] (by omega) (by simp only [okT];exact ⟨ha,trivial,hb,trivial⟩) hS fr (c :: cs) rfl
 subst g3 g4
 obtain ⟨c8,w6,hrun,hw8,hc8,hf8,hH8⟩:=round_close (P:=P) g5 g6.fr hlen he1 q4 e
 have hlen5:n < c5.H.length:=(List.getElem?_eq_some_iff.1 he1).1
 refine ⟨.bool (jmp e).isNone,w6,⟨_,.bool (jmp e).isNone,c8,rfl,hw8,⟨e,rfl,_,hH8,by simp [cut];omega,?_⟩,hc8,rfl,hf8⟩,?_⟩
 ·cases e <;> exact he2
 ·cases e with
  | fall=>exact Steps.trans hfin (.one (stepR_round_end rfl rfl hrun))
  | ret=>obtain ⟨todo,hst⟩:=hfin;exact hst.trans (.one (stepR_round_ret rfl rfl hrun))
  | exit id=>obtain ⟨k,hk,hst⟩:=hfin;exact hst.trans (.one (stepR_round_exit rfl rfl hk hrun))
theorem rf_sound {a:Act} {w:World} (hs:Sm c0 N D t H a w) {x:O} {g:Operand} (hg:okO g x = true) {f:Nat} {fst caps:List V} (hx:ev t x = .fn (.func f) fst caps) {items:List (List V)} (hit:IterSpec P f fst caps items)
  {ps:Array Nat} (hlen:∀ it∈items,it.length = ps.size) (hps:∀ p∈ps.toList,p < N) {Good:Nat→List Ob→Prop} {Stop:X→List Ob→Prop} (h0:Good 0 H) (htS:(t.map fun p=>(p.1,ren (clip H.length) p.2)) = t) (hGs:∀ k H1,Good k H1→Shut H.length H1) (hSs:∀ e H1,Stop e H1→Shut H.length H1) {asg bd:Code} {a' b':C}
  (ha:∃ m,okK P N nd false m asg a' = true) (hb:∃ m,okK P N nd false m bd b' = true)
  (hbody:∀ l r k it H1,items[k]? = some it→Good k H1→Con P N nd (some l) (H.length+1) [.c a',.br l H.length,.c b'] (setPs ps.toList it t) (H1++[.lp l .ready r t]) (RoundEnd l H.length r t (Good (k+1)) Stop))
  {b:Frame} (hro:b.roundOf = none) (k:List Item) (cs:List Frame) :
  ∃ D' a1 w1 H1 e,Sm c0 N D' t (H1++[.dead]) a1 w1∧Steps P (lone (b.atR a (.code (.rangeFunc g ps asg bd) :: k)) cs w) (lone (b.atR a1 ((jmp e).map Item.code |>.toList |>.append k)) cs w1)∧H1.length = H.length∧match e with | .fall=>Good items.length H1 | e=>Stop e H1:=by
 have hGl:∀ k H1,Good k H1→H1.length = H.length:=fun k H1 h=>(hGs k H1 h).1
 obtain ⟨g1,g2,c,rfl,rfl,hc,hfd,h7⟩:=hs
 have hshut:∀ l st r H1,Shut c.H.length H1→Shut (c.H.length+1) (H1++[.lp l st r t]):=fun l st r H1 h=>by
  refine ⟨by simp [h.1],?_⟩
  rw [List.map_append,shut_map h.2 (clip_up (by omega))]
  simp only [List.map_cons,List.map_nil,renOb,t_up htS (Nat.le_succ _)]
 have hrf:=ev_rep h7 hg
 rw [hx] at hrf
 obtain ⟨va,vc,e1,e2,e3⟩:=hrf
 let rec0:Loop:={ state:=.ready,pending:=none,fn:=b.fn,tmps:=a.tmps,params:=ps,assign:=asg,body:=bd,defers:=c.w.heap.size }
 have hfA:=fr_addNew hc (.deferred (some []))
 have hcA:=conc_addNew hc (.deferred (some []))
 have hDA:FrD c0 (markOf c.w.heap.size :: D) (c.addNew (.deferred (some []))):=by
  refine ⟨hfd.fr.trans hfA,fun d hd=>?_,List.nodup_cons.2 ⟨fun hd=>?_,hfd.nodup⟩⟩
  case refine_2 =>
   obtain ⟨b',p1,p2,p3,_⟩:=hfd.marks _ hd
   have hlt:=(Array.getElem?_eq_some_iff.1 p3).1
   simp only [markOf,Deferred.mk.injEq,Target.collected.injEq,and_true] at p1
   omega
  rcases List.mem_cons.1 hd with rfl | hd
  ·refine ⟨_,rfl,hfd.fr.size,heap_alloc_new _ _,?_,fun o ho=>absurd (hc.okLt _ _ ho) (Nat.lt_irrefl _)⟩
   rintro ⟨i,k',hi,hr⟩
   exact absurd (own_lt hc hi hr) (Nat.lt_irrefl _)
  ·exact (hfd.trans hfA).marks d hd
 generalize hcAg:c.addNew (.deferred (some [])) = cA at hfA hcA hDA
 have hAw:cA.w = c.w.alloc (.deferred (some [])):=by rw [← hcAg];rfl
 have hAH:cA.H = c.H:=by rw [← hcAg];rfl
 have hAs:cA.w.heap.size = c.w.heap.size+1:=by rw [hAw];simp
 have hfB:=fr_addOwn hcA (.loop rec0) (.lp cA.w.heap.size .ready rec0 t) 0 (fun _=>False)
 have hcB:Conc (cA.addOwn (.loop rec0) (.lp cA.w.heap.size .ready rec0 t) 0 fun _=>False):=by
  refine conc_addOwn hcA _ _ _ _ ⟨rfl,heap_alloc_new _ _,fun o ho=>absurd (hcA.okLt _ _ (ho.resolve_right (by simp))) (Nat.lt_irrefl _),fun s y hy=>⟨by have:=(h7 s y hy).1;show s < a.tmps.size;omega,rep_fr hfB (rep_fr hfA (h7 s y hy).2)⟩⟩
 generalize hcBg:(cA.addOwn (.loop rec0) (.lp cA.w.heap.size .ready rec0 t) 0 fun _=>False) = cB at hfB hcB
 have hBw:cB.w = (c.w.alloc (.deferred (some []))).alloc (.loop rec0):=by rw [← hcBg,← hAw];rfl
 have hBH:cB.H = c.H++[.lp (c.w.heap.size+1) .ready rec0 t]:=by rw [← hcBg,← hAs,← hAH];rfl
 have henter:(Instr.enterLoop b.fn a.tmps ps asg bd b.roundOf).run P c.w = .ok (c.w.heap.size+1,[markOf c.w.heap.size]) cB.w:=by
  rw [hro,run_enterLoop_outer,hBw];rfl
 generalize hl:c.w.heap.size+1 = l at *
 have hcall:=hit (.yield l) (fun k' H'=>∃ H1,H' = H1++[.lp l .ready rec0 t]∧Good k' H1) (fun H'=>∃ e H1,H' = H1++[.lp l (lsOf e) rec0 t]∧H1.length = c.H.length∧e ≠ .fall∧Stop e H1) (c.H.length+1) (fun k' H' ⟨H1,h1,h2⟩=>h1 ▸ hshut _ _ _ _ (hGs _ _ h2)) (fun H' ⟨e,H1,h1,_,_,h2⟩=>h1 ▸ hshut _ _ _ _ (hSs _ _ h2)) (by
  rintro k' it H' hk' ⟨H1,rfl,hG⟩
  have hmem:=List.mem_of_getElem? hk'
  have:=yield_sound (P:=P) (nd:=nd) (N:=N) (l:=l) (n:=c.H.length) (r:=rec0) (a':=a') (b':=b') (t:=t) (it:=it) (H1:=H1) (next:=Good (k'+1)) (stop:=Stop) hps (hlen it hmem) g1 (hGl _ _ hG) ha hb (hbody l rec0 k' it H1 hk' hG)
  intro c' vs h1 h2 h3
  refine (this c' vs h1 h2 h3).mono ?_
  rintro e w' ⟨v,x',c'',p1,p2,⟨ex,rfl,H2,p3,p4,p5⟩,p6⟩
  refine ⟨v,_,c'',p1,p2,?_,p6⟩
  cases ex with
  | fall=>exact .inl ⟨rfl,H2,p3,p5⟩
  | ret=>exact .inr ⟨rfl,.ret,H2,p3,p4,by simp,p5⟩
  | exit id=>exact .inr ⟨rfl,.exit id,H2,p3,p4,by simp,p5⟩) cB.H ⟨c.H,hBH,h0⟩
 obtain ⟨hin,hcalls⟩:=hcall cB (va.toList++[.func (.yield l) #[] #[]]++vc.toList) rfl hcB (repL_append (repL_append (repL_fr hfB (repL_fr hfA e2)) ⟨_,[],rfl,⟨#[],#[],rfl,rfl,rfl⟩,rfl⟩) (repL_fr hfB (repL_fr hfA e3)))
 have hargs:(va.toList++[Value.func (.yield l) #[] #[]]++vc.toList).toArray = va++#[Value.func (.yield l) #[] #[]]++vc:=by apply Array.ext';simp
 rw [hargs] at hin hcalls
 have hres:(resolve a.eval (rangeCall g l) 0).run P cB.w = .ok { target:=.fn (.func f) vc,args:=va++#[Value.func (.yield l) #[] #[]] } cB.w:=by
  have hcst:∀ v,a.eval (.const v) = v:=fun _=>rfl
  simp [resolve,rangeCall,e1,Deferred.ofValue,hcst]
 have hstep:=stepR_rangeFunc (P:=P) (b:=b) (a:=a) (k:=k) (cs:=cs) (w:=c.w) (g:=g) (ps:=ps) (assign:=asg) (body:=bd) henter hres (by simpa [invoke] using hin)
 obtain ⟨ev,w3,fr,⟨v,xv,c3,rfl,rfl,hQ,hc3,_,hf3⟩,hsteps,_,hleave⟩:=hcalls (b.atR { a with defers:=[markOf c.w.heap.size]++a.defers } (.inRangeFunc l :: k) :: cs)
 have hback:Steps P (lone (b.atR a (.code (.rangeFunc g ps asg bd) :: k)) cs c.w) (lone (b.atR { a with defers:=markOf c.w.heap.size :: a.defers } (.endRangeFunc l :: k)) cs c3.w):=by
  refine .head hstep (Steps.trans hsteps (.one ?_))
  rw [step_leave_returned hleave,finish_atR_inRangeFunc];rfl
 obtain ⟨e,H1,hH3,hl1,hpost⟩:∃ e H1,c3.H = H1++[.lp l (lsOf e) rec0 t]∧H1.length = c.H.length∧match e with | .fall=>Good items.length H1 | e=>Stop e H1:=by
  rcases hQ with ⟨H1,h1,h2⟩ | ⟨e,H1,h1,h2,h3,h4⟩
  ·exact ⟨.fall,H1,h1,hGl _ _ h2,h2⟩
  ·refine ⟨e,H1,h1,h2,?_⟩
   cases e with
   | fall=>exact absurd rfl h3
   | ret=>exact h4
   | exit id=>exact h4
 have hlast:c3.H[c.H.length]? = some (.lp l (lsOf e) rec0 t):=by rw [hH3,List.getElem?_append_right (by omega),hl1];simp
 obtain ⟨q1,q2,q3,q4⟩:=hc3.obj _ _ hlast
 have hpend:(lpOf (lsOf e) rec0).pending = jmp e:=by cases e <;> rfl
 have hend:(Instr.endLoop l).run P c3.w = .ok (jmp e) (c3.w.putObj l (.loop { lpOf (lsOf e) rec0 with state:=.exhausted })):=by
  rw [← hpend]
  exact run_endLoop (P:=P) (w:=c3.w) (l:=l) (r:=lpOf (lsOf e) rec0) q2 (by cases e <;> simp [lsOf,lpOf])
 obtain ⟨hf4,hc4⟩:=letGo_ok hc3 hlast q1 q3 (.loop { lpOf (lsOf e) rec0 with state:=.exhausted })
 have hfr:=(hfA.trans hfB).trans (hf3.trans hf4)
 refine ⟨markOf c.w.heap.size :: D,{ a with defers:=markOf c.w.heap.size :: a.defers },_,H1,e,⟨g1,by rw [g2],c3.letGo l (.loop { lpOf (lsOf e) rec0 with state:=.exhausted }) c.H.length,rfl,?_,hc4,(hDA.trans hfB).trans (hf3.trans hf4),fun s y hy=>⟨(h7 s y hy).1,rep_fr hfr (h7 s y hy).2⟩⟩,?_,hl1,hpost⟩
 ·show c3.H.set c.H.length .dead = _
  rw [hH3,← hl1,List.set_append_right _ _ (Nat.le_refl _)]
  simp
 ·exact hback.trans (.one (stepR_endRangeFunc hend))
theorem run_mo (hm:P.follows .mixedOrders = true) (h:Run P nd B s t H Q):∀ ro,Mo P N nd ro B s t H Q:=by
 induction h with
 | done hq =>
  intro ro c0 D a w k hB hk hs b cs hb
  simp only [okT] at hk
  subst hk
  exact ⟨D,.fall,_,_,a,w,hq,hs,.refl _ _⟩
 | skip _ ih =>
  intro ro
  have ih:=Con.of_mo (ih ro)
  intro c0 D a w k hB hk hs b cs hb
  rcases okT_code hk with ⟨code,k,m,rfl,h1,h2⟩ | ⟨x,a,k',m,h0,_⟩
  ·cases m with
   | zero=>simp [okK] at h1
   | succ m =>
    cases code <;> simp only [okK,Bool.false_eq_true] at h1
    obtain ⟨D',e,t',H',a',w',r1,r2,r3⟩:=ih c0 D a w k hB h2 hs b cs hb
    exact ⟨D',e,t',H',a',w',r1,r2,.of_steps (.one stepR_skip) r3⟩
  ·cases h0
 | seq _ ih =>
  intro ro
  have ih:=Con.of_mo (ih ro)
  intro c0 D a w k hB hk hs b cs hb
  rcases okT_code hk with ⟨code,k,m,rfl,h1,h2⟩ | ⟨x,a,k',m,h0,_⟩
  ·cases m with
   | zero=>simp [okK] at h1
   | succ m =>
    cases code <;> simp only [okK,Bool.false_eq_true,Bool.and_eq_true] at h1
    rename_i c1 c2
    obtain ⟨D',e,t',H',a',w',r1,r2,r3⟩:=ih c0 D a w (.code c1 :: .code c2 :: k) hB (by simp only [okT];exact ⟨⟨m,h1.1⟩,⟨m,h1.2⟩,h2⟩) hs b cs hb
    exact ⟨D',e,t',H',a',w',r1,r2,.of_steps (.one stepR_seq) r3⟩
  ·cases h0
 | reg _ ih =>
  intro ro c0 D a w k hB hk hs b cs hb
  rcases okT_code hk with ⟨code,k,m,rfl,h1,h2⟩ | ⟨x,a,k',m,h0,_⟩
  ·cases m with
   | zero=>simp [okK] at h1
   | succ m =>
    cases code <;> simp only [okK,Bool.false_eq_true] at h1
    rename_i id ops draw
    cases draw <;> simp only [Bool.false_eq_true] at h1
    have:=reg_sound (Q:=fun a' w'=>∃ t' H',Sm c0 N D t' H' a' w'∧Con P N nd ro _ _ t' H' _) hB (fun t' H' a' w' hr' hs'=>⟨t',H',hs',by cases hr' with | done hq=>exact hq.2⟩) _ _ _ _ a w h1 (ih ro) hs
    obtain ⟨a1,w1,⟨t1,H1,hs1,hc1⟩,harr⟩:=region_steps (id:=id) this b k cs
    obtain ⟨D',e,t',H',a',w',r1,r2,r3⟩:=hc1 c0 D a1 w1 k hB h2 hs1 b cs hb
    exact ⟨D',e,t',H',a',w',r1,r2,.of_steps harr r3⟩
  ·cases h0
 | dr _ ih =>
  intro ro c0 D a w k hB hk hs b cs hb
  rcases okT_code hk with ⟨code,k,m,rfl,h1,h2⟩ | ⟨x,a,k',m,h0,_⟩
  ·cases m with
   | zero=>simp [okK] at h1
   | succ m =>
    cases code <;> simp only [okK,Bool.false_eq_true] at h1
    rename_i id ops draw
    cases draw <;> simp only [Bool.false_eq_true] at h1
    have:=dr_sound (Q:=fun a' w'=>∃ t' H',Sm c0 N D t' H' a' w'∧Con P N nd ro _ _ t' H' _) (fun t' H' a' w' hr' hs'=>⟨t',H',hs',by cases hr' with | done hq=>exact hq.2⟩) h1 (ih ro) (sm_drawn hs (w.drawn+1) (Nat.le_succ _))
    obtain ⟨a1,w1,⟨t1,H1,hs1,hc1⟩,harr⟩:=region_draw_steps hm (id:=id) this b k cs
    obtain ⟨D',e,t',H',a',w',r1,r2,r3⟩:=hc1 c0 D a1 w1 k hB h2 hs1 b cs hb
    exact ⟨D',e,t',H',a',w',r1,r2,.of_steps harr r3⟩
  ·cases h0
 | gh _ ih =>
  intro ro c0 D a w k hB hk hs b cs hb
  rcases okT_code hk with ⟨code,k,m,rfl,h1,h2⟩ | ⟨x,a,k',m,h0,_⟩
  ·cases m with
   | zero=>simp [okK] at h1
   | succ m =>
    simp only [okK,Bool.and_eq_true] at h1
    have:=reg_sound (ops:=#[]) (Q:=fun a' w'=>∃ t' H',Sm c0 N D t' H' a' w'∧Con P N nd ro _ _ t' H' _) hB (fun t' H' a' w' hr' hs'=>⟨t',H',hs',by cases hr' with | done hq=>exact hq.2⟩) _ [] _ _ a w (okL_ghosts h1.1.1 h1.1.2) (ih ro) hs
    obtain ⟨t1,H1,hs1,hc1⟩:=this
    exact hc1 c0 D a w (.code code :: k) hB (by simp only [okT];exact ⟨⟨m,h1.2⟩,h2⟩) hs1 b cs hb
  ·cases h0
 | rend _ ih=>exact fun ro=>.rend (.done ⟨rfl,Con.of_mo (ih ro)⟩)
 | op t' H' he _ ih=>exact fun ro=>.op t' H' he (ih ro)
 | call idx R h1 h2 h3 _ ih=>exact fun ro=>.call idx R h1 h2 h3 fun x H' hR hl=>ih x H' hR hl ro
 | callv f fst caps idx R h0 hF h1 h2 h3 _ ih=>exact fun ro=>.callv f fst caps idx R h0 hF h1 h2 h3 fun x H' hR hl=>ih x H' hR hl ro
 | callA R h3 _ ih=>exact fun ro=>.callA R h3 fun x H' hR=>ih x H' hR ro
 | callvA F fst caps R h0 hF h3 _ ih=>exact fun ro=>.callvA F fst caps R h0 hF h3 fun x H' hR=>ih x H' hR ro
 | callp x h1 _ ih=>exact fun ro=>.callp x h1 (ih ro)
 | callvp f fst caps x h0 h1 _ ih=>exact fun ro=>.callvp f fst caps x h0 h1 (ih ro)
 | alt _ ih=>exact fun ro=>.alt fun p hp=>ih p hp ro
 | nx j i n seen es h1 h2 h3 h4 _ _ ih5 ih6=>exact fun ro=>.nx j i n seen es h1 h2 h3 h4 (fun h=>ih5 h ro) fun k p hp hk=>ih6 k p hp hk ro
 | gd c hx _ ih=>exact fun ro=>.gd c hx (ih ro)
 | gdU hx _ ih=>exact fun ro=>.gdU hx (ih ro)
 | cond c hx _ ih =>
  intro ro
  have ih:=Con.of_mo (ih ro)
  intro c0 D a w k hB hk hs b cs hb
  rcases okT_code hk with ⟨code,k,m,rfl,h1,h2⟩ | ⟨x,a,k',m,h0,_⟩
  ·cases m with
   | zero=>simp [okK] at h1
   | succ m =>
    cases code <;> simp only [okK,Bool.false_eq_true,Bool.and_eq_true] at h1
    rename_i y c1 c2
    obtain ⟨_,_,_,_,_,hr⟩:=sm_rep hs h1.1.1
    rw [hx] at hr
    have hr':a.eval y = .bool c:=hr
    obtain ⟨D',e,t',H',a',w',r1,r2,r3⟩:=ih c0 D a w (.code (if c then c1 else c2) :: k) hB (by
     simp only [okT]
     refine ⟨⟨m,?_⟩,h2⟩
     cases c
     ·exact h1.2
     ·exact h1.1.2) hs b cs hb
    exact ⟨D',e,t',H',a',w',r1,r2,.of_steps (.one (stepR_cond hr')) r3⟩
  ·cases h0
 | blk _ ih =>
  intro ro
  have ih:=Con.of_mo (ih ro)
  intro c0 D a w k hB hk hs b cs hb
  rcases okT_code hk with ⟨code,k,m,rfl,h1,h2⟩ | ⟨x,a,k',m,h0,_⟩
  ·cases m with
   | zero=>simp [okK] at h1
   | succ m =>
    cases code <;> simp only [okK,Bool.false_eq_true,Bool.and_eq_true,beq_iff_eq] at h1
    rename_i id c1
    obtain ⟨D',e,t',H',a',w',r1,r2,r3⟩:=ih c0 D a w (.code c1 :: .inBlock id :: k) hB (by simp only [okT];exact ⟨⟨m,h1.2⟩,h1.1,h2⟩) hs b cs hb
    exact ⟨D',e,t',H',a',w',r1,r2,.of_steps (.one stepR_block) r3⟩
  ·cases h0
 | mk _ ih =>
  intro ro
  have ih:=Con.of_mo (ih ro)
  intro c0 D a w k hB hk hs b cs hb
  cases k with
  | nil=>simp [okT] at hk
  | cons i k =>
   cases i <;> simp only [okT] at hk
   obtain ⟨D',e,t',H',a',w',r1,r2,r3⟩:=ih c0 D a w k hB hk.2 hs b cs hb
   exact ⟨D',e,t',H',a',w',r1,r2,.of_steps (.one stepR_inBlock) r3⟩
 | loop _ ih =>
  intro ro
  have ih:=Con.of_mo (ih ro)
  intro c0 D a w k hB hk hs b cs hb
  rcases okT_code hk with ⟨code,k,m,rfl,h1,h2⟩ | ⟨x,c,k,m,h0,rfl,h1,h2⟩
  ·cases m with
   | zero=>simp [okK] at h1
   | succ m =>
    cases code <;> simp only [okK,Bool.false_eq_true] at h1
    rename_i c1
    obtain ⟨D',e,t',H',a',w',r1,r2,r3⟩:=ih c0 D a w (.code c1 :: .inLoop c1 :: k) hB (by simp only [okT];exact ⟨⟨m,h1⟩,⟨m,h1⟩,h2⟩) hs b cs hb
    exact ⟨D',e,t',H',a',w',r1,r2,.of_steps (.one stepR_loop) r3⟩
  ·cases h0
   obtain ⟨D',e,t',H',a',w',r1,r2,r3⟩:=ih c0 D a w (.code c :: .inLoop c :: k) hB (by simp only [okT];exact ⟨⟨m,h1⟩,⟨m,h1⟩,h2⟩) hs b cs hb
   exact ⟨D',e,t',H',a',w',r1,r2,.of_steps (.one stepR_inLoop) r3⟩
 | exit s' hp _ ih =>
  intro ro
  have ih:=Con.of_mo (ih ro)
  intro c0 D a w k hB hk hs b cs hb
  rcases okT_code hk with ⟨code,k,m,rfl,h1,h2⟩ | ⟨x,a,k',m,h0,_⟩
  ·cases m with
   | zero=>simp [okK] at h1
   | succ m =>
    cases code <;> simp only [okK,Bool.false_eq_true,beq_iff_eq] at h1
    subst h1
    obtain ⟨k',e1,e2⟩:=okT_pop hp h2
    obtain ⟨D',e,t',H',a',w',r1,r2,r3⟩:=ih c0 D a w k' hB e2 hs b cs hb
    exact ⟨D',e,t',H',a',w',r1,r2,.of_steps (.one (stepR_exit e1)) r3⟩
  ·cases h0
 | exitX hp hq =>
  intro ro c0 D a w k hB hk hs b cs hb
  rcases okT_code hk with ⟨code,k,m,rfl,h1,h2⟩ | ⟨x,a,k',m,h0,_⟩
  ·cases m with
   | zero=>simp [okK] at h1
   | succ m =>
    cases code <;> simp only [okK,Bool.false_eq_true,beq_iff_eq] at h1
    subst h1
    exact ⟨D,_,_,_,a,w,hq,hs,k,okT_pop_none hp h2,.refl _ _⟩
  ·cases h0
 | ret hq =>
  intro ro c0 D a w k hB hk hs b cs hb
  rcases okT_code hk with ⟨code,k,m,rfl,h1,h2⟩ | ⟨x,a,k',m,h0,_⟩
  ·cases m with
   | zero=>simp [okK] at h1
   | succ m =>
    cases code <;> simp only [okK,Bool.false_eq_true] at h1
    exact ⟨D,_,_,_,a,w,hq,hs,k,.refl _ _⟩
  ·cases h0
 | n _ ih =>
  intro ro
  have ih:=Con.of_mo (ih ro)
  intro c0 D a w k hB hk hs b cs hb
  rcases okT_code hk with ⟨code,k,m,rfl,h1,h2⟩ | ⟨x,a,k',m,h0,_⟩
  ·cases m with
   | zero=>simp [okK] at h1
   | succ m =>
    simp only [okK] at h1
    exact ih c0 D a w (.code code :: k) hB (by simp only [okT];exact ⟨⟨m,h1⟩,h2⟩) hs b cs hb
  ·cases h0
 | m _ ih =>
  intro ro
  have ih:=Con.of_mo (ih ro)
  intro c0 D a w k hB hk hs b cs hb
  rcases okT_code hk with ⟨code,k,m,rfl,h1,h2⟩ | ⟨x,a,k',m,h0,_⟩
  ·cases m with
   | zero=>simp [okK] at h1
   | succ m =>
    simp only [okK] at h1
    exact ih c0 D a w (.code code :: k) hB (by simp only [okT];exact ⟨⟨m,h1⟩,h2⟩) hs b cs hb
  ·cases h0
 | nl els h1 _ ih=>exact fun ro=>.nl els h1 fun c hc=>ih c hc ro
 | br hH _ ih =>
  rename_i l n r ts s t H Q _
  intro ro
  have ih:=Con.of_mo (ih ro)
  intro c0 D a w k hB hk hs b cs hb
  cases k with
  | nil=>simp [okT] at hk
  | cons i k =>
   cases i <;> simp only [okT] at hk
   obtain ⟨rfl,hk⟩:=hk
   obtain ⟨g1,g2,c,rfl,rfl,hc,hfd,h7⟩:=hs
   obtain ⟨q1,q2,q3,q4⟩:=hc.obj n _ hH
   have hrun:=run_beginRound (P:=P) (w:=c.w) (l:=l) (r:=lpOf .ready r) q2 rfl
   have hext:ExtOb (.lp l .ready r ts) (.lp l .busy r ts) (c.ρ n) (c.ρ n):=⟨rfl,rfl⟩
   have hlt:l < c.w.heap.size:=(Array.getElem?_eq_some_iff.1 q2).1
   have hf:=fr_pt hc hH q1 q3 (.loop (lpOf .busy r)) hext
   have hcn:Conc (c.pt l (.loop (lpOf .busy r)) n (.lp l .busy r ts)):=conc_pt hc hH q1 q3 _ hext ⟨q1,by simp [Cx.pt,hlt],q3,q4.mono fun _ _=>rep_fr hf⟩
   obtain ⟨D',e,t',H',a',w',r1,r2,r3⟩:=ih c0 D a (c.pt l (.loop (lpOf .busy r)) n (.lp l .busy r ts)).w k hB hk ⟨g1,g2,_,rfl,rfl,hcn,hfd.trans hf,trep_fr hf h7⟩ b cs hb
   exact ⟨D',e,t',H',a',w',r1,r2,.of_steps (.one (stepR_beginRound hb hrun)) r3⟩
 | rf f fst caps items Good Stop hx hit hlen h0 htS hGs hSs _ _ _ ihb ihg ihs =>
  rename_i x ps a' b' s t H Q _ _ _
  intro ro c0 D a w k hB hk hs b cs hb
  rcases okT_code hk with ⟨code,k,m,rfl,h1,h2⟩ | ⟨x,a,k',m,h0,_⟩
  ·cases m with
   | zero=>simp [okK] at h1
   | succ m =>
    cases code <;> simp only [okK,Bool.false_eq_true,Bool.and_eq_true,beq_iff_eq,Option.isNone_iff_eq_none] at h1
    rename_i g ps' asg bd
    obtain ⟨⟨⟨⟨⟨rfl,h3⟩,rfl⟩,h4⟩,h5⟩,h6⟩:=h1
    obtain ⟨D1,a1,w1,H1,e,hs1,hst,hl1,hpost⟩:=rf_sound (P:=P) (nd:=nd) (N:=N) hs h3 hx hit (by simpa using hlen) (fun p hp=>by have:=List.all_eq_true.1 h4 p hp;simpa using this) h0 htS hGs hSs ⟨m,h5⟩ ⟨m,h6⟩ (fun l r k it H1 hk hg=>Con.of_mo (ihb l r k it H1 hk hg (some l))) hb k cs
    cases e with
    | fall =>
     obtain ⟨D',e,t',H',a',w',r1,r2,r3⟩:=Con.of_mo (ihg H1 hpost none) c0 D1 a1 w1 k hB h2 hs1 b cs hb
     exact ⟨D',e,t',H',a',w',r1,r2,.of_steps hst r3⟩
    | ret =>
     obtain ⟨D',e,t',H',a',w',r1,r2,r3⟩:=Con.of_mo (ihs .ret H1 hpost none) c0 D1 a1 w1 (.code .ret :: k) hB (by simp only [okT];exact ⟨⟨1,rfl⟩,h2⟩) hs1 b cs hb
     exact ⟨D',e,t',H',a',w',r1,r2,.of_steps hst r3⟩
    | exit id =>
     obtain ⟨D',e,t',H',a',w',r1,r2,r3⟩:=Con.of_mo (ihs (.exit id) H1 hpost none) c0 D1 a1 w1 (.code (.exit id) :: k) hB (by simp only [okT];exact ⟨⟨1,by simp [okK,jumpC]⟩,h2⟩) hs1 b cs hb
     exact ⟨D',e,t',H',a',w',r1,r2,.of_steps hst r3⟩
  ·cases h0
end
end Go.Dw
end
section
namespace Go.Dw
def okRV (P:Program):List ResultVar→List RV→Bool
 | [],[]=>true
 | .tmp n :: l,.t n' :: r=>n == n' && okRV P l r
 | .cell n ty :: l,.c n' :: r=>n == n' && plainB P ty && okRV P l r
 | .cell n ty :: l,.a n' k :: r=>n == n' && aggB P ty && sizeB P ty k && okRV P l r
 | _,_=>false
def resM (tmps:Array Value):ResultVar→Sem Value
 | .tmp t=>pure (tmps.getD t undef)
 | .cell a t=>do loadVar t (← asAddr (tmps.getD a undef))
theorem run_mapM_list {P:Program} {α:Type} (f:α→Sem Value) (w:World):∀ (l:List α) (vs:List Value),l.length = vs.length→(∀ (i:Nat) (x:α) (v:Value),l[i]? = some x→vs[i]? = some v→(f x).run P w = .ok v w)→(l.mapM f).run P w = .ok vs w
 | [],[],_,_=>by simp
 | x :: l,v :: vs,hl,h=>by
  have h1:=h 0 x v rfl rfl
  have h2:=run_mapM_list f w l vs (by simpa using hl) fun i x v hx hv=>h (i+1) x v (by simpa using hx) (by simpa using hv)
  simp [List.mapM_cons,h1,h2]
 | [],_ :: _,hl,_=>by simp at hl
 | _ :: _,[],hl,_=>by simp at hl
section
variable {P:Program} {c0:Cx} {N:Nat} {D:List Deferred} {t:T} {H:List Ob} {a:Act} {w:World}
theorem rv_sound {c:Cx} (h3:c.w = w) (h4:c.H = H) (h5:Conc c) (h7:TRep N c t a):∀ {l:List ResultVar} {rs:List RV} {xs:List V},okRV P l rs = true→rvs t H rs = some xs →
  ∃ vs:List Value,l.length = vs.length∧repL c xs vs∧∀ (i:Nat) (x:ResultVar) (v:Value),l[i]? = some x→vs[i]? = some v→(resM a.tmps x).run P w = .ok v w
 | [],[],xs,_,h=>by
  simp only [rvs,Option.some.injEq] at h
  subst h
  exact ⟨[],rfl,rfl,by simp⟩
 | [],_ :: _,_,h,_=>by simp [okRV] at h
 | r :: l,[],_,h,_=>by cases r <;> simp [okRV] at h
 | r :: l,y :: rs,xs,hk,h=>by
  simp only [rvs] at h
  split at h
  case h_2=>cases h
  rename_i x xs' hx hxs
  cases h
  have key:okRV P l rs = true∧∃ v,(resM a.tmps r).run P w = .ok v w∧rep c x v:=by
   subst h3;subst h4
   cases r <;> cases y <;> simp only [okRV,Bool.false_eq_true,Bool.and_eq_true,beq_iff_eq] at hk
   case tmp.t n n' =>
    obtain ⟨rfl,hk⟩:=hk
    simp only [rvV,Option.some.injEq] at hx
    subst hx
    exact ⟨hk,_,by simp [resM],lk_rep h7 n⟩
   case cell.c n ty n' =>
    obtain ⟨⟨rfl,hp⟩,hk⟩:=hk
    simp only [rvV] at hx
    obtain ⟨b,off,u,q1,q2,q3⟩:=ldV_some h5 hx (lk_rep h7 n)
    refine ⟨hk,u,?_,q3⟩
    simp only [resM,q1]
    simp [asAddr,run_loadVar_one hp q2]
   case cell.a n ty n' k =>
    obtain ⟨⟨⟨rfl,hp⟩,hz⟩,hk⟩:=hk
    simp only [rvV] at hx
    obtain ⟨b,off,vs,q1,q2,q3,q4⟩:=laV_some h5 hx (lk_rep h7 n)
    refine ⟨hk,_,?_,q4⟩
    simp only [resM,q1]
    simp [asAddr,run_loadVar_agg hp hz q2 q3]
  obtain ⟨hk,v,hv,hr⟩:=key
  obtain ⟨vs,q1,q2,q3⟩:=rv_sound h3 h4 h5 h7 hk hxs
  refine ⟨v :: vs,by simp [q1],⟨v,vs,rfl,hr,q2⟩,fun i x' v' h1 h2=>?_⟩
  cases i with
  | zero=>simp at h1 h2;subst h1;subst h2;exact hv
  | succ i=>exact q3 i x' v' (by simpa using h1) (by simpa using h2)
theorem results_resM (fn:Func) (tmps:Array Value):results fn tmps = (do let vs ← fn.results.mapM (resM tmps);pure (if h:vs.size = 1 then vs[0] else .tuple vs)):=by
 unfold results
 congr 1
theorem retV_sound {fn:Func} {rs:List RV} {x:V} {c:Cx} (h3:c.w = w) (h4:c.H = H) (h5:Conc c) (h7:TRep N c t a) (hk:okRV P fn.results.toList rs = true) (h:retV rs t H = some x) :
  ∃ v,(results fn a.tmps).run P w = .ok v w∧rep c x v:=by
 unfold retV at h
 have hrun:∀ vs:List Value,(fn.results.toList.mapM (resM a.tmps)).run P w = .ok vs w→(fn.results.mapM (resM a.tmps)).run P w = .ok vs.toArray w:=by
  intro vs hv
  rw [Array.mapM_eq_mapM_toList]
  simp [hv]
 split at h
 ·rename_i x' hx
  cases h
  obtain ⟨vs,q1,q2,q3⟩:=rv_sound h3 h4 h5 h7 hk hx
  obtain ⟨v,vs',rfl,r1,r2⟩:=q2
  cases r2
  refine ⟨v,?_,r1⟩
  rw [results_resM]
  simp [hrun _ (run_mapM_list _ w _ _ q1 q3)]
 ·rename_i xs hne hx
  cases h
  obtain ⟨vs,q1,q2,q3⟩:=rv_sound h3 h4 h5 h7 hk hx
  refine ⟨.tuple vs.toArray,?_,⟨vs.toArray,rfl,q2⟩⟩
  rw [results_resM]
  have hl:vs.length ≠ 1:=by
   intro e
   have:=repL_length q2
   match xs,this with
   | [y],_=>exact hne y rfl
   | [],h=>simp [e] at h
   | _ :: _ :: _,h=>simp [e] at h
  simp [hrun _ (run_mapM_list _ w _ _ q1 q3),hl]
 ·cases h
end
def ini:Nat→List V→T
 | _,[]=>[]
 | k,x :: xs=>(k,x) :: ini (k+1) xs
theorem ini_find:∀ {xs:List V} {k s:Nat} {x:V},find (ini k xs) s = some x→k≤s∧xs[s - k]? = some x
 | [],_,_,_,h=>by simp [ini,find] at h
 | y :: ys,k,s,x,h=>by
  simp only [ini,find] at h
  by_cases e:k = s
  ·subst e;rw [if_pos rfl] at h;cases h
   exact ⟨Nat.le_refl _,by simp⟩
  ·rw [if_neg e] at h
   obtain ⟨h1,h2⟩:=ini_find h
   refine ⟨by omega,?_⟩
   have:s - k = (s - (k+1))+1:=by omega
   rw [this]
   simpa using h2
theorem fr_give {c c':Cx} (hf:Fr c c') {ex:List Nat} (hex:∀ i∈ex,i < c'.H.length):Fr c (c'.give (List.range c.H.length++ex)):=by
 refine ⟨hf.okS,hf.cell,hf.size,hf.okN,hf.heap,fun b hb=>?_,fun i o hi=>?_,hf.os,hf.tape,hf.output,hf.drawn⟩
 ·obtain ⟨k,m,hk,hr⟩:=hb
  have hk:=give_lt hk
  have e1:=List.getElem?_eq_getElem hk
  simp only [Cx.give,e1] at hr
  refine hf.own b ⟨_,m,?_,hr⟩
  rcases List.mem_append.1 (List.getElem_mem hk) with h | h
  ·have:=hf.ext.lt (List.mem_range.1 h)
   exact this
  ·exact hex _ h
 ·have hlt:=(List.getElem?_eq_some_iff.1 hi).1
  obtain ⟨o',q1,q2⟩:=hf.ext i o hi
  have e1:(List.range c.H.length++ex)[i]? = some i:=by
   rw [List.getElem?_append_left (by simpa using hlt)]
   simp [hlt]
  refine ⟨_,by simp only [Cx.give,give_get,e1,Option.map_some,getD_get q1];rfl,?_⟩
  simp only [Cx.give,e1]
  cases o <;> cases o' <;> simp only [ExtOb,renOb,List.length_map] at q2 ⊢ <;> exact q2
def okF (P:Program) (f:Nat) (nd:Nat→C) (c:C) (n:Nat) (rs:List RV):Bool:=match P.funcs[f]? with
 | some fn => fn.name != "runtime.NumGoroutine" && decide (n ≤ fn.ntmps) && okRV P fn.results.toList rs && (match fn.body with | some b => okK P fn.ntmps nd true 1000 b c | none => false)
 | none=>false
theorem marks_steps {P:Program} {c0:Cx}:∀ (D:List Deferred) (c:Cx) (fr:Frame) (cs:List Frame),Conc c→FrD c0 D c→fr.mode = .returning→fr.defers = D →
  ∃ c',Steps P (lone fr cs c.w) (lone { fr with defers:=[] } cs c'.w)∧Conc c'∧Fr c0 c'∧c'.H = c.H∧∀ x v,rep c x v→rep c' x v
 | [],c,fr,cs,hc,hf,hm,hd=>⟨c,by rw [show { fr with defers:=[] } = fr by cases fr;simp_all];exact .refl _ _,hc,hf.fr,rfl,fun _ _ h=>h⟩
 | d :: D,c,fr,cs,hc,hf,hm,hd=>by
  obtain ⟨b,rfl,p2,p3,p4,p5⟩:=hf.marks d (by simp)
  have hlt:=(Array.getElem?_eq_some_iff.1 p3).1
  have hstep:=step_collected (P:=P) (fr:=fr) (cs:=cs) (w:=c.w) (d:=markOf b) (r:=b) (ds:=D) (by rw [hm];simp) hd rfl (run_takeDeferred p3)
  let c1:Cx:=⟨c.w.putObj b (.deferred none),c.ok,c.ρ,c.H⟩
  have hcell:∀ b' o,c.ok b' o→c1.w.cell? ⟨b',o,none⟩ = c.w.cell? ⟨b',o,none⟩:=fun b' o h=>by
   have hne:b' ≠ b:=by intro e;subst e;exact p5 _ h
   simp only [c1,World.cell?,World.putObj_heap_other hne]
  have hext:Ext c c1:=fun i o h=>⟨o,h,by cases o <;> simp [ExtOb,c1]⟩
  have hrep:∀ x v,rep c x v→rep c1 x v:=rep_mono_all hcell (fun _ _ h=>h) hext
  have hother:∀ i b' k,i < c.H.length→c.ρ i = some (b',k)→c1.w.heap[b']? = c.w.heap[b']?:=fun i b' k hi hr=>by
   have hne:b' ≠ b:=by intro e;subst e;exact p4 ⟨i,k,hi,hr⟩
   simp only [c1,World.putObj_heap_other hne]
  have hc1:Conc c1:=by
   refine ⟨hc.inj,fun b' o h=>by simpa [c1] using hc.okLt b' o h,fun i o hi=>?_,hc.glob.step (fun _ _ h=>h) hcell⟩
   have hil:=(List.getElem?_eq_some_iff.1 hi).1
   have h:=hc.obj i o hi
   cases o with
   | cells e cs =>
    obtain ⟨b,vs,q1,q2,q3,q4,q5⟩:=h
    exact ⟨b,vs,q1,(hother i b 0 hil q1).trans q2,q3,q4,fun i x hx=>(q5 i x hx).imp fun v hv=>⟨hv.1,hv.2.1,hrep _ _ hv.2.2⟩⟩
   | arr e sz n =>
    refine ⟨h.1,fun b k hr=>?_⟩
    obtain ⟨vs,q1,q2⟩:=h.2 b k hr
    exact ⟨vs,(hother i b k hil hr).trans q1,q2⟩
   | map es =>
    obtain ⟨b,ents,q1,q2,q3,q4⟩:=h
    exact ⟨b,ents,q1,(hother i b 0 hil q1).trans q2,q3,q4.mono hrep⟩
   | iter m n seen =>
    obtain ⟨b,bm,q1,q2,q3,q4⟩:=h
    exact ⟨b,bm,q1,(hother i b bm hil q1).trans q2,q3,q4.mono hext⟩
   | dead=>exact h
   | row e sz els =>
    refine ⟨h.1,fun b k hr=>?_⟩
    obtain ⟨vs,q1,q2,q3,q4,q5,q6⟩:=h.2 b k hr
    exact ⟨vs,(hother i b k hil hr).trans q1,q2,q3,q4,q5,q6.mono hrep⟩
   | lp l st r ts =>
    obtain ⟨q1,q2,q3,q4⟩:=h
    exact ⟨q1,(hother i l 0 hil q1).trans q2,q3,q4.mono hrep⟩
  have hnd:=List.nodup_cons.1 hf.nodup
  have hf1:FrD c0 D c1:=by
   have h:=hf.fr
   refine ⟨⟨h.okS,fun b' o hb=>(hcell b' o (h.okS _ _ hb)).trans (h.cell b' o hb),by simpa [c1] using h.size,h.okN,fun b' hb' hno=>?_,h.own,h.ext.trans hext,h.os,h.tape,h.output,h.drawn⟩,fun d' hd'=>?_,hnd.2⟩
   ·have hne:b' ≠ b:=by omega
    simp only [c1,World.putObj_heap_other hne]
    exact h.heap b' hb' hno
   ·obtain ⟨b',rfl,r2,r3,r4,r5⟩:=hf.marks d' (by simp [hd'])
    have hne:b' ≠ b:=by intro e;subst e;exact hnd.1 hd'
    exact ⟨b',rfl,r2,by simp only [c1,World.putObj_heap_other hne];exact r3,r4,r5⟩
  obtain ⟨c',s1,s2,s3,s4,s5⟩:=marks_steps D c1 { fr with defers:=[]++D } cs hc1 hf1 hm rfl
  exact ⟨c',.head hstep s1,s2,s3,s4,fun x v h=>s5 _ _ (hrep _ _ h)⟩
theorem spece_of_run {P:Program} {f:Nat} {nd:Nat→C} {c:C} {n:Nat} {rs:List RV} (hm:P.follows .mixedOrders = true) (hok:okF P f nd c n rs = true) {args:List V} {H:List Ob} {Q:V→List Ob→Prop} (hn:args.length = n)
  (hrun:Run P nd H.length [.c c] (ini 0 args) H (Ends H.length rs Q)):SpecE P f args H Q:=by
 intro cx vs hH hc hr
 subst hH
 unfold okF at hok
 split at hok
 case h_2=>cases hok
 rename_i fn hfn
 simp only [Bool.and_eq_true,bne_iff_ne,ne_eq,decide_eq_true_eq] at hok
 obtain ⟨⟨⟨h1,h2⟩,h3⟩,h4⟩:=hok
 split at h4
 case h_2=>cases h4
 rename_i body hb
 have hlen:vs.length = args.length:=(repL_length hr).symm
 refine ⟨by simp [callFunc,hfn,h1,hb],fun cs=>?_⟩
 let b:Frame:={ (default:Frame) with fn:=f,kind:=.normal }
 let a0:Act:={ tmps:=vs.toArray++Array.replicate (fn.ntmps - vs.toArray.size) undef,defers:=[] }
 have hro:b.roundOf = none:=rfl
 have henter:Frame.enter P f vs.toArray .normal = b.atR a0 [.code body]:=by rw [Frame.atR_of_none hro];simp [Frame.enter,Frame.at,hfn,hb,b,a0]
 have hs:Sm cx fn.ntmps [] (ini 0 args) cx.H a0 cx.w:=by
  refine ⟨by simp [a0];omega,rfl,cx,rfl,rfl,hc,⟨.refl cx,fun d hd=>(by cases hd),List.nodup_nil⟩,fun s x hx=>?_⟩
  obtain ⟨_,hx⟩:=ini_find hx
  simp only [Nat.sub_zero] at hx
  have hlt:=(List.getElem?_eq_some_iff.1 hx).1
  obtain ⟨v,q1,q2⟩:=repL_get hr hx
  refine ⟨by omega,?_⟩
  have:a0.tmps.getD s undef = v:=by
   have hlt2:=(List.getElem?_eq_some_iff.1 q1).1
   simp only [a0,Array.getD_eq_getD_getElem?]
   rw [Array.getElem?_append_left (by simpa using hlt2)]
   simp [q1]
  rw [this];exact q2
 have hcon:=Con.of_mo (run_mo (N:=fn.ntmps) hm hrun none)
 obtain ⟨D',e,t',H',a',w',⟨he,hends⟩,⟨s1,s2,c',s3,s4,s5,s6,s7⟩,hfin⟩:=hcon cx [] a0 cx.w [.code body] (Nat.le_refl _) (by simp only [okT];exact ⟨⟨1000,h4⟩,trivial⟩) hs b cs hro
 subst s3;subst s4
 have hsteps:∃ fr,Steps P (lone (Frame.enter P f vs.toArray .normal) cs cx.w) (lone fr cs c'.w)∧fr.fn = f∧fr.mode = .returning∧fr.defers = D'∧fr.kind = .normal∧fr.tmps = a'.tmps:=by
  rw [henter]
  rcases he with rfl | rfl
  ·obtain ⟨todo,hst⟩:=hfin
   exact ⟨_,hst.trans (.one (stepR_ret hro)),rfl,rfl,s2,rfl,rfl⟩
  ·exact ⟨_,Steps.trans hfin (.one (stepR_end hro)),rfl,rfl,s2,rfl,rfl⟩
 obtain ⟨fr,e1,e2,e3,e4,e5,e6⟩:=hsteps
 obtain ⟨c2,m1,m2,m3,m4,m5⟩:=marks_steps (P:=P) D' c' fr cs s5 s6 e3 e4
 have s7':TRep fn.ntmps c2 t' a':=fun s x hx=>⟨(s7 s x hx).1,m5 _ _ (s7 s x hx).2⟩
 rw [← m4] at hends
 rcases hends with ⟨x,hx,hQ⟩ | ⟨ex,x,hnd,hex,hx,hQ⟩
 ·obtain ⟨v,hv,hrep⟩:=retV_sound (P:=P) (fn:=fn) rfl rfl m2 s7' h3 hx
  exact ⟨.returned v,c2.w,{ fr with defers:=[] },⟨v,_,c2,rfl,rfl,hQ,m2,hrep,m3⟩,e1.trans m1,e2,e3,rfl,e5,fn,by rw [e2];exact hfn,by rw [e6];exact hv⟩
 ·obtain ⟨v,hv,hrep⟩:=retV_sound (P:=P) (fn:=fn) rfl rfl m2 s7' h3 hx
  have hlt:∀ i∈List.range cx.H.length++ex,i < c2.H.length:=fun i hi=>by
   rcases List.mem_append.1 hi with h | h
   ·exact m3.ext.lt (List.mem_range.1 h)
   ·exact hex i h
  exact ⟨.returned v,c2.w,{ fr with defers:=[] },⟨v,_,c2.give (List.range cx.H.length++ex),rfl,rfl,hQ,conc_give m2 hnd hlt,rep_give hnd hlt hrep,fr_give m3 hex⟩,e1.trans m1,e2,e3,rfl,e5,fn,by rw [e2];exact hfn,by rw [e6];exact hv⟩
theorem spec_of_run {P:Program} {f:Nat} {nd:Nat→C} {c:C} {n:Nat} {rs:List RV} (hm:P.follows .mixedOrders = true) (hok:okF P f nd c n rs = true) {args:List V} {H:List Ob} {Q:V→List Ob→Prop} (hn:args.length = n)
  (hrun:Run P nd H.length [.c c] (ini 0 args) H (Ends H.length rs Q)):Spec P f args H Q:=(spece_of_run hm hok hn hrun).spec
end Go.Dw
end
section
namespace Go.Dw
section
variable {P:Program} {N:Nat→C} {B:Nat} {s:List K} {t:T} {H:List Ob} {Q:X→T→List Ob→Prop}
theorem run_done:Run P N B [] t H Q ↔ Q .fall t H:=⟨fun h=>by cases h;assumption,.done⟩
theorem run_skip:Run P N B (.c .skip :: s) t H Q ↔ Run P N B s t H Q:=⟨fun h=>by cases h;assumption,.skip⟩
theorem run_seq {a b:C}:Run P N B (.c (.seq a b) :: s) t H Q ↔ Run P N B (.c a :: .c b :: s) t H Q:=⟨fun h=>by cases h;assumption,.seq⟩
theorem run_reg {l:List S}:Run P N B (.c (.reg l) :: s) t H Q ↔ Run P N B (.r l :: s) t H Q:=⟨fun h=>by cases h;assumption,.reg⟩
theorem run_dr {π:List Nat} {l:List S}:Run P N B (.c (.dr π l) :: s) t H Q ↔ Run P N B (.r l :: s) t H Q:=⟨fun h=>by cases h;assumption,.dr⟩
theorem run_gh {l:List I} {c:C}:Run P N B (.c (.gh l c) :: s) t H Q ↔ Run P N B (.r (l.map .op) :: .c c :: s) t H Q:=⟨fun h=>by cases h;assumption,.gh⟩
theorem run_rend:Run P N B (.r [] :: s) t H Q ↔ Run P N B s t H Q:=⟨fun h=>by cases h;assumption,.rend⟩
theorem run_blk {id:Nat} {a:C}:Run P N B (.c (.blk id a) :: s) t H Q ↔ Run P N B (.c a :: .mk id :: s) t H Q:=⟨fun h=>by cases h;assumption,.blk⟩
theorem run_mk {id:Nat}:Run P N B (.mk id :: s) t H Q ↔ Run P N B s t H Q:=⟨fun h=>by cases h;assumption,.mk⟩
theorem run_loop {a:C}:Run P N B (.c (.loop a) :: s) t H Q ↔ Run P N B (.c a :: .c (.loop a) :: s) t H Q:=⟨fun h=>by cases h;assumption,.loop⟩
theorem run_ret:Run P N B (.c .ret :: s) t H Q ↔ Q .ret t H:=⟨fun h=>by cases h;assumption,.ret⟩
theorem run_m {k:Nat}:Run P N B (.c (.m k) :: s) t H Q ↔ Run P N B (.c (N k) :: s) t H Q:=⟨fun h=>by cases h;assumption,.m⟩
theorem run_bad:Run P N B (.c .bad :: s) t H Q ↔ False:=⟨fun h=>(by cases h),False.elim⟩
/- The continuations are no functions: rewriting would run them ahead of time, with nothing known. -/
def nlP (P:Program) (N:Nat→C) (B:Nat) (l:List S) (s:List K) (t:T) (H:List Ob) (Q:X→T→List Ob→Prop) (d:Nat) (ne:Bool):Option (List (List V))→Prop
 | some els=>∀ c:Bool,(c = true→els = [])→Run P N B (.r l :: s) ((d,.bool (c != ne)) :: t) H Q
 | none=>False
theorem nlP_some {els:List (List V)} {d:Nat} {ne:Bool} {l:List S}:nlP P N B l s t H Q d ne (some els) = ∀ c:Bool,(c = true→els = [])→Run P N B (.r l :: s) ((d,.bool (c != ne)) :: t) H Q:=rfl
theorem run_nl {d:Nat} {ne:Bool} {x:O} {l:List S}:Run P N B (.r (.nl d ne x :: l) :: s) t H Q ↔ nlP P N B l s t H Q d ne (elV (ev t x)):=by
 constructor
 ·intro h
  cases h with
  | nl els h1 h2=>rw [h1];exact h2
 ·intro h
  cases he:elV (ev t x) with
  | none=>rw [he] at h;exact h.elim
  | some els=>rw [he] at h;exact .nl els he h
theorem run_n {k:Nat}:Run P N B (.c (.n k) :: s) t H Q ↔ Run P N B (.c (N k) :: s) t H Q:=⟨fun h=>by cases h;assumption,.n⟩
def goP (P:Program) (N:Nat→C) (B:Nat) (id:Nat) (t:T) (H:List Ob) (Q:X→T→List Ob→Prop):Option (List K)→Prop
 | some s=>Run P N B s t H Q
 | none=>Q (.exit id) t H
theorem goP_some {id:Nat}:goP P N B id t H Q (some s) = Run P N B s t H Q:=rfl
theorem goP_none {id:Nat}:goP P N B id t H Q none = Q (.exit id) t H:=rfl
theorem run_exit {id:Nat}:Run P N B (.c (.exit id) :: s) t H Q ↔ goP P N B id t H Q (popTo id s):=by
 constructor
 ·intro h
  cases h with
  | exit s' h1 h2=>rw [h1];exact h2
  | exitX h1 h2=>rw [h1];exact h2
 ·intro h
  cases hp:popTo id s with
  | some s'=>rw [hp] at h;exact .exit s' hp h
  | none=>rw [hp] at h;exact .exitX hp h
def exP (P:Program) (N:Nat→C) (B:Nat) (l:List S) (s:List K) (Q:X→T→List Ob→Prop):Option (T × List Ob)→Prop
 | some (t,H)=>Run P N B (.r l :: s) t H Q
 | none=>False
theorem exP_some {l:List S}:exP P N B l s Q (some (t,H)) = Run P N B (.r l :: s) t H Q:=rfl
theorem exP_none {l:List S}:exP P N B l s Q none = False:=rfl
theorem exP_ite {c:Prop} [Decidable c] {o:Option (T × List Ob)} {l:List S}:exP P N B l s Q (if c then o else none) ↔ c∧exP P N B l s Q o:=by by_cases h:c <;> simp [h,exP]
theorem run_op {i:I} {l:List S}:Run P N B (.r (.op i :: l) :: s) t H Q ↔ exP P N B l s Q (exec B i t H):=by
 constructor
 ·intro h
  cases h with
  | op t' H' h1 h2=>rw [h1];exact h2
 ·intro h
  cases he:exec B i t H with
  | none=>rw [he] at h;exact h.elim
  | some p=>rw [he] at h;exact .op p.1 p.2 he h
def o1P (P:Program) (N:Nat→C) (B:Nat) (l:List S) (s:List K) (Q:X→T→List Ob→Prop) (d:Nat) (t:T) (H:List Ob):Option V→Prop
 | some v=>Run P N B (.r l :: s) ((d,v) :: t) H Q
 | none=>False
theorem o1P_some {l:List S} {d:Nat} {v:V}:o1P P N B l s Q d t H (some v) = Run P N B (.r l :: s) ((d,v) :: t) H Q:=rfl
theorem o1P_none {l:List S} {d:Nat}:o1P P N B l s Q d t H none = False:=rfl
theorem o1P_ite {l:List S} {d:Nat} {c:Prop} [Decidable c] {o:Option V}:o1P P N B l s Q d t H (if c then o else none) ↔ c∧o1P P N B l s Q d t H o:=by by_cases h:c <;> simp [h,o1P]
theorem o1P_ite' {l:List S} {d:Nat} {c:Prop} [Decidable c] {o:Option V}:o1P P N B l s Q d t H (if c then none else o) ↔ ¬ c∧o1P P N B l s Q d t H o:=by by_cases h:c <;> simp [h,o1P]
theorem exP_set1 {l:List S} {d:Nat} {o:Option V}:exP P N B l s Q (set1 d o t H) = o1P P N B l s Q d t H o:=by cases o <;> rfl
def o2P (P:Program) (N:Nat→C) (B:Nat) (l:List S) (s:List K) (Q:X→T→List Ob→Prop) (d:Nat) (t:T):Option (V × List Ob)→Prop
 | some p=>Run P N B (.r l :: s) ((d,p.1) :: t) p.2 Q
 | none=>False
theorem o2P_some {l:List S} {d:Nat} {v:V}:o2P P N B l s Q d t (some (v,H)) = Run P N B (.r l :: s) ((d,v) :: t) H Q:=rfl
theorem o2P_none {l:List S} {d:Nat}:o2P P N B l s Q d t none = False:=rfl
theorem o2P_ite {l:List S} {d:Nat} {c:Prop} [Decidable c] {o:Option (V × List Ob)}:o2P P N B l s Q d t (if c then o else none) ↔ c∧o2P P N B l s Q d t o:=by by_cases h:c <;> simp [h,o2P]
theorem exP_set2 {l:List S} {d:Nat} {o:Option (V × List Ob)}:exP P N B l s Q (set2 d o t) = o2P P N B l s Q d t o:=by cases o <;> rfl
def oP (o:Option V) (K:V→Prop):Prop:=match o with
 | some v=>K v
 | none=>False
theorem oP_some {v:V} {K:V→Prop}:oP (some v) K = K v:=rfl
theorem oP_none {K:V→Prop}:oP none K = False:=rfl
theorem oP_ite {c:Prop} [Decidable c] {o:Option V} {K:V→Prop}:oP (if c then o else none) K ↔ c∧oP o K:=by by_cases h:c <;> simp [h,oP]
theorem oP_ite' {c:Prop} [Decidable c] {o:Option V} {K:V→Prop}:oP (if c then none else o) K ↔ ¬ c∧oP o K:=by by_cases h:c <;> simp [h,oP]
def cP (P:Program) (N:Nat→C) (B:Nat) (a b:C) (s:List K) (t:T) (H:List Ob) (Q:X→T→List Ob→Prop):V→Prop
 | .bool c=>(c = true→Run P N B (.c a :: s) t H Q)∧(c = false→Run P N B (.c b :: s) t H Q)
 | _=>False
theorem cP_bool {a b:C} {c:Bool}:cP P N B a b s t H Q (.bool c) = ((c = true→Run P N B (.c a :: s) t H Q)∧(c = false→Run P N B (.c b :: s) t H Q)):=rfl
theorem run_cond {x:O} {a b:C}:Run P N B (.c (.cond x a b) :: s) t H Q ↔ cP P N B a b s t H Q (ev t x):=by
 constructor
 ·intro h
  cases h with
  | cond c h1 h2 =>
   rw [h1]
   refine ⟨fun h=>?_,fun h=>?_⟩ <;> subst h <;> exact h2
 ·intro h
  cases hv:ev t x with
  | bool c =>
   rw [hv] at h
   refine .cond c hv ?_
   cases c
   ·exact h.2 rfl
   ·exact h.1 rfl
  | _=>rw [hv] at h;exact h.elim
def gP (P:Program) (N:Nat→C) (B:Nat) (b:Bool) (ds:List Nat) (g l:List S) (s:List K) (t:T) (H:List Ob) (Q:X→T→List Ob→Prop):V→Prop
 | .bool c=>(c = b→Run P N B (.r (g++l) :: s) t H Q)∧(c ≠ b→Run P N B (.r l :: s) (ds.map (fun d=>(d,V.tup []))++t) H Q)
 | .tup []=>Run P N B (.r l :: s) (ds.map (fun d=>(d,V.tup []))++t) H Q
 | _=>False
theorem gP_bool {c b:Bool} {ds:List Nat} {g l:List S}:gP P N B b ds g l s t H Q (.bool c) = ((c = b→Run P N B (.r (g++l) :: s) t H Q)∧(c ≠ b→Run P N B (.r l :: s) (ds.map (fun d=>(d,V.tup []))++t) H Q)):=rfl
theorem gP_tup {b:Bool} {ds:List Nat} {g l:List S}:gP P N B b ds g l s t H Q (.tup []) = Run P N B (.r l :: s) (ds.map (fun d=>(d,V.tup []))++t) H Q:=rfl
theorem run_gd {x:O} {b:Bool} {ds:List Nat} {g l:List S}:Run P N B (.r (.gd x b ds g :: l) :: s) t H Q ↔ gP P N B b ds g l s t H Q (ev t x):=by
 constructor
 ·intro h
  cases h with
  | gd c h1 h2 =>
   rw [h1]
   refine ⟨fun h=>?_,fun h=>?_⟩
   ·simpa [h] using h2
   ·simpa [h] using h2
  | gdU h1 h2=>rw [h1];exact h2
 ·intro h
  have key:∀ c,ev t x = .bool c→Run P N B (.r (.gd x b ds g :: l) :: s) t H Q:=fun c hv=>by
   rw [hv] at h
   refine .gd c hv ?_
   by_cases e:c = b
   ·simpa [e] using h.1 e
   ·simpa [e] using h.2 e
  cases hv:ev t x with
  | bool c=>exact key c hv
  | tup l =>
   cases l with
   | nil=>rw [hv] at h;exact .gdU hv h
   | cons y ys=>rw [hv] at h;exact h.elim
  | _=>rw [hv] at h;exact h.elim
theorem run_alt0:Run P N B (.r [.alt []] :: s) t H Q ↔ True:=⟨fun _=>trivial,fun _=>.alt fun p hp=>by cases hp⟩
theorem run_alt1 {p:List Nat × List S} {ls:List (List Nat × List S)}:Run P N B (.r [.alt (p :: ls)] :: s) t H Q ↔ Run P N B (.r p.2 :: s) t H Q∧Run P N B (.r [.alt ls] :: s) t H Q:=by
 constructor
 ·intro h
  cases h with
  | alt h=>exact ⟨h p (by simp),.alt fun q hq=>h q (List.mem_cons_of_mem _ hq)⟩
 ·rintro ⟨h1,h2⟩
  cases h2 with
  | alt h2 =>
   refine .alt fun q hq=>?_
   rcases List.mem_cons.1 hq with rfl | hq
   ·exact h1
   ·exact h2 q hq
def nxP (P:Program) (N:Nat→C) (B:Nat) (d:Nat) (l:List S) (s:List K) (t:T) (H:List Ob) (Q:X→T→List Ob→Prop):V→Prop
 | .it j=>∃ i n seen es,H[j]? = some (.iter (some i) n seen)∧H[i]? = some (.map es)∧n = es.length∧((∀ k,k < n→k∈seen)→Run P N B (.r l :: s) ((d,.tup [.bool false]) :: t) H Q) ∧
   ∀ k p,es[k]? = some p→k ∉ seen→Run P N B (.r l :: s) ((d,.tup [.bool true,p.1,p.2]) :: t) (H.set j (.iter (some i) n (seen++[k]))) Q
 | _=>False
theorem nxP_of {d:Nat} {l:List S} {j:Nat} (i n:Nat) (seen:List Nat) (es:List (V × V)) (h1:H[j]? = some (.iter (some i) n seen)) (h2:H[i]? = some (.map es)) (h3:n = es.length)
  (h4:(∀ k,k < n→k∈seen)→Run P N B (.r l :: s) ((d,.tup [.bool false]) :: t) H Q)
  (h5:∀ k p,es[k]? = some p→k ∉ seen→Run P N B (.r l :: s) ((d,.tup [.bool true,p.1,p.2]) :: t) (H.set j (.iter (some i) n (seen++[k]))) Q):nxP P N B d l s t H Q (.it j):=⟨i,n,seen,es,h1,h2,h3,h4,h5⟩
theorem run_nx {d:Nat} {x:O} {l:List S}:Run P N B (.r (.nx d x :: l) :: s) t H Q ↔ nxP P N B d l s t H Q (ev t x):=by
 constructor
 ·intro h
  cases h with
  | nx j i n seen es h1 h2 h3 h4 h5 h6 =>
   rw [h1]
   exact ⟨i,n,seen,es,h2,h3,h4,h5,h6⟩
 ·intro h
  cases hv:ev t x with
  | it j =>
   rw [hv] at h
   obtain ⟨i,n,seen,es,h1,h2,h3,h4,h5⟩:=h
   exact .nx j i n seen es hv h1 h2 h3 h4 h5
  | _=>rw [hv] at h;exact h.elim
def CallP (P:Program) (N:Nat→C) (B:Nat) (d:Option Nat) (l:List S) (s:List K) (t:T) (H:List Ob) (Q:X→T→List Ob→Prop) (f:Nat) (vs:List V):Prop :=
 ∃ x,Spec P f vs [] (fun x' H'=>x' = x∧H' = [])∧Run P N B (.r l :: s) (setO d (ren (fun _=>none) x) t) H Q
theorem run_callp {d:Option Nat} {f:Nat} {args:List O} {l:List S}:Run P N B (.r (.callp d f args :: l) :: s) t H Q ↔ CallP P N B d l s t H Q f (rens (fun _=>none) (args.map (ev t))):=by
 constructor
 ·intro h
  cases h with
  | callp x h1 h2=>exact ⟨x,h1,h2⟩
 ·rintro ⟨x,h1,h2⟩
  exact .callp x h1 h2
def fnP (P:Program) (N:Nat→C) (B:Nat) (d:Option Nat) (args:List O) (l:List S) (s:List K) (t:T) (H:List Ob) (Q:X→T→List Ob→Prop):V→Prop
 | .fn (.func f) fst caps=>CallP P N B d l s t H Q f (rens (fun _=>none) (fst++args.map (ev t)++caps))
 | _=>False
theorem fnP_fn {d:Option Nat} {args:List O} {l:List S} {f:Nat} {fst caps:List V}:fnP P N B d args l s t H Q (.fn (.func f) fst caps) = CallP P N B d l s t H Q f (rens (fun _=>none) (fst++args.map (ev t)++caps)):=rfl
theorem run_callvp {d:Option Nat} {g:O} {args:List O} {l:List S}:Run P N B (.r (.callvp d g args :: l) :: s) t H Q ↔ fnP P N B d args l s t H Q (ev t g):=by
 constructor
 ·intro h
  cases h with
  | callvp f fst caps x h0 h1 h2=>rw [h0];exact ⟨x,h1,h2⟩
 ·intro h
  unfold fnP at h
  split at h
  ·rename_i f a c hv
   obtain ⟨x,h1,h2⟩:=h
   exact .callvp f a c x hv h1 h2
  ·exact h.elim
theorem CallP.of {d:Option Nat} {l:List S} {f:Nat} {vs:List V} {x:V} (h:Spec P f vs [] (fun x' H'=>x' = x∧H' = [])) (k:Run P N B (.r l :: s) (setO d (ren (fun _=>none) x) t) H Q):CallP P N B d l s t H Q f vs:=⟨x,h,k⟩
theorem ev_s {n:Nat}:ev t (.s n) = lk t n:=rfl
theorem ev_c {v:V}:ev t (.c v) = v:=rfl
theorem ev_f {f:Nat}:ev t (.f f) = .fn (.func f) [] []:=rfl
theorem lk_nil {n:Nat}:lk [] n = .any:=rfl
theorem lk_cons {m n:Nat} {v:V}:lk ((m,v) :: t) n = if m = n then v else lk t n:=by
 unfold lk;simp only [find];split <;> rfl
theorem ends_nil {rs:List RV} {Q:V→List Ob→Prop} {e:X} (he:e = .ret ∨ e = .fall) {x:V} (h:retV rs t H = some x) (hq:Q (ren (fun _=>none) x) []):Ends 0 rs Q e t H :=
 ⟨he,.inr ⟨[],x,by simp,by simp,h,hq⟩⟩
theorem ends_all {rs:List RV} {Q:V→List Ob→Prop} {e:X} (he:e = .ret ∨ e = .fall) {x:V} (h:retV rs t H = some x) (hq:Q x H):Ends B rs Q e t H :=
 ⟨he,.inl ⟨x,h,hq⟩⟩
theorem ends_ex {rs:List RV} {Q:V→List Ob→Prop} {e:X} (he:e = .ret ∨ e = .fall) (ex:List Nat) {x:V} (hnd:(List.range B++ex).Nodup) (hlt:∀ i∈ex,i < H.length) (h:retV rs t H = some x)
  (hq:Q (ren (pos? (List.range B++ex)) x) (give (List.range B++ex) H)):Ends B rs Q e t H:=⟨he,.inr ⟨ex,x,hnd,hlt,h,hq⟩⟩
def CallG (P:Program) (N:Nat→C) (B:Nat) (d:Option Nat) (l:List S) (s:List K) (t:T) (Q:X→T→List Ob→Prop) (F:Fn) (vs:List V) (H:List Ob):Prop :=
 (∃ R,SpecF P F vs H R∧∀ x H',R x H'→Run P N B (.r l :: s) (setO d x t) H' Q) ∨
  ∃ idx R,idx.Nodup∧(∀ i∈idx,i < H.length)∧SpecF P F (rens (pos? idx) vs) (give idx H) R∧∀ x H',R x H'→idx.length≤H'.length→Run P N B (.r l :: s) (setO d (ren (back idx H.length) x) t) (takeB idx H H') Q
theorem CallG.all {d:Option Nat} {l:List S} {F:Fn} {vs:List V} {R:V→List Ob→Prop} (h:SpecF P F vs H R) (k:∀ x H',R x H'→Run P N B (.r l :: s) (setO d x t) H' Q):CallG P N B d l s t Q F vs H:=.inl ⟨R,h,k⟩
theorem CallG.some {d:Option Nat} {l:List S} {F:Fn} {vs:List V} (idx:List Nat) {R:V→List Ob→Prop} (h1:idx.Nodup) (h2:∀ i∈idx,i < H.length) (h:SpecF P F (rens (pos? idx) vs) (give idx H) R)
  (k:∀ x H',R x H'→idx.length≤H'.length→Run P N B (.r l :: s) (setO d (ren (back idx H.length) x) t) (takeB idx H H') Q):CallG P N B d l s t Q F vs H:=.inr ⟨idx,R,h1,h2,h,k⟩
theorem run_call {d:Option Nat} {f:Nat} {args:List O} {l:List S}:Run P N B (.r (.call d f args :: l) :: s) t H Q ↔ CallG P N B d l s t Q (.func f) (args.map (ev t)) H:=by
 constructor
 ·intro h
  cases h with
  | callA R h1 h2=>exact .inl ⟨R,h1,h2⟩
  | call idx R h1 h2 h3 h4=>exact .inr ⟨idx,R,h1,h2,h3,h4⟩
 ·rintro (⟨R,h1,h2⟩ | ⟨idx,R,h1,h2,h3,h4⟩)
  ·exact .callA R h1 h2
  ·exact .call idx R h1 h2 h3 h4
def fnG (P:Program) (N:Nat→C) (B:Nat) (d:Option Nat) (args:List O) (l:List S) (s:List K) (t:T) (H:List Ob) (Q:X→T→List Ob→Prop):V→Prop
 | .fn F fst caps=>((∃ f,F = .func f) ∨ caps = [])∧CallG P N B d l s t Q F (fst++args.map (ev t)++caps) H
 | _=>False
theorem fnG_func {d:Option Nat} {args:List O} {l:List S} {f:Nat} {a c:List V}:fnG P N B d args l s t H Q (.fn (.func f) a c) = CallG P N B d l s t Q (.func f) (a++args.map (ev t)++c) H:=by simp [fnG]
theorem fnG_nil {d:Option Nat} {args:List O} {l:List S} {F:Fn} {a:List V}:fnG P N B d args l s t H Q (.fn F a []) = CallG P N B d l s t Q F (a++args.map (ev t)++[]) H:=by simp [fnG]
theorem run_callv {d:Option Nat} {g:O} {args:List O} {l:List S}:Run P N B (.r (.callv d g args :: l) :: s) t H Q ↔ fnG P N B d args l s t H Q (ev t g):=by
 constructor
 ·intro h
  cases h with
  | callvA F fst caps R h0 hF h1 h2=>rw [h0];exact ⟨hF,.inl ⟨R,h1,h2⟩⟩
  | callv F fst caps idx R h0 hF h1 h2 h3 h4=>rw [h0];exact ⟨hF,.inr ⟨idx,R,h1,h2,h3,h4⟩⟩
 ·intro h
  unfold fnG at h
  split at h
  ·rename_i F fst caps hv
   obtain ⟨hF,h⟩:=h
   rcases h with ⟨R,h1,h2⟩ | ⟨idx,R,h1,h2,h3,h4⟩
   ·exact .callvA F fst caps R hv hF h1 h2
   ·exact .callv F fst caps idx R hv hF h1 h2 h3 h4
  ·exact h.elim
def brP (o:Option Ob) (l:Nat) (K:Loop→T→Prop):Prop:=match o with
 | some (.lp l' .ready r ts)=>l' = l∧K r ts
 | _=>False
theorem brP_some {l l':Nat} {r:Loop} {ts:T} {K:Loop→T→Prop}:brP (some (.lp l' .ready r ts)) l K = (l' = l∧K r ts):=rfl
theorem run_br {l n:Nat}:Run P N B (.br l n :: s) t H Q ↔ brP H[n]? l fun r ts=>Run P N B s t (H.set n (.lp l .busy r ts)) Q:=by
 constructor
 ·intro h
  cases h with
  | br h1 h2=>rw [h1];exact ⟨rfl,h2⟩
 ·intro h
  unfold brP at h
  split at h
  ·rename_i l' r ts hh
   obtain ⟨rfl,h⟩:=h
   exact .br hh h
  ·exact h.elim
end
theorem loop_up {n:Nat} {R:Nat→Prop} (hstep:∀ k,k < n→R (k+1)→R k) (hend:R n):∀ k,k≤n→R k:=by
 intro k hk
 obtain ⟨m,rfl⟩:∃ m,n = k+m:=⟨n - k,by omega⟩
 induction m generalizing k with
 | zero=>exact hend
 | succ m ih=>exact hstep k (by omega) (ih (k+1) (fun j hj=>hstep j (by omega)) (by rw [show k+1+m = k+(m+1) by omega];exact hend) (by omega))
theorem ren_int {σ:Nat→Option Nat} {k:IntKind} {n:Int}:ren σ (.int k n) = .int k n:=rfl
theorem ren_bool {σ:Nat→Option Nat} {b:Bool}:ren σ (.bool b) = .bool b:=rfl
theorem ren_str {σ:Nat→Option Nat} {s:List UInt8}:ren σ (.str s) = .str s:=rfl
theorem ren_sl {σ:Nat→Option Nat} {z:Nat} {l:List (List V)}:ren σ (.sl z l) = .sl z l:=rfl
theorem ren_ro {σ:Nat→Option Nat} {l:List V} {k:Nat}:ren σ (.ro l k) = .ro l k:=rfl
theorem ren_nil {σ:Nat→Option Nat}:ren σ .nil = .nil:=rfl
theorem ren_nilp {σ:Nat→Option Nat}:ren σ .nilp = .nilp:=rfl
theorem ren_nilm {σ:Nat→Option Nat}:ren σ .nilm = .nilm:=rfl
theorem ren_nilf {σ:Nat→Option Nat}:ren σ .nilf = .nilf:=rfl
theorem ren_any {σ:Nat→Option Nat}:ren σ .any = .any:=rfl
theorem ren_agg {σ:Nat→Option Nat} {l:List V}:ren σ (.agg l) = .agg (rens σ l):=by simp only [ren]
theorem ren_tup {σ:Nat→Option Nat} {l:List V}:ren σ (.tup l) = .tup (rens σ l):=by simp only [ren]
theorem ren_fn {σ:Nat→Option Nat} {f:Fn} {a l:List V}:ren σ (.fn f a l) = .fn f (rens σ a) (rens σ l):=by simp only [ren]
theorem ren_own {σ:Nat→Option Nat} {i z:Nat} {l:List (List V)}:ren σ (.own i z l) = match σ i with | some j=>.own j z l | none=>.sl z l:=by simp only [ren];rfl
theorem ren_ptr {σ:Nat→Option Nat} {i o:Nat}:ren σ (.ptr i o) = match σ i with | some j=>.ptr j o | none=>.any:=by simp only [ren];rfl
theorem rens_nil {σ:Nat→Option Nat}:rens σ [] = []:=by simp only [rens]
theorem rens_cons {σ:Nat→Option Nat} {x:V} {l:List V}:rens σ (x :: l) = ren σ x :: rens σ l:=by simp only [rens]
theorem sto_int {k:IntKind} {n:Int}:sto (.int k n) = some [.int k n]:=rfl
theorem sto_bool {b:Bool}:sto (.bool b) = some [.bool b]:=rfl
theorem sto_str {s:List UInt8}:sto (.str s) = some [.str s]:=rfl
theorem sto_sl {z:Nat} {l:List (List V)}:sto (.sl z l) = some [.sl z l]:=rfl
theorem sto_own {i z:Nat} {l:List (List V)}:sto (.own i z l) = some [.own i z l]:=rfl
theorem sto_agg {l:List V}:sto (.agg l) = some l:=rfl
theorem sto_map {i:Nat}:sto (.map i) = some [.map i]:=rfl
theorem sto_nilm:sto .nilm = some [.nilm]:=rfl
theorem sto_nilf:sto .nilf = some [.nilf]:=rfl
theorem sto_nilp:sto .nilp = some [.nilp]:=rfl
theorem ren_map {σ:Nat→Option Nat} {i:Nat}:ren σ (.map i) = match σ i with | some j=>.map j | none=>.any:=by simp only [ren];rfl
theorem ren_it {σ:Nat→Option Nat} {i:Nat}:ren σ (.it i) = match σ i with | some j=>.it j | none=>.any:=by simp only [ren];rfl
theorem sto_nil:sto .nil = some [.nil]:=rfl
theorem sto_fn {f:Fn} {a l:List V}:sto (.fn f a l) = some [.fn f a l]:=rfl
theorem sto_ptr {i o:Nat}:sto (.ptr i o) = some [.ptr i o]:=rfl
theorem ren_rw {σ:Nat→Option Nat} {i z n:Nat}:ren σ (.rw i z n) = match σ i with | some j=>.rw j z n | none=>.any:=by simp only [ren];rfl
theorem ren_rp {σ:Nat→Option Nat} {i n k o:Nat}:ren σ (.rp i n k o) = match σ i with | some j=>.rp j n k o | none=>.any:=by simp only [ren];rfl
theorem sto_rw {i z n:Nat}:sto (.rw i z n) = some [.rw i z n]:=rfl
theorem sto_rp {i n k o:Nat}:sto (.rp i n k o) = some [.rp i n k o]:=rfl
theorem renOb_cells {σ:Nat→Option Nat} {e:Nat} {cs:List V}:renOb σ (.cells e cs) = .cells e (rens σ cs):=rfl
theorem renOb_arr {σ:Nat→Option Nat} {e z n:Nat}:renOb σ (.arr e z n) = .arr e z n:=rfl
theorem renOb_map {σ:Nat→Option Nat} {es:List (V × V)}:renOb σ (.map es) = .map (es.map fun p=>(ren σ p.1,ren σ p.2)):=rfl
theorem renOb_iter {σ:Nat→Option Nat} {m:Option Nat} {n:Nat} {s:List Nat}:renOb σ (.iter m n s) = .iter (m.bind σ) n s:=rfl
theorem renOb_dead {σ:Nat→Option Nat}:renOb σ .dead = .dead:=rfl
theorem renOb_row {σ:Nat→Option Nat} {e z:Nat} {els:List (List V)}:renOb σ (.row e z els) = .row e z (els.map (rens σ)):=rfl
theorem renOb_lp {σ:Nat→Option Nat} {l:Nat} {st:LS} {r:Loop} {ts:T}:renOb σ (.lp l st r ts) = .lp l st r (ts.map fun p=>(p.1,ren σ p.2)):=rfl
theorem sto_ro {l:List V} {o:Nat}:sto (.ro l o) = some [.ro l o]:=rfl
theorem wrap64 {x:Int} (h1:-9223372036854775808≤x) (h2:x≤9223372036854775807):IntKind.i64.wrap x = x:=by
 unfold IntKind.wrap IntKind.bits IntKind.signed;simp;omega
def cellsO (o:Option Ob) (f:List V→Option V):Option V:=match o with
 | some (.cells _ cs)=>f cs
 | _=>none
theorem cellsO_some {e:Nat} {cs:List V} {f:List V→Option V}:cellsO (some (.cells e cs)) f = f cs:=rfl
theorem ldV_ro {H:List Ob} {cs:List V} {k:Nat}:ldV H (.ro cs k) = cs[k]?:=rfl
theorem ldV_ptr {H:List Ob} {i k:Nat}:ldV H (.ptr i k) = cellsO H[i]? fun cs=>cs[k]?:=by unfold ldV cellsO;rfl
theorem laV_ro {H:List Ob} {cs:List V} {k n:Nat}:laV n H (.ro cs k) = if k+n≤cs.length then some (.agg (sub k n cs)) else none:=rfl
theorem laV_ptr {H:List Ob} {i k n:Nat}:laV n H (.ptr i k) = cellsO H[i]? fun cs=>if k+n≤cs.length then some (.agg (sub k n cs)) else none:=by unfold laV cellsO;rfl
def rowO (o:Option Ob) (f:List (List V)→Option V):Option V:=match o with
 | some (.row _ _ els)=>f els
 | _=>none
theorem rowO_some {e z:Nat} {els:List (List V)} {f:List (List V)→Option V}:rowO (some (.row e z els)) f = f els:=rfl
theorem ldV_rp {H:List Ob} {i n k o:Nat}:ldV H (.rp i n k o) = rowO H[i]? fun els=>if els.length = n then (els[k]?).bind fun el=>el[o]? else none:=by unfold ldV rowO;rfl
theorem laV_rp {H:List Ob} {i n j o k:Nat}:laV k H (.rp i n j o) = rowO H[i]? fun els=>if els.length = n then (els[j]?).bind fun el=>if o+k≤el.length then some (.agg (sub o k el)) else none else none:=by unfold laV rowO;rfl
theorem faV_rp {H:List Ob} {i n j o k:Nat}:faV k H (.rp i n j o) = some (.rp i n j (o+k)):=rfl
theorem ncV_rp {H:List Ob} {i n j o:Nat}:ncV H (.rp i n j o) = some (.rp i n j o):=rfl
theorem lenV_rw {i z n:Nat}:lenV (.rw i z n) = some (.int .i64 n):=rfl
theorem iaV_rw {z y i m:Nat} {k:IntKind} {n:Int}:iaV z (.rw i y m) (.int k n) = if y = z∧0≤n∧n < m then some (.rp i m n.toNat 0) else none:=rfl
theorem faV_ro {H:List Ob} {cs:List V} {k n:Nat}:faV n H (.ro cs k) = some (.ro cs (k+n)):=rfl
theorem faV_ptr {H:List Ob} {i k n:Nat}:faV n H (.ptr i k) = cellsO H[i]? fun _=>some (.ptr i (k+n)):=by unfold faV cellsO;rfl
theorem ncV_ro {H:List Ob} {cs:List V} {k:Nat}:ncV H (.ro cs k) = some (.ro cs k):=rfl
theorem ncV_ptr {H:List Ob} {i k:Nat}:ncV H (.ptr i k) = cellsO H[i]? fun _=>some (.ptr i k):=by unfold ncV cellsO;rfl
theorem fdV_none {cs:List V} {k:Nat}:fdV k none (.agg cs) = cs[k]?:=rfl
theorem fdV_some {cs:List V} {k n:Nat}:fdV k (some n) (.agg cs) = if k+n≤cs.length then some (.agg (sub k n cs)) else none:=rfl
theorem elV_sl {z:Nat} {l:List (List V)}:elV (.sl z l) = some l:=rfl
theorem elV_own {i z:Nat} {l:List (List V)}:elV (.own i z l) = some l:=rfl
theorem elV_nil:elV .nil = some []:=rfl
theorem lenV_sl {z:Nat} {l:List (List V)}:lenV (.sl z l) = some (.int .i64 l.length):=rfl
theorem lenV_own {i z:Nat} {l:List (List V)}:lenV (.own i z l) = some (.int .i64 l.length):=rfl
theorem lenV_nil:lenV .nil = some (.int .i64 0):=rfl
theorem lensV_str {l:List UInt8}:lensV (.str l) = some (.int .i64 l.length):=rfl
theorem iaV_sl {z y:Nat} {l:List (List V)} {k:IntKind} {n:Int}:iaV z (.sl y l) (.int k n) = if y = z∧0≤n∧n < l.length then some (.ro (l.getD n.toNat []) 0) else none:=rfl
theorem iaV_own {i z y:Nat} {l:List (List V)} {k:IntKind} {n:Int}:iaV z (.own i y l) (.int k n) = if y = z∧0≤n∧n < l.length then some (.ro (l.getD n.toNat []) 0) else none:=rfl
theorem ixV_str {l:List UInt8} {k:IntKind} {n:Int}:ixV (.str l) (.int k n) = if 0≤n∧n < l.length then some (.int .u8 (btV l n.toNat)) else none:=rfl
theorem ixaV_int {z L:Nat} {o:Option Nat} {x:V} {k:IntKind} {n:Int}:ixaV z L o x (.int k n) = if 0≤n∧n < L then fdV (n.toNat * z) o x else none:=rfl
section
variable {k:IntKind} {a b:Int}
theorem binV_add:binV .add (.int k a) (.int k b) = some (.int k (k.wrap (a+b))):=by simp [binV]
theorem binV_sub:binV .sub (.int k a) (.int k b) = some (.int k (k.wrap (a - b))):=by simp [binV]
theorem binV_mul:binV .mul (.int k a) (.int k b) = some (.int k (k.wrap (a * b))):=by simp [binV]
theorem binV_quo:binV .quo (.int k a) (.int k b) = if b = 0 then none else some (.int k (k.wrap (a.tdiv b))):=by simp [binV]
theorem binV_rem:binV .rem (.int k a) (.int k b) = if b = 0 then none else some (.int k (a.tmod b)):=by simp [binV]
theorem shV_shl {j:IntKind}:shV .shl (.int k a) (.int j b) = if b < 0 then none else some (.int k (k.wrap (a * 2^(min b.toNat k.bits)))):=rfl
theorem shV_shr {j:IntKind}:shV .shr (.int k a) (.int j b) = if b < 0 then none else some (.int k (a.fdiv (2^(min b.toNat k.bits)))):=rfl
theorem binV_eql:binV .eql (.int k a) (.int k b) = some (.bool (decide (a = b))):=by simp [binV,intCmpV,BEq.beq]
theorem binV_neq:binV .neq (.int k a) (.int k b) = some (.bool (decide (a ≠ b))):=by simp [binV,intCmpV,BEq.beq,bne]
theorem binV_lss:binV .lss (.int k a) (.int k b) = some (.bool (decide (a < b))):=by simp [binV,intCmpV]
theorem binV_leq:binV .leq (.int k a) (.int k b) = some (.bool (decide (a≤b))):=by simp [binV,intCmpV]
theorem binV_gtr:binV .gtr (.int k a) (.int k b) = some (.bool (decide (b < a))):=by simp [binV,intCmpV]
theorem binV_geq:binV .geq (.int k a) (.int k b) = some (.bool (decide (b≤a))):=by simp [binV,intCmpV]
end
theorem binV_str {op:BinOp} {a b:List UInt8}:binV op (.str a) (.str b) = strOpV op a b:=rfl
theorem strOpV_add {a b:List UInt8}:strOpV .add a b = if a.length+b.length≤capMax then some (.str (a++b)) else none:=rfl
theorem strOpV_eql {a b:List UInt8}:strOpV .eql a b = some (.bool (decide (a = b))):=by by_cases h:a = b <;> simp [strOpV,h]
theorem strOpV_neq {a b:List UInt8}:strOpV .neq a b = some (.bool (decide (a ≠ b))):=by by_cases h:a = b <;> simp [strOpV,h]
theorem strOpV_lss {a b:List UInt8}:strOpV .lss a b = some (.bool (Op.bytesLess a b)):=rfl
theorem bbV_eql {a b:Bool}:bbV .eql (.bool a) (.bool b) = some (.bool (a == b)):=rfl
theorem bbV_neq {a b:Bool}:bbV .neq (.bool a) (.bool b) = some (.bool (a != b)):=rfl
theorem unV_not {b:Bool}:unV .not (.bool b) = some (.bool !b):=rfl
theorem unV_neg {k:IntKind} {n:Int}:unV .neg (.int k n) = some (.int k (k.wrap (0 - n))):=rfl
theorem exV_tup {l:List V} {i:Nat}:exV i (.tup l) = l[i]?:=rfl
theorem sxsV_str {l:List UInt8} {lo hi:Option V}:sxsV (.str l) lo hi = match bnd lo 0,bnd hi l.length with
  | some a,some b=>if a≤b∧b≤l.length then some (.str ((l.drop a).take (b - a))) else none
  | _,_=>none:=rfl
theorem bnd_none {n:Nat}:bnd none n = some n:=rfl
theorem bnd_int {k:IntKind} {m:Int} {n:Nat}:bnd (some (.int k m)) n = if 0≤m then some m.toNat else none:=rfl
section
variable {B:Nat} {t:T} {H:List Ob}
theorem xc_mv {d:Nat} {x:O}:exec B (.mv d x) t H = some ((d,ev t x) :: t,H):=rfl
theorem xc_pick {d:Nat} {c:O} {a:O} {b:O}:exec B (.pick d c a b) t H = (match ev t c with
  | .bool c=>some ((d,if c then ev t a else ev t b) :: t,H)
  | _=>none):=rfl
theorem xc_al {d:Nat} {e:Nat} {z:List V}:exec B (.al d e z) t H = some ((d,.ptr H.length 0) :: t,H++[.cells e z]):=rfl
theorem xc_bx {d:Nat} {e:Nat} {x:O}:exec B (.bx d e x) t H = (match sto (ev t x) with
  | some cs=>some ((d,.ptr H.length 0) :: t,H++[.cells e cs])
  | none=>none):=rfl
theorem xc_br {d:Nat} {e:Nat} {x:O}:exec B (.br d e x) t H = (match sto (ev t x) with
  | some cs=>some ((d,.ro (rens (fun _=>none) cs) 0) :: t,H)
  | none=>none):=rfl
theorem xc_sf {d:Nat} {k:Nat} {x:O}:exec B (.sf d k x) t H = (match lk t d with
  | .ptr i 0=>match H[i]? with
   | some (.cells e cs)=>match sto (ev t x) with
    | some new=>if new.length = k∧cs.length = k then some ((d,.ro (rens (fun _=>none) new) 0) :: t,H.set i .dead) else none
    | none=>none
   | _=>none
  | _=>none):=rfl
theorem xc_ldr {d:Nat} {x:O}:exec B (.ldr d x) t H = set1 d (ldV [] (ev t x)) t H:=rfl
theorem xc_lar {d:Nat} {k:Nat} {x:O}:exec B (.lar d k x) t H = set1 d (laV k [] (ev t x)) t H:=rfl
theorem xc_far {d:Nat} {off:Nat} {x:O}:exec B (.far d off x) t H = set1 d (faV off [] (ev t x)) t H:=rfl
theorem xc_ld {d:Nat} {x:O}:exec B (.ld d x) t H = set1 d (ldV H (ev t x)) t H:=rfl
theorem xc_la {d:Nat} {k:Nat} {x:O}:exec B (.la d k x) t H = set1 d (laV k H (ev t x)) t H:=rfl
theorem xc_st {k:Nat} {a:O} {x:O}:exec B (.st k a x) t H = (match ev t a with
  | .ptr i off=>match H[i]? with
   | some (.cells e cs)=>match sto (ev t x) with
    | some new=>if new.length = k∧off+k≤cs.length then some (t,H.set i (.cells e (put off new cs))) else none
    | none=>none
   | _=>none
  | .rp i n j off=>match H[i]? with
   | some (.row e sz els)=>match sto (ev t x) with
    | some new=>if els.length = n∧j < n∧new.length = k∧off+k≤sz then some (t,H.set i (.row e sz (els.set j (put off new (els.getD j []))))) else none
    | none=>none
   | _=>none
  | _=>none):=rfl
theorem xc_fa {d:Nat} {off:Nat} {x:O}:exec B (.fa d off x) t H = set1 d (faV off H (ev t x)) t H:=rfl
theorem xc_nc {d:Nat} {x:O}:exec B (.nc d x) t H = set1 d (ncV H (ev t x)) t H:=rfl
theorem xc_fd {d:Nat} {off:Nat} {k:Option Nat} {x:O}:exec B (.fd d off k x) t H = set1 d (fdV off k (ev t x)) t H:=rfl
theorem xc_bd {d:Nat} {z:List V} {ps:List (Nat × Nat × O)}:exec B (.bd d z ps) t H = set1 d ((bdV t ps z).map .agg) t H:=rfl
theorem xc_bs {d:Nat} {sz:Nat} {xs:List O}:exec B (.bs d sz xs) t H = set1 d ((bsV t sz xs).map (.sl sz)) t H:=rfl
theorem xc_bo {d:Nat} {e:Nat} {sz:Nat} {xs:List O}:exec B (.bo d e sz xs) t H = (match bsV t sz xs with
  | some els=>some ((d,.own H.length sz els) :: t,H++[.arr e sz els.length])
  | none=>none):=rfl
theorem xc_bin {d:Nat} {op:BinOp} {x:O} {y:O}:exec B (.bin d op x y) t H = set1 d (binV op (ev t x) (ev t y)) t H:=rfl
theorem xc_bb {d:Nat} {op:BinOp} {x:O} {y:O}:exec B (.bb d op x y) t H = set1 d (bbV op (ev t x) (ev t y)) t H:=rfl
theorem xc_sh {d:Nat} {op:BinOp} {x:O} {y:O}:exec B (.sh d op x y) t H = set1 d (shV op (ev t x) (ev t y)) t H:=rfl
theorem xc_un {d:Nat} {op:UnOp} {x:O}:exec B (.un d op x) t H = set1 d (unV op (ev t x)) t H:=rfl
theorem xc_cvi {d:Nat} {k:IntKind} {x:O}:exec B (.cvi d k x) t H = (match ev t x with
  | .int _ n=>some ((d,.int k (k.wrap n)) :: t,H)
  | _=>none):=rfl
theorem xc_cvs {d:Nat} {x:O}:exec B (.cvs d x) t H = (match ev t x with
  | .str s=>some ((d,.str s) :: t,H)
  | _=>none):=rfl
theorem xc_s2b {d:Nat} {x:O}:exec B (.s2b d x) t H = (match ev t x with
  | .str s=>if s.length≤maxEls then some ((d,.sl 1 (s.map fun c=>[.int .u8 c.toNat])) :: t,H) else none
  | _=>none):=rfl
theorem xc_b2s {d:Nat} {x:O}:exec B (.b2s d x) t H = (match elV (ev t x) with
  | some els=>match b2sV els with
   | some l=>some ((d,.str l) :: t,H)
   | none=>none
  | none=>none):=rfl
theorem xc_mf {d:Nat} {g:Nat} {fst:List O} {caps:List O}:exec B (.mf d g fst caps) t H = some ((d,.fn (.func g) (fst.map (ev t)) (caps.map (ev t))) :: t,H):=rfl
theorem xc_len {d:Nat} {x:O}:exec B (.len d x) t H = set1 d (lenV (ev t x)) t H:=rfl
theorem xc_lens {d:Nat} {x:O}:exec B (.lens d x) t H = set1 d (lensV (ev t x)) t H:=rfl
theorem xc_ia {d:Nat} {sz:Nat} {x:O} {i:O}:exec B (.ia d sz x i) t H = set1 d (iaV sz (ev t x) (ev t i)) t H:=rfl
theorem xc_ix {d:Nat} {x:O} {i:O}:exec B (.ix d x i) t H = set1 d (ixV (ev t x) (ev t i)) t H:=rfl
theorem xc_ixa {d:Nat} {sz n:Nat} {k:Option Nat} {x:O} {i:O}:exec B (.ixa d sz n k x i) t H = set1 d (ixaV sz n k (ev t x) (ev t i)) t H:=rfl
theorem xc_sx {d:Nat} {sz:Nat} {x:O} {lo:Option O} {hi:Option O}:exec B (.sx d sz x lo hi) t H = set1 d (sxV sz (ev t x) (lo.map (ev t)) (hi.map (ev t))) t H:=rfl
theorem xc_sxs {d:Nat} {x:O} {lo:Option O} {hi:Option O}:exec B (.sxs d x lo hi) t H = set1 d (sxsV (ev t x) (lo.map (ev t)) (hi.map (ev t))) t H:=rfl
theorem xc_ex {d:Nat} {x:O} {i:Nat}:exec B (.ex d x i) t H = set1 d (exV i (ev t x)) t H:=rfl
theorem xc_app {d:Nat} {e:Nat} {sz:Nat} {bytes:Nat} {x:O} {y:O}:exec B (.app d e sz bytes x y) t H = set2 d (appV H e sz bytes (ev t x) (ev t y)) t:=rfl
theorem xc_apr {d:Nat} {e:Nat} {sz:Nat} {bytes:Nat} {x:O} {y:O}:exec B (.apr d e sz bytes x y) t H = set2 d (aprV H e sz bytes (ev t x) (ev t y)) t:=rfl
theorem xc_mx {d:Nat} {x:O} {y:O}:exec B (.mx d x y) t H = (match ev t x,ev t y with
  | .int k a,.int k' b=>if k = k' then some ((d,.int k (if b > a then b else a)) :: t,H) else none
  | _,_=>none):=rfl
theorem xc_mn {d:Nat} {x:O} {y:O}:exec B (.mn d x y) t H = (match ev t x,ev t y with
  | .int k a,.int k' b=>if k = k' then some ((d,.int k (if b < a then b else a)) :: t,H) else none
  | _,_=>none):=rfl
theorem xc_non {d:Nat} {e:Nat} {sz:Nat}:exec B (.non d e sz) t H = (match lk t d with
  | .nil=>some ((d,.own H.length sz []) :: t,H++[.arr e sz 0])
  | _=>none):=rfl
theorem xc_ono {e:Nat} {sz:Nat} {k:Nat} {a:O}:exec B (.ono e sz k a) t H = (match ev t a with
  | .ptr i off=>match H[i]? with
   | some (.cells e' cs)=>match cs[off+k]? with
    | some .nil=>some (t,H.set i (.cells e' (put (off+k) [.own H.length sz []] cs))++[.arr e sz 0])
    | _=>none
   | _=>none
  | _=>none):=rfl
theorem xc_mk {d e sz bytes:Nat} {z:List V} {x:O}:exec B (.mk d e sz bytes z x) t H = (match ev t x with
  | .int _ n=>if 0≤n∧n.toNat≤maxEls∧n.toNat * bytes≤maxEls then some ((d,.rw H.length sz n.toNat) :: t,H++[.row e sz (List.replicate n.toNat z)]) else none
  | _=>none):=rfl
theorem xc_mkm {d:Nat}:exec B (.mkm d) t H = some ((d,.map H.length) :: t,H++[.map []]):=rfl
theorem xc_lkp {d:Nat} {ks:Bool} {ok:Bool} {z:V} {m:O} {k:O}:exec B (.lkp d ks ok z m k) t H = set1 d (lookV H ks ok z (ev t m) (ev t k)) t H:=rfl
theorem xc_muq {sh:List Bool} {m:O} {k:O} {x:O}:exec B (.muq sh m k x) t H = (match ev t m with
  | .map i=>match H[i]? with
   | some (.map es)=>if shB sh (ev t k) then match updQ (ev t k) (ev t x) es with
    | some es'=>some (t,H.set i (.map es'))
    | none=>none
    else none
   | _=>none
  | _=>none):=rfl
theorem xc_eqs {d:Nat} {neg:Bool} {sh:List Bool} {x y:O}:exec B (.eqs d neg sh x y) t H = set1 d (eqsV neg sh (ev t x) (ev t y)) t H:=rfl
theorem xc_apz {d e sz bytes k:Nat} {y:O}:exec B (.apz d e sz bytes k y) t H = (match lk t k with
  | .nil=>set2 d (appV (H++[.arr e sz 0]) e sz bytes (.own H.length sz []) (ev t y)) t
  | .own _ _ _=>set2 d (appV H e sz bytes (lk t k) (ev t y)) t
  | _=>none):=rfl
theorem xc_kt {l:List Nat}:exec B (.kt l) t H = some (l.map fun n=>(n,lk t n),H):=rfl
theorem xc_kk {rs l:List Nat}:exec B (.kk rs l) t H = (match objIs t rs with
  | some js=>if kkB B H.length js then some (l.map fun n=>(n,ren (pos? (List.range B++js)) (lk t n)),give (List.range B++js) H) else none
  | none=>none):=rfl
theorem xc_noz {d e sz:Nat}:exec B (.noz d e sz) t H = (match lk t d with
  | .nil=>some ((d,.own H.length sz []) :: t,H++[.arr e sz 0])
  | .own _ _ _=>some (t,H)
  | _=>none):=rfl
theorem xc_mup {ks:Bool} {m:O} {k:O} {x:O}:exec B (.mup ks m k x) t H = (match ev t m with
  | .map i=>match H[i]? with
   | some (.map es)=>if ksB ks (ev t k) then match updM (ev t k) (ev t x) es with
    | some es'=>some (t,H.set i (.map es'))
    | none=>none
    else none
   | _=>none
  | _=>none):=rfl
theorem xc_rg {d:Nat} {m:O}:exec B (.rg d m) t H = (match ev t m with
  | .map i=>match H[i]? with
   | some (.map es)=>some ((d,.it H.length) :: t,H++[.iter (some i) es.length []])
   | _=>none
  | _=>none):=rfl
theorem xc_en {d:Nat} {x:O}:exec B (.en d x) t H = set1 d (enV H (ev t x)) t H:=rfl
theorem xc_rnon {d:Nat} {e:Nat} {sz:Nat}:exec B (.rnon d e sz) t H = (match lk t d with
  | .nil=>some ((d,.rw H.length sz 0) :: t,H++[.row e sz []])
  | _=>none):=rfl
theorem xc_rono {e:Nat} {sz:Nat} {k:Nat} {a:O}:exec B (.rono e sz k a) t H = (match ev t a with
  | .ptr i off=>match H[i]? with
   | some (.cells e' cs)=>match cs[off+k]? with
    | some .nil=>some (t,H.set i (.cells e' (put (off+k) [.rw H.length sz 0] cs))++[.row e sz []])
    | _=>none
   | _=>none
  | _=>none):=rfl
theorem xc_frz {d:Nat}:exec B (.frz d) t H = (match lk t d with
  | .rw i z n=>match H[i]? with
   | some (.row e sz els)=>if els.length = n then some ((d,.sl sz (els.map (rens fun _=>none))) :: t,H.set i .dead) else none
   | _=>none
  | _=>none):=rfl
theorem xc_e2r {d:Nat}:exec B (.e2r d) t H = (match lk t d with
  | .own i z []=>match H[i]? with
   | some (.arr e sz 0)=>if z = sz then some ((d,.rw H.length sz 0) :: t,H.set i .dead++[.row e sz []]) else none
   | _=>none
  | _=>none):=rfl
theorem xc_frc {k:Nat} {a:O}:exec B (.frc k a) t H = (match ev t a with
  | .ptr i off=>match H[i]? with
   | some (.cells e cs)=>match cs[off+k]? with
    | some (.rw j z n)=>match H[j]? with
     | some (.row e' sz els)=>if els.length = n then some (t,(H.set j .dead).set i (.cells e (put (off+k) [.sl sz (els.map (rens fun _=>none))] cs))) else none
     | _=>none
    | some (.sl _ _)=>some (t,H)
    | _=>none
   | _=>none
  | _=>none):=rfl
theorem xc_ks {m:Nat} {l:List Nat}:exec B (.ks m l) t H = some (l.map fun n=>(n,ren (clip (B+m)) (lk t n)),(H.take (B+m)).map (renOb (clip (B+m)))):=rfl
end
attribute [push_cast] run_done run_skip run_seq run_reg run_dr run_gh run_rend run_blk run_mk run_loop run_ret goP_some goP_none run_exit popTo exP_some exP_none exP_ite run_op oP_some oP_none oP_ite o1P_some o1P_none o1P_ite o1P_ite' exP_set1 cP_bool run_cond gP_bool gP_tup run_gd run_alt0 run_alt1 run_nx run_callp fnP_fn run_callvp ev_s ev_c ev_f lk_nil lk_cons xc_mv xc_pick xc_al xc_bx xc_br xc_sf xc_ldr xc_lar xc_far xc_ld xc_la xc_st xc_fa xc_nc xc_fd xc_bd xc_bs xc_bo xc_bin xc_bb xc_sh xc_un xc_cvi xc_cvs xc_s2b xc_b2s xc_mf xc_len xc_lens xc_ia xc_ix xc_ixa xc_sx xc_sxs xc_ex xc_app xc_apr xc_mx xc_mn xc_non xc_ono xc_mk xc_mkm xc_lkp xc_mup xc_muq xc_eqs xc_kt xc_kk xc_noz xc_apz xc_rg xc_en xc_rnon xc_rono xc_frz xc_e2r xc_frc xc_ks cellsO_some ldV_ro ldV_ptr laV_ro laV_ptr faV_ro faV_ptr ncV_ro ncV_ptr fdV_none fdV_some elV_sl elV_own elV_nil lenV_sl lenV_own lenV_nil lensV_str iaV_sl iaV_own ixV_str ixaV_int binV_add binV_sub binV_mul binV_eql binV_neq binV_lss binV_leq binV_gtr binV_geq binV_str strOpV_add strOpV_eql strOpV_neq strOpV_lss bbV_eql bbV_neq unV_not unV_neg exV_tup sxsV_str bnd_none bnd_int bdV bsV clip setO exP_set2 o2P_some o2P_none o2P_ite run_call fnG_func fnG_nil run_callv run_br brP_some run_bad nlP_some run_nl run_n binV_quo binV_rem shV_shl shV_shr oP_ite' rowO_some ldV_rp laV_rp faV_rp ncV_rp lenV_rw iaV_rw ren_rw ren_rp sto_rw sto_rp renOb_cells renOb_arr renOb_map renOb_iter renOb_dead renOb_row renOb_lp ren_int ren_bool ren_str ren_sl ren_ro ren_nil ren_nilp ren_nilm ren_nilf ren_any ren_agg ren_tup ren_fn ren_own ren_ptr rens_nil rens_cons sto_int sto_bool sto_str sto_sl sto_own sto_agg sto_nil sto_fn sto_ptr sto_ro sto_map sto_nilm sto_nilf sto_nilp ren_map ren_it List.map_cons List.map_nil List.cons_append List.nil_append List.append_nil rvs rvV retV ini List.length_nil List.length_cons List.getElem?_nil List.getElem?_cons_zero List.getElem?_cons_succ List.set_cons_zero List.set_cons_succ List.take_zero List.take_nil List.take_succ_cons Nat.le_refl true_and and_true and_self Nat.zero_add Nat.add_zero decide_eq_true_eq decide_eq_false_iff_not if_true if_false Bool.not_true Bool.not_false Int.toNat_natCast decide_true decide_false Bool.true_and Bool.and_true Bool.false_and Bool.and_false forall_const not_true_eq_false not_false_eq_true true_implies false_implies
end Go.Dw
end
section
namespace Go.Dw
noncomputable abbrev prog:Program:=Go.Proofs.Tryz.prog
theorem mixed:prog.follows .mixedOrders = true:=by kernel_rfl
def n_main_main:Nat:=0
def n_gosem_cut:Nat:=1
def n_gosem_cut_init:Nat:=2
def n_l17_MultiSteps:Nat:=3
def n_l17_MultiOf:Nat:=4
def n_multi_Steps:Nat:=5
def n_r17_SourceError:Nat:=6
def n_l17_alive:Nat:=7
def n_r04_SameSteps:Nat:=8
def n_r17_Steps:Nat:=9
def n_multi_Source:Nat:=10
def n_multi_Of:Nat:=11
def n_l17_shuffled:Nat:=12
def n_l17_large:Nat:=13
def n_r17_Same:Nat:=14
def n_r17_Of:Nat:=15
def n_r17_SameSet:Nat:=16
def n_multi_walk:Nat:=17
def n_multi_Steps_1:Nat:=18
def n_slices_SortFunc_s_Step_Step:Nat:=19
def n_multi_Steps_2:Nat:=20
def n_slices_Compare_s_int_int:Nat:=21
def n_r17_Check:Nat:=22
def n_r17_Term:Nat:=23
def n_multi_Target:Nat:=24
def n_l17_double:Nat:=25
def n_multi_Chain:Nat:=26
def n_multi_Inner:Nat:=27
def n_multi_Check:Nat:=28
def n_multi_Count:Nat:=29
def n_r01_Size:Nat:=30
def n_r01_SamePos:Nat:=31
def n_r17_inside:Nat:=32
def n_r17_Vars:Nat:=33
def n_r17_Prefixed:Nat:=34
def n_multi_end:Nat:=35
def n_multi_Source_1:Nat:=36
def n_rewrite_Both:Nat:=37
def n_rewrite_Do:Nat:=38
def n_multi_Bare:Nat:=39
def n_r04_Step:Nat:=40
def n_r04_Check:Nat:=41
def n_r17_of:Nat:=42
def n_r17_Small:Nat:=43
def n_r17_contains:Nat:=44
def n_slices_Clone_s_int_int:Nat:=45
def n_term_VarsOf:Nat:=46
def n_multi_occurrences:Nat:=47
def n_slices_Concat_s_int_int:Nat:=48
def n_slices_pdqsortCmpFunc_Step:Nat:=49
def n_bits_Len:Nat:=50
def n_cmp_Compare_int:Nat:=51
def n_r01_CheckSystem:Nat:=52
def n_r17_ranged:Nat:=53
def n_r17_formed:Nat:=54
def n_r17_Measure:Nat:=55
def n_r17_build:Nat:=56
def n_multi_Target_1:Nat:=57
def n_multi_develop:Nat:=58
def n_multi_first:Nat:=59
def n_multi_deep:Nat:=60
def n_term_CheckSystem:Nat:=61
def n_multi_all:Nat:=62
def n_multi_Check_1:Nat:=63
def n_multi_Check_2:Nat:=64
def n_multi_formed:Nat:=65
def n_multi_size:Nat:=66
def n_multi_depth:Nat:=67
def n_r17_index:Nat:=68
def n_r01_Vars:Nat:=69
def n_multi_side:Nat:=70
def n_multi_large:Nat:=71
def n_term_Fit:Nat:=72
def n_term_Own:Nat:=73
def n_term_Check:Nat:=74
def n_rewrite_find:Nat:=75
def n_term_Instance:Nat:=76
def n_term_Set:Nat:=77
def n_slices_ContainsFunc_s_Step_Step:Nat:=78
def n_multi_Bare_1:Nat:=79
def n_slices_Equal_s_int_int:Nat:=80
def n_multi_builder_build:Nat:=81
def n_multi_Fit:Nat:=82
def n_r04_Subst:Nat:=83
def n_r01_Grown:Nat:=84
def n_r04_replaced:Nat:=85
def n_r01_Put:Nat:=86
def n_r01_Apply:Nat:=87
def n_r01_Check:Nat:=88
def n_r17_Under:Nat:=89
def n_r17_Occurrences:Nat:=90
def n_r01_At:Nat:=91
def n_r17_Size:Nat:=92
def n_term_Walk:Nat:=93
def n_slices_Sort_s_string_string:Nat:=94
def n_slices_Grow_s_int_int:Nat:=95
def n_slices_insertionSortCmpFunc_Step:Nat:=96
def n_slices_heapSortCmpFunc_Step:Nat:=97
def n_slices_breakPatternsCmpFunc_Step:Nat:=98
def n_slices_choosePivotCmpFunc_Step:Nat:=99
def n_slices_reverseRangeCmpFunc_Step:Nat:=100
def n_slices_partialInsertionSortCmpFunc_Step:Nat:=101
def n_slices_partitionEqualCmpFunc_Step:Nat:=102
def n_slices_partitionCmpFunc_Step:Nat:=103
def n_bits_Len32:Nat:=104
def n_bits_Len64:Nat:=105
def n_cmp_isNaN_int:Nat:=106
def n_r01_Rules:Nat:=107
def n_r01_Symbols:Nat:=108
def n_r01_Within:Nat:=109
def n_r01_IsName:Nat:=110
def n_r17_filled:Nat:=111
def n_r17_side:Nat:=112
def n_multi_node:Nat:=113
def n_multi_places:Nat:=114
def n_multi_set:Nat:=115
def n_multi_contract:Nat:=116
def n_term_CheckRules:Nat:=117
def n_term_Arities:Nat:=118
def n_term_Marked:Nat:=119
def n_slices_ContainsFunc_s_Rule_Rule:Nat:=120
def n_term_extra:Nat:=121
def n_slices_ContainsFunc_s_Multi_Multi:Nat:=122
def n_multi_all_1:Nat:=123
def n_term_IsName:Nat:=124
def n_r01_collect:Nat:=125
def n_multi_plug:Nat:=126
def n_multi_large_1:Nat:=127
def n_slices_ContainsFunc_s_Term_Term:Nat:=128
def n_term_fits:Nat:=129
def n_term_formed:Nat:=130
def n_term_Sub:Nat:=131
def n_unify_Find:Nat:=132
def n_term_measure:Nat:=133
def n_term_replace:Nat:=134
def n_slices_IndexFunc_s_Step_Step:Nat:=135
def n_multi_builder_at:Nat:=136
def n_multi_Equal:Nat:=137
def n_multi_own:Nat:=138
def n_r03_Match:Nat:=139
def n_r01_Image:Nat:=140
def n_r01_Depth:Nat:=141
def n_r01_Formed:Nat:=142
def n_r04_Below:Nat:=143
def n_r01_Positions:Nat:=144
def n_term_Walk_1:Nat:=145
def n_term_walk:Nat:=146
def n_slices_pdqsortOrdered_string:Nat:=147
def n_slices_siftDownCmpFunc_Step:Nat:=148
def n_slices_nextPowerOfTwo:Nat:=149
def n_slices_xorshift_Next:Nat:=150
def n_slices_medianAdjacentCmpFunc_Step:Nat:=151
def n_slices_medianCmpFunc_Step:Nat:=152
def n_r01_CheckAll:Nat:=153
def n_r01_symbols:Nat:=154
def n_r01_Count:Nat:=155
def n_r01_Marked:Nat:=156
def n_r01_Letters:Nat:=157
def n_slices_Clone_s_Multi_Multi:Nat:=158
def n_multi_Plug:Nat:=159
def n_term_All:Nat:=160
def n_strings_HasSuffix:Nat:=161
def n_slices_IndexFunc_s_Rule_Rule:Nat:=162
def n_slices_ContainsFunc_s_string_string:Nat:=163
def n_term_extra_1:Nat:=164
def n_slices_Contains_s_string_string:Nat:=165
def n_slices_IndexFunc_s_Multi_Multi:Nat:=166
def n_strings_TrimSuffix:Nat:=167
def n_slices_ContainsFunc_s_byte_byte:Nat:=168
def n_term_IsName_1:Nat:=169
def n_term_inName:Nat:=170
def n_r01_Insert:Nat:=171
def n_slices_Index_s_string_string:Nat:=172
def n_slices_IndexFunc_s_Term_Term:Nat:=173
def n_term_Size:Nat:=174
def n_term_Depth:Nat:=175
def n_term_formed_1:Nat:=176
def n_unify_matcher_match:Nat:=177
def n_term_Image:Nat:=178
def n_slices_EqualFunc_s_Multi_s_Multi_Multi_Multi:Nat:=179
def n_r03_match:Nat:=180
def n_slices_insertionSortOrdered_string:Nat:=181
def n_slices_heapSortOrdered_string:Nat:=182
def n_slices_breakPatternsOrdered_string:Nat:=183
def n_slices_choosePivotOrdered_string:Nat:=184
def n_slices_reverseRangeOrdered_string:Nat:=185
def n_slices_partialInsertionSortOrdered_string:Nat:=186
def n_cmp_Less_string:Nat:=187
def n_slices_partitionEqualOrdered_string:Nat:=188
def n_slices_partitionOrdered_string:Nat:=189
def n_slices_order2CmpFunc_Step:Nat:=190
def n_r01_CompareNames:Nat:=191
def n_r01_letter:Nat:=192
def n_stringslite_HasSuffix:Nat:=193
def n_slices_IndexFunc_s_string_string:Nat:=194
def n_stringslite_TrimSuffix:Nat:=195
def n_slices_IndexFunc_s_byte_byte:Nat:=196
def n_term_Equal:Nat:=197
def n_unify_bind:Nat:=198
def n_slices_BinarySearchFunc_s_Bind_Bind_string:Nat:=199
def n_term_Image_1:Nat:=200
def n_strings_Compare:Nat:=201
def n_r03_Bound:Nat:=202
def n_r01_Equal:Nat:=203
def n_r03_with:Nat:=204
def n_slices_siftDownOrdered_string:Nat:=205
def n_slices_medianAdjacentOrdered_string:Nat:=206
def n_slices_medianOrdered_string:Nat:=207
def n_cmp_isNaN_string:Nat:=208
def n_r01_CompareInts:Nat:=209
def n_slices_EqualFunc_s_Term_s_Term_Term_Term:Nat:=210
def n_unify_bind_1:Nat:=211
def n_slices_Insert_s_Bind_Bind:Nat:=212
def n_bytealg_CompareString:Nat:=213
def n_r01_Compare:Nat:=214
def n_slices_order2Ordered_string:Nat:=215
def n_slices_overlaps_Bind:Nat:=216
def n_slices_rotateRight_Bind:Nat:=217
def n_bytealg_abigen_runtime_cmpstring:Nat:=218
def n_slices_rotateLeft_Bind:Nat:=219
def n_slices_Reverse_s_Bind_Bind:Nat:=220
def n_runtime_boundsError_Error:Nat:=221
def n_runtime_boundsError_RuntimeError:Nat:=222
def n_runtime_errorString_Error:Nat:=223
def n_runtime_errorString_RuntimeError:Nat:=224
def n_runtime_plainError_Error:Nat:=225
def n_runtime_plainError_RuntimeError:Nat:=226
def n_runtime_errorAddressString_Error:Nat:=227
def n_runtime_errorAddressString_RuntimeError:Nat:=228
def n_runtime_TypeAssertionError_Error:Nat:=229
def n_runtime_TypeAssertionError_RuntimeError:Nat:=230
def n_runtime_PanicNilError_Error:Nat:=231
def n_runtime_PanicNilError_RuntimeError:Nat:=232
def n_abi_Type_Align:Nat:=233
def n_runtime_maps_unhashableTypeError_Error:Nat:=234
def n_runtime_maps_unhashableTypeError_RuntimeError:Nat:=235
def n_abi_Kind_String:Nat:=236
noncomputable abbrev fn_slices_overlaps_Bind:Func:=Go.Proofs.Tryz.f216
theorem at_slices_overlaps_Bind:prog.funcs[n_slices_overlaps_Bind]? = some fn_slices_overlaps_Bind:=Go.Proofs.Tryz.func216
noncomputable abbrev fn_bytealg_abigen_runtime_cmpstring:Func:=Go.Proofs.Tryz.f218
theorem at_bytealg_abigen_runtime_cmpstring:prog.funcs[n_bytealg_abigen_runtime_cmpstring]? = some fn_bytealg_abigen_runtime_cmpstring:=Go.Proofs.Tryz.func218
def t_int:Nat:=3
def t_bool:Nat:=4
def t_string:Nat:=9
def t_s_Rule:Nat:=22
def t_Multi:Nat:=25
def t_s_int:Nat:=26
def t_s_Step:Nat:=27
def t_Term:Nat:=37
def t_Step:Nat:=48
def t_Chain:Nat:=56
def t_Rule:Nat:=65
def t_s_string:Nat:=66
def t_func_Multi_bool:Nat:=72
def t_s_s_int:Nat:=76
def t_func_Term_bool:Nat:=93
def t_p_multi_builder:Nat:=102
def t_multi_builder:Nat:=104
def t_m_string_bool:Nat:=114
def t_Bind:Nat:=140
def t_m_string_int:Nat:=146
def t_term_meter:Nat:=159
def t_slices_xorshift:Nat:=170
def t_unify_matcher:Nat:=194
def t_Symbol:Nat:=207
end Go.Dw
end
section
namespace Go.Dw
abbrev Str:=List UInt8
inductive Term where
 | mk (name:Str) (var:Bool) (args:List Term)
deriving Inhabited
namespace Term
def name:Term→Str | mk n _ _=>n
def var:Term→Bool | mk _ v _=>v
def args:Term→List Term | mk _ _ a=>a
theorem eta (t:Term):mk t.name t.var t.args = t:=by cases t;rfl
end Term
def encL {α:Type} (f:α→List V) (z:Nat) (l:List α):V:=.sl z (l.map f)
def ownL {α:Type} (f:α→List V) (i z:Nat) (l:List α):V:=.own i z (l.map f)
section
variable {α:Type} {f:α→List V} {z:Nat}
theorem sto_encL {l:List α}:sto (encL f z l) = some [encL f z l]:=rfl
theorem ren_encL {σ:Nat→Option Nat} {l:List α}:ren σ (encL f z l) = encL f z l:=rfl
theorem lenV_encL {l:List α}:lenV (encL f z l) = some (.int .i64 l.length):=by simp [encL,lenV]
theorem elV_encL {l:List α}:elV (encL f z l) = some (l.map f):=rfl
theorem iaV_encL [Inhabited α] {l:List α} {k:IntKind} {n:Int} {y:Nat}:iaV y (encL f z l) (.int k n) = if z = y∧0≤n∧n < l.length then some (.ro (f (l.getD n.toNat default)) 0) else none:=by
 simp only [encL,iaV,List.length_map]
 split
 ·rename_i h
  have hlt:n.toNat < l.length:=by omega
  simp [List.getD_eq_getElem?_getD,hlt]
 ·rfl
theorem sxV_encL {l:List α} {lo hi:Option V} {y:Nat}:sxV y (encL f z l) lo hi = match bnd lo 0,bnd hi l.length with
  | some a,some b=>if z = y∧a≤b∧b≤l.length then some (encL f z ((l.drop a).take (b - a))) else none
  | _,_=>none:=by
 simp only [encL,sxV,List.length_map,← List.map_drop,← List.map_take]
 rfl
theorem sto_ownL {i:Nat} {l:List α}:sto (ownL f i z l) = some [ownL f i z l]:=rfl
theorem ren_ownL {σ:Nat→Option Nat} {i:Nat} {l:List α}:ren σ (ownL f i z l) = match σ i with | some j=>ownL f j z l | none=>encL f z l:=by simp only [ownL,encL,ren];rfl
theorem lenV_ownL {i:Nat} {l:List α}:lenV (ownL f i z l) = some (.int .i64 l.length):=by simp [ownL,lenV]
theorem elV_ownL {i:Nat} {l:List α}:elV (ownL f i z l) = some (l.map f):=rfl
theorem iaV_ownL [Inhabited α] {i:Nat} {l:List α} {k:IntKind} {n:Int} {y:Nat}:iaV y (ownL f i z l) (.int k n) = if z = y∧0≤n∧n < l.length then some (.ro (f (l.getD n.toNat default)) 0) else none:=by
 simp only [ownL,iaV,List.length_map]
 split
 ·rename_i h
  have hlt:n.toNat < l.length:=by omega
  simp [List.getD_eq_getElem?_getD,hlt]
 ·rfl
def arrO (o:Option Ob) (K:Nat→Nat→Nat→Option (V × List Ob)):Option (V × List Ob):=match o with
 | some (.arr e z n)=>K e z n
 | _=>none
theorem arrO_some {e y n:Nat} {K:Nat→Nat→Nat→Option (V × List Ob)}:arrO (some (.arr e y n)) K = K e y n:=rfl
def newO (o:Option (List (List V))) (K:List (List V)→Option (V × List Ob)):Option (V × List Ob):=match o with
 | some l=>K l
 | none=>none
theorem newO_some {l:List (List V)} {K:List (List V)→Option (V × List Ob)}:newO (some l) K = K l:=rfl
theorem appV_ownL {H:List Ob} {e y bytes i:Nat} {l:List α} {v:V}:appV H e y bytes (ownL f i z l) v = newO (elV v) fun new=>arrO H[i]? fun e' z' n=>if z = y∧z' = y∧e' = e∧n = l.length∧(∀ x∈new,x.length = y)∧(l.length+new.length) * bytes≤maxEls then some (.own i y (l.map f++new),H.set i (.arr e y (l.length+new.length))) else none:=by
 unfold appV ownL newO arrO
 cases elV v with
 | none=>rfl
 | some new =>
  simp only [List.length_map]
  rfl
theorem appV_own {H:List Ob} {e y bytes i:Nat} {l:List (List V)} {v:V}:appV H e y bytes (.own i z l) v = newO (elV v) fun new=>arrO H[i]? fun e' z' n=>if z = y∧z' = y∧e' = e∧n = l.length∧(∀ x∈new,x.length = y)∧(l.length+new.length) * bytes≤maxEls then some (.own i y (l++new),H.set i (.arr e y (l.length+new.length))) else none:=by
 unfold appV newO arrO
 cases elV v with
 | none=>rfl
 | some new=>rfl
def rowP (o:Option Ob) (K:Nat→Nat→List (List V)→Option (V × List Ob)):Option (V × List Ob):=match o with
 | some (.row e z els)=>K e z els
 | _=>none
theorem rowP_some {e y:Nat} {els:List (List V)} {K:Nat→Nat→List (List V)→Option (V × List Ob)}:rowP (some (.row e y els)) K = K e y els:=rfl
theorem aprV_rw {H:List Ob} {e y bytes i n:Nat} {v:V}:aprV H e y bytes (.rw i z n) v = newO (elV v) fun new=>rowP H[i]? fun e' z' els=>if z' = y∧e' = e∧els.length = n∧(∀ x∈new,x.length = y)∧(n+new.length) * bytes≤maxEls then some (.rw i y (n+new.length),H.set i (.row e y (els++new))) else none:=by
 unfold aprV newO rowP
 cases elV v with
 | none=>rfl
 | some new=>rfl
theorem own_snoc {i:Nat} {l:List α} {x:α}:(.own i z (l.map f++[f x]):V) = ownL f i z (l++[x]):=by simp [ownL]
theorem own_app {i:Nat} {l m:List α}:(.own i z (l.map f++m.map f):V) = ownL f i z (l++m):=by simp [ownL]
end
attribute [push_cast] sto_encL ren_encL lenV_encL elV_encL iaV_encL sxV_encL sto_ownL ren_ownL lenV_ownL elV_ownL iaV_ownL arrO_some newO_some appV_ownL appV_own rowP_some aprV_rw own_snoc own_app eq_self
mutual
def argC:Term→List (List V)
 | .mk _ _ ts=>argCs ts
def argCs:List Term→List (List V)
 | []=>[]
 | a :: ts=>[.str a.name,.bool a.var,.sl 3 (argC a)] :: argCs ts
end
def cT (t:Term):List V:=[.str t.name,.bool t.var,.sl 3 (argC t)]
theorem argCs_eq (ts:List Term):argCs ts = ts.map cT:=by
 induction ts with
 | nil=>simp [argCs]
 | cons a ts ih=>simp [argCs,ih,cT]
theorem argC_eq (t:Term):argC t = t.args.map cT:=by cases t;simp [argC,argCs_eq,Term.args]
abbrev encTs (l:List Term):V:=encL cT 3 l
theorem cT_eq (t:Term):cT t = [.str t.name,.bool t.var,encTs t.args]:=by rw [cT,argC_eq];rfl
def encT (t:Term):V:=.agg (cT t)
theorem sto_encT (t:Term):sto (encT t) = some (cT t):=rfl
theorem cT_len (t:Term):(cT t).length = 3:=rfl
theorem cT_0 (t:Term):(cT t)[0]? = some (.str t.name):=rfl
theorem cT_1 (t:Term):(cT t)[1]? = some (.bool t.var):=rfl
theorem cT_2 (t:Term):(cT t)[2]? = some (encTs t.args):=by rw [cT_eq];rfl
theorem cT_sub (t:Term):sub 0 3 (cT t) = cT t:=rfl
theorem encT_fold (t:Term):V.agg (cT t) = encT t:=rfl
theorem rens_cT {σ:Nat→Option Nat} (t:Term):rens σ (cT t) = cT t:=rfl
theorem ren_encT {σ:Nat→Option Nat} (t:Term):ren σ (encT t) = encT t:=by unfold encT;rw [ren_agg,rens_cT]
theorem cT_mk (n:Str) (v:Bool) (l:List Term):[V.str n,.bool v,encTs l] = cT (.mk n v l):=by rw [cT_eq];rfl
theorem fdV_encT_none (t:Term) (k:Nat):fdV k none (encT t) = (cT t)[k]?:=rfl
theorem put_0_3 (x:List V) (a b c:V) (h:x.length = 3):put 0 x [a,b,c] = x:=by
 simp only [put,h];simp
theorem put_cT (t:Term) (a b c:V):put 0 (cT t) [a,b,c] = cT t:=put_0_3 _ _ _ _ rfl
theorem put_cT' (t u:Term):put 0 (cT t) (cT u) = cT t:=put_0_3 _ _ _ _ rfl
attribute [push_cast] sto_encT cT_len cT_0 cT_1 cT_2 cT_sub encT_fold ren_encT rens_cT fdV_encT_none put_cT put_cT'
end Go.Dw
end
section
namespace Go.Dw
abbrev PF (f:Nat) (args:List V) (x:V):Prop:=Spec prog f args [] fun x' H'=>x' = x∧H' = []
theorem pf_of {f:Nat} {nd:Nat→C} {c:C} {n:Nat} {rs:List RV} (hok:okF prog f nd c n rs = true) {args:List V} {x:V} (hn:args.length = n)
  (hrun:Run prog nd 0 [.c c] (ini 0 args) [] (Ends 0 rs fun x' H'=>x' = x∧H' = [])):PF f args x:=spec_of_run mixed hok hn hrun
theorem pf_ret {rs:List RV} {t:T} {H:List Ob} {v:V} {e:X} (h:oP (retV rs t H) fun x=>ren (fun _=>none) x = v) (he:e = .ret ∨ e = .fall:=by first | exact .inl rfl | exact .inr rfl):Ends 0 rs (fun x' H'=>x' = v∧H' = []) e t H:=by
 cases hr:retV rs t H with
 | none=>rw [hr] at h;exact h.elim
 | some x=>rw [hr] at h;exact ends_nil he hr ⟨h,rfl⟩
attribute [push_cast] List.forall_mem_singleton List.forall_mem_map Option.map_some Option.map_none Option.bind_some Option.bind_none ne_eq Bool.false_eq_true Bool.true_eq_false and_true true_and implies_true Int.natCast_nonneg implies_true not_true_eq_false not_false_eq_true true_implies false_implies forall_const V.int.injEq V.bool.injEq V.str.injEq V.tup.injEq V.agg.injEq List.cons.injEq
theorem sub_z {l:List V}:sub 0 0 l = []:=rfl
theorem sub_s {k:Nat} {x:V} {l:List V}:sub 0 (k+1) (x :: l) = x :: sub 0 k l:=rfl
theorem sub_d {o k:Nat} {x:V} {l:List V}:sub (o+1) k (x :: l) = sub o k l:=rfl
theorem put_z {l:List V}:put 0 [] l = l:=by simp [put]
theorem put_s {x y:V} {n l:List V}:put 0 (x :: n) (y :: l) = x :: put 0 n l:=by simp [put]
theorem put_d {o:Nat} {y:V} {n l:List V}:put (o+1) n (y :: l) = y :: put o n l:=by
 simp only [put,List.take_succ_cons,List.cons_append]
 rw [show o+1+n.length = (o+n.length)+1 by omega,List.drop_succ_cons]
theorem put_cT3 (t:Term) (a b c:V) (l:List V):put 0 (cT t) (a :: b :: c :: l) = cT t++l:=by simp [put,cT_len]
theorem put_app (t:Term) (n l:List V) (k:Nat):put (k+3) n (cT t++l) = cT t++put k n l:=by
 simp only [put]
 have h:(cT t).length = 3:=rfl
 rw [List.take_append,List.drop_append,List.take_of_length_le (by omega),List.drop_of_length_le (by omega)]
 simp only [h,List.nil_append,List.append_assoc]
 rw [show k+3 - 3 = k by omega,show k+3+n.length - 3 = k+n.length by omega]
theorem app_get_cT (t:Term) (l:List V) (k:Nat):(cT t++l)[k+3]? = l[k]?:=by
 rw [List.getElem?_append_right (by simp [cT_len])];simp [cT_len]
theorem sub_app_cT (t:Term) (l:List V):sub 0 3 (cT t++l) = cT t:=by
 simp only [sub,List.drop_zero]
 exact List.take_left' rfl
attribute [push_cast] sub_z sub_s sub_d put_z put_s put_d put_cT3 put_app app_get_cT sub_app_cT List.length_append List.append_assoc
theorem getD_mem {α:Type} [Inhabited α] {l:List α} {k:Nat} (h:k < l.length):l.getD k default∈l:=by simp [List.getD_eq_getElem?_getD,h]
theorem take_succ_getD {α:Type} [Inhabited α] {l:List α} {k:Nat} (h:k < l.length):l.take (k+1) = l.take k++[l.getD k default]:=by
 rw [List.take_succ_eq_append_getElem h];simp [List.getD_eq_getElem?_getD,h]
theorem drop_getD {α:Type} [Inhabited α] {l:List α} {k:Nat} (h:k < l.length):l.drop k = l.getD k default :: l.drop (k+1):=by
 rw [List.drop_eq_getElem_cons h];simp [List.getD_eq_getElem?_getD,h]
theorem ilt {k n:Nat} (h:k < n):((k:Int) < (n:Int)) = True:=eq_true (by omega)
theorem inlt {k n:Nat} (h:n≤k):((k:Int) < (n:Int)) = False:=eq_false (by omega)
theorem w64 {k:Nat} (h:k < 2^62):IntKind.i64.wrap ((k:Int)+1) = (k:Int)+1:=wrap64 (by omega) (by omega)
theorem pos_nil:pos? [] = fun _=>none:=by funext i;rfl
theorem takeG_nil (H H':List Ob):takeG [] H H' = H:=by
 unfold takeG
 apply List.ext_getElem (by simp)
 intro i h1 h2
 simp [pos?,h2]
theorem takeB_none (H H':List Ob):takeB [] H H' = H++H'.map (renOb fun i=>some (H.length+i)):=by
 unfold takeB
 rw [takeG_nil]
 have:back [] H.length = fun i=>some (H.length+i):=by funext i;simp [back]
 rw [this];simp
section
variable {N:Nat→C} {B:Nat} {s:List K} {t:T} {H:List Ob} {Q:X→T→List Ob→Prop}
theorem callG_new {d:Option Nat} {l:List S} {f:Nat} {vs:List V} {x:V} {H1:List Ob} (h:Spec prog f (rens (fun _=>none) vs) [] fun x' H'=>x' = x∧H' = H1)
  (k:Run prog N B (.r l :: s) (setO d (ren (fun i=>some (H.length+i)) x) t) (H++H1.map (renOb fun i=>some (H.length+i))) Q):CallG prog N B d l s t Q (.func f) vs H:=by
 refine CallG.some [] List.nodup_nil (fun i hi=>by cases hi) (R:=fun x' H'=>x' = x∧H' = H1) (by rw [pos_nil];exact h) ?_
 rintro x' H' ⟨rfl,rfl⟩ _
 rw [takeB_none]
 have:back [] H.length = fun i=>some (H.length+i):=by funext i;simp [back]
 rw [this];exact k
end
end Go.Dw
end
section
namespace Go.Dw
mutual
def size:Term→Nat
 | .mk _ _ l=>1+sizes l
def sizes:List Term→Nat
 | []=>0
 | a :: l=>size a+sizes l
end
theorem sizes_append (a b:List Term):sizes (a++b) = sizes a+sizes b:=by
 induction a with
 | nil=>simp [sizes]
 | cons x xs ih=>simp [sizes,ih];omega
theorem size_args (t:Term):size t = 1+sizes t.args:=by cases t;simp [size,Term.args]
theorem sizes_take_succ (l:List Term) (k:Nat) (h:k < l.length):sizes (l.take (k+1)) = sizes (l.take k)+size (l.getD k default):=by
 rw [take_succ_getD h,sizes_append];simp [sizes]
theorem sizes_take_le (l:List Term) (k:Nat):sizes (l.take k)≤sizes l:=by
 conv=>rhs;rw [← List.take_append_drop k l]
 rw [sizes_append];omega
theorem size_mem {l:List Term} {a:Term} (h:a∈l):size a≤sizes l:=by
 induction l with
 | nil=>cases h
 | cons x xs ih=>rcases List.mem_cons.1 h with rfl | h <;> simp [sizes];have:=ih h;omega
theorem length_le_sizes (l:List Term):l.length≤sizes l:=by
 induction l with
 | nil=>simp
 | cons x xs ih=>simp only [sizes,List.length_cons];have:=size_args x;omega
theorem term_ind {p:Term→Prop} (h:∀ t,(∀ a∈t.args,p a)→p t) (t:Term):p t:=by
 have:∀ n t,size t≤n→p t:=by
  intro n
  induction n with
  | zero=>intro t ht;have:=size_args t;omega
  | succ n ih =>
   intro t ht
   refine h t fun a ha=>ih a ?_
   have:=size_args t
   have:=size_mem ha
   omega
 exact this (size t) t (Nat.le_refl _)
def eqf {α β:Type} (f:α→β→Bool):List α→List β→Bool
 | [],[]=>true
 | a :: l,b :: m=>f a b && eqf f l m
 | _,_=>false
theorem eqf_len {α β:Type} {f:α→β→Bool}:∀ {l:List α} {m:List β},eqf f l m = true→l.length = m.length
 | [],[],_=>rfl
 | a :: l,b :: m,h=>by simp only [eqf,Bool.and_eq_true] at h;simp [eqf_len h.2]
 | [],_ :: _,h=>by cases h
 | _ :: _,[],h=>by cases h
mutual
def teq:Term→Term→Bool
 | .mk n v l,.mk n' v' l'=>n == n' && v == v' && teqs l l'
def teqs:List Term→List Term→Bool
 | [],[]=>true
 | a :: l,b :: m=>teq a b && teqs l m
 | _,_=>false
end
mutual
theorem teq_iff:∀ a b:Term,teq a b = true ↔ a = b
 | .mk n v l,.mk n' v' l'=>by simp [teq,teqs_iff l l',and_assoc]
theorem teqs_iff:∀ a b:List Term,teqs a b = true ↔ a = b
 | [],[]=>by simp [teqs]
 | a :: l,b :: m=>by simp [teqs,teq_iff a b,teqs_iff l m]
 | [],_ :: _=>by simp [teqs]
 | _ :: _,[]=>by simp [teqs]
end
instance:DecidableEq Term:=fun a b=>if h:teq a b = true then .isTrue ((teq_iff a b).1 h) else .isFalse fun e=>h ((teq_iff a b).2 e)
theorem eqf_eq {f:Term→Term→Bool}:∀ {l m:List Term},(∀ a∈l,∀ b,f a b = decide (a = b))→eqf f l m = decide (l = m)
 | [],[],_=>rfl
 | a :: l,b :: m,h=>by
  simp only [eqf,h a (by simp) b,eqf_eq (l:=l) (m:=m) fun x hx=>h x (by simp [hx])]
  simp
 | [],_ :: _,_=>rfl
 | _ :: _,[],_=>rfl
theorem term_eq_iff (a b:Term):a = b ↔ a.name = b.name∧a.var = b.var∧a.args = b.args:=by cases a;cases b;simp [Term.name,Term.var,Term.args]
end Go.Dw
end
section
namespace Go.Dw
def cU8 (c:UInt8):List V:=[.int .u8 c.toNat]
def cS (s:Str):List V:=[.str s]
def cI (n:Int):List V:=[.int .i64 n]
theorem cU8_fold (s:Str):(.sl 1 (s.map fun c=>[V.int .u8 c.toNat]):V) = encL cU8 1 s:=rfl
theorem cU8_0 (c:UInt8):(cU8 c)[0]? = some (.int .u8 c.toNat):=rfl
theorem cS_0 (s:Str):(cS s)[0]? = some (.str s):=rfl
theorem cI_0 (n:Int):(cI n)[0]? = some (.int .i64 n):=rfl
theorem cU8_len (s:UInt8):(cU8 s).length = 1:=rfl
theorem cS_len (s:Str):(cS s).length = 1:=rfl
theorem cI_len (s:Int):(cI s).length = 1:=rfl
abbrev encSs (l:List Str):V:=encL cS 1 l
abbrev encP (l:List Int):V:=encL cI 1 l
structure ARule where
 left:Term
 right:Term
 deriving Inhabited,DecidableEq
def cR (r:ARule):List V:=cT r.left++cT r.right
def encR (r:ARule):V:=.agg (cR r)
abbrev encRs (l:List ARule):V:=encL cR 6 l
structure ABind where
 name:Str
 term:Term
 deriving Inhabited,DecidableEq
def cB (b:ABind):List V:=.str b.name :: cT b.term
def encB (b:ABind):V:=.agg (cB b)
abbrev encBs (l:List ABind):V:=encL cB 4 l
structure AStep where
 rule:Int
 pos:List Int
 deriving Inhabited,DecidableEq
def cSt (s:AStep):List V:=[.int .i64 s.rule,encP s.pos]
def encSt (s:AStep):V:=.agg (cSt s)
abbrev encSts (l:List AStep):V:=encL cSt 2 l
structure AChain where
 start:Term
 steps:List AStep
 deriving Inhabited,DecidableEq
def cC (c:AChain):List V:=cT c.start++[encSts c.steps]
def encC (c:AChain):V:=.agg (cC c)
structure AEdge where
 src:Int
 dst:Int
 step:AStep
 deriving Inhabited,DecidableEq
def cEd (e:AEdge):List V:=.int .i64 e.src :: .int .i64 e.dst :: cSt e.step
def encEd (e:AEdge):V:=.agg (cEd e)
abbrev encEds (l:List AEdge):V:=encL cEd 4 l
structure AGraph where
 terms:List Term
 edges:List AEdge
 whole:Bool
 deriving Inhabited,DecidableEq
def cG (g:AGraph):List V:=[encTs g.terms,encEds g.edges,.bool g.whole]
def encG (g:AGraph):V:=.agg (cG g)
structure ALoop where
 chain:AChain
 pos:List Int
 subst:List ABind
 deriving Inhabited,DecidableEq
def cL (l:ALoop):List V:=cC l.chain++[encP l.pos,encBs l.subst]
def encLo (l:ALoop):V:=.agg (cL l)
section
variable (r:ARule) (b:ABind) (s:AStep) (c:AChain) (e:AEdge) (g:AGraph) (l:ALoop) {σ:Nat→Option Nat}
theorem cR_len:(cR r).length = 6:=rfl
theorem cB_len:(cB b).length = 4:=rfl
theorem cSt_len:(cSt s).length = 2:=rfl
theorem cC_len:(cC c).length = 4:=rfl
theorem cEd_len:(cEd e).length = 4:=rfl
theorem cG_len:(cG g).length = 3:=rfl
theorem cL_len:(cL l).length = 6:=rfl
theorem sto_encR:sto (encR r) = some (cR r):=rfl
theorem sto_encB:sto (encB b) = some (cB b):=rfl
theorem sto_encSt:sto (encSt s) = some (cSt s):=rfl
theorem sto_encC:sto (encC c) = some (cC c):=rfl
theorem sto_encEd:sto (encEd e) = some (cEd e):=rfl
theorem sto_encG:sto (encG g) = some (cG g):=rfl
theorem sto_encLo:sto (encLo l) = some (cL l):=rfl
theorem rens_cR:rens σ (cR r) = cR r:=rfl
theorem rens_cB:rens σ (cB b) = cB b:=rfl
theorem rens_cSt:rens σ (cSt s) = cSt s:=rfl
theorem rens_cC:rens σ (cC c) = cC c:=rfl
theorem rens_cEd:rens σ (cEd e) = cEd e:=rfl
theorem rens_cG:rens σ (cG g) = cG g:=rfl
theorem rens_cL:rens σ (cL l) = cL l:=rfl
theorem ren_encR:ren σ (encR r) = encR r:=by unfold encR;rw [ren_agg,rens_cR]
theorem ren_encB:ren σ (encB b) = encB b:=by unfold encB;rw [ren_agg,rens_cB]
theorem ren_encSt:ren σ (encSt s) = encSt s:=by unfold encSt;rw [ren_agg,rens_cSt]
theorem ren_encC:ren σ (encC c) = encC c:=by unfold encC;rw [ren_agg,rens_cC]
theorem ren_encEd:ren σ (encEd e) = encEd e:=by unfold encEd;rw [ren_agg,rens_cEd]
theorem ren_encG:ren σ (encG g) = encG g:=by unfold encG;rw [ren_agg,rens_cG]
theorem ren_encLo:ren σ (encLo l) = encLo l:=by unfold encLo;rw [ren_agg,rens_cL]
theorem encR_fold:V.agg (cR r) = encR r:=rfl
theorem encB_fold:V.agg (cB b) = encB b:=rfl
theorem encSt_fold:V.agg (cSt s) = encSt s:=rfl
theorem encC_fold:V.agg (cC c) = encC c:=rfl
theorem encEd_fold:V.agg (cEd e) = encEd e:=rfl
theorem encG_fold:V.agg (cG g) = encG g:=rfl
theorem encLo_fold:V.agg (cL l) = encLo l:=rfl
theorem sub_R_l:sub 0 3 (cR r) = cT r.left:=rfl
theorem sub_R_r:sub 3 3 (cR r) = cT r.right:=rfl
theorem sub_R_a:sub 0 6 (cR r) = cR r:=rfl
theorem cB_0:(cB b)[0]? = some (.str b.name):=rfl
theorem sub_B_t:sub 1 3 (cB b) = cT b.term:=rfl
theorem sub_B_a:sub 0 4 (cB b) = cB b:=rfl
theorem cSt_0:(cSt s)[0]? = some (.int .i64 s.rule):=rfl
theorem cSt_1:(cSt s)[1]? = some (encP s.pos):=rfl
theorem sub_St_a:sub 0 2 (cSt s) = cSt s:=rfl
theorem sub_C_s:sub 0 3 (cC c) = cT c.start:=rfl
theorem cC_3:(cC c)[3]? = some (encSts c.steps):=rfl
theorem sub_C_a:sub 0 4 (cC c) = cC c:=rfl
theorem cEd_0:(cEd e)[0]? = some (.int .i64 e.src):=rfl
theorem cEd_1:(cEd e)[1]? = some (.int .i64 e.dst):=rfl
theorem sub_Ed_s:sub 2 2 (cEd e) = cSt e.step:=rfl
theorem sub_Ed_a:sub 0 4 (cEd e) = cEd e:=rfl
theorem cG_0:(cG g)[0]? = some (encTs g.terms):=rfl
theorem cG_1:(cG g)[1]? = some (encEds g.edges):=rfl
theorem cG_2:(cG g)[2]? = some (.bool g.whole):=rfl
theorem sub_G_a:sub 0 3 (cG g) = cG g:=rfl
theorem sub_L_c:sub 0 4 (cL l) = cC l.chain:=rfl
theorem sub_L_s:sub 0 3 (cL l) = cT l.chain.start:=rfl
theorem cL_3:(cL l)[3]? = some (encSts l.chain.steps):=rfl
theorem cL_4:(cL l)[4]? = some (encP l.pos):=rfl
theorem cL_5:(cL l)[5]? = some (encBs l.subst):=rfl
theorem sub_L_a:sub 0 6 (cL l) = cL l:=rfl
theorem fdB0:fdV 0 none (encB b) = some (.str b.name):=rfl
theorem fdB1:fdV 1 (some 3) (encB b) = some (encT b.term):=rfl
end
attribute [push_cast] cU8_fold cU8_0 cS_0 cI_0 cU8_len cS_len cI_len cR_len cB_len cSt_len cC_len cEd_len cG_len cL_len sto_encR sto_encB sto_encSt sto_encC sto_encEd sto_encG sto_encLo rens_cR rens_cB rens_cSt rens_cC rens_cEd rens_cG rens_cL ren_encR ren_encB ren_encSt ren_encC ren_encEd ren_encG ren_encLo encR_fold encB_fold encSt_fold encC_fold encEd_fold encG_fold encLo_fold sub_R_l sub_R_r sub_R_a cB_0 sub_B_t sub_B_a cSt_0 cSt_1 sub_St_a sub_C_s cC_3 sub_C_a cEd_0 cEd_1 sub_Ed_s sub_Ed_a cG_0 cG_1 cG_2 sub_G_a sub_L_c sub_L_s cL_3 cL_4 cL_5 sub_L_a fdB0 fdB1
def idxI {α:Type} (p:α→Bool):List α→Int
 | []=>-1
 | a :: l=>if p a then 0 else if idxI p l < 0 then -1 else idxI p l+1
theorem idxI_cases {α:Type} (p:α→Bool):∀ l:List α,(idxI p l = -1∧l.any p = false) ∨ (0≤idxI p l∧idxI p l < l.length∧l.any p = true)
 | []=>.inl ⟨rfl,rfl⟩
 | a :: l=>by
  simp only [idxI,List.any_cons,List.length_cons]
  cases hp:p a with
  | true=>right;simp
  | false =>
   rcases idxI_cases p l with ⟨h1,h2⟩ | ⟨h1,h2,h3⟩
   ·left;simp [h1,h2]
   ·right;simp only [Bool.false_eq_true,if_false,h3];rw [if_neg (by omega)];simp;omega
theorem idxI_any {α:Type} (p:α→Bool) (l:List α):decide (0≤idxI p l) = l.any p:=by
 rcases idxI_cases p l with ⟨h1,h2⟩ | ⟨h1,h2,h3⟩
 ·rw [h1,h2];rfl
 ·rw [h3];simp [h1]
theorem idxI_some {α:Type} [Inhabited α] {p:α→Bool}:∀ {l:List α} {k:Nat},k < l.length→p (l.getD k default) = true→(∀ j,j < k→p (l.getD j default) = false)→idxI p l = k
 | [],k,hk,_,_=>by simp at hk
 | a :: l,0,hk,hp,_=>by simp only [idxI];rw [if_pos (by simpa using hp)];rfl
 | a :: l,k+1,hk,hp,hq=>by
  have h0:p a = false:=hq 0 (by omega)
  have:=idxI_some (l:=l) (k:=k) (by simpa using hk) (by simpa using hp) fun j hj=>by have:=hq (j+1) (by omega);simpa using this
  simp only [idxI,h0,Bool.false_eq_true,if_false,this]
  rw [if_neg (by omega)];omega
theorem idxI_none {α:Type} [Inhabited α] {p:α→Bool}:∀ {l:List α},(∀ j,j < l.length→p (l.getD j default) = false)→idxI p l = -1
 | [],_=>rfl
 | a :: l,hq=>by
  have h0:p a = false:=hq 0 (by simp)
  have:=idxI_none (l:=l) fun j hj=>by have:=hq (j+1) (by simpa using hj);simpa using this
  simp [idxI,h0,this]
end Go.Dw
end
