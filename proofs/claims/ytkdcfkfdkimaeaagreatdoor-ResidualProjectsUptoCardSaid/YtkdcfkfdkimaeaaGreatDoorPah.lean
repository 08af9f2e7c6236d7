/-
  Contracts and lemmas for ResidualProjects: part h of 11.
-/
import Derived.Test.YtkdcfkfdkimaeaaGreatDoorPag
import Derived.WalkKit
import Derived.Laws.MathBits
import Derived.Test.YtkdcfkfdkimaeaaGreatDoorPad
import Derived.Test.YtkdcfkfdkimaeaaGreatDoorPae
import Derived.Test.YtkdcfkfdkimaeaaGreatDoorPaf
set_option linter.unusedVariables false
set_option linter.unusedSimpArgs false
set_option maxRecDepth 100000
namespace Go.Dw
def F6:List A9->A9->Option Nat
 | [],_=>none
 | x::l,v=>if x=v then some 0 else (F6 l v).map (·+1)
theorem Lv {l:List A9}{v:A9}:F6 l v=none↔v∉l:=by
 induction l with
 | nil=>simp[F6]
 | cons x l ih =>
  simp only[F6]
  by_cases h:x=v
  ·simp[h]
  ·have h':v≠x:=fun e=>h e.symm
   rw[if_neg h];simp[ih,h']
theorem td {l m:List A9}{v:A9}(h:v∈l):F6 (l++m) v=F6 l v:=by
 induction l with
 | nil=>cases h
 | cons x l ih =>
  simp only[List.cons_append,F6]
  by_cases e:x=v
  ·rw[if_pos e,if_pos e]
  ·rw[if_neg e,if_neg e]
   rcases List.mem_cons.1 h with h | h
   ·exact absurd h.symm e
   ·rw[ih h]
theorem mL {l:List A9}{v:A9}(h:v∉l):F6 (l++[v]) v=some l.length:=by
 induction l with
 | nil=>simp[F6]
 | cons x l ih =>
  simp only[List.mem_cons,not_or]at h
  simp only[List.cons_append,F6]
  rw[if_neg (fun e=>h.1 e.symm),ih h.2];rfl
def cD (pre:A9):Nat->List A9->NM
 | _,[]=>[]
 | i,v::l=>(v,pre++Jc i)::cD pre (i+1) l
abbrev Zm (pre:A9)(l:List A9):NM:=cD pre 0 l
theorem fP (pre:A9):∀ (l:List A9)(i:Nat),(cD pre i l).length=l.length
 | [],_=>rfl
 | v::l,i=>by simp[cD,fP pre l]
theorem V9 (pre:A9)(v:A9):∀ (l:List A9)(i:Nat),Ce (cD pre i l) v=(F6 l v).map fun j=>pre++Jc (i+j)
 | [],i=>rfl
 | x::l,i=>by
  simp only[cD,Ce,F6]
  by_cases h:x=v
  ·rw[if_pos h,if_pos h];rfl
  ·rw[if_neg h,if_neg h,V9 pre v l (i+1)]
   cases F6 l v with
   | none=>rfl
   | some j=>simp only[Option.map_some];rw[show i+1+j=i+(j+1) by omega]
theorem aT (pre:A9)(v:A9):∀ (l:List A9)(i:Nat),cD pre i (l++[v])=cD pre i l++[(v,pre++Jc (i+l.length))]
 | [],i=>rfl
 | x::l,i=>by
  simp only[List.cons_append,cD,aT pre v l (i+1),List.length_cons]
  rw[show i+1+l.length=i+(l.length+1) by omega]
def NK (pre:A9)(l:List A9):EP:=fun v=>C6 (match F6 l v with | some j=>pre++Jc j | none=>v)
theorem qG {pre:A9}(hp:pre≠[])(l:List A9)(v:A9):K5 pre (Zm pre l) v=(Zm pre (if v∈l then l else l++[v]),(match F6 (if v∈l then l else l++[v]) v with | some j=>pre++Jc j | none=>v)):=by
 unfold K5
 rw[V9]
 by_cases h:v∈l
 ·rw[if_pos h]
  cases hq:F6 l v with
  | none=>exact absurd h (Lv.1 hq)
  | some j =>
   have hne:pre++Jc (0+j)≠[]:=fun e=>hp (List.append_eq_nil_iff.1 e).1
   simp only[Option.map_some,Option.getD_some]
   rw[if_neg hne,Nat.zero_add]
 ·rw[if_neg h]
  have hq:=Lv.2 h
  rw[hq]
  simp only[Option.map_none,Option.getD_none,if_true]
  rw[mL h]
  have hk:Ce (Zm pre l) v=none:=by rw[V9,hq];rfl
  rw[Xj hk,fP]
  have e:Zm pre (l++[v])=Zm pre l++[(v,pre++Jc l.length)]:=by
   have e:=aT pre v l 0
   rw[Nat.zero_add]at e
   exact e
  rw[e]
def S6 (l:List A9)(t:Term):Prop:=∀ v,CI v t=true->v∈l
theorem HP (t:Term):∀ l:List A9,(∃ m,AH l t=l++m)/\(vfl t=true->S6 (AH l t) t):=by
 induction t using Ai with
 | h t ih =>
 intro l
 rw[LE]
 cases hv:t.var with
 | true =>
  rw[if_pos rfl]
  refine⟨?_,fun ht v ho=>?_⟩
  ·split
   ·exact⟨[],by simp⟩
   ·exact⟨_,rfl⟩
  ·have e:=(MZ ht hv).1 ho
   subst e
   split
   ·assumption
   ·simp
 | false =>
  rw[if_neg (by simp)]
  have key:∀ (ar:List Term)(l:List A9),(∀ a∈ar,a∈t.args)->(∃ m,BR l ar=l++m)/\((∀ a∈ar,vfl a=true)->∀ a∈ar,S6 (BR l ar) a):=by
   intro ar
   induction ar with
   | nil=>intro l _;exact⟨⟨[],by simp[BR]⟩,by simp⟩
   | cons a ar ihl =>
    intro l hl
    obtain⟨⟨m1,h1⟩,h2⟩:=ih a (hl a (by simp)) l
    obtain⟨⟨m2,h3⟩,h4⟩:=ihl (AH l a) fun b hb=>hl b (by simp[hb])
    simp only[BR]
    refine⟨⟨m1++m2,by rw[h3,h1,List.append_assoc]⟩,fun hvf b hb=>?_⟩
    rcases List.mem_cons.1 hb with rfl | hb
    ·intro v ho
     have:=h2 (hvf _ (by simp)) v ho
     rw[h3];exact List.mem_append_left _ this
    ·exact h4 (fun c hc=>hvf c (by simp[hc])) b hb
  obtain⟨h1,h2⟩:=key t.args l fun _ h=>h
  refine⟨h1,fun ht v ho=>?_⟩
  obtain⟨a,ha,ho⟩:=(MN hv).1 ho
  exact h2 (fun a ha=>BS ht ha) a ha v ho
theorem wL {pre:A9}{l m:List A9}{t:Term}(h:S6 l t):app (NK pre (l++m)) t=app (NK pre l) t :=
 Du t fun v hv=>by unfold NK;rw[td (h v hv)]
theorem WU {pre:A9}(hp:pre≠[])(t:Term):∀ l:List A9,vfl t=true->Hy pre (Zm pre l) t=(Zm pre (AH l t),app (NK pre (AH l t)) t):=by
 induction t using Ai with
 | h t ih =>
 intro l ht
 rw[dy,LE]
 cases hv:t.var with
 | true =>
  rw[if_pos rfl,if_pos rfl,qG hp,Aw hv];rfl
 | false =>
  rw[if_neg (by simp),if_neg (by simp),Bg hv]
  have key:∀ (ar:List Term)(l:List A9),(∀ a∈ar,a∈t.args)->Ef pre (Zm pre l) ar=(Zm pre (BR l ar),ar.map (app (NK pre (BR l ar)))):=by
   intro ar
   induction ar with
   | nil=>intro l _;rfl
   | cons a ar ihl =>
    intro l hl
    have hvf:∀ b∈a::ar,vfl b=true:=fun b hb=>BS ht (hl b hb)
    simp only[Ef,BR]
    rw[ih a (hl a (by simp)) l (hvf a (by simp))]
    simp only
    rw[ihl (AH l a) fun b hb=>hl b (by simp[hb])]
    simp only[List.map_cons]
    have h1:=(HP a l).2 (hvf a (by simp))
    have h2:∃ m,BR (AH l a) ar=AH l a++m:=by
     clear ihl hvf h1
     have:∀ (ar:List Term)(l:List A9),∃ m,BR l ar=l++m:=by
      intro ar
      induction ar with
      | nil=>intro l;exact⟨[],by simp[BR]⟩
      | cons b ar ihm =>
       intro l
       obtain⟨m1,e1⟩:=(HP b l).1
       obtain⟨m2,e2⟩:=ihm (AH l b)
       exact⟨m1++m2,by simp only[BR];rw[e2,e1,List.append_assoc]⟩
     exact this ar _
    obtain⟨m,hm⟩:=h2
    rw[hm,wL h1]
  rw[key t.args l fun _ h=>h]
theorem RY {a b:List A7}{v:A9}:Af (a++b) v=(Af a v).or (Af b v):=by
 induction a with
 | nil=>simp[Af]
 | cons x a ih =>
  simp only[List.cons_append,Af]
  split
  ·rfl
  ·exact ih
theorem Ru {pre u v:A9}(h:u≠v):∀ (l:List A9)(i:Nat),Af (Jf pre u i l) v=none
 | [],i=>rfl
 | x::l,i=>by
  simp only[Jf,RY]
  rw[Ru h l (i+1)]
  have h2:Af (if x=u then [(⟨u,C6 (pre++Jc i)⟩:A7)] else []) v=none:=by
   split
   ·simp only[Af];rw[if_neg h]
   ·rfl
  rw[h2];rfl
theorem YY {pre v:A9}:∀ (l:List A9)(i:Nat),Af (Jf pre v i l) v=(F6 l v).map fun j=>C6 (pre++Jc (i+j))
 | [],i=>rfl
 | x::l,i=>by
  simp only[Jf,RY,F6]
  by_cases h:x=v
  ·rw[if_pos h,if_pos h];simp[Af]
  ·rw[if_neg h,if_neg h,YY l (i+1)]
   cases F6 l v with
   | none=>rfl
   | some j=>simp only[Af,Option.map_some,Option.none_or];rw[show i+1+j=i+(j+1) by omega]
theorem iU (l:List A9)(pre v:A9):Af (Sh l pre) v=(F6 l v).map fun j=>C6 (pre++Jc j):=by
 unfold Sh
 have key:∀ S:List A9,Af (S.flatMap fun u=>Jf pre u 0 l) v=if v∈S then (F6 l v).map fun j=>C6 (pre++Jc j) else none:=by
  intro S
  induction S with
  | nil=>rfl
  | cons u S ih =>
   simp only[List.flatMap_cons,RY,ih]
   by_cases h:u=v
   ·subst h
    rw[YY]
    simp only[List.mem_cons,true_or,if_true,Nat.zero_add]
    cases F6 l u with
    | none=>simp
    | some j=>rfl
   ·have h':v≠u:=fun e=>h e.symm
    rw[Ru h]
    simp[h']
 rw[key]
 by_cases h:v∈l
 ·have h2:v∈CC l:=(Mg l []).2 (.inr h)
  rw[if_pos h2]
 ·rw[Lv.2 h];split<;>rfl
theorem ub (s:List A7)(t:Term):AC s t=app (fun v=>(Af s v).getD (C6 v)) t:=by
 induction t using Ai with
 | h t ih =>
 rw[Ql]
 cases t with | mk n v l =>
 cases v with
 | true=>simp only[AC,Term.var,Term.name,if_true,C6]
 | false =>
  simp only[AC,Term.var,Term.name,Term.args,ZV,Bool.false_eq_true,if_false]
  congr 1
  exact List.map_congr_left fun a ha=>ih a ha
theorem Us (l:List A9)(pre:A9)(t:Term):AC (Sh l pre) t=app (NK pre l) t:=by
 rw[ub]
 refine Du t fun v _=>?_
 rw[iU]
 unfold NK
 cases F6 l v<;>rfl
def Cn (pre:A9)(x:A2):A2:=⟨app (NK pre (AH [] x.left)) x.left,app (NK pre (AH [] x.left)) x.right⟩
theorem bP {l:List A9}(t:Term):S6 l t->vfl t=true->AH l t=l:=by
 induction t using Ai generalizing l with
 | h t ih =>
 intro h ht
 rw[LE]
 cases hv:t.var with
 | true=>rw[if_pos rfl,if_pos (h _ ((MZ ht hv).2 rfl))]
 | false =>
  rw[if_neg (by simp)]
  have key:∀ (ar:List Term),(∀ a∈ar,a∈t.args)->BR l ar=l:=by
   intro ar
   induction ar with
   | nil=>intro _;rfl
   | cons a ar ihl =>
    intro hl
    simp only[BR]
    rw[ih a (hl a (by simp)) (fun v hv'=>h v ((MN hv).2 ⟨a,hl a (by simp),hv'⟩)) (BS ht (hl a (by simp)))]
    exact ihl fun b hb=>hl b (by simp[hb])
  exact key t.args fun _ h=>h
theorem bD {pre:A9}(hp:pre≠[]){x:A2}(hl:vfl x.left=true)(hr:vfl x.right=true)(hx:∀ v,CI v x.right=true->CI v x.left=true):tY pre x=Cn pre x:=by
 unfold tY Cn
 have e1:=WU hp x.left [] hl
 have e0:Zm pre []=[]:=rfl
 rw[e0]at e1
 rw[e1]
 simp only
 rw[WU hp x.right _ hr]
 have hs:S6 (AH [] x.left) x.right:=fun v hv=>(HP x.left []).2 hl v (hx v hv)
 rw[bP x.right hs hr]
theorem VY {s:List A7}{t:Term}(ht:tb t<2^24)(hs:Z7 s<2^34):size (AC s t)<=2^60:=by
 have h1:=na s t
 have h2:=AX t
 have:size t*(1+Z7 s)<=2^24*2^35:=Nat.mul_le_mul (by omega) (by omega)
 omega
theorem Wc (s:List A7)(hs:DO s)(hb:Z7 s<2^34)(t:Term)(ht:tb t<2^24):PF Ja [Bm s,An t] (.agg [.int .i64 (size (AC s t)),.int .i64 (depth (AC s t))]):=by
 have hl:=RL s
 induction t using Ai with
 | h t ih =>
 have hI:=SR s t.name hs (by omega)
 have htb:=KX t
 have hlt:=Hp t.args
 have hsm:=VY ht hb
 refine Ab GT.ok rfl ?_
 cases hv:t.var with
 | true =>
  push_cast[hv]
  refine .of hI ?_
  rw[Is,hv]
  cases hx:Af s t.name with
  | some x =>
   have h1:=Sy hx
   have h2:=AX x
   push_cast[VD]
   refine .of (VA x (by omega)) ?_
   push_cast
   refine .of (Tv x (by omega)) ?_
   push_cast
   refine A1 ?_
   push_cast[GT.rs]
   exact⟨rfl,rfl⟩
  | none =>
   push_cast[VD]
   refine A1 ?_
   push_cast[GT.rs]
   exact⟨rfl,rfl⟩
 | false =>
  have he:AC s t=.mk t.name false (t.args.map (AC s)):=by rw[Is,hv];rfl
  rw[he]at hsm
  rw[he]
  simp only[size]at hsm
  have hd:=En (t.args.map (AC s))
  push_cast[hv]
  refine Ac (n:=t.args.length) (R:=fun k=>GT.L3 (Bm s) (.ptr 0 0) (.ptr 1 0) (Bk t.args) (.int .i64 t.args.length) (.int .i64 k) 0
   [.cells GR [.int .i64 0,.int .i64 0],.cells GR [.int .i64 (1+Ae ((t.args.take k).map (AC s)):Nat),.int .i64 (AD ((t.args.take k).map (AC s)):Nat)]] _) ?_ ?_ 0 (by omega)
  ·intro k hk ih2
   have hm:=A4 hk
   have hs1:Ae ((t.args.take (k+1)).map (AC s))=Ae ((t.args.take k).map (AC s))+size (AC s (t.args.getD k default)):=by
    rw[Aa hk,List.map_append,Cm];simp[Ae]
   have hd1:AD ((t.args.take (k+1)).map (AC s))=max (AD ((t.args.take k).map (AC s))) (depth (AC s (t.args.getD k default))):=by
    rw[Aa hk,List.map_append,EM];simp[AD]
   have hle:Ae ((t.args.take (k+1)).map (AC s))<=Ae (t.args.map (AC s)):=by
    rw[List.map_take];exact EF _ _
   have htm:=OC hm
   rw[hs1,hd1]at ih2
   refine A5.2 ?_
   push_cast[BC hk]
   refine .of (ih _ hm (by omega)) ?_
   push_cast[CD (show k<2^62 by omega)]
   rw[Bn (by omega) (by omega),Int.add_assoc]
   push_cast at ih2
   exact ih2
  ·refine A5.2 ?_
   push_cast[AZ (Nat.le_refl _)]
   refine A1 ?_
   rw[Bn (by rw[List.take_length];omega) (by rw[List.take_length];omega)]
   push_cast[GT.rs,size,depth,List.take_length]
theorem JG (s:List A7)(hs:DO s)(hb:Z7 s<2^34)(t:Term)(ht:tb t<2^24):PF FE [Bm s,An t] (if BJ (AC s t) then Hj (some (AC s t)) 0 else Hj none 3):=by
 rw[<-nP]
 refine Ab Hw.ok rfl ?_
 push_cast
 refine .of (Wc s hs hb t ht) ?_
 by_cases h1:4000<size (AC s t)
 ·have h1':((4000:Int)<(size (AC s t):Int))=True:=eq_true (by omega)
  push_cast[h1']
  refine A1 ?_
  push_cast[Hw.rs]
  rw[if_pos (.inl h1)];rfl
 ·have h1':((4000:Int)<(size (AC s t):Int))=False:=eq_false (by omega)
  by_cases h2:200<depth (AC s t)
  ·have h2':((200:Int)<(depth (AC s t):Int))=True:=eq_true (by omega)
   push_cast[h1',h2']
   refine A1 ?_
   push_cast[Hw.rs]
   rw[if_pos (.inr h2)];rfl
  ·have h2':((200:Int)<(depth (AC s t):Int))=False:=eq_false (by omega)
   push_cast[h1',h2']
   refine .of (XH s hs (by omega) t (by omega)) ?_
   push_cast
   refine A1 ?_
   push_cast[Hw.rs]
   rw[if_neg (by omega)];rfl
theorem dB (s:List A7)(hl:s.length<2^62)(hs:Z7 s<2^34)(t:Term)(ht:tb t<2^24):PF MX [Bm s,An t] (.tup [.int .i64 (size (AC s t)),.int .i64 (depth (AC s t))]):=by
 induction t using Ai with
 | h t ih =>
 have hst:=AJ t
 have htb:=KX t
 have hll:=Am t.args
 have hz:=AX t
 have hsm:=VY ht hs
 refine Ab NO.ok rfl ?_
 cases hv:t.var with
 | true =>
  have he:AC s t=(Af s t.name).getD (.mk t.name true []):=by rw[Is,if_pos hv]
  rw[he]at hsm ⊢
  push_cast[hv]
  refine .of (My s t.name hl) ?_
  push_cast
  refine .of (Sn _ (by omega)) ?_
  push_cast
  refine .of (Qw _ (by omega)) ?_
  push_cast
  exact A1 (by push_cast[NO.rs])
 | false =>
  have he:AC s t=.mk t.name false (t.args.map (AC s)):=by rw[Is,hv];rfl
  rw[he]at hsm ⊢
  have hs1:size (Term.mk t.name false (t.args.map (AC s)))=1+Ae (t.args.map (AC s)):=by simp[size]
  have hd1:depth (Term.mk t.name false (t.args.map (AC s)))=AD (t.args.map (AC s))+1:=by simp[depth]
  have hds:=En (t.args.map (AC s))
  rw[hs1]at hsm
  rw[hs1,hd1]
  push_cast[hv]
  refine Ac (n:=t.args.length) (R:=fun k=>NO.L3 (Bm s) (.int .i64 (1+Ae ((t.args.take k).map (AC s)):Nat)) (.int .i64 (AD ((t.args.take k).map (AC s)):Nat)) (Bk t.args) (.int .i64 t.args.length) (.int .i64 k) 0 [] _) ?_ ?_ 0 (by omega)
  ·intro k hk ih2
   have hm:=A4 hk
   have hm2:=OC hm
   have hsum:Ae ((t.args.take k).map (AC s))+size (AC s (t.args.getD k default))<=Ae (t.args.map (AC s)):=by
    have:Ae ((t.args.take (k+1)).map (AC s))<=Ae (t.args.map (AC s)):=by rw[List.map_take];exact EF _ _
    rw[Aa hk,List.map_append,Cm]at this
    simpa[Ae]using this
   rw[Aa hk,List.map_append,List.map_singleton,Cm,EM]at ih2
   simp only[Ae,AD,Nat.add_zero,Nat.max_zero]at ih2
   refine A5.2 ?_
   push_cast[BC hk]
   refine .of (ih _ hm (by omega)) ?_
   push_cast[CD (show k<2^62 by omega)]
   rw[Bn (by omega) (by omega)]
   push_cast at ih2
   simpa[Int.add_assoc]using ih2
  ·refine A5.2 ?_
   push_cast[AZ (Nat.le_refl _),List.take_length]
   rw[Bn (by omega) (by omega)]
   refine A1 ?_
   push_cast[NO.rs]
theorem PS (s:List A7)(hl:s.length<2^62)(hs:Z7 s<2^34)(t:Term)(ht:tb t<2^24):PF Mk [Bm s,An t] (.bool (BJ (AC s t))):=by
 refine Ab TG.ok rfl ?_
 push_cast
 refine .of (dB s hl hs t ht) ?_
 by_cases h:size (AC s t)<=4000
 ·have hi:((size (AC s t):Int)<=4000)=True:=eq_true (by omega)
  push_cast[hi]
  exact A1 (by push_cast[TG.rs,BJ,h];simp;omega)
 ·have hi:((size (AC s t):Int)<=4000)=False:=eq_false (by omega)
  push_cast[hi]
  exact A1 (by push_cast[TG.rs,BJ,h])
end Go.Dw
section
namespace Go.Dw
abbrev Fv:Unit->V:=fun _=>.bool true
abbrev TM:=List (A9×Term)
abbrev DM:=List (QE×Unit)
abbrev SM:=List (A9×Unit)
abbrev SL (m:TM)(d:DM)(l:List Ob):List Ob:=.map (Bs An m)::.map (Ha Fv d)::.cells Bc [.map 0,.map 1]::l
abbrev uH (m:TM)(d:DM):List Ob:=SL m d []
theorem nw {σ:Nat->Option Nat}(m:TM):((Bs An m).map fun p=>(ren σ p.1,ren σ p.2))=Bs An m:=T1 (fun x=>gt x) m
theorem pk {σ:Nat->Option Nat}(m:SM):((Bs Fv m).map fun p=>(ren σ p.1,ren σ p.2))=Bs Fv m:=T1 (fun x=>rfl) m
theorem oa {σ:Nat->Option Nat}(m:DM):((Ha Fv m).map fun p=>(ren σ p.1,ren σ p.2))=Ha Fv m:=rJ (fun x=>rfl) m
attribute [push_cast] nw pk oa
theorem Hl (m:TM)(d:DM):Je 3 (uH m d):=⟨rfl,by
 show [A6 (AM 3) (.map (Bs An m)),A6 (AM 3) (.map (Ha Fv d)),A6 (AM 3) (.cells Bc [.map 0,.map 1])]=_
 have h0:AM 3 0=some 0:=rfl
 have h1:AM 3 1=some 1:=rfl
 push_cast[h0,h1]⟩
section
variable {s:List A7} {m:TM} (d:DM) (hm:∀ v,Ce m v = Af s v)
include hm
theorem QW {v:A9}{x:Term}(h:Af s v=some x):∀ l,M8 (.map (Bs An m)::l) true true (.agg [.str [],.bool false,.sl 3 []]) (.map 0) (.str v)=some (.tup [An x,.bool true]):=fun l=>by
 have:=LC An m v true (.agg [.str [],.bool false,.sl 3 []]) (H:=.map (Bs An m)::l) (i:=0) rfl
 rw[hm,h]at this;exact this
theorem WI {v:A9}(h:Af s v=none):∀ l,M8 (.map (Bs An m)::l) true true (.agg [.str [],.bool false,.sl 3 []]) (.map 0) (.str v)=some (.tup [.agg [.str [],.bool false,.sl 3 []],.bool false]):=fun l=>by
 have:=LC An m v true (.agg [.str [],.bool false,.sl 3 []]) (H:=.map (Bs An m)::l) (i:=0) rfl
 rw[hm,h]at this;exact this
theorem TQ (n:Nat)(t h:Term)(hh:E3 n s t=some h):Spec prog CA [.ptr 2 0,An t] (uH m d) fun x H'=>x=An h/\H'=uH m d:=by
 refine AK mixed Ft.ok rfl ?_
 have key:∀ (n:Nat)(t:Term),E3 n s t=some h->Ft.L3 (.ptr 2 0) (.ptr 3 0) (.ptr 4 0) 3 (SL m d [.cells A3 (cT t),.cells A3 [.str [],.bool false,.sl 3 []]]) (Bo 3 Ft.rs fun x' H'=>x'=An h/\H'=uH m d):=by
  intro n
  induction n with
  | zero=>intro t h;cases h
  | succ n ih =>
   intro t ht
   simp only[E3]at ht
   refine A5.2 ?_
   cases hv:t.var with
   | false =>
    rw[if_neg (by simp[hv])]at ht
    cases ht
    push_cast[hv]
    exact Ap (H:=uH m d) (J:=[_,_]) (Hl m d) rfl ⟨by push_cast,rfl⟩
   | true =>
    rw[if_pos hv]at ht
    cases hi:Af s t.name with
    | none =>
     rw[hi]at ht
     cases ht
     push_cast[hv,WI hm hi]
     exact Ap (H:=uH m d) (J:=[_,_,_]) (Hl m d) rfl ⟨by push_cast,rfl⟩
    | some x =>
     rw[hi]at ht
     push_cast[hv,QW hm hi]
     exact ih x ht
 push_cast
 exact key n t hh
def NR (s:List A7)(v:A9):Nat->SM->Term->SM×Bool
 | 0,σ,_=>(σ,false)
 | n+1,σ,t=>if t.var then (if t.name=v then (σ,true) else match Af s t.name with
   | none=>(σ,false)
   | some x=>if (Ce σ t.name).isSome then (σ,false) else NR s v n (Fm σ t.name ()) x)
  else Vi (NR s v n) σ t.args
abbrev oH (m:TM)(d:DM)(σ:SM):List Ob:=SL m d [.map (Bs Fv σ)]
abbrev oJ (m:TM)(d:DM)(σ:SM):List Ob:=SL m d [.map (Bs Fv σ),.cells IK [.ptr 2 0],.cells DC [.map 3]]
omit hm in
theorem YG (m:TM)(d:DM)(σ:SM):Je 4 (oH m d σ):=⟨rfl,by
 show [A6 (AM 4) (.map (Bs An m)),A6 (AM 4) (.map (Ha Fv d)),A6 (AM 4) (.cells Bc [.map 0,.map 1]),A6 (AM 4) (.map (Bs Fv σ))]=_
 have h0:AM 4 0=some 0:=rfl
 have h1:AM 4 1=some 1:=rfl
 push_cast[h0,h1]⟩
omit hm in
theorem rT (m:TM)(d:DM)(σ:SM)(J:List Ob):give [0,1,2,3] (SL m d (.map (Bs Fv σ)::J))=oH m d σ:=by
 show [A6 (Az [0,1,2,3]) (.map (Bs An m)),A6 (Az [0,1,2,3]) (.map (Ha Fv d)),A6 (Az [0,1,2,3]) (.cells Bc [.map 0,.map 1]),A6 (Az [0,1,2,3]) (.map (Bs Fv σ))]=_
 have h0:Az [0,1,2,3] 0=some 0:=rfl
 have h1:Az [0,1,2,3] 1=some 1:=rfl
 push_cast[h0,h1]
omit hm in
theorem AcF (m:TM)(d:DM)(σ σ':SM)(a b:Ob):takeB [0,1,2,3] (SL m d [.map (Bs Fv σ),a,b]) (oH m d σ')=SL m d [.map (Bs Fv σ'),a,b]:=by
 show [A6 (C5 [0,1,2,3] 6) (.map (Bs An m)),A6 (C5 [0,1,2,3] 6) (.map (Ha Fv d)),A6 (C5 [0,1,2,3] 6) (.cells Bc [.map 0,.map 1]),A6 (C5 [0,1,2,3] 6) (.map (Bs Fv σ')),a,b]=_
 have h0:C5 [0,1,2,3] 6 0=some 0:=rfl
 have h1:C5 [0,1,2,3] 6 1=some 1:=rfl
 push_cast[h0,h1]
omit hm in
section
variable {N:Nat->C} {B:Nat} {k:List K} {t:T} {Q:X->T->List Ob->Prop} {dd:Option Nat} {l:List S} {f:Nat} {v:A9} {z:Term} {b:Bool} {σ σ':SM} {m:TM} {d:DM} {a c:Ob}
theorem yQ (h:Spec prog f [.ptr 2 0,.str v,An z,.map 3] (oH m d σ) fun x' H'=>x'=.bool b/\H'=oH m d σ')(k':Ax prog N B (.r l::k) (FZ dd (.bool b) t) (SL m d [.map (Bs Fv σ'),a,c]) Q):BD prog N B dd l k t Q (.func f) [.ptr 2 0,.str v,An z,.map 3] (SL m d [.map (Bs Fv σ),a,c]):=by
 have h2:Az [0,1,2,3] 2=some 2:=rfl
 have h3:Az [0,1,2,3] 3=some 3:=rfl
 refine BD.some [0,1,2,3] (by simp) (by simp) (R:=fun x' H'=>x'=.bool b/\H'=oH m d σ') (by rw[rT];push_cast[h2,h3];exact h) ?_
 rintro x' H' ⟨rfl,rfl⟩ _
 rw[AcF];exact k'
end
omit hm in
theorem wZ (m:TM)(d:DM)(σ σ':SM)(a b c:Ob):takeB [0,1,2,3] (SL m d [.map (Bs Fv σ),a,b,c]) (oH m d σ')=SL m d [.map (Bs Fv σ'),a,b,c]:=by
 show [A6 (C5 [0,1,2,3] 7) (.map (Bs An m)),A6 (C5 [0,1,2,3] 7) (.map (Ha Fv d)),A6 (C5 [0,1,2,3] 7) (.cells Bc [.map 0,.map 1]),A6 (C5 [0,1,2,3] 7) (.map (Bs Fv σ')),a,b,c]=_
 have h0:C5 [0,1,2,3] 7 0=some 0:=rfl
 have h1:C5 [0,1,2,3] 7 1=some 1:=rfl
 push_cast[h0,h1]
omit hm in
section
variable {N:Nat->C} {B:Nat} {k:List K} {t:T} {Q:X->T->List Ob->Prop} {dd:Option Nat} {l:List S} {f:Nat} {v:A9} {z:Term} {b:Bool} {σ σ':SM} {m:TM} {d:DM} {a c e:Ob}
theorem sU (h:Spec prog f [.ptr 2 0,.str v,An z,.map 3] (oH m d σ) fun x' H'=>x'=.bool b/\H'=oH m d σ')(k':Ax prog N B (.r l::k) (FZ dd (.bool b) t) (SL m d [.map (Bs Fv σ'),a,c,e]) Q):BD prog N B dd l k t Q (.func f) [.ptr 2 0,.str v,An z,.map 3] (SL m d [.map (Bs Fv σ),a,c,e]):=by
 have h2:Az [0,1,2,3] 2=some 2:=rfl
 have h3:Az [0,1,2,3] 3=some 3:=rfl
 refine BD.some [0,1,2,3] (by simp) (by simp) (R:=fun x' H'=>x'=.bool b/\H'=oH m d σ') (by rw[rT];push_cast[h2,h3];exact h) ?_
 rintro x' H' ⟨rfl,rfl⟩ _
 rw[wZ];exact k'
end
omit hm in
theorem Uw {m:TM}{d:DM}{σ σ':SM}{v:A9}{a:Term}{b:Bool}(h:Spec prog Cd [.ptr 2 0,.str v,An a,.map 3] (oH m d σ) fun x H'=>x=.bool b/\H'=oH m d σ') :
  Spec prog Dj [An a,.ptr 4 0,.ro [.str v] 0,.ptr 5 0] (oJ m d σ) fun x H'=>x=.bool b/\H'=oJ m d σ':=by
 refine AK mixed J5.ok rfl ?_
 push_cast
 refine yQ h ?_
 push_cast
 exact DJ (.inl rfl) rfl ⟨rfl,rfl⟩
theorem YT (hw:∀ v x,Af s v=some x->Dn x<2^40)(v:A9):∀ (n:Nat)(t:Term)(σ:SM),Gn s n t->Dn t<2^40->Spec prog Cd [.ptr 2 0,.str v,An t,.map 3] (oH m d σ) fun x H'=>x=.bool (NR s v n σ t).2/\H'=oH m d (NR s v n σ t).1:=by
 intro n
 induction n with
 | zero=>intro t σ h;exact h.elim
 | succ n ih =>
  intro t σ hn ht
  simp only[Gn]at hn
  refine AK mixed K9.ok rfl ?_
  unfold NR
  cases hv:t.var with
  | true =>
   rw[if_pos rfl]
   rw[if_pos hv]at hn
   by_cases hz:t.name=v
   ·rw[if_pos hz]
    push_cast[hv,hz]
    exact Ap (H:=oH m d σ) (J:=[_,_]) (YG m d σ) rfl ⟨rfl,rfl⟩
   ·rw[if_neg hz]
    have hz2:(t.name==v)=false:=by simpa using hz
    cases hi:Af s t.name with
    | none =>
     push_cast[hv,hz,hz2,WI hm hi]
     exact Ap (H:=oH m d σ) (J:=[_,_,_]) (YG m d σ) rfl ⟨rfl,rfl⟩
    | some x =>
     have hlk:∀ l,_:=fun l=>LC Fv σ t.name false (.bool false) (H:=SL m d (.map (Bs Fv σ)::l)) (i:=3) rfl
     have hup:=PN Fv σ t.name ()
     have hok:=ih x (Fm σ t.name ()) (hn x hi) (hw _ _ hi)
     cases hg:Ce σ t.name with
     | some u =>
      rw[hg]at hlk
      simp only[Option.map_some,Option.getD_some]at hlk
      push_cast[hv,hz,hz2,QW hm hi,hlk]
      exact Ap (H:=oH m d σ) (J:=[_,_,_]) (YG m d σ) rfl ⟨rfl,rfl⟩
     | none =>
      rw[hg]at hlk
      simp only[Option.map_none,Option.getD_none]at hlk
      push_cast[hv,hz,hz2,QW hm hi,hlk,hup]
      refine⟨rfl,sU hok ?_⟩
      push_cast
      exact Ap (H:=oH m d (NR s v n (Fm σ t.name ()) x).1) (J:=[_,_,_]) (YG m d _) rfl ⟨rfl,rfl⟩
  | false =>
   rw[if_neg (by simp)]
   rw[if_neg (by simp[hv])]at hn
   push_cast[hv]
   have hwa:=Ek t
   have hC:=Pg (F:=NR s v n) (Hs:=oJ m d) (Inv:=fun _=>True) (g:=Dj) (n:=6) (caps:=[.ptr 4 0,.ro [.str v] 0,.ptr 5 0]) (fun _=>rfl) rfl
    (fun σ=>by
     show [A6 (AM 6) (.map (Bs An m)),A6 (AM 6) (.map (Ha Fv d)),A6 (AM 6) (.cells Bc [.map 0,.map 1]),A6 (AM 6) (.map (Bs Fv σ)),A6 (AM 6) (.cells IK [.ptr 2 0]),A6 (AM 6) (.cells DC [.map 3])]=_
     have h0:AM 6 0=some 0:=rfl
     have h1:AM 6 1=some 1:=rfl
     have h2:AM 6 2=some 2:=rfl
     have h3:AM 6 3=some 3:=rfl
     push_cast[h0,h1,h2,h3])
    t.args (by omega) (fun a ha σ _=>Uw (ih a σ (hn a ha) (by have:=TW ha;omega))) (fun _ _ _ _ _=>trivial) σ trivial
   refine BD.all (R:=fun x H'=>x=.bool (Vi (NR s v n) σ t.args).2/\H'=oJ m d (Vi (NR s v n) σ t.args).1) hC ?_
   rintro x H' ⟨rfl,rfl⟩
   push_cast
   exact Ap (H:=oH m d _) (J:=[_,_]) (YG m d _) rfl ⟨rfl,rfl⟩
omit hm in
theorem gD {F:SM->Term->SM×Bool}:∀ (l:List Term)(σ:SM),(Vi F σ l).2=true->∃ a∈l,∃ σ',(F σ' a).2=true
 | [],σ,h=>by cases h
 | a::l,σ,h=>by
  unfold Vi at h
  by_cases h1:(F σ a).2=true
  ·exact⟨a,by simp,σ,h1⟩
  ·rw[if_neg h1]at h
   obtain⟨b,hb,h2⟩:=gD l _ h
   exact⟨b,by simp[hb],h2⟩
omit hm in
theorem UH {v:A9}:∀ (n:Nat)(σ:SM)(t:Term),(NR s v n σ t).2=true->QA s v t
 | 0,σ,t,h=>by cases h
 | n+1,σ,t,h=>by
  unfold NR at h
  cases hv:t.var with
  | true =>
   rw[if_pos hv]at h
   by_cases hz:t.name=v
   ·exact .here hv hz
   ·rw[if_neg hz]at h
    cases hi:Af s t.name with
    | none=>rw[hi]at h;cases h
    | some x =>
     rw[hi]at h
     simp only at h
     split at h
     ·cases h
     ·exact .bound hv hi (UH n _ x h)
  | false =>
   rw[if_neg (by simp[hv])]at h
   obtain⟨a,ha,σ',h1⟩:=gD _ _ h
   exact .arg hv ha (UH n σ' a h1)
omit hm in
theorem bp {F:SM->Term->SM×Bool}{P:Term->Prop}{Q:SM->Prop}:∀ (l:List Term)(σ:SM),Q σ->(∀ a∈l,∀ σ,Q σ->(F σ a).2=false->P a/\Q (F σ a).1)->(Vi F σ l).2=false->(∀ a∈l,P a)/\Q (Vi F σ l).1
 | [],σ,hq,_,h=>⟨by simp,hq⟩
 | a::l,σ,hq,hs,h=>by
  unfold Vi at h ⊢
  by_cases h1:(F σ a).2=true
  ·rw[if_pos h1]at h;cases h
  ·rw[if_neg h1]at h ⊢
   obtain⟨h2,h3⟩:=hs a (by simp) σ hq (by simpa using h1)
   obtain⟨h4,h5⟩:=bp l _ h3 (fun b hb=>hs b (by simp[hb])) h
   exact⟨fun b hb=>by rcases List.mem_cons.1 hb with rfl | hb;exact h2;exact h4 b hb,h5⟩
omit hm in
theorem VP {v w:A9}{x:Term}(hw:w≠v)(hi:Af s w=some x)(h:¬ QA s v x):¬ QA s v (C6 w):=by
 intro ho
 cases ho with
 | here _ h2=>exact hw h2
 | bound _ h2 h3=>rw[show (C6 w).name=w from rfl,hi]at h2;cases h2;exact h h3
 | arg h1 _ _=>cases h1
omit hm in
theorem Se {σ':EP}{rk:A9->Nat}(hu:Gq s σ' rk){v:A9}:∀ (n:Nat)(σ:SM)(t:Term)(R:Nat),Gn s n t->vfl t=true->(∀ u,CI u t=true->rk u<R)->(∀ w,(Ce σ w).isSome=true->¬ QA s v (C6 w)\/R<=rk w)->(NR s v n σ t).2=false ->
  ¬ QA s v t/\∀ w,(Ce (NR s v n σ t).1 w).isSome=true->(Ce σ w).isSome=true\/¬ QA s v (C6 w)
 | 0,σ,t,R,h,_,_,_,_=>h.elim
 | n+1,σ,t,R,hn,ht,hR,hσ,h=>by
  simp only[Gn]at hn
  unfold NR at h ⊢
  cases hv:t.var with
  | true =>
   rw[if_pos hv]at h hn
   rw[if_pos rfl]
   have hocc:CI t.name t=true:=AE.2 (.inl ⟨hv,rfl⟩)
   have htv:=Rg ht hv
   by_cases hz:t.name=v
   ·rw[if_pos hz]at h;cases h
   ·rw[if_neg hz]at h ⊢
    cases hi:Af s t.name with
    | none =>
     refine⟨fun ho=>?_,fun w hw=>.inl hw⟩
     cases ho with
     | here _ h2=>exact hz h2
     | bound _ h2 _=>rw[hi]at h2;cases h2
     | arg h1 _ _=>rw[hv]at h1;cases h1
    | some x =>
     rw[hi]at h
     simp only at h ⊢
     by_cases hg:(Ce σ t.name).isSome=true
     ·rw[if_pos hg]
      rcases hσ _ hg with h1 | h1
      ·exact⟨by rw[htv];exact h1,fun w hw=>.inl hw⟩
      ·have:=hR _ hocc;omega
     ·rw[if_neg hg]at h ⊢
      obtain⟨h1,h2⟩:=Se hu n (Fm σ t.name ()) x (rk t.name) (hn x hi) (hu.vf _ _ hi) (hu.low _ _ hi) (fun w hw=>by
       rw[Ik]at hw
       by_cases e:t.name=w
       ·exact .inr (by rw[e];exact Nat.le_refl _)
       ·rw[if_neg e]at hw
        rcases hσ w hw with h3 | h3
        ·exact .inl h3
        ·exact .inr (by have:=hR _ hocc;omega)) h
      have h3:=VP hz hi h1
      refine⟨by rw[htv];exact h3,fun w hw=>?_⟩
      rcases h2 w hw with h4 | h4
      ·rw[Ik]at h4
       by_cases e:t.name=w
       ·exact .inr (e▸h3)
       ·rw[if_neg e]at h4;exact .inl h4
      ·exact .inr h4
  | false =>
   rw[if_neg (by simp[hv])]at h hn
   rw[if_neg (by simp)]
   obtain⟨h1,h2⟩:=bp (P:=fun a=>¬ QA s v a) (Q:=fun τ=>∀ w,(Ce τ w).isSome=true->(Ce σ w).isSome=true\/¬ QA s v (C6 w)) t.args σ (fun w hw=>.inl hw)
    (fun a ha τ hτ hf=>by
     obtain⟨h3,h4⟩:=Se hu n τ a R (hn a ha) (BS ht ha) (fun u hu'=>hR u (AE.2 (.inr ⟨a,ha,hu'⟩))) (fun w hw=>by
      rcases hτ w hw with h5 | h5
      ·exact hσ w h5
      ·exact .inl h5) hf
     refine⟨h3,fun w hw=>?_⟩
     rcases h4 w hw with h5 | h5
     ·exact hτ w h5
     ·exact .inr h5) h
   refine⟨fun ho=>?_,h2⟩
   cases ho with
   | here h3 _=>rw[hv]at h3;cases h3
   | bound h3 _ _=>rw[hv]at h3;cases h3
   | arg _ h3 h4=>exact h1 _ h3 h4
omit hm in
theorem yX {σ':EP}{rk:A9->Nat}(hu:Gq s σ' rk){v:A9}{n:Nat}{t:Term}(hn:Gn s n t)(ht:vfl t=true):(NR s v n [] t).2=true↔QA s v t:=by
 constructor
 ·exact UH n [] t
 ·intro ho
  obtain⟨M,hM⟩:=Z4 rk t
  cases h:(NR s v n [] t).2 with
  | true=>rfl
  | false=>exact absurd ho (Se hu n [] t (M+1) hn ht (fun u h=>by have:=hM u h;omega) (fun w hw=>by cases hw) h).1
theorem VS {σ':EP}{rk:A9->Nat}(hu:Gq s σ' rk)(hw:∀ v x,Af s v=some x->Dn x<2^40)(v:A9)(t:Term)(ht:vfl t=true)(hwt:Dn t<2^40) :
  Spec prog EQ [.ptr 2 0,.str v,An t] (uH m d) fun x H'=>x=.bool (LN s v t).2/\H'=uH (if (LN s v t).2 then Fm m v t else m) d:=by
 obtain⟨n,hn⟩:=hu.need t
 have hO:=YT d hm hw v n t [] hn hwt
 have hup:=PN An m v t
 refine AK mixed N5.ok rfl ?_
 push_cast
 refine BD.all (R:=fun x H'=>x=.bool (NR s v n [] t).2/\H'=oH m d (NR s v n [] t).1) hO ?_
 rintro x H' ⟨rfl,rfl⟩
 have hq:=yX hu (v:=v) hn ht
 rcases M0 s v t with ⟨ho,e⟩|⟨ho,e⟩
 ·rw[e]
  have hq:=hq.2 ho
  push_cast[hq]
  exact Ap (H:=uH m d) (J:=[_]) (Hl m d) rfl ⟨rfl,rfl⟩
 ·rw[e]
  have hq:(NR s v n [] t).2=false:=by
   cases h:(NR s v n [] t).2 with
   | true=>exact absurd (hq.1 h) ho
   | false=>rfl
  push_cast[hq,hup]
  exact⟨rfl,Ap (H:=uH (Fm m v t) d) (J:=[_]) (Hl _ d) rfl ⟨rfl,rfl⟩⟩
end
end Go.Dw
end
section
namespace Go.Dw
theorem Gq.sat_comp {s:List A7}{σ θ:EP}{rk:A9->Nat}(h:Gq s σ rk)(hθ:Ud θ s):∀ v,θ v=app θ (σ v):=by
 refine h.ind fun v ih=>?_
 cases hi:Af s v with
 | none=>rw[h.free v hi];exact (Aw (f:=θ) (t:=C6 v) rfl).symm
 | some t =>
  rw[h.fix v t hi,hθ v t hi,Oz]
  exact Du t fun w hw=>ih t w hi hw
theorem Gq.sat_app {s:List A7}{σ θ:EP}{rk:A9->Nat}(h:Gq s σ rk)(hθ:Ud θ s)(t:Term):app θ t=app θ (app σ t):=by
 rw[Oz];exact Du t fun v _=>h.sat_comp hθ v
theorem iS {f:Term->Term}{l m:List Term}(h:l.map f=m.map f):l.length=m.length:=by simpa using congrArg List.length h
theorem XD {s:List A7}{σ:EP}{rk:A9->Nat}(h:Gq s σ rk):∀ (n:Nat)(a b:Term)(r:List A7×Bool),vfl a=true->vfl b=true->B5 n s a b=some r->app σ a=app σ b->r=(s,true)
 | 0,_,_,_,_,_,hr,_=>by cases hr
 | n+1,a,b,r,ha,hb,hr,he=>by
  obtain⟨x,y,hx,hy,hc⟩:=K4 hr
  have hxv:vfl x=true:=Ca (P:=fun t=>vfl t=true) h.vf ha hx
  have hyv:vfl y=true:=Ca (P:=fun t=>vfl t=true) h.vf hb hy
  rw[<-ID h.sat hx,<-ID h.sat hy]at he
  have hfx:x.var=true->app σ x=C6 x.name:=fun c=>by rw[Aw c];exact h.free _ (Eh hx c)
  have hfy:y.var=true->app σ y=C6 y.name:=fun c=>by rw[Aw c];exact h.free _ (Eh hy c)
  rcases hc with ⟨c1,c2,c3,rfl⟩|⟨c1,c2,rfl⟩|⟨c1,c2,rfl⟩|⟨c1,c2,c3,rfl⟩|⟨c1,c2,c3,c4,c5⟩
  ·rfl
  ·exfalso
   rw[hfx c1]at he
   cases hv:y.var with
   | true =>
    rw[hfy hv]at he
    injection he with e1 e2 e3
    exact c2 ⟨hv,e1⟩
   | false=>rw[Bg hv]at he;injection he with e1 e2 e3;cases e2
  ·exfalso
   rw[hfy c2,Bg c1]at he
   injection he with e1 e2 e3;cases e2
  ·exfalso
   rw[Bg c1,Bg c2]at he
   injection he with e1 e2 e3
   rcases c3 with c3 | c3
   ·exact c3 e1
   ·exact c3 (iS e3)
  ·rw[Bg c1,Bg c2]at he
   injection he with e1 e2 e3
   have key:∀ (l m:List Term),(∀ z∈l,vfl z=true)->(∀ z∈m,vfl z=true)->l.map (app σ)=m.map (app σ)->AF (B5 n) s l m=some r->r=(s,true):=by
    intro l
    induction l with
    | nil=>intro m _ _ _ h;simp only[AF,Option.some.injEq]at h;exact h.symm
    | cons a l ihl =>
     intro m hl hm he h
     cases m with
     | nil=>simp at he
     | cons b m =>
      simp only[List.map_cons,List.cons.injEq]at he
      simp only[AF]at h
      cases hf:B5 n s a b with
      | none=>rw[hf]at h;cases h
      | some p =>
       rw[hf]at h
       have e:=XD ‹Gq s σ rk› n a b p (hl a (by simp)) (hm b (by simp)) hf he.1
       subst e
       exact ihl m (fun x hx=>hl x (by simp[hx])) (fun x hx=>hm x (by simp[hx])) he.2 h
   exact key x.args y.args (fun z hz=>BS hxv hz) (fun z hz=>BS hyv hz) e3 c5
theorem EC {t a:Term}(h:Dn t<2^40)(ha:a∈t.args):Dn a<2^40:=by
 have:=Ek t
 have:=TW ha
 omega
def WB (s:List A7):Prop:=∀ v x,Af s v=some x->Dn x<2^40
theorem WB.solve {s:List A7}(h:WB s){n:Nat}{a b:Term}{r:List A7×Bool}(ha:Dn a<2^40)(hb:Dn b<2^40)(hr:B5 n s a b=some r):WB r.1 :=
 fun v x hx=>(Kk (P:=fun t=>Dn t<2^40) (Q:=fun _=>True) (fun t a h ha=>EC h ha) (fun _ _ _=>trivial) n s a b r (fun v t hv=>⟨h v t hv,trivial⟩) ha hb hr v x hx).1
def MR (s:List A7)(m:TM):Prop:=(∀ v,Ce m v=Af s v)/\mT m
theorem MR.bind {s:List A7}{m:TM}(h:MR s m){v:A9}(hv:Af s v=none)(t:Term):MR (Gh s v t) (Fm m v t) :=
 ⟨fun w=>by rw[Ik,Ep hv,h.1 w],pi h.2 v t⟩
def Qx (s:List A7)(k:QE):Prop:=∀ θ,Ud θ s->θ k.1=θ k.2
def wt (d:DM)(r:List A7×Bool)(x:V)(m':TM)(d':DM):Prop:=x=.bool r.2/\(r.2=true->MR r.1 m'/\∀ k,(Ce d' k).isSome=true->(Ce d k).isSome=true\/Qx r.1 k)
theorem AbK (m m':TM)(d d':DM)(J:List Ob):takeB [0,1,2] (SL m d J) (uH m' d')=SL m' d' J:=by
 apply List.ext_getElem?
 intro i
 rw[DW (by simp)]
 have h0:∀ n,C5 [0,1,2] n 0=some 0:=fun _=>rfl
 have h1:∀ n,C5 [0,1,2] n 1=some 1:=fun _=>rfl
 match i with
 | 0=>rw[if_pos (by simp)];show some (A6 _ (.map (Bs An m')))=some _;push_cast
 | 1=>rw[if_pos (by simp)];show some (A6 _ (.map (Ha Fv d')))=some _;push_cast
 | 2=>rw[if_pos (by simp)];show some (A6 _ (.cells Bc [.map 0,.map 1]))=some _;push_cast[h0,h1]
 | i+3 =>
  have hp:Az [0,1,2] (i+3)=none:=by simp[Az,List.findIdx?_cons]
  by_cases h:i<J.length
  ·rw[if_pos (by simp;omega),hp]
   simp[List.getD_eq_getElem?_getD,h]
  ·rw[if_neg (by simp;omega)]
   have e1:(SL m' d' J)[i+3]?=none:=List.getElem?_eq_none (by simp;omega)
   have e2:(uH m' d')[[0,1,2].length+(i+3-(SL m d J).length)]?=none:=List.getElem?_eq_none (by simp)
   rw[e1,e2];rfl
theorem Acz (m:TM)(d:DM)(J:List Ob):give [0,1,2] (SL m d J)=uH m d:=by
 show [A6 (Az [0,1,2]) (.map (Bs An m)),A6 (Az [0,1,2]) (.map (Ha Fv d)),A6 (Az [0,1,2]) (.cells Bc [.map 0,.map 1])]=_
 have h0:Az [0,1,2] 0=some 0:=rfl
 have h1:Az [0,1,2] 1=some 1:=rfl
 push_cast[h0,h1]
section
variable {N:Nat->C} {B:Nat} {k:List K} {t:T} {Q:X->T->List Ob->Prop} {dd:Option Nat} {l:List S} {f:Nat} {vs vs':List V} {m:TM} {d:DM} {J:List Ob}
theorem QN {R:V->TM->DM->Prop}(hv:AS (Az [0,1,2]) vs=vs')(h:Spec prog f vs' (uH m d) fun x' H'=>∃ m' d',R x' m' d'/\H'=uH m' d')(k':∀ x' m' d',R x' m' d'->Ax prog N B (.r l::k) (FZ dd (ren (C5 [0,1,2] (J.length+3)) x') t) (SL m' d' J) Q):BD prog N B dd l k t Q (.func f) vs (SL m d J):=by
 refine BD.some [0,1,2] (by simp) (by simp) (R:=fun x' H'=>∃ m' d',R x' m' d'/\H'=uH m' d') (by rw[Acz,hv];exact h) ?_
 rintro x' H' ⟨m',d',hr,rfl⟩ _
 rw[AbK];exact k' x' m' d' hr
theorem NA {x:V}(hv:AS (Az [0,1,2]) vs=vs')(h:Spec prog f vs' (uH m d) fun x' H'=>x'=x/\H'=uH m d)(k':Ax prog N B (.r l::k) (FZ dd (ren (C5 [0,1,2] (J.length+3)) x) t) (SL m d J) Q):BD prog N B dd l k t Q (.func f) vs (SL m d J):=by
 refine QN (R:=fun x' m' d'=>x'=x/\m'=m/\d'=d) hv (Spec.mono h fun x' H' h=>⟨m,d,⟨h.1,rfl,rfl⟩,h.2⟩) ?_
 rintro x' m' d' ⟨rfl,rfl,rfl⟩;exact k'
end
end Go.Dw
end
namespace Go.Dw
theorem Zp:∀ (n:Nat)(s:List A7)(σ:EP)(rk:A9->Nat)(m:TM)(d:DM)(a b:Term) (r:List A7×Bool),Gq s σ rk->MR s m->WB s->vfl a=true->vfl b=true->Dn a<2^40->Dn b<2^40->B5 n s a b=some r ->
  (∀ k,(Ce d k).isSome=true->Qx s k\/∀ θ,Ud θ s->size (app θ a)<size (θ k.1))->Spec prog Ea [.ptr 2 0,An a,An b] (uH m d) fun x H'=>∃ m' d',wt d r x m' d'/\H'=uH m' d':=by
 intro n
 induction n with
 | zero=>intro s σ rk m d a b r _ _ _ _ _ _ _ h;cases h
 | succ n ih =>
  intro s σ rk m d a b r hu hm hwb ha hb hwa hwb2 hr hd
  have rest:∀ (d:DM)(Q:V->List Ob->Prop)(T:T)(J:List Ob),(∀ x m' d',wt d r x m' d'->Q x (uH m' d'))->lk T 0=.ptr 2 0->lk T 4=.ptr 3 0->lk T 5=.ptr 4 0->(∀ k,(Ce d k).isSome=true->Qx s k\/∀ θ,Ud θ s->size (app θ a)<=size (θ k.1)) ->
    Ax prog Cg.nd 3 [.c (.n 5)] T (SL m d (.cells A3 (cT a)::.cells A3 (cT b)::J)) (Bo 3 Cg.rs Q):=by
   intro d Q T J hQ h0 h4 h5 hd
   obtain⟨x,y,hx,hy,hc⟩:=K4 hr
   have hxv:vfl x=true:=Ca (P:=fun t=>vfl t=true) hu.vf ha hx
   have hyv:vfl y=true:=Ca (P:=fun t=>vfl t=true) hu.vf hb hy
   have hxw:Dn x<2^40:=Ca (P:=fun t=>Dn t<2^40) hwb hwa hx
   have hyw:Dn y<2^40:=Ca (P:=fun t=>Dn t<2^40) hwb hwb2 hy
   have hxs:∀ θ,Ud θ s->app θ x=app θ a:=fun θ hθ=>ID hθ hx
   have hA:=TQ d hm.1 (n+1) a x hx
   have hB:=TQ d hm.1 (n+1) b y hy
   have hlx:=Ek x
   have hly:=Ek y
   have p2:Az [0,1,2] 2=some 2:=rfl
   have same:∀ r:List A7×Bool,r.1=s->∀ x:V,x=.bool r.2->wt d r x m d:=fun r h x e=>⟨e,fun _=>⟨h▸hm,fun k hk=>.inl hk⟩⟩
   have setF:∀ (v:A9)(t:Term),Af s v=none->r=LN s v t->∀ (x':V)(m':TM)(d':DM),(x'=.bool (LN s v t).2/\m'=(if (LN s v t).2 then Fm m v t else m)/\d'=d)->wt d r x' m' d':=by
    rintro v t hv rfl x' m' d' ⟨rfl,rfl,rfl⟩
    refine⟨rfl,fun h=>⟨?_,fun k hk=>.inl hk⟩⟩
    rcases M0 s v t with ⟨_,e⟩|⟨_,e⟩
    ·rw[e]at h;cases h
    ·rw[e,if_pos rfl];exact hm.bind hv t
   push_cast[h0,h4,h5]
   refine⟨NA (by push_cast[p2]) hA ?_,NA (by push_cast[p2]) hA ?_⟩
   all_goals
    push_cast[h0,h4,h5]
    refine NA (by push_cast[p2]) hB ?_
    rcases hc with ⟨c1,c2,c3,c6⟩|⟨c1,c2,c6⟩|⟨c1,c2,c6⟩|⟨c1,c2,c3,c6⟩|⟨c1,c2,c3,c4,c5⟩
    ·push_cast[h0,h4,h5,c1,c2,c3]
     exact Ap (H:=uH m d) (J:=_::_::J) (Hl m d) rfl (hQ _ m d (same r (by rw[c6]) _ (by rw[c6];rfl)))
    ·have hS:=VS d hm.1 hu hwb x.name y hyv hyw
     have hS2:=Spec.mono hS (Q':=fun x' H'=>∃ m' d',(x'=.bool (LN s x.name y).2/\m'=(if (LN s x.name y).2 then Fm m x.name y else m)/\d'=d)/\H'=uH m' d') fun x' H' h=>⟨_,_,⟨h.1,rfl,rfl⟩,h.2⟩
     by_cases c3:y.var=true
     ·have c4:x.name≠y.name:=fun e=>c2 ⟨c3,e⟩
      push_cast[h0,h4,h5,c1,c3,c4]
      refine QN (by push_cast[p2]) hS2 ?_
      intro x' m' d' hR
      have hf:=setF x.name y (Eh hx c1) c6 x' m' d' hR
      obtain⟨rfl,_,_⟩:=hR
      push_cast
      exact Ap (H:=uH m' d') (J:=_::_::J) (Hl m' d') rfl (hQ _ m' d' hf)
     ·have c3:y.var=false:=by simpa using c3
      push_cast[h0,h4,h5,c1,c3]
      refine QN (by push_cast[p2]) hS2 ?_
      intro x' m' d' hR
      have hf:=setF x.name y (Eh hx c1) c6 x' m' d' hR
      obtain⟨rfl,_,_⟩:=hR
      push_cast
      exact Ap (H:=uH m' d') (J:=_::_::J) (Hl m' d') rfl (hQ _ m' d' hf)
    ·have hS:=VS d hm.1 hu hwb y.name x hxv hxw
     have hS2:=Spec.mono hS (Q':=fun x' H'=>∃ m' d',(x'=.bool (LN s y.name x).2/\m'=(if (LN s y.name x).2 then Fm m y.name x else m)/\d'=d)/\H'=uH m' d') fun x' H' h=>⟨_,_,⟨h.1,rfl,rfl⟩,h.2⟩
     push_cast[h0,h4,h5,c1,c2]
     refine QN (by push_cast[p2]) hS2 ?_
     intro x' m' d' hR
     have hf:=setF y.name x (Eh hy c2) c6 x' m' d' hR
     obtain⟨rfl,_,_⟩:=hR
     push_cast
     exact Ap (H:=uH m' d') (J:=_::_::J) (Hl m' d') rfl (hQ _ m' d' hf)
    ·by_cases hn:x.name=y.name
     ·have hlen:((x.args.length:Int)=(y.args.length:Int))=False:=eq_false (by rcases c3 with h | h;exact absurd hn h;omega)
      push_cast[h0,h4,h5,c1,c2,hn,hlen]
      exact Ap (H:=uH m d) (J:=_::_::J) (Hl m d) rfl (hQ _ m d (same r (by rw[c6]) _ (by rw[c6];rfl)))
     ·push_cast[h0,h4,h5,c1,c2,hn]
      exact Ap (H:=uH m d) (J:=_::_::J) (Hl m d) rfl (hQ _ m d (same r (by rw[c6]) _ (by rw[c6];rfl)))
    ·have hlen:((x.args.length:Int)=(y.args.length:Int))=True:=eq_true (by omega)
     push_cast[h0,h4,h5,c1,c2,c3,hlen]
     refine Ac (n:=x.args.length) (R:=fun k=>∀ (s':List A7)(σ':EP)(rk':A9->Nat)(m':TM)(d':DM),Gq s' σ' rk'->MR s' m'->WB s'->(∀ θ,Ud θ s'->Ud θ s)->(∀ k,(Ce d' k).isSome=true->(Ce d k).isSome=true\/Qx s' k)->AF (B5 n) s' (x.args.drop k) (y.args.drop k)=some r ->
      Cg.L3 (.ptr 2 0) (.ptr 3 0) (.ptr 4 0) (.int .i64 x.args.length) (.int .i64 k) 3 (SL m' d' [.cells A3 (cT x),.cells A3 (cT y)]) (Bo 3 Cg.rs Q)) ?_ ?_ 0 (by omega) s σ rk m d hu hm hwb (fun _ h=>h) (fun k hk=>.inl hk) c5
     ·intro k hk ih2 s' σ' rk' m' d' hu' hm' hwb' hsat hkeys hsol
      have hk2:k<y.args.length:=by omega
      have hmx:=A4 hk
      have hmy:=A4 hk2
      rw[Ag hk,Ag hk2]at hsol
      generalize hc:x.args.getD k default=c at hmx hsol
      generalize he:y.args.getD k default=e at hmy hsol
      simp only[AF]at hsol
      cases hf:B5 n s' c e with
      | none=>rw[hf]at hsol;cases hsol
      | some p =>
       obtain⟨s1,ok⟩:=p
       rw[hf]at hsol
       have hcall:=ih s' σ' rk' m' d' c e (s1,ok) hu' hm' hwb' (BS hxv hmx) (BS hyv hmy) (EC hxw hmx) (EC hyw hmy) hf (fun k hk=>by
        rcases hkeys k hk with h | h
        ·rcases hd k h with h | h
         ·exact .inl fun θ hθ=>h θ (hsat θ hθ)
         ·refine .inr fun θ hθ=>?_
          have h1:=h θ (hsat θ hθ)
          rw[<-hxs θ (hsat θ hθ),Bg c1]at h1
          have h2:size (Term.mk x.name false (x.args.map (app θ)))=1+Ae (x.args.map (app θ)):=rfl
          have h3:=By (List.mem_map_of_mem (f:=app θ) hmx)
          omega
        ·exact .inl h)
       obtain⟨σ1,rk1,hok⟩:=FW n s' σ' rk' c e (s1,ok) hu' (BS hxv hmx) (BS hyv hmy) hf
       refine A5.2 ?_
       push_cast[BC hk,BC hk2,hc,he]
       refine QN (by push_cast[p2]) hcall ?_
       intro x' m1 d1 hR
       obtain⟨rfl,hR⟩:=hR
       cases ok with
       | false =>
        simp only[Option.some.injEq]at hsol
        push_cast
        exact Ap (H:=uH m1 d1) (J:=[_,_]) (Hl m1 d1) rfl (hQ _ m1 d1 ⟨by rw[<-hsol];rfl,fun h=>by rw[<-hsol]at h;cases h⟩)
       | true =>
        obtain⟨hm1,hk1⟩:=hR rfl
        push_cast[CD (show k<2^62 by omega)]
        have:=ih2 s1 σ1 rk1 m1 d1 hok.ok hm1 (hwb'.solve (EC hxw hmx) (EC hyw hmy) hf) (fun θ hθ=>hsat θ (hθ.mono hok.ext)) (fun k hk=>by
         rcases hk1 k hk with h | h
         ·rcases hkeys k h with h | h
          ·exact .inl h
          ·exact .inr fun θ hθ=>h θ (hθ.mono hok.ext)
         ·exact .inr h) hsol
        push_cast at this
        exact this
     ·intro s' σ' rk' m' d' hu' hm' hwb' hsat hkeys hsol
      rw[Ak]at hsol
      simp only[AF,Option.some.injEq]at hsol
      refine A5.2 ?_
      push_cast[AZ (Nat.le_refl _)]
      exact Ap (H:=uH m' d') (J:=[_,_]) (Hl m' d') rfl (hQ _ m' d' ⟨by rw[<-hsol];rfl,fun _=>⟨by rw[<-hsol];exact hm',fun k hk=>by rw[<-hsol];exact hkeys k hk⟩⟩)
  refine AK mixed Cg.ok rfl ?_
  unfold Cg.body
  generalize hC:C.n 5=c5
  obtain⟨σ1,rk1,hok⟩:=FW (n+1) s σ rk a b r hu ha hb hr
  have hd1:∀ k,(Ce d k).isSome=true->Qx s k\/∀ θ,Ud θ s->size (app θ a)<=size (θ k.1):=fun k hk=>by
   rcases hd k hk with h | h
   ·exact .inl h
   ·exact .inr fun θ hθ=>Nat.le_of_lt (h θ hθ)
  cases hva:a.var with
  | false =>
   push_cast[hva]
   subst hC
   exact rest d _ _ [] (fun x m' d' h=>⟨m',d',h,rfl⟩) rfl rfl rfl hd1
  | true =>
   cases hvb:b.var with
   | false =>
    push_cast[hva,hvb]
    subst hC
    exact rest d _ _ [] (fun x m' d' h=>⟨m',d',h,rfl⟩) rfl rfl rfl hd1
   | true =>
    have hlk:∀ l,_:=fun l=>nu Fv d (a.name,b.name) false (.bool false) (H:=SL m d l) (i:=1) rfl
    have hup:=ua Fv d (a.name,b.name) ()
    cases hg:Ce d (a.name,b.name)with
    | some u =>
     rw[hg]at hlk
     simp only[Option.map_some,Option.getD_some,Pu]at hlk hup
     push_cast[hva,hvb,hlk]
     have hrr:r=(s,true):=by
      rcases hd (a.name,b.name) (by rw[hg];rfl)with h | h
      ·exact XD hu (n+1) a b r ha hb hr (by rw[Aw hva,Aw hvb];exact h σ hu.sat)
      ·have:=h σ hu.sat
       rw[Aw hva]at this
       exact absurd this (Nat.lt_irrefl _)
     exact Ap (H:=uH m d) (J:=[_,_,_]) (Hl m d) rfl ⟨m,d,⟨by rw[hrr];rfl,fun _=>⟨by rw[hrr];exact hm,fun k hk=>.inl hk⟩⟩,rfl⟩
    | none =>
     rw[hg]at hlk
     simp only[Option.map_none,Option.getD_none,Pu]at hlk hup
     push_cast[hva,hvb,hlk,hup]
     subst hC
     refine⟨rfl,rest (Fm d (a.name,b.name) ()) _ _ [.dead] (fun x m' d' h=>?_) rfl rfl rfl fun k hk=>?_⟩
     ·obtain⟨e,h1⟩:=h
      refine⟨m',d',⟨e,fun hr2=>⟨(h1 hr2).1,fun k hk=>?_⟩⟩,rfl⟩
      rcases (h1 hr2).2 k hk with h3 | h3
      ·rw[Ik]at h3
       by_cases e:(a.name,b.name)=k
       ·subst e
        refine .inr fun θ hθ=>?_
        have h4:=hok.eq hr2
        have h5:=hok.ok.sat_app hθ a
        have h6:=hok.ok.sat_app hθ b
        rw[h4,<-h6,Aw hva,Aw hvb]at h5
        exact h5
       ·rw[if_neg e]at h3;exact .inl h3
      ·exact .inr h3
     ·rw[Ik]at hk
      by_cases e:(a.name,b.name)=k
      ·subst e
       exact .inr fun θ hθ=>by rw[Aw hva];exact Nat.le_refl _
      ·rw[if_neg e]at hk;exact hd1 k hk
theorem Zl {s:List A7}{σ:EP}{rk:A9->Nat}(hu:Gq s σ rk){m:TM}{d:DM}(hm:∀ v,Ce m v=Af s v)(hwb:WB s):∀ (n:Nat)(t:Term),Gn s n t->vfl t=true->Dn t<2^40->Spec prog BX [.ptr 2 0,An t] (uH m d) fun x H'=>x=An (app σ t)/\H'=uH m d:=by
 intro n
 induction n with
 | zero=>intro t h;exact h.elim
 | succ n ih =>
  intro t hn ht hw
  simp only[Gn]at hn
  have p2:Az [0,1,2] 2=some 2:=rfl
  refine AK mixed ES.ok rfl ?_
  cases hv:t.var with
  | true =>
   rw[if_pos hv]at hn
   rw[Aw hv]
   cases hi:Af s t.name with
   | none =>
    rw[hu.free _ hi]
    push_cast[hv,WI hm hi]
    exact Ap (H:=uH m d) (J:=[_,_]) (Hl m d) rfl ⟨by push_cast;rfl,rfl⟩
   | some x =>
    have hc:=ih x (hn x hi) (hu.vf _ _ hi) (hwb _ _ hi)
    rw[hu.fix _ _ hi]
    push_cast[hv,QW hm hi]
    refine NA (J:=[_,_]) (by push_cast[p2]) hc ?_
    push_cast
    exact Ap (H:=uH m d) (J:=[_,_]) (Hl m d) rfl ⟨by push_cast,rfl⟩
  | false =>
   rw[if_neg (by simp[hv])]at hn
   rw[Bg hv]
   have hwa:=Ek t
   push_cast[hv]
   refine Ac (n:=t.args.length) (R:=fun k=>ES.L3 (.ptr 2 0) (.ptr 3 0) (.ptr 4 0) (Bk t.args) (.int .i64 t.args.length) (.int .i64 k) 3
    (SL m d [.cells A3 [.str [],.bool false,.sl 3 []],.cells A3 [.str t.name,.bool false,Bf cT 5 3 ((t.args.map (app σ)).take k)],.arr A3 3 k]) _) ?_ ?_ 0 (by omega)
   ·intro k hk ih2
    have hme:=A4 hk
    have hk2:k<(t.args.map (app σ)).length:=by simpa using hk
    have hlt:((t.args.map (app σ)).take k).length=k:=by simp;omega
    have hge:(t.args.map (app σ)).getD k default=app σ (t.args.getD k default):=by
     simp[List.getD_eq_getElem?_getD,hk]
    have hc:=ih _ (hn _ hme) (BS ht hme) (EC hw hme)
    rw[Aa hk2,hge]at ih2
    refine A5.2 ?_
    push_cast[BC hk]
    refine⟨⟨?_,?_⟩,?_⟩
    all_goals
     refine NA (J:=[_,_,_,_]) (by push_cast[p2]) hc ?_
     push_cast[hlt,Uz (show k<2^40 by omega) (show 48<=64 by omega),CD (show k<2^62 by omega)]
     push_cast at ih2
     exact ih2
   ·refine A5.2 ?_
    push_cast[AZ (Nat.le_refl _)]
    rw[List.take_of_length_le (by simp)]
    refine Ap (H:=uH m d) (J:=[_,_,_]) (Hl m d) rfl ⟨?_,rfl⟩
    push_cast[ES.rs]
    rw[An,P7];rfl
abbrev MM:=List (A9×(Nat×Nat))
def EO (p:Nat×Nat):V:=.agg [.int .i64 p.1,.int .i64 p.2]
theorem oA {σ:Nat->Option Nat}(m:MM):((Bs EO m).map fun p=>(ren σ p.1,ren σ p.2))=Bs EO m:=T1 (fun x=>rfl) m
attribute [push_cast] oA
def fX (σ:EP)(t:Term):Nat×Nat:=(min (size (app σ t)) 4001,depth (app σ t))
def gu (σ:EP)(kn:MM):Prop:=∀ v p,Ce kn v=some p->p=fX σ (C6 v)
abbrev vE (m:TM)(d:DM)(kn:MM)(J:List Ob):List Ob:=SL m d (.map (Bs EO kn)::J)
abbrev kH (m:TM)(d:DM)(kn:MM):List Ob:=vE m d kn []
theorem cd (m:TM)(d:DM)(kn:MM):Je 4 (kH m d kn):=⟨rfl,by
 show [A6 (AM 4) (.map (Bs An m)),A6 (AM 4) (.map (Ha Fv d)),A6 (AM 4) (.cells Bc [.map 0,.map 1]),A6 (AM 4) (.map (Bs EO kn))]=_
 have h0:AM 4 0=some 0:=rfl
 have h1:AM 4 1=some 1:=rfl
 push_cast[h0,h1]⟩
theorem Aci (m:TM)(d:DM)(kn kn':MM)(J:List Ob):takeB [0,1,2,3] (vE m d kn J) (kH m d kn')=vE m d kn' J:=by
 apply List.ext_getElem?
 intro i
 rw[DW (by simp)]
 have h0:∀ n,C5 [0,1,2,3] n 0=some 0:=fun _=>rfl
 have h1:∀ n,C5 [0,1,2,3] n 1=some 1:=fun _=>rfl
 match i with
 | 0=>rw[if_pos (by simp)];show some (A6 _ (.map (Bs An m)))=some _;push_cast
 | 1=>rw[if_pos (by simp)];show some (A6 _ (.map (Ha Fv d)))=some _;push_cast
 | 2=>rw[if_pos (by simp)];show some (A6 _ (.cells Bc [.map 0,.map 1]))=some _;push_cast[h0,h1]
 | 3=>rw[if_pos (by simp)];show some (A6 _ (.map (Bs EO kn')))=some _;push_cast
 | i+4 =>
  have hp:Az [0,1,2,3] (i+4)=none:=by simp[Az,List.findIdx?_cons]
  by_cases h:i<J.length
  ·rw[if_pos (by simp;omega),hp]
   simp[List.getD_eq_getElem?_getD,h]
  ·rw[if_neg (by simp;omega)]
   have e1:(vE m d kn' J)[i+4]?=none:=List.getElem?_eq_none (by simp;omega)
   have e2:(kH m d kn')[[0,1,2,3].length+(i+4-(vE m d kn J).length)]?=none:=List.getElem?_eq_none (by simp)
   rw[e1,e2];rfl
theorem Aaj (m:TM)(d:DM)(kn:MM)(J:List Ob):give [0,1,2,3] (vE m d kn J)=kH m d kn:=by
 show [A6 (Az [0,1,2,3]) (.map (Bs An m)),A6 (Az [0,1,2,3]) (.map (Ha Fv d)),A6 (Az [0,1,2,3]) (.cells Bc [.map 0,.map 1]),A6 (Az [0,1,2,3]) (.map (Bs EO kn))]=_
 have h0:Az [0,1,2,3] 0=some 0:=rfl
 have h1:Az [0,1,2,3] 1=some 1:=rfl
 push_cast[h0,h1]
theorem mg {N:Nat->C}{B:Nat}{k:List K}{t:T}{Q:X->T->List Ob->Prop}{dd:Option Nat}{l:List S}{f:Nat}{z:Term}{m:TM}{d:DM}{kn:MM}{J:List Ob}{R:V->MM->Prop}
  (h:Spec prog f [.ptr 2 0,An z,.map 3] (kH m d kn) fun x' H'=>∃ kn',R x' kn'/\H'=kH m d kn') (k':∀ x' kn',R x' kn'->Ax prog N B (.r l::k) (FZ dd (ren (C5 [0,1,2,3] (J.length+4)) x') t) (vE m d kn' J) Q):BD prog N B dd l k t Q (.func f) [.ptr 2 0,An z,.map 3] (vE m d kn J):=by
 have h2:Az [0,1,2,3] 2=some 2:=rfl
 have h3:Az [0,1,2,3] 3=some 3:=rfl
 refine BD.some [0,1,2,3] (by simp) (by simp) (R:=fun x' H'=>∃ kn',R x' kn'/\H'=kH m d kn') (by rw[Aaj];push_cast[h2,h3];exact h) ?_
 rintro x' H' ⟨kn',hr,rfl⟩ _
 rw[Aci];exact k' x' kn' hr
theorem Wq {s:List A7}{σ:EP}{rk:A9->Nat}(hu:Gq s σ rk){m:TM}{d:DM}(hm:∀ v,Ce m v=Af s v)(hwb:WB s):∀ (n:Nat)(t:Term)(kn:MM),Gn s n t->vfl t=true->Dn t<2^40->depth (app σ t)<2^60->gu σ kn ->
  Spec prog Cw [.ptr 2 0,An t,.map 3] (kH m d kn) fun x H'=>∃ kn',(x=EO (fX σ t)/\gu σ kn')/\H'=kH m d kn':=by
 intro n
 induction n with
 | zero=>intro t kn h;exact h.elim
 | succ n ih =>
  intro t kn hn ht hw hdp hkn
  simp only[Gn]at hn
  refine AK mixed D4.ok rfl ?_
  cases hv:t.var with
  | true =>
   rw[if_pos hv]at hn
   rw[Aw hv]at hdp
   cases hi:Af s t.name with
   | none =>
    have e:fX σ t=(1,1):=by
     unfold fX
     rw[Aw hv,hu.free _ hi];rfl
    rw[e]
    push_cast[hv,WI hm hi]
    exact Ap (H:=kH m d kn) (J:=[_,_]) (cd m d kn) rfl ⟨kn,⟨rfl,hkn⟩,rfl⟩
   | some x =>
    have hlk:∀ l,_:=fun l=>LC EO kn t.name true (.agg [.int .i64 0,.int .i64 0]) (H:=vE m d kn l) (i:=3) rfl
    have e:fX σ t=fX σ x:=by
     unfold fX
     rw[Aw hv,hu.fix _ _ hi]
    have e2:fX σ (C6 t.name)=fX σ t:=by
     unfold fX
     rw[Aw (t:=C6 t.name) rfl,Aw hv];rfl
    generalize hp:fX σ t=p at e e2
    have hp':fX σ x=p:=e.symm
    obtain⟨p1,p2⟩:=p
    cases hg:Ce kn t.name with
    | some q =>
     have hq:=hkn _ _ hg
     rw[e2]at hq
     subst hq
     rw[hg]at hlk
     simp only[Option.map_some,Option.getD_some,Option.isSome_some,if_true,EO]at hlk
     push_cast[hv,QW hm hi,hlk]
     exact Ap (H:=kH m d kn) (J:=[_,_,_]) (cd m d kn) rfl ⟨kn,⟨rfl,hkn⟩,rfl⟩
    | none =>
     rw[hg]at hlk
     simp only[Option.map_none,Option.getD_none,Option.isSome_none,if_true]at hlk
     have hc:=ih x kn (hn x hi) (hu.vf _ _ hi) (hwb _ _ hi) (by rw[<-hu.fix _ _ hi];exact hdp) hkn
     rw[hp']at hc
     push_cast[hv,QW hm hi,hlk]
     refine mg (R:=fun x' kn'=>x'=EO (p1,p2)/\gu σ kn') (J:=[_,_,_]) hc ?_
     rintro x' kn' ⟨rfl,hkn'⟩
     have hup:XR (.str t.name) (.agg [.int .i64 p1,.int .i64 p2]) (Bs EO kn')=some (Bs EO (Fm kn' t.name (p1,p2))):=PN EO kn' t.name (p1,p2)
     push_cast[EO,hup]
     refine⟨rfl,Ap (H:=kH m d (Fm kn' t.name (p1,p2))) (J:=[_,_,_,_]) (cd m d _) rfl ⟨_,⟨rfl,fun w q hq=>?_⟩,rfl⟩⟩
     rw[Ik]at hq
     by_cases ew:t.name=w
     ·rw[if_pos ew]at hq
      cases hq
      rw[<-ew];exact e2.symm
     ·rw[if_neg ew]at hq;exact hkn' w q hq
  | false =>
   rw[if_neg (by simp[hv])]at hn
   have hwa:=Ek t
   have happ:=Bg (f:=σ) hv
   generalize hL:t.args.map (app σ)=L at happ
   have hLl:L.length=t.args.length:=by rw[<-hL];simp
   have hsz:size (app σ t)=1+Ae L:=by rw[happ];rfl
   have hdz:depth (app σ t)=AD L+1:=by rw[happ];rfl
   push_cast[hv]
   refine Ac (n:=t.args.length) (R:=fun k=>∀ (kn':MM)(c e:Nat),gu σ kn'->c=min (1+Ae (L.take k)) 4001->e=AD (L.take k)->D4.L3 (.ptr 2 0) (.map 3) (.ptr 4 0) (.ptr 5 0) (Bk t.args) (.int .i64 t.args.length) (.int .i64 k) 4
    (vE m d kn' [.cells DS [.int .i64 0,.int .i64 0],.cells DS [.int .i64 c,.int .i64 e]]) (Bo 4 D4.rs fun x H'=>∃ kn',(x=EO (fX σ t)/\gu σ kn')/\H'=kH m d kn')) ?_ ?_ 0 (by omega) kn 1 0 hkn (by simp[Ae]) (by simp[AD])
   ·intro k hk ih2 kn' c e hkn' hc he
    have hme:=A4 hk
    have hk2:k<L.length:=by omega
    have hge:L.getD k default=app σ (t.args.getD k default):=by
     rw[<-hL];simp[List.getD_eq_getElem?_getD,hk]
    have hmL:=A4 hk2
    have hdl:depth (app σ (t.args.getD k default))<=AD L:=by rw[<-hge];exact Lu hmL
    have hcall:=ih (t.args.getD k default) kn' (hn _ hme) (BS ht hme) (EC hw hme) (by omega) hkn'
    have hp1:fX σ (t.args.getD k default)=(min (size (L.getD k default)) 4001,depth (L.getD k default)):=by rw[hge];rfl
    rw[hp1]at hcall
    generalize hq1:min (size (L.getD k default)) 4001=a1 at hcall
    generalize hq2:depth (L.getD k default)=b1 at hcall
    have hw1:IntKind.i64.wrap ((c:Int)+(a1:Int))=(c:Int)+a1:=Bn (by omega) (by omega)
    refine A5.2 ?_
    push_cast[BC hk]
    refine mg (R:=fun x' kn'=>x'=EO (a1,b1)/\gu σ kn') (J:=[_,_,_]) hcall ?_
    rintro x' kn1 ⟨rfl,hkn1⟩
    obtain⟨c1,hc1⟩:∃ c1,c1=min (c+a1) 4001:=⟨_,rfl⟩
    obtain⟨e1,he1⟩:∃ e1,e1=max e b1:=⟨_,rfl⟩
    have this:=ih2 kn1 c1 e1 hkn1 (by rw[Aa hk2,Cm,hc1,hc,<-hq1];simp only[Ae];omega) (by rw[Aa hk2,EM,he1,he,<-hq2];simp[AD])
    have hmn:(if (4001:Int)<(c:Int)+(a1:Int) then (4001:Int) else (c:Int)+(a1:Int))=(c1:Int):=by
     split<;>omega
    have hmx:(if (e:Int)<(b1:Int) then (b1:Int) else (e:Int))=(e1:Int):=by
     split<;>omega
    push_cast[EO,hw1,hmn,hmx,<-he1,CD (show k<2^62 by omega)]
    push_cast[EO]at this
    exact this
   ·intro kn' c e hkn' hc he
    rw[List.take_of_length_le (by omega)]at hc he
    refine A5.2 ?_
    push_cast[AZ (Nat.le_refl _),CD (show e<2^62 by omega)]
    refine Ap (H:=kH m d kn') (J:=[_,_]) (cd m d kn') rfl ⟨kn',⟨?_,hkn'⟩,rfl⟩
    push_cast[D4.rs]
    unfold fX EO
    rw[hsz,hdz,<-hc,<-he]
    push_cast
end Go.Dw
section
namespace Go.Dw
theorem bA {σ:EP}{M:Nat}(t:Term):(∀ w,CI w t=true->depth (σ w)<=M)->depth (app σ t)<=depth t+M:=by
 induction t using Ai with
 | h t ih =>
 intro h
 cases hv:t.var with
 | true =>
  rw[Aw hv]
  have:=h _ (AE.2 (.inl ⟨hv,rfl⟩))
  omega
 | false =>
  rw[Bg hv,Fz,Fz t]
  show AD (t.args.map (app σ))+1<=AD t.args+1+M
  have key:∀ l:List Term,(∀ a∈l,a∈t.args)->AD (l.map (app σ))<=AD l+M:=by
   intro l
   induction l with
   | nil=>intro _;simp[AD]
   | cons a l ihl =>
    intro hl
    have h1:=ih a (hl a (by simp)) fun w hw=>h w (AE.2 (.inr ⟨a,hl a (by simp),hw⟩))
    have h2:=ihl fun b hb=>hl b (by simp[hb])
    simp only[List.map_cons,AD]
    omega
  have:=key t.args fun _ h=>h
  omega
theorem aq {α:Type}{p q:α->Bool}:∀ {l:List α} {x:α},x∈l->(∀ y,p y=true->q y=true)->q x=true->p x=false->l.countP p<l.countP q
 | [],x,h,_,_,_=>by cases h
 | y::l,x,h,hpq,hq,hp=>by
  have hle:l.countP p<=l.countP q:=List.countP_mono_left fun z _=>hpq z
  simp only[List.countP_cons]
  rcases List.mem_cons.1 h with rfl | h
  ·rw[hq,hp];simp;omega
  ·have:=aq h hpq hq hp
   have h2:(if p y=true then 1 else 0)<=(if q y=true then 1 else 0):=by
    by_cases hy:p y=true
    ·rw[if_pos hy,if_pos (hpq y hy)];exact Nat.le_refl _
    ·rw[if_neg hy];exact Nat.zero_le _
   omega
def hY (s:List A7)(rk:A9->Nat)(v:A9):Nat:=s.countP fun b=>decide (rk b.name<=rk v)
theorem pV (s:List A7)(rk:A9->Nat)(v:A9):hY s rk v<=s.length:=List.countP_le_length
theorem HU {s:List A7}{v:A9}{t:Term}(h:Af s v=some t):⟨v,t⟩∈s:=by
 obtain⟨b,hb,h1,h2⟩:=UF h
 subst h1;subst h2;exact hb
theorem Gq.cnt_lt {s:List A7}{σ:EP}{rk:A9->Nat}(h:Gq s σ rk){v w:A9}{t:Term}(hi:Af s v=some t)(hw:CI w t=true):hY s rk w<hY s rk v:=by
 have:=h.low v t hi w hw
 refine aq (HU hi) (fun y hy=>?_) (by simp) (by simp;exact this)
 simp only[decide_eq_true_eq]at hy ⊢
 omega
theorem Gq.deep {s:List A7}{σ:EP}{rk:A9->Nat}(h:Gq s σ rk){D:Nat}(hD:∀ v t,Af s v=some t->depth t<=D):∀ v,depth (σ v)<=hY s rk v*D+1:=by
 refine h.ind fun v ih=>?_
 cases hi:Af s v with
 | none=>rw[h.free v hi];show depth (C6 v)<=_;simp[C6,depth,AD]
 | some t =>
  rw[h.fix v t hi]
  obtain⟨c,hc⟩:∃ c,hY s rk v=c+1\/hY s rk v=0:=by
   cases hz:hY s rk v with
   | zero=>exact⟨0,.inr rfl⟩
   | succ c=>exact⟨c,.inl rfl⟩
  rcases hc with hc | hc
  ·have h1:=bA (σ:=σ) (M:=c*D+1) t fun w hw=>by
    have h2:=ih t w hi hw
    have h3:=h.cnt_lt hi hw
    have h4:hY s rk w*D<=c*D:=Nat.mul_le_mul_right D (by omega)
    omega
   have h2:=hD v t hi
   rw[hc,Nat.succ_mul]
   omega
  ·have h1:=bA (σ:=σ) (M:=0) t fun w hw=>by
    have h3:=h.cnt_lt hi hw
    omega
   exfalso
   have:0<hY s rk v:=List.countP_pos_iff.2 ⟨_,HU hi,by simp⟩
   omega
theorem Y2:∀ {a b:List A7},DO a->DO b->(∀ x,x∈a↔x∈b)->a=b
 | [],[],_,_,_=>rfl
 | [],y::b,_,_,h=>by have:=(h y).2 (by simp);cases this
 | x::a,[],_,_,h=>by have:=(h x).1 (by simp);cases this
 | x::a,y::b,ha,hb,h=>by
  obtain⟨h1,h2⟩:=List.pairwise_cons.1 ha
  obtain⟨h3,h4⟩:=List.pairwise_cons.1 hb
  have e:x=y:=by
   rcases List.mem_cons.1 ((h x).1 (by simp))with e | hx
   ·exact e
   ·rcases List.mem_cons.1 ((h y).2 (by simp))with e | hy
    ·exact e.symm
    ·exact absurd (NE (h1 y hy) (h3 x hx)) (DB _)
  subst e
  congr 1
  refine Y2 h2 h4 fun z=>⟨fun hz=>?_,fun hz=>?_⟩
  ·rcases List.mem_cons.1 ((h z).1 (by simp[hz]))with e | h
   ·subst e;exact absurd (h1 z hz) (DB _)
   ·exact h
  ·rcases List.mem_cons.1 ((h z).2 (by simp[hz]))with e | h
   ·subst e;exact absurd (h3 z hz) (DB _)
   ·exact h
abbrev dO (m:TM)(d:DM)(out:List A7)(kn:MM)(J:List Ob):List Ob:=SL m d (PA out::.map (Bs EO kn)::J)
theorem Aal (m:TM)(d:DM)(out:List A7)(kn kn':MM)(J:List Ob):takeB [0,1,2,4] (dO m d out kn J) (kH m d kn')=dO m d out kn' J:=by
 apply List.ext_getElem?
 intro i
 rw[DW (by simp)]
 have h0:∀ n,C5 [0,1,2,4] n 0=some 0:=fun _=>rfl
 have h1:∀ n,C5 [0,1,2,4] n 1=some 1:=fun _=>rfl
 match i with
 | 0=>rw[if_pos (by simp)];show some (A6 _ (.map (Bs An m)))=some _;push_cast
 | 1=>rw[if_pos (by simp)];show some (A6 _ (.map (Ha Fv d)))=some _;push_cast
 | 2=>rw[if_pos (by simp)];show some (A6 _ (.cells Bc [.map 0,.map 1]))=some _;push_cast[h0,h1]
 | 3=>rw[if_pos (by simp)];rfl
 | 4=>rw[if_pos (by simp)];show some (A6 _ (.map (Bs EO kn')))=some _;push_cast
 | i+5 =>
  have hp:Az [0,1,2,4] (i+5)=none:=by simp[Az,List.findIdx?_cons]
  by_cases h:i<J.length
  ·rw[if_pos (by simp;omega),hp]
   simp[List.getD_eq_getElem?_getD,h]
  ·rw[if_neg (by simp;omega)]
   have e1:(dO m d out kn' J)[i+5]?=none:=List.getElem?_eq_none (by simp;omega)
   have e2:(kH m d kn')[[0,1,2,4].length+(i+5-(dO m d out kn J).length)]?=none:=List.getElem?_eq_none (by simp)
   rw[e1,e2];rfl
theorem AcK (m:TM)(d:DM)(out:List A7)(kn:MM)(J:List Ob):give [0,1,2,4] (dO m d out kn J)=kH m d kn:=by
 show [A6 (Az [0,1,2,4]) (.map (Bs An m)),A6 (Az [0,1,2,4]) (.map (Ha Fv d)),A6 (Az [0,1,2,4]) (.cells Bc [.map 0,.map 1]),A6 (Az [0,1,2,4]) (.map (Bs EO kn))]=_
 have h0:Az [0,1,2,4] 0=some 0:=rfl
 have h1:Az [0,1,2,4] 1=some 1:=rfl
 push_cast[h0,h1]
theorem AbV (m:TM)(d:DM)(out out':List A7)(kn:MM)(J:List Ob):takeB [3] (dO m d out kn J) [PA out']=dO m d out' kn J:=by
 apply List.ext_getElem?
 intro i
 rw[DW (by simp)]
 match i with
 | 0=>rw[if_pos (by simp)];rfl
 | 1=>rw[if_pos (by simp)];rfl
 | 2=>rw[if_pos (by simp)];rfl
 | 3=>rw[if_pos (by simp)];show some (A6 _ (PA out'))=some _;rw[Jv,Tj]
 | i+4 =>
  have hp:Az [3] (i+4)=none:=by simp[Az,List.findIdx?_cons]
  by_cases h:i+4<(dO m d out kn J).length
  ·rw[if_pos h,hp]
   simp only[List.length_cons]at h
   have h2:i+1<(Ob.map (Bs EO kn)::J).length+1:=by simp;omega
   simp only[List.getD_eq_getElem?_getD,List.getElem?_cons_succ]
   cases hx:(Ob.map (Bs EO kn)::J)[i]? with
   | none=>rw[List.getElem?_eq_none_iff]at hx;simp at hx;omega
   | some y=>rfl
  ·rw[if_neg h]
   have e1:(dO m d out' kn J)[i+4]?=none:=List.getElem?_eq_none (by simp at h ⊢;omega)
   have e2:([PA out']:List Ob)[[3].length+(i+4-(dO m d out kn J).length)]?=none:=List.getElem?_eq_none (by simp)
   rw[e1,e2];rfl
theorem Acu (m:TM)(d:DM)(out:List A7)(kn:MM)(J:List Ob):give [3] (dO m d out kn J)=[PA out]:=by
 show [A6 (Az [3]) (PA out)]=_
 rw[Jv,Tj]
section
variable {N:Nat->C} {B:Nat} {k:List K} {t:T} {Q:X->T->List Ob->Prop} {dd:Option Nat} {l:List S} {f:Nat} {m:TM} {d:DM} {out out':List A7} {kn:MM} {J:List Ob}
theorem xp {z:Term}{R:V->MM->Prop}(h:Spec prog f [.ptr 2 0,An z,.map 3] (kH m d kn) fun x' H'=>∃ kn',R x' kn'/\H'=kH m d kn')(k':∀ x' kn',R x' kn'->Ax prog N B (.r l::k) (FZ dd (ren (C5 [0,1,2,4] (J.length+5)) x') t) (dO m d out kn' J) Q):BD prog N B dd l k t Q (.func f) [.ptr 2 0,An z,.map 4] (dO m d out kn J):=by
 have h2:Az [0,1,2,4] 2=some 2:=rfl
 have h3:Az [0,1,2,4] 4=some 3:=rfl
 refine BD.some [0,1,2,4] (by simp) (by simp) (R:=fun x' H'=>∃ kn',R x' kn'/\H'=kH m d kn') (by rw[AcK];push_cast[h2,h3];exact h) ?_
 rintro x' H' ⟨kn',hr,rfl⟩ _
 rw[Aal];exact k' x' kn' hr
theorem xX {v:A9}{z:Term}{n:Nat}(h:Spec prog f [.rw 0 4 n,.str v,An z] [PA out] fun x' H'=>x'=.rw 0 4 (n+1)/\H'=[PA out'])(k':Ax prog N B (.r l::k) (FZ dd (.rw 3 4 (n+1)) t) (dO m d out' kn J) Q):BD prog N B dd l k t Q (.func f) [.rw 3 4 n,.str v,An z] (dO m d out kn J):=by
 have h3:Az [3] 3=some 0:=rfl
 have h0:∀ n,C5 [3] n 0=some 3:=fun _=>rfl
 refine BD.some [3] (by simp) (by simp) (R:=fun x' H'=>x'=.rw 0 4 (n+1)/\H'=[PA out']) (by rw[Acu];push_cast[h3];exact h) ?_
 rintro x' H' ⟨rfl,rfl⟩ _
 rw[AbV];push_cast[h0];exact k'
end
end Go.Dw
end
section
namespace Go.Dw
theorem fK {s:List A7}(hs:DO s){v:A9}(h:∀ b∈s,b.name≠v):Af s v=none:=by
 cases hi:Af s v with
 | none=>rfl
 | some t=>exact absurd rfl (h _ (HU hi))
theorem oY {s:List A7}{v:A9}{t:Term}{b:A7}:b∈Gh s v t↔b∈s\/b=⟨v,t⟩:=by
 constructor
 ·exact nJ
 ·intro h
  unfold Gh
  rw[List.mem_append,List.mem_cons]
  rcases h with h | h
  ·rw[<-List.take_append_drop (Jd v s) s,List.mem_append]at h
   rcases h with h | h
   ·exact .inl h
   ·exact .inr (.inr h)
  ·exact .inr (.inl h)
theorem uG {s:List A7}{m:TM}(h:MR s m)(hs:DO s):m.length<=s.length:=by
 have h1:(m.map (·.1)).Nodup:=h.2
 have h2:=h1.length_le_of_subset (l₂:=s.map (·.name)) fun v hv=>by
  obtain⟨p,hp,rfl⟩:=List.mem_map.1 hv
  have h3:=Vj h.2 (k:=p.1) (x:=p.2) hp
  rw[h.1]at h3
  exact List.mem_map.2 ⟨_,HU h3,rfl⟩
 simpa using h2
section
variable {s:List A7} {σ:EP} {rk:A9->Nat} (hu:Gq s σ rk) {m:TM} {d:DM} (hm:MR s m) (hwb:WB s) {D:Nat} (hD:∀ v,depth (σ v)<=D) (hDb:D < 2^60) (hlen:s.length < 2^38)
include hu hm hwb hD hDb hlen
theorem gZ (hsig:Tf s=σ):CR.L3 (.ptr 2 0) (.rw 3 4 0) (.map 4) (.it 5) 0 (dO m d [] [] [.iter (some 0) m.length []]) (Bo 0 CR.rs fun x H'=>x=(if FL s then .tup [Bm [],.bool false,.int .i64 3] else .tup [Bm (Dz s),.bool true,.int .i64 0])/\H'=[]):=by
 have hml:=uG hm hu.srt
 have hel:(Bs An m).length=m.length:=U1 _ _
 have hkey:∀ {i j:Nat},i<m.length->j<m.length->(m.getD i default).1=(m.getD j default).1->i=j:=fun {i j} hi hj e=>by
  have h1:(m.map (·.1)).Nodup:=hm.2
  have:=(List.getElem_inj (i:=i) (j:=j) (h₀:=by simpa using hi) (h₁:=by simpa using hj) h1).1
  simp only[List.getElem_map]at this
  exact this (by simpa[List.getD_eq_getElem?_getD,hi,hj]using e)
 have himg:∀ {i:Nat},i<m.length->Af s (m.getD i default).1=some (m.getD i default).2:=fun {i} hi=>by
  rw[<-hm.1]
  exact Vj hm.2 (A4 hi)
 refine qq m.length (fun seen=>∀ (out:List A7)(kn:MM),DO out->out.length=seen.length->(∀ b,b∈out↔∃ i∈seen,b=⟨(m.getD i default).1,σ (m.getD i default).1⟩)->(∀ i∈seen,BJ (σ (m.getD i default).1)=true)->gu σ kn ->
  CR.L3 (.ptr 2 0) (.rw 3 4 seen.length) (.map 4) (.it 5) 0 (dO m d out kn [.iter (some 0) m.length seen]) (Bo 0 CR.rs fun x H'=>x=(if FL s then .tup [Bm [],.bool false,.int .i64 3] else .tup [Bm (Dz s),.bool true,.int .i64 0])/\H'=[])) ?_ [] [] List.Pairwise.nil rfl (by simp) (by simp) (fun v p h=>by cases h)
 intro seen hnd hlt hl ih out kn hso hlo hmem hfit hkn
 refine A5.2 ?_
 push_cast
 refine ck 0 m.length seen (Bs An m) rfl rfl hel.symm (fun hall=>?_) (fun k p hp hk=>?_)
 ·have hout:out=Dz s:=by
   refine Y2 hso ?_ fun x=>?_
   ·unfold Dz DO
    rw[List.pairwise_map]
    exact hu.srt
   ·rw[hmem]
    unfold Dz
    rw[List.mem_map,hsig]
    constructor
    ·rintro ⟨i,hi,rfl⟩
     exact⟨_,HU (himg (hlt i hi)),rfl⟩
    ·rintro ⟨b,hb,rfl⟩
     have h1:=Fx hu.srt hb
     rw[<-hm.1]at h1
     obtain⟨i,hi,e⟩:=List.getElem_of_mem (pK h1)
     refine⟨i,hall i hi,?_⟩
     have:(m.getD i default)=(b.name,b.term):=by simp[List.getD_eq_getElem?_getD,hi,e]
     rw[this]
  have hhu:FL s=false:=by
   unfold FL
   rw[List.any_eq_false]
   intro b hb
   have h1:(⟨b.name,σ b.name⟩:A7)∈out:=by
    rw[hout];unfold Dz;rw[hsig];exact List.mem_map_of_mem (f:=fun b:A7=>(⟨b.name,σ b.name⟩:A7)) hb
   obtain⟨i,hi,e⟩:=(hmem _).1 h1
   have:=hfit i hi
   injection e with e1 e2
   rw[hsig,e2,this];simp
  rw[hhu]
  have hlo':(Dz s).length=seen.length:=by rw[<-hout,hlo]
  rw[hout]
  push_cast
  exact⟨by simp[hlo'],A1 (by push_cast[CR.rs];rfl)⟩
 ·have hkl:k<m.length:=by rw[<-hel];exact (List.getElem?_eq_some_iff.1 hp).1
  have hpe:p=(.str (m.getD k default).1,An (m.getD k default).2):=by
   unfold Bs at hp
   rw[List.getElem?_map]at hp
   simp[hkl]at hp
   rw[<-hp];simp[List.getD_eq_getElem?_getD,hkl]
  subst hpe
  have hi:=himg hkl
  have hen:∀ (J:List Ob),xB (dO m d out kn (.iter (some 0) m.length (seen++[k])::J)) (.it 5)=some (.tup [.str (m.getD k default).1,An (m.getD k default).2]):=fun J=>by
   simp[xB,hel,hp]
  generalize hv:(m.getD k default).1=v at hi hen
  obtain⟨n,hn⟩:=hu.need (C6 v)
  have hdv:depth (app σ (C6 v))<=D:=by rw[Aw rfl];exact hD v
  have hM:=Wq hu (d:=d) hm.1 hwb n (C6 v) kn hn rfl (by simp[C6,Dn,Kf]) (by omega) hkn
  have hW:=Zl hu (d:=d) hm.1 hwb n (C6 v) hn rfl (by simp[C6,Dn,Kf])
  rw[Aw (t:=C6 v) rfl]at hW
  have hz:V.agg [.str v,.bool true,.sl 3 []]=An (C6 v):=rfl
  have hmt:fX σ (C6 v)=(min (size (σ v)) 4001,depth (σ v)):=by unfold fX;rw[Aw (t:=C6 v) rfl];rfl
  rw[hmt]at hM
  have hfe:BJ (σ v)=(decide (size (σ v)<=4000)&&decide (depth (σ v)<=200)):=rfl
  generalize hp1:min (size (σ v)) 4001=p1 at hM
  generalize hp2:depth (σ v)=p2 at hM hfe
  push_cast[hen]
  rw[hz]
  refine xp (J:=[_,_]) (R:=fun x' kn'=>x'=EO (p1,p2)/\gu σ kn') hM ?_
  rintro x' kn' ⟨rfl,hkn'⟩
  by_cases hf:BJ (σ v)=true
  ·have hf2:=hf
   rw[hfe,Bool.and_eq_true,decide_eq_true_eq,decide_eq_true_eq]at hf2
   have c1:((4000:Int)<(p1:Int))=False:=eq_false (by omega)
   have c2:((200:Int)<(p2:Int))=False:=eq_false (by omega)
   push_cast[EO,c1,c2]
   rw[hz]
   have p2':Az [0,1,2] 2=some 2:=rfl
   refine NA (J:=[_,_,_,_,_]) (by push_cast[p2']) hW ?_
   push_cast
   rw[<-hlo]
   refine xX (J:=[_,_,_]) (YZ out v _ hso (by omega)) ?_
   have hnew:Af out v=none:=fK hso fun b hb e=>by
    obtain⟨i,hi2,rfl⟩:=(hmem b).1 hb
    have:=hkey (hlt i hi2) hkl (e.trans hv.symm)
    exact hk (this▸hi2)
   have:=ih k hkl hk (Gh out v (σ v)) kn' (TN hso hnew) (by rw[aV,hlo];simp) (fun b=>by
    rw[oY,hmem]
    constructor
    ·rintro (⟨i,hi2,rfl⟩ | rfl)
     ·exact⟨i,by simp[hi2],rfl⟩
     ·exact⟨k,by simp,by rw[hv]⟩
    ·rintro ⟨i,hi2,rfl⟩
     rcases List.mem_append.1 hi2 with h | h
     ·exact .inl ⟨i,h,rfl⟩
     ·rw[List.mem_singleton.1 h];exact .inr (by rw[hv])) (fun i hi2=>by
    rcases List.mem_append.1 hi2 with h | h
    ·exact hfit i h
    ·rw[List.mem_singleton.1 h,hv];exact hf) hkn'
   have hsl:(seen++[k]).length=out.length+1:=by simp[hlo]
   rw[hsl]at this
   push_cast
   push_cast at this
   exact this
  ·have hhu:FL s=true:=by
    unfold FL
    rw[List.any_eq_true]
    refine⟨_,HU hi,?_⟩
    rw[hsig];simp[hf]
   rw[hhu,if_pos rfl]
   have hf2:¬ (size (σ v)<=4000/\p2<=200):=fun h=>hf (by rw[hfe];simp[h])
   by_cases h1:size (σ v)<=4000
   ·have c1:((4000:Int)<(p1:Int))=False:=eq_false (by omega)
    have c2:((200:Int)<(p2:Int))=True:=eq_true (by omega)
    push_cast[EO,c1,c2]
    exact A1 (by push_cast[CR.rs];rfl)
   ·have c1:((4000:Int)<(p1:Int))=True:=eq_true (by omega)
    push_cast[EO,c1]
    exact A1 (by push_cast[CR.rs];rfl)
end
def Jl (r:List A7×Bool×Int):V:=.tup [Bm r.1,.bool r.2.1,.int .i64 r.2.2]
structure bZ (l:List A2) (Vs:List A9) (D:Nat):Prop where
 am:∀ x∈l,C3 Vs x.left/\C3 Vs x.right
 wd:∀ x∈l,Dn x.left<2^40/\Dn x.right<2^40
 dp:∀ x∈l,depth x.left<=D/\depth x.right<=D
 vs:Vs.length<2^28
 hd:D<2^28
 len:l.length<2^40
theorem Zg (l:List A2)(Vs:List A9)(D:Nat)(h:bZ l Vs D):PF JO [Al l] (Jl (Kb (l.map (·.left)) (l.map (·.right)))):=by
 obtain⟨n,r,hr⟩:=Iq Vs (l.map (·.left)) (l.map (·.right)) [] C6 (fun _=>0) Gq.nil (fun v t h=>by cases h) (by simp only[List.mem_map];rintro z ⟨x,hx,rfl⟩;exact (h.am x hx).1) (by simp only[List.mem_map];rintro z ⟨x,hx,rfl⟩;exact (h.am x hx).2)
 have hS:=NB hr
 have hlv:=h.len
 have p2:Az [0,1,2] 2=some 2:=rfl
 refine Ab CR.ok rfl ?_
 push_cast
 refine Ac (n:=l.length) (R:=fun k=>∀ (s:List A7)(σ:EP)(rk:A9->Nat)(m:TM)(d:DM),Gq s σ rk->MR s m->WB s->(∀ v t,Af s v=some t->depth t<=D)->(∀ v t,Af s v=some t->C3 Vs t/\v∈Vs)->(∀ k,(Ce d k).isSome=true->Qx s k) ->
   AF (B5 n) s ((l.map (·.left)).drop k) ((l.map (·.right)).drop k)=some r->CR.L7 (.ptr 2 0) (Al l) (.int .i64 l.length) (.int .i64 k) 0 (SL m d []) (Bo 0 CR.rs fun x H'=>x=Jl (Kb (l.map (·.left)) (l.map (·.right)))/\H'=[])) ?_ ?_ 0 (by omega)
  [] C6 (fun _=>0) [] [] Gq.nil ⟨fun v=>rfl,List.nodup_nil⟩ (fun v t h=>by cases h) (fun v t h=>by cases h) (fun v t h=>by cases h) (fun k h=>by cases h) hr
 ·intro k hk ih s σ rk m d hu hm hwb hdp ham hdone hsol
  have hme:=A4 hk
  have e1:(l.map (·.left)).getD k default=(l.getD k default).left:=by simp[List.getD_eq_getElem?_getD,hk]
  have e2:(l.map (·.right)).getD k default=(l.getD k default).right:=by simp[List.getD_eq_getElem?_getD,hk]
  rw[Ag (show k<(l.map (·.left)).length by simpa using hk),Ag (show k<(l.map (·.right)).length by simpa using hk),e1,e2]at hsol
  generalize hx:l.getD k default=x at hme hsol
  obtain⟨hal,har⟩:=h.am x hme
  obtain⟨hwl,hwr⟩:=h.wd x hme
  obtain⟨hdl,hdr⟩:=h.dp x hme
  simp only[AF]at hsol
  cases hf:B5 n s x.left x.right with
  | none=>rw[hf]at hsol;cases hsol
  | some p =>
   obtain⟨s1,ok⟩:=p
   rw[hf]at hsol
   obtain⟨σ1,rk1,hok⟩:=FW n s σ rk x.left x.right (s1,ok) hu hal.1 har.1 hf
   have hc:=Zp n s σ rk m d x.left x.right (s1,ok) hu hm hwb hal.1 har.1 hwl hwr hf fun k hk=>.inl (hdone k hk)
   refine A5.2 ?_
   push_cast[BC hk,hx]
   refine QN (J:=[_]) (by push_cast[p2]) hc ?_
   rintro x' m1 d1 ⟨rfl,hR⟩
   cases ok with
   | false =>
    simp only[Option.some.injEq]at hsol
    have hu2:Kb (l.map (·.left)) (l.map (·.right))=([],false,0):=by unfold Kb;rw[hS,<-hsol];rfl
    push_cast
    rw[hu2]
    exact A1 (by push_cast[CR.rs];rfl)
   | true =>
    obtain⟨hm1,hk1⟩:=hR rfl
    push_cast[CD (show k<2^62 by omega)]
    have:=ih s1 σ1 rk1 m1 d1 hok.ok hm1 (hwb.solve hwl hwr hf)
     (fun v t hv=>(Kk (P:=fun t=>depth t<=D) (Q:=fun _=>True) (fun t a h ha=>by have:=Fz t;have:=Lu ha;omega) (fun _ _ _=>trivial) n s x.left x.right _ (fun v t hv=>⟨hdp v t hv,trivial⟩) hdl hdr hf v t hv).1)
     (M7 ham hal har hf) (fun k hk=>by
      rcases hk1 k hk with h | h
      ·exact fun θ hθ=>hdone k h θ (hθ.mono hok.ext)
      ·exact h) hsol
    push_cast at this
    exact this
 ·intro s σ rk m d hu hm hwb hdp ham hdone hsol
  have e1:(l.map (·.left)).drop l.length=[]:=by rw[List.drop_eq_nil_of_le];simp
  rw[e1]at hsol
  simp only[AF,Option.some.injEq]at hsol
  have hlen:=I4 hu.srt ham
  have hvs:=h.vs
  have hhd:=h.hd
  have hsig:=Te hu
  have hDb:s.length*D+1<2^60:=by
   have:s.length*D<=2^28*2^28:=Nat.mul_le_mul (by omega) (by omega)
   omega
  have hq:=gZ hu (d:=d) hm hwb (D:=s.length*D+1) (fun v=>by
   have h1:=hu.deep hdp v
   have h2:hY s rk v*D<=s.length*D:=Nat.mul_le_mul_right D (pV s rk v)
   omega) hDb (by omega) hsig
  have hu2:Jl (Kb (l.map (·.left)) (l.map (·.right)))=(if FL s then .tup [Bm [],.bool false,.int .i64 3] else .tup [Bm (Dz s),.bool true,.int .i64 0]):=by
   unfold Kb
   rw[hS,<-hsol]
   simp only[Bool.true_eq_false,if_false]
   cases FL s<;>rfl
  rw[hu2]
  refine A5.2 ?_
  push_cast[AZ (Nat.le_refl _),U1]
  exact hq
end Go.Dw
end
namespace Go.Dw
theorem WY {s:List A7}{v:A9}{t:Term}(h:Af s v=some t):bound s v=true:=by unfold bound;rw[h];rfl
theorem WS {s:List A7}{v:A9}(h:Af s v=none):bound s v=false:=by unfold bound;rw[h];rfl
theorem St {s:List A7}(hl:s.length<2^62)(n:Nat)(t h:Term)(hh:E3 n s t=some h):PF LP [Bm s,An t] (An h):=by
 refine Ab O0.ok rfl ?_
 have key:∀ (n:Nat)(t:Term),E3 n s t=some h->O0.L3 (Bm s) (.ptr 0 0) (.ptr 1 0) 0 [.cells A3 (cT t),.cells A3 [.str [],.bool false,.sl 3 []]] (Bo 0 O0.rs fun x' H'=>x'=An h/\H'=[]):=by
  intro n
  induction n with
  | zero=>intro t h;cases h
  | succ n ih =>
   intro t ht
   simp only[E3]at ht
   refine A5.2 ?_
   cases hv:t.var with
   | false =>
    rw[if_neg (by simp[hv])]at ht
    cases ht
    push_cast[hv]
    exact A1 (by push_cast[O0.rs])
   | true =>
    rw[if_pos hv]at ht
    push_cast[hv]
    refine .of (VT s t.name hl) ?_
    cases hi:Af s t.name with
    | none =>
     rw[hi]at ht
     cases ht
     push_cast[WS hi]
     exact A1 (by push_cast[O0.rs])
    | some x =>
     rw[hi]at ht
     push_cast[WY hi]
     refine .of (My s t.name hl) ?_
     rw[hi]
     push_cast
     exact ih x ht
 push_cast
 exact key n t hh
def Ch (s:List A7):Nat->List A9->Term->List A9
 | 0,met,_=>met
 | n+1,met,t=>if t.var then (if t.name∈met then met else match Af s t.name with
   | none=>met++[t.name]
   | some x=>Ch s n (met++[t.name]) x)
  else t.args.foldl (Ch s n) met
theorem TE {F:List A9->Term->List A9}{P:List A9->Prop}:∀ (l:List Term)(m:List A9),P m->(∀ a∈l,∀ m,P m->P (F m a))->P (l.foldl F m)
 | [],m,h,_=>h
 | a::l,m,h,hs=>TE l _ (hs a (by simp) m h) fun b hb=>hs b (by simp[hb])
theorem OL {s:List A7}{Vs:List A9}(hs:∀ v t,Af s v=some t->C3 Vs t/\v∈Vs):∀ (n:Nat)(met:List A9)(t:Term),C3 Vs t->met.Nodup->(∀ w∈met,w∈Vs)->(Ch s n met t).Nodup/\∀ w∈Ch s n met t,w∈Vs
 | 0,met,t,_,h1,h2=>⟨h1,h2⟩
 | n+1,met,t,ht,h1,h2=>by
  unfold Ch
  cases hv:t.var with
  | true =>
   rw[if_pos rfl]
   split
   ·exact⟨h1,h2⟩
   ·rename_i hm
    have h3:(met++[t.name]).Nodup:=by
     rw[List.nodup_append]
     refine⟨h1,by simp,fun a ha b hb e=>?_⟩
     rw[List.mem_singleton.1 hb]at e
     exact hm (e▸ha)
    have h4:∀ w∈met++[t.name],w∈Vs:=fun w hw=>by
     rcases List.mem_append.1 hw with h | h
     ·exact h2 w h
     ·rw[List.mem_singleton.1 h];exact ht.2 _ (AE.2 (.inl ⟨hv,rfl⟩))
    cases hi:Af s t.name with
    | none=>exact⟨h3,h4⟩
    | some x=>exact OL hs n _ x (hs _ _ hi).1 h3 h4
  | false =>
   rw[if_neg (by simp)]
   exact TE (P:=fun m=>m.Nodup/\∀ w∈m,w∈Vs) t.args met ⟨h1,h2⟩ fun a ha m hm=>OL hs n m a (ht.arg ha) hm.1 hm.2
theorem R4 {s:List A7}:∀ (n:Nat)(met:List A9)(t:Term)(w:A9),w∈met->w∈Ch s n met t
 | 0,met,t,w,h=>h
 | n+1,met,t,w,h=>by
  unfold Ch
  split
  ·split
   ·exact h
   ·cases hi:Af s t.name with
    | none=>simp[h]
    | some x=>exact R4 n _ x w (by simp[h])
  ·exact TE (P:=fun m=>w∈m) t.args met h fun a ha m hm=>R4 n m a w hm
theorem Q6 {s:List A7}:∀ (n:Nat)(met:List A9)(t:Term)(w:A9),w∈Ch s n met t->w∈met\/QA s w t
 | 0,met,t,w,h=>.inl h
 | n+1,met,t,w,h=>by
  unfold Ch at h
  cases hv:t.var with
  | true =>
   rw[if_pos hv]at h
   split at h
   ·exact .inl h
   ·have hw:∀ w,w∈met++[t.name]->w∈met\/QA s w t:=fun w h=>by
     rcases List.mem_append.1 h with h | h
     ·exact .inl h
     ·rw[List.mem_singleton.1 h];exact .inr (.here hv rfl)
    cases hi:Af s t.name with
    | none=>rw[hi]at h;exact hw w h
    | some x =>
     rw[hi]at h
     rcases Q6 n _ x w h with h | h
     ·exact hw w h
     ·exact .inr (.bound hv hi h)
  | false =>
   rw[if_neg (by simp[hv])]at h
   have key:∀ (l:List Term)(m:List A9),(∀ a∈l,a∈t.args)->w∈l.foldl (Ch s n) m->w∈m\/QA s w t:=by
    intro l
    induction l with
    | nil=>intro m _ h;exact .inl h
    | cons a l ih =>
     intro m hl h
     rcases ih _ (fun b hb=>hl b (by simp[hb])) h with h | h
     ·rcases Q6 n m a w h with h | h
      ·exact .inl h
      ·exact .inr (.arg hv (hl a (by simp)) h)
     ·exact .inr h
   exact key t.args met (fun _ h=>h) h
theorem S9 {s:List A7}{σ:EP}{rk:A9->Nat}(hu:Gq s σ rk){v:A9}:∀ (n:Nat)(met:List A9)(t:Term)(R:Nat),Gn s n t->vfl t=true->(∀ u,CI u t=true->rk u<R)->(∀ w∈met,¬ QA s v (C6 w)\/R<=rk w)->v∉Ch s n met t ->
  ¬ QA s v t/\∀ w∈Ch s n met t,w∈met\/¬ QA s v (C6 w)
 | 0,met,t,R,h,_,_,_,_=>h.elim
 | n+1,met,t,R,hn,ht,hR,hσ,h=>by
  simp only[Gn]at hn
  unfold Ch at h ⊢
  cases hv:t.var with
  | true =>
   rw[if_pos hv]at h hn
   rw[if_pos rfl]
   have hocc:CI t.name t=true:=AE.2 (.inl ⟨hv,rfl⟩)
   have htv:=Rg ht hv
   by_cases hg:t.name∈met
   ·rw[if_pos hg]
    rcases hσ _ hg with h1 | h1
    ·exact⟨by rw[htv];exact h1,fun w hw=>.inl hw⟩
    ·have:=hR _ hocc;omega
   ·rw[if_neg hg]at h ⊢
    cases hi:Af s t.name with
    | none =>
     rw[hi]at h
     have hz:t.name≠v:=fun e=>h (by simp[e])
     have h3:¬ QA s v t:=fun ho=>by
      cases ho with
      | here _ h2=>exact hz h2
      | bound _ h2 _=>rw[hi]at h2;cases h2
      | arg h1 _ _=>rw[hv]at h1;cases h1
     refine⟨h3,fun w hw=>?_⟩
     rcases List.mem_append.1 hw with hw | hw
     ·exact .inl hw
     ·rw[List.mem_singleton.1 hw];rw[htv]at h3;exact .inr h3
    | some x =>
     rw[hi]at h
     simp only at h ⊢
     have hz:t.name≠v:=fun e=>h (R4 n _ x v (by simp[e]))
     obtain⟨h1,h2⟩:=S9 hu n (met++[t.name]) x (rk t.name) (hn x hi) (hu.vf _ _ hi) (hu.low _ _ hi) (fun w hw=>by
      rcases List.mem_append.1 hw with hw | hw
      ·rcases hσ w hw with h3 | h3
       ·exact .inl h3
       ·exact .inr (by have:=hR _ hocc;omega)
      ·rw[List.mem_singleton.1 hw];exact .inr (Nat.le_refl _)) h
     have h3:=VP hz hi h1
     refine⟨by rw[htv];exact h3,fun w hw=>?_⟩
     rcases h2 w hw with h4 | h4
     ·rcases List.mem_append.1 h4 with h5 | h5
      ·exact .inl h5
      ·rw[List.mem_singleton.1 h5];exact .inr h3
     ·exact .inr h4
  | false =>
   rw[if_neg (by simp[hv])]at h hn
   rw[if_neg (by simp)]
   have key:∀ (l:List Term)(m:List A9),(∀ a∈l,a∈t.args)->(∀ w∈m,w∈met\/¬ QA s v (C6 w))->v∉l.foldl (Ch s n) m->(∀ a∈l,¬ QA s v a)/\∀ w∈l.foldl (Ch s n) m,w∈met\/¬ QA s v (C6 w):=by
    intro l
    induction l with
    | nil=>intro m _ hm _;exact⟨by simp,hm⟩
    | cons a l ih =>
     intro m hl hm h
     have hva:v∉Ch s n m a:=fun h2=>h (TE (P:=fun m=>v∈m) l _ h2 fun b hb m hm=>R4 n m b v hm)
     obtain⟨h3,h4⟩:=S9 hu n m a R (hn a (hl a (by simp))) (BS ht (hl a (by simp))) (fun u hu'=>hR u (AE.2 (.inr ⟨a,hl a (by simp),hu'⟩))) (fun w hw=>by
      rcases hm w hw with h5 | h5
      ·exact hσ w h5
      ·exact .inl h5) hva
     obtain⟨h5,h6⟩:=ih _ (fun b hb=>hl b (by simp[hb])) (fun w hw=>by
      rcases h4 w hw with h7 | h7
      ·exact hm w h7
      ·exact .inr h7) h
     exact⟨fun b hb=>by rcases List.mem_cons.1 hb with rfl | hb;exact h3;exact h5 b hb,h6⟩
   obtain⟨h1,h2⟩:=key t.args met (fun _ h=>h) (fun w hw=>.inl hw) h
   refine⟨fun ho=>?_,h2⟩
   cases ho with
   | here h3 _=>rw[hv]at h3;cases h3
   | bound h3 _ _=>rw[hv]at h3;cases h3
   | arg _ h3 h4=>exact h1 _ h3 h4
theorem rv {s:List A7}{σ:EP}{rk:A9->Nat}(hu:Gq s σ rk){v:A9}{n:Nat}{t:Term}(hn:Gn s n t)(ht:vfl t=true):v∈Ch s n [] t↔QA s v t:=by
 constructor
 ·intro h
  rcases Q6 n [] t v h with h | h
  ·cases h
  ·exact h
 ·intro ho
  obtain⟨M,hM⟩:=Z4 rk t
  by_cases h:v∈Ch s n [] t
  ·exact h
  ·exact absurd ho (S9 hu n [] t (M+1) hn ht (fun u h=>by have:=hM u h;omega) (fun w hw=>by cases hw) h).1
theorem Aa0 (o o':Ob)(D:List Ob)(h:A6 (C5 [0] (D.length+1)) o'=o'):takeB [0] (o::D) [o']=o'::D:=by
 apply List.ext_getElem?
 intro i
 rw[DW (by simp)]
 match i with
 | 0=>rw[if_pos (by simp)];show some (A6 _ o')=some _;rw[List.length_cons,h]
 | i+1 =>
  have hp:Az [0] (i+1)=none:=by simp[Az,List.findIdx?_cons]
  by_cases h:i<D.length
  ·rw[if_pos (by simp;omega),hp]
   simp[List.getD_eq_getElem?_getD,h]
  ·rw[if_neg (by simp;omega)]
   have e1:(o'::D)[i+1]?=none:=List.getElem?_eq_none (by simp;omega)
   have e2:([o']:List Ob)[[0].length+(i+1-(o::D).length)]?=none:=List.getElem?_eq_none (by simp)
   rw[e1,e2];rfl
abbrev mR (l:List A9):Ob:=.arr Cf 1 l.length
theorem UG {B:Nat}(hB:B=0\/B=1){rs:List RV}{t:T}{R:List A9}{D:List Ob}{Q:V->List Ob->Prop}(hr:Uh rs t (mR R::D)=some (Bf cS 0 1 R))(hq:Q (Bf cS 0 1 R) [mR R]):Bo B rs Q .ret t (mR R::D):=by
 rcases hB with rfl | rfl
 ·refine Tm 0 hr rfl ?_
  have h0:Az [0] 0=some 0:=rfl
  push_cast[h0]
  exact hq
 ·refine Ap (n:=1) (H:=[mR R]) (J:=D) ⟨rfl,rfl⟩ hr ?_
  have h0:AM 1 0=some 0:=rfl
  push_cast[h0]
  exact hq
theorem dm {N:Nat->C}{B:Nat}{k:List K}{t:T}{Q:X->T->List Ob->Prop}{dd:Option Nat}{l:List S}{f:Nat}{a b:V}{m m':List A9}{D:List Ob}(ha:∀ σ,ren σ a=a)(hb:∀ σ,ren σ b=b)
  (h:Spec prog f [a,b,Bf cS 0 1 m] [mR m] fun x' H'=>x'=Bf cS 0 1 m'/\H'=[mR m']) (k':Ax prog N B (.r l::k) (FZ dd (Bf cS 0 1 m') t) (mR m'::D) Q):BD prog N B dd l k t Q (.func f) [a,b,Bf cS 0 1 m] (mR m::D):=by
 have h0:Az [0] 0=some 0:=rfl
 have h1:∀ n,C5 [0] n 0=some 0:=fun _=>rfl
 refine BD.some [0] (by simp) (by simp) (R:=fun x' H'=>x'=Bf cS 0 1 m'/\H'=[mR m']) ?_ ?_
 ·have e:give [0] (mR m::D)=[mR m]:=rfl
  rw[e]
  push_cast[h0,ha,hb]
  exact h
 ·rintro x' H' ⟨rfl,rfl⟩ _
  rw[Aa0 _ _ _ rfl]
  push_cast[h1]
  exact k'
theorem fV {s:List A7}{Vs:List A9}(hs:∀ v t,Af s v=some t->C3 Vs t/\v∈Vs)(hl:s.length<2^62)(hVs:Vs.length<2^30)(hwb:WB s):∀ (n:Nat)(t:Term)(met:List A9),Gn s n t->C3 Vs t->Dn t<2^40->met.Nodup->(∀ w∈met,w∈Vs) ->
  ∀ (V2:V)(H0:List Ob),((V2=.nil/\H0=[]/\met=[])\/(V2=Bf cS 0 1 met/\H0=[mR met]))->Spec prog Kc [Bm s,An t,V2] H0 fun x H'=>x=Bf cS 0 1 (Ch s n met t)/\H'=[mR (Ch s n met t)]:=by
 intro n
 induction n with
 | zero=>intro t met h;exact h.elim
 | succ n ih =>
  intro t met hn ht hw hnd hmV V2 H0 hcase
  have hml:met.length<=Vs.length:=hnd.length_le_of_subset hmV
  have hB:H0.length=0\/H0.length=1:=by rcases hcase with ⟨_,rfl,_⟩|⟨_,rfl⟩<;>simp
  have hrb:∀ σ:Nat->Option Nat,ren σ (Bm s)=Bm s:=fun σ=>by push_cast
  have hrt:∀ (t:Term)(σ:Nat->Option Nat),ren σ (An t)=An t:=fun t σ=>by push_cast
  simp only[Gn]at hn
  refine AK mixed Hh.ok rfl ?_
  unfold Ch
  generalize hLen:H0.length=B at hB
  have start:Ax prog Hh.nd B [.c Hh.body] (vr 0 [Bm s,An t,V2]) H0 (Bo B Hh.rs fun x H'=>x=Bf cS 0 1 (if t.var then (if t.name∈met then met else match Af s t.name with
   | none=>met++[t.name]
   | some x=>Ch s n (met++[t.name]) x)
  else t.args.foldl (Ch s n) met)/\H'=[mR (if t.var then (if t.name∈met then met else match Af s t.name with
   | none=>met++[t.name]
   | some x=>Ch s n (met++[t.name]) x)
  else t.args.foldl (Ch s n) met)]):=by
   cases hv:t.var with
   | true =>
    rw[if_pos hv]at hn
    rw[if_pos rfl]
    have hH:=UR met t.name (by omega)
    by_cases hm:t.name∈met
    ·rw[if_pos hm]
     rw[Ve hm]at hH
     rcases hcase with ⟨rfl,rfl,rfl⟩|⟨rfl,rfl⟩
     ·cases hm
     ·have e:(Bf cS 0 1 met:V)=.own 0 1 (met.map cS):=rfl
      rw[e]
      push_cast[hv]
      refine .of hH ?_
      push_cast
      exact UG hB rfl ⟨rfl,rfl⟩
    ·rw[if_neg hm]
     rw[Sz hm]at hH
     have hnd2:(met++[t.name]).Nodup:=by
      rw[List.nodup_append]
      refine⟨hnd,by simp,fun a ha b hb e=>?_⟩
      rw[List.mem_singleton.1 hb]at e
      exact hm (e▸ha)
     have hmV2:∀ w∈met++[t.name],w∈Vs:=fun w hw=>by
      rcases List.mem_append.1 hw with h | h
      ·exact hmV w h
      ·rw[List.mem_singleton.1 h];exact ht.2 _ (AE.2 (.inl ⟨hv,rfl⟩))
     have hBd:=VT s t.name hl
     have hIm:=My s t.name hl
     cases hi:Af s t.name with
     | none =>
      rw[WS hi]at hBd
      have hroom:=Uz (show met.length<2^40 by omega) (show 16<=64 by omega)
      rcases hcase with ⟨rfl,rfl,rfl⟩|⟨rfl,rfl⟩
      ·push_cast[hv]
       refine .of hH ?_
       have hroom0:1*16<=Ah:=by unfold Ah;decide
       push_cast[hroom0]
       refine .of hBd ?_
       push_cast
       exact UG (R:=[t.name]) hB rfl ⟨rfl,rfl⟩
      ·have e:(Bf cS 0 1 met:V)=.own 0 1 (met.map cS):=rfl
       rw[e]
       push_cast[hv]
       refine .of hH ?_
       push_cast[bV,hroom,List.length_map]
       refine .of hBd ?_
       push_cast
       have hlen2:met.length+1=(met++[t.name]).length:=by simp
       rw[hlen2]
       exact UG hB rfl ⟨rfl,rfl⟩
     | some x =>
      rw[WY hi]at hBd
      rw[hi]at hIm
      have hc:=ih x (met++[t.name]) (hn x hi) (hs _ _ hi).1 (hwb _ _ hi) hnd2 hmV2 _ _ (.inr ⟨rfl,rfl⟩)
      have hroom:=Uz (show met.length<2^40 by omega) (show 16<=64 by omega)
      rcases hcase with ⟨rfl,rfl,rfl⟩|⟨rfl,rfl⟩
      ·push_cast[hv]
       refine .of hH ?_
       have hroom0:1*16<=Ah:=by unfold Ah;decide
       push_cast[hroom0]
       refine .of hBd ?_
       push_cast
       refine .of hIm ?_
       push_cast
       refine dm (m:=[t.name]) (D:=[]) hrb (hrt x) hc ?_
       push_cast
       exact UG hB rfl ⟨rfl,rfl⟩
      ·have e:(Bf cS 0 1 met:V)=.own 0 1 (met.map cS):=rfl
       rw[e]
       push_cast[hv]
       refine .of hH ?_
       push_cast[bV,hroom,List.length_map]
       refine .of hBd ?_
       push_cast
       refine .of hIm ?_
       push_cast
       have hlen2:met.length+1=(met++[t.name]).length:=by simp
       rw[hlen2]
       refine dm (D:=[]) hrb (hrt x) hc ?_
       push_cast
       exact UG hB rfl ⟨rfl,rfl⟩
   | false =>
    rw[if_neg (by simp[hv])]at hn
    rw[if_neg (by simp)]
    have hwa:=Ek t
    have body:∀ (B:Nat)(hB:B=0\/B=1)(D:List Ob),Hh.L3 (Bm s) (Bf cS 0 1 met) (Bk t.args) (.int .i64 t.args.length) (.int .i64 0) B (mR met::D) (Bo B Hh.rs fun x H'=>x=Bf cS 0 1 (t.args.foldl (Ch s n) met)/\H'=[mR (t.args.foldl (Ch s n) met)]):=by
     intro B hB D
     refine Ac (n:=t.args.length) (R:=fun k=>∀ (m:List A9)(D:List Ob),m.Nodup->(∀ w∈m,w∈Vs)->(t.args.drop k).foldl (Ch s n) m=t.args.foldl (Ch s n) met->Hh.L3 (Bm s) (Bf cS 0 1 m) (Bk t.args) (.int .i64 t.args.length) (.int .i64 k) B (mR m::D) (Bo B Hh.rs fun x H'=>x=Bf cS 0 1 (t.args.foldl (Ch s n) met)/\H'=[mR (t.args.foldl (Ch s n) met)])) ?_ ?_ 0 (Nat.zero_le _) met D hnd hmV rfl
     ·intro k hk ih2 m D hm1 hm2 he
      have hme:=A4 hk
      rw[Ag hk]at he
      simp only[List.foldl_cons]at he
      have hc:=ih (t.args.getD k default) m (hn _ hme) (ht.arg hme) (EC hw hme) hm1 hm2 _ _ (.inr ⟨rfl,rfl⟩)
      have hkp:=OL hs n m (t.args.getD k default) (ht.arg hme) hm1 hm2
      have g1:∀ x:Ob,(D++[x])[D.length]?=some x:=fun x=>by simp
      have g2:∀ x y:Ob,(D++[x]).set D.length y=D++[y]:=fun x y=>by simp
      refine A5.2 ?_
      push_cast[BC hk,g1,g2]
      refine dm (D:=D++[_]) hrb (hrt _) hc ?_
      push_cast[CD (show k<2^62 by omega)]
      have:=ih2 _ (D++[.dead]) hkp.1 hkp.2 he
      push_cast at this
      exact this
     ·intro m D hm1 hm2 he
      rw[Ak]at he
      simp only[List.foldl_nil]at he
      refine A5.2 ?_
      push_cast[AZ (Nat.le_refl _)]
      rw[<-he]
      exact UG hB rfl ⟨rfl,rfl⟩
    rcases hcase with ⟨rfl,rfl,rfl⟩|⟨rfl,rfl⟩
    ·push_cast[hv]
     exact body B hB []
    ·have e:(Bf cS 0 1 met:V)=.own 0 1 (met.map cS):=rfl
     rw[e]
     push_cast[hv]
     exact body B hB []
  exact start
end Go.Dw
section
namespace Go.Dw
def cK (k:QE):List V:=[.str k.1,.str k.2]
theorem lE {σ:Nat->Option Nat}(k:QE):AS σ (cK k)=cK k:=rfl
abbrev dnO (dn:List QE):Ob:=.arr Ff 2 dn.length
abbrev ll (s:List A7)(dn:List QE)(J:List Ob):List Ob:=.cells D2 [Bm s,Bf cK 1 2 dn]::dnO dn::J
abbrev rH (s:List A7)(dn:List QE):List Ob:=ll s dn []
theorem Gj (s:List A7)(dn:List QE):Je 2 (rH s dn):=⟨rfl,by
 show [A6 (AM 2) (.cells D2 [Bm s,Bf cK 1 2 dn]),A6 (AM 2) (dnO dn)]=_
 have h1:AM 2 1=some 1:=rfl
 push_cast[h1]⟩
theorem yT (s:List A7)(dn:List QE)(J:List Ob):give [0,1] (ll s dn J)=rH s dn:=by
 show [A6 (Az [0,1]) (.cells D2 [Bm s,Bf cK 1 2 dn]),A6 (Az [0,1]) (dnO dn)]=_
 have h1:Az [0,1] 1=some 1:=rfl
 push_cast[h1]
theorem zk (s s':List A7)(dn dn':List QE)(J:List Ob):takeB [0,1] (ll s dn J) (rH s' dn')=ll s' dn' J:=by
 apply List.ext_getElem?
 intro i
 rw[DW (by simp)]
 have h1:∀ n,C5 [0,1] n 1=some 1:=fun _=>rfl
 match i with
 | 0=>rw[if_pos (by simp)];show some (A6 _ (.cells D2 [Bm s',Bf cK 1 2 dn']))=some _;push_cast[h1]
 | 1=>rw[if_pos (by simp)];rfl
 | i+2 =>
  have hp:Az [0,1] (i+2)=none:=by simp[Az,List.findIdx?_cons]
  by_cases h:i<J.length
  ·rw[if_pos (by simp;omega),hp]
   simp[List.getD_eq_getElem?_getD,h]
  ·rw[if_neg (by simp;omega)]
   have e1:(ll s' dn' J)[i+2]?=none:=List.getElem?_eq_none (by simp;omega)
   have e2:(rH s' dn')[[0,1].length+(i+2-(ll s dn J).length)]?=none:=List.getElem?_eq_none (by simp)
   rw[e1,e2];rfl
section
variable {N:Nat->C} {B:Nat} {k:List K} {t:T} {Q:X->T->List Ob->Prop} {dd:Option Nat} {l:List S} {f:Nat} {vs vs':List V} {s:List A7} {dn:List QE} {J:List Ob}
theorem R6 {R:V->List A7->List QE->Prop}(hv:AS (Az [0,1]) vs=vs')(h:Spec prog f vs' (rH s dn) fun x' H'=>∃ s' dn',R x' s' dn'/\H'=rH s' dn')(k':∀ x' s' dn',R x' s' dn'->Ax prog N B (.r l::k) (FZ dd (ren (C5 [0,1] (J.length+2)) x') t) (ll s' dn' J) Q):BD prog N B dd l k t Q (.func f) vs (ll s dn J):=by
 refine BD.some [0,1] (by simp) (by simp) (R:=fun x' H'=>∃ s' dn',R x' s' dn'/\H'=rH s' dn') (by rw[yT,hv];exact h) ?_
 rintro x' H' ⟨s',dn',hr,rfl⟩ _
 rw[zk];exact k' x' s' dn' hr
end
theorem AdO (x:QE)(a b:A9):kz false [true,true] (.agg [.str x.1,.str x.2]) (.agg [.str a,.str b])=some (.bool (decide (x=(a,b)))):=by
 have:=S0 x (a,b)
 unfold Pu at this
 unfold kz
 rw[if_pos (show vk [true,true] (.agg [.str x.1,.str x.2])=true from rfl),this];rfl
theorem ib (s:List A7)(dn:List QE)(hd:dn.length<2^62)(a b:A9):Spec prog HR [.ptr 0 0,.str a,.str b] (rH s dn) fun x H'=>x=.bool (decide ((a,b)∈dn))/\H'=rH s dn:=by
 refine AK mixed GZ.ok rfl ?_
 push_cast
 refine Ac (n:=dn.length) (R:=fun k=>decide ((a,b)∈dn.drop k)=decide ((a,b)∈dn)->GZ.L3 (.str a) (.str b) (Bf cK 1 2 dn) (.int .i64 dn.length) (.int .i64 k) 2 (rH s dn) (Bo 2 GZ.rs fun x H'=>x=.bool (decide ((a,b)∈dn))/\H'=rH s dn)) ?_ ?_ 0 (Nat.zero_le _) rfl
 ·intro k hk ih he
  rw[Ag hk]at he
  refine A5.2 ?_
  generalize hx:dn.getD k default=x at he
  have e4:∀ x:QE,kz false [true,true] (.agg (cK x)) (.agg [.str a,.str b])=some (.bool (decide (x=(a,b)))):=fun x=>AdO x a b
  have e1:∀ x:QE,sub 0 2 (cK x)=cK x:=fun x=>rfl
  have e2:∀ x:QE,(cK x).length=2:=fun x=>rfl
  by_cases h:x=(a,b)
  ·have ht:decide ((a,b)∈dn)=true:=by rw[<-he];simp[h]
   rw[ht]
   push_cast[BC hk,hx,e1,e2,lE,e4,h]
   exact Ap (H:=rH s dn) (J:=[_]) (Gj s dn) rfl ⟨rfl,rfl⟩
  ·have h':(a,b)≠x:=fun e=>h e.symm
   have:=ih (by rw[<-he];simp[h'])
   push_cast[BC hk,hx,e1,e2,lE,e4,h,CD (show k<2^62 by omega)]
   push_cast at this
   exact this
 ·intro he
  rw[Ak]at he
  refine A5.2 ?_
  push_cast[AZ (Nat.le_refl _)]
  exact Ap (H:=rH s dn) (J:=[]) (Gj s dn) rfl ⟨by rw[<-he];rfl,rfl⟩
structure NOk (s:List A7) (Vs:List A9):Prop where
 am:∀ v t,Af s v=some t->C3 Vs t/\v∈Vs
 vs:Vs.length<2^18
 nm:∀ v∈Vs,v.length<2^62
theorem XT {s:List A7}{σ:EP}{rk:A9->Nat}{Vs:List A9}(hu:Gq s σ rk)(hN:NOk s Vs)(hwb:WB s)(dn:List QE)(v:A9)(t:Term)(hv:v∈Vs)(ht:C3 Vs t)(hw:Dn t<2^40) :
  Spec prog Gf [.ptr 0 0,.str v,An t] (rH s dn) fun x H'=>∃ s' dn',(x=.bool (LN s v t).2/\s'=(LN s v t).1/\dn'=dn)/\H'=rH s' dn':=by
 obtain⟨n,hn⟩:=hu.need t
 have hlen:=I4 hu.srt hN.am
 have hvs:=hN.vs
 have hR:=fV hN.am (by omega) (by omega) hwb n t [] hn ht hw List.nodup_nil (by simp) _ _ (.inl ⟨rfl,rfl,rfl⟩)
 have hk:=OL hN.am n [] t ht List.nodup_nil (by simp)
 have hRl:(Ch s n [] t).length<=Vs.length:=hk.1.length_le_of_subset hk.2
 have hq:=rv hu (v:=v) hn ht.1
 generalize Ch s n [] t=R at hR hRl hq
 have hH:=UR R v (by omega)
 have hW:=jK s v t (by omega) (fun b hb=>hN.nm _ (hN.am _ _ (Fx hu.srt hb)).2) (hN.nm v hv)
 refine AK mixed Pm.ok rfl ?_
 push_cast
 refine BD.some [] (by simp) (by simp) (R:=fun x' H'=>x'=Bf cS 0 1 R/\H'=[mR R]) ?_ ?_
 ·push_cast
  exact hR
 rintro x' H' ⟨rfl,rfl⟩ _
 have hT:takeB [] (rH s dn) [mR R]=ll s dn [mR R]:=rfl
 have h0:∀ n,C5 [] n 0=some n:=fun n=>rfl
 rw[hT]
 push_cast[h0]
 refine .of hH ?_
 rcases M0 s v t with ⟨ho,e⟩|⟨ho,e⟩
 ·rw[e,Ve (hq.2 ho)]
  push_cast
  exact Ap (H:=rH s dn) (J:=[_]) (Gj s dn) rfl ⟨s,dn,⟨rfl,rfl,rfl⟩,rfl⟩
 ·rw[e,Sz (fun h=>ho (hq.1 h))]
  push_cast
  refine .of hW ?_
  push_cast
  exact Ap (H:=rH (Gh s v t) dn) (J:=[_]) (Gj _ dn) rfl ⟨Gh s v t,dn,⟨rfl,rfl,rfl⟩,rfl⟩
def nG (Vs:List A9)(dn:List QE)(a:Term)(r:List A7×Bool)(x:V)(s':List A7)(dn':List QE):Prop:=x=.bool r.2/\(r.2=true->s'=r.1/\dn'.Nodup/\(∀ k∈dn',k.1∈Vs/\k.2∈Vs)/\∀ k∈dn',k∈dn\/(Qx r.1 k/\∀ θ,Ud θ r.1->size (θ k.1)<=size (app θ a)))
theorem NOk.solve {s:List A7}{Vs:List A9}(h:NOk s Vs){n:Nat}{a b:Term}{r:List A7×Bool}(ha:C3 Vs a)(hb:C3 Vs b)(hr:B5 n s a b=some r):NOk r.1 Vs :=
 ⟨M7 h.am ha hb hr,h.vs,h.nm⟩
theorem YK {Vs:List A9}{dn:List QE}(h:dn.Nodup)(hv:∀ k∈dn,k.1∈Vs/\k.2∈Vs):dn.length<=Vs.length*Vs.length:=by
 have h1:=h.length_le_of_subset (l₂:=Vs.flatMap fun a=>Vs.map fun b=>(a,b)) fun k hk=>by
  obtain⟨h1,h2⟩:=hv k hk
  exact List.mem_flatMap.2 ⟨k.1,h1,List.mem_map.2 ⟨k.2,h2,rfl⟩⟩
 have h2:(Vs.flatMap fun a=>Vs.map fun b=>(a,b)).length=Vs.length*Vs.length:=by
  rw[List.length_flatMap]
  simp[List.map_const',List.sum_replicate_nat]
 omega
end Go.Dw
end
namespace Go.Dw
theorem eE {Vs:List A9}:∀ (n:Nat)(s:List A7)(σ:EP)(rk:A9->Nat)(dn:List QE)(a b:Term)(r:List A7×Bool),Gq s σ rk->NOk s Vs->WB s->C3 Vs a->C3 Vs b->Dn a<2^40->Dn b<2^40->B5 n s a b=some r ->
  (∀ k∈dn,Qx s k)->dn.Nodup->(∀ k∈dn,k.1∈Vs/\k.2∈Vs)->Spec prog Fs [.ptr 0 0,An a,An b] (rH s dn) fun x H'=>∃ s' dn',nG Vs dn a r x s' dn'/\H'=rH s' dn':=by
 intro n
 induction n with
 | zero=>intro s σ rk dn a b r _ _ _ _ _ _ _ h;cases h
 | succ n ih =>
  intro s σ rk dn a b r hu hN hwb ha hb hwa hwb2 hr hd hdn hdV
  have hvs:=hN.vs
  have hlen:=I4 hu.srt hN.am
  have hsq:Vs.length*Vs.length<=2^18*2^18:=Nat.mul_le_mul (by omega) (by omega)
  have hdl:=YK hdn hdV
  obtain⟨σ1,rk1,hok⟩:=FW (n+1) s σ rk a b r hu ha.1 hb.1 hr
  have p0:Az [0,1] 0=some 0:=rfl
  have p1:Az [0,1] 1=some 1:=rfl
  have rest2:∀ (T:T)(both:Bool),(a.var&&b.var)=both->(both=true->(a.name,b.name)∉dn)->lk T 0=.ptr 0 0->lk T 4=.ptr 2 0->lk T 5=.ptr 3 0->lk T 7=.ro [.str a.name,.str b.name] 0->lk T 8=.bool both ->
    Ax prog BT.nd 2 [.c (.n 6)] T (ll s dn [.cells A3 (cT a),.cells A3 (cT b),.dead]) (Bo 2 BT.rs fun x H'=>∃ s' dn',nG Vs dn a r x s' dn'/\H'=rH s' dn'):=by
   intro T both hbo hkey h0 h4 h5 h7 h8
   obtain⟨x,y,hx,hy,hc⟩:=K4 hr
   have hxv:C3 Vs x:=Ca (P:=fun t=>C3 Vs t) (fun v t h=>(hN.am v t h).1) ha hx
   have hyv:C3 Vs y:=Ca (P:=fun t=>C3 Vs t) (fun v t h=>(hN.am v t h).1) hb hy
   have hxw:Dn x<2^40:=Ca (P:=fun t=>Dn t<2^40) hwb hwa hx
   have hyw:Dn y<2^40:=Ca (P:=fun t=>Dn t<2^40) hwb hwb2 hy
   have hxs:∀ θ,Ud θ s->app θ x=app θ a:=fun θ hθ=>ID hθ hx
   have hA:=St (s:=s) (by omega) (n+1) a x hx
   have hB:=St (s:=s) (by omega) (n+1) b y hy
   have hlx:=Ek x
   have hly:=Ek y
   have same:∀ x':V,r.1=s->x'=.bool r.2->nG Vs dn a r x' s dn:=fun x' h e=>⟨e,fun _=>⟨h.symm,hdn,hdV,fun k hk=>.inl hk⟩⟩
   push_cast[h0,h4,h5]
   refine .of hA ?_
   push_cast[h0,h4,h5]
   refine .of hB ?_
   have fin:∀ (v:A9)(t:Term),r=LN s v t->∀ (x':V)(s':List A7)(dn':List QE),(x'=.bool (LN s v t).2/\s'=(LN s v t).1/\dn'=dn)->nG Vs dn a r x' s' dn':=by
    rintro v t rfl x' s' dn' ⟨rfl,rfl,rfl⟩
    exact⟨rfl,fun _=>⟨rfl,hdn,hdV,fun k hk=>.inl hk⟩⟩
   rcases hc with ⟨c1,c2,c3,c6⟩|⟨c1,c2,c6⟩|⟨c1,c2,c6⟩|⟨c1,c2,c3,c6⟩|⟨c1,c2,c3,c4,c5⟩
   ·push_cast[h0,h4,h5,c1,c2,c3]
    exact Ap (H:=rH s dn) (J:=[_,_,_]) (Gj s dn) rfl ⟨s,dn,same _ (by rw[c6]) (by rw[c6];rfl),rfl⟩
   ·have hS:=XT hu hN hwb dn x.name y (hxv.2 _ (AE.2 (.inl ⟨c1,rfl⟩))) hyv hyw
    by_cases c3:y.var=true
    ·have c4:x.name≠y.name:=fun e=>c2 ⟨c3,e⟩
     push_cast[h0,h4,h5,c1,c3,c4]
     refine R6 (J:=[_,_,_]) (by push_cast[p0]) hS ?_
     intro x' s' dn' hR
     have hf:=fin x.name y c6 x' s' dn' hR
     obtain⟨rfl,_,_⟩:=hR
     push_cast
     exact Ap (H:=rH s' dn') (J:=[_,_,_]) (Gj s' dn') rfl ⟨s',dn',hf,rfl⟩
    ·have c3:y.var=false:=by simpa using c3
     push_cast[h0,h4,h5,c1,c3]
     refine R6 (J:=[_,_,_]) (by push_cast[p0]) hS ?_
     intro x' s' dn' hR
     have hf:=fin x.name y c6 x' s' dn' hR
     obtain⟨rfl,_,_⟩:=hR
     push_cast
     exact Ap (H:=rH s' dn') (J:=[_,_,_]) (Gj s' dn') rfl ⟨s',dn',hf,rfl⟩
   ·have hS:=XT hu hN hwb dn y.name x (hyv.2 _ (AE.2 (.inl ⟨c2,rfl⟩))) hxv hxw
    push_cast[h0,h4,h5,c1,c2]
    refine R6 (J:=[_,_,_]) (by push_cast[p0]) hS ?_
    intro x' s' dn' hR
    have hf:=fin y.name x c6 x' s' dn' hR
    obtain⟨rfl,_,_⟩:=hR
    push_cast
    exact Ap (H:=rH s' dn') (J:=[_,_,_]) (Gj s' dn') rfl ⟨s',dn',hf,rfl⟩
   ·by_cases hn:x.name=y.name
    ·have hlen:((x.args.length:Int)=(y.args.length:Int))=False:=eq_false (by rcases c3 with h | h;exact absurd hn h;omega)
     push_cast[h0,h4,h5,c1,c2,hn,hlen]
     exact Ap (H:=rH s dn) (J:=[_,_,_]) (Gj s dn) rfl ⟨s,dn,same _ (by rw[c6]) (by rw[c6];rfl),rfl⟩
    ·push_cast[h0,h4,h5,c1,c2,hn]
     exact Ap (H:=rH s dn) (J:=[_,_,_]) (Gj s dn) rfl ⟨s,dn,same _ (by rw[c6]) (by rw[c6];rfl),rfl⟩
   ·have hlen2:((x.args.length:Int)=(y.args.length:Int))=True:=eq_true (by omega)
    push_cast[h0,h4,h5,h7,h8,c1,c2,c3,hlen2]
    have hsx:∀ θ,Ud θ s->∀ c∈x.args,size (app θ c)<size (app θ a):=fun θ hθ c hc=>by
     rw[<-hxs θ hθ,Bg c1]
     have h2:size (Term.mk x.name false (x.args.map (app θ)))=1+Ae (x.args.map (app θ)):=rfl
     have h3:=By (List.mem_map_of_mem (f:=app θ) hc)
     omega
    refine Ac (n:=x.args.length) (R:=fun k=>∀ (s':List A7)(σ':EP)(rk':A9->Nat)(dn':List QE),Gq s' σ' rk'->NOk s' Vs->WB s'->(∀ θ,Ud θ s'->Ud θ s)->dn'.Nodup->(∀ k∈dn',k.1∈Vs/\k.2∈Vs)->(∀ k∈dn',k∈dn\/(Qx s' k/\∀ θ,Ud θ s'->size (θ k.1)<size (app θ a)))->AF (B5 n) s' (x.args.drop k) (y.args.drop k)=some r ->
     BT.L4 (.ptr 0 0) (.ptr 2 0) (.ptr 3 0) (.ro [.str a.name,.str b.name] 0) (.bool both) (.int .i64 x.args.length) (.int .i64 k) 2 (ll s' dn' [.cells A3 (cT x),.cells A3 (cT y),.dead]) (Bo 2 BT.rs fun x H'=>∃ s' dn',nG Vs dn a r x s' dn'/\H'=rH s' dn')) ?_ ?_ 0 (by omega) s σ rk dn hu hN hwb (fun _ h=>h) hdn hdV (fun k hk=>.inl hk) c5
    ·intro k hk ih2 s' σ' rk' dn' hu' hN' hwb' hsat hdn' hdV' hkeys hsol
     have hk2:k<y.args.length:=by omega
     have hmx:=A4 hk
     have hmy:=A4 hk2
     rw[Ag hk,Ag hk2]at hsol
     generalize hc:x.args.getD k default=c at hmx hsol
     generalize he:y.args.getD k default=e at hmy hsol
     simp only[AF]at hsol
     cases hf:B5 n s' c e with
     | none=>rw[hf]at hsol;cases hsol
     | some p =>
      obtain⟨s1,ok⟩:=p
      rw[hf]at hsol
      have hcall:=ih s' σ' rk' dn' c e (s1,ok) hu' hN' hwb' (hxv.arg hmx) (hyv.arg hmy) (EC hxw hmx) (EC hyw hmy) hf (fun k hk=>by
       rcases hkeys k hk with h | h
       ·exact fun θ hθ=>hd k h θ (hsat θ hθ)
       ·exact h.1) hdn' hdV'
      obtain⟨σ2,rk2,hok2⟩:=FW n s' σ' rk' c e (s1,ok) hu' (hxv.arg hmx).1 (hyv.arg hmy).1 hf
      refine A5.2 ?_
      push_cast[BC hk,BC hk2,hc,he]
      refine R6 (J:=[_,_,_]) (by push_cast[p0]) hcall ?_
      intro x' s2 dn2 hR
      obtain⟨rfl,hR⟩:=hR
      cases ok with
      | false =>
       simp only[Option.some.injEq]at hsol
       push_cast
       exact Ap (H:=rH s2 dn2) (J:=[_,_,_]) (Gj s2 dn2) rfl ⟨s2,dn2,⟨by rw[<-hsol];rfl,fun h=>by rw[<-hsol]at h;cases h⟩,rfl⟩
      | true =>
       obtain⟨rfl,hm1,hm2,hm3⟩:=hR rfl
       push_cast[CD (show k<2^62 by omega)]
       have:=ih2 s2 σ2 rk2 dn2 hok2.ok (hN'.solve (hxv.arg hmx) (hyv.arg hmy) hf) (hwb'.solve (EC hxw hmx) (EC hyw hmy) hf) (fun θ hθ=>hsat θ (hθ.mono hok2.ext)) hm1 hm2 (fun k hk=>by
        rcases hm3 k hk with h | h
        ·rcases hkeys k h with h | h
         ·exact .inl h
         ·exact .inr ⟨fun θ hθ=>h.1 θ (hθ.mono hok2.ext),fun θ hθ=>h.2 θ (hθ.mono hok2.ext)⟩
        ·refine .inr ⟨h.1,fun θ hθ=>?_⟩
         have h1:=h.2 θ hθ
         have h2:=hsx θ (hsat θ (hθ.mono hok2.ext)) c hmx
         omega) hsol
       push_cast at this
       exact this
    ·intro s' σ' rk' dn' hu' hN' hwb' hsat hdn' hdV' hkeys hsol
     rw[Ak]at hsol
     simp only[AF,Option.some.injEq]at hsol
     subst hsol
     refine A5.2 ?_
     have hdl':=YK hdn' hdV'
     have hkeep:∀ k∈dn',k∈dn\/(Qx s' k/\∀ θ,Ud θ s'->size (θ k.1)<=size (app θ a)):=fun k hk=>by
      rcases hkeys k hk with h | h
      ·exact .inl h
      ·exact .inr ⟨h.1,fun θ hθ=>Nat.le_of_lt (h.2 θ hθ)⟩
     cases both with
     | false =>
      push_cast[AZ (Nat.le_refl _)]
      exact Ap (H:=rH s' dn') (J:=[_,_,_]) (Gj s' dn') rfl ⟨s',dn',⟨rfl,fun _=>⟨rfl,hdn',hdV',hkeep⟩⟩,rfl⟩
     | true =>
      rw[Bool.and_eq_true]at hbo
      have hroom:(dn'.length+1)*32<=Ah:=Uz (show dn'.length<2^40 by omega) (show 32<=64 by omega)
      have hown:∀ i,(.own i 2 (dn'.map cK++[[V.str a.name,V.str b.name]]):V)=Bf cK i 2 (dn'++[(a.name,b.name)]):=fun i=>by simp[Bf,cK]
      push_cast[AZ (Nat.le_refl _),hroom,hown]
      have hlen3:dn'.length+1=(dn'++[(a.name,b.name)]).length:=by simp
      rw[hlen3]
      have hdone:∀ θ,Ud θ s'->θ a.name=θ b.name:=fun θ hθ=>by
       have h4:=hok.eq rfl
       have h5:=hok.ok.sat_app hθ a
       have h6:=hok.ok.sat_app hθ b
       rw[h4,<-h6,Aw hbo.1,Aw hbo.2]at h5
       exact h5
      refine Ap (H:=rH s' (dn'++[(a.name,b.name)])) (J:=[_,_,_]) (Gj s' _) rfl ⟨s',_,⟨rfl,fun _=>⟨rfl,?_,fun k hk=>?_,fun k hk=>?_⟩⟩,rfl⟩
      ·rw[List.nodup_append]
       refine⟨hdn',by simp,fun k hk q hq e=>?_⟩
       rw[List.mem_singleton.1 hq]at e
       subst e
       rcases hkeys _ hk with h | h
       ·exact hkey rfl h
       ·have:=h.2 σ' hu'.sat
        rw[Aw hbo.1]at this
        exact absurd this (Nat.lt_irrefl _)
      ·rcases List.mem_append.1 hk with h | h
       ·exact hdV' k h
       ·rw[List.mem_singleton.1 h]
        exact⟨ha.2 _ (AE.2 (.inl ⟨hbo.1,rfl⟩)),hb.2 _ (AE.2 (.inl ⟨hbo.2,rfl⟩))⟩
      ·rcases List.mem_append.1 hk with h | h
       ·exact hkeep k h
       ·rw[List.mem_singleton.1 h]
        exact .inr ⟨hdone,fun θ hθ=>by rw[Aw hbo.1];exact Nat.le_refl _⟩
  have rest:∀ (T:T),lk T 0=.ptr 0 0->lk T 4=.ptr 2 0->lk T 5=.ptr 3 0->lk T 7=.ro [.str a.name,.str b.name] 0->lk T 8=.bool (a.var&&b.var) ->
    Ax prog BT.nd 2 [.c (.n 7)] T (ll s dn [.cells A3 (cT a),.cells A3 (cT b),.dead]) (Bo 2 BT.rs fun x H'=>∃ s' dn',nG Vs dn a r x s' dn'/\H'=rH s' dn'):=by
   intro T h0 h4 h5 h7 h8
   have hK:=ib s dn (by omega) a.name b.name
   have hK2:=Spec.mono hK (Q':=fun x' H'=>∃ s' dn',(x'=.bool (decide ((a.name,b.name)∈dn))/\s'=s/\dn'=dn)/\H'=rH s' dn') fun x' H' h=>⟨_,_,⟨h.1,rfl,rfl⟩,h.2⟩
   rw[tC]
   simp only[BT.nd]
   generalize hC:C.n 6=c6
   cases hbo:(a.var&&b.var)with
   | true =>
    rw[hbo]at h8
    push_cast[h0,h4,h5,h7,h8]
    refine R6 (J:=[_,_,_]) (by push_cast[p0]) hK2 ?_
    rintro x' s' dn' ⟨rfl,rfl,rfl⟩
    by_cases hm:(a.name,b.name)∈dn'
    ·push_cast[hm]
     rw[Bool.and_eq_true]at hbo
     have hrr:r=(s',true):=XD hu (n+1) a b r ha.1 hb.1 hr (by rw[Aw hbo.1,Aw hbo.2];exact hd _ hm σ hu.sat)
     exact Ap (H:=rH s' dn') (J:=[_,_,_]) (Gj s' dn') rfl ⟨s',dn',⟨by rw[hrr];rfl,fun _=>⟨by rw[hrr],hdn,hdV,fun k hk=>.inl hk⟩⟩,rfl⟩
    ·push_cast[hm]
     subst hC
     exact rest2 _ true hbo (fun _=>hm) h0 h4 h5 h7 h8
   | false =>
    rw[hbo]at h8
    push_cast[h0,h4,h5,h7,h8]
    subst hC
    exact rest2 _ false hbo (fun h=>by cases h) h0 h4 h5 h7 h8
  refine AK mixed BT.ok rfl ?_
  unfold BT.body
  generalize hC:C.n 7=c7
  cases hva:a.var with
  | false =>
   push_cast[hva]
   subst hC
   refine⟨⟨?_,?_,?_⟩,⟨?_,?_⟩,?_⟩<;>exact rest _ rfl rfl rfl rfl (by rw[hva];rfl)
  | true =>
   push_cast[hva]
   subst hC
   refine⟨⟨?_,?_,?_⟩,⟨?_,?_⟩,?_⟩<;>exact rest _ rfl rfl rfl rfl (by rw[hva];rfl)
theorem ZW {s:List A7}:∀ {k n:Nat} {t h:Term},E3 k s t=some h->Gn s n t->Gn s n h
 | 0,_,_,_,h,_=>by cases h
 | k+1,0,_,_,_,hn=>hn.elim
 | k+1,n+1,t,h,hh,hn=>by
  simp only[E3]at hh
  split at hh
  ·rename_i hv
   cases hi:Af s t.name with
   | none=>rw[hi]at hh;cases hh;exact hn
   | some y =>
    rw[hi]at hh
    simp only[Gn,if_pos hv]at hn
    exact (ZW hh (hn y hi)).mono (Nat.le_succ n)
  ·cases hh;exact hn
theorem Yu {s:List A7}:∀ (n:Nat)(t:Term),Gn s n t->∃ h,E3 n s t=some h
 | 0,_,h=>h.elim
 | n+1,t,h=>by
  simp only[Gn]at h
  simp only[E3]
  cases hv:t.var with
  | true =>
   rw[if_pos hv]at h
   rw[if_pos rfl]
   cases hi:Af s t.name with
   | none=>exact⟨t,rfl⟩
   | some x=>exact Yu n x (h x hi)
  | false=>exact⟨t,by simp⟩
theorem Zy {s:List A7}{σ:EP}{rk:A9->Nat}(hu:Gq s σ rk)(hl:s.length<2^62)(hwb:WB s):∀ (n:Nat)(t:Term),Gn s n t->vfl t=true->Dn t<2^40->PF JZ [Bm s,An t] (An (app σ t)):=by
 intro n
 induction n with
 | zero=>intro t h;exact h.elim
 | succ n ih =>
  intro t hn ht hw
  obtain⟨h,hh⟩:=Yu (n+1) t hn
  have hW:=St hl (n+1) t h hh
  have hhn:=ZW hh hn
  have hhv:vfl h=true:=Ca (P:=fun t=>vfl t=true) hu.vf ht hh
  have hhw:Dn h<2^40:=Ca (P:=fun t=>Dn t<2^40) hwb hw hh
  rw[<-ID hu.sat hh]
  have hfree:h.var=true->Af s h.name=none:=Eh hh
  clear hh hn
  refine Ab K7.ok rfl ?_
  push_cast
  refine .of hW ?_
  cases hv:h.var with
  | true =>
   have e:app σ h=h:=by rw[Aw hv,hu.free _ (hfree hv)];exact (Rg hhv hv).symm
   rw[e]
   push_cast[hv]
   exact A1 (by push_cast[K7.rs])
  | false =>
   simp only[Gn]at hhn
   rw[if_neg (by simp[hv])]at hhn
   rw[Bg hv]
   have hwa:=Ek h
   push_cast[hv]
   refine Ac (n:=h.args.length) (R:=fun k=>K7.L3 (Bm s) (.ptr 1 0) (.ptr 2 0) (Bk h.args) (.int .i64 h.args.length) (.int .i64 k) 0
    [.cells A3 (cT h),.cells A3 [.str [],.bool false,.sl 3 []],.cells A3 [.str h.name,.bool false,Bf cT 3 3 ((h.args.map (app σ)).take k)],.arr A3 3 k] _) ?_ ?_ 0 (by omega)
   ·intro k hk ih2
    have hme:=A4 hk
    have hk2:k<(h.args.map (app σ)).length:=by simpa using hk
    have hlt:((h.args.map (app σ)).take k).length=k:=by simp;omega
    have hge:(h.args.map (app σ)).getD k default=app σ (h.args.getD k default):=by
     simp[List.getD_eq_getElem?_getD,hk]
    have hc:=ih _ (hhn _ hme) (BS hhv hme) (EC hhw hme)
    rw[Aa hk2,hge]at ih2
    refine A5.2 ?_
    push_cast[BC hk]
    refine .of hc ?_
    push_cast[hlt,Uz (show k<2^40 by omega) (show 48<=64 by omega),CD (show k<2^62 by omega)]
    push_cast at ih2
    exact ih2
   ·refine A5.2 ?_
    push_cast[AZ (Nat.le_refl _)]
    rw[List.take_of_length_le (by simp)]
    refine A1 ?_
    push_cast[K7.rs]
    rw[An,P7];rfl
def Xi (n:Nat):List V:=[.int .i64 n]
theorem rt {σ:Nat->Option Nat}(l:List Nat):(l.map Xi).map (AS σ)=l.map Xi:=by rw[List.map_map];rfl
attribute [push_cast] rt
abbrev Hv (l:List Nat):Ob:=.row F1 1 (l.map Xi)
abbrev bf (sz dp:List Nat):List Ob:=[Hv sz,Hv dp]
theorem bS (sz dp:List Nat):Je 2 (bf sz dp):=⟨rfl,by
 show [A6 (AM 2) (Hv sz),A6 (AM 2) (Hv dp)]=_
 push_cast⟩
def W5:List A7->List Nat->List Nat->A9->Nat×Nat
 | b::s,x::sz,y::dp,v=>if b.name=v then (x,y) else W5 s sz dp v
 | _,_,_,_=>(1,1)
mutual
def P6 (f:A9->Nat×Nat):Term->Nat×Nat
 | .mk n v l=>if v then f n else ((JA f 1 0 l).1,min (JA f 1 0 l).2 200+1)
def JA (f:A9->Nat×Nat)(c e:Nat):List Term->Nat×Nat
 | []=>(c,e)
 | a::l=>JA f (min (c+(P6 f a).1) 4001) (max e (P6 f a).2) l
end
theorem YN (f:A9->Nat×Nat)(t:Term):P6 f t=if t.var then f t.name else ((JA f 1 0 t.args).1,min (JA f 1 0 t.args).2 200+1):=by cases t;simp only[P6];rfl
theorem ai {f:A9->Nat×Nat}:∀ (l:List Term)(c e:Nat),c<=4001->(JA f c e l).1<=4001
 | [],c,e,h=>h
 | a::l,c,e,h=>ai l _ _ (by omega)
theorem gY {f:A9->Nat×Nat}(hf:∀ v,(f v).1<=4001/\(f v).2<=201)(t:Term):(P6 f t).1<=4001/\(P6 f t).2<=201:=by
 rw[YN]
 split
 ·exact hf _
 ·exact⟨ai _ _ _ (by omega),by show min _ 200+1<=201;omega⟩
theorem Zw (s:List A7)(sz dp:List Nat)(h1:sz.length=s.length)(h2:dp.length=s.length)(hl:s.length<2^62)(hf:∀ v,(W5 s sz dp v).1<=4001/\(W5 s sz dp v).2<=201)(t:Term):Dn t<2^40 ->
  Spec prog K1 [Bm s,.rw 0 1 s.length,.rw 1 1 s.length,An t] (bf sz dp) fun x H'=>x=.tup [.int .i64 (P6 (W5 s sz dp) t).1,.int .i64 (P6 (W5 s sz dp) t).2]/\H'=bf sz dp:=by
 induction t using Ai with
 | h t ih =>
 intro hw
 have hwa:=Ek t
 refine AK mixed Ka.ok rfl ?_
 rw[YN]
 cases hv:t.var with
 | true =>
  rw[if_pos rfl]
  push_cast[hv]
  refine Ac (n:=s.length) (R:=fun k=>W5 (s.drop k) (sz.drop k) (dp.drop k) t.name=W5 s sz dp t.name->Ka.L8 (.rw 0 1 s.length) (.rw 1 1 s.length) (.ro (cT t) 0) (Bm s) (.int .i64 s.length) (.int .i64 k) 2 (bf sz dp) _) ?_ ?_ 0 (by omega) rfl
  ·intro k hk ih2 he
   have k1:k<sz.length:=by omega
   have k2:k<dp.length:=by omega
   rw[Ag hk,Ag k1,Ag k2]at he
   simp only[W5]at he
   generalize hb:s.getD k default=b at he
   have g1:(sz.map Xi)[k]?=some (Xi (sz.getD k default)):=by simp[List.getD_eq_getElem?_getD,k1]
   have g2:(dp.map Xi)[k]?=some (Xi (dp.getD k default)):=by simp[List.getD_eq_getElem?_getD,k2]
   generalize hx:sz.getD k default=x at he g1
   generalize hy:dp.getD k default=y at he g2
   refine A5.2 ?_
   by_cases h:b.name=t.name
   ·rw[if_pos h]at he
    rw[<-he]
    have g0:∀ x,(Xi x)[0]?=some (.int .i64 x):=fun _=>rfl
    push_cast[BC hk,hb,h,g1,g2,g0,List.length_map,h1,h2]
    exact Ap (H:=bf sz dp) (J:=[_]) (bS sz dp) rfl ⟨rfl,rfl⟩
   ·rw[if_neg h]at he
    push_cast[BC hk,hb,h,CD (show k<2^62 by omega)]
    exact ih2 he
  ·intro he
   rw[Ak]at he
   refine A5.2 ?_
   push_cast[AZ (Nat.le_refl _)]
   rw[<-he]
   exact Ap (H:=bf sz dp) (J:=[]) (bS sz dp) rfl ⟨rfl,rfl⟩
 | false =>
  rw[if_neg (by simp)]
  push_cast[hv]
  refine Ac (n:=t.args.length) (R:=fun k=>∀ (c e:Nat),c<=4001->e<=201->JA (W5 s sz dp) c e (t.args.drop k)=JA (W5 s sz dp) 1 0 t.args->Ka.L3 (Bm s) (.rw 0 1 s.length) (.rw 1 1 s.length) (.int .i64 c) (.int .i64 e) (Bk t.args) (.int .i64 t.args.length) (.int .i64 k) 2 (bf sz dp) _) ?_ ?_ 0 (by omega) 1 0 (by omega) (by omega) rfl
  ·intro k hk ih2 c e hc he heq
   have hme:=A4 hk
   rw[Ag hk]at heq
   simp only[JA]at heq
   have hcall:=ih (t.args.getD k default) hme (EC hw hme)
   have hle:=gY hf (t.args.getD k default)
   generalize P6 (W5 s sz dp) (t.args.getD k default)=p at hcall heq hle
   obtain⟨a1,b1⟩:=p
   simp only at hle heq
   obtain⟨c1,hc1⟩:∃ c1,c1=min (c+a1) 4001:=⟨_,rfl⟩
   obtain⟨e1,he1⟩:∃ e1,e1=max e b1:=⟨_,rfl⟩
   rw[<-hc1,<-he1]at heq
   have hw1:IntKind.i64.wrap ((c:Int)+(a1:Int))=(c:Int)+a1:=Bn (by omega) (by omega)
   have hmn:(if (4001:Int)<(c:Int)+(a1:Int) then (4001:Int) else (c:Int)+(a1:Int))=(c1:Int):=by split<;>omega
   have hmx:(if (e:Int)<(b1:Int) then (b1:Int) else (e:Int))=(e1:Int):=by split<;>omega
   refine A5.2 ?_
   push_cast[BC hk]
   have h0:Az [0,1] 0=some 0:=rfl
   have h1:Az [0,1] 1=some 1:=rfl
   refine BD.some [0,1] (by simp) (by simp) (R:=fun x' H'=>x'=.tup [.int .i64 a1,.int .i64 b1]/\H'=bf sz dp) ?_ ?_
   ·have e:give [0,1] (bf sz dp++[.dead])=bf sz dp:=by
     show [A6 (Az [0,1]) (Hv sz),A6 (Az [0,1]) (Hv dp)]=_
     push_cast
    push_cast[h0,h1]
    push_cast at e
    rw[e]
    exact hcall
   rintro x' H' ⟨rfl,rfl⟩ _
   have e:takeB [0,1] (bf sz dp++[.dead]) (bf sz dp)=bf sz dp++[.dead]:=by
    show [A6 (C5 [0,1] 3) (Hv sz),A6 (C5 [0,1] 3) (Hv dp),.dead]=_
    push_cast
   push_cast at e
   rw[e]
   have this:=ih2 c1 e1 (by omega) (by omega) heq
   push_cast[hw1,hmn,hmx,<-he1,CD (show k<2^62 by omega)]
   push_cast at this
   exact this
  ·intro c e hc he heq
   rw[Ak]at heq
   simp only[JA]at heq
   rw[<-heq]
   obtain⟨e1,he1⟩:∃ e1,e1=min e 200:=⟨_,rfl⟩
   have hmn:(if (200:Int)<(e:Int) then (200:Int) else (e:Int))=(e1:Int):=by split<;>omega
   refine A5.2 ?_
   simp only[<-he1]
   push_cast[AZ (Nat.le_refl _),hmn,<-he1,CD (show e1<2^62 by omega)]
   exact Ap (H:=bf sz dp) (J:=[]) (bS sz dp) rfl ⟨by push_cast[Ka.rs],rfl⟩
def oz (σ:EP)(t:Term):Nat×Nat:=(min (size (app σ t)) 4001,min (depth (app σ t)) 201)
theorem fF {σ:EP}{f:A9->Nat×Nat}(t:Term):(∀ w,CI w t=true->f w=oz σ (C6 w))->P6 f t=oz σ t:=by
 induction t using Ai with
 | h t ih =>
 intro h
 rw[YN]
 cases hv:t.var with
 | true =>
  rw[if_pos rfl,h _ (AE.2 (.inl ⟨hv,rfl⟩))]
  unfold oz
  rw[Aw (t:=C6 t.name) rfl,Aw hv];rfl
 | false =>
  rw[if_neg (by simp)]
  have key:∀ (l:List Term)(c e:Nat)(S D:Nat),(∀ a∈l,a∈t.args)->c=min S 4001->e=min D 201->JA f c e l=(min (S+Ae (l.map (app σ))) 4001,min (max D (AD (l.map (app σ)))) 201):=by
   intro l
   induction l with
   | nil=>intro c e S D _ hc he;simp[JA,Ae,AD,hc,he]
   | cons a l ihl =>
    intro c e S D hl hc he
    simp only[JA]
    have ha:=ih a (hl a (by simp)) fun w hw=>h w (AE.2 (.inr ⟨a,hl a (by simp),hw⟩))
    rw[ha]
    rw[ihl _ _ (S+size (app σ a)) (max D (depth (app σ a))) (fun b hb=>hl b (by simp[hb])) (by simp only[oz];omega) (by simp only[oz];omega)]
    simp only[List.map_cons,Ae,AD]
    congr 1<;>omega
  rw[key t.args 1 0 1 0 (fun _ h=>h) (by omega) (by omega)]
  have e1:size (app σ t)=1+Ae (t.args.map (app σ)):=by rw[Bg hv];rfl
  have e2:depth (app σ t)=AD (t.args.map (app σ))+1:=by rw[Bg hv];rfl
  unfold oz
  rw[e1,e2]
  congr 1
  simp only;omega
theorem uV:∀ {s:List A7} {sz dp:List Nat} {i:Nat},(s.map (·.name)).Nodup->sz.length=s.length->dp.length=s.length->i<s.length->W5 s sz dp (s.getD i default).name=(sz.getD i 0,dp.getD i 0)
 | [],_,_,i,_,_,_,h=>by simp at h
 | b::s,[],_,i,_,h,_,_=>by simp at h
 | b::s,x::sz,[],i,_,_,h,_=>by simp at h
 | b::s,x::sz,y::dp,0,_,_,_,_=>by simp[W5]
 | b::s,x::sz,y::dp,i+1,hn,h1,h2,hi=>by
  simp only[List.map_cons,List.nodup_cons]at hn
  have hi:i<s.length:=by simpa using hi
  have hne:b.name≠(s.getD i default).name:=fun e=>hn.1 (by rw[e];exact List.mem_map_of_mem (f:=(·.name)) (A4 hi))
  have e:(b::s).getD (i+1) default=s.getD i default:=by simp
  rw[e]
  simp only[W5]
  rw[if_neg hne,uV hn.2 (by simpa using h1) (by simpa using h2) hi]
  simp
theorem gQ:∀ {s:List A7} {sz dp:List Nat} {v:A9},Af s v=none->W5 s sz dp v=(1,1)
 | [],_,_,_,_=>rfl
 | b::s,[],_,_,_=>rfl
 | b::s,x::sz,[],_,_=>rfl
 | b::s,x::sz,y::dp,v,h=>by
  simp only[Af]at h
  simp only[W5]
  split at h
  ·cases h
  ·rename_i hne
   rw[if_neg hne]
   exact gQ h
theorem jD:∀ {s:List A7} {sz dp:List Nat} {v:A9},(∀ x∈sz,x<=4001)->(∀ x∈dp,x<=201)->(W5 s sz dp v).1<=4001/\(W5 s sz dp v).2<=201
 | [],_,_,_,_,_=>by simp[W5]
 | b::s,[],_,_,_,_=>by simp[W5]
 | b::s,x::sz,[],_,_,_=>by simp[W5]
 | b::s,x::sz,y::dp,v,h1,h2=>by
  simp only[W5]
  split
  ·exact⟨h1 x (by simp),h2 y (by simp)⟩
  ·exact jD (fun z hz=>h1 z (by simp[hz])) (fun z hz=>h2 z (by simp[hz]))
theorem bR {s:List A7}(h:DO s):(s.map (·.name)).Nodup:=by
 rw[List.nodup_iff_pairwise_ne,List.pairwise_map]
 exact h.imp fun {a b} hab e=>by rw[e]at hab;exact DB _ hab
def OR (σ:EP)(s:List A7)(sz dp:List Nat)(i:Nat):Prop:=(sz.getD i 0,dp.getD i 0)=oz σ (C6 (s.getD i default).name)
def jR (σ:EP)(rk:A9->Nat)(s:List A7)(sz dp:List Nat)(k:Nat):Prop:=∀ i,i<s.length->hY s rk (s.getD i default).name<=k->OR σ s sz dp i
theorem jC {s:List A7}{σ:EP}{rk:A9->Nat}(hu:Gq s σ rk){sz dp:List Nat}(h1:sz.length=s.length)(h2:dp.length=s.length){k:Nat}(hr:jR σ rk s sz dp k){j:Nat}(hj:j<s.length)(hc:hY s rk (s.getD j default).name<=k+1) :
  P6 (W5 s sz dp) (s.getD j default).term=oz σ (C6 (s.getD j default).name):=by
 have hb:=A4 hj
 have hi:=Fx hu.srt hb
 have e:oz σ (C6 (s.getD j default).name)=oz σ (s.getD j default).term:=by
  unfold oz
  rw[Aw (t:=C6 (s.getD j default).name) rfl,show (C6 (s.getD j default).name).name=(s.getD j default).name from rfl,hu.fix _ _ hi]
 rw[e]
 refine fF _ fun w hw=>?_
 cases hw2:Af s w with
 | none =>
  rw[gQ hw2]
  unfold oz
  rw[Aw (t:=C6 w) rfl,show (C6 w).name=w from rfl,hu.free w hw2];rfl
 | some x =>
  obtain⟨i,hi2,e2⟩:=List.getElem_of_mem (HU hw2)
  have e3:s.getD i default=⟨w,x⟩:=by simp[List.getD_eq_getElem?_getD,hi2,e2]
  have h4:=hu.cnt_lt hi hw
  have h5:=hr i hi2 (by rw[e3];show hY s rk w<=k;omega)
  have h6:=uV (bR hu.srt) h1 h2 hi2
  unfold OR at h5
  rw[e3]at h5 h6
  rw[h6];exact h5
theorem eJ {l:List Nat}{j i x:Nat}(hj:j<l.length):(l.set j x).getD i 0=if i=j then x else l.getD i 0:=by
 simp only[List.getD_eq_getElem?_getD,List.getElem?_set]
 by_cases h:j=i
 ·subst h;rw[if_pos rfl,if_pos rfl,if_pos hj];rfl
 ·rw[if_neg h,if_neg (fun e=>h e.symm)]
theorem qD {l:List Nat}{j x m:Nat}(h:∀ y∈l,y<=m)(hx:x<=m):∀ y∈l.set j x,y<=m:=fun y hy=>by
 rcases List.mem_or_eq_of_mem_set hy with h2 | h2
 ·exact h y h2
 ·rw[h2];exact hx
theorem dR {s:List A7}{σ:EP}{rk:A9->Nat}(hu:Gq s σ rk)(hl:s.length<2^38)(hwb:WB s):PF Q0 [Bm s] (.bool (FL s)):=by
 have hsig:=Te hu
 have hc0:∀ x:Nat,(Xi x)[0]?=some (.int .i64 x):=fun _=>rfl
 have main:∀ (i j:Nat)(Hf:List Nat->List Nat->List Ob),((i=0/\j=1/\Hf=fun sz dp=>[Hv sz,Hv dp])\/(i=1/\j=0/\Hf=fun sz dp=>[Hv dp,Hv sz])) ->
   Cu.L10 (Bm s) (.rw i 1 s.length) (.rw j 1 s.length) (.int .i64 s.length) (.int .i64 0) 0 (Hf (List.replicate s.length 0) (List.replicate s.length 0)) (Bo 0 Cu.rs fun x H=>x=.bool (FL s)/\H=[]):=by
  intro i j Hf hcase
  refine Ac (n:=s.length) (R:=fun r=>∀ sz dp:List Nat,sz.length=s.length->dp.length=s.length->(∀ x∈sz,x<=4001)->(∀ x∈dp,x<=201)->jR σ rk s sz dp r->Cu.L10 (Bm s) (.rw i 1 s.length) (.rw j 1 s.length) (.int .i64 s.length) (.int .i64 r) 0 (Hf sz dp) (Bo 0 Cu.rs fun x H=>x=.bool (FL s)/\H=[])) ?_ ?_ 0 (Nat.zero_le _) _ _ (by simp) (by simp) (fun x hx=>by rw[List.eq_of_mem_replicate hx];omega) (fun x hx=>by rw[List.eq_of_mem_replicate hx];omega) ?_
  ·intro r hr ih sz dp h1 h2 hs1 hs2 hR
   have inner:Cu.L8 (Bm s) (.rw i 1 s.length) (.rw j 1 s.length) (.int .i64 s.length) (.int .i64 r) (Bm s) (.int .i64 s.length) (.int .i64 0) 0 (Hf sz dp) (Bo 0 Cu.rs fun x H=>x=.bool (FL s)/\H=[]):=by
    refine Ac (n:=s.length) (R:=fun k=>∀ sz dp:List Nat,sz.length=s.length->dp.length=s.length->(∀ x∈sz,x<=4001)->(∀ x∈dp,x<=201)->jR σ rk s sz dp r->(∀ i,i<k->i<s.length->hY s rk (s.getD i default).name<=r+1->OR σ s sz dp i)->Cu.L8 (Bm s) (.rw i 1 s.length) (.rw j 1 s.length) (.int .i64 s.length) (.int .i64 r) (Bm s) (.int .i64 s.length) (.int .i64 k) 0 (Hf sz dp) (Bo 0 Cu.rs fun x H=>x=.bool (FL s)/\H=[])) ?_ ?_ 0 (Nat.zero_le _) sz dp h1 h2 hs1 hs2 hR (fun i hi=>by omega)
    ·intro k hk ih2 sz dp h1 h2 hs1 hs2 hR hP
     have hb:=A4 hk
     have hi:=Fx hu.srt hb
     have hM:=Zw s sz dp h1 h2 (by omega) (fun v=>jD hs1 hs2) (s.getD k default).term (hwb _ _ hi)
     have hle:=gY (f:=W5 s sz dp) (fun v=>jD hs1 hs2) (s.getD k default).term
     have hstep:=fun hc=>jC hu h1 h2 hR hk hc
     generalize hp:P6 (W5 s sz dp) (s.getD k default).term=p at hM hle hstep
     obtain⟨a1,b1⟩:=p
     have hnew:∀ i,i<s.length->hY s rk (s.getD i default).name<=r+1->(i<k+1\/hY s rk (s.getD i default).name<=r)->OR σ s (sz.set k a1) (dp.set k b1) i:=fun i hi hc hor=>by
      unfold OR
      rw[eJ (show k<sz.length by omega),eJ (show k<dp.length by omega)]
      by_cases e:i=k
      ·subst e
       rw[if_pos rfl,if_pos rfl]
       exact hstep hc
      ·rw[if_neg e,if_neg e]
       rcases hor with h | h
       ·exact hP i (by omega) hi hc
       ·exact hR i hi h
     have:=ih2 (sz.set k a1) (dp.set k b1) (by simpa using h1) (by simpa using h2) (qD hs1 hle.1) (qD hs2 hle.2) (fun i hi hc=>hnew i hi (by omega) (.inr hc)) (fun i hik hi hc=>hnew i hi hc (.inl hik))
     have g1:(sz.map Xi)[k]?=some (Xi (sz.getD k 0)):=by simp[List.getD_eq_getElem?_getD,h1,hk]
     have g2:(dp.map Xi)[k]?=some (Xi (dp.getD k 0)):=by simp[List.getD_eq_getElem?_getD,h2,hk]
     have hset0:∀ (l:List Nat)(x:Nat),k<l.length->(l.map Xi).set k (put 0 [V.int .i64 x] ((l.map Xi).getD k []))=(l.set k x).map Xi:=fun l x h=>by
      have e:(l.map Xi).getD k []=Xi (l.getD k 0):=by simp[List.getD_eq_getElem?_getD,h]
      rw[e,List.map_set];rfl
     have hset1:=fun x=>hset0 sz x (by omega)
     have hset2:=fun x=>hset0 dp x (by omega)
     refine A5.2 ?_
     rcases hcase with ⟨rfl,rfl,rfl⟩|⟨rfl,rfl,rfl⟩
     ·push_cast[BC hk]
      have h0:Az [0,1] 0=some 0:=rfl
      have h1':Az [0,1] 1=some 1:=rfl
      refine BD.some [0,1] (by simp) (by simp) (R:=fun x' H'=>x'=.tup [.int .i64 a1,.int .i64 b1]/\H'=bf sz dp) ?_ ?_
      ·have e:give [0,1] [Hv sz,Hv dp,.dead]=bf sz dp:=by
        show [A6 (Az [0,1]) (Hv sz),A6 (Az [0,1]) (Hv dp)]=_
        push_cast
       rw[e]
       push_cast[h0,h1']
       exact hM
      rintro x' H' ⟨rfl,rfl⟩ _
      have e:takeB [0,1] [Hv sz,Hv dp,.dead] (bf sz dp)=[Hv sz,Hv dp,.dead]:=by
       show [A6 (C5 [0,1] 3) (Hv sz),A6 (C5 [0,1] 3) (Hv dp),.dead]=_
       push_cast
      rw[e]
      push_cast[g1,g2,hc0,hset1,hset2,List.length_map,h1,h2,BC hk,CD (show k<2^62 by omega)]
      push_cast at this
      exact⟨hk,hk,this⟩
     ·push_cast[BC hk]
      have h0:Az [1,0] 0=some 1:=rfl
      have h1':Az [1,0] 1=some 0:=rfl
      refine BD.some [1,0] (by simp) (by simp) (R:=fun x' H'=>x'=.tup [.int .i64 a1,.int .i64 b1]/\H'=bf sz dp) ?_ ?_
      ·have e:give [1,0] [Hv dp,Hv sz,.dead]=bf sz dp:=by
        show [A6 (Az [1,0]) (Hv sz),A6 (Az [1,0]) (Hv dp)]=_
        push_cast
       rw[e]
       push_cast[h0,h1']
       exact hM
      rintro x' H' ⟨rfl,rfl⟩ _
      have e:takeB [1,0] [Hv dp,Hv sz,.dead] (bf sz dp)=[Hv dp,Hv sz,.dead]:=by
       show [A6 (C5 [1,0] 3) (Hv dp),A6 (C5 [1,0] 3) (Hv sz),.dead]=_
       push_cast
      rw[e]
      push_cast[g1,g2,hc0,hset1,hset2,List.length_map,h1,h2,BC hk,CD (show k<2^62 by omega)]
      push_cast at this
      exact⟨hk,hk,this⟩
    ·intro sz dp h1 h2 hs1 hs2 hR hP
     have:=ih sz dp h1 h2 hs1 hs2 (fun i hi hc=>hP i (by omega) hi hc)
     refine A5.2 ?_
     rcases hcase with ⟨rfl,rfl,rfl⟩|⟨rfl,rfl,rfl⟩
     all_goals
      push_cast[AZ (Nat.le_refl _),CD (show r<2^62 by omega)]
      push_cast at this
      exact this
   refine A5.2 ?_
   rcases hcase with ⟨rfl,rfl,rfl⟩|⟨rfl,rfl,rfl⟩
   all_goals
    push_cast[BC hr]
    exact inner
  ·intro sz dp h1 h2 hs1 hs2 hR
   have hall:∀ k,k<s.length->OR σ s sz dp k:=fun k hk=>hR k hk (pV s rk _)
   refine A5.2 ?_
   have fin:Cu.L3 (.rw i 1 s.length) (.rw j 1 s.length) (.int .i64 s.length) (.int .i64 0) 0 (Hf sz dp) (Bo 0 Cu.rs fun x H=>x=.bool (FL s)/\H=[]):=by
    refine Ac (n:=s.length) (R:=fun k=>((s.drop k).any fun b=>!BJ (Tf s b.name))=FL s->Cu.L3 (.rw i 1 s.length) (.rw j 1 s.length) (.int .i64 s.length) (.int .i64 k) 0 (Hf sz dp) (Bo 0 Cu.rs fun x H=>x=.bool (FL s)/\H=[])) ?_ ?_ 0 (Nat.zero_le _) rfl
    ·intro k hk ih he
     rw[Ag hk]at he
     simp only[List.any_cons]at he
     have h4:=hall k hk
     unfold OR oz at h4
     rw[Aw (t:=C6 (s.getD k default).name) rfl,show (C6 (s.getD k default).name).name=(s.getD k default).name from rfl]at h4
     rw[hsig]at he
     generalize σ (s.getD k default).name=u at h4 he
     injection h4 with e1 e2
     have g1:(sz.map Xi)[k]?=some (Xi (sz.getD k 0)):=by simp[List.getD_eq_getElem?_getD,h1,hk]
     have g2:(dp.map Xi)[k]?=some (Xi (dp.getD k 0)):=by simp[List.getD_eq_getElem?_getD,h2,hk]
     rw[e1]at g1
     rw[e2]at g2
     have hfe:BJ u=(decide (size u<=4000)&&decide (depth u<=200)):=rfl
     generalize hp1:min (size u) 4001=p1 at g1
     generalize hp2:min (depth u) 201=p2 at g2
     refine A5.2 ?_
     by_cases c1:size u<=4000
     ·by_cases c2:depth u<=200
      ·have i1:((4000:Int)<(p1:Int))=False:=eq_false (by omega)
       have i2:((200:Int)<(p2:Int))=False:=eq_false (by omega)
       have hq:BJ u=true:=by rw[hfe];simp[c1,c2]
       rw[hq]at he
       have this:=ih (by simpa[hsig]using he)
       rcases hcase with ⟨rfl,rfl,rfl⟩|⟨rfl,rfl,rfl⟩
       all_goals
        push_cast[BC hk,g1,g2,hc0,i1,i2,List.length_map,h1,h2,CD (show k<2^62 by omega)]
        push_cast at this
        exact this
      ·have i1:((4000:Int)<(p1:Int))=False:=eq_false (by omega)
       have i2:((200:Int)<(p2:Int))=True:=eq_true (by omega)
       have hq:BJ u=false:=by rw[hfe];simp[c1,c2]
       rw[hq]at he
       have hh:FL s=true:=by rw[<-he];simp
       rw[hh]
       rcases hcase with ⟨rfl,rfl,rfl⟩|⟨rfl,rfl,rfl⟩
       all_goals
        push_cast[BC hk,g1,g2,hc0,i1,i2,List.length_map,h1,h2]
        exact A1 (by push_cast[Cu.rs])
     ·have i1:((4000:Int)<(p1:Int))=True:=eq_true (by omega)
      have hq:BJ u=false:=by rw[hfe];simp[c1]
      rw[hq]at he
      have hh:FL s=true:=by rw[<-he];simp
      rw[hh]
      rcases hcase with ⟨rfl,rfl,rfl⟩|⟨rfl,rfl,rfl⟩
      all_goals
       push_cast[BC hk,g1,g2,hc0,i1,List.length_map,h1,h2]
       exact A1 (by push_cast[Cu.rs])
    ·intro he
     rw[Ak]at he
     rw[<-he]
     refine A5.2 ?_
     rcases hcase with ⟨rfl,rfl,rfl⟩|⟨rfl,rfl,rfl⟩
     all_goals
      push_cast[AZ (Nat.le_refl _)]
      exact A1 (by push_cast[Cu.rs];rfl)
   rcases hcase with ⟨rfl,rfl,rfl⟩|⟨rfl,rfl,rfl⟩
   all_goals
    push_cast[AZ (Nat.le_refl _)]
    exact fin
  ·intro i hi hc
   exfalso
   have:0<hY s rk (s.getD i default).name:=List.countP_pos_iff.2 ⟨_,A4 hi,by simp⟩
   omega
 refine Ab Cu.ok rfl ?_
 have hrow:∀ τ,List.map (AS τ) (List.replicate s.length [V.int IntKind.i64 0])=(List.replicate s.length 0).map Xi:=fun τ=>by
  rw[List.map_replicate,List.map_replicate];rfl
 have m1:s.length<=Ah:=by unfold Ah;omega
 have m2:s.length*8<=Ah:=by unfold Ah;omega
 push_cast[hrow,m1,m2]
 exact⟨main 0 1 _ (.inl ⟨rfl,rfl,rfl⟩),main 1 0 _ (.inr ⟨rfl,rfl,rfl⟩)⟩
theorem Yg (l:List A2)(Vs:List A9)(D:Nat)(h:bZ l Vs D)(hvs:Vs.length<2^18)(hnm:∀ v∈Vs,v.length<2^62):PF IR [Al l] (Jl (Kb (l.map (·.left)) (l.map (·.right)))):=by
 obtain⟨n,r,hr⟩:=Iq Vs (l.map (·.left)) (l.map (·.right)) [] C6 (fun _=>0) Gq.nil (fun v t h=>by cases h) (by simp only[List.mem_map];rintro z ⟨x,hx,rfl⟩;exact (h.am x hx).1) (by simp only[List.mem_map];rintro z ⟨x,hx,rfl⟩;exact (h.am x hx).2)
 have hS:=NB hr
 have hlv:=h.len
 have p0:Az [0,1] 0=some 0:=rfl
 refine Ab Ew.ok rfl ?_
 push_cast
 refine Ac (n:=l.length) (R:=fun k=>∀ (s:List A7)(σ:EP)(rk:A9->Nat)(dn:List QE),Gq s σ rk->NOk s Vs->WB s->(∀ k∈dn,Qx s k)->dn.Nodup->(∀ k∈dn,k.1∈Vs/\k.2∈Vs) ->
   AF (B5 n) s ((l.map (·.left)).drop k) ((l.map (·.right)).drop k)=some r->Ew.L8 (.ptr 0 0) (Al l) (.int .i64 l.length) (.int .i64 k) 0 (ll s dn []) (Bo 0 Ew.rs fun x H'=>x=Jl (Kb (l.map (·.left)) (l.map (·.right)))/\H'=[])) ?_ ?_ 0 (by omega)
  [] C6 (fun _=>0) [] Gq.nil ⟨fun v t h=>(by cases h),hvs,hnm⟩ (fun v t h=>by cases h) (fun k h=>by cases h) List.nodup_nil (fun k h=>by cases h) hr
 ·intro k hk ih s σ rk dn hu hN hwb hdone hdn hdV hsol
  have hme:=A4 hk
  have e1:(l.map (·.left)).getD k default=(l.getD k default).left:=by simp[List.getD_eq_getElem?_getD,hk]
  have e2:(l.map (·.right)).getD k default=(l.getD k default).right:=by simp[List.getD_eq_getElem?_getD,hk]
  rw[Ag (show k<(l.map (·.left)).length by simpa using hk),Ag (show k<(l.map (·.right)).length by simpa using hk),e1,e2]at hsol
  generalize hx:l.getD k default=x at hme hsol
  obtain⟨hal,har⟩:=h.am x hme
  obtain⟨hwl,hwr⟩:=h.wd x hme
  simp only[AF]at hsol
  cases hf:B5 n s x.left x.right with
  | none=>rw[hf]at hsol;cases hsol
  | some p =>
   obtain⟨s1,ok⟩:=p
   rw[hf]at hsol
   obtain⟨σ1,rk1,hok⟩:=FW n s σ rk x.left x.right (s1,ok) hu hal.1 har.1 hf
   have hc:=eE n s σ rk dn x.left x.right (s1,ok) hu hN hwb hal har hwl hwr hf hdone hdn hdV
   refine A5.2 ?_
   push_cast[BC hk,hx]
   refine R6 (J:=[_]) (by push_cast[p0]) hc ?_
   rintro x' s2 dn2 ⟨rfl,hR⟩
   cases ok with
   | false =>
    simp only[Option.some.injEq]at hsol
    have hu2:Kb (l.map (·.left)) (l.map (·.right))=([],false,0):=by unfold Kb;rw[hS,<-hsol];rfl
    push_cast
    rw[hu2]
    exact A1 (by push_cast[Ew.rs];rfl)
   | true =>
    obtain⟨rfl,hm1,hm2,hm3⟩:=hR rfl
    push_cast[CD (show k<2^62 by omega)]
    have:=ih s2 σ1 rk1 dn2 hok.ok (hN.solve hal har hf) (hwb.solve hwl hwr hf) (fun k hk=>by
     rcases hm3 k hk with h | h
     ·exact fun θ hθ=>hdone k h θ (hθ.mono hok.ext)
     ·exact h.1) hm1 hm2 hsol
    push_cast at this
    exact this
 ·intro s σ rk dn hu hN hwb hdone hdn hdV hsol
  have e1:(l.map (·.left)).drop l.length=[]:=by rw[List.drop_eq_nil_of_le];simp
  rw[e1]at hsol
  simp only[AF,Option.some.injEq]at hsol
  have hlen:=I4 hu.srt hN.am
  have hsig:=Te hu
  have hL:=dR hu (by omega) hwb
  have hu2:Jl (Kb (l.map (·.left)) (l.map (·.right)))=(if FL s then .tup [Bm [],.bool false,.int .i64 3] else .tup [Bm (Dz s),.bool true,.int .i64 0]):=by
   unfold Kb
   rw[hS,<-hsol]
   simp only[Bool.true_eq_false,if_false]
   cases FL s<;>rfl
  rw[hu2]
  refine A5.2 ?_
  push_cast[AZ (Nat.le_refl _)]
  refine .of hL ?_
  cases hh:FL s with
  | true =>
   push_cast
   exact A1 (by push_cast[Ew.rs];rfl)
  | false =>
   push_cast
   have hwl:(Dz s).length=s.length:=by simp[Dz]
   refine Ac (n:=s.length) (R:=fun k=>Ew.L3 (.ptr 0 0) (Bf cB 2 4 ((Dz s).take k)) (Bm s) (.int .i64 s.length) (.int .i64 k) 0 (ll s dn [.arr Cc 4 k]) _) ?_ ?_ 0 (by omega)
   ·intro k hk ih2
    have hb:=A4 hk
    have hi:=Fx hu.srt hb
    obtain⟨m,hn⟩:=hu.need (s.getD k default).term
    have hRs:=Zy hu (by omega) hwb m (s.getD k default).term hn (hu.vf _ _ hi) (hwb _ _ hi)
    have hge:(Dz s).getD k default=⟨(s.getD k default).name,app σ (s.getD k default).term⟩:=by
     unfold Dz
     rw[hsig,<-hu.fix _ _ hi]
     simp[List.getD_eq_getElem?_getD,hk]
    have hlt:((Dz s).take k).length=k:=by simp[hwl];omega
    rw[Aa (by omega),hge]at ih2
    refine A5.2 ?_
    push_cast[BC hk]
    refine .of hRs ?_
    push_cast[hlt,Y0,Uz (show k<2^40 by omega) (show 64<=64 by omega),CD (show k<2^62 by omega)]
    push_cast at ih2
    exact ih2
   ·refine A5.2 ?_
    push_cast[AZ (Nat.le_refl _)]
    rw[List.take_of_length_le (by omega)]
    refine A1 ?_
    push_cast[Ew.rs]
theorem ay (t:Term):Dn t<=size t:=by
 induction t using Ai with
 | h t ih =>
 have h1:=AJ t
 have h2:=Am t.args
 have key:∀ l:List Term,(∀ a∈l,Dn a<=size a)->Kf l<=Ae l:=by
  intro l
  induction l with
  | nil=>intro _;simp[Kf,Ae]
  | cons a l ihl =>
   intro h
   have:=h a (by simp)
   have:=ihl fun b hb=>h b (by simp[hb])
   simp only[Kf,Ae];omega
 have h3:=key t.args ih
 have h4:Dn t=max t.args.length (Kf t.args):=by cases t;rfl
 omega
theorem UC {v:A9}(t:Term):short t=true->CI v t=true->v.length<=24:=by
 induction t using Ai with
 | h t ih =>
 intro h ho
 obtain⟨h1,h2,h3⟩:=C4.1 h
 rcases AE.1 ho with ⟨_,e⟩|⟨a,ha,ho⟩
 ·rw[<-e];exact h1
 ·exact ih a ha (h3 a ha) ho
theorem Th {P:Term->Prop}{Q:A9->Prop}(hP:∀ t a,P t->a∈t.args->P a)(hQ:∀ t,P t->t.var=true->Q t.name){n:Nat}:∀ (l m:List Term)(s:List A7)(r:List A7×Bool),(∀ v t,Af s v=some t->P t/\Q v)->(∀ a∈l,P a)->(∀ b∈m,P b)->AF (B5 n) s l m=some r->∀ v t,Af r.1 v=some t->P t/\Q v
 | [],m,s,r,hs,_,_,h=>by simp only[AF,Option.some.injEq]at h;subst h;exact hs
 | a::l,[],s,r,hs,_,_,h=>by simp only[AF,Option.some.injEq]at h;subst h;exact hs
 | a::l,b::m,s,r,hs,hl,hm,h=>by
  simp only[AF]at h
  cases hf:B5 n s a b with
  | none=>rw[hf]at h;cases h
  | some p =>
   obtain⟨s1,ok⟩:=p
   rw[hf]at h
   have h1:=Kk hP hQ n s a b _ hs (hl a (by simp)) (hm b (by simp)) hf
   cases ok with
   | false=>simp only[Option.some.injEq]at h;subst h;exact h1
   | true=>exact Th hP hQ l m s1 r h1 (fun x hx=>hl x (by simp[hx])) (fun x hx=>hm x (by simp[hx])) h
theorem ZJ {f:EP}(t:Term):short t=true->(∀ v,CI v t=true->short (f v)=true)->short (app f t)=true:=by
 induction t using Ai with
 | h t ih =>
 intro ht h
 obtain⟨h1,h2,h3⟩:=C4.1 ht
 cases hv:t.var with
 | true=>rw[Aw hv];exact h _ (AE.2 (.inl ⟨hv,rfl⟩))
 | false =>
  rw[Bg hv]
  refine C4.2 ⟨h1,(fun e=>by cases e),fun a ha=>?_⟩
  simp only[Term.args,List.mem_map]at ha
  obtain⟨b,hb,rfl⟩:=ha
  exact ih b hb (h3 b hb) fun v hv=>h v (AE.2 (.inr ⟨b,hb,hv⟩))
theorem Gq.short {s:List A7}{σ:EP}{rk:A9->Nat}(h:Gq s σ rk)(hs:∀ v t,Af s v=some t->Dw.short t=true)(v:A9):v.length<=24->Dw.short (σ v)=true:=by
 revert v
 refine h.ind fun v ih=>?_
 intro hv
 cases hi:Af s v with
 | none =>
  rw[h.free v hi]
  exact C4.2 ⟨hv,fun _=>rfl,fun a ha=>by cases ha⟩
 | some t =>
  rw[h.fix v t hi]
  exact ZJ t (hs v t hi) fun w hw=>ih t w hi hw (UC t (hs v t hi) hw)
structure C9 (t:Term):Prop where
 sh:short t=true
 sz:size t<=4000
 dp:depth t<=200
theorem C9.vf {t:Term}(h:C9 t):vfl t=true:=Vf t h.sh
theorem C9.tb {t:Term}(h:C9 t):tb t<2^20:=by have:=TU t h.sh;have:=h.sz;omega
theorem C9.of_check {t:Term}(h:FQ t=0):C9 t:=by
 obtain⟨h1,h2⟩:=Uv.1 h
 unfold BJ at h2
 rw[Bool.and_eq_true,decide_eq_true_eq,decide_eq_true_eq]at h2
 exact⟨SQ t h1,h2.1,h2.2⟩
def vs2 (a b:Term):List A9:=Ed a++Ed b
theorem cg {a b:Term}(ha:C9 a)(hb:C9 b):(vs2 a b).length<=8000:=by
 have h1:=It a []
 have h2:=It b []
 have h3:=ha.sz
 have h4:=hb.sz
 unfold vs2
 rw[List.length_append]
 have e1:Ed a=DG [] a:=rfl
 have e2:Ed b=DG [] b:=rfl
 rw[e1,e2]
 simp only[List.length_nil]at h1 h2
 omega
theorem KO {a b:Term}{w:A9}:w∈vs2 a b↔CI w a=true\/CI w b=true:=by
 unfold vs2
 rw[List.mem_append]
 have h1:=Fw w a []
 have h2:=Fw w b []
 simp only[List.not_mem_nil,false_or]at h1 h2
 exact or_congr h1 h2
theorem fN {a b:Term}(ha:C9 a)(hb:C9 b):bZ [⟨a,b⟩] (vs2 a b) 200:=by
 have hl:=cg ha hb
 have h1:=ay a
 have h2:=ay b
 have h3:=ha.sz
 have h4:=hb.sz
 refine⟨fun x hx=>?_,fun x hx=>?_,fun x hx=>?_,by omega,by omega,by simp⟩
 all_goals rw[List.mem_singleton.1 hx]
 ·exact⟨⟨ha.vf,fun w hw=>KO.2 (.inl hw)⟩,⟨hb.vf,fun w hw=>KO.2 (.inr hw)⟩⟩
 ·exact⟨by show Dn a<_;omega,by show Dn b<_;omega⟩
 ·exact⟨ha.dp,hb.dp⟩
theorem ZR {a b:Term}(ha:C9 a)(hb:C9 b):∀ v∈vs2 a b,v.length<=24:=fun v hv=>by
 rcases KO.1 hv with h | h
 ·exact UC a ha.sh h
 ·exact UC b hb.sh h
noncomputable abbrev F0 (a b:Term):List A7×Bool×Int:=Kb [a] [b]
theorem cW {a b:Term}(ha:C9 a)(hb:C9 b):PF JO [Al [⟨a,b⟩]] (Jl (F0 a b)):=Zg _ _ _ (fN ha hb)
theorem Xh {a b:Term}(ha:C9 a)(hb:C9 b):PF IR [Al [⟨a,b⟩]] (Jl (F0 a b)) :=
 Yg _ _ _ (fN ha hb) (by have:=cg ha hb;omega) fun v hv=>by have:=ZR ha hb v hv;omega
structure AeG (a b:Term) (s:List A7):Prop where
 srt:DO s
 len:s.length<=8000
 sh:∀ x∈s,short x.term=true/\size x.term<=4000/\x.name.length<=24
 bb:Z7 s<2^34
theorem AbP {s:List A7}{m:Nat}(h:∀ x∈s,1+x.name.length+tb x.term<=m):Z7 s<=s.length*m:=by
 induction s with
 | nil=>simp[Z7]
 | cons x s ih =>
  have h1:=h x (by simp)
  have h2:=ih fun y hy=>h y (by simp[hy])
  simp only[Z7,List.length_cons,Nat.succ_mul];omega
theorem RW (a b:Term):(F0 a b).2.2=0\/((F0 a b).2.2=3/\(F0 a b).2.1=false):=by
 unfold F0 Kb
 split
 ·exact .inl rfl
 ·split
  ·exact .inr ⟨rfl,rfl⟩
  ·exact .inl rfl
theorem ec {a b:Term}(ha:C9 a)(hb:C9 b)(h:(F0 a b).2.1=true):AeG a b (F0 a b).1/\(F0 a b).2.2=0/\(F0 a b).1=Dz (HQ [a] [b]).1:=by
 obtain⟨n,r,hr⟩:=Iq (vs2 a b) [a] [b] [] C6 (fun _=>0) Gq.nil (fun v t h=>by cases h) (fun z hz=>by rw[List.mem_singleton.1 hz];exact⟨ha.vf,fun w hw=>KO.2 (.inl hw)⟩) (fun z hz=>by rw[List.mem_singleton.1 hz];exact⟨hb.vf,fun w hw=>KO.2 (.inr hw)⟩)
 have hS:=NB hr
 obtain⟨rk,hu,ham,_,_⟩:=ZO (Vs:=vs2 a b) (l:=[a]) (m:=[b]) (fun z hz=>by rw[List.mem_singleton.1 hz];exact⟨ha.vf,fun w hw=>KO.2 (.inl hw)⟩) (fun z hz=>by rw[List.mem_singleton.1 hz];exact⟨hb.vf,fun w hw=>KO.2 (.inr hw)⟩) rfl
 have hk:=Th (P:=fun t=>short t=true) (Q:=fun _=>True) (fun t a h ha=>(C4.1 h).2.2 a ha) (fun _ _ _=>trivial) [a] [b] [] r (fun v t h=>by cases h) (fun z hz=>by rw[List.mem_singleton.1 hz];exact ha.sh) (fun z hz=>by rw[List.mem_singleton.1 hz];exact hb.sh) hr
 rw[<-hS]at hk
 unfold F0 Kb at h ⊢
 generalize HQ [a] [b]=q at h hu ham hk
 by_cases c1:q.2=false
 ·rw[if_pos c1]at h;cases h
 ·rw[if_neg c1]at h ⊢
  by_cases c2:FL q.1=true
  ·rw[if_pos c2]at h;cases h
  ·rw[if_neg c2]
   have hlen:=I4 hu.srt ham
   have hv2:=cg ha hb
   have hmem:∀ x∈Dz q.1,short x.term=true/\size x.term<=4000/\x.name.length<=24:=by
    intro x hx
    unfold Dz at hx
    obtain⟨y,hy,rfl⟩:=List.mem_map.1 hx
    have hi:=Fx hu.srt hy
    have hnm:y.name.length<=24:=ZR ha hb _ (ham _ _ hi).2
    refine⟨hu.short (fun v t h=>(hk v t h).1) y.name hnm,?_,hnm⟩
    have c3:FL q.1=false:=by simpa using c2
    unfold FL at c3
    rw[List.any_eq_false]at c3
    have:=c3 y hy
    unfold BJ at this
    simp only[Bool.not_eq_true,Bool.not_eq_false',Bool.not_not,Bool.and_eq_true,decide_eq_true_eq]at this
    exact this.1
   have hwl:(Dz q.1).length=q.1.length:=by simp[Dz]
   refine⟨⟨?_,by rw[hwl];omega,hmem,?_⟩,rfl,rfl⟩
   ·unfold Dz DO
    rw[List.pairwise_map]
    exact hu.srt
   ·have h1:=AbP (s:=Dz q.1) (m:=100100) fun x hx=>by
     obtain⟨e1,e2,e3⟩:=hmem x hx
     have:=TU x.term e1
     omega
    have h2:(Dz q.1).length*100100<=8000*100100:=Nat.mul_le_mul_right _ (by rw[hwl];omega)
    show Z7 (Dz q.1)<2^34
    omega
theorem ig:∀ (k n:Nat),n<10^(k+1)->(Jc n).length<=k+1
 | 0,n,h=>by unfold Jc Lib.decDigits;rw[dif_pos (by simpa using h)];simp
 | k+1,n,h=>by
  unfold Jc Lib.decDigits
  split
  ·simp
  ·have:=ig k (n / 10) (by rw[Nat.pow_succ]at h;omega)
   unfold Jc at this
   simp only[List.length_append,List.length_singleton];omega
theorem wD {l:List A9}{v:A9}{j:Nat}(h:F6 l v=some j):j<l.length:=by
 induction l generalizing j with
 | nil=>cases h
 | cons x l ih =>
  simp only[F6]at h
  split at h
  ·cases h;simp
  ·cases hq:F6 l v with
   | none=>rw[hq]at h;cases h
   | some i =>
    rw[hq]at h;cases h
    have:=ih hq
    simp;omega
theorem mP {f:EP}(hf:∀ v,∃ w,f v=C6 w)(t:Term):vfl t=true->size (app f t)=size t/\depth (app f t)=depth t:=by
 induction t using Ai with
 | h t ih =>
 intro ht
 cases hv:t.var with
 | true =>
  rw[Aw hv]
  obtain⟨w,hw⟩:=hf t.name
  rw[hw,Rg ht hv];exact⟨rfl,rfl⟩
 | false =>
  have key:∀ l:List Term,(∀ a∈l,a∈t.args)->Ae (l.map (app f))=Ae l/\AD (l.map (app f))=AD l:=by
   intro l
   induction l with
   | nil=>intro _;exact⟨rfl,rfl⟩
   | cons a l ihl =>
    intro hl
    have h1:=ih a (hl a (by simp)) (BS ht (hl a (by simp)))
    have h2:=ihl fun b hb=>hl b (by simp[hb])
    simp only[List.map_cons,Ae,AD,h1,h2,and_self]
  have h3:=key t.args fun _ h=>h
  have e1:=AJ t
  have e2:=Fz t
  rw[Bg hv]
  have e3:size (Term.mk t.name false (t.args.map (app f)))=1+Ae (t.args.map (app f)):=rfl
  have e4:depth (Term.mk t.name false (t.args.map (app f)))=AD (t.args.map (app f))+1:=rfl
  omega
theorem eR {pre:A9}(hp:pre.length=1){l:List A9}(hl:l.length<=4000){t:Term}(ht:C9 t)(hs:S6 l t):C9 (app (NK pre l) t):=by
 have h1:=mP (f:=NK pre l) (fun v=>⟨_,rfl⟩) t ht.vf
 refine⟨ZJ t ht.sh fun v hv=>?_,by rw[h1.1];exact ht.sz,by rw[h1.2];exact ht.dp⟩
 unfold NK
 cases hq:F6 l v with
 | none=>exact absurd (hs v hv) (Lv.1 hq)
 | some j =>
  have h2:=wD hq
  have h3:=ig 3 j (by omega)
  exact C4.2 ⟨by show (pre++Jc j).length<=24;rw[List.length_append];omega,fun _=>rfl,fun a ha=>by cases ha⟩
structure IL (x:A2):Prop where
 l:C9 x.left
 r:C9 x.right
 v:∀ v,CI v x.right=true->CI v x.left=true
theorem Ly {pre:A9}(hp:pre.length=1){x:A2}(h:IL x):IL (Cn pre x):=by
 have hl:(AH [] x.left).length<=4000:=by have:=PC x.left [];have:=h.l.sz;simp only[List.length_nil]at *;omega
 have hs:=(HP x.left []).2 h.l.vf
 have hs2:S6 (AH [] x.left) x.right:=fun v hv=>hs v (h.v v hv)
 refine⟨eR hp hl h.l hs,eR hp hl h.r hs2,fun v hv=>?_⟩
 obtain⟨w,h1,h2⟩:=(T3 x.right h.r.vf).1 hv
 exact (T3 x.left h.l.vf).2 ⟨w,h.v w h1,h2⟩
theorem Sr (p:List Int)(hp:p.length<2^40):PF BV [I0 p] (I0 p):=by
 refine Ab CO.ok rfl ?_
 push_cast
 intro c hc
 refine⟨fun h=>?_,fun h=>⟨by rw[List.length_map];unfold Ah;omega,?_⟩⟩
 ·have hp0:p=[]:=by simpa using hc (by cases c<;>simp_all)
  subst hp0
  exact A1 (by push_cast[CO.rs];rfl)
 ·exact A1 (by push_cast[CO.rs];rfl)
theorem ZL {N:Nat->C}{B:Nat}{k:List K}{t:T}{Q:X->T->List Ob->Prop}{dd:Option Nat}{l:List S}(H:List Ob)(k':Ax prog N B (.r l::k) (FZ dd (.fn (.func Dv) [] [.ptr (H.length+1) 0]) t) (py H [] []) Q):BD prog N B dd l k t Q (.func FF) [] H:=by
 refine BD.some [] (by simp) (by simp) (R:=fun x' H'=>x'=.fn (.func Dv) [] [.ptr 1 0]/\H'=nH []) ?_ ?_
 ·exact Bj▸We
 rintro x' H' ⟨rfl,rfl⟩ _
 have h0:∀ n,C5 [] n 0=some n:=fun n=>rfl
 have h1:∀ n,C5 [] n 1=some (n+1):=fun n=>rfl
 have e:takeB [] H (nH [])=py H [] []:=by
  unfold takeB
  have e1:PD [] H ((nH []).map (A6 (C5 [] H.length)))=H:=by
   unfold PD
   apply List.ext_getElem?
   intro i
   by_cases hi:i<H.length
   ·simp[Az,hi,List.getD_eq_getElem?_getD]
   ·simp[hi]
  rw[e1]
  push_cast[h0]
  rfl
 rw[e]
 push_cast[h1]at k' ⊢
 exact k'
abbrev ovZ:List V:=[.int .i64 0,.int .i64 0,.sl 1 [],.str [],.bool false,.sl 3 [],.str [],.bool false,.sl 3 [],.str [],.bool false,.sl 3 []]
abbrev zD (W:Term):List Ob:=[.cells DY ovZ,.dead,.dead,.cells A3 (cT W)]
theorem Mw (z:Term):AS (Az [4,5]) [An z,V.ptr 5 0]=[An z,V.ptr 1 0]:=by
 have q5:Az [4,5] 5=some 1:=rfl
 push_cast[q5]
structure FM where
 outer:Int
 inner:Int
 pos:List Int
 peak:Term
 left:Term
 right:Term
def AdG:FM:=⟨0,0,[],D5,D5,D5⟩
def Wt (o:FM):List V:=[.int .i64 o.outer,.int .i64 o.inner,I0 o.pos]++cT o.peak++cT o.left++cT o.right
def bc (o:FM):V:=.agg (Wt o)
theorem mY {σ:Nat->Option Nat}(o:FM):ren σ (bc o)=bc o:=rfl
noncomputable def E0 (a b:A2)(pos:List Int)(sub:Term):Bool×Int :=
 if (F0 sub b.left).2.1=false then (false,(F0 sub b.left).2.2)
 else if (BJ (AC (F0 sub b.left).1 a.left)&&(BJ (AC (F0 sub b.left).1 a.right)&&BJ (AC (F0 sub b.left).1 b.right)))=false then (false,3)
 else if BJ (J8 (AC (F0 sub b.left).1 a.left) pos (AC (F0 sub b.left).1 b.right))=false then (false,3) else (true,0)
noncomputable def ovO (a b:A2)(pos:List Int)(sub:Term):FM :=
 if (E0 a b pos sub).1 then
  let s:=(F0 sub b.left).1
  let p:=Hy [120] [] (AC s a.left)
  let q:=Hy [120] p.1 (AC s a.right)
  ⟨0,0,pos,p.2,q.2,(Hy [120] q.1 (J8 (AC s a.left) pos (AC s b.right))).2⟩
 else AdG
theorem Zu {a b:A2}(ha:IL a)(hb:IL b){pos:List Int}(hpos:pos.length<2^20){sub:Term}(hsub:C9 sub) :
  PF Nw [Kn a,Kn b,I0 pos,An sub] (.tup [bc (ovO a b pos sub),.bool (E0 a b pos sub).1,.int .i64 (E0 a b pos sub).2]):=by
 have hU:=cW hsub hb.l
 have hE:=RW sub b.left
 have hO:=ec hsub hb.l
 unfold ovO E0
 generalize hu:F0 sub b.left=u at hU hE hO
 obtain⟨s,ok,e⟩:=u
 simp only at hE hO
 refine Ab EB.ok rfl ?_
 push_cast
 refine .of hU ?_
 cases ok with
 | false =>
  simp only[if_true,Bool.false_eq_true,if_false]
  rcases hE with rfl | ⟨rfl,_⟩
  ·push_cast[Jl]
   exact A1 (by push_cast[EB.rs];rfl)
  ·push_cast[Jl]
   exact A1 (by push_cast[EB.rs];rfl)
 | true =>
  obtain⟨hs,rfl,_⟩:=hO rfl
  have hI1:=JG s hs.srt hs.bb a.left (by have:=ha.l.tb;omega)
  have hI2:=JG s hs.srt hs.bb a.right (by have:=ha.r.tb;omega)
  have hI3:=JG s hs.srt hs.bb b.right (by have:=hb.r.tb;omega)
  simp only[Bool.true_eq_false,if_false]
  clear hU hE hO hu
  by_cases hf:(BJ (AC s a.left)&&(BJ (AC s a.right)&&BJ (AC s b.right)))=false
  ·rw[if_pos hf]
   simp only[Bool.false_eq_true,if_false]
   cases f1:BJ (AC s a.left)<;>cases f2:BJ (AC s a.right)<;>cases f3:BJ (AC s b.right)
   case true.true.true=>rw[f1,f2,f3]at hf;cases hf
   all_goals
    rw[f1]at hI1
    rw[f2]at hI2
    rw[f3]at hI3
    simp only[Bool.false_eq_true,if_false,if_true,Hj]at hI1 hI2 hI3
    push_cast[Jl]
    refine .of hI1 ?_
    push_cast
    refine .of hI2 ?_
    push_cast
    refine .of hI3 ?_
    push_cast
    exact A1 (by push_cast[EB.rs];rfl)
  ·rw[if_neg hf]
   have hf2:BJ (AC s a.left)=true/\BJ (AC s a.right)=true/\BJ (AC s b.right)=true:=by simpa using hf
   obtain⟨f1,f2,f3⟩:=hf2
   rw[f1]at hI1
   rw[f2]at hI2
   rw[f3]at hI3
   simp only[if_true,Hj]at hI1 hI2 hI3
   have z1:size (AC s a.left)<=4000:=by unfold BJ at f1;simp at f1;exact f1.1
   have z2:size (AC s a.right)<=4000:=by unfold BJ at f2;simp at f2;exact f2.1
   have z3:size (AC s b.right)<=4000:=by unfold BJ at f3;simp at f3;exact f3.1
   have hSet:=iL pos (AC s a.left) (AC s b.right) (by omega) (by omega) (by omega)
   have z4:=UY pos (AC s a.left) (AC s b.right)
   have hFit:=YQ (J8 (AC s a.left) pos (AC s b.right)) (by omega)
   generalize AC s a.left=P at *
   generalize AC s a.right=L at *
   generalize AC s b.right=R at *
   generalize J8 P pos R=W at *
   push_cast[Jl]
   refine .of hI1 ?_
   push_cast
   refine .of hI2 ?_
   push_cast
   refine .of hI3 ?_
   push_cast
   refine .of hSet ?_
   push_cast
   refine .of hFit ?_
   cases f4:BJ W with
   | false =>
    push_cast[Hj]
    exact A1 (by push_cast[EB.rs];rfl)
   | true =>
    push_cast[Hj]
    have hC:=Sr pos (by omega)
    have r1:=NL [120] P []
    have r2:=NL [120] L (Hy [120] [] P).1
    simp only[List.length_nil]at r1
    have hN1:=Er [] P (by simp;omega)
    have hN2:=Er (Hy [120] [] P).1 L (by omega)
    have hN3:=Er (Hy [120] (Hy [120] [] P).1 L).1 W (by omega)
    generalize Hy [120] [] P=P' at *
    generalize Hy [120] P'.1 L=L' at *
    generalize Hy [120] L'.1 W=W' at *
    refine ZL _ ?_
    push_cast
    refine .of hC ?_
    push_cast
    refine⟨?_,?_⟩
    ·refine FP (zD W) [] (Mw P) (Bj▸hN1) ?_
     push_cast
     refine⟨?_,?_⟩
     ·refine FP (zD W) [] (Mw L) (Bj▸hN2) ?_
      push_cast
      refine FP (zD W) [] (Mw W) (Bj▸hN3) ?_
      push_cast
      exact A1 (by push_cast[EB.rs];rfl)
     ·refine FP (zD W) [] (Mw L) (Bj▸hN2) ?_
      push_cast
      refine FP (zD W) [] (Mw W) (Bj▸hN3) ?_
      push_cast
      exact A1 (by push_cast[EB.rs];rfl)
    ·refine FP (zD W) [] (Mw P) (Bj▸hN1) ?_
     push_cast
     refine FP (zD W) [] (Mw L) (Bj▸hN2) ?_
     push_cast
     refine FP (zD W) [] (Mw W) (Bj▸hN3) ?_
     push_cast
     exact A1 (by push_cast[EB.rs];rfl)
def sd (b:Bool)(x:A2):Term:=if b then x.right else x.left
theorem YI (x:A2)(b:Bool):PF OI [Kn x,.bool b] (An (sd b x)):=by
 refine Ab Yz.ok rfl ?_
 cases b<;>(push_cast;exact A1 (by push_cast[Yz.rs];try rfl))
theorem Vy (l:List A9)(v:A9)(hl:l.length<2^62):PF Mz [Bw l,.str v] (.int .i64 (Ld (fun x=>decide (v=x)) l)):=by
 refine Ab Lx.ok rfl ?_
 push_cast
 refine Ac (n:=l.length) (R:=fun k=>(∀ j,j<k->(fun x=>decide (v=x)) (l.getD j default)=false)->Lx.L3 (.str v) (Bw l) (.int .i64 l.length) (.int .i64 k) 0 [] (Bo 0 Lx.rs fun x' H'=>x'=.int .i64 (Ld (fun x=>decide (v=x)) l)/\H'=[])) ?_ ?_ 0 (by omega) (by intro j hj;omega)
 ·intro k hk ih hq
  refine A5.2 ?_
  generalize hx:l.getD k default=s
  by_cases h:s=v
  ·have hi:=Hc (p:=fun x=>decide (v=x)) hk (by show decide (v=l.getD k default)=true;rw[hx,h];simp) hq
   push_cast[BC hk,hx,eq_true h]
   exact A1 (by push_cast[Lx.rs,hi])
  ·push_cast[BC hk,hx,eq_false h,CD (show k<2^62 by omega)]
   exact ih fun j hj=>by
    rcases Nat.lt_succ_iff_lt_or_eq.1 hj with hj | rfl
    ·exact hq j hj
    ·rw[hx];simpa using fun e=>h e.symm
 ·intro hq
  refine A5.2 ?_
  have hi:=Ij (p:=fun x=>decide (v=x)) (l:=l) hq
  push_cast[AZ (Nat.le_refl _)]
  exact A1 (by push_cast[Lx.rs,hi])
def cap (n:Nat):Nat:=if n<1099511627776 then n else 1099511627776
theorem V3 (n:Nat):cap n<=1099511627776:=by unfold cap;split<;>omega
theorem YF (a b:Nat):(if ((cap a:Int)+(cap b:Int))<1099511627776 then (cap a:Int)+(cap b:Int) else 1099511627776)=((cap (a+b):Nat):Int):=by
 unfold cap;split<;>split<;>split<;>split<;>omega
theorem lA:(1:Int)=((cap 1:Nat):Int):=rfl
theorem Rt {f:Term->Term}{D:Nat}:∀ {l:List Term},(∀ a∈l,depth (f a)<=D)->AD (l.map f)<=D
 | [],_=>by simp[AD]
 | a::l,h=>by
  simp only[List.map_cons,AD]
  have h1:=h a (by simp)
  have h2:=Rt (f:=f) (l:=l) fun b hb=>h b (by simp[hb])
  omega
theorem jz {l:List Term}{k:Nat}:depth (l.getD k default)<=max 1 (AD l):=by
 by_cases h:k<l.length
 ·have:=Lu (A4 h);omega
 ·rw[List.getD_eq_getElem?_getD,List.getElem?_eq_none (by omega)]
  exact Nat.le_max_left _ _
theorem Xw (vars:List A9)(x:List Term)(t:Term):depth (D7 vars x t)<=depth t+AD x:=by
 induction t using Ai with
 | h t ih =>
  have hda:=Fz t
  rw[M6]
  split
  ·have:=jz (l:=x) (k:=Mu t.name vars);omega
  ·simp only[depth]
   have:=Rt (f:=D7 vars x) (D:=AD t.args+AD x) (l:=t.args) fun a ha=>by
    have:=ih a ha
    have:=Lu ha
    omega
   omega
theorem iK (r:List A2)(f:A2->Term){B:Nat}(hB:∀ x∈r,depth (f x)<=B)(m:A0)(hok:Hm r m):depth (Ad r f m)<=AR m*(1+B):=by
 induction m using BU with
 | h m ih =>
  have hd:AD (m.args.map (Ad r f))<=AT m.args*(1+B):=by
   have:∀ l:List A0,(∀ a∈l,depth (Ad r f a)<=AR a*(1+B))->AD (l.map (Ad r f))<=AT l*(1+B):=by
    intro l
    induction l with
    | nil=>intro _;simp[AD]
    | cons a l ihl =>
     intro h
     have h1:=h a (by simp)
     have h2:=ihl fun b hb=>h b (by simp[hb])
     simp only[List.map_cons,AD,AT]
     have h3:AR a*(1+B)<=max (AR a) (AT l)*(1+B):=Nat.mul_le_mul_right _ (Nat.le_max_left _ _)
     have h4:AT l*(1+B)<=max (AR a) (AT l)*(1+B):=Nat.mul_le_mul_right _ (Nat.le_max_right _ _)
     omega
   exact this m.args fun a ha=>ih a ha (hok.arg ha)
  rw[DK,CB,Nat.succ_mul]
  split
  ·simp only[depth];omega
  ·rename_i h0
   have:=Xw (AA [(At r m).left]) (m.args.map (Ad r f)) (f (At r m))
   have:=hB _ (hok.rule h0).2.2.1
   omega
theorem cj (vars:List A9)(x:List Term)(hva:vars.length<=x.length)(hl:vars.length<2^40)(D:Nat)(hD:AD x<=D)(hD2:D<2^40)(t:Term)(ht:size t<2^40)(ho:∀ v,CI v t=true->v∈vars) :
  PF Lh [An t,Bw vars,I0 (x.map fun a=>((cap (size a):Nat):Int)),I0 (x.map fun a=>((depth a:Nat):Int))] (.tup [.int .i64 (cap (size (D7 vars x t)):Nat),.int .i64 (depth (D7 vars x t):Nat)]):=by
 induction t using Ai with
 | h t ih =>
 have hst:=AJ t
 have hll:=Am t.args
 have hdz:=HB t
 have hdp:=Xw vars x t
 refine Ab Jn.ok rfl ?_
 rw[M6]at hdp ⊢
 cases hv:t.var with
 | true =>
  obtain⟨h1,h2,h3⟩:=Gc (ho _ (U8 hv))
  have hI:=Vy vars t.name (by omega)
  rw[h1]at hI
  have hlt:((Mu t.name vars:Int)<(x.length:Int))=True:=eq_true (by omega)
  have hix:Mu t.name vars<x.length:=by omega
  have hg1:(x.map fun a=>((cap (size a):Nat):Int)).getD (Mu t.name vars) default=(cap (size (x.getD (Mu t.name vars) default)):Nat):=by
   simp[List.getD_eq_getElem?_getD,hix]
  have hg2:(x.map fun a=>((depth a:Nat):Int)).getD (Mu t.name vars) default=(depth (x.getD (Mu t.name vars) default):Nat):=by
   simp[List.getD_eq_getElem?_getD,hix]
  push_cast[hv]
  refine .of hI ?_
  push_cast[hlt,hg1,hg2]
  refine⟨by rw[List.length_map];omega,by rw[List.length_map];omega,A1 ?_⟩
  push_cast[Jn.rs]
 | false =>
  rw[hv,if_neg (by simp)]at hdp
  rw[if_neg (by simp)]
  simp only[size,depth]at hdp ⊢
  push_cast[hv]
  rw[lA]
  refine Ac (n:=t.args.length) (R:=fun k=>Jn.L3 (Bw vars) (I0 (x.map fun a=>((cap (size a):Nat):Int))) (I0 (x.map fun a=>((depth a:Nat):Int))) (.int .i64 (cap (1+Ae ((t.args.take k).map (D7 vars x))):Nat)) (.int .i64 (AD ((t.args.take k).map (D7 vars x)):Nat)) (Bk t.args) (.int .i64 t.args.length) (.int .i64 k) 0 []
   (Bo 0 Jn.rs fun x' H'=>x'=.tup [.int .i64 (cap (1+Ae (t.args.map (D7 vars x))):Nat),.int .i64 ((AD (t.args.map (D7 vars x))+1:Nat):Int)]/\H'=[])) ?_ ?_ 0 (by omega)
  ·intro k hk ih2
   have hm:=A4 hk
   have hm2:=By hm
   have hs1:Ae ((t.args.take (k+1)).map (D7 vars x))=Ae ((t.args.take k).map (D7 vars x))+size (D7 vars x (t.args.getD k default)):=by
    rw[Aa hk,List.map_append,Cm];simp[Ae]
   have hd1:AD ((t.args.take (k+1)).map (D7 vars x))=max (AD ((t.args.take k).map (D7 vars x))) (depth (D7 vars x (t.args.getD k default))):=by
    rw[Aa hk,List.map_append,EM];simp[AD]
   rw[hs1,hd1,<-Nat.add_assoc]at ih2
   have hc1:=V3 (1+Ae ((t.args.take k).map (D7 vars x)))
   have hc2:=V3 (size (D7 vars x (t.args.getD k default)))
   refine A5.2 ?_
   push_cast[BC hk]
   refine .of (ih _ hm (by omega) fun v hv2=>ho v (WN hm hv2)) ?_
   have hst2:=YF (1+Ae ((t.args.take k).map (D7 vars x))) (size (D7 vars x (t.args.getD k default)))
   generalize size (D7 vars x (t.args.getD k default))=sa at ih2 hc2 hst2 ⊢
   generalize depth (D7 vars x (t.args.getD k default))=da at ih2 ⊢
   generalize 1+Ae ((t.args.take k).map (D7 vars x))=sb at ih2 hc1 hst2 ⊢
   have hw:IntKind.i64.wrap ((cap sb:Int)+(cap sa:Int))=(cap sb:Int)+(cap sa:Int):=Bn (by omega) (by omega)
   push_cast[hw,hst2,CD (show k<2^62 by omega)]
   exact ih2
  ·refine A5.2 ?_
   push_cast[AZ (Nat.le_refl _),List.take_length]
   rw[Bn (by omega) (by omega)]
   refine A1 ?_
   push_cast[Jn.rs]
   try rfl
theorem Ze (r:List A2)(b:Bool)(hr:KJ r<2^28)(hvs:∀ x∈r,∀ v,CI v (sd b x)=true->v∈AA [x.left])(m:A0)(hok:Hm r m)(hm:As m<2^30)(hmd:AR m<=200) :
  PF JX [Al r,AP m,.bool b] (.tup [.int .i64 (cap (size (Ad r (sd b) m)):Nat),.int .i64 (depth (Ad r (sd b) m):Nat)]):=by
 induction m using BU with
 | h m ih =>
 have hst:=AU m
 have hdt:=CB m
 have hll:=B7 m.args
 have hsdz:∀ x∈r,size (sd b x)<268435456:=fun x hx=>by
  have:=Gi hx
  have:=AX x.left
  have:=AX x.right
  cases b<;>(simp only[sd,if_true,if_false,Bool.false_eq_true];omega)
 have hdm:∀ a∈m.args,depth (Ad r (sd b) a)<=53687091400:=fun a ha=>by
  have h1:=iK r (sd b) (B:=268435456) (fun x hx=>by have:=hsdz x hx;have:=HB (sd b x);omega) a (hok.arg ha)
  have h2:AR a<=AT m.args:=by
   have:∀ l:List A0,a∈l->AR a<=AT l:=by
    intro l
    induction l with
    | nil=>intro h;cases h
    | cons x xs ihx=>intro h;rcases List.mem_cons.1 h with rfl | h<;>simp only[AT];omega;have:=ihx h;omega
   exact this _ ha
  have h3:AR a*(1+268435456)<=200*(1+268435456):=Nat.mul_le_mul_right _ (by omega)
  omega
 have hds:AD (m.args.map (Ad r (sd b)))<=53687091400:=by
  have:∀ l:List A0,(∀ a∈l,depth (Ad r (sd b) a)<=53687091400)->AD (l.map (Ad r (sd b)))<=53687091400:=by
   intro l
   induction l with
   | nil=>intro _;simp[AD]
   | cons a l ihl =>
    intro h
    have h1:=h a (by simp)
    have h2:=ihl fun c hc=>h c (by simp[hc])
    simp only[List.map_cons,AD];omega
  exact this _ hdm
 refine Ab Ii.ok rfl ?_
 push_cast
 rw[lA]
 refine Ac (n:=m.args.length) (R:=fun k=>Ii.L4 (Al r) (.bool b) (.ro (cM m) 0) (Bf cI 0 1 (((m.args.take k).map (Ad r (sd b))).map fun a=>((cap (size a):Nat):Int))) (Bf cI 1 1 (((m.args.take k).map (Ad r (sd b))).map fun a=>((depth a:Nat):Int))) (.int .i64 (cap (1+Ae ((m.args.take k).map (Ad r (sd b)))):Nat)) (.int .i64 (AD ((m.args.take k).map (Ad r (sd b))):Nat)) (Av m.args) (.int .i64 m.args.length) (.int .i64 k) 0 [.arr F1 1 k,.arr F1 1 k]
  (Bo 0 Ii.rs fun x' H'=>x'=.tup [.int .i64 (cap (size (Ad r (sd b) m)):Nat),.int .i64 (depth (Ad r (sd b) m):Nat)]/\H'=[])) ?_ ?_ 0 (by omega)
 ·intro k hk ih2
  have hmm:=A4 hk
  have hm2:=CP hmm
  have hmd2:AR (m.args.getD k default)<=200:=by
   have:∀ l:List A0,∀ a∈l,AR a<=AT l:=by
    intro l a
    induction l with
    | nil=>intro h;cases h
    | cons x xs ihx=>intro h;rcases List.mem_cons.1 h with rfl | h<;>simp only[AT];omega;have:=ihx h;omega
   have:=this _ _ hmm
   omega
  have hdk:=hdm _ hmm
  have htk:m.args.take (k+1)=m.args.take k++[m.args.getD k default]:=Aa hk
  rw[htk,List.map_append,Cm,EM,List.map_append,List.map_append,List.map_singleton,List.map_singleton,List.map_singleton]at ih2
  simp only[Ae,AD,Nat.add_zero,Nat.max_zero]at ih2
  rw[<-Nat.add_assoc]at ih2
  have hih:=ih _ hmm (hok.arg hmm) (by omega) hmd2
  have hl1:((m.args.take k).map (Ad r (sd b))).length=k:=by simp;omega
  refine A5.2 ?_
  push_cast[BC hk]
  refine .of hih ?_
  generalize Ad r (sd b) (m.args.getD k default)=u at ih2 hdk ⊢
  generalize (m.args.take k).map (Ad r (sd b))=us at ih2 hl1 ⊢
  have hc1:=V3 (1+Ae us)
  have hc2:=V3 (size u)
  have hst2:=YF (1+Ae us) (size u)
  generalize 1+Ae us=sb at ih2 hc1 hst2 ⊢
  have hw:IntKind.i64.wrap ((cap sb:Int)+(cap (size u):Int))=(cap sb:Int)+(cap (size u):Int):=Bn (by omega) (by omega)
  have hm1:(us.map fun a=>((cap (size a):Nat):Int)).length=k:=by rw[List.length_map,hl1]
  have hm2:(us.map fun a=>((depth a:Nat):Int)).length=k:=by rw[List.length_map,hl1]
  have e5:∀ (i:Nat)(l:List Int)(v:Int),V.own i 1 (List.map cI l++[[V.int .i64 v]])=Bf cI i 1 (l++[v]):=fun i l v=>by simp[Bf,cI]
  push_cast[hw,hst2,hm1,hm2,e5,CD (show k<2^62 by omega)]
  refine⟨by unfold Ah;omega,by unfold Ah;omega,?_⟩
  exact ih2
 ·refine A5.2 ?_
  push_cast[AZ (Nat.le_refl _),List.take_length]
  rw[DK]
  by_cases h0:m.rule=0
  ·have h0i:(0<m.rule)=False:=eq_false (by omega)
   rw[if_pos h0]
   simp only[size,depth]
   push_cast[h0i]
   rw[Bn (by omega) (by omega)]
   refine A1 ?_
   push_cast[Ii.rs]
   try rfl
  ·obtain⟨k1,k2,k3,k4,k5,k6⟩:=hok.rule h0
   rw[if_neg h0]
   have hw:IntKind.i64.wrap (m.rule-1)=m.rule-1:=Bn (by have:=Bl r;omega) (by have:=Bl r;omega)
   have hc1:((0:Int)<=m.rule-1)=True:=eq_true (by omega)
   have hc2:(m.rule-1<(r.length:Int))=True:=eq_true (by omega)
   have hc3:(0<m.rule)=True:=eq_true k1
   have hru:r.getD (m.rule-1).toNat default=At r m:=rfl
   have hrm:=Gi k3
   have hF:=cj (AA [(At r m).left]) (m.args.map (Ad r (sd b))) (by rw[List.length_map,k4];exact Nat.le_refl _) (by rw[<-k4];omega) 53687091400 hds (by omega) (sd b (At r m)) (by have:=hsdz _ k3;omega) (hvs _ k3)
   push_cast[hc3,hw,hc1,hc2,hru]
   refine .of (YI (At r m) b) ?_
   push_cast[hc3,hw,hc1,hc2,hru]
   refine .of (LO (At r m) (by omega)) ?_
   push_cast
   refine .of hF ?_
   push_cast
   exact A1 (by push_cast[Ii.rs])
def O1 (vars:List A9)(x:List Term):List A7:=List.zipWith A7.mk vars x
theorem Vo {v:A9}:∀ {vars:List A9} {x:List Term},v∈vars->vars.length<=x.length->Af (O1 vars x) v=some (x.getD (Mu v vars) default)
 | [],_,h,_=>by cases h
 | w::vars,[],_,hl=>by simp at hl
 | w::vars,u::x,h,hl=>by
  simp only[O1,List.zipWith_cons_cons,Af]
  unfold Mu
  simp only[Ld]
  by_cases he:v=w
  ·subst he;simp
  ·have hm:v∈vars:=(List.mem_cons.1 h).resolve_left he
   obtain⟨h1,h2,h3⟩:=Gc hm
   have hd:decide (v=w)=false:=by simpa using he
   have ih:=Vo (x:=x) hm (by simpa using hl)
   unfold O1 at ih
   rw[if_neg (fun e=>he e.symm)]
   simp only[hd,Bool.false_eq_true,if_false]
   rw[h1,ih]
   have hn:¬ ((Mu v vars:Nat):Int)<0:=by omega
   have h4:(((Mu v vars:Nat):Int)+1).toNat=Mu v vars+1:=by omega
   simp only[hn,if_false,h4]
   simp[List.getD_eq_getElem?_getD]
theorem kl (vars:List A9)(x:List Term)(hl:vars.length<=x.length)(t:Term)(ho:∀ v,CI v t=true->v∈vars):AC (O1 vars x) t=D7 vars x t:=by
 induction t using Ai with
 | h t ih =>
  rw[Is,M6]
  cases hv:t.var with
  | true=>rw[if_pos rfl,if_pos rfl,Vo (ho _ (U8 hv)) hl];rfl
  | false =>
   rw[if_neg (by simp),if_neg (by simp)]
   congr 1
   exact List.map_congr_left fun a ha=>ih a ha fun v hv2=>ho v (WN ha hv2)
theorem iJ {vars:List A9}{x:List Term}{k:Nat}(hk:k<vars.length)(hl:vars.length<=x.length):O1 (vars.take (k+1)) x=O1 (vars.take k) x++[⟨vars.getD k default,x.getD k default⟩]:=by
 unfold O1
 apply List.ext_getElem?
 intro i
 have hx:k<x.length:=by omega
 by_cases h1:i<k
 ·rw[List.getElem?_append_left (by simp;omega)]
  simp[List.getElem?_zipWith,List.getElem?_take,h1,show i<k+1 by omega]
 ·by_cases h2:i=k
  ·subst h2
   rw[List.getElem?_append_right (by simp;omega)]
   simp[List.getElem?_zipWith,List.getElem?_take,hk,hx,List.getD_eq_getElem?_getD,show min i vars.length=i by omega,show min i x.length=i by omega]
  ·rw[List.getElem?_eq_none (by simp;omega),List.getElem?_eq_none (by simp;omega)]
theorem pd {i:Nat}{l:List A7}{n:A9}{t:Term}:(.own i 4 (l.map cB++[V.str n::cT t]):V)=Bf cB i 4 (l++[⟨n,t⟩]):=by simp[Bf,cB]
theorem eP (r:List A2)(b:Bool)(hr:KJ r<2^28)(hvs:∀ x∈r,∀ v,CI v (sd b x)=true->v∈AA [x.left])(m:A0)(hok:Hm r m)(hm:As m<2^30) :
  PF MJ [Al r,AP m,.bool b] (An (Ad r (sd b) m)):=by
 induction m using BU with
 | h m ih =>
 have hst:=AU m
 have hll:=B7 m.args
 refine Ab Jp.ok rfl ?_
 rw[DK]
 push_cast
 refine Ac (n:=m.args.length) (R:=fun k=>Jp.L8 (Al r) (.bool b) (.ro (cM m) 0) (.ptr 0 0) (Bf cT 1 3 ((m.args.take k).map (Ad r (sd b)))) (Av m.args) (.int .i64 m.args.length) (.int .i64 k) 0 [.cells A3 [.str [],.bool false,.sl 3 []],.arr A3 3 k] _) ?_ ?_ 0 (by omega)
 ·intro k hk ih2
  have hmm:=A4 hk
  have hm2:=CP hmm
  have hlen:((m.args.take k).map (Ad r (sd b))).length=k:=by simp;omega
  rw[Aa hk,List.map_append,List.map_singleton]at ih2
  refine A5.2 ?_
  push_cast[BC hk]
  refine .of (ih _ hmm (hok.arg hmm) (by omega)) ?_
  push_cast[hlen,CD (show k<2^62 by omega)]
  exact⟨Nat.le_trans (Nat.mul_le_mul_right 48 (show _<=2^41 by omega)) (by unfold Ah;decide),ih2⟩
 ·refine A5.2 ?_
  push_cast[AZ (Nat.le_refl _),List.take_length]
  by_cases h0:m.rule=0
  ·push_cast[eq_true h0]
   refine A1 ?_
   push_cast[Jp.rs]
   show V.agg [.str m.name,.bool m.var,Bk (m.args.map (Ad r (sd b)))]=An (.mk m.name m.var (m.args.map (Ad r (sd b))))
   unfold An;rw[P7];rfl
  ·obtain⟨k1,k2,k3,k4,k5,k6⟩:=hok.rule h0
   have hw:IntKind.i64.wrap (m.rule-1)=m.rule-1:=Bn (by have:=Bl r;omega) (by have:=Bl r;omega)
   have hc1:((0:Int)<=m.rule-1)=True:=eq_true (by omega)
   have hc2:(m.rule-1<(r.length:Int))=True:=eq_true (by omega)
   have hru:r.getD (m.rule-1).toNat default=At r m:=rfl
   have hrm:=Gi k3
   have hzl:=AX (At r m).left
   have hzr:=AX (At r m).right
   push_cast[eq_false h0,hw,hc1,hc2,hru]
   refine .of (LO (At r m) (by omega)) ?_
   push_cast
   have hxl:(m.args.map (Ad r (sd b))).length=m.args.length:=List.length_map ..
   have hbi:=kl (AA [(At r m).left]) (m.args.map (Ad r (sd b))) (by rw[hxl,k4];exact Nat.le_refl _) (sd b (At r m)) (hvs _ k3)
   generalize hvv:AA [(At r m).left]=vars at k4 hbi ⊢
   generalize hxx:m.args.map (Ad r (sd b))=x at hxl hbi ⊢
   have hvl:vars.length<=x.length:=by omega
   have h9:=Ac (n:=vars.length) (R:=fun k=>Jp.L3 (.bool b) (.ptr 0 0) (Bf cT 1 3 x) (.ro (cR (At r m)) 0) (Bf cB 3 4 (O1 (vars.take k) x)) (Bw vars) (.int .i64 vars.length) (.int .i64 k) 0 [.cells A3 [.str [],.bool false,.sl 3 []],.arr A3 3 m.args.length,.dead,.arr Cc 4 k] (Bo 0 Jp.rs fun x' H'=>x'=An (D7 vars x (sd b (At r m)))/\H'=[])) ?_ ?_ 0 (by omega)
   ·simp only[List.take_zero,O1,List.zipWith_nil_left]at h9
    exact h9
   ·intro k hk ih2
    have hkx:((k:Int)<(x.length:Int))=True:=eq_true (by omega)
    have hbl:(O1 (vars.take k) x).length=k:=by unfold O1;simp;omega
    rw[iJ hk hvl]at ih2
    refine A5.2 ?_
    push_cast[BC hk,hkx,hbl,CD (show k<2^62 by omega)]
    refine⟨by unfold Ah;omega,?_⟩
    rw[pd]
    exact ih2
   ·refine A5.2 ?_
    push_cast[AZ (Nat.le_refl _),List.take_length]
    refine .of (YI (At r m) b) ?_
    push_cast
    refine .of (Eu (O1 vars x) (by unfold O1;simp;omega) (sd b (At r m)) (by cases b<;>(simp only[sd,if_true,if_false,Bool.false_eq_true];omega))) ?_
    rw[hbi]
    push_cast
    exact A1 (by push_cast[Jp.rs])
theorem Ab5 (n:Nat):4000<cap n↔4000<n:=by unfold cap;split<;>omega
def gn (r:List A2)(f:A2->Term)(m:A0):Option Term×Int:=if BJ (Ad r f m) then (some (Ad r f m),0) else (none,3)
theorem Oe (r:List A2)(b:Bool)(hr:KJ r<2^28)(hvs:∀ x∈r,∀ v,CI v (sd b x)=true->v∈AA [x.left])(m:A0)(hok:Hm r m)(hm:As m<2^30)(hmd:AR m<=200) :
  PF DD [Al r,AP m,.bool b] (Hj (gn r (sd b) m).1 (gn r (sd b) m).2):=by
 refine Ab Qt.ok rfl ?_
 push_cast
 refine .of (Ze r b hr hvs m hok hm hmd) ?_
 have hB:=eP r b hr hvs m hok hm
 unfold gn BJ
 generalize Ad r (sd b) m=t at hB ⊢
 have hcg:=Ab5 (size t)
 by_cases h1:4000<size t
 ·have hi:((4000:Int)<(cap (size t):Int))=True:=eq_true (by omega)
  have h1':decide (size t<=4000)=false:=by simp;omega
  rw[h1']
  push_cast[hi]
  exact A1 (by push_cast[Qt.rs];rfl)
 ·have hi:((4000:Int)<(cap (size t):Int))=False:=eq_false (by omega)
  have h1':decide (size t<=4000)=true:=by simp;omega
  rw[h1']
  by_cases h2:200<depth t
  ·have hj:((200:Int)<(depth t:Int))=True:=eq_true (by omega)
   have h2':decide (depth t<=200)=false:=by simp;omega
   rw[h2']
   push_cast[hi,hj]
   exact A1 (by push_cast[Qt.rs];rfl)
  ·have hj:((200:Int)<(depth t:Int))=False:=eq_false (by omega)
   have h2':decide (depth t<=200)=true:=by simp;omega
   rw[h2']
   push_cast[hi,hj]
   refine .of hB ?_
   push_cast
   exact A1 (by push_cast[Qt.rs];try rfl)
theorem xy:sd false=A2.left:=rfl
theorem QI {r:List A2}{f:A2->Term}{m:A0}(h:FC r m=0):Ga r f m=gn r f m:=by
 unfold Ga gn;rw[if_neg (by simpa using h)]
theorem np:short (default:Term)=true:=by decide
theorem jA (vars:List A9)(x:List Term)(hx:∀ a∈x,short a=true)(t:Term)(ht:short t=true):short (D7 vars x t)=true:=by
 induction t using Ai with
 | h t ih =>
  obtain⟨h1,h2,h3⟩:=C4.1 ht
  rw[M6]
  split
  ·by_cases hk:Mu t.name vars<x.length
   ·exact hx _ (A4 hk)
   ·rw[List.getD_eq_getElem?_getD,List.getElem?_eq_none (by omega)];exact np
  ·refine C4.2 ⟨h1,fun h=>(by cases h),fun a ha=>?_⟩
   obtain⟨u,hu,rfl⟩:=List.mem_map.1 ha
   exact ih u hu (h3 u hu)
theorem jH (r:List A2)(f:A2->Term)(hf:∀ x∈r,short (f x)=true)(m:A0)(hok:Hm r m):short (Ad r f m)=true:=by
 induction m using BU with
 | h m ih =>
  have hx:∀ a∈m.args.map (Ad r f),short a=true:=fun a ha=>by
   obtain⟨u,hu,rfl⟩:=List.mem_map.1 ha
   exact ih u hu (hok.arg hu)
  rw[DK]
  split
  ·rename_i h0
   have hfm:=F5 hok.fm
   unfold Bv at hfm
   rw[if_neg (by omega)]at hfm
   cases hv:m.var with
   | true =>
    rw[hv,if_pos rfl,Bool.and_eq_true,decide_eq_true_eq]at hfm
    have hn:BW m.name false=true:=hfm.2
    unfold BW at hn
    rw[Bool.and_eq_true,decide_eq_true_eq]at hn
    have ha:m.args=[]:=List.length_eq_zero_iff.1 hfm.1
    exact C4.2 ⟨hn.1,fun _=>(by show m.args.map _=[];rw[ha];rfl),hx⟩
   | false =>
    rw[hv,if_neg (by simp),Bool.and_eq_true]at hfm
    have hn:BW m.name true=true:=hfm.2
    unfold BW at hn
    rw[Bool.and_eq_true,decide_eq_true_eq]at hn
    exact C4.2 ⟨hn.1,fun h=>(by cases h),hx⟩
  ·rename_i h0
   exact jA _ _ hx _ (hf _ (hok.rule h0).2.2.1)
theorem Na (m:A0)(hs:As m<2^40):PF JL [AP m,AP m] (.bool true):=by
 induction m using BU with
 | h m ih =>
 have hst:=AU m
 have hll:=B7 m.args
 refine Ab QC.ok rfl ?_
 have e:∀ x:Bool,(x != x)=false:=fun x=>by cases x<;>rfl
 push_cast[e]
 refine Ac (n:=m.args.length) (R:=fun k=>QC.L3 (.ro (cM m) 0) (.ro (cM m) 0) (.int .i64 m.args.length) (.int .i64 k) 0 [] (Bo 0 QC.rs fun x' H'=>x'=.bool true/\H'=[])) ?_ ?_ 0 (by omega)
 ·intro k hk ih2
  have hmm:=A4 hk
  have hm2:=CP hmm
  refine A5.2 ?_
  push_cast[BC hk]
  refine .of (ih _ hmm (by omega)) ?_
  push_cast[BC hk,CD (show k<2^62 by omega)]
  exact ih2
 ·refine A5.2 ?_
  push_cast[AZ (Nat.le_refl _)]
  exact A1 (by push_cast[QC.rs])
mutual
def oO (v:A9):Term->List (List Int)
 | .mk n b l=>(if b&&decide (n=v) then [[]] else [])++aU v l 0
def aU (v:A9):List Term->Nat->List (List Int)
 | [],_=>[]
 | a::l,i=>(oO v a).map ((i:Int)::·)++aU v l (i+1)
end
theorem gI (v:A9)(a b:List (List Int×Term)):W8 v (a++b)=W8 v a++W8 v b:=by unfold W8;rw[List.filter_append,List.map_append]
mutual
theorem Yq (v:A9):∀ (t:Term)(p:List Int),W8 v (Aq t p)=(oO v t).map (p++·)
 | .mk n b l,p=>by
  have h:=VQ v l p 0
  have h1:W8 v ((p,Term.mk n b l)::B9 l p 0)=(if b&&decide (n=v) then [p] else [])++W8 v (B9 l p 0):=by
   unfold W8
   rw[List.filter_cons]
   show List.map Prod.fst (if (b&&decide (n=v))=true then _ else _)=_
   split<;>simp
  simp only[Aq,oO,h1,h,List.map_append]
  congr 1
  split<;>simp
theorem VQ (v:A9):∀ (l:List Term)(p:List Int)(i:Nat),W8 v (B9 l p i)=(aU v l i).map (p++·)
 | [],p,i=>rfl
 | a::l,p,i=>by
  simp only[B9,aU,gI,Yq v a,VQ v l p (i+1),List.map_append,List.map_map]
  congr 1
  apply List.map_congr_left
  intro q _;simp
end
theorem uO (t:Term)(v:A9):Xo t v=oO v t:=by
 unfold Xo
 rw[Yq]
 simp
mutual
theorem UL (v:A9):∀ t:Term,CI v t=true->oO v t≠[]
 | .mk n b l,h=>by
  simp only[CI,Bool.or_eq_true]at h
  simp only[oO]
  rcases h with h | h
  ·rw[if_pos h];simp
  ·have:=Xr v l 0 h
   simp[this]
theorem Xr (v:A9):∀ (l:List Term)(i:Nat),EW v l=true->aU v l i≠[]
 | [],i,h=>by cases h
 | a::l,i,h=>by
  simp only[EW,Bool.or_eq_true]at h
  simp only[aU]
  rcases h with h | h
  ·have:=UL v a h
   simp[this]
  ·have:=Xr v l (i+1) h
   simp[this]
end
def Xu:A0->List Int->A0
 | m,[]=>m
 | m,i::p=>Xu (m.args.getD i.toNat default) p
theorem KU (t:Term):(AA [t]).Nodup:=by
 have h2:(I7 [] [t]).Nodup:=by
  show (Rl [] (Aq t [])).Nodup
  exact Yl _ _ List.nodup_nil
 exact (List.mergeSort_perm _ _).nodup_iff.2 h2
theorem gN {vars:List A9}(hn:vars.Nodup){k:Nat}(hk:k<vars.length):Mu (vars.getD k default) vars=k:=by
 obtain⟨i1,i2,i3⟩:=Gc (A4 hk)
 generalize hv:vars.getD k default=v at i1 i2 i3 ⊢
 rw[List.getD_eq_getElem?_getD,List.getElem?_eq_getElem hk,Option.getD_some]at hv
 rw[List.getD_eq_getElem?_getD,List.getElem?_eq_getElem i2,Option.getD_some]at i3
 exact (List.getElem_inj hn).1 (i3.trans hv.symm)
mutual
def Fo (vars:List A9)(x:List A0):Term->A0
 | .mk n v l=>if v then x.getD (Mu n vars) default else .mk 0 n false (Wr vars x l)
def Wr (vars:List A9)(x:List A0):List Term->List A0
 | []=>[]
 | a::l=>Fo vars x a::Wr vars x l
end
theorem fB (vars:List A9)(x:List A0)(l:List Term):Wr vars x l=l.map (Fo vars x):=by induction l with | nil=>rfl | cons a l ih=>simp[Wr,ih]
theorem Ux (vars:List A9)(x:List A0)(t:Term):Fo vars x t=if t.var then x.getD (Mu t.name vars) default else .mk 0 t.name false (t.args.map (Fo vars x)):=by cases t;simp only[Fo,fB,Term.name,Term.var,Term.args];rfl
theorem Si {l:List A0}{a:A0}(h:a∈l):AR a<=AT l:=by
 induction l with
 | nil=>cases h
 | cons x xs ih=>rcases List.mem_cons.1 h with rfl | h<;>simp only[AT];omega;have:=ih h;omega
theorem cc (vars:List A9)(x:List A0)(hva:vars.length<=x.length)(hl:vars.length<2^40)(t:Term)(ht:size t<2^40)(ho:∀ v,CI v t=true->v∈vars):PF KY [An t,Bw vars,Av x] (AP (Fo vars x t)):=by
 induction t using Ai with
 | h t ih =>
 have hst:=AJ t
 have hll:=Am t.args
 refine Ab LJ.ok rfl ?_
 rw[Ux]
 cases hv:t.var with
 | true =>
  obtain⟨h1,h2,h3⟩:=Gc (ho _ (U8 hv))
  have hI:=FA vars t.name (by omega)
  rw[h1]at hI
  have hlt:((Mu t.name vars:Int)<(x.length:Int))=True:=eq_true (by omega)
  push_cast[hv]
  refine .of hI ?_
  push_cast[hlt]
  exact A1 (by push_cast[LJ.rs])
 | false =>
  push_cast[hv]
  refine Ac (n:=t.args.length) (R:=fun k=>LJ.L3 (Bw vars) (Av x) (.ptr 0 0) (.ptr 1 0) (Bk t.args) (.int .i64 t.args.length) (.int .i64 k) 0 [.cells A8 [.int .i64 0,.str [],.bool false,.sl 4 []],.cells A8 [.int .i64 0,.str t.name,.bool false,Bf cM 2 4 ((t.args.take k).map (Fo vars x))],.arr A8 4 k] _) ?_ ?_ 0 (by omega)
  ·intro k hk ih2
   have hm:=A4 hk
   have hm2:=By hm
   have hlen:((t.args.take k).map (Fo vars x)).length=k:=by simp;omega
   rw[Aa hk,List.map_append,List.map_singleton]at ih2
   refine A5.2 ?_
   push_cast[BC hk]
   refine .of (ih _ hm (by omega) fun v hv2=>ho v (WN hm hv2)) ?_
   push_cast[hlen,CD (show k<2^62 by omega)]
   exact⟨by unfold Ah;omega,ih2⟩
  ·refine A5.2 ?_
   push_cast[AZ (Nat.le_refl _)]
   refine A1 ?_
   push_cast[LJ.rs,List.take_length,zC]
   try rfl
theorem Bq {σ:Nat->Option Nat}{l:List A0}:(l.map cM).map (AS σ)=l.map cM:=by rw[List.map_map];rfl
theorem gV (l:List A0)(hl:l.length<2^38):Spec prog Dy [Av l] [] fun x H'=>x=.rw 0 4 l.length/\H'=[.row A8 4 (l.map cM)]:=by
 refine AK mixed GB.ok rfl ?_
 push_cast
 intro c hc
 cases c with
 | true =>
  have hnil:l=[]:=by simpa using hc rfl
  subst hnil
  push_cast
  refine⟨fun _=>?_,fun h=>absurd h (by decide)⟩
  exact SX (.inl rfl) [1] (x:=.rw 1 4 0) (by simp) (by simp) rfl ⟨rfl,rfl⟩
 | false =>
  push_cast
  refine⟨fun h=>absurd h (by decide),fun _=>⟨by rw[List.length_map];unfold Ah;omega,?_⟩⟩
  rw[List.length_map]
  refine SX (.inl rfl) [2] (x:=.rw 2 4 l.length) (by simp) (by simp) rfl ⟨rfl,?_⟩
  show [A6 _ (.row A8 4 (l.map cM))]=_
  rw[Jv,Bq]
theorem uF (t:Term)(v:A9):Xo t v=(Fp t).filter fun p=>match Dm t p with | some x=>x.var&&decide (x.name=v) | none=>false:=by
 unfold Xo W8
 have h1:=Lp t []
 simp only[List.nil_append,List.map_id']at h1
 rw[<-h1,List.filter_map]
 congr 1
 apply List.filter_congr
 intro x hx
 obtain⟨q,hq,hs⟩:=Qy t [] x hx
 rw[List.nil_append]at hq
 simp only[Function.comp,hq,hs,isV]
theorem T0 (r:List A2)(m:A0)(hr:KJ r<2^28)(hm:mb m<2^28):PF Ir [Al r,AP m] (.int .i64 (Ga r A2.left m).2):=by
 have hmz:=GC m
 refine Ab HD.ok rfl ?_
 push_cast
 refine .of (gx r m (by omega) (by omega)) ?_
 by_cases h1:FC r m=0
 ·obtain⟨c1,c2,c3,c4⟩:=GY h1
  have hA:=Oe r false (by omega) (fun x _=>MO x) m c2 (by omega) c4
  rw[xy,<-QI h1]at hA
  push_cast[h1]
  refine .of hA ?_
  generalize Ga r A2.left m=o
  obtain⟨o,e⟩:=o
  cases o<;>(unfold Hj;push_cast;exact A1 (by push_cast[HD.rs];try rfl))
 ·have:Ga r A2.left m=(none,FC r m):=by unfold Ga;rw[if_pos h1]
  rw[this]
  push_cast[eq_false h1]
  exact A1 (by push_cast[HD.rs];try rfl)
theorem V4 {r:List A2}{f:A2->Term}{m:A0}(h:(Ga r f m).2=0):FC r m=0/\BJ (Ad r f m)=true/\Ga r f m=(some (Ad r f m),0):=by
 unfold Ga at h ⊢
 split at h
 ·rename_i h1;exact absurd h h1
 ·rename_i h1
  rw[if_neg h1]
  split at h
  ·rename_i h2
   rw[if_pos h2]
   exact⟨Classical.not_not.1 h1,h2,rfl⟩
  ·cases h
end Go.Dw
