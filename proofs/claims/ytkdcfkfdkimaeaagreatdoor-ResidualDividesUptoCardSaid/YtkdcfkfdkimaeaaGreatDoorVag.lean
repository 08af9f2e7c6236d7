/-
  Contracts and lemmas for ResidualDivides: part g of 10.
-/
import Derived.Test.YtkdcfkfdkimaeaaGreatDoorVaf
import Derived.Test.YtkdcfkfdkimaeaaGreatDoorVae
import Derived.Test.YtkdcfkfdkimaeaaGreatDoorVad
import Derived.WalkKit
import Derived.Laws.MathBits
import Derived.Lib.LaidTab
import Derived.Stop.LaidErr
import Derived.Shelf.Strconv.Itoa4
import Derived.Test.YtkdcfkfdkimaeaaGreatDoorRows
import Derived.Ground.NamesProg
set_option linter.unusedVariables false
set_option linter.unusedSimpArgs false
set_option maxRecDepth 100000
namespace Go.Dw
theorem Ld {l:List Term}{a:Term}(h:a∈l):depth a<=AC l:=by
 induction l with
 | nil=>cases h
 | cons x xs ih=>rcases List.mem_cons.1 h with rfl | h<;>simp only[AC];omega;have:=ih h;omega
mutual
theorem QE:∀ (t:Term)(p:List Int),∀ x∈Aq t p,size x.2<=size t/\x.1.length<=p.length+size t
 | .mk n v l,p,x,hx=>by
  rw[GQ]at hx
  rcases List.mem_cons.1 hx with rfl | hx
  ·exact⟨Nat.le_refl _,Nat.le_add_right _ _⟩
  ·have:=Yf l p 0 x hx
   simp only[size]
   omega
theorem Yf:∀ (l:List Term)(p:List Int)(i:Nat),∀ x∈B6 l p i,size x.2<=Ac l/\x.1.length<=p.length+1+Ac l
 | [],p,i,x,hx=>by simp[B6]at hx
 | a::l,p,i,x,hx=>by
  simp only[B6,List.mem_append]at hx
  simp only[Ac]
  rcases hx with hx | hx
  ·have:=QE a _ x hx
   simp only[List.length_append,List.length_singleton]at this
   omega
  ·have:=Yf l _ _ x hx;omega
end
def Uu (n:A9)(v:Bool)(k:Nat):Bool:=if v then decide (k=0)&&Cb n false else decide (k<=8)&&Cb n true
theorem NS {t:Term}:Ca t=true↔Uu t.name t.var t.args.length=true/\∀ a∈t.args,Ca a=true:=by
 rw[EU]
 unfold Uu
 cases t.var with
 | true =>
  simp only[if_true,Bool.and_eq_true,decide_eq_true_eq]
  refine⟨fun h=>⟨h,fun a ha=>?_⟩,fun h=>h.1⟩
  rw[List.length_eq_zero_iff.1 h.1]at ha;cases ha
 | false=>simp[and_assoc]
theorem Nk {t:Term}:F2 t=0↔Ca t=true/\BO t=true:=by
 unfold F2
 cases Ca t<;>cases BO t<;>simp
theorem I9 {r:List A2}(h:Am r=0):∀ x∈r,F2 x.left=0/\F2 x.right=0:=by
 have h1:Bl r=0:=by
  unfold Am at h
  split at h
  ·rename_i h1;exact absurd h h1
  ·rename_i h1;simpa using h1
 unfold Bl at h1
 split at h1
 ·omega
 ·exact N6 h1
theorem AcV {σ:Nat->Option Nat}{l:List Term}:(l.map cT).map (AR σ)=l.map cT:=by rw[List.map_map];rfl
namespace xC
end xC
theorem lP {σ:Nat->Option Nat}{l:List Yy}:(l.map gK).map (AR σ)=l.map gK:=by rw[List.map_map];rfl
attribute [push_cast] lP
mutual
def Fe:Term->List (List Int)
 | .mk n v l=>[]::Ij l 0
def Ij:List Term->Nat->List (List Int)
 | [],_=>[]
 | a::l,i=>(Fe a).map ((i:Int)::·)++Ij l (i+1)
end
theorem xx (t:Term):Fe t=[]::Ij t.args 0:=by cases t;simp[Fe,Term.args]
mutual
theorem Lc:∀ (t:Term)(p:List Int),(Aq t p).map Prod.fst=(Fe t).map (p++·)
 | .mk n v l,p=>by
  simp only[Aq,Fe,List.map_cons,List.append_nil,Wy l p 0]
theorem Wy:∀ (l:List Term)(p:List Int)(i:Nat),(B6 l p i).map Prod.fst=(Ij l i).map (p++·)
 | [],p,i=>rfl
 | a::l,p,i=>by
  simp only[B6,Ij,List.map_append,Lc a,Wy l p (i+1),List.map_map]
  congr 1
  apply List.map_congr_left
  intro q _;simp
end
theorem bO (a b:List Term)(i:Nat):Ij (a++b) i=Ij a i++Ij b (i+a.length):=by
 induction a generalizing i with
 | nil=>simp[Ij]
 | cons x xs ih=>simp only[List.cons_append,Ij,ih,List.append_assoc,List.length_cons];congr 3;omega
theorem iY (l:List Term){k:Nat}(hk:k<l.length):Ij (l.take (k+1)) 0=Ij (l.take k) 0++(Fe (l.getD k default)).map ((k:Int)::·):=by
 rw[List.take_succ_eq_append_getElem hk,bO,List.length_take,Nat.min_eq_left (by omega)]
 simp[Ij,List.getD_eq_getElem?_getD,List.getElem?_eq_getElem hk]
theorem WR (t:Term):(Fe t).length=size t:=by
 have h:=congrArg List.length (Lc t [])
 simp only[List.length_map]at h
 rw[<-h];exact Nl t []
theorem aG:∀ (l:List Term)(i:Nat),(Ij l i).length=Ac l
 | [],i=>rfl
 | a::l,i=>by simp only[Ij,List.length_append,List.length_map,WR,aG l (i+1),Ac]
theorem iV (t:Term):∀ p∈Fe t,p.length<=size t:=by
 intro p hp
 have h:=Lc t []
 have:p∈(Fe t).map ([]++·):=by simpa using hp
 rw[<-h]at this
 obtain⟨x,hx,rfl⟩:=List.mem_map.1 this
 have:=(QE t [] x hx).2
 simpa using this
theorem VC (t:Term)(hs:size t<2^38):PF Hg [Ap t] (SO (Fe t)):=by
 induction t using Ag with
 | h t ih =>
 refine Ab Eu.ok rfl ?_
 have hst:=AJ t
 have hl:=Aj t.args
 push_cast
 rw[show (V.own 0 1 [[V.sl 1 []]]:V)=Bf uu 0 1 ([]::Ij (t.args.take 0) 0) from rfl]
 refine Ad (n:=t.args.length) (R:=fun k=>Eu.L6 (Bf uu 0 1 ([]::Ij (t.args.take k) 0)) (Bg t.args) (.int .i64 t.args.length) (.int .i64 k) 0 [.arr Wb 1 (1+Ac (t.args.take k))] (Bx 0 Eu.rs fun x' H'=>x'=SO (Fe t)/\H'=[])) ?_ ?_ 0 (Nat.zero_le _)
 ·intro k hk ih2
  have hm:=A4 hk
  have hsn:=iY t.args hk
  have hss:=Ft t.args k hk
  have hsl:=Ez t.args (k+1)
  have hsz:=Bt hm
  refine A8.2 ?_
  generalize hx:t.args.getD k default=a at hm hsn hss hsz
  push_cast[BT hk,hx]
  refine .of (ih a hm (by omega)) ?_
  push_cast
  have hpl:=WR a
  have h0:=Ad (n:=(Fe a).length) (R:=fun j=>Eu.L4 (Bf uu 0 1 ([]::(Ij (t.args.take k) 0++((Fe a).take j).map ((k:Int)::·)))) (.int .i64 k) (Bg t.args) (.int .i64 t.args.length) (.int .i64 k) (SO (Fe a)) (.int .i64 (Fe a).length) (.int .i64 j) 0 [.arr Wb 1 (1+Ac (t.args.take k)+j),.dead] (Bx 0 Eu.rs fun x' H'=>x'=SO (Fe t)/\H'=[])) ?_ ?_ 0 (Nat.zero_le _)
  ·simp only[List.take_zero,List.map_nil,List.append_nil,Nat.add_zero]at h0
   exact h0
  ·intro j hj ih3
   have hmj:=A4 hj
   have hsj:=iV a _ hmj
   refine A8.2 ?_
   have htk:(Fe a).take (j+1)=(Fe a).take j++[(Fe a).getD j default]:=by rw[List.take_succ_eq_append_getElem hj];simp[List.getD_eq_getElem?_getD,hj]
   generalize hq:(Fe a).getD j default=q at hmj hsj htk
   push_cast[BT hj,hq]
   have e1:(Ij (t.args.take k) 0).length=Ac (t.args.take k):=aG _ _
   have e2:(List.map (fun x=>(k:Int)::x) ((Fe a).take j)).length=j:=by simp;omega
   have e3:(List.map cI q).length=q.length:=by simp
   have e4:∀ X:List (List Int),V.own 0 1 (uu []::(List.map uu X++[[V.sl 1 ([V.int IntKind.i64 ↑k]::List.map cI q)]]))=Bf uu 0 1 ([]::(X++[(k:Int)::q])):=fun X=>by simp[Bf,uu,DI,cI]
   rw[e1,e2,e3,e4,CV (show j<2^62 by omega)]
   rw[htk,List.map_append,<-List.append_assoc]at ih3
   have hme:Ah=140737488355328:=rfl
   refine⟨by omega,⟨by omega,by omega⟩,?_⟩
   rw[show Ac (t.args.take k)+j+1+1=1+Ac (t.args.take k)+(j+1) by omega]
   exact ih3
  ·refine A8.2 ?_
   push_cast[B8 (Nat.le_refl _)]
   rw[List.take_length,CV (show k<2^62 by omega),<-hsn,hpl,Nat.add_assoc,<-hss]
   exact ih2
 ·refine A8.2 ?_
  push_cast[B8 (Nat.le_refl _)]
  refine A1 ?_
  push_cast[Eu.rs,List.take_length,xx t]
  try rfl
def isV (v:A9)(x:List Int×Term):Bool:=x.2.var&&decide (x.2.name=v)
def VJ (v:A9)(l:List (List Int×Term)):List (List Int):=(l.filter (isV v)).map Prod.fst
def XJ (t:Term)(v:A9):List (List Int):=VJ v (Aq t [])
end Go.Dw
section
namespace Go.Dw
namespace lm
def nd:Nat->C
 | 0=>.R [.mv 4 (.i (-1))] (.ret)
 | 1=>.gh [.ks 0 [0,1,7,8]] (.m 3)
 | 2=>.seq (.blk 1 (.R [.A 10 8,.A 5 10] (.R [.A 11 1,.A 12 0,.A 13 5,.G 14 3 12 13,.E 15 3 14,.callv (some 16) (.s 11) [.s 15]] (.W 16 (.R [.A 17 5,.A 4 17] (.ret)) (.skip))))) (.reg [.X 18 .add 8 1,.A 8 18])
 | 3=>.R [.V 9 .lss 8 7] (.seq (.W 9 (.skip) (.exit 0)) (.n 2))
 | _=>.skip
def body:C:=.R [.mv 4 (.i 0)] (.seq (.R [.A 6 0,.Y 7 6,.mv 8 (.i 0)] (.J 0 1)) (.n 0))
def rs:List RV:=[.t 4]
attribute [push_cast] nd body
theorem ok:B9 prog Bb nd body 2 rs=true:=by kernel_rfl
abbrev L3 (a b c d:V)(B:Nat)(H:Dh)(Q:QX):Prop:=AB prog nd B (DW 3 1 0 0) [(0,a),(1,b),(7,c),(8,d)] H Q
end lm
namespace yT
def nd (_:Nat):C:=.skip
def body:C:=.R [.mv 4 (.c (.bool false))] (.R [.A 5 0,.A 6 1,.call (some 7) Bb [.s 5,.s 6],.X 8 .geq 7 0,.A 4 8] (.ret))
def rs:List RV:=[.t 4]
attribute [push_cast] nd body
theorem ok:B9 prog AN nd body 2 rs=true:=by kernel_rfl
end yT
def Vk {S:Type}(F:S->Term->S×Bool)(s:S):List Term->S×Bool
 | []=>(s,false)
 | a::l=>if (F s a).2 then ((F s a).1,true) else Vk F (F s a).1 l
def tw {S:Type}(F:S->Term->S×Bool)(s:S)(k:Nat):List Term->Int
 | []=>-1
 | a::l=>if (F s a).2 then k else tw F (F s a).1 (k+1) l
theorem pW {S:Type}(F:S->Term->S×Bool):∀ (l:List Term)(s:S)(k:Nat),0<=tw F s k l↔(Vk F s l).2=true
 | [],s,k=>by simp[tw,Vk]
 | a::l,s,k=>by
  unfold tw Vk
  by_cases h:(F s a).2=true
  ·rw[if_pos h,if_pos h];simp
  ·rw[if_neg h,if_neg h];exact pW F l _ _
section
variable {S:Type} {F:S->Term->S × Bool} {Hs:S->List Ob} {Inv:S->Prop} {g n:Nat} {caps:List V} (hn:∀ s,(Hs s).length = n) (hc:AR (AM n) caps = caps) (hH:∀ s,(Hs s).map (A5 (AM n)) = Hs s)
 (l:List Term) (hl:l.length<2^62) (h:∀ a∈l,∀ s,Inv s->Spec prog g (Ap a::caps) (Hs s) fun x H'=>x=.bool (F s a).2/\H'=Hs (F s a).1) (hi:∀ a∈l,∀ s,Inv s->(F s a).2=false->Inv (F s a).1)
include hn hc hH hl h hi
theorem bI (s0:S)(h0:Inv s0):Spec prog Bb [Bg l,.fn (.func g) [] caps] (Hs s0) fun x H'=>x=.int .i64 (tw F s0 0 l)/\H'=Hs (Vk F s0 l).1:=by
 have htk:∀ s,(Hs s).take n=Hs s:=fun s=>List.take_of_length_le (by rw[hn];exact Nat.le_refl _)
 refine AK mixed lm.ok rfl ?_
 push_cast[hc,hH,hn,htk]
 refine Ad (n:=l.length) (R:=fun k=>∀ s,Inv s->tw F s k (l.drop k)=tw F s0 0 l->Vk F s (l.drop k)=Vk F s0 l->lm.L3 (Bg l) (.fn (.func g) [] caps) (.int .i64 l.length) (.int .i64 k) n (Hs s) (Bx n lm.rs fun x H'=>x=.int .i64 (tw F s0 0 l)/\H'=Hs (Vk F s0 l).1)) ?_ ?_ 0 (Nat.zero_le _) s0 h0 rfl rfl
 ·intro k hk ih s hs hq1 hq2
  refine A8.2 ?_
  have hm:=A4 hk
  rw[Al hk]at hq1 hq2
  generalize hx:l.getD k default=a at hm hq1 hq2
  simp only[tw,Vk]at hq1 hq2
  push_cast[BT hk,hx]
  refine By.all (R:=fun x H'=>x=.bool (F s a).2/\H'=Hs (F s a).1) (h a hm s hs) ?_
  rintro x H' ⟨rfl,rfl⟩
  cases hp:(F s a).2 with
  | true =>
   rw[hp,if_pos rfl]at hq1 hq2
   push_cast
   exact Dy (.inl rfl) rfl ⟨by rw[<-hq1];rfl,by rw[<-hq2]⟩
  | false =>
   rw[hp,if_neg (by simp)]at hq1 hq2
   push_cast[hc,hH,hn,htk,CV (show k<2^62 by omega)]
   have:=ih _ (hi a hm s hs hp) hq1 hq2
   push_cast at this
   exact this
 ·intro s hs hq1 hq2
  refine A8.2 ?_
  push_cast[B8 (Nat.le_refl _)]
  rw[Ao]at hq1 hq2
  exact Dy (.inl rfl) rfl ⟨by rw[<-hq1];rfl,by rw[<-hq2];rfl⟩
theorem OR (s0:S)(h0:Inv s0):Spec prog AN [Bg l,.fn (.func g) [] caps] (Hs s0) fun x H'=>x=.bool (Vk F s0 l).2/\H'=Hs (Vk F s0 l).1:=by
 refine AK mixed yT.ok rfl ?_
 push_cast
 refine By.all (R:=fun x H'=>x=.int .i64 (tw F s0 0 l)/\H'=Hs (Vk F s0 l).1) (bI hn hc hH l hl h hi s0 h0) ?_
 rintro x H' ⟨rfl,rfl⟩
 push_cast
 have hd:decide (0<=tw F s0 0 l)=(Vk F s0 l).2:=by
  have:=pW F l s0 0
  cases hq:(Vk F s0 l).2 with
  | true=>rw[hq]at this;simpa using this
  | false=>rw[hq]at this;simpa using this
 rw[hn]
 exact Dy (.inl rfl) rfl ⟨by rw[<-hd];rfl,rfl⟩
end
mutual
def Pa (n:Int):Term->Int×Bool
 | .mk _ _ l=>if n-1<0 then (n-1,true) else Su (n-1) l
def Su (n:Int):List Term->Int×Bool
 | []=>(n,false)
 | a::l=>if (Pa n a).2 then ((Pa n a).1,true) else Su (Pa n a).1 l
end
theorem xI (n:Int)(t:Term):Pa n t=if n-1<0 then (n-1,true) else Su (n-1) t.args:=by cases t;rfl
theorem rx (n:Int)(l:List Term):Su n l=Vk Pa n l:=by
 induction l generalizing n with
 | nil=>rfl
 | cons a l ih=>simp only[Su,Vk,ih]
mutual
theorem Y5:∀ (t:Term)(n:Int),0<=n->((size t:Int)<=n->Pa n t=(n-size t,false))/\(n<(size t:Int)->(Pa n t).2=true)
 | .mk x v l,n,hn=>by
  have hs:size (.mk x v l)=1+Ac l:=rfl
  rw[hs]
  simp only[Pa]
  by_cases h:n-1<0
  ·rw[if_pos h]
   exact⟨fun h2=>by omega,fun _=>rfl⟩
  ·rw[if_neg h]
   have:=ZP l (n-1) (by omega)
   refine⟨fun h2=>?_,fun h2=>this.2 (by omega)⟩
   rw[this.1 (by omega)]
   congr 1;omega
theorem ZP:∀ (l:List Term)(n:Int),0<=n->((Ac l:Int)<=n->Su n l=(n-Ac l,false))/\(n<(Ac l:Int)->(Su n l).2=true)
 | [],n,hn=>⟨fun _=>by simp[Su,Ac],fun h=>by simp[Ac]at h;omega⟩
 | a::l,n,hn=>by
  have hs:Ac (a::l)=size a+Ac l:=rfl
  rw[hs]
  simp only[Su]
  have h1:=Y5 a n hn
  by_cases h2:(size a:Int)<=n
  ·have h3:=ZP l (n-size a) (by omega)
   rw[h1.1 h2]
   simp only[Bool.false_eq_true,if_false]
   refine⟨fun h4=>?_,fun h4=>h3.2 (by omega)⟩
   rw[h3.1 (by omega)]
   congr 1;omega
  ·rw[h1.2 (by omega),if_pos rfl]
   exact⟨fun h4=>by omega,fun _=>rfl⟩
end
theorem se {n:Int}{t:Term}(hn:0<=n/\n<=4000)(h:(Pa n t).2=false):0<=(Pa n t).1/\(Pa n t).1<=4000:=by
 have:=Y5 t n hn.1
 by_cases h2:(size t:Int)<=n
 ·rw[this.1 h2];simp;omega
 ·rw[this.2 (by omega)]at h;cases h
mutual
def Di:Term->Nat
 | .mk _ _ l=>max l.length (K1 l)
def K1:List Term->Nat
 | []=>0
 | a::l=>max (Di a) (K1 l)
end
theorem E9 (t:Term):t.args.length<=Di t/\K1 t.args<=Di t:=by cases t;simp only[Di,Term.args];omega
theorem TE {l:List Term}{a:Term}(h:a∈l):Di a<=K1 l:=by
 induction l with
 | nil=>cases h
 | cons x xs ih=>rcases List.mem_cons.1 h with rfl | h<;>simp only[K1];omega;have:=ih h;omega
def PT (n:Int):List Ob:=[.cells EN [.int .i64 n],.cells GD [.fn (.func Dq) [] [.ptr 0 0,.ptr 1 0]]]
theorem fD (n:Int):(PT n).map (A5 (AM 2))=PT n:=rfl
theorem VB (W:Nat)(hW:W<2^60)(t:Term)(hw:Di t<=W):∀ n:Int,0<=n/\n<=4000->Spec prog Dq [Ap t,.ptr 0 0,.ptr 1 0] (PT n) fun x H'=>x=.bool (Pa n t).2/\H'=PT (Pa n t).1:=by
 induction t using Ag with
 | h t ih =>
 intro n hn
 have hwa:=E9 t
 have hw1:IntKind.i64.wrap (n-1)=n-1:=Bs (by omega) (by omega)
 refine AK mixed Rb.ok rfl ?_
 rw[xI]
 by_cases h:n-1<0
 ·rw[if_pos h]
  unfold PT
  push_cast[hw1,eq_true h]
  exact Dy (.inl rfl) rfl ⟨rfl,rfl⟩
 ·rw[if_neg h,rx]
  have hC:=OR (S:=Int) (F:=Pa) (Hs:=PT) (Inv:=fun n=>0<=n/\n<=4000) (g:=Dq) (n:=2) (caps:=[.ptr 0 0,.ptr 1 0]) (fun _=>rfl) rfl fD t.args (by omega)
   (fun a ha s hs=>ih a ha (by have:=TE ha;omega) s hs) (fun a ha s hs hf=>se hs hf) (n-1) (by omega)
  unfold PT at hC ⊢
  push_cast[hw1,eq_false h]
  refine By.all (R:=fun x H'=>x=.bool (Vk Pa (n-1) t.args).2/\H'=[.cells EN [.int .i64 (Vk Pa (n-1) t.args).1],.cells GD [.fn (.func Dq) [] [.ptr 0 0,.ptr 1 0]]]) hC ?_
  rintro x H' ⟨rfl,rfl⟩
  push_cast
  exact Dy (.inl rfl) rfl ⟨rfl,rfl⟩
theorem Z2 (t:Term)(hw:Di t<2^60):PF MQ [Ap t] (.bool (decide (4000<size t))):=by
 refine Ab Qs.ok rfl ?_
 push_cast
 have hL:=VB _ hw t (Nat.le_refl _) 4000 (by omega)
 unfold PT at hL
 refine By.all (R:=fun x H'=>x=.bool (Pa 4000 t).2/\H'=[.cells EN [.int .i64 (Pa 4000 t).1],.cells GD [.fn (.func Dq) [] [.ptr 0 0,.ptr 1 0]]]) hL ?_
 rintro x H' ⟨rfl,rfl⟩
 push_cast
 refine A1 ?_
 push_cast[Qs.rs]
 have:=Y5 t 4000 (by omega)
 by_cases h:4000<size t
 ·rw[this.2 (by omega)];simpa using h
 ·rw[this.1 (by omega)];simpa using h
end Go.Dw
end
section
namespace Go.Dw
mutual
theorem Pl:∀ (t:Term)(p:List Int),∀ x∈Aq t p,∃ q,x.1=p++q/\Dg t q=some x.2
 | .mk n v l,p,x,hx=>by
  simp only[Aq]at hx
  rcases List.mem_cons.1 hx with rfl | hx
  ·exact⟨[],by simp,rfl⟩
  ·obtain⟨k,q,h1,h2,h3⟩:=ae l p 0 x hx
   refine⟨(k:Int)::q,by simpa using h1,?_⟩
   rw[show Dg (.mk n v l) ((k:Int)::q)=if 0<=(k:Int)/\(k:Int)<l.length then Dg (l.getD (k:Int).toNat default) q else none from rfl,if_pos ⟨by omega,by omega⟩]
   simpa using h3
theorem ae:∀ (l:List Term)(p:List Int)(i:Nat),∀ x∈B6 l p i,∃ (k:Nat) (q:List Int),x.1=p++((i+k:Nat):Int)::q/\k<l.length/\Dg (l.getD k default) q=some x.2
 | [],p,i,x,hx=>by simp[B6]at hx
 | a::l,p,i,x,hx=>by
  simp only[B6,List.mem_append]at hx
  rcases hx with hx | hx
  ·obtain⟨q,h1,h2⟩:=Pl a _ x hx
   exact⟨0,q,by simpa using h1,by simp,by simpa using h2⟩
  ·obtain⟨k,q,h1,h2,h3⟩:=ae l p (i+1) x hx
   refine⟨k+1,q,?_,by simp;omega,by simpa using h3⟩
   rw[h1];congr 3;omega
end
theorem lL (t:Term){k:Nat}(hk:k<(Fe t).length):Dg t ((Fe t).getD k default)=some ((Aq t []).getD k default).2/\((Aq t []).getD k default).1=(Fe t).getD k default:=by
 have hl:k<(Aq t []).length:=by rw[Nl];rw[WR]at hk;exact hk
 have hm:(Aq t []).getD k default∈Aq t []:=A4 hl
 obtain⟨q,h1,h2⟩:=Pl t [] _ hm
 have h3:=Lc t []
 have h4:((Aq t []).map Prod.fst).getD k default=((Fe t).map ([]++·)).getD k default:=by rw[h3]
 have h5:((Aq t []).getD k default).1=(Fe t).getD k default:=by
  simp only[List.getD_eq_getElem?_getD,List.getElem?_map,List.getElem?_eq_getElem hl,List.getElem?_eq_getElem hk,Option.map_some,Option.getD_some,List.nil_append]at h4 ⊢
  exact h4
 refine⟨?_,h5⟩
 rw[<-h5,h1,List.nil_append];exact h2
section
variable {P:Program} {N:Nat->C} {B:Nat} {ds:List Nat} {g l:List S} {s:List K} {t:T} {H:List Ob} {Q:X->T->List Ob->Prop}
theorem AeC:gP P N B true ds g l s t H Q (.bool true)=AB P N B (.r (g++l)::s) t H Q:=by simp[gP]
theorem Aez:gP P N B false ds g l s t H Q (.bool false)=AB P N B (.r (g++l)::s) t H Q:=by simp[gP]
theorem AeE:gP P N B true ds g l s t H Q (.bool false)=AB P N B (.r l::s) (ds.map (fun d=>(d,V.tup []))++t) H Q:=by simp[gP]
theorem AeB:gP P N B false ds g l s t H Q (.bool true)=AB P N B (.r l::s) (ds.map (fun d=>(d,V.tup []))++t) H Q:=by simp[gP]
theorem AeQ {a b:C}:cP P N B a b s t H Q (.bool true)=AB P N B (.c a::s) t H Q:=by simp[cP]
theorem AeN {a b:C}:cP P N B a b s t H Q (.bool false)=AB P N B (.c b::s) t H Q:=by simp[cP]
end
end Go.Dw
end
namespace Go.Dw
theorem XK {r:List A2}(h:Am r=0):∀ x∈r,x.left.var=false:=by
 unfold Am at h
 split at h
 ·rename_i h1;exact absurd h h1
 ·split at h
  ·cases h
  ·split at h
   ·cases h
   ·split at h
    ·cases h
    ·rename_i h3
     intro x hx
     have h4:Lr x=false:=by
      cases he:Lr x with
      | false=>rfl
      | true=>exact absurd (List.any_eq_true.2 ⟨x,hx,he⟩) h3
     unfold Lr at h4
     simp only[Bool.or_eq_false_iff]at h4
     exact h4.1
theorem UA (v:A9)(t:Term):Cz v t=((t.var&&decide (t.name=v))||EQ v t.args):=by cases t;rfl
theorem gq {v:A9}{l:List Term}{a:Term}(h:a∈l)(ho:Cz v a=true):EQ v l=true:=by
 induction l with
 | nil=>cases h
 | cons x xs ih =>
  simp only[EQ,Bool.or_eq_true]
  rcases List.mem_cons.1 h with rfl | h
  ·exact .inl ho
  ·exact .inr (ih h)
theorem Sx {v:A9}{t a:Term}(h:a∈t.args)(ho:Cz v a=true):Cz v t=true:=by rw[UA,gq h ho,Bool.or_true]
theorem PL {t:Term}(h:t.var=true):Cz t.name t=true:=by rw[UA,h];simp
theorem cD (vars:List A9)(x:List Term)(hva:vars.length<=x.length)(hl:vars.length<2^40)(t:Term)(ht:size t<2^40)(ho:∀ v,Cz v t=true->v∈vars):PF KL [Ap t,Bo vars,Bg x] (Ap (CI vars x t)):=by
 induction t using Ag with
 | h t ih =>
 have hst:=AJ t
 have hll:=Aj t.args
 refine Ab Lo.ok rfl ?_
 rw[M3]
 cases hv:t.var with
 | true =>
  obtain⟨h1,h2,h3⟩:=Ff (ho _ (PL hv))
  have hI:=Fo vars t.name (by omega)
  rw[h1]at hI
  have hlt:((Mu t.name vars:Int)<(x.length:Int))=True:=eq_true (by omega)
  push_cast[hv]
  refine .of hI ?_
  push_cast[hlt]
  exact A1 (by push_cast[Lo.rs])
 | false =>
  push_cast[hv]
  refine Ad (n:=t.args.length) (R:=fun k=>Lo.L3 (Bo vars) (Bg x) (.ptr 0 0) (.ptr 1 0) (Bg t.args) (.int .i64 t.args.length) (.int .i64 k) 0 [.cells A3 [.str [],.bool false,.sl 3 []],.cells A3 [.str t.name,.bool false,Bf cT 2 3 ((t.args.take k).map (CI vars x))],.arr A3 3 k] _) ?_ ?_ 0 (by omega)
  ·intro k hk ih2
   have hm:=A4 hk
   have hm2:=Bt hm
   have hlen:((t.args.take k).map (CI vars x)).length=k:=by simp;omega
   rw[Aa hk,List.map_append,List.map_singleton]at ih2
   refine A8.2 ?_
   push_cast[BT hk]
   refine .of (ih _ hm (by omega) fun v hv2=>ho v (Sx hm hv2)) ?_
   push_cast[hlen,CV (show k<2^62 by omega)]
   exact⟨Nat.le_trans (Nat.mul_le_mul_right 48 (show _<=2^41 by omega)) (by unfold Ah;decide),ih2⟩
  ·refine A8.2 ?_
   push_cast[B8 (Nat.le_refl _)]
   refine A1 ?_
   push_cast[Lo.rs,List.take_length,zf]
   try rfl
theorem cv (r:List A2)(f:A2->Term)(g:Nat)(hr:KZ r<2^38)(hof:∀ x∈r,PF g [JW x] (Ap (f x)))(hsz:∀ x∈r,size (f x)<2^40)(hvs:∀ x∈r,∀ v,Cz v (f x)=true->v∈AA [x.left])(m:A0)(hok:GY r m)(hm:As m<2^39) :
  PF KC [Ak r,Ar m,.fn (.func g) [] []] (Ap (Af r f m)):=by
 induction m using Cr with
 | h m ih =>
 have hst:=AQ m
 have hll:=AV m.args
 refine Ab M6.ok rfl ?_
 rw[De]
 push_cast
 refine Ad (n:=m.args.length) (R:=fun k=>M6.L4 (Ak r) (.fn (.func g) [] []) (.ro (cM m) 0) (.ptr 0 0) (Bf cT 1 3 ((m.args.take k).map (Af r f))) (CB m.args) (.int .i64 m.args.length) (.int .i64 k) 0 [.cells A3 [.str [],.bool false,.sl 3 []],.arr A3 3 k] _) ?_ ?_ 0 (by omega)
 ·intro k hk ih2
  have hmm:=A4 hk
  have hm2:=CL hmm
  have hlen:((m.args.take k).map (Af r f)).length=k:=by simp;omega
  rw[Aa hk,List.map_append,List.map_singleton]at ih2
  refine A8.2 ?_
  push_cast[BT hk]
  refine .of (ih _ hmm (hok.arg hmm) (by omega)) ?_
  push_cast[hlen,CV (show k<2^62 by omega)]
  exact⟨Nat.le_trans (Nat.mul_le_mul_right 48 (show _<=2^41 by omega)) (by unfold Ah;decide),ih2⟩
 ·refine A8.2 ?_
  push_cast[B8 (Nat.le_refl _),List.take_length]
  by_cases h0:m.rule=0
  ·push_cast[eq_true h0]
   refine A1 ?_
   push_cast[M6.rs]
   show V.agg [.str m.name,.bool m.var,Bg (m.args.map (Af r f))]=Ap (.mk m.name m.var (m.args.map (Af r f)))
   unfold Ap;rw[OV];rfl
  ·obtain⟨k1,k2,k3,k4,k5,k6⟩:=hok.rule h0
   have hw:IntKind.i64.wrap (m.rule-1)=m.rule-1:=Bs (by have:=Bh r;omega) (by have:=Bh r;omega)
   have hc1:((0:Int)<=m.rule-1)=True:=eq_true (by omega)
   have hc2:(m.rule-1<(r.length:Int))=True:=eq_true (by omega)
   have hru:r.getD (m.rule-1).toNat default=Au r m:=rfl
   have hrm:=FQ k3
   have hsl:=AS (Au r m).left
   have hV:=Ew [(Au r m).left] (by simp[Ac];omega)
   push_cast[eq_false h0,hw,hc1,hc2,hru]
   refine .of (hof _ k3) ?_
   push_cast
   refine .of hV ?_
   push_cast
   refine .of (cD (AA [(Au r m).left]) (m.args.map (Af r f)) (by rw[List.length_map,k4];exact Nat.le_refl _) (by rw[<-k4];omega) _ (hsz _ k3) (hvs _ k3)) ?_
   push_cast
   exact A1 (by push_cast[M6.rs])
theorem Us {α:Type}{f:α->Term}{W:Nat}:∀ {l:List α},(∀ a∈l,Di (f a)<=W)->K1 (l.map f)<=W
 | [],_=>by simp[K1]
 | a::l,h=>by
  simp only[List.map_cons,K1]
  have h1:=h a (by simp)
  have h2:=Us (f:=f) (l:=l) fun b hb=>h b (by simp[hb])
  omega
theorem gZ {l:List Term}{k:Nat}:Di (l.getD k default)<=K1 l:=by
 by_cases h:k<l.length
 ·exact TE (A4 h)
 ·rw[List.getD_eq_getElem?_getD,List.getElem?_eq_none (by omega)]
  exact Nat.zero_le _
theorem mT (vars:List A9)(x:List Term)(t:Term):Di (CI vars x t)<=max (K1 x) (size t):=by
 induction t using Ag with
 | h t ih =>
  rw[M3]
  have hst:=AJ t
  have hll:=Aj t.args
  split
  ·have:=gZ (l:=x) (k:=Mu t.name vars);omega
  ·simp only[Di,List.length_map]
   have:=Us (f:=CI vars x) (W:=max (K1 x) (size t)) (l:=t.args) fun a ha=>by
    have:=ih a ha
    have:=Bt ha
    omega
   omega
theorem ny (r:List A2)(f:A2->Term){W:Nat}(hsz:∀ x∈r,size (f x)<=W)(m:A0)(hok:GY r m)(hm:As m<=W):Di (Af r f m)<=W:=by
 induction m using Cr with
 | h m ih =>
  rw[De]
  have hst:=AQ m
  have hll:=AV m.args
  have hw:=Us (f:=Af r f) (W:=W) (l:=m.args) fun a ha=>ih a ha (hok.arg ha) (by have:=CL ha;omega)
  split
  ·simp only[Di,List.length_map];omega
  ·rename_i h0
   have:=mT (AA [(Au r m).left]) (m.args.map (Af r f)) (f (Au r m))
   have:=hsz _ (hok.rule h0).2.2.1
   omega
theorem UT (r:List A2)(f:A2->Term)(g:Nat)(m:A0)(hr:KZ r<2^38)(hm:mb m<2^38)(hof:∀ x∈r,PF g [JW x] (Ap (f x)))(hsz:∀ x∈r,size (f x)<2^40)(hvs:Am r=0->∀ x∈r,∀ v,Cz v (f x)=true->v∈AA [x.left]) :
  PF MD [Ak r,Ar m,.fn (.func g) [] []] (GK (Gt r f m).1 (Gt r f m).2):=by
 have hmz:=Gd m
 refine Ab Lb.ok rfl ?_
 push_cast
 refine .of (YT r m hr (by omega)) ?_
 unfold Gt
 by_cases h1:¬ FH r m=0
 ·rw[if_pos h1]
  push_cast[eq_false h1]
  exact A1 (by push_cast[Lb.rs];rfl)
 have h1:FH r m=0:=Classical.not_not.1 h1
 rw[if_neg (by simpa using h1)]
 obtain⟨c1,c2,c3,c4⟩:=FC h1
 have hS:=cv r f g hr hof hsz (hvs c1) m c2 (by omega)
 have hwd:=ny r f (W:=2^40) (fun x hx=>by have:=hsz x hx;omega) m c2 (by omega)
 generalize Af r f m=t at hS hwd
 push_cast[h1]
 refine .of hS ?_
 push_cast
 refine .of (Z2 t (by omega)) ?_
 by_cases h2:4000<size t
 ·have hf:BO t=false:=by unfold BO;simp;omega
  rw[hf]
  push_cast[eq_true h2]
  exact A1 (by push_cast[Lb.rs];rfl)
 ·push_cast[eq_false h2]
  refine .of (NZ t (by omega)) ?_
  push_cast
  refine .of (XD t (by omega)) ?_
  cases hf:BO t with
  | true =>
   rw[if_pos rfl,if_pos rfl]
   unfold GK
   push_cast
   exact A1 (by push_cast[Lb.rs];try rfl)
  | false =>
   rw[if_neg (by simp),if_neg (by simp)]
   unfold GK
   push_cast
   exact A1 (by push_cast[Lb.rs];try rfl)
theorem HW (x:A2):∀ v,Cz v x.left=true->v∈AA [x.left]:=fun v h=>(DQ v x.left).2 h
theorem KP {r:List A2}(h:Am r=0):∀ x∈r,∀ v,Cz v x.right=true->v∈AA [x.left]:=by
 unfold Am at h
 split at h
 ·rename_i h1;exact absurd h h1
 ·split at h
  ·cases h
  ·split at h
   ·cases h
   ·split at h
    ·cases h
    ·rename_i h3
     intro x hx v hv
     have h4:Lr x=false:=by
      cases he:Lr x with
      | false=>rfl
      | true=>exact absurd (List.any_eq_true.2 ⟨x,hx,he⟩) h3
     unfold Lr at h4
     simp only[Bool.or_eq_false_iff]at h4
     have:=List.any_eq_false.1 h4.2 v ((DQ v x.right).2 hv)
     simpa using this
theorem Um (x:A2):PF GJ [JW x] (Ap x.left):=by
 refine Ab Lw.ok rfl ?_
 push_cast
 exact A1 (by push_cast[Lw.rs];try rfl)
theorem U1 (x:A2):PF Gx [JW x] (Ap x.right):=by
 refine Ab LW.ok rfl ?_
 push_cast
 exact A1 (by push_cast[LW.rs];try rfl)
theorem XL (r:List A2)(m:A0)(hr:KZ r<2^38)(hm:mb m<2^38):PF LH [Ak r,Ar m] (GK (Gt r A2.left m).1 (Gt r A2.left m).2):=by
 refine Ab OC.ok rfl ?_
 have hE:=UT r A2.left GJ m hr hm (fun x _=>Um x) (fun x hx=>by have:=FQ hx;have:=AS x.left;omega) (fun _ x _=>HW x)
 push_cast
 refine .of hE ?_
 generalize (Gt r A2.left m)=p
 obtain⟨o,e⟩:=p
 cases o<;>(unfold GK;push_cast;exact A1 (by push_cast[OC.rs];try rfl))
theorem YA (r:List A2)(m:A0)(hr:KZ r<2^38)(hm:mb m<2^38):PF LJ [Ak r,Ar m] (GK (Gt r A2.right m).1 (Gt r A2.right m).2):=by
 refine Ab O5.ok rfl ?_
 have hE:=UT r A2.right Gx m hr hm (fun x _=>U1 x) (fun x hx=>by have:=FQ hx;have:=AS x.right;omega) (fun h=>KP h)
 push_cast
 refine .of hE ?_
 generalize (Gt r A2.right m)=p
 obtain⟨o,e⟩:=p
 cases o<;>(unfold GK;push_cast;exact A1 (by push_cast[O5.rs];try rfl))
end Go.Dw
section
namespace Go.Dw
section
variable {P:Program} {N:Nat->C} {B:Nat} {ds:List Nat} {g l:List S} {s:List K} {t:T} {H:List Ob} {Q:X->T->List Ob->Prop}
theorem AcP:gP P N B true ds g l s t H Q (.bool true)=AB P N B (.r (g++l)::s) t H Q:=by simp[gP]
theorem Acw:gP P N B false ds g l s t H Q (.bool false)=AB P N B (.r (g++l)::s) t H Q:=by simp[gP]
theorem Adf:gP P N B true ds g l s t H Q (.bool false)=AB P N B (.r l::s) (ds.map (fun d=>(d,V.tup []))++t) H Q:=by simp[gP]
theorem AcU:gP P N B false ds g l s t H Q (.bool true)=AB P N B (.r l::s) (ds.map (fun d=>(d,V.tup []))++t) H Q:=by simp[gP]
theorem AdW {a b:C}:cP P N B a b s t H Q (.bool true)=AB P N B (.c a::s) t H Q:=by simp[cP]
theorem AdO {a b:C}:cP P N B a b s t H Q (.bool false)=AB P N B (.c b::s) t H Q:=by simp[cP]
end
attribute [push_cast] AcP Acw Adf AcU AdW AdO
end Go.Dw
end
namespace Go.Dw
def T8 (s:A9):List A9->List A9
 | []=>[s]
 | x::l=>if x<s then x::T8 s l else if x=s then x::l else s::x::l
theorem qg (s:A9):∀ l:List A9,Pe l s=T8 s l
 | []=>rfl
 | x::l=>by
  have ih:=qg s l
  unfold Pe at ih ⊢
  simp only[YL,T8]
  by_cases h:x<s
  ·simp only[h,decide_true,if_true]
   rw[<-ih]
   simp only[List.length_cons,Nat.add_lt_add_iff_right,List.getD_cons_succ,List.take_succ_cons,List.drop_succ_cons]
   split<;>simp
  ·simp only[h,decide_false,Bool.false_eq_true,if_false,List.length_cons,Nat.zero_lt_succ,true_and,List.getD_cons_zero,List.take_zero,List.drop_zero,List.nil_append]
def SS (l:List A9):Prop:=l.Pairwise (· < ·)
theorem Zh {s v:A9}:∀ {l:List A9},v∈T8 s l->v∈l\/v=s
 | [],h=>.inr (by simpa[T8]using h)
 | x::l,h=>by
  unfold T8 at h
  split at h
  ·rcases List.mem_cons.1 h with rfl | h
   ·exact .inl (by simp)
   ·rcases Zh h with h | h
    ·exact .inl (by simp[h])
    ·exact .inr h
  ·split at h
   ·exact .inl h
   ·rcases List.mem_cons.1 h with rfl | h
    ·exact .inr rfl
    ·exact .inl h
theorem T6 {s:A9}:∀ {l:List A9},SS l->SS (T8 s l)
 | [],_=>by simp[T8,SS]
 | x::l,h=>by
  unfold SS at h ⊢
  rw[List.pairwise_cons]at h
  unfold T8
  split
  ·rename_i hx
   rw[List.pairwise_cons]
   refine⟨fun v hv=>?_,T6 h.2⟩
   rcases Zh hv with hv | rfl
   ·exact h.1 v hv
   ·exact hx
  ·rename_i hx
   split
   ·rw[List.pairwise_cons];exact h
   ·rename_i hne
    have hsx:s<x:=by
     rcases Classical.em (s<x)with hc | hc
     ·exact hc
     ·exact absurd (Xy hc hx).symm hne
    rw[List.pairwise_cons,List.pairwise_cons]
    refine⟨fun v hv=>?_,h⟩
    rcases List.mem_cons.1 hv with rfl | hv
    ·exact hsx
    ·exact Nd hsx (h.1 v hv)
mutual
theorem P9:∀ (t:Term)(l:List A9),SS l->SS (Dx l t)
 | .mk n b ar,l,h=>by
  simp only[Dx]
  refine Nb ar _ ?_
  split
  ·rw[qg];exact T6 h
  ·exact h
theorem Nb:∀ (ar:List Term)(l:List A9),SS l->SS (BA l ar)
 | [],l,h=>h
 | a::ar,l,h=>by simp only[BA];exact Nb ar _ (P9 a l h)
end
theorem Xx (l:List A9):∀ ks:List A9,ks.Nodup->(l.foldl VE ks).Nodup:=by
 induction l with
 | nil=>intro ks h;exact h
 | cons x l ih =>
  intro ks h
  refine ih _ ?_
  unfold VE
  split
  ·exact h
  ·rename_i hx
   rw[List.nodup_append]
   exact⟨h,by simp,fun a ha b hb e=>by rw[List.mem_singleton]at hb;subst hb;subst e;exact hx ha⟩
theorem dA (t:Term):E3 t=AA [t]:=by
 have h1:SS (E3 t):=P9 t [] List.Pairwise.nil
 have h2:(HZ [] [t]).Nodup:=by
  show (R2 [] (Aq t [])).Nodup
  exact Xx _ _ List.nodup_nil
 have hm:∀ v,v∈E3 t↔v∈HZ [] [t]:=fun v=>by
  have e1:v∈E3 t↔Cz v t=true:=by
   unfold E3;rw[F9];simp
  have e2:=DQ v t
  unfold AA at e2
  rw[(List.mergeSort_perm _ _).mem_iff]at e2
  rw[e1,e2]
 have hnd:(E3 t).Nodup:=h1.imp fun hab e=>by rw[e]at hab;exact Dr _ hab
 have hp:(E3 t).Perm (HZ [] [t]):=(List.perm_ext_iff_of_nodup hnd h2).2 hm
 unfold AA
 have e3:Proofs.sortS (HZ [] [t])=Proofs.sortS (E3 t):=Go.mergeSort_of_perm hp.symm
 rw[e3]
 unfold Proofs.sortS
 refine (List.mergeSort_of_pairwise ?_).symm
 refine h1.imp fun {a b} hab=>?_
 simpa using List.le_of_lt hab
theorem M2 (x:A2)(ht:tb x.left<2^39):PF Gb [JW x] (Bo (AA [x.left])):=by
 refine Ab Xh.ok rfl ?_
 push_cast
 have hV:=Rz x.left ht
 rw[dA]at hV
 refine .of hV ?_
 push_cast
 exact A1 (by push_cast[Xh.rs])
theorem Rd {α:Type}[Inhabited α]{p:α->Bool}{l:List α}{k:Nat}(hk:k<l.length):(l.drop k).all p=(p (l.getD k default)&&(l.drop (k+1)).all p):=by
 rw[Al hk,List.all_cons]
theorem bv (r:List A2)(m:A0)(hs:As m<2^40):PF KO [Ak r,Ar m] (.bool (He (C5 r.length) m)):=by
 induction m using Cr with
 | h m ih =>
 have hst:=AQ m
 have hl:=AV m.args
 refine Ab Gs.ok rfl ?_
 rw[Hh]
 have hrd:C5 r.length m=(decide (0<=m.rule)&&decide (m.rule<=r.length)):=rfl
 by_cases h1:m.rule<0
 ·have hf:C5 r.length m=false:=by rw[hrd];simp;omega
  push_cast[eq_true h1,hf]
  exact A1 (by push_cast[Gs.rs])
 by_cases h2:(r.length:Int)<m.rule
 ·have hf:C5 r.length m=false:=by rw[hrd];simp;omega
  push_cast[eq_false h1,eq_true h2,hf]
  exact A1 (by push_cast[Gs.rs])
 have ht:C5 r.length m=true:=by rw[hrd];simp;omega
 push_cast[eq_false h1,eq_false h2,ht]
 refine Ad (n:=m.args.length) (R:=fun k=>(m.args.drop k).all (He (C5 r.length))=m.args.all (He (C5 r.length))->Gs.L3 (Ak r) (CB m.args) (.int .i64 m.args.length) (.int .i64 k) 0 [] (Bx 0 Gs.rs fun x' H'=>x'=.bool (m.args.all (He (C5 r.length)))/\H'=[])) ?_ ?_ 0 (by omega) rfl
 ·intro k hk ih2 hq
  have hm:=A4 hk
  have hsm:=CL hm
  rw[Rd hk]at hq
  refine A8.2 ?_
  push_cast[BT hk]
  refine .of (ih _ hm (by omega)) ?_
  cases hp:He (C5 r.length) (m.args.getD k default)with
  | false =>
   rw[hp,Bool.false_and]at hq
   push_cast[<-hq]
   exact A1 (by push_cast[Gs.rs])
  | true =>
   rw[hp,Bool.true_and]at hq
   push_cast[CV (show k<2^62 by omega)]
   exact ih2 hq
 ·intro hq
  refine A8.2 ?_
  push_cast[B8 (Nat.le_refl _)]
  rw[Ao]at hq
  exact A1 (by push_cast[Gs.rs,<-hq];rfl)
theorem iZ (m:A0)(hs:As m<2^40):PF NW [Ar m] (.tup [.int .i64 (As m),.int .i64 (Bd m)]):=by
 induction m using Cr with
 | h m ih =>
 refine Ab TG.ok rfl ?_
 have hst:=AQ m
 have hdt:=El m
 have hl:=AV m.args
 have hd:=Ml m.args
 push_cast
 refine Ad (n:=m.args.length) (R:=fun k=>TG.L3 (.int .i64 ((1+Bv (m.args.take k):Nat):Int)) (.int .i64 (AY (m.args.take k):Nat)) (CB m.args) (.int .i64 m.args.length) (.int .i64 k) 0 [] _) ?_ ?_ 0 (by omega)
 ·intro k hk ih2
  have h1:=IO _ _ hk
  have h2:=J4 _ _ hk
  have h3:=Q9 m.args (k+1)
  have hm:=A4 hk
  have:=CL hm
  refine A8.2 ?_
  push_cast[BT hk]
  refine .of (ih _ hm (by omega)) ?_
  push_cast[CV (show k<2^62 by omega)]
  rw[Bs (by omega) (by omega)]
  rw[h1,h2]at ih2
  push_cast at ih2
  simpa[Int.add_assoc]using ih2
 ·refine A8.2 ?_
  push_cast[B8 (Nat.le_refl _),List.take_length]
  rw[Bs (by omega) (by omega)]
  refine A1 ?_
  push_cast[TG.rs,hst,hdt]
theorem Vy (m:A0)(hs:As m<2^40):PF Mg [Ar m] (.bool (M8 m)):=by
 refine Ab Qz.ok rfl ?_
 push_cast
 refine .of (iZ m hs) ?_
 unfold M8
 by_cases h:As m<=4000
 ·have hi:((As m:Int)<=4000)=True:=eq_true (by omega)
  push_cast[hi]
  refine A1 ?_
  push_cast[Qz.rs,h]
  exact decide_eq_decide.2 (by omega)
 ·have hi:((As m:Int)<=4000)=False:=eq_false (by omega)
  push_cast[hi]
  exact A1 (by push_cast[Qz.rs,h];try rfl)
set_option maxHeartbeats 2000000 in
theorem aV (r:List A2)(hr:KZ r<2^38)(m:A0)(hq:He (C5 r.length) m=true)(hm:mb m<2^40):PF KH [Ak r,Ar m] (.bool (He (Bn r) m)):=by
 induction m using Cr with
 | h m ih =>
 have hmb:=Wj m
 have hsz:=Gd m
 have hst:=AQ m
 have hl:=AV m.args
 have hI:∀ b,PF Ee [.str m.name,.bool b] (.bool (Cb m.name b)):=fun b=>SV _ b (by omega)
 have hqs:=GI hq
 unfold C5 at hqs
 rw[Bool.and_eq_true,decide_eq_true_eq,decide_eq_true_eq]at hqs
 refine Ab Cl.ok rfl ?_
 rw[Hh]
 have hloop:Bn r m=true->Cl.L3 (Ak r) (CB m.args) (.int .i64 m.args.length) (.int .i64 0) 0 [] (Bx 0 Cl.rs fun x' H'=>x'=.bool (Bn r m&&m.args.all (He (Bn r)))/\H'=[]):=fun hf=>by
  rw[hf,Bool.true_and]
  refine Ad (n:=m.args.length) (R:=fun k=>(m.args.drop k).all (He (Bn r))=m.args.all (He (Bn r))->Cl.L3 (Ak r) (CB m.args) (.int .i64 m.args.length) (.int .i64 k) 0 [] (Bx 0 Cl.rs fun x' H'=>x'=.bool (m.args.all (He (Bn r)))/\H'=[])) ?_ ?_ 0 (by omega) rfl
  ·intro k hk ih2 hq2
   have hm2:=A4 hk
   have hsm:=rK hm2
   rw[Rd hk]at hq2
   refine A8.2 ?_
   push_cast[BT hk]
   refine .of (ih _ hm2 (SR hq hm2) (by omega)) ?_
   cases hp:He (Bn r) (m.args.getD k default)with
   | false =>
    rw[hp,Bool.false_and]at hq2
    push_cast[<-hq2]
    exact A1 (by push_cast[Cl.rs])
   | true =>
    rw[hp,Bool.true_and]at hq2
    push_cast[CV (show k<2^62 by omega)]
    exact ih2 hq2
  ·intro hq2
   refine A8.2 ?_
   push_cast[B8 (Nat.le_refl _)]
   rw[Ao]at hq2
   exact A1 (by push_cast[Cl.rs,<-hq2];rfl)
 have hfe:Bn r m=if 0<m.rule then decide (m.name=[])&&(!m.var&&decide (m.args.length=(AA [(Au r m).left]).length)) else if m.var then decide (m.args.length=0)&&Cb m.name false else decide (m.args.length<=8)&&Cb m.name true:=rfl
 by_cases h1:0<m.rule
 ·have hm1:r.getD (m.rule-1).toNat default∈r:=A4 (by omega)
  have hrm:=FQ hm1
  have hru:r.getD (m.rule-1).toNat default=Au r m:=rfl
  have hw:IntKind.i64.wrap (m.rule-1)=m.rule-1:=Bs (by have:=Bh r;omega) (by have:=Bh r;omega)
  have hc1:((0:Int)<=m.rule-1)=True:=eq_true (by omega)
  have hc2:(m.rule-1<(r.length:Int))=True:=eq_true (by omega)
  rw[hru]at hrm
  have hV:=M2 (Au r m) (by omega)
  rw[if_pos h1]at hfe
  cases h3:m.var with
  | true =>
   have hf:Bn r m=false:=by rw[hfe,h3];simp
   push_cast[eq_true h1,h3,hf]
   exact A1 (by push_cast[Cl.rs])
  | false =>
  by_cases h2:m.name=[]
  ·by_cases h4:m.args.length=(AA [(Au r m).left]).length
   ·have hf:Bn r m=true:=by rw[hfe,h3,h2];simp[h4]
    have hL:=hloop hf
    have h4i:((m.args.length:Int)=((AA [(Au r m).left]).length:Int))=True:=eq_true (by omega)
    push_cast[eq_true h1,h2,h3,hw,hc1,hc2,hru]
    refine .of hV ?_
    push_cast[h4i]
    exact hL
   ·have hf:Bn r m=false:=by rw[hfe,h3,h2];simp[h4]
    have h4i:((m.args.length:Int)=((AA [(Au r m).left]).length:Int))=False:=eq_false (by omega)
    push_cast[eq_true h1,h2,h3,hw,hc1,hc2,hru,hf]
    refine .of hV ?_
    push_cast[h4i]
    exact A1 (by push_cast[Cl.rs])
  ·have hf:Bn r m=false:=by rw[hfe];simp[h2]
   push_cast[eq_true h1,eq_false h2,h3,hf]
   exact A1 (by push_cast[Cl.rs])
 ·rw[if_neg h1]at hfe
  cases hv:m.var with
  | true =>
   rw[hv,if_pos rfl]at hfe
   cases hn:Cb m.name false with
   | false =>
    have hf:Bn r m=false:=by rw[hfe,hn];simp
    push_cast[eq_false h1,hv]
    refine .of (hI false) ?_
    push_cast[hn,hf]
    exact A1 (by push_cast[Cl.rs])
   | true =>
   by_cases h0:m.args.length=0
   ·have hf:Bn r m=true:=by rw[hfe,hn];simp[h0]
    have hL:=hloop hf
    have h0i:(0<(m.args.length:Int))=False:=eq_false (by omega)
    push_cast[eq_false h1,hv]
    refine .of (hI false) ?_
    push_cast[hn,h0i]
    exact hL
   ·have hf:Bn r m=false:=by rw[hfe,hn];simp[h0]
    have h0i:(0<(m.args.length:Int))=True:=eq_true (by omega)
    push_cast[eq_false h1,hv]
    refine .of (hI false) ?_
    push_cast[hn,h0i,hf]
    exact A1 (by push_cast[Cl.rs])
  | false =>
   rw[hv,if_neg (by simp)]at hfe
   cases hn:Cb m.name true with
   | false =>
    have hf:Bn r m=false:=by rw[hfe,hn];simp
    push_cast[eq_false h1,hv]
    refine .of (hI true) ?_
    push_cast[hn,hf]
    exact A1 (by push_cast[Cl.rs])
   | true =>
   by_cases h0:m.args.length<=8
   ·have hf:Bn r m=true:=by rw[hfe,hn];simp[h0]
    have hL:=hloop hf
    have h0i:(8<(m.args.length:Int))=False:=eq_false (by omega)
    push_cast[eq_false h1,hv]
    refine .of (hI true) ?_
    push_cast[hn,h0i]
    exact hL
   ·have hf:Bn r m=false:=by rw[hfe,hn];simp[h0]
    have h0i:(8<(m.args.length:Int))=True:=eq_true (by omega)
    push_cast[eq_false h1,hv]
    refine .of (hI true) ?_
    push_cast[hn,h0i,hf]
    exact A1 (by push_cast[Cl.rs])
theorem tM (m:A0):M8 m=true↔¬ (4000<As m\/200<Bd m):=by unfold M8;simp
theorem eK (r:List A2)(m:A0)(hr:KZ r<2^38)(hm:mb m<2^39):PF Q5 [Ak r,Ar m] (.int .i64 (FH r m)):=by
 have hsz:=Gd m
 refine Ab Jf.ok rfl ?_
 push_cast
 refine .of (Mk r (by omega)) ?_
 generalize hT:FH r m=T
 unfold FH at hT
 by_cases h1:¬ Am r=0
 ·rw[if_pos h1]at hT
  subst hT
  push_cast[eq_false h1]
  exact A1 (by push_cast[Jf.rs])
 have h1:Am r=0:=Classical.not_not.1 h1
 rw[if_neg (by simpa using h1)]at hT
 push_cast[h1]
 refine .of (bv r m (by omega)) ?_
 cases h2:He (C5 r.length) m with
 | false =>
  rw[h2,if_pos rfl]at hT
  subst hT
  push_cast
  exact A1 (by push_cast[Jf.rs])
 | true =>
 rw[h2,if_neg (by simp)]at hT
 push_cast
 refine .of (aV r hr m h2 (by omega)) ?_
 cases h3:He (Bn r) m with
 | false =>
  rw[h3,if_pos rfl]at hT
  subst hT
  push_cast
  exact A1 (by push_cast[Jf.rs])
 | true =>
 rw[h3,if_neg (by simp)]at hT
 push_cast
 refine .of (Vy m (by omega)) ?_
 have hf:=tM m
 cases h4:M8 m with
 | false =>
  rw[h4]at hf
  rw[if_pos (Classical.not_not.1 fun h=>by simpa using hf.2 h)]at hT
  subst hT
  push_cast
  exact A1 (by push_cast[Jf.rs])
 | true =>
  rw[if_neg (hf.1 h4)]at hT
  subst hT
  push_cast
  exact A1 (by push_cast[Jf.rs])
end Go.Dw
section
namespace Go.Dw
open Go.Proofs.YtkdcfkfdkimaeaaGreatDoor
section
variable {H:Type} {enc:TypeId × Value->H} {W:World}
theorem Acl:prog.cellsOf 25=1+1+1+1:=by kernel_rfl
theorem Aei:prog.cellsOf 23=1:=by kernel_rfl
theorem wz {α:Type}{cs:List α}{a b c d:Nat}(h:cs.length=a+b+c+d):cs=(cs.drop 0).take a++((cs.drop a).take b++((cs.drop (a+b)).take c++(cs.drop (a+b+c)).take d)):=by
 have h1:cs.drop (a+b)=(cs.drop (a+b)).take c++(cs.drop (a+b+c)).take d:=by
  rw[List.take_of_length_le (l:=cs.drop (a+b+c)) (by simp;omega),<-List.drop_drop (i:=c),List.take_append_drop]
 have h2:cs.drop a=(cs.drop a).take b++cs.drop (a+b):=by rw[<-List.drop_drop (i:=b),List.take_append_drop]
 rw[<-h1,<-h2,List.drop_zero,List.take_append_drop]
theorem sL (l:List A0):Uw mb l=uB l:=by
 induction l with
 | nil=>rfl
 | cons a l ih=>simp only[Uw,uB,ih]
theorem Wx:∀ n,Br enc W n 25 cM mb
 | 0=>by intro cs x h;simp[DataW.trod]at h
 | n+1=>by
  intro cs x h hbk
  obtain⟨xs,m,hm,rfl,hl,hlen,hf⟩:=DataW.trod_struct (P:=prog) Go.Proofs.Tryz.underlying25 h
  obtain rfl:n=m:=by omega
  rw[Acl]at hl
  match xs,hlen with
  | [x0,x1,x2,x3],_ =>
  have f0:uG enc W n 3 ((cs.drop 0).take (prog.cellsOf 3))=some x0:=hf 0 _ rfl
  have f1:uG enc W n 9 ((cs.drop 1).take (prog.cellsOf 9))=some x1:=hf 1 _ rfl
  have f2:uG enc W n 4 ((cs.drop 2).take (prog.cellsOf 4))=some x2:=hf 2 _ rfl
  have f3:uG enc W n 23 ((cs.drop 3).take (prog.cellsOf 23))=some x3:=hf 3 _ rfl
  rw[c3]at f0;rw[c9]at f1;rw[c4]at f2;rw[Aei]at f3
  simp only[List.map_cons,List.map_nil,Rows.uptoBulk,Rows.uptoBulkAll]at hbk ⊢
  obtain⟨k,b0,d0⟩:=AaK _ _ f0 (by omega)
  obtain⟨s,b1,d1⟩:=rD _ _ f1 (by omega)
  obtain⟨v,b2,d2⟩:=kz _ _ f2 (by omega)
  obtain⟨l,b3,d3⟩:=Y4 (n:=n) (sz:=4) (c:=cM) (b:=mb) Go.Proofs.Tryz.underlying23 Acl (by omega) (fun _=>rfl) (fun m hm=>Wx m) _ _ f3 (by omega)
  try dsimp only at b0
  try dsimp only at b1
  try dsimp only at b2
  try dsimp only at b3
  refine⟨.mk k s v l,?_,?_⟩
  ·rw[sL]at b3
   simp only[mb]
   omega
  ·rw[wz hl,Tm]
   exact d0.app (d1.app (d2.app d3))
end
end Go.Dw
end
section
namespace Go.Dw
open Go.Proofs Go.Proofs.YtkdcfkfdkimaeaaGreatDoor
theorem tt {P:Program}{W:World}{name:String}{cs:Array Value}{g:Nat}(hg:P.globalNamed name=some g)(h:W.var? P name=some cs):∃ e fz,W.heap[g]?=some (.cells cs e fz):=by
 unfold World.var? at h
 rw[hg]at h
 simp only[Option.bind_some]at h
 split at h
 ·rename_i c e fz hh
  injection h with h
  subst h
  exact⟨_,_,hh⟩
 ·cases h
theorem yU : prog.globalNamed "internal/strconv.uint64pow10" = some 1 := by kernel_rfl
theorem Adi:(prog.globals[1]?).map (·.type)=some 323:=by kernel_rfl
theorem AcL:prog.underlying 323=some (.array 20 254):=by kernel_rfl
theorem Aan:prog.underlying 254=some (.int .u64):=by kernel_rfl
theorem AaJ:prog.cellsOf 254=1:=by kernel_rfl
theorem Ac9:prog.cellsOf 323=20:=by kernel_rfl
theorem og {L:List (String×DataW Unit)}{W:World}(hL:laidMetH prog L W)
  (he : L=[("math/bits.deBruijn32tab",Rows.laid_math_bits_deBruijn32tab),("math/bits.deBruijn64tab",Rows.laid_math_bits_deBruijn64tab),("internal/strconv.uint64pow10",Rows.laid_internal_strconv_uint64pow10)]) : jD ⟨W,okW W,fun _ => none,[]⟩ := by
 subst he
 have h3 : laidMet prog [("internal/strconv.uint64pow10",Lib.tabData .u64 Lib.pow10Tab)] W := laidMet.tail (laidMet.tail hL)
 have ht:=Lib.tabIs_of_head yU Adi AcL Aan AaJ Ac9 h3
 obtain⟨e,fz,hh⟩:=tt yU ht
 intro p hp
 simp only[Abu,List.mem_singleton]at hp
 subst hp
 refine⟨⟨e,fz,?_⟩,fun ⟨i,k,hi,_⟩=>by cases hi⟩
 show W.heap[1]?=_
 rw[hh,Lib.pow10Tab,List.map_map]
 rfl
def S5:DataW Unit->Array Value
 | .agg l=>(l.map fun x=>match x with | .lit (.int k z)=>Value.int k z | _=>Value.bool false).toArray
 | _=>#[]
noncomputable def jK (w:World)(i:Nat)(cs:Array Value):World:={ w with heap:=w.heap.modify i fun o=>match o with
 | .cells _ t frozen=>.cells cs t frozen
 | o=>o }
noncomputable def ir (w:World):World :=
 jK (jK (jK w 1 (S5 Rows.laid_internal_strconv_uint64pow10)) 2 (S5 Rows.laid_math_bits_deBruijn32tab)) 3 (S5 Rows.laid_math_bits_deBruijn64tab)
end Go.Dw
end
section
namespace Go.Proofs
open Go.RowKit Go.Shelf Go.Sort
def Tryz.laysFmt_ren:Go.Shelf.Ren:=⟨fun | 246=>310 | 283=>316 | 284=>317 | 285=>318 | 286=>319 | 129=>244 | 317=>322 | 318=>323 | 319=>324 | 320=>325 | 337=>327 | 338=>328 | n=>n,fun | 2=>2 | 3=>3 | 9=>9 | 4=>4 | 171=>315 | 0=>0 | 53=>254 | 37=>221 | 5=>5 | 173=>317 | 212=>323 | 51=>252 | 20=>20 | 213=>324 | 46=>208 | 232=>326 | 233=>327 | n=>n,fun | 17=>1 | 18=>2 | 19=>3 | n=>n⟩
theorem Tryz.laysFmt:Go.Proofs.LaysM.n246 Tryz.prog Tryz.laysFmt_ren:={
 mixed:=by kernel_rfl
 f129:=Tryz.func244.trans (congrArg some (by kernel_rfl))
 f246:=Tryz.func310.trans (congrArg some (by kernel_rfl))
 f283:=Tryz.func316.trans (congrArg some (by kernel_rfl))
 f284:=Tryz.func317.trans (congrArg some (by kernel_rfl))
 f285:=Tryz.func318.trans (congrArg some (by kernel_rfl))
 f286:=Tryz.func319.trans (congrArg some (by kernel_rfl))
 f317:=Tryz.func322.trans (congrArg some (by kernel_rfl))
 f318:=Tryz.func323.trans (congrArg some (by kernel_rfl))
 f319:=Tryz.func324.trans (congrArg some (by kernel_rfl))
 f320:=Tryz.func325.trans (congrArg some (by kernel_rfl))
 f337:=Tryz.func327.trans (congrArg some (by kernel_rfl))
 f338:=Tryz.func328.trans (congrArg some (by kernel_rfl))
 t0:=Tryz.underlying0
 a0:=Tryz.isAgg0
 z0:=Tryz.sizeOf0
 v0:=Tryz.zeroValue0
 t2:=Tryz.underlying2
 a2:=Tryz.isAgg2
 z2:=Tryz.sizeOf2
 v2:=Tryz.zeroValue2
 t3:=Tryz.underlying3
 a3:=Tryz.isAgg3
 z3:=Tryz.sizeOf3
 v3:=Tryz.zeroValue3
 t4:=Tryz.underlying4
 a4:=Tryz.isAgg4
 z4:=Tryz.sizeOf4
 v4:=Tryz.zeroValue4
 t5:=Tryz.underlying5
 a5:=Tryz.isAgg5
 z5:=Tryz.sizeOf5
 v5:=Tryz.zeroValue5
 t9:=Tryz.underlying9
 a9:=Tryz.isAgg9
 z9:=Tryz.sizeOf9
 v9:=Tryz.zeroValue9
 t20:=Tryz.underlying20
 a20:=Tryz.isAgg20
 z20:=Tryz.sizeOf20
 v20:=Tryz.zeroValue20
 t37:=Tryz.underlying221
 a37:=Tryz.isAgg221
 z37:=Tryz.sizeOf221
 v37:=Tryz.zeroValue221
 t46:=Tryz.underlying208
 a46:=Tryz.isAgg208
 z46:=Tryz.sizeOf208
 v46:=Tryz.zeroValue208
 t51:=Tryz.underlying252
 a51:=Tryz.isAgg252
 z51:=Tryz.sizeOf252
 v51:=Tryz.zeroValue252
 t53:=Tryz.underlying254
 a53:=Tryz.isAgg254
 z53:=Tryz.sizeOf254
 v53:=Tryz.zeroValue254
 t171:=Tryz.underlying315
 a171:=Tryz.isAgg315
 z171:=Tryz.sizeOf315
 v171:=Tryz.zeroValue315
 t173:=Tryz.underlying317
 a173:=Tryz.isAgg317
 z173:=Tryz.sizeOf317
 v173:=Tryz.zeroValue317
 t212:=Tryz.underlying323
 a212:=Tryz.isAgg323
 z212:=Tryz.sizeOf323
 v212:=Tryz.zeroValue323
 t213:=Tryz.underlying324
 a213:=Tryz.isAgg324
 z213:=Tryz.sizeOf324
 t232:=Tryz.underlying326
 a232:=Tryz.isAgg326
 z232:=Tryz.sizeOf326
 v232:=Tryz.zeroValue326
 t233:=Tryz.underlying327
 a233:=Tryz.isAgg327
 z233:=Tryz.sizeOf327
 v233:=Tryz.zeroValue327
 g17:=by kernel_rfl
 g18:=by kernel_rfl
 g19:=by kernel_rfl
 i0:=by kernel_rfl
 i2:=by kernel_rfl
 i3:=by kernel_rfl
 i4:=by kernel_rfl
 i5:=by kernel_rfl
 i9:=by kernel_rfl
 i20:=by kernel_rfl
 i37:=by kernel_rfl
 i46:=by kernel_rfl
 i51:=by kernel_rfl
 i53:=by kernel_rfl
 i171:=by kernel_rfl
 i173:=by kernel_rfl
 i212:=by kernel_rfl
 i232:=by kernel_rfl
 i233:=by kernel_rfl
 m17:=by kernel_rfl
 m18:=by kernel_rfl
 m19:=by kernel_rfl }
theorem Tryz.fmt_num:Tryz.laysFmt_ren.f 246=Go.Dw.n_strconv_FormatInt:=by kernel_rfl
theorem Tryz.fmt_in (args:Array Value)(w:World):(callFunc Go.Dw.n_strconv_FormatInt args).run Tryz.prog w=.ok (.enter Go.Dw.n_strconv_FormatInt args) w:=by
 have:=enters_of (P:=Tryz.prog) Tryz.laysFmt.f246 (by kernel_rfl) rfl args w
 rw[Tryz.fmt_num]at this
 exact this
theorem Tryz.fmt_c (n : Int)(h0 : -9223372036854775808 <= n)(h1 : n <= 9223372036854775807)(w : World) (htab : Lib.TabIs Tryz.prog w "internal/strconv.uint64pow10" .u64 Lib.pow10Tab) :
  Calls Tryz.prog Go.Dw.n_strconv_FormatInt #[.int .i64 n,.int .i64 10] w fun e w'=>e=.returned (.string ⟨(Lib.itoa n).toArray⟩)/\∃ k os,w'=grow (w.drewN k) os:=by
 have:=Any.internal_strconv_FormatInt_10 Tryz.laysFmt n h0 h1 w htab
 rw[Tryz.fmt_num]at this
 exact this
theorem Tryz.pow10_at : Tryz.prog.globalNamed "internal/strconv.uint64pow10" = some 1 := by kernel_rfl
end Go.Proofs
namespace Go.Dw
open Go.Proofs Go.Sort
theorem jy {c : Cx}(h : jD c) : Lib.TabIs Tryz.prog c.w "internal/strconv.uint64pow10" .u64 Lib.pow10Tab := by
 obtain⟨⟨e,fz,h1⟩,_⟩:=h (1,(List.range 20).map fun i=>Value.int .u64 ((10^i:Nat):Int)) (by simp[Abu])
 unfold Lib.TabIs World.var?
 rw[Tryz.pow10_at]
 simp only[Option.bind_some,h1]
 rw[Lib.pow10Tab,List.map_map]
 rfl
theorem R4 (n:Int)(h0:-9223372036854775808<=n)(h1:n<=9223372036854775807):PF n_strconv_FormatInt [.int .i64 n,.int .i64 10] (.str (Lib.itoa n)):=by
 intro c vs hH hc hr
 obtain⟨v,vs',rfl,r1,v2,vs2,rfl,r2,r3⟩:=hr
 have r1:v=.int .i64 n:=r1
 have r2:v2=.int .i64 10:=r2
 have r3:vs2=[]:=r3
 subst r1;subst r2;subst r3
 left
 refine⟨Tryz.fmt_in _ _,(Tryz.fmt_c n h0 h1 c.w (jy hc.glob)).mono ?_⟩
 rintro e w' ⟨rfl,k,os,rfl⟩
 have hno:∀ b,¬ c.owns b:=fun b ⟨i,k,h,_⟩=>by rw[hH]at h;simp at h
 have hlt:∀ b,b<c.w.heap.size->(grow (c.w.drewN k) os).heap[b]?=c.w.heap[b]?:=fun b hb=>Array.getElem?_append_left hb
 have hown:∀ b,¬ (⟨grow (c.w.drewN k) os,c.ok,c.ρ,[]⟩:Cx).owns b:=fun b ⟨i,k,h,_⟩=>by simp at h
 refine⟨_,.str (Lib.itoa n),⟨grow (c.w.drewN k) os,c.ok,c.ρ,[]⟩,rfl,rfl,⟨rfl,rfl⟩,?_,rfl,?_⟩
 ·refine⟨fun i j b1 k1 k2 h1=>by simp at h1,fun b o h=>?_,fun i o hi=>by simp at hi,hc.glob.keep (fun b hb _=>hlt b hb) fun b h=>absurd h (hown b)⟩
  have:=hc.okLt b o h
  show b<(c.w.heap++os).size
  rw[Array.size_append];omega
 ·refine⟨fun _ _ h=>h,fun b o h=>?_,?_,fun _ _ h=>.inl h,fun b hb _=>hlt b hb,fun b h=>absurd h (hown b),fun i o hi=>?_,rfl,rfl,rfl,Nat.le_add_right _ _⟩
  ·simp only[World.cell?]
   rw[hlt b (hc.okLt _ _ h)]
  ·show c.w.heap.size<=(c.w.heap++os).size
   rw[Array.size_append];omega
  ·rw[hH]at hi;simp at hi
theorem Ui (n:Int)(h0:-9223372036854775808<=n)(h1:n<=9223372036854775807):PF Kf [.int .i64 n] (.str (Lib.itoa n)):=by
 refine Ab MN.ok rfl ?_
 push_cast
 refine .of (R4 n h0 h1) ?_
 push_cast
 exact A1 (by push_cast[MN.rs])
theorem WL (n:Int)(h0:-9223372036854775808<=n)(h1:n<=9223372036854775807):PF Gm [.int .i64 n] (.str (Lib.itoa n)):=by
 refine Ab Of.ok rfl ?_
 push_cast
 refine .of (Ui n h0 h1) ?_
 push_cast
 exact A1 (by push_cast[Of.rs])
abbrev IS (n:Nat):A9:=Lib.decDigits n
theorem Qp (n:Nat)(h:n<2^62):PF Gm [.int .i64 n] (.str (IS n)):=by
 have:=WL n (by omega) (by omega)
 rw[show Lib.itoa (n:Int)=IS n from if_neg (by omega)]at this
 exact this
end Go.Dw
end
namespace Go.Dw
theorem TB (a b:List A6)(n:A9):Ae (a++b) n=match Ae a n with | some x=>some x | none=>Ae b n:=by
 induction a with
 | nil=>rfl
 | cons x a ih =>
  simp only[List.cons_append,Ae]
  split
  ·rfl
  ·exact ih
theorem Es {s:List A6}{v:A9}{t:Term}(h:Ae s v=none)(n:A9):Ae (FS s v t) n=if v=n then some t else Ae s n:=by
 unfold FS
 have h0:=TB (s.take (IT v s)) (s.drop (IT v s)) n
 rw[List.take_append_drop]at h0
 rw[TB]
 by_cases hv:v=n
 ·subst hv
  rw[h]at h0
  rw[if_pos rfl]
  cases ha:Ae (s.take (IT v s)) v with
  | some x=>rw[ha]at h0;cases h0
  | none=>simp only[Ae,if_true]
 ·rw[if_neg hv,h0]
  cases Ae (s.take (IT v s)) n with
  | some x=>rfl
  | none=>simp only[Ae,if_neg hv]
def U5 (a b:List A6):Prop:=∀ n x,Ae a n=some x->Ae b n=some x
theorem U5.refl (a:List A6):U5 a a:=fun _ _ h=>h
theorem U5.trans {a b c:List A6}(h:U5 a b)(h2:U5 b c):U5 a c:=fun n x hx=>h2 n x (h n x hx)
theorem nM {s:List A6}{v:A9}{t:Term}(h:Ae s v=none):U5 s (FS s v t):=fun n x hx=>by
 rw[Es h]
 split
 ·rename_i e;subst e;rw[h]at hx;cases hx
 ·exact hx
end Go.Dw
section
namespace Go.Dw
abbrev EE:=A9->Term
mutual
def app (f:EE):Term->Term
 | .mk n v l=>if v then f n else .mk n false (vC f l)
def vC (f:EE):List Term->List Term
 | []=>[]
 | a::l=>app f a::vC f l
end
theorem rY (f:EE)(l:List Term):vC f l=l.map (app f):=by induction l with | nil=>rfl | cons a l ih=>simp[vC,ih]
theorem PH (f:EE)(t:Term):app f t=if t.var then f t.name else .mk t.name false (t.args.map (app f)):=by
 cases t with | mk n v l=>simp only[app,rY,Term.var,Term.name,Term.args];rfl
theorem Aw {f:EE}{t:Term}(h:t.var=true):app f t=f t.name:=by rw[PH,if_pos h]
theorem Ba {f:EE}{t:Term}(h:t.var=false):app f t=.mk t.name false (t.args.map (app f)):=by rw[PH,if_neg (by simp[h])]
theorem nZ {v:A9}{l:List Term}:EQ v l=true↔∃ a∈l,Cz v a=true:=by
 induction l with
 | nil=>simp[EQ]
 | cons a l ih=>simp[EQ,ih]
theorem AE {v:A9}{t:Term}:Cz v t=true↔(t.var=true/\t.name=v)\/∃ a∈t.args,Cz v a=true:=by
 cases t with | mk n b l =>
 show ((b&&decide (n=v))||EQ v l)=true↔_
 rw[Bool.or_eq_true,Bool.and_eq_true,decide_eq_true_eq,nZ]
 exact Iff.rfl
def BZ (v:A9):Term:=.mk v true []
theorem Q2 {v w:A9}:Cz w (BZ v)=true↔v=w:=by
 rw[AE];simp[BZ,Term.var,Term.name,Term.args]
mutual
def vfl:Term->Bool
 | .mk _ v l=>(!v||l.isEmpty)&&qa l
def qa:List Term->Bool
 | []=>true
 | a::l=>vfl a&&qa l
end
theorem tE {l:List Term}:qa l=true↔∀ a∈l,vfl a=true:=by
 induction l with
 | nil=>simp[qa]
 | cons a l ih=>simp[qa,ih]
theorem Kx {t:Term}:vfl t=true↔(t.var=true->t.args=[])/\∀ a∈t.args,vfl a=true:=by
 cases t with | mk n v l=>cases v<;>simp[vfl,tE,Term.var,Term.args]
theorem BJ {t a:Term}(h:vfl t=true)(ha:a∈t.args):vfl a=true:=(Kx.1 h).2 a ha
theorem TR (t:Term):short t=true->vfl t=true:=by
 induction t using Ag with
 | h t ih =>
 intro h
 have h:=CJ.1 h
 exact Kx.2 ⟨h.2.1,fun a ha=>ih a ha (h.2.2 a ha)⟩
theorem QF {t:Term}(h:vfl t=true)(hv:t.var=true):t=BZ t.name:=by
 have:=(Kx.1 h).1 hv
 cases t with | mk n v l =>
 simp only[Term.args]at this
 simp only[Term.var]at hv
 subst this;subst hv;rfl
theorem ME {t:Term}{v:A9}(h:vfl t=true)(hv:t.var=true):Cz v t=true↔t.name=v:=by
 rw[QF h hv,Q2];rfl
theorem Mn {t:Term}{v:A9}(hv:t.var=false):Cz v t=true↔∃ a∈t.args,Cz v a=true:=by
 rw[AE,hv];simp
theorem DJ {f g:EE}(t:Term):(∀ v,Cz v t=true->f v=g v)->app f t=app g t:=by
 induction t using Ag with
 | h t ih =>
 intro h
 rw[PH,PH]
 split
 ·rename_i hv;exact h _ (AE.2 (.inl ⟨hv,rfl⟩))
 ·congr 1
  exact List.map_congr_left fun a ha=>ih a ha fun v hv=>h v (AE.2 (.inr ⟨a,ha,hv⟩))
theorem OH (f g:EE)(t:Term):app g (app f t)=app (fun v=>app g (f v)) t:=by
 induction t using Ag with
 | h t ih =>
 cases hv:t.var with
 | true=>rw[Aw hv,Aw hv]
 | false =>
  rw[Ba hv,Ba hv,Ba rfl]
  simp only[Term.name,Term.args,List.map_map]
  congr 1
  exact List.map_congr_left fun a ha=>ih a ha
theorem pV {f:EE}(t:Term):vfl t=true->(∀ v,Cz v t=true->f v=BZ v)->app f t=t:=by
 induction t using Ag with
 | h t ih =>
 intro ht h
 cases hv:t.var with
 | true =>
  rw[Aw hv,h _ (AE.2 (.inl ⟨hv,rfl⟩))]
  exact (QF ht hv).symm
 | false =>
  rw[Ba hv]
  have e:t.args.map (app f)=t.args:=by
   conv=>rhs;rw[<-List.map_id t.args]
   exact List.map_congr_left fun a ha=>ih a ha (BJ ht ha) fun v hv=>h v (AE.2 (.inr ⟨a,ha,hv⟩))
  rw[e]
  cases t;simp only[Term.var]at hv;subst hv;rfl
theorem Tb {f:EE}{w:A9}(t:Term):vfl t=true->(Cz w (app f t)=true↔∃ v,Cz v t=true/\Cz w (f v)=true):=by
 induction t using Ag with
 | h t ih =>
 intro ht
 cases hv:t.var with
 | true =>
  rw[Aw hv]
  constructor
  ·intro h;exact⟨_,(ME ht hv).2 rfl,h⟩
  ·rintro ⟨v,h1,h2⟩
   rw[(ME ht hv).1 h1];exact h2
 | false =>
  rw[Ba hv,Mn rfl]
  simp only[Term.args,List.mem_map]
  constructor
  ·rintro ⟨_,⟨a,ha,rfl⟩,h⟩
   obtain⟨v,h1,h2⟩:=(ih a ha (BJ ht ha)).1 h
   exact⟨v,(Mn hv).2 ⟨a,ha,h1⟩,h2⟩
  ·rintro ⟨v,h1,h2⟩
   obtain⟨a,ha,h3⟩:=(Mn hv).1 h1
   exact⟨_,⟨a,ha,rfl⟩,(ih a ha (BJ ht ha)).2 ⟨v,h3,h2⟩⟩
theorem kD {f:EE}(t:Term):(∀ v,Cz v t=true->vfl (f v)=true)->vfl (app f t)=true:=by
 induction t using Ag with
 | h t ih =>
 intro h
 cases hv:t.var with
 | true=>rw[Aw hv];exact h _ (AE.2 (.inl ⟨hv,rfl⟩))
 | false =>
  rw[Ba hv]
  refine Kx.2 ⟨fun e=>by simp[Term.var]at e,fun a ha=>?_⟩
  simp only[Term.args,List.mem_map]at ha
  obtain⟨b,hb,rfl⟩:=ha
  exact ih b hb fun v hv=>h v (AE.2 (.inr ⟨b,hb,hv⟩))
def TO (θ:EE)(s:List A6):Prop:=∀ v t,Ae s v=some t->θ v=app θ t
structure FU (s:List A6) (σ:EE) (rk:A9->Nat):Prop where
 srt:DE s
 vf:∀ v t,Ae s v=some t->vfl t=true
 free:∀ v,Ae s v=none->σ v=BZ v
 fix:∀ v t,Ae s v=some t->σ v=app σ t
 low:∀ v t,Ae s v=some t->∀ w,Cz w t=true->rk w<rk v
theorem FU.nil:FU [] BZ (fun _=>0):=⟨List.Pairwise.nil,fun v t h=>(by cases h),fun v _=>rfl,fun v t h=>(by cases h),fun v t h=>(by cases h)⟩
section
variable {s:List A6} {σ:EE} {rk:A9->Nat}
theorem FU.sat (h:FU s σ rk):TO σ s:=h.fix
theorem FU.ind {P:A9->Prop}(h:FU s σ rk)(step:∀ v,(∀ t w,Ae s v=some t->Cz w t=true->P w)->P v):∀ v,P v:=by
 have:∀ n v,rk v<n->P v:=by
  intro n
  induction n with
  | zero=>intro v hv;omega
  | succ n ih =>
   intro v hv
   exact step v fun t w h1 h2=>ih w (by have:=h.low v t h1 w h2;omega)
 exact fun v=>this (rk v+1) v (by omega)
theorem FU.vfl (h:FU s σ rk):∀ v,Dw.vfl (σ v)=true:=by
 refine h.ind fun v ih=>?_
 cases hi:Ae s v with
 | none=>rw[h.free v hi];rfl
 | some t=>rw[h.fix v t hi];exact kD t fun w hw=>ih t w hi hw
theorem FU.occ_free (h:FU s σ rk){w:A9}:∀ v,Cz w (σ v)=true->Ae s w=none:=by
 refine h.ind fun v ih=>?_
 cases hi:Ae s v with
 | none =>
  rw[h.free v hi,Q2]
  rintro rfl;exact hi
 | some t =>
  rw[h.fix v t hi,Tb t (h.vf v t hi)]
  rintro ⟨u,h1,h2⟩
  exact ih t u hi h1 h2
theorem FU.idem (h:FU s σ rk)(v:A9):app σ (σ v)=σ v:=pV _ (h.vfl v) fun w hw=>h.free w (h.occ_free v hw)
theorem FU.uniq {σ':EE}{rk':A9->Nat}(h:FU s σ rk)(h':FU s σ' rk'):σ=σ':=by
 funext v
 revert v
 refine h.ind fun v ih=>?_
 cases hi:Ae s v with
 | none=>rw[h.free v hi,h'.free v hi]
 | some t=>rw[h.fix v t hi,h'.fix v t hi];exact DJ t fun w hw=>ih t w hi hw
inductive PC (s:List A6) (v:A9):Term->Prop
 | here {t:Term}:t.var=true->t.name=v->PC s v t
 | bound {t x:Term}:t.var=true->Ae s t.name=some x->PC s v x->PC s v t
 | arg {t a:Term}:t.var=false->a∈t.args->PC s v a->PC s v t
theorem FU.occ_sem (h:FU s σ rk){v:A9}(hv:Ae s v=none){t:Term}(ht:Dw.vfl t=true):PC s v t↔Cz v (app σ t)=true:=by
 constructor
 ·intro ho
  induction ho with
  | here h1 h2=>rw[Aw h1,h2,h.free v hv,Q2]
  | bound h1 h2 _ ih=>rw[Aw h1,h.fix _ _ h2];exact ih (h.vf _ _ h2)
  | arg h1 h2 _ ih =>
   rw[Ba h1,Mn rfl]
   exact⟨_,List.mem_map_of_mem h2,ih (BJ ht h2)⟩
 ·have B:∀ t:Term,Dw.vfl t=true->(∀ u,Cz u t=true->Cz v (σ u)=true->∀ t':Term,t'.var=true->t'.name=u->PC s v t')->Cz v (app σ t)=true->PC s v t:=by
   intro t
   induction t using Ag with
   | h t ih =>
   intro ht hu ho
   cases hv:t.var with
   | true =>
    rw[Aw hv]at ho
    exact hu _ (AE.2 (.inl ⟨hv,rfl⟩)) ho t hv rfl
   | false =>
    rw[Ba hv,Mn rfl]at ho
    obtain⟨b,hb,ho⟩:=ho
    simp only[Term.args,List.mem_map]at hb
    obtain⟨a,ha,rfl⟩:=hb
    exact .arg hv ha (ih a ha (BJ ht ha) (fun u h1=>hu u (AE.2 (.inr ⟨a,ha,h1⟩))) ho)
  have A:∀ u,Cz v (σ u)=true->∀ t':Term,t'.var=true->t'.name=u->PC s v t':=by
   refine h.ind fun u ih=>?_
   intro ho t' h1 h2
   cases hi:Ae s u with
   | none =>
    rw[h.free u hi,Q2]at ho
    exact .here h1 (h2.trans ho)
   | some x =>
    rw[h.fix u x hi]at ho
    exact .bound h1 (h2▸hi) (B x (h.vf u x hi) (fun w hw=>ih x w hi hw) ho)
  exact fun ho=>B t ht (fun u _=>A u) ho
theorem Y9 (rk:A9->Nat)(t:Term):∃ M,∀ w,Cz w t=true->rk w<=M:=by
 have key:∀ l:List A9,∃ M,∀ w∈l,rk w<=M:=by
  intro l
  induction l with
  | nil=>exact⟨0,by simp⟩
  | cons x l ih =>
   obtain⟨M,hM⟩:=ih
   refine⟨M+rk x,fun w hw=>?_⟩
   rcases List.mem_cons.1 hw with rfl | hw
   ·omega
   ·have:=hM w hw;omega
 obtain⟨M,hM⟩:=key (E3 t)
 exact⟨M,fun w hw=>hM w ((F9 w t []).2 (.inr hw))⟩
theorem FU.bind (h:FU s σ rk){v:A9}(hv:Ae s v=none){t:Term}(ht:Dw.vfl t=true)(hn:¬ PC s v t):∃ σ' rk',FU (FS s v t) σ' rk'/\∀ w,σ' w=app σ' (σ w):=by
 have hno:¬ Cz v (app σ t)=true:=fun e=>hn ((h.occ_sem hv ht).2 e)
 obtain⟨M,hM⟩:=Y9 rk t
 let τ:EE:=fun u=>if u=v then app σ t else BZ u
 have hτ:∀ u,u≠v->τ u=BZ u:=fun u hu=>if_neg hu
 have hτt:app τ (app σ t)=app σ t:=pV _ (kD t fun w _=>h.vfl w) fun u hu=>hτ u fun e=>hno (e▸hu)
 refine⟨fun w=>app τ (σ w),fun w=>if Cz v (σ w)=true then rk w+(M+1) else rk w,⟨Tt h.srt hv,?_,?_,?_,?_⟩,?_⟩
 ·intro w x hx
  rw[Es hv]at hx
  split at hx
  ·cases hx;exact ht
  ·exact h.vf w x hx
 ·intro w hw
  rw[Es hv]at hw
  split at hw
  ·cases hw
  ·rename_i hne
   show app τ (σ w)=_
   rw[h.free w hw,BZ,Aw rfl]
   exact hτ w fun e=>hne e.symm
 ·intro w x hx
  show app τ (σ w)=app (fun w=>app τ (σ w)) x
  rw[<-OH]
  rw[Es hv]at hx
  split at hx
  ·rename_i e
   cases hx
   subst e
   rw[h.free v hv,BZ,Aw rfl,hτt]
   exact if_pos rfl
  ·rw[h.fix w x hx]
 ·intro u x hx w hw
  show (if Cz v (σ w)=true then _ else _)<(if Cz v (σ u)=true then _ else _)
  rw[Es hv]at hx
  split at hx
  ·rename_i e
   cases hx
   subst e
   have h1:=hM w hw
   have h2:¬ Cz v (σ w)=true:=fun e=>hno ((Tb t ht).2 ⟨w,hw,e⟩)
   rw[if_neg h2,h.free v hv,if_pos (Q2.2 rfl)]
   omega
  ·have h1:=h.low u x hx w hw
   have h2:Cz v (σ w)=true->Cz v (σ u)=true:=fun e=>by
    rw[h.fix u x hx]
    exact (Tb x (h.vf u x hx)).2 ⟨w,hw,e⟩
   by_cases c:Cz v (σ w)=true
   ·rw[if_pos c,if_pos (h2 c)];omega
   ·rw[if_neg c];split<;>omega
 ·intro w
  show app τ (σ w)=app (fun w=>app τ (σ w)) (σ w)
  rw[<-OH,h.idem]
end
def DR:Nat->List A6->Term->Option Term
 | 0,_,_=>none
 | n+1,s,t=>if t.var then (match Ae s t.name with | some x=>DR n s x | none=>some t) else some t
open Classical in
noncomputable def Ly (s:List A6)(v:A9)(t:Term):List A6×Bool:=if PC s v t then (s,false) else (FS s v t,true)
def AF (f:List A6->Term->Term->Option (List A6×Bool)):List A6->List Term->List Term->Option (List A6×Bool)
 | s,a::l,b::m=>match f s a b with
  | none=>none
  | some (s',false)=>some (s',false)
  | some (s',true)=>AF f s' l m
 | s,_,_=>some (s,true)
noncomputable def AZ:Nat->List A6->Term->Term->Option (List A6×Bool)
 | 0,_,_,_=>none
 | n+1,s,a,b=>match DR (n+1) s a,DR (n+1) s b with
  | some x,some y =>
   if x.var then (if y.var/\x.name=y.name then some (s,true) else some (Ly s x.name y))
   else if y.var then some (Ly s y.name x)
   else if x.name≠y.name\/x.args.length≠y.args.length then some (s,false)
   else AF (AZ n) s x.args y.args
  | _,_=>none
theorem LA {s:List A6}:∀ {n m:Nat} {t x:Term},DR n s t=some x->n<=m->DR m s t=some x
 | 0,_,_,_,h,_=>by cases h
 | n+1,0,_,_,_,h=>by omega
 | n+1,m+1,t,x,h,hm=>by
  simp only[DR]at h ⊢
  split at h
  ·rename_i hv
   rw[if_pos hv]
   cases hi:Ae s t.name with
   | none=>rw[hi]at h;exact h
   | some y=>rw[hi]at h;exact LA h (by omega)
  ·rename_i hv
   rw[if_neg hv];exact h
theorem Fh {f g:List A6->Term->Term->Option (List A6×Bool)}(hfg:∀ s a b r,f s a b=some r->g s a b=some r):∀ (l m:List Term)(s:List A6)(r:List A6×Bool),AF f s l m=some r->AF g s l m=some r
 | [],_,s,r,h=>h
 | _::_,[],s,r,h=>h
 | a::l,b::m,s,r,h=>by
  simp only[AF]at h ⊢
  cases hf:f s a b with
  | none=>rw[hf]at h;cases h
  | some p =>
   obtain⟨s',ok⟩:=p
   rw[hf]at h
   rw[hfg _ _ _ _ hf]
   cases ok with
   | false=>exact h
   | true=>exact Fh hfg l m s' r h
theorem F0:∀ (n m:Nat)(s:List A6)(a b:Term)(r:List A6×Bool),AZ n s a b=some r->n<=m->AZ m s a b=some r
 | 0,_,_,_,_,_,h,_=>by cases h
 | n+1,0,_,_,_,_,_,h=>by omega
 | n+1,m+1,s,a,b,r,h,hm=>by
  simp only[AZ]at h ⊢
  cases hx:DR (n+1) s a with
  | none=>rw[hx]at h;cases h
  | some x =>
   cases hy:DR (n+1) s b with
   | none=>rw[hx,hy]at h;cases h
   | some y =>
    rw[hx,hy]at h
    rw[LA hx (by omega),LA hy (by omega)]
    simp only at h ⊢
    by_cases c1:x.var=true
    ·rw[if_pos c1]at h ⊢;exact h
    ·rw[if_neg c1]at h ⊢
     by_cases c2:y.var=true
     ·rw[if_pos c2]at h ⊢;exact h
     ·rw[if_neg c2]at h ⊢
      by_cases c3:x.name≠y.name\/x.args.length≠y.args.length
      ·rw[if_pos c3]at h ⊢;exact h
      ·rw[if_neg c3]at h ⊢
       exact Fh (fun s a b r hr=>F0 n m s a b r hr (by omega)) _ _ _ _ h
theorem JV {n:Nat}{s:List A6}{a b:Term}{r:List A6×Bool}(h:AZ (n+1) s a b=some r):∃ x y,DR (n+1) s a=some x/\DR (n+1) s b=some y /\
  ((x.var=true/\y.var=true/\x.name=y.name/\r=(s,true))\/(x.var=true/\¬ (y.var=true/\x.name=y.name)/\r=Ly s x.name y)\/(x.var=false/\y.var=true/\r=Ly s y.name x) \/
   (x.var=false/\y.var=false/\(x.name≠y.name\/x.args.length≠y.args.length)/\r=(s,false)) \/
   (x.var=false/\y.var=false/\x.name=y.name/\x.args.length=y.args.length/\AF (AZ n) s x.args y.args=some r)):=by
 simp only[AZ]at h
 cases hx:DR (n+1) s a with
 | none=>rw[hx]at h;cases h
 | some x =>
  cases hy:DR (n+1) s b with
  | none=>rw[hx,hy]at h;cases h
  | some y =>
   rw[hx,hy]at h
   simp only at h
   refine⟨x,y,rfl,rfl,?_⟩
   by_cases c1:x.var=true
   ·rw[if_pos c1]at h
    by_cases c2:y.var=true/\x.name=y.name
    ·rw[if_pos c2]at h;cases h;exact .inl ⟨c1,c2.1,c2.2,rfl⟩
    ·rw[if_neg c2]at h;cases h;exact .inr (.inl ⟨c1,c2,rfl⟩)
   ·rw[if_neg c1]at h
    have c1:x.var=false:=by simpa using c1
    by_cases c2:y.var=true
    ·rw[if_pos c2]at h;cases h;exact .inr (.inr (.inl ⟨c1,c2,rfl⟩))
    ·rw[if_neg c2]at h
     have c2:y.var=false:=by simpa using c2
     by_cases c3:x.name≠y.name\/x.args.length≠y.args.length
     ·rw[if_pos c3]at h;cases h;exact .inr (.inr (.inr (.inl ⟨c1,c2,c3,rfl⟩)))
     ·rw[if_neg c3]at h
      simp only[not_or,Classical.not_not]at c3
      exact .inr (.inr (.inr (.inr ⟨c1,c2,c3.1,c3.2,h⟩)))
theorem E8 {s:List A6}:∀ {n:Nat} {t x:Term},DR n s t=some x->x.var=true->Ae s x.name=none
 | 0,_,_,h,_=>by cases h
 | n+1,t,x,h,hx=>by
  simp only[DR]at h
  split at h
  ·cases hi:Ae s t.name with
   | none=>rw[hi]at h;cases h;exact hi
   | some y=>rw[hi]at h;exact E8 h hx
  ·rename_i hv;cases h;exact absurd hx hv
theorem Iz {θ:EE}{s:List A6}(hθ:TO θ s):∀ {n:Nat} {t x:Term},DR n s t=some x->app θ x=app θ t
 | 0,_,_,h=>by cases h
 | n+1,t,x,h=>by
  simp only[DR]at h
  split at h
  ·rename_i hv
   cases hi:Ae s t.name with
   | none=>rw[hi]at h;cases h;rfl
   | some y=>rw[hi]at h;rw[Iz hθ h,Aw hv];exact (hθ _ _ hi).symm
  ·cases h;rfl
theorem C6 {P:Term->Prop}{s:List A6}(hs:∀ v t,Ae s v=some t->P t):∀ {n:Nat} {t x:Term},P t->DR n s t=some x->P x
 | 0,_,_,_,h=>by cases h
 | n+1,t,x,ht,h=>by
  simp only[DR]at h
  split at h
  ·cases hi:Ae s t.name with
   | none=>rw[hi]at h;cases h;exact ht
   | some y=>rw[hi]at h;exact C6 hs (hs _ _ hi) h
  ·cases h;exact ht
theorem Ut {s:List A6}{σ:EE}{rk:A9->Nat}(h:FU s σ rk):∀ (n:Nat)(t:Term),(t.var=true->rk t.name<n)->∃ x,DR (n+1) s t=some x
 | n,t,ht=>by
  simp only[DR]
  split
  ·rename_i hv
   cases hi:Ae s t.name with
   | none=>exact⟨t,rfl⟩
   | some y =>
    cases n with
    | zero=>exact absurd (ht hv) (by omega)
    | succ n =>
     refine Ut h n y fun hy=>?_
     have:=h.low _ _ hi y.name (AE.2 (.inl ⟨hy,rfl⟩))
     have:=ht hv
     omega
  ·exact⟨t,rfl⟩
end Go.Dw
end
section
namespace Go.Dw
theorem Fm {s:List A6}(hs:DE s){b:A6}(hb:b∈s):Ae s b.name=some b.term:=by
 induction s with
 | nil=>cases hb
 | cons c s ih =>
  obtain⟨h1,h2⟩:=List.pairwise_cons.1 hs
  simp only[Ae]
  rcases List.mem_cons.1 hb with rfl | hb
  ·rw[if_pos rfl]
  ·rw[if_neg fun e=>by have:=h1 b hb;rw[e]at this;exact Dr _ this]
   exact ih h2 hb
theorem M7 (s:List A6)(v:A9)(t:Term):(PC s v t/\Ly s v t=(s,false))\/(¬ PC s v t/\Ly s v t=(FS s v t,true)):=by
 unfold Ly
 by_cases h:PC s v t
 ·exact .inl ⟨h,if_pos h⟩
 ·exact .inr ⟨h,if_neg h⟩
theorem qe {s:List A6}{θ:EE}{v:A9}(hθ:TO θ s){t:Term}(h:PC s v t):size (θ v)<=size (app θ t)/\(t.var=false->size (θ v)<size (app θ t)):=by
 induction h with
 | here h1 h2=>rw[Aw h1,h2];exact⟨Nat.le_refl _,fun h=>by rw[h1]at h;cases h⟩
 | bound h1 h2 _ ih=>rw[Aw h1,hθ _ _ h2];exact⟨ih.1,fun h=>by rw[h1]at h;cases h⟩
 | @arg t a h1 h2 _ ih =>
  have h3:size (app θ t)=1+Ac (t.args.map (app θ)):=by rw[Ba h1];rfl
  have h4:=Bt (List.mem_map_of_mem (f:=app θ) h2)
  have:=ih.1
  omega
theorem TO.mono {θ:EE}{s s':List A6}(h:TO θ s')(he:U5 s s'):TO θ s:=fun v t hi=>h v t (he v t hi)
structure kE (s:List A6) (σ:EE) (A:EE->Prop) (r:List A6×Bool) (σ':EE) (rk':A9->Nat):Prop where
 ok:FU r.1 σ' rk'
 ext:U5 s r.1
 len:r.1=s\/s.length<r.1.length
 comp:∀ w,σ' w=app σ' (σ w)
 eq:r.2=true->A σ'
 mgu:∀ θ,TO θ s->A θ->r.2=true/\TO θ r.1
theorem Xi {σ σ':EE}(h:∀ w,σ' w=app σ' (σ w))(t:Term):app σ' t=app σ' (app σ t):=by
 rw[OH];exact DJ t fun v _=>h v
theorem jX {s:List A6}{σ:EE}{rk:A9->Nat}(h:FU s σ rk){v:A9}{t:Term}(hv:Ae s v=none)(ht:vfl t=true)(hne:t.var=true->Ae s t.name=none/\t.name≠v) :
  ∃ σ' rk',kE s σ (fun θ=>θ v=app θ t) (Ly s v t) σ' rk':=by
 rcases M7 s v t with ⟨ho,e⟩|⟨ho,e⟩
 ·rw[e]
  refine⟨σ,rk,h,U5.refl s,.inl rfl,fun w=>(h.idem w).symm,(fun e=>by cases e),fun θ hθ he=>?_⟩
  exfalso
  cases hv2:t.var with
  | true =>
   obtain⟨h1,h2⟩:=hne hv2
   cases ho with
   | here _ h4=>exact h2 h4
   | bound _ h4 _=>rw[h1]at h4;cases h4
   | arg h3 _ _=>rw[hv2]at h3;cases h3
  | false =>
   have:=(qe hθ ho).2 hv2
   rw[<-he]at this
   omega
 ·rw[e]
  obtain⟨σ',rk',h1,h2⟩:=h.bind hv ht ho
  refine⟨σ',rk',h1,nM hv,.inr (by rw[aB];omega),h2,fun _=>h1.fix v t (by rw[Es hv,if_pos rfl]),fun θ hθ he=>⟨rfl,fun w x hx=>?_⟩⟩
  rw[Es hv]at hx
  split at hx
  ·rename_i e;cases hx;subst e;exact he
  ·exact hθ w x hx
theorem RH {n:Nat}(ih:∀ (s:List A6)(σ:EE)(rk:A9->Nat)(a b:Term)(r:List A6×Bool),FU s σ rk->vfl a=true->vfl b=true->AZ n s a b=some r->∃ σ' rk',kE s σ (fun θ=>app θ a=app θ b) r σ' rk') :
  ∀ (l m:List Term)(s:List A6)(σ:EE)(rk:A9->Nat)(r:List A6×Bool),FU s σ rk->(∀ a∈l,vfl a=true)->(∀ b∈m,vfl b=true)->l.length=m.length->AF (AZ n) s l m=some r->∃ σ' rk',kE s σ (fun θ=>l.map (app θ)=m.map (app θ)) r σ' rk'
 | [],[],s,σ,rk,r,h,_,_,_,hr=>by
  simp only[AF,Option.some.injEq]at hr
  subst hr
  exact⟨σ,rk,h,U5.refl s,.inl rfl,fun w=>(h.idem w).symm,fun _=>rfl,fun θ hθ _=>⟨rfl,hθ⟩⟩
 | a::l,b::m,s,σ,rk,r,h,hl,hm,hlen,hr=>by
  simp only[AF]at hr
  cases hf:AZ n s a b with
  | none=>rw[hf]at hr;cases hr
  | some p =>
   obtain⟨s1,ok⟩:=p
   rw[hf]at hr
   obtain⟨σ1,rk1,h1⟩:=ih s σ rk a b _ h (hl a (by simp)) (hm b (by simp)) hf
   cases ok with
   | false =>
    simp only[Option.some.injEq]at hr
    subst hr
    refine⟨σ1,rk1,h1.ok,h1.ext,h1.len,h1.comp,(fun e=>by cases e),fun θ hθ he=>?_⟩
    simp only[List.map_cons,List.cons.injEq]at he
    have:=(h1.mgu θ hθ he.1).1
    cases this
   | true =>
    simp only at hr
    obtain⟨σ2,rk2,h2⟩:=RH ih l m s1 σ1 rk1 r h1.ok (fun x hx=>hl x (by simp[hx])) (fun x hx=>hm x (by simp[hx])) (by simpa using hlen) hr
    refine⟨σ2,rk2,h2.ok,h1.ext.trans h2.ext,?_,fun w=>?_,fun e=>?_,fun θ hθ he=>?_⟩
    ·rcases h1.len with e1 | e1<;>rcases h2.len with e2 | e2
     ·exact .inl (e2.trans e1)
     ·right;rw[<-e1];exact e2
     ·right;rw[e2];exact e1
     ·right;simp only at e1;omega
    ·rw[h2.comp w,h1.comp w,<-Xi h2.comp]
    ·have h3:app σ1 a=app σ1 b:=h1.eq rfl
     simp only[List.map_cons]
     rw[Xi h2.comp a,Xi h2.comp b,h3,h2.eq e]
    ·simp only[List.map_cons,List.cons.injEq]at he
     have h3:=h1.mgu θ hθ he.1
     exact h2.mgu θ h3.2 he.2
 | [],_::_,_,_,_,_,_,_,_,hlen,_=>by simp at hlen
 | _::_,[],_,_,_,_,_,_,_,hlen,_=>by simp at hlen
theorem FD:∀ (n:Nat)(s:List A6)(σ:EE)(rk:A9->Nat)(a b:Term)(r:List A6×Bool),FU s σ rk->vfl a=true->vfl b=true->AZ n s a b=some r->∃ σ' rk',kE s σ (fun θ=>app θ a=app θ b) r σ' rk'
 | 0,_,_,_,_,_,_,_,_,_,h=>by cases h
 | n+1,s,σ,rk,a,b,r,h,ha,hb,hr=>by
  obtain⟨x,y,hx,hy,hc⟩:=JV hr
  have hxa:=fun θ (hθ:TO θ s)=>Iz hθ hx
  have hyb:=fun θ (hθ:TO θ s)=>Iz hθ hy
  have hvx:vfl x=true:=C6 (P:=fun t=>vfl t=true) h.vf ha hx
  have hvy:vfl y=true:=C6 (P:=fun t=>vfl t=true) h.vf hb hy
  rcases hc with ⟨c1,c2,c3,rfl⟩|⟨c1,c2,rfl⟩|⟨c1,c2,rfl⟩|⟨c1,c2,c3,rfl⟩|⟨c1,c2,c3,c4,c5⟩
  ·refine⟨σ,rk,h,U5.refl s,.inl rfl,fun w=>(h.idem w).symm,fun _=>?_,fun θ hθ _=>⟨rfl,hθ⟩⟩
   rw[<-hxa σ h.sat,<-hyb σ h.sat,Aw c1,Aw c2,c3]
  ·obtain⟨σ',rk',k⟩:=jX h (E8 hx c1) hvy (fun e=>⟨E8 hy e,fun e2=>c2 ⟨e,e2.symm⟩⟩)
   refine⟨σ',rk',k.ok,k.ext,k.len,k.comp,fun e=>?_,fun θ hθ he=>k.mgu θ hθ ?_⟩
   ·have hs:=k.ok.sat.mono k.ext
    rw[<-hxa σ' hs,<-hyb σ' hs,Aw c1];exact k.eq e
   ·rw[<-Aw (f:=θ) c1,hxa θ hθ,hyb θ hθ];exact he
  ·obtain⟨σ',rk',k⟩:=jX h (v:=y.name) (t:=x) (E8 hy c2) hvx (fun e=>by rw[c1]at e;cases e)
   refine⟨σ',rk',k.ok,k.ext,k.len,k.comp,fun e=>?_,fun θ hθ he=>k.mgu θ hθ ?_⟩
   ·have hs:=k.ok.sat.mono k.ext
    rw[<-hxa σ' hs,<-hyb σ' hs,Aw c2];exact (k.eq e).symm
   ·rw[<-Aw (f:=θ) c2,hxa θ hθ,hyb θ hθ];exact he.symm
  ·refine⟨σ,rk,h,U5.refl s,.inl rfl,fun w=>(h.idem w).symm,(fun e=>by cases e),fun θ hθ he=>?_⟩
   exfalso
   rw[<-hxa θ hθ,<-hyb θ hθ,Ba c1,Ba c2]at he
   injection he with e1 _ e3
   rcases c3 with c3 | c3
   ·exact c3 e1
   ·have:=congrArg List.length e3
    simp only[List.length_map]at this
    exact c3 this
  ·obtain⟨σ',rk',k⟩:=RH (FD n) x.args y.args s σ rk r h (fun z hz=>BJ hvx hz) (fun z hz=>BJ hvy hz) c4 c5
   refine⟨σ',rk',k.ok,k.ext,k.len,k.comp,fun e=>?_,fun θ hθ he=>k.mgu θ hθ ?_⟩
   ·have hs:=k.ok.sat.mono k.ext
    rw[<-hxa σ' hs,<-hyb σ' hs,Ba c1,Ba c2,c3,k.eq e]
   ·rw[<-hxa θ hθ,<-hyb θ hθ,Ba c1,Ba c2]at he
    injection he
theorem ZT {P:Term->Prop}{Q:A9->Prop}{s:List A6}{v:A9}{t:Term}(hs:∀ v t,Ae s v=some t->P t/\Q v)(hv:Ae s v=none)(ht:P t)(hq:Q v):∀ w x,Ae (Ly s v t).1 w=some x->P x/\Q w:=by
 rcases M7 s v t with ⟨_,e⟩|⟨_,e⟩
 ·rw[e];exact hs
 ·rw[e]
  intro w x hx
  rw[Es hv]at hx
  split at hx
  ·rename_i e;cases hx;subst e;exact⟨ht,hq⟩
  ·exact hs w x hx
theorem K7 {P:Term->Prop}{Q:A9->Prop}(hP:∀ t a,P t->a∈t.args->P a)(hQ:∀ t,P t->t.var=true->Q t.name):∀ (n:Nat)(s:List A6)(a b:Term)(r:List A6×Bool),(∀ v t,Ae s v=some t->P t/\Q v)->P a->P b->AZ n s a b=some r->∀ v t,Ae r.1 v=some t->P t/\Q v
 | 0,_,_,_,_,_,_,_,h=>by cases h
 | n+1,s,a,b,r,hs,ha,hb,hr=>by
  obtain⟨x,y,hx,hy,hc⟩:=JV hr
  have hvx:P x:=C6 (fun v t h=>(hs v t h).1) ha hx
  have hvy:P y:=C6 (fun v t h=>(hs v t h).1) hb hy
  rcases hc with ⟨c1,c2,c3,rfl⟩|⟨c1,c2,rfl⟩|⟨c1,c2,rfl⟩|⟨c1,c2,c3,rfl⟩|⟨c1,c2,c3,c4,c5⟩
  ·exact hs
  ·exact ZT hs (E8 hx c1) hvy (hQ x hvx c1)
  ·exact ZT hs (E8 hy c2) hvx (hQ y hvy c2)
  ·exact hs
  ·have key:∀ (l m:List Term)(s:List A6),(∀ a∈l,P a)->(∀ b∈m,P b)->(∀ v t,Ae s v=some t->P t/\Q v)->AF (AZ n) s l m=some r->∀ v t,Ae r.1 v=some t->P t/\Q v:=by
    intro l
    induction l with
    | nil=>intro m s _ _ hs h;simp only[AF,Option.some.injEq]at h;subst h;exact hs
    | cons a l ihl =>
     intro m s hl hm hs h
     cases m with
     | nil=>simp only[AF,Option.some.injEq]at h;subst h;exact hs
     | cons b m =>
      simp only[AF]at h
      cases hf:AZ n s a b with
      | none=>rw[hf]at h;cases h
      | some p =>
       obtain⟨s1,ok⟩:=p
       rw[hf]at h
       have h1:=K7 hP hQ n s a b _ hs (hl a (by simp)) (hm b (by simp)) hf
       cases ok with
       | false=>simp only[Option.some.injEq]at h;subst h;exact h1
       | true=>exact ihl m s1 (fun x hx=>hl x (by simp[hx])) (fun x hx=>hm x (by simp[hx])) h1 h
   exact key x.args y.args s (fun z hz=>hP x z hvx hz) (fun z hz=>hP y z hvy hz) hs c5
theorem Zo:∀ (s:List A6)(Vs:List A9),DE s->(∀ b∈s,b.name∈Vs)->s.length<=Vs.length
 | [],_,_,_=>by simp
 | b::s,Vs,hs,h=>by
  obtain⟨h1,h2⟩:=List.pairwise_cons.1 hs
  have hb:=h b (by simp)
  have:=Zo s (Vs.erase b.name) h2 fun c hc=>(List.mem_erase_of_ne (fun e=>by have:=h1 c hc;rw[e]at this;exact Dr _ this)).2 (h c (by simp[hc]))
  rw[List.length_erase_of_mem hb]at this
  have:=List.length_pos_of_mem hb
  simp only[List.length_cons];omega
def BX (Vs:List A9)(t:Term):Prop:=vfl t=true/\∀ w,Cz w t=true->w∈Vs
theorem BX.arg {Vs:List A9}{t a:Term}(h:BX Vs t)(ha:a∈t.args):BX Vs a:=⟨BJ h.1 ha,fun w hw=>h.2 w (AE.2 (.inr ⟨a,ha,hw⟩))⟩
theorem HN {Vs:List A9}{s:List A6}(hs:DE s)(h:∀ v t,Ae s v=some t->BX Vs t/\v∈Vs):s.length<=Vs.length:=Zo s Vs hs fun b hb=>(h _ _ (Fm hs hb)).2
theorem LB {Vs:List A9}{n:Nat}{s:List A6}{a b:Term}{r:List A6×Bool}(hs:∀ v t,Ae s v=some t->BX Vs t/\v∈Vs)(ha:BX Vs a)(hb:BX Vs b)(hr:AZ n s a b=some r):∀ v t,Ae r.1 v=some t->BX Vs t/\v∈Vs :=
 K7 (P:=BX Vs) (Q:=fun v=>v∈Vs) (fun t a h ha=>h.arg ha) (fun t h hv=>h.2 _ (AE.2 (.inl ⟨hv,rfl⟩))) n s a b r hs ha hb hr
theorem db (Vs:List A9):∀ (k m:Nat)(s:List A6)(σ:EE)(rk:A9->Nat)(a b:Term),FU s σ rk->(∀ v t,Ae s v=some t->BX Vs t/\v∈Vs)->BX Vs a->BX Vs b->Vs.length-s.length=k->size (app σ a)=m->∃ n r,AZ n s a b=some r:=by
 intro k
 induction k using Nat.strongRecOn with
 | ind k ihk =>
 intro m
 induction m using Nat.strongRecOn with
 | ind m ihm =>
 intro s σ rk a b h hs ha hb hk hm
 obtain⟨x,hx⟩:=Ut h (rk a.name+rk b.name+1) a (fun _=>by omega)
 obtain⟨y,hy⟩:=Ut h (rk a.name+rk b.name+1) b (fun _=>by omega)
 generalize hN:rk a.name+rk b.name+1=N at hx hy
 by_cases c1:x.var=true
 ·by_cases c2:y.var=true/\x.name=y.name
  ·exact⟨N+1,_,by simp only[AZ,hx,hy];rw[if_pos c1,if_pos c2]⟩
  ·exact⟨N+1,_,by simp only[AZ,hx,hy];rw[if_pos c1,if_neg c2]⟩
 ·by_cases c2:y.var=true
  ·exact⟨N+1,_,by simp only[AZ,hx,hy];rw[if_neg c1,if_pos c2]⟩
  ·by_cases c3:x.name≠y.name\/x.args.length≠y.args.length
   ·exact⟨N+1,_,by simp only[AZ,hx,hy];rw[if_neg c1,if_neg c2,if_pos c3]⟩
   ·have hxv:x.var=false:=by simpa using c1
    have hax:BX Vs x:=C6 (P:=BX Vs) (fun v t h=>(hs v t h).1) ha hx
    have hay:BX Vs y:=C6 (P:=BX Vs) (fun v t h=>(hs v t h).1) hb hy
    have hsz:1+Ac (x.args.map (app σ))=m:=by
     rw[<-hm,<-Iz h.sat hx,Ba hxv];rfl
    have key:∀ (l m':List Term)(s1:List A6)(σ1:EE)(rk1:A9->Nat),FU s1 σ1 rk1->(∀ v t,Ae s1 v=some t->BX Vs t/\v∈Vs)->(∀ z∈l,z∈x.args)->(∀ z∈m',BX Vs z)->(s1=s\/s.length<s1.length)->∃ n r,AF (AZ n) s1 l m'=some r:=by
     intro l
     induction l with
     | nil=>intro m' s1 _ _ _ _ _ _ _;exact⟨0,(s1,true),by simp only[AF]⟩
     | cons a' l ihl =>
      intro m' s1 σ1 rk1 h1 hs1 hl hm' hlen
      cases m' with
      | nil=>exact⟨0,(s1,true),by simp only[AF]⟩
      | cons b' m' =>
       have haa:BX Vs a':=hax.arg (hl a' (by simp))
       have hbb:BX Vs b':=hm' b' (by simp)
       have hone:∃ n r,AZ n s1 a' b'=some r:=by
        rcases hlen with e | e
        ·subst e
         have e:=h.uniq h1
         subst e
         have h3:=Bt (List.mem_map_of_mem (f:=app σ) (hl a' (by simp)))
         exact ihm (size (app σ a')) (by omega) s1 σ rk a' b' h hs1 haa hbb hk rfl
        ·have h3:=HN h1.srt hs1
         exact ihk (Vs.length-s1.length) (by omega) _ s1 σ1 rk1 a' b' h1 hs1 haa hbb rfl rfl
       obtain⟨n1,⟨s2,ok⟩,hr1⟩:=hone
       cases ok with
       | false=>exact⟨n1,(s2,false),by simp only[AF,hr1]⟩
       | true =>
        obtain⟨σ2,rk2,h2⟩:=FD n1 s1 σ1 rk1 a' b' _ h1 haa.1 hbb.1 hr1
        obtain⟨n2,r2,hr2⟩:=ihl m' s2 σ2 rk2 h2.ok (LB hs1 haa hbb hr1) (fun z hz=>hl z (by simp[hz])) (fun z hz=>hm' z (by simp[hz])) (by
         have h5:=h2.len
         simp only at h5
         rcases h5 with e | e
         ·rw[e];exact hlen
         ·rcases hlen with e2 | e2
          ·rw[e2]at e;exact .inr e
          ·exact .inr (by omega))
        refine⟨n1+n2,r2,?_⟩
        simp only[AF]
        rw[F0 n1 (n1+n2) _ _ _ _ hr1 (by omega)]
        exact Fh (fun s a b r hr=>F0 n2 (n1+n2) s a b r hr (by omega)) _ _ _ _ hr2
    obtain⟨n,r,hr⟩:=key x.args y.args s σ rk h hs (fun z hz=>hz) (fun z hz=>hay.arg hz) (.inl rfl)
    refine⟨N+n+1,r,?_⟩
    simp only[AZ]
    rw[LA hx (by omega),LA hy (by omega)]
    simp only
    rw[if_neg c1,if_neg c2,if_neg c3]
    exact Fh (fun s a b r hr=>F0 n (N+n) s a b r hr (by omega)) _ _ _ _ hr
theorem IB (Vs:List A9):∀ (l m:List Term)(s:List A6)(σ:EE)(rk:A9->Nat),FU s σ rk->(∀ v t,Ae s v=some t->BX Vs t/\v∈Vs)->(∀ z∈l,BX Vs z)->(∀ z∈m,BX Vs z)->∃ n r,AF (AZ n) s l m=some r
 | [],_,s,_,_,_,_,_,_=>⟨0,(s,true),by simp only[AF]⟩
 | _::_,[],s,_,_,_,_,_,_=>⟨0,(s,true),by simp only[AF]⟩
 | a::l,b::m,s,σ,rk,h,hs,hl,hm=>by
  have haa:=hl a (by simp)
  have hbb:=hm b (by simp)
  obtain⟨n1,⟨s2,ok⟩,hr1⟩:=db Vs _ _ s σ rk a b h hs haa hbb rfl rfl
  cases ok with
  | false=>exact⟨n1,(s2,false),by simp only[AF,hr1]⟩
  | true =>
   obtain⟨σ2,rk2,h2⟩:=FD n1 s σ rk a b _ h haa.1 hbb.1 hr1
   obtain⟨n2,r2,hr2⟩:=IB Vs l m s2 σ2 rk2 h2.ok (LB hs haa hbb hr1) (fun z hz=>hl z (by simp[hz])) (fun z hz=>hm z (by simp[hz]))
   refine⟨n1+n2,r2,?_⟩
   simp only[AF]
   rw[F0 n1 (n1+n2) _ _ _ _ hr1 (by omega)]
   exact Fh (fun s a b r hr=>F0 n2 (n1+n2) s a b r hr (by omega)) _ _ _ _ hr2
theorem gi {n m:Nat}{s:List A6}{l k:List Term}{r q:List A6×Bool}(h:AF (AZ n) s l k=some r)(h2:AF (AZ m) s l k=some q):r=q:=by
 have e1:=Fh (g:=AZ (n+m)) (fun s a b r hr=>F0 n (n+m) s a b r hr (by omega)) _ _ _ _ h
 have e2:=Fh (g:=AZ (n+m)) (fun s a b r hr=>F0 m (n+m) s a b r hr (by omega)) _ _ _ _ h2
 rw[e1]at e2;exact Option.some.inj e2
open Classical in
noncomputable def HF (l m:List Term):List A6×Bool:=if h:∃ r,∃ n,AF (AZ n) [] l m=some r then h.choose else ([],false)
theorem Nr {n:Nat}{l m:List Term}{r:List A6×Bool}(h:AF (AZ n) [] l m=some r):HF l m=r:=by
 unfold HF
 have he:∃ r,∃ n,AF (AZ n) [] l m=some r:=⟨r,n,h⟩
 rw[dif_pos he]
 obtain⟨k,hk⟩:=he.choose_spec
 exact gi hk h
open Classical in
noncomputable def SW (s:List A6):EE:=if h:∃ σ,∃ rk,FU s σ rk then h.choose else BZ
theorem T3 {s:List A6}{σ:EE}{rk:A9->Nat}(h:FU s σ rk):SW s=σ:=by
 unfold SW
 have he:∃ σ,∃ rk,FU s σ rk:=⟨σ,rk,h⟩
 rw[dif_pos he]
 obtain⟨rk',h'⟩:=he.choose_spec
 exact h'.uniq h
noncomputable def Ds (s:List A6):List A6:=s.map fun b=>⟨b.name,SW s b.name⟩
noncomputable def Fw (s:List A6):Bool:=s.any fun b=>!BO (SW s b.name)
noncomputable def K0 (l m:List Term):List A6×Bool×Int :=
 if (HF l m).2=false then ([],false,0) else if Fw (HF l m).1 then ([],false,3) else (Ds (HF l m).1,true,0)
theorem ac {Vs:List A9}{l m:List Term}(hl:∀ z∈l,BX Vs z)(hm:∀ z∈m,BX Vs z)(hlen:l.length=m.length):∃ rk,FU (HF l m).1 (SW (HF l m).1) rk/\(∀ v t,Ae (HF l m).1 v=some t->BX Vs t/\v∈Vs) /\
  ((HF l m).2=true->l.map (app (SW (HF l m).1))=m.map (app (SW (HF l m).1)))/\∀ θ:EE,l.map (app θ)=m.map (app θ)->(HF l m).2=true/\TO θ (HF l m).1:=by
 have hnil:∀ v t,Ae [] v=some t->BX Vs t/\v∈Vs:=fun v t h=>by cases h
 obtain⟨n,r,hr⟩:=IB Vs l m [] BZ (fun _=>0) FU.nil hnil hl hm
 rw[Nr hr]
 obtain⟨σ,rk,h⟩:=RH (FD n) l m [] BZ (fun _=>0) r FU.nil (fun z hz=>(hl z hz).1) (fun z hz=>(hm z hz).1) hlen hr
 rw[T3 h.ok]
 refine⟨rk,h.ok,?_,h.eq,fun θ hθ=>h.mgu θ (fun v t h=>by cases h) hθ⟩
 clear h
 revert hr
 have key:∀ (l m:List Term)(s:List A6),(∀ z∈l,BX Vs z)->(∀ z∈m,BX Vs z)->(∀ v t,Ae s v=some t->BX Vs t/\v∈Vs)->AF (AZ n) s l m=some r->∀ v t,Ae r.1 v=some t->BX Vs t/\v∈Vs:=by
  intro l
  induction l with
  | nil=>intro m s _ _ hs h;simp only[AF,Option.some.injEq]at h;subst h;exact hs
  | cons a l ihl =>
   intro m s hl hm hs h
   cases m with
   | nil=>simp only[AF,Option.some.injEq]at h;subst h;exact hs
   | cons b m =>
    simp only[AF]at h
    cases hf:AZ n s a b with
    | none=>rw[hf]at h;cases h
    | some p =>
     obtain⟨s1,ok⟩:=p
     rw[hf]at h
     have h1:=LB hs (hl a (by simp)) (hm b (by simp)) hf
     cases ok with
     | false=>simp only[Option.some.injEq]at h;subst h;exact h1
     | true=>exact ihl m s1 (fun x hx=>hl x (by simp[hx])) (fun x hx=>hm x (by simp[hx])) h1 h
 exact key l m [] hl hm hnil
end Go.Dw
end
namespace Go.Dw
theorem mh {n:Nat}{seen:List Nat}{k:Nat}(hm:n<=seen.length)(hnd:seen.Nodup)(hlt:∀ i∈seen,i<n)(hk:k∉seen)(hkn:k<n):False:=by
 have h1:(seen++[k]).Nodup:=by simp[List.nodup_append,hnd];intro a ha e;exact hk (e▸ha)
 have h2:(seen++[k]).length<=(List.range n).length:=List.Nodup.length_le_of_subset h1 (by
  intro i hi
  rw[List.mem_range]
  rcases List.mem_append.1 hi with h | h
  ·exact hlt i h
  ·simp only[List.mem_singleton]at h;subst h;exact hkn)
 simp at h2;omega
theorem qr (n:Nat)(R:List Nat->Prop)(h:∀ seen,seen.Nodup->(∀ i∈seen,i<n)->seen.length<=n->(∀ k,k<n->k∉seen->R (seen++[k]))->R seen):R []:=by
 have key:∀ (f:Nat)(seen:List Nat),n-seen.length<f->seen.Nodup->(∀ i∈seen,i<n)->R seen:=by
  intro f
  induction f with
  | zero=>intro seen hf;omega
  | succ f ih =>
   intro seen hf hnd hlt
   have hl:seen.length<=n:=by simpa using List.Nodup.length_le_of_subset hnd (l₂:=List.range n) fun i hi=>List.mem_range.2 (hlt i hi)
   refine h seen hnd hlt hl fun k hkn hk=>?_
   have hlen:seen.length<n:=by
    rcases Nat.lt_or_ge seen.length n with h | h
    ·exact h
    ·exact (mh h hnd hlt hk hkn).elim
   refine ih (seen++[k]) (by simp;omega) (by simp[List.nodup_append,hnd];intro a ha e;exact hk (e▸ha)) fun i hi=>?_
   rcases List.mem_append.1 hi with h | h
   ·exact hlt i h
   ·simp only[List.mem_singleton]at h;subst h;exact hkn
 exact key (n+1) [] (by simp) List.nodup_nil (by simp)
theorem bz {i:Nat}{l:List A9}{s:A9}:(.own i 1 (l.map cS++[[V.str s]]):V)=Bf cS i 1 (l++[s]):=by simp[Bf,cS]
end Go.Dw
section
namespace Go.Dw
section
variable {κ α:Type} [DecidableEq κ]
def C8:List (κ×α)->κ->Option α
 | [],_=>none
 | p::m,k=>if p.1=k then some p.2 else C8 m k
def Fa:List (κ×α)->κ->α->List (κ×α)
 | [],k,x=>[(k,x)]
 | p::m,k,x=>if p.1=k then (k,x)::m else p::Fa m k x
theorem HK (m:List (κ×α))(k j:κ)(x:α):C8 (Fa m k x) j=if k=j then some x else C8 m j:=by
 induction m with
 | nil=>simp only[Fa,C8]
 | cons p m ih =>
  simp only[Fa]
  split
  ·rename_i h
   simp only[C8,h]
   split<;>rfl
  ·rename_i h
   simp only[C8,ih]
   by_cases h2:p.1=j
   ·rw[if_pos h2,if_neg (fun e=>h (h2.trans e.symm)),if_pos h2]
   ·rw[if_neg h2,if_neg h2]
theorem oR {m:List (κ×α)}{k:κ}{x:α}(h:C8 m k=some x):(k,x)∈m:=by
 induction m with
 | nil=>cases h
 | cons p m ih =>
  simp only[C8]at h
  split at h
  ·rename_i e;cases h;subst e;exact List.mem_cons_self
  ·exact List.mem_cons_of_mem _ (ih h)
def me (m:List (κ×α)):Prop:=(m.map (·.1)).Nodup
theorem lJ {m:List (κ×α)}(h:me m)(k:κ)(x:α):me (Fa m k x):=by
 have hm:∀ (m:List (κ×α)) (j:κ),j∈(Fa m k x).map (·.1)->j=k\/j∈m.map (·.1):=by
  intro m
  induction m with
  | nil=>intro j hj;simp[Fa]at hj;exact .inl hj
  | cons p m ih =>
   intro j hj
   simp only[Fa]at hj
   split at hj
   ·simp only[List.map_cons,List.mem_cons]at hj ⊢
    rcases hj with h | h
    ·exact .inl h
    ·exact .inr (.inr h)
   ·simp only[List.map_cons,List.mem_cons]at hj ⊢
    rcases hj with h | h
    ·exact .inr (.inl h)
    ·rcases ih j h with h | h
     ·exact .inl h
     ·exact .inr (.inr h)
 unfold me at h ⊢
 induction m with
 | nil=>simp[Fa]
 | cons p m ih =>
  simp only[List.map_cons,List.nodup_cons]at h
  simp only[Fa]
  split
  ·rename_i e
   simp only[List.map_cons,List.nodup_cons]
   subst e;exact h
  ·rename_i e
   simp only[List.map_cons,List.nodup_cons]
   refine⟨fun hc=>?_,ih h.2⟩
   rcases hm m _ hc with h2 | h2
   ·exact e h2
   ·exact h.1 h2
theorem Vd {m:List (κ×α)}(h:me m){k:κ}{x:α}(hm:(k,x)∈m):C8 m k=some x:=by
 unfold me at h
 induction m with
 | nil=>cases hm
 | cons p m ih =>
  simp only[List.map_cons,List.nodup_cons]at h
  simp only[C8]
  rcases List.mem_cons.1 hm with e | hm
  ·subst e;rw[if_pos rfl]
  ·rw[if_neg (fun e=>h.1 (by rw[e];exact List.mem_map_of_mem (f:=(·.1)) hm))]
   exact ih h.2 hm
end
section
variable {α:Type}
def Bk (f:α->V)(m:List (A9×α)):List (V×V):=m.map fun p=>(.str p.1,f p.2)
theorem Tx (f:α->V)(m:List (A9×α)):(Bk f m).length=m.length:=by simp[Bk]
theorem Sf (f:α->V)(k:A9):∀ (m:List (A9×α)) (i:Nat),(C8 m k=none/\FV (.str k) (Bk f m) i=some none)\/∃ x j,C8 m k=some x/\FV (.str k) (Bk f m) i=some (some (i+j,f x))/\∀ y,(Bk f m).set j (.str k,f y)=Bk f (Fa m k y)
 | [],i=>.inl ⟨rfl,rfl⟩
 | p::m,i=>by
  by_cases h:p.1=k
  ·refine .inr ⟨p.2,0,?_,?_,fun y=>?_⟩
   ·simp[C8,h]
   ·simp[Bk,FV,HP,h]
   ·simp[Bk,Fa,h]
  ·have h':k≠p.1:=fun e=>h e.symm
   have hb:(k==p.1)=false:=by simpa using h'
   have e:∀ (i:Nat) ,FV (.str k) (Bk f (p::m)) i=FV (.str k) (Bk f m) (i+1):=fun i=>by simp[Bk,FV,HP,hb]
   have eg:C8 (p::m) k=C8 m k:=by simp only[C8];rw[if_neg h]
   rw[eg,e]
   rcases Sf f k m (i+1)with h1 | ⟨x,j,h1,h2,h3⟩
   ·exact .inl h1
   ·refine .inr ⟨x,j+1,h1,by rw[h2];congr 3;omega,fun y=>?_⟩
    have:=h3 y
    simp only[Bk,Fa,if_neg h,List.map_cons,List.set_cons_succ]at this ⊢
    rw[this]
theorem KV (f:α->V)(m:List (A9×α))(k:A9)(ok:Bool)(z:V){H:List Ob}{i:Nat}(hi:H[i]?=some (.map (Bk f m))):Lq H true ok z (.map i) (.str k)=some (if ok then .tup [((C8 m k).map f).getD z,.bool (C8 m k).isSome] else ((C8 m k).map f).getD z):=by
 have he:DA H (.map i)=some (Bk f m):=by simp[DA,hi]
 unfold Lq
 rw[he]
 rcases Sf f k m 0 with ⟨h1,h2⟩|⟨x,j,h1,h2,_⟩
 ·simp[lv,h1,h2,N4]
 ·simp[lv,h1,h2,N4]
theorem YB {κ:Type}[DecidableEq κ]{m:List (κ×α)}{k:κ}(h:C8 m k=none)(x:α):Fa m k x=m++[(k,x)]:=by
 induction m with
 | nil=>rfl
 | cons p m ih =>
  simp only[C8]at h
  split at h
  ·cases h
  ·rename_i e
   simp only[Fa,if_neg e,List.cons_append,ih h]
theorem PQ (f:α->V)(m:List (A9×α))(k:A9)(x:α):WK (.str k) (f x) (Bk f m)=some (Bk f (Fa m k x)):=by
 unfold WK
 rcases Sf f k m 0 with ⟨h1,h2⟩|⟨y,j,h1,h2,h3⟩
 ·rw[h2,YB h1];simp[Bk]
 ·rw[h2]
  simp only[Nat.zero_add]
  rw[h3]
theorem ST {σ:Nat->Option Nat}{f:α->V}(hf:∀ x,ren σ (f x)=f x)(m:List (A9×α)):((Bk f m).map fun p=>(ren σ p.1,ren σ p.2))=Bk f m:=by
 unfold Bk
 rw[List.map_map]
 refine List.map_congr_left fun p _=>?_
 show (ren σ (V.str p.1),ren σ (f p.2))=_
 rw[hf];rfl
abbrev Qf:=A9×A9
def Pd (k:Qf):V:=.agg [.str k.1,.str k.2]
def GC (f:α->V)(m:List (Qf×α)):List (V×V):=m.map fun p=>(Pd p.1,f p.2)
theorem S8 (a b:Qf):OU (Pd a) (Pd b)=some (decide (a=b)):=by
 obtain⟨a1,a2⟩:=a
 obtain⟨b1,b2⟩:=b
 by_cases h1:a1=b1
 ·by_cases h2:a2=b2
  ·subst h1;subst h2
   simp[OU,Pd,Tp,HP]
  ·have:(a2==b2)=false:=by simpa using h2
   subst h1
   simp[OU,Pd,Tp,HP,this,h2]
 ·have:(a1==b1)=false:=by simpa using h1
  simp[OU,Pd,Tp,HP,this,h1]
theorem S7 (f:α->V)(k:Qf):∀ (m:List (Qf×α)) (i:Nat),(C8 m k=none/\Ny (Pd k) (GC f m) i=some none)\/∃ x j,C8 m k=some x/\Ny (Pd k) (GC f m) i=some (some (i+j,f x))/\∀ y,(GC f m).set j (Pd k,f y)=GC f (Fa m k y)
 | [],i=>.inl ⟨rfl,rfl⟩
 | p::m,i=>by
  by_cases h:p.1=k
  ·refine .inr ⟨p.2,0,?_,?_,fun y=>?_⟩
   ·simp[C8,h]
   ·simp only[GC,List.map_cons,Ny,S8,h,decide_true];rfl
   ·simp[GC,Fa,h]
  ·have h':k≠p.1:=fun e=>h e.symm
   have e:∀ (i:Nat) ,Ny (Pd k) (GC f (p::m)) i=Ny (Pd k) (GC f m) (i+1):=fun i=>by simp only[GC,List.map_cons,Ny,S8,h',decide_false]
   have eg:C8 (p::m) k=C8 m k:=by simp only[C8];rw[if_neg h]
   rw[eg,e]
   rcases S7 f k m (i+1)with h1 | ⟨x,j,h1,h2,h3⟩
   ·exact .inl h1
   ·refine .inr ⟨x,j+1,h1,by rw[h2];congr 3;omega,fun y=>?_⟩
    have:=h3 y
    simp only[GC,Fa,if_neg h,List.map_cons,List.set_cons_succ]at this ⊢
    rw[this]
theorem mY (f:α->V)(m:List (Qf×α))(k:Qf)(ok:Bool)(z:V){H:List Ob}{i:Nat}(hi:H[i]?=some (.map (GC f m))):Rp H [true,true] ok z (.map i) (Pd k)=some (if ok then .tup [((C8 m k).map f).getD z,.bool (C8 m k).isSome] else ((C8 m k).map f).getD z):=by
 have he:DA H (.map i)=some (GC f m):=by simp[DA,hi]
 have hs:uy [true,true] (Pd k)=true:=rfl
 unfold Rp
 rw[he,if_pos hs]
 rcases S7 f k m 0 with ⟨h1,h2⟩|⟨x,j,h1,h2,_⟩
 ·simp[h1,h2,N4]
 ·simp[h1,h2,N4]
theorem qh (f:α->V)(m:List (Qf×α))(k:Qf)(x:α):nu (Pd k) (f x) (GC f m)=some (GC f (Fa m k x)):=by
 unfold nu
 rcases S7 f k m 0 with ⟨h1,h2⟩|⟨y,j,h1,h2,h3⟩
 ·rw[h2,YB h1];simp[GC]
 ·rw[h2]
  simp only[Nat.zero_add]
  rw[h3]
theorem qk {σ:Nat->Option Nat}{f:α->V}(hf:∀ x,ren σ (f x)=f x)(m:List (Qf×α)):((GC f m).map fun p=>(ren σ p.1,ren σ p.2))=GC f m:=by
 unfold GC
 rw[List.map_map]
 refine List.map_congr_left fun p _=>?_
 show (ren σ (Pd p.1),ren σ (f p.2))=_
 rw[hf];rfl
end
def FT (s:List A6):Nat->Term->Prop
 | 0,_=>False
 | n+1,t=>if t.var then ∀ x,Ae s t.name=some x->FT s n x else ∀ a∈t.args,FT s n a
theorem FT.mono {s:List A6}:∀ {n m:Nat} {t:Term},FT s n t->n<=m->FT s m t
 | 0,_,_,h,_=>h.elim
 | n+1,0,_,_,h=>by omega
 | n+1,m+1,t,h,hm=>by
  simp only[FT]at h ⊢
  split
  ·rename_i hv
   rw[if_pos hv]at h
   exact fun x hx=>(h x hx).mono (by omega)
  ·rename_i hv
   rw[if_neg hv]at h
   exact fun a ha=>(h a ha).mono (by omega)
theorem aI {s:List A6}:∀ l:List Term,(∀ a∈l,∃ n,FT s n a)->∃ n,∀ a∈l,FT s n a
 | [],_=>⟨0,by simp⟩
 | a::l,h=>by
  obtain⟨n,hn⟩:=h a (by simp)
  obtain⟨m,hm⟩:=aI l fun b hb=>h b (by simp[hb])
  refine⟨n+m,fun b hb=>?_⟩
  rcases List.mem_cons.1 hb with rfl | hb
  ·exact hn.mono (by omega)
  ·exact (hm b hb).mono (by omega)
theorem FU.need {s:List A6}{σ:EE}{rk:A9->Nat}(h:FU s σ rk)(t:Term):∃ n,FT s n t:=by
 have B:∀ t:Term,(∀ u,Cz u t=true->∀ x,Ae s u=some x->∃ n,FT s n x)->∃ n,FT s n t:=by
  intro t
  induction t using Ag with
  | h t ih =>
  intro hu
  cases hv:t.var with
  | true =>
   cases hi:Ae s t.name with
   | none=>exact⟨1,by simp only[FT,hv,if_pos];intro x hx;rw[hi]at hx;cases hx⟩
   | some x =>
    obtain⟨n,hn⟩:=hu t.name (AE.2 (.inl ⟨hv,rfl⟩)) x hi
    exact⟨n+1,by simp only[FT,hv,if_pos];intro y hy;rw[hi]at hy;cases hy;exact hn⟩
  | false =>
   obtain⟨n,hn⟩:=aI (s:=s) t.args fun a ha=>ih a ha fun u hu'=>hu u (AE.2 (.inr ⟨a,ha,hu'⟩))
   exact⟨n+1,by simp only[FT,hv,Bool.false_eq_true,if_false];exact hn⟩
 have A:∀ u,∀ x,Ae s u=some x->∃ n,FT s n x:=h.ind fun u ih x hx=>B x fun w hw y hy=>ih x w hx hw y hy
 exact B t fun u _=>A u
end Go.Dw
end
section
namespace Go.Dw
abbrev NM:=List (A9×A9)
abbrev mL (nm:NM)(J:List Ob):List Ob:=.map (Bk V.str nm)::.cells Bc [.map 0]::J
abbrev nH (nm:NM):List Ob:=mL nm []
theorem nE {σ:Nat->Option Nat}(m:NM):((Bk V.str m).map fun p=>(ren σ p.1,ren σ p.2))=Bk V.str m:=ST (fun x=>rfl) m
attribute [push_cast] nE
theorem iS (nm:NM):IU 2 (nH nm):=⟨rfl,by
 show [A5 (AM 2) (.map (Bk V.str nm)),A5 (AM 2) (.cells Bc [.map 0])]=_
 have h0:AM 2 0=some 0:=rfl
 push_cast[h0]⟩
theorem tJ (nm:NM)(J:List Ob):give [0,1] (mL nm J)=nH nm:=by
 show [A5 (Ay [0,1]) (.map (Bk V.str nm)),A5 (Ay [0,1]) (.cells Bc [.map 0])]=_
 have h0:Ay [0,1] 0=some 0:=rfl
 push_cast[h0]
theorem zR (nm nm':NM)(J:List Ob):takeB [0,1] (mL nm J) (nH nm')=mL nm' J:=by
 apply List.ext_getElem?
 intro i
 rw[DK (by simp)]
 have h0:∀ n,BY [0,1] n 0=some 0:=fun _=>rfl
 match i with
 | 0=>rw[if_pos (by simp)];show some (A5 _ (.map (Bk V.str nm')))=some _;push_cast
 | 1=>rw[if_pos (by simp)];show some (A5 _ (.cells Bc [.map 0]))=some _;push_cast[h0]
 | i+2 =>
  have hp:Ay [0,1] (i+2)=none:=by simp[Ay,List.findIdx?_cons]
  by_cases h:i<J.length
  ·rw[if_pos (by simp;omega),hp]
   simp[List.getD_eq_getElem?_getD,h]
  ·rw[if_neg (by simp;omega)]
   have e1:(mL nm' J)[i+2]?=none:=List.getElem?_eq_none (by simp;omega)
   have e2:(nH nm')[[0,1].length+(i+2-(mL nm J).length)]?=none:=List.getElem?_eq_none (by simp)
   rw[e1,e2];rfl
section
variable {N:Nat->C} {B:Nat} {k:List K} {t:T} {Q:X->T->List Ob->Prop} {dd:Option Nat} {l:List S} {F:Fn} {vs vs':List V} {nm nm':NM} {J:List Ob} {x:V}
theorem bG (hv:AR (Ay [0,1]) vs=vs')(h:GP prog F vs' (nH nm) fun x' H'=>x'=x/\H'=nH nm')(k':AB prog N B (.r l::k) (FK dd (ren (BY [0,1] (J.length+2)) x) t) (mL nm' J) Q):By prog N B dd l k t Q F vs (mL nm J):=by
 refine By.some [0,1] (by simp) (by simp) (R:=fun x' H'=>x'=x/\H'=nH nm') (by rw[tJ,hv];exact h) ?_
 rintro x' H' ⟨rfl,rfl⟩ _
 rw[zR];exact k'
end
abbrev oM (P:List Ob)(nm:NM)(J:List Ob):List Ob:=P++(.map (Bk V.str nm)::.cells Bc [.map P.length]::J)
theorem yI (p:Nat):Ay [p,p+1] p=some 0:=by simp[Ay,List.findIdx?_cons]
theorem Abd (p:Nat):Ay [p,p+1] (p+1)=some 1:=by simp[Ay,List.findIdx?_cons]
theorem wX (P:List Ob)(nm:NM)(J:List Ob):give [P.length,P.length+1] (oM P nm J)=nH nm:=by
 unfold give
 have e1:(oM P nm J).getD P.length .dead=.map (Bk V.str nm):=by simp[List.getD_eq_getElem?_getD]
 have e2:(oM P nm J).getD (P.length+1) .dead=.cells Bc [.map P.length]:=by
  rw[List.getD_eq_getElem?_getD,List.getElem?_append_right (by omega)]
  simp
 simp only[List.map_cons,List.map_nil,e1,e2]
 push_cast[yI]
theorem vY (P:List Ob)(nm nm':NM)(J:List Ob):takeB [P.length,P.length+1] (oM P nm J) (nH nm')=oM P nm' J:=by
 apply List.ext_getElem?
 intro i
 rw[DK (by simp)]
 have hb0:∀ n,BY [P.length,P.length+1] n 0=some P.length:=fun _=>rfl
 have hlen:(oM P nm J).length=P.length+(J.length+2):=by simp
 by_cases h1:i<P.length
 ·have hp:Ay [P.length,P.length+1] i=none:=by
   have a1:¬ P.length=i:=by omega
   have a2:¬ P.length+1=i:=by omega
   simp[Ay,List.findIdx?_cons,a1,a2]
  rw[if_pos (by omega),hp,List.getElem?_append_left h1,List.getD_eq_getElem?_getD,List.getElem?_append_left h1]
  simp[h1]
 ·rw[List.getElem?_append_right (by omega)]
  by_cases h2:i=P.length
  ·subst h2
   rw[if_pos (by omega),yI]
   simp only[Nat.sub_self,List.getElem?_cons_zero]
   show some (A5 _ (.map (Bk V.str nm')))=_
   push_cast
  ·by_cases h3:i=P.length+1
   ·subst h3
    rw[if_pos (by omega),Abd]
    have e:P.length+1-P.length=1:=by omega
    rw[e]
    simp only[List.getElem?_cons_succ,List.getElem?_cons_zero]
    show some (A5 _ (.cells Bc [.map 0]))=_
    push_cast[hb0]
   ·have hp:Ay [P.length,P.length+1] i=none:=by
     have a1:¬ P.length=i:=by omega
     have a2:¬ P.length+1=i:=by omega
     simp[Ay,List.findIdx?_cons,a1,a2]
    obtain⟨j,rfl⟩:∃ j,i=P.length+2+j:=⟨i-P.length-2,by omega⟩
    have e:P.length+2+j-P.length=j+2:=by omega
    rw[e]
    simp only[List.getElem?_cons_succ]
    by_cases h4:j<J.length
    ·rw[if_pos (by omega),hp]
     simp only[List.getD_eq_getElem?_getD]
     rw[List.getElem?_append_right (by omega),e]
     simp[h4]
    ·rw[if_neg (by omega)]
     have e1:J[j]?=none:=List.getElem?_eq_none (by omega)
     have e2:(nH nm')[[P.length,P.length+1].length+(P.length+2+j-(oM P nm J).length)]?=none:=List.getElem?_eq_none (by simp)
     rw[e1,e2];rfl
theorem Fz {N:Nat->C}{B:Nat}{k:List K}{t:T}{Q:X->T->List Ob->Prop}{dd:Option Nat}{l:List S}{F:Fn}{vs vs':List V}{nm nm':NM}{x:V}(P J:List Ob)(hv:AR (Ay [P.length,P.length+1]) vs=vs')(h:GP prog F vs' (nH nm) fun x' H'=>x'=x/\H'=nH nm')
  (k':AB prog N B (.r l::k) (FK dd (ren (BY [P.length,P.length+1] (oM P nm J).length) x) t) (oM P nm' J) Q):By prog N B dd l k t Q F vs (oM P nm J):=by
 refine By.some [P.length,P.length+1] (by simp) (by simp) (R:=fun x' H'=>x'=x/\H'=nH nm') (by rw[wX,hv];exact h) ?_
 rintro x' H' ⟨rfl,rfl⟩ _
 rw[vY];exact k'
def K2 (pre:A9)(nm:NM)(v:A9):NM×A9:=if (C8 nm v).getD []=[] then (Fa nm v (pre++IS nm.length),pre++IS nm.length) else (nm,(C8 nm v).getD [])
theorem sI {κ α:Type}[DecidableEq κ](m:List (κ×α))(k:κ)(x:α):(Fa m k x).length<=m.length+1:=by
 induction m with
 | nil=>simp[Fa]
 | cons p m ih=>simp only[Fa];split<;>simp;exact ih
theorem ou (pre:A9)(nm:NM)(v:A9):(K2 pre nm v).1.length<=nm.length+1:=by
 unfold K2
 split
 ·exact sI _ _ _
 ·exact Nat.le_succ _
theorem Wf (n:Nat):(IS n).length<=n+1:=by
 induction n using Nat.strongRecOn with
 | ind n ih =>
  unfold IS Lib.decDigits
  split
  ·simp
  ·have:=ih (n / 10) (by omega)
   unfold IS at this
   simp only[List.length_append,List.length_singleton]
   omega
theorem Sb (nm:NM)(v:A9)(hl:nm.length<2^62):Spec prog EH [.str v,.ptr 1 0] (nH nm) fun x H'=>x=.str (K2 [120] nm v).2/\H'=nH (K2 [120] nm v).1:=by
 have hlk:∀ nm l,_:=fun (nm:NM) (l:List Ob)=>KV V.str nm v false (.str []) (H:=mL nm l) (i:=0) rfl
 have hup:=PQ V.str nm v (120::IS nm.length)
 have hcap:1+(IS nm.length).length<=C0:=by have:=Wf nm.length;unfold C0;omega
 have hlm:∀ l,VF (mL nm l) (.map 0)=some (.int .i64 nm.length):=fun l=>by unfold VF;simp[DA,Tx]
 have hI:=Qp nm.length hl
 refine AK mixed Mq.ok rfl ?_
 unfold K2
 have e2:∀ nm:NM,((C8 nm v).map V.str).getD (.str [])=.str ((C8 nm v).getD []):=fun nm=>by cases C8 nm v<;>rfl
 simp only[e2,Bool.false_eq_true,if_false]at hlk
 by_cases h:(C8 nm v).getD []=[]
 ·rw[if_pos h]
  have h3:(C8 (Fa nm v (120::IS nm.length)) v).getD []=120::IS nm.length:=by rw[HK,if_pos rfl];rfl
  push_cast[hlk,h,hlm]
  refine .of hI ?_
  push_cast[hup,hlk,h3,hcap]
  exact⟨rfl,Dy (.inl rfl) rfl ⟨rfl,rfl⟩⟩
 ·rw[if_neg h]
  push_cast[hlk,h]
  exact Dy (.inl rfl) rfl ⟨rfl,rfl⟩
theorem Mx (nm:NM)(v:A9)(hl:nm.length<2^40):Spec prog CH [.str v,.ptr 1 0] (nH nm) fun x H'=>x=.str (K2 [121] nm v).2/\H'=nH (K2 [121] nm v).1:=by
 have hlk:∀ nm l,_:=fun (nm:NM) (l:List Ob)=>KV V.str nm v false (.str []) (H:=mL nm l) (i:=0) rfl
 have hup:=PQ V.str nm v (121::IS nm.length)
 have hcap:1+(IS nm.length).length<=C0:=by have:=Wf nm.length;unfold C0;omega
 have hlm:∀ l,VF (mL nm l) (.map 0)=some (.int .i64 nm.length):=fun l=>by unfold VF;simp[DA,Tx]
 have hI:=Qp nm.length (by omega)
 refine AK mixed OQ.ok rfl ?_
 unfold K2
 have e2:∀ nm:NM,((C8 nm v).map V.str).getD (.str [])=.str ((C8 nm v).getD []):=fun nm=>by cases C8 nm v<;>rfl
 simp only[e2,Bool.false_eq_true,if_false]at hlk
 by_cases h:(C8 nm v).getD []=[]
 ·rw[if_pos h]
  have h3:(C8 (Fa nm v (121::IS nm.length)) v).getD []=121::IS nm.length:=by rw[HK,if_pos rfl];rfl
  push_cast[hlk,h,hlm]
  refine .of hI ?_
  push_cast[hup,hlk,h3,hcap]
  exact⟨rfl,Dy (.inl rfl) rfl ⟨rfl,rfl⟩⟩
 ·rw[if_neg h]
  push_cast[hlk,h]
  exact Dy (.inl rfl) rfl ⟨rfl,rfl⟩
mutual
def Hd (pre:A9)(nm:NM):Term->NM×Term
 | .mk n v l=>if v then ((K2 pre nm n).1,.mk (K2 pre nm n).2 true []) else ((E2 pre nm l).1,.mk n false (E2 pre nm l).2)
def E2 (pre:A9)(nm:NM):List Term->NM×List Term
 | []=>(nm,[])
 | a::l=>((E2 pre (Hd pre nm a).1 l).1,(Hd pre nm a).2::(E2 pre (Hd pre nm a).1 l).2)
end
theorem ci (pre:A9)(nm:NM)(t:Term):Hd pre nm t=if t.var then ((K2 pre nm t.name).1,.mk (K2 pre nm t.name).2 true []) else ((E2 pre nm t.args).1,.mk t.name false (E2 pre nm t.args).2):=by cases t;simp only[Hd];rfl
theorem Sr (pre:A9):∀ (a b:List Term)(nm:NM),E2 pre nm (a++b)=((E2 pre (E2 pre nm a).1 b).1,(E2 pre nm a).2++(E2 pre (E2 pre nm a).1 b).2)
 | [],b,nm=>rfl
 | x::a,b,nm=>by simp only[List.cons_append,E2,Sr pre a b]
theorem aF (pre:A9):∀ (a:List Term)(nm:NM),(E2 pre nm a).2.length=a.length
 | [],nm=>rfl
 | x::a,nm=>by simp only[E2,List.length_cons,aF pre a]
theorem Nj (pre:A9)(t:Term):∀ nm:NM,(Hd pre nm t).1.length<=nm.length+size t:=by
 induction t using Ag with
 | h t ih =>
 intro nm
 have hst:=AJ t
 rw[ci]
 split
 ·have:=ou pre nm t.name;simp only;omega
 ·have key:∀ (l:List Term)(nm:NM),(∀ a∈l,a∈t.args)->(E2 pre nm l).1.length<=nm.length+Ac l:=by
   intro l
   induction l with
   | nil=>intro nm _;simp[E2,Ac]
   | cons a l ihl =>
    intro nm hl
    have h1:=ih a (hl a (by simp)) nm
    have h2:=ihl (Hd pre nm a).1 fun b hb=>hl b (by simp[hb])
    simp only[E2,Ac]
    omega
  have:=key t.args nm fun _ h=>h
  simp only;omega
theorem LM {g:Nat}{pre:A9}(hg:∀ (nm:NM)(v:A9),nm.length<2^40->Spec prog g [.str v,.ptr 1 0] (nH nm) fun x H'=>x=.str (K2 pre nm v).2/\H'=nH (K2 pre nm v).1)(t:Term) :
  ∀ nm:NM,nm.length+size t<2^40->Spec prog Df [Ap t,.fn (.func g) [] [.ptr 1 0]] (nH nm) fun x H'=>x=Ap (Hd pre nm t).2/\H'=nH (Hd pre nm t).1:=by
 induction t using Ag with
 | h t ih =>
 intro nm hl
 have hst:=AJ t
 have hla:=Aj t.args
 have p1:Ay [0,1] 1=some 1:=rfl
 have c1:AM 2 1=some 1:=rfl
 refine AK mixed KS.ok rfl ?_
 rw[ci]
 cases hv:t.var with
 | true =>
  rw[if_pos rfl]
  push_cast[hv]
  refine bG (by push_cast[p1]) (Be▸hg nm t.name (by omega)) ?_
  push_cast
  exact An (H:=nH (K2 pre nm t.name).1) (J:=[_]) (iS _) rfl ⟨by push_cast;rfl,rfl⟩
 | false =>
  rw[if_neg (by simp)]
  push_cast[hv]
  refine Ad (n:=t.args.length) (R:=fun k=>KS.L3 (.fn (.func g) [] [.ptr 1 0]) (.ptr 2 0) (.ptr 3 0) (Bg t.args) (.int .i64 t.args.length) (.int .i64 k) 2
   (mL (E2 pre nm (t.args.take k)).1 [.cells A3 [.str [],.bool false,.sl 3 []],.cells A3 [.str t.name,.bool false,Bf cT 4 3 (E2 pre nm (t.args.take k)).2],.arr A3 3 k]) _) ?_ ?_ 0 (by omega)
  ·intro k hk ih2
   have hme:=A4 hk
   have hlt:(E2 pre nm (t.args.take k)).2.length=k:=by rw[aF];simp;omega
   have hsz:=Bt hme
   have hpre:(E2 pre nm (t.args.take k)).1.length+size (t.args.getD k default)<2^40:=by
    have key:∀ (l:List Term)(nm:NM),(E2 pre nm l).1.length<=nm.length+Ac l:=by
     intro l
     induction l with
     | nil=>intro nm;simp[E2,Ac]
     | cons a l ihl =>
      intro nm
      have h1:=Nj pre a nm
      have h2:=ihl (Hd pre nm a).1
      simp only[E2,Ac];omega
    have h1:=key (t.args.take k) nm
    have h2:Ac (t.args.take k)+size (t.args.getD k default)<=Ac t.args:=by
     have h3:Ac (t.args.take (k+1))=Ac (t.args.take k)+size (t.args.getD k default):=by rw[Aa hk,Ci];simp[Ac]
     have h4:Ac t.args=Ac (t.args.take (k+1))+Ac (t.args.drop (k+1)):=by rw[<-Ci,List.take_append_drop]
     omega
    omega
   have hc:=ih _ hme (E2 pre nm (t.args.take k)).1 hpre
   rw[Aa hk,Sr]at ih2
   simp only[E2]at ih2
   generalize E2 pre nm (t.args.take k)=q at hlt hc ih2
   generalize Hd pre q.1 (t.args.getD k default)=u at hc ih2
   refine A8.2 ?_
   push_cast[BT hk]
   refine⟨⟨?_,?_⟩,?_⟩
   all_goals
    refine bG (J:=[_,_,_,_]) (by push_cast[p1]) hc ?_
    push_cast[hlt,U9 (show k<2^40 by omega) (show 48<=64 by omega),CV (show k<2^62 by omega),c1]
    push_cast at ih2
    exact ih2
  ·refine A8.2 ?_
   push_cast[B8 (Nat.le_refl _)]
   rw[List.take_length]
   refine An (H:=nH _) (J:=[_,_,_]) (iS _) rfl ⟨?_,rfl⟩
   push_cast[KS.rs]
   rw[Ap,OV];rfl
theorem VL:Spec prog Fv [] [] fun x H'=>x=.fn (.func Dn) [] [.ptr 1 0]/\H'=nH []:=by
 refine AK mixed Rj.ok rfl ?_
 push_cast
 refine bH (.inl rfl) [0,1] (by simp) (by simp) rfl ⟨?_,?_⟩
 ·have p1:Ay (List.range 0++[0,1]) 1=some 1:=rfl
  push_cast[p1]
 ·exact tJ [] []
theorem Eh (nm:NM)(t:Term)(hl:nm.length+size t<2^40):Spec prog Dn [Ap t,.ptr 1 0] (nH nm) fun x H'=>x=Ap (Hd [120] nm t).2/\H'=nH (Hd [120] nm t).1:=by
 have hR:=LM (g:=EH) (pre:=[120]) (fun nm v h=>Sb nm v (by omega)) t nm hl
 have p1:Ay [0,1] 1=some 1:=rfl
 refine AK mixed P8.ok rfl ?_
 push_cast
 refine bG (J:=[_]) (by push_cast[p1]) hR ?_
 push_cast
 exact An (H:=nH (Hd [120] nm t).1) (J:=[_]) (iS _) rfl ⟨by push_cast,rfl⟩
def pZ (pre:A9)(x:A2):A2:=⟨(Hd pre [] x.left).2,(Hd pre (Hd pre [] x.left).1 x.right).2⟩
theorem VP (x:A2)(hl:size x.left+size x.right<2^39):PF Kl [JW x] (JW (pZ [121] x)):=by
 have hL:=LM (g:=CH) (pre:=[121]) Mx x.left [] (by simp;omega)
 have hR:=LM (g:=CH) (pre:=[121]) Mx x.right (Hd [121] [] x.left).1 (by have:=Nj [121] x.left [];simp only[List.length_nil]at this;omega)
 have p1:Ay [0,1] 1=some 1:=rfl
 refine Ab MY.ok rfl ?_
 push_cast
 have q1:Ay [1,2] 2=some 1:=rfl
 refine Fz (vs:=[Ap x.left,V.fn (Fn.func CH) [] [V.ptr 2 0]]) (nm:=[]) [.cells BS [V.str [],V.bool false,V.sl 3 [],V.str [],V.bool false,V.sl 3 []]] [] (by push_cast[q1]) (Be▸hL) ?_
 push_cast
 refine Fz (vs:=[Ap x.right,V.fn (Fn.func CH) [] [V.ptr 2 0]]) [.cells BS [V.str [],V.bool false,V.sl 3 [],V.str [],V.bool false,V.sl 3 []]] [_] (by push_cast[q1]) (Be▸hR) ?_
 push_cast
 refine A1 ?_
 push_cast[MY.rs,pZ]
 rfl
end Go.Dw
end
namespace Go.Dw
def VM (l:List A9)(x:A9):Bool:=l.any fun y=>decide (y=x)
theorem dH {l:List A9}{x:A9}:VM l x=true↔x∈l:=by
 unfold VM;simp[List.any_eq_true]
theorem Ur (l:List A9)(x:A9)(hl:l.length<2^62):PF NA [Bo l,.str x] (.bool (VM l x)):=by
 refine Ab Qw.ok rfl ?_
 push_cast
 refine Ad (n:=l.length) (R:=fun k=>VM (l.drop k) x=VM l x->Qw.L3 (.str x) (Bo l) (.int .i64 l.length) (.int .i64 k) 0 [] (Bx 0 Qw.rs fun y H=>y=.bool (VM l x)/\H=[])) ?_ ?_ 0 (Nat.zero_le _) rfl
 ·intro k hk ih hq
  rw[Al hk]at hq
  refine A8.2 ?_
  generalize hy:l.getD k default=y at hq
  simp only[VM,List.any_cons]at hq
  by_cases h:y=x
  ·push_cast[BT hk,hy,eq_true h]
   simp only[h,decide_true,Bool.true_or]at hq
   exact A1 (by push_cast[Qw.rs,VM,h,<-hq])
  ·push_cast[BT hk,hy,eq_false h,CV (show k<2^62 by omega)]
   simp only[h,decide_false,Bool.false_or]at hq
   push_cast at ih
   exact ih hq
 ·intro hq
  refine A8.2 ?_
  rw[List.drop_length]at hq
  push_cast[B8 (Nat.le_refl _)]
  exact A1 (by push_cast[Qw.rs,<-hq];simp[VM])
theorem UP {l:List A9}{x:A9}(h:x∈l):VM l x=true:=dH.2 h
theorem RZ {l:List A9}{x:A9}(h:x∉l):VM l x=false:=by
 cases e:VM l x with
 | false=>rfl
 | true=>exact absurd (dH.1 e) h
theorem bf (n:Nat):n<2^62->PF I8 [.int .i64 n] (.str (IS n)):=by
 induction n using Nat.strongRecOn with
 | ind n ih =>
 intro hn
 refine Ab OE.ok rfl ?_
 unfold IS Lib.decDigits
 by_cases h:n<10
 ·have hi:((n:Int)<10)=True:=eq_true (by omega)
  rw[dif_pos h]
  have hb:gY [[V.int .u8 (IntKind.u8.wrap (IntKind.i64.wrap (48+(n:Int))))]]=some [UInt8.ofNat (48+n)]:=by
   have:n=0\/n=1\/n=2\/n=3\/n=4\/n=5\/n=6\/n=7\/n=8\/n=9:=by omega
   rcases this with rfl | rfl | rfl | rfl | rfl | rfl | rfl | rfl | rfl | rfl<;>rfl
  push_cast[hi,hb]
  exact A1 (by push_cast[OE.rs])
 ·have hi:((n:Int)<10)=False:=eq_false (by omega)
  rw[dif_neg h]
  have h1:=ih (n / 10) (by omega) (by omega)
  have h2:=ih (n % 10) (by omega) (by omega)
  have e1:IntKind.i64.wrap ((n:Int).tdiv 10)=((n / 10:Nat):Int):=by
   rw[Int.tdiv_eq_ediv_of_nonneg (by omega),Bs (by omega) (by omega)];omega
  have e2:(n:Int).tmod 10=((n % 10:Nat):Int):=by
   rw[Int.tmod_eq_emod_of_nonneg (by omega)];omega
  have h3:IS (n % 10)=[UInt8.ofNat (48+n % 10)]:=by
   unfold IS Lib.decDigits;rw[dif_pos (by omega)]
  have hcap:(IS (n / 10)).length+1<=C0:=by have:=Wf (n / 10);unfold C0;omega
  rw[h3]at h2
  push_cast[hi]
  rw[e1]
  refine .of h1 ?_
  push_cast
  rw[e2]
  refine .of h2 ?_
  push_cast[hcap]
  exact A1 (by push_cast[OE.rs])
mutual
def AH (l:List A9):Term->List A9
 | .mk n v ar=>if v then (if n∈l then l else l++[n]) else BM l ar
def BM (l:List A9):List Term->List A9
 | []=>l
 | a::ar=>BM (AH l a) ar
end
theorem Lg (l:List A9)(t:Term):AH l t=if t.var then (if t.name∈l then l else l++[t.name]) else BM l t.args:=by cases t;simp only[AH];rfl
theorem Pu:∀ (a b:List Term)(l:List A9),BM l (a++b)=BM (BM l a) b
 | [],b,l=>rfl
 | x::a,b,l=>by simp only[List.cons_append,BM,Pu a b]
theorem Ph (t:Term):∀ l:List A9,(AH l t).length<=l.length+size t:=by
 induction t using Ag with
 | h t ih =>
 intro l
 have hst:=AJ t
 rw[Lg]
 split
 ·split
  ·omega
  ·simp;omega
 ·have key:∀ (ar:List Term)(l:List A9),(∀ a∈ar,a∈t.args)->(BM l ar).length<=l.length+Ac ar:=by
   intro ar
   induction ar with
   | nil=>intro l _;simp[BM,Ac]
   | cons a ar ihl =>
    intro l hl
    have h1:=ih a (hl a (by simp)) l
    have h2:=ihl (AH l a) fun b hb=>hl b (by simp[hb])
    simp only[BM,Ac]
    omega
  have:=key t.args l fun _ h=>h
  omega
theorem ch (ar:List Term)(l:List A9):(BM l ar).length<=l.length+Ac ar:=by
 induction ar generalizing l with
 | nil=>simp[BM,Ac]
 | cons a ar ih =>
  have h1:=Ph a l
  have h2:=ih (AH l a)
  simp only[BM,Ac];omega
theorem Vc (t:Term):∀ l:List A9,l.length+size t<2^40->PF JX [Ap t,Bo l] (Bo (AH l t)):=by
 induction t using Ag with
 | h t ih =>
 intro l hl
 have hst:=AJ t
 have hla:=Aj t.args
 refine Ab KY.ok rfl ?_
 rw[Lg]
 cases hv:t.var with
 | true =>
  rw[if_pos rfl]
  have hH:=Ur l t.name (by omega)
  push_cast[hv]
  refine .of hH ?_
  by_cases hm:t.name∈l
  ·rw[UP hm,if_pos hm]
   push_cast
   exact A1 (by push_cast[KY.rs])
  ·rw[RZ hm,if_neg hm]
   have hr1:l.length*16<=Ah:=by unfold Ah;omega
   have hr2:(l.length+1)*16<=Ah:=by unfold Ah;omega
   have ho:∀ i,(.own i 1 (l.map cS):V)=Bf cS i 1 l:=fun i=>rfl
   push_cast[hr1,hr2,ho,bz,List.length_map]
   exact A1 (by push_cast[KY.rs])
 | false =>
  rw[if_neg (by simp)]
  push_cast[hv]
  refine Ad (n:=t.args.length) (R:=fun k=>KY.L3 (Bo (BM l (t.args.take k))) (Bg t.args) (.int .i64 t.args.length) (.int .i64 k) 0 [] _) ?_ ?_ 0 (by omega)
  ·intro k hk ih2
   have hme:=A4 hk
   have h1:=ch (t.args.take k) l
   have h3:Ac (t.args.take (k+1))=Ac (t.args.take k)+size (t.args.getD k default):=by rw[Aa hk,Ci];simp[Ac]
   have h4:Ac t.args=Ac (t.args.take (k+1))+Ac (t.args.drop (k+1)):=by rw[<-Ci,List.take_append_drop]
   have hc:=ih _ hme (BM l (t.args.take k)) (by omega)
   rw[Aa hk,Pu]at ih2
   simp only[BM]at ih2
   refine A8.2 ?_
   push_cast[BT hk]
   refine .of hc ?_
   push_cast[CV (show k<2^62 by omega)]
   push_cast at ih2
   exact ih2
  ·refine A8.2 ?_
   push_cast[B8 (Nat.le_refl _)]
   exact A1 (by push_cast[KY.rs];rw[List.take_length])
def Cw (l:List A9):List A9:=l.foldl Pe []
theorem Ls {v:A9}:∀ (l m:List A9),v∈l.foldl Pe m↔v∈m\/v∈l
 | [],m=>by simp
 | x::l,m=>by
  simp only[List.foldl_cons,Ls l,Xo,List.mem_cons]
  constructor
  ·rintro ((h | h) | h)
   ·exact .inl h
   ·exact .inr (.inl h)
   ·exact .inr (.inr h)
  ·rintro (h | h | h)
   ·exact .inl (.inl h)
   ·exact .inl (.inr h)
   ·exact .inr h
theorem IN:∀ (l m:List A9),(l.foldl Pe m).length<=m.length+l.length
 | [],m=>by simp
 | x::l,m=>by
  have:=IN l (Pe m x)
  have:=WN m x
  simp only[List.foldl_cons,List.length_cons];omega
theorem ct (l:List A9)(hl:l.length<2^38)(hn:∀ x∈l,x.length<2^62):PF O8 [Bo l] (Bo (Cw l)):=by
 refine Ab O9.ok rfl ?_
 push_cast
 refine Ad (n:=l.length) (R:=fun k=>O9.L3 (Bo ((l.take k).foldl Pe [])) (Bo l) (.int .i64 l.length) (.int .i64 k) 0 [] _) ?_ ?_ 0 (by omega)
 ·intro k hk ih
  have hm:=A4 hk
  have h1:=IN (l.take k) []
  have h2:(l.take k).length<=k:=by simp;omega
  have hI:=Tu ((l.take k).foldl Pe []) (l.getD k default) (by simp only[List.length_nil]at h1;omega) (fun x hx=>by
   rcases (Ls _ _).1 hx with h | h
   ·cases h
   ·exact hn x (List.mem_of_mem_take h)) (hn _ hm)
  rw[Aa hk,List.foldl_append]at ih
  simp only[List.foldl_cons,List.foldl_nil]at ih
  refine A8.2 ?_
  push_cast[BT hk]
  refine .of hI ?_
  push_cast[CV (show k<2^62 by omega)]
  push_cast at ih
  exact ih
 ·refine A8.2 ?_
  push_cast[B8 (Nat.le_refl _)]
  exact A1 (by push_cast[O9.rs];rw[List.take_length];rfl)
def IW (pre v:A9):Nat->List A9->List A6
 | _,[]=>[]
 | i,x::l=>(if x=v then [⟨v,BZ (pre++IS i)⟩] else [])++IW pre v (i+1) l
def RS (l:List A9)(pre:A9):List A6:=(Cw l).flatMap fun v=>IW pre v 0 l
theorem To (pre v:A9):∀ (l:List A9)(i:Nat),(IW pre v i l).length<=l.length
 | [],i=>by simp[IW]
 | x::l,i=>by
  have:=To pre v l (i+1)
  simp only[IW,List.length_append,List.length_cons]
  split<;>simp<;>omega
theorem ft {l:List A9}{F:A9->List A6}{m:Nat}(h:∀ v,(F v).length<=m):(l.flatMap F).length<=l.length*m:=by
 induction l with
 | nil=>simp
 | cons x l ih =>
  have:=h x
  simp only[List.flatMap_cons,List.length_append,List.length_cons,Nat.succ_mul];omega
theorem aC (pre v:A9):∀ (l:List A9)(i k:Nat),k<l.length->IW pre v i (l.take (k+1))=IW pre v i (l.take k)++(if l.getD k default=v then [⟨v,BZ (pre++IS (i+k))⟩] else [])
 | [],i,k,h=>by simp at h
 | x::l,i,0,h=>by simp[IW]
 | x::l,i,k+1,h=>by
  have:=aC pre v l (i+1) k (by simpa using h)
  simp only[List.take_succ_cons,IW,this,List.getD_cons_succ]
  rw[show i+1+k=i+(k+1) by omega,List.append_assoc]
theorem PD (l:List A9)(pre:A9)(hl:l.length<2^19)(hn:∀ x∈l,x.length<2^62)(hp:pre.length<2^20):PF IK [Bo l,.str pre] (Bi (RS l pre)):=by
 have hS:=ct l (by omega) hn
 have hsl:(Cw l).length<=l.length:=by have:=IN l [];simpa[Cw]using this
 refine Ab DD.ok rfl ?_
 push_cast
 refine .of hS ?_
 push_cast
 have hsq:l.length*l.length<=2^19*2^19:=Nat.mul_le_mul (by omega) (by omega)
 refine Ad (n:=(Cw l).length) (R:=fun k=>DD.L6 (Bo l) (.str pre) (Bf cB 0 4 (((Cw l).take k).flatMap fun v=>IW pre v 0 l)) (Bo (Cw l)) (.int .i64 (Cw l).length) (.int .i64 k) 0 [.arr C4 4 (((Cw l).take k).flatMap fun v=>IW pre v 0 l).length] (Bx 0 DD.rs fun x H=>x=Bi (RS l pre)/\H=[])) ?_ ?_ 0 (by omega)
 ·intro k hk ih
  have hm:=A4 hk
  rw[Aa hk,List.flatMap_append]at ih
  simp only[List.flatMap_cons,List.flatMap_nil,List.append_nil]at ih
  have hbl:(((Cw l).take k).flatMap fun v=>IW pre v 0 l).length<=k*l.length:=by
   have h1:=ft (l:=(Cw l).take k) (F:=fun v=>IW pre v 0 l) (m:=l.length) fun v=>To pre v l 0
   have h2:((Cw l).take k).length=k:=by simp;omega
   rw[h2]at h1;exact h1
  have hkl:k*l.length<=l.length*l.length:=Nat.mul_le_mul_right _ (by omega)
  generalize ((Cw l).take k).flatMap (fun v=>IW pre v 0 l)=B0 at ih hbl
  refine A8.2 ?_
  push_cast[BT hk]
  generalize hv:(Cw l).getD k default=v at hm ih
  have inner:DD.L4 (Bo l) (.str pre) (Bf cB 0 4 (B0++IW pre v 0 (l.take 0))) (.str v) (Bo (Cw l)) (.int .i64 (Cw l).length) (.int .i64 k) (Bo l) (.int .i64 l.length) (.int .i64 (0:Nat)) 0 [.arr C4 4 (B0++IW pre v 0 (l.take 0)).length] (Bx 0 DD.rs fun x H=>x=Bi (RS l pre)/\H=[]):=by
   refine Ad (n:=l.length) (R:=fun j=>DD.L4 (Bo l) (.str pre) (Bf cB 0 4 (B0++IW pre v 0 (l.take j))) (.str v) (Bo (Cw l)) (.int .i64 (Cw l).length) (.int .i64 k) (Bo l) (.int .i64 l.length) (.int .i64 j) 0 [.arr C4 4 (B0++IW pre v 0 (l.take j)).length] (Bx 0 DD.rs fun x H=>x=Bi (RS l pre)/\H=[])) ?_ ?_ 0 (by omega)
   ·intro j hj ih2
    have hjl:=To pre v (l.take j) 0
    have hjt:(l.take j).length<=l.length:=by simp;omega
    have htot:(B0++IW pre v 0 (l.take j)).length<2^40:=by simp only[List.length_append];omega
    rw[aC pre v l 0 j hj]at ih2
    have hD:=bf j (by omega)
    refine A8.2 ?_
    generalize hx:l.getD j default=x at ih2
    by_cases e:x=v
    ·rw[if_pos e,<-List.append_assoc]at ih2
     generalize B0++IW pre v 0 (l.take j)=B1 at ih2 htot
     push_cast[BT hj,hx,e]
     refine .of hD ?_
     have hcap:pre.length+(IS j).length<=C0:=by have:=Wf j;unfold C0;omega
     have hob:∀ i,(.own i 4 (B1.map cB++[[V.str v,V.str (pre++IS j),V.bool true,V.sl 3 []]]):V)=Bf cB i 4 (B1++[⟨v,BZ (pre++IS (0+j))⟩]):=fun i=>by simp[Bf,cB,BZ,cT,jc,Zn,Term.name,Term.var]
     push_cast[hcap,hob,U9 htot (show 64<=64 by omega),CV (show j<2^62 by omega)]
     push_cast at ih2
     exact ih2
    ·rw[if_neg e,List.append_nil]at ih2
     push_cast[BT hj,hx,e,CV (show j<2^62 by omega)]
     push_cast at ih2
     exact ih2
   ·refine A8.2 ?_
    push_cast[B8 (Nat.le_refl _),CV (show k<2^62 by omega)]
    rw[List.take_length]
    push_cast at ih
    exact ih
  simp only[List.take_zero,IW,List.append_nil]at inner
  exact inner
 ·refine A8.2 ?_
  push_cast[B8 (Nat.le_refl _)]
  exact A1 (by push_cast[DD.rs];rw[List.take_length];rfl)
def ER:List A9->A9->Option Nat
 | [],_=>none
 | x::l,v=>if x=v then some 0 else (ER l v).map (·+1)
theorem Lh {l:List A9}{v:A9}:ER l v=none↔v∉l:=by
 induction l with
 | nil=>simp[ER]
 | cons x l ih =>
  simp only[ER]
  by_cases h:x=v
  ·simp[h]
  ·have h':v≠x:=fun e=>h e.symm
   rw[if_neg h];simp[ih,h']
theorem rF {l m:List A9}{v:A9}(h:v∈l):ER (l++m) v=ER l v:=by
 induction l with
 | nil=>cases h
 | cons x l ih =>
  simp only[List.cons_append,ER]
  by_cases e:x=v
  ·rw[if_pos e,if_pos e]
  ·rw[if_neg e,if_neg e]
   rcases List.mem_cons.1 h with h | h
   ·exact absurd h.symm e
   ·rw[ih h]
theorem ow {l:List A9}{v:A9}(h:v∉l):ER (l++[v]) v=some l.length:=by
 induction l with
 | nil=>simp[ER]
 | cons x l ih =>
  simp only[List.mem_cons,not_or]at h
  simp only[List.cons_append,ER]
  rw[if_neg (fun e=>h.1 e.symm),ih h.2];rfl
def bT (pre:A9):Nat->List A9->NM
 | _,[]=>[]
 | i,v::l=>(v,pre++IS i)::bT pre (i+1) l
abbrev YK (pre:A9)(l:List A9):NM:=bT pre 0 l
theorem fO (pre:A9):∀ (l:List A9)(i:Nat),(bT pre i l).length=l.length
 | [],_=>rfl
 | v::l,i=>by simp[bT,fO pre l]
theorem Uc (pre:A9)(v:A9):∀ (l:List A9)(i:Nat),C8 (bT pre i l) v=(ER l v).map fun j=>pre++IS (i+j)
 | [],i=>rfl
 | x::l,i=>by
  simp only[bT,C8,ER]
  by_cases h:x=v
  ·rw[if_pos h,if_pos h];rfl
  ·rw[if_neg h,if_neg h,Uc pre v l (i+1)]
   cases ER l v with
   | none=>rfl
   | some j=>simp only[Option.map_some];rw[show i+1+j=i+(j+1) by omega]
theorem aK (pre:A9)(v:A9):∀ (l:List A9)(i:Nat),bT pre i (l++[v])=bT pre i l++[(v,pre++IS (i+l.length))]
 | [],i=>rfl
 | x::l,i=>by
  simp only[List.cons_append,bT,aK pre v l (i+1),List.length_cons]
  rw[show i+1+l.length=i+(l.length+1) by omega]
def Nm (pre:A9)(l:List A9):EE:=fun v=>BZ (match ER l v with | some j=>pre++IS j | none=>v)
theorem sQ {pre:A9}(hp:pre≠[])(l:List A9)(v:A9):K2 pre (YK pre l) v=(YK pre (if v∈l then l else l++[v]),(match ER (if v∈l then l else l++[v]) v with | some j=>pre++IS j | none=>v)):=by
 unfold K2
 rw[Uc]
 by_cases h:v∈l
 ·rw[if_pos h]
  cases hq:ER l v with
  | none=>exact absurd h (Lh.1 hq)
  | some j =>
   have hne:pre++IS (0+j)≠[]:=fun e=>hp (List.append_eq_nil_iff.1 e).1
   simp only[Option.map_some,Option.getD_some]
   rw[if_neg hne,Nat.zero_add]
 ·rw[if_neg h]
  have hq:=Lh.2 h
  rw[hq]
  simp only[Option.map_none,Option.getD_none,if_true]
  rw[ow h]
  have hk:C8 (YK pre l) v=none:=by rw[Uc,hq];rfl
  rw[YB hk,fO]
  have e:YK pre (l++[v])=YK pre l++[(v,pre++IS l.length)]:=by
   have e:=aK pre v l 0
   rw[Nat.zero_add]at e
   exact e
  rw[e]
def RC (l:List A9)(t:Term):Prop:=∀ v,Cz v t=true->v∈l
theorem Hq (t:Term):∀ l:List A9,(∃ m,AH l t=l++m)/\(vfl t=true->RC (AH l t) t):=by
 induction t using Ag with
 | h t ih =>
 intro l
 rw[Lg]
 cases hv:t.var with
 | true =>
  rw[if_pos rfl]
  refine⟨?_,fun ht v ho=>?_⟩
  ·split
   ·exact⟨[],by simp⟩
   ·exact⟨_,rfl⟩
  ·have e:=(ME ht hv).1 ho
   subst e
   split
   ·assumption
   ·simp
 | false =>
  rw[if_neg (by simp)]
  have key:∀ (ar:List Term)(l:List A9),(∀ a∈ar,a∈t.args)->(∃ m,BM l ar=l++m)/\((∀ a∈ar,vfl a=true)->∀ a∈ar,RC (BM l ar) a):=by
   intro ar
   induction ar with
   | nil=>intro l _;exact⟨⟨[],by simp[BM]⟩,by simp⟩
   | cons a ar ihl =>
    intro l hl
    obtain⟨⟨m1,h1⟩,h2⟩:=ih a (hl a (by simp)) l
    obtain⟨⟨m2,h3⟩,h4⟩:=ihl (AH l a) fun b hb=>hl b (by simp[hb])
    simp only[BM]
    refine⟨⟨m1++m2,by rw[h3,h1,List.append_assoc]⟩,fun hvf b hb=>?_⟩
    rcases List.mem_cons.1 hb with rfl | hb
    ·intro v ho
     have:=h2 (hvf _ (by simp)) v ho
     rw[h3];exact List.mem_append_left _ this
    ·exact h4 (fun c hc=>hvf c (by simp[hc])) b hb
  obtain⟨h1,h2⟩:=key t.args l fun _ h=>h
  refine⟨h1,fun ht v ho=>?_⟩
  obtain⟨a,ha,ho⟩:=(Mn hv).1 ho
  exact h2 (fun a ha=>BJ ht ha) a ha v ho
theorem xB {pre:A9}{l m:List A9}{t:Term}(h:RC l t):app (Nm pre (l++m)) t=app (Nm pre l) t :=
 DJ t fun v hv=>by unfold Nm;rw[rF (h v hv)]
theorem Xl {pre:A9}(hp:pre≠[])(t:Term):∀ l:List A9,vfl t=true->Hd pre (YK pre l) t=(YK pre (AH l t),app (Nm pre (AH l t)) t):=by
 induction t using Ag with
 | h t ih =>
 intro l ht
 rw[ci,Lg]
 cases hv:t.var with
 | true =>
  rw[if_pos rfl,if_pos rfl,sQ hp,Aw hv];rfl
 | false =>
  rw[if_neg (by simp),if_neg (by simp),Ba hv]
  have key:∀ (ar:List Term)(l:List A9),(∀ a∈ar,a∈t.args)->E2 pre (YK pre l) ar=(YK pre (BM l ar),ar.map (app (Nm pre (BM l ar)))):=by
   intro ar
   induction ar with
   | nil=>intro l _;rfl
   | cons a ar ihl =>
    intro l hl
    have hvf:∀ b∈a::ar,vfl b=true:=fun b hb=>BJ ht (hl b hb)
    simp only[E2,BM]
    rw[ih a (hl a (by simp)) l (hvf a (by simp))]
    simp only
    rw[ihl (AH l a) fun b hb=>hl b (by simp[hb])]
    simp only[List.map_cons]
    have h1:=(Hq a l).2 (hvf a (by simp))
    have h2:∃ m,BM (AH l a) ar=AH l a++m:=by
     clear ihl hvf h1
     have:∀ (ar:List Term)(l:List A9),∃ m,BM l ar=l++m:=by
      intro ar
      induction ar with
      | nil=>intro l;exact⟨[],by simp[BM]⟩
      | cons b ar ihm =>
       intro l
       obtain⟨m1,e1⟩:=(Hq b l).1
       obtain⟨m2,e2⟩:=ihm (AH l b)
       exact⟨m1++m2,by simp only[BM];rw[e2,e1,List.append_assoc]⟩
     exact this ar _
    obtain⟨m,hm⟩:=h2
    rw[hm,xB h1]
  rw[key t.args l fun _ h=>h]
theorem RB {a b:List A6}{v:A9}:Ae (a++b) v=(Ae a v).or (Ae b v):=by
 induction a with
 | nil=>simp[Ae]
 | cons x a ih =>
  simp only[List.cons_append,Ae]
  split
  ·rfl
  ·exact ih
theorem Rv {pre u v:A9}(h:u≠v):∀ (l:List A9)(i:Nat),Ae (IW pre u i l) v=none
 | [],i=>rfl
 | x::l,i=>by
  simp only[IW,RB]
  rw[Rv h l (i+1)]
  have h2:Ae (if x=u then [(⟨u,BZ (pre++IS i)⟩:A6)] else []) v=none:=by
   split
   ·simp only[Ae];rw[if_neg h]
   ·rfl
  rw[h2];rfl
theorem XC {pre v:A9}:∀ (l:List A9)(i:Nat),Ae (IW pre v i l) v=(ER l v).map fun j=>BZ (pre++IS (i+j))
 | [],i=>rfl
 | x::l,i=>by
  simp only[IW,RB,ER]
  by_cases h:x=v
  ·rw[if_pos h,if_pos h];simp[Ae]
  ·rw[if_neg h,if_neg h,XC l (i+1)]
   cases ER l v with
   | none=>rfl
   | some j=>simp only[Ae,Option.map_some,Option.none_or];rw[show i+1+j=i+(j+1) by omega]
theorem jn (l:List A9)(pre v:A9):Ae (RS l pre) v=(ER l v).map fun j=>BZ (pre++IS j):=by
 unfold RS
 have key:∀ S:List A9,Ae (S.flatMap fun u=>IW pre u 0 l) v=if v∈S then (ER l v).map fun j=>BZ (pre++IS j) else none:=by
  intro S
  induction S with
  | nil=>rfl
  | cons u S ih =>
   simp only[List.flatMap_cons,RB,ih]
   by_cases h:u=v
   ·subst h
    rw[XC]
    simp only[List.mem_cons,true_or,if_true,Nat.zero_add]
    cases ER l u with
    | none=>simp
    | some j=>rfl
   ·have h':v≠u:=fun e=>h e.symm
    rw[Rv h]
    simp[h']
 rw[key]
 by_cases h:v∈l
 ·have h2:v∈Cw l:=(Ls l []).2 (.inr h)
  rw[if_pos h2]
 ·rw[Lh.2 h];split<;>rfl
theorem oW (s:List A6)(t:Term):AD s t=app (fun v=>(Ae s v).getD (BZ v)) t:=by
 induction t using Ag with
 | h t ih =>
 rw[PH]
 cases t with | mk n v l =>
 cases v with
 | true=>simp only[AD,Term.var,Term.name,if_true,BZ]
 | false =>
  simp only[AD,Term.var,Term.name,Term.args,ZK,Bool.false_eq_true,if_false]
  congr 1
  exact List.map_congr_left fun a ha=>ih a ha
theorem TT (l:List A9)(pre:A9)(t:Term):AD (RS l pre) t=app (Nm pre l) t:=by
 rw[oW]
 refine DJ t fun v _=>?_
 rw[jn]
 unfold Nm
 cases ER l v<;>rfl
def Ch (pre:A9)(x:A2):A2:=⟨app (Nm pre (AH [] x.left)) x.left,app (Nm pre (AH [] x.left)) x.right⟩
theorem cE {l:List A9}(t:Term):RC l t->vfl t=true->AH l t=l:=by
 induction t using Ag generalizing l with
 | h t ih =>
 intro h ht
 rw[Lg]
 cases hv:t.var with
 | true=>rw[if_pos rfl,if_pos (h _ ((ME ht hv).2 rfl))]
 | false =>
  rw[if_neg (by simp)]
  have key:∀ (ar:List Term),(∀ a∈ar,a∈t.args)->BM l ar=l:=by
   intro ar
   induction ar with
   | nil=>intro _;rfl
   | cons a ar ihl =>
    intro hl
    simp only[BM]
    rw[ih a (hl a (by simp)) (fun v hv'=>h v ((Mn hv).2 ⟨a,hl a (by simp),hv'⟩)) (BJ ht (hl a (by simp)))]
    exact ihl fun b hb=>hl b (by simp[hb])
  exact key t.args fun _ h=>h
theorem aD {pre:A9}(hp:pre≠[]){x:A2}(hl:vfl x.left=true)(hr:vfl x.right=true)(hx:∀ v,Cz v x.right=true->Cz v x.left=true):pZ pre x=Ch pre x:=by
 unfold pZ Ch
 have e1:=Xl hp x.left [] hl
 have e0:YK pre []=[]:=rfl
 rw[e0]at e1
 rw[e1]
 simp only
 rw[Xl hp x.right _ hr]
 have hs:RC (AH [] x.left) x.right:=fun v hv=>(Hq x.left []).2 hl v (hx v hv)
 rw[cE x.right hs hr]
theorem Vw {s:List A6}{t:Term}(ht:tb t<2^24)(hs:YF s<2^34):size (AD s t)<=2^60:=by
 have h1:=nX s t
 have h2:=AS t
 have:size t*(1+YF s)<=2^24*2^35:=Nat.mul_le_mul (by omega) (by omega)
 omega
theorem VI (s:List A6)(hs:DE s)(hb:YF s<2^34)(t:Term)(ht:tb t<2^24):PF Iq [Bi s,Ap t] (.agg [.int .i64 (size (AD s t)),.int .i64 (depth (AD s t))]):=by
 have hl:=Rc s
 induction t using Ag with
 | h t ih =>
 have hI:=T4 s t.name hs (by omega)
 have htb:=KA t
 have hlt:=Ha t.args
 have hsm:=Vw ht hb
 refine Ab GA.ok rfl ?_
 cases hv:t.var with
 | true =>
  push_cast[hv]
  refine .of hI ?_
  rw[Iw,hv]
  cases hx:Ae s t.name with
  | some x =>
   have h1:=Sh hx
   have h2:=AS x
   push_cast[Va]
   refine .of (Vn x (by omega)) ?_
   push_cast
   refine .of (SY x (by omega)) ?_
   push_cast
   refine A1 ?_
   push_cast[GA.rs]
   exact⟨rfl,rfl⟩
  | none =>
   push_cast[Va]
   refine A1 ?_
   push_cast[GA.rs]
   exact⟨rfl,rfl⟩
 | false =>
  have he:AD s t=.mk t.name false (t.args.map (AD s)):=by rw[Iw,hv];rfl
  rw[he]at hsm
  rw[he]
  simp only[size]at hsm
  have hd:=E6 (t.args.map (AD s))
  push_cast[hv]
  refine Ad (n:=t.args.length) (R:=fun k=>GA.L3 (Bi s) (.ptr 0 0) (.ptr 1 0) (Bg t.args) (.int .i64 t.args.length) (.int .i64 k) 0
   [.cells Gy [.int .i64 0,.int .i64 0],.cells Gy [.int .i64 (1+Ac ((t.args.take k).map (AD s)):Nat),.int .i64 (AC ((t.args.take k).map (AD s)):Nat)]] _) ?_ ?_ 0 (by omega)
  ·intro k hk ih2
   have hm:=A4 hk
   have hs1:Ac ((t.args.take (k+1)).map (AD s))=Ac ((t.args.take k).map (AD s))+size (AD s (t.args.getD k default)):=by
    rw[Aa hk,List.map_append,Ci];simp[Ac]
   have hd1:AC ((t.args.take (k+1)).map (AD s))=max (AC ((t.args.take k).map (AD s))) (depth (AD s (t.args.getD k default))):=by
    rw[Aa hk,List.map_append,Ey];simp[AC]
   have hle:Ac ((t.args.take (k+1)).map (AD s))<=Ac (t.args.map (AD s)):=by
    rw[List.map_take];exact Ez _ _
   have htm:=Ol hm
   rw[hs1,hd1]at ih2
   refine A8.2 ?_
   push_cast[BT hk]
   refine .of (ih _ hm (by omega)) ?_
   push_cast[CV (show k<2^62 by omega)]
   rw[Bs (by omega) (by omega),Int.add_assoc]
   push_cast at ih2
   exact ih2
  ·refine A8.2 ?_
   push_cast[B8 (Nat.le_refl _)]
   refine A1 ?_
   rw[Bs (by rw[List.take_length];omega) (by rw[List.take_length];omega)]
   push_cast[GA.rs,size,depth,List.take_length]
theorem Jz (s:List A6)(hs:DE s)(hb:YF s<2^34)(t:Term)(ht:tb t<2^24):PF FA [Bi s,Ap t] (if BO (AD s t) then GK (some (AD s t)) 0 else GK none 3):=by
 rw[<-mE]
 refine Ab GV.ok rfl ?_
 push_cast
 refine .of (VI s hs hb t ht) ?_
 by_cases h1:4000<size (AD s t)
 ·have h1':((4000:Int)<(size (AD s t):Int))=True:=eq_true (by omega)
  push_cast[h1']
  refine A1 ?_
  push_cast[GV.rs]
  rw[if_pos (.inl h1)];rfl
 ·have h1':((4000:Int)<(size (AD s t):Int))=False:=eq_false (by omega)
  by_cases h2:200<depth (AD s t)
  ·have h2':((200:Int)<(depth (AD s t):Int))=True:=eq_true (by omega)
   push_cast[h1',h2']
   refine A1 ?_
   push_cast[GV.rs]
   rw[if_pos (.inr h2)];rfl
  ·have h2':((200:Int)<(depth (AD s t):Int))=False:=eq_false (by omega)
   push_cast[h1',h2']
   refine .of (Yo s hs (by omega) t (by omega)) ?_
   push_cast
   refine A1 ?_
   push_cast[GV.rs]
   rw[if_neg (by omega)];rfl
theorem bW (s:List A6)(hl:s.length<2^62)(hs:YF s<2^34)(t:Term)(ht:tb t<2^24):PF MC [Bi s,Ap t] (.tup [.int .i64 (size (AD s t)),.int .i64 (depth (AD s t))]):=by
 induction t using Ag with
 | h t ih =>
 have hst:=AJ t
 have htb:=KA t
 have hll:=Aj t.args
 have hz:=AS t
 have hsm:=Vw ht hs
 refine Ab Nw.ok rfl ?_
 cases hv:t.var with
 | true =>
  have he:AD s t=(Ae s t.name).getD (.mk t.name true []):=by rw[Iw,if_pos hv]
  rw[he]at hsm ⊢
  push_cast[hv]
  refine .of (MB s t.name hl) ?_
  push_cast
  refine .of (RE _ (by omega)) ?_
  push_cast
  refine .of (PP _ (by omega)) ?_
  push_cast
  exact A1 (by push_cast[Nw.rs])
 | false =>
  have he:AD s t=.mk t.name false (t.args.map (AD s)):=by rw[Iw,hv];rfl
  rw[he]at hsm ⊢
  have hs1:size (Term.mk t.name false (t.args.map (AD s)))=1+Ac (t.args.map (AD s)):=by simp[size]
  have hd1:depth (Term.mk t.name false (t.args.map (AD s)))=AC (t.args.map (AD s))+1:=by simp[depth]
  have hds:=E6 (t.args.map (AD s))
  rw[hs1]at hsm
  rw[hs1,hd1]
  push_cast[hv]
  refine Ad (n:=t.args.length) (R:=fun k=>Nw.L3 (Bi s) (.int .i64 (1+Ac ((t.args.take k).map (AD s)):Nat)) (.int .i64 (AC ((t.args.take k).map (AD s)):Nat)) (Bg t.args) (.int .i64 t.args.length) (.int .i64 k) 0 [] _) ?_ ?_ 0 (by omega)
  ·intro k hk ih2
   have hm:=A4 hk
   have hm2:=Ol hm
   have hsum:Ac ((t.args.take k).map (AD s))+size (AD s (t.args.getD k default))<=Ac (t.args.map (AD s)):=by
    have:Ac ((t.args.take (k+1)).map (AD s))<=Ac (t.args.map (AD s)):=by rw[List.map_take];exact Ez _ _
    rw[Aa hk,List.map_append,Ci]at this
    simpa[Ac]using this
   rw[Aa hk,List.map_append,List.map_singleton,Ci,Ey]at ih2
   simp only[Ac,AC,Nat.add_zero,Nat.max_zero]at ih2
   refine A8.2 ?_
   push_cast[BT hk]
   refine .of (ih _ hm (by omega)) ?_
   push_cast[CV (show k<2^62 by omega)]
   rw[Bs (by omega) (by omega)]
   push_cast at ih2
   simpa[Int.add_assoc]using ih2
  ·refine A8.2 ?_
   push_cast[B8 (Nat.le_refl _),List.take_length]
   rw[Bs (by omega) (by omega)]
   refine A1 ?_
   push_cast[Nw.rs]
theorem Po (s:List A6)(hl:s.length<2^62)(hs:YF s<2^34)(t:Term)(ht:tb t<2^24):PF M5 [Bi s,Ap t] (.bool (BO (AD s t))):=by
 refine Ab Te.ok rfl ?_
 push_cast
 refine .of (bW s hl hs t ht) ?_
 by_cases h:size (AD s t)<=4000
 ·have hi:((size (AD s t):Int)<=4000)=True:=eq_true (by omega)
  push_cast[hi]
  exact A1 (by push_cast[Te.rs,BO,h];simp;omega)
 ·have hi:((size (AD s t):Int)<=4000)=False:=eq_false (by omega)
  push_cast[hi]
  exact A1 (by push_cast[Te.rs,BO,h])
end Go.Dw
section
namespace Go.Dw
abbrev Fl:Unit->V:=fun _=>.bool true
abbrev TM:=List (A9×Term)
abbrev DM:=List (Qf×Unit)
abbrev SM:=List (A9×Unit)
abbrev Sl (m:TM)(d:DM)(l:List Ob):List Ob:=.map (Bk Ap m)::.map (GC Fl d)::.cells B4 [.map 0,.map 1]::l
abbrev uH (m:TM)(d:DM):List Ob:=Sl m d []
theorem mD {σ:Nat->Option Nat}(m:TM):((Bk Ap m).map fun p=>(ren σ p.1,ren σ p.2))=Bk Ap m:=ST (fun x=>ed x) m
theorem oo {σ:Nat->Option Nat}(m:SM):((Bk Fl m).map fun p=>(ren σ p.1,ren σ p.2))=Bk Fl m:=ST (fun x=>rfl) m
theorem lM {σ:Nat->Option Nat}(m:DM):((GC Fl m).map fun p=>(ren σ p.1,ren σ p.2))=GC Fl m:=qk (fun x=>rfl) m
attribute [push_cast] mD oo lM
theorem GO (m:TM)(d:DM):IU 3 (uH m d):=⟨rfl,by
 show [A5 (AM 3) (.map (Bk Ap m)),A5 (AM 3) (.map (GC Fl d)),A5 (AM 3) (.cells B4 [.map 0,.map 1])]=_
 have h0:AM 3 0=some 0:=rfl
 have h1:AM 3 1=some 1:=rfl
 push_cast[h0,h1]⟩
section
variable {s:List A6} {m:TM} (d:DM) (hm:∀ v,C8 m v = Ae s v)
include hm
theorem Qx {v:A9}{x:Term}(h:Ae s v=some x):∀ l,Lq (.map (Bk Ap m)::l) true true (.agg [.str [],.bool false,.sl 3 []]) (.map 0) (.str v)=some (.tup [Ap x,.bool true]):=fun l=>by
 have:=KV Ap m v true (.agg [.str [],.bool false,.sl 3 []]) (H:=.map (Bk Ap m)::l) (i:=0) rfl
 rw[hm,h]at this;exact this
theorem W9 {v:A9}(h:Ae s v=none):∀ l,Lq (.map (Bk Ap m)::l) true true (.agg [.str [],.bool false,.sl 3 []]) (.map 0) (.str v)=some (.tup [.agg [.str [],.bool false,.sl 3 []],.bool false]):=fun l=>by
 have:=KV Ap m v true (.agg [.str [],.bool false,.sl 3 []]) (H:=.map (Bk Ap m)::l) (i:=0) rfl
 rw[hm,h]at this;exact this
theorem TH (n:Nat)(t h:Term)(hh:DR n s t=some h):Spec prog Cs [.ptr 2 0,Ap t] (uH m d) fun x H'=>x=Ap h/\H'=uH m d:=by
 refine AK mixed Fp.ok rfl ?_
 have key:∀ (n:Nat)(t:Term),DR n s t=some h->Fp.L3 (.ptr 2 0) (.ptr 3 0) (.ptr 4 0) 3 (Sl m d [.cells A3 (cT t),.cells A3 [.str [],.bool false,.sl 3 []]]) (Bx 3 Fp.rs fun x' H'=>x'=Ap h/\H'=uH m d):=by
  intro n
  induction n with
  | zero=>intro t h;cases h
  | succ n ih =>
   intro t ht
   simp only[DR]at ht
   refine A8.2 ?_
   cases hv:t.var with
   | false =>
    rw[if_neg (by simp[hv])]at ht
    cases ht
    push_cast[hv]
    exact An (H:=uH m d) (J:=[_,_]) (GO m d) rfl ⟨by push_cast,rfl⟩
   | true =>
    rw[if_pos hv]at ht
    cases hi:Ae s t.name with
    | none =>
     rw[hi]at ht
     cases ht
     push_cast[hv,W9 hm hi]
     exact An (H:=uH m d) (J:=[_,_,_]) (GO m d) rfl ⟨by push_cast,rfl⟩
    | some x =>
     rw[hi]at ht
     push_cast[hv,Qx hm hi]
     exact ih x ht
 push_cast
 exact key n t hh
def Nn (s:List A6)(v:A9):Nat->SM->Term->SM×Bool
 | 0,σ,_=>(σ,false)
 | n+1,σ,t=>if t.var then (if t.name=v then (σ,true) else match Ae s t.name with
   | none=>(σ,false)
   | some x=>if (C8 σ t.name).isSome then (σ,false) else Nn s v n (Fa σ t.name ()) x)
  else Vk (Nn s v n) σ t.args
abbrev oH (m:TM)(d:DM)(σ:SM):List Ob:=Sl m d [.map (Bk Fl σ)]
abbrev oJ (m:TM)(d:DM)(σ:SM):List Ob:=Sl m d [.map (Bk Fl σ),.cells ID [.ptr 2 0],.cells Dt [.map 3]]
omit hm in
theorem WU (m:TM)(d:DM)(σ:SM):IU 4 (oH m d σ):=⟨rfl,by
 show [A5 (AM 4) (.map (Bk Ap m)),A5 (AM 4) (.map (GC Fl d)),A5 (AM 4) (.cells B4 [.map 0,.map 1]),A5 (AM 4) (.map (Bk Fl σ))]=_
 have h0:AM 4 0=some 0:=rfl
 have h1:AM 4 1=some 1:=rfl
 push_cast[h0,h1]⟩
omit hm in
theorem pw (m:TM)(d:DM)(σ:SM)(J:List Ob):give [0,1,2,3] (Sl m d (.map (Bk Fl σ)::J))=oH m d σ:=by
 show [A5 (Ay [0,1,2,3]) (.map (Bk Ap m)),A5 (Ay [0,1,2,3]) (.map (GC Fl d)),A5 (Ay [0,1,2,3]) (.cells B4 [.map 0,.map 1]),A5 (Ay [0,1,2,3]) (.map (Bk Fl σ))]=_
 have h0:Ay [0,1,2,3] 0=some 0:=rfl
 have h1:Ay [0,1,2,3] 1=some 1:=rfl
 push_cast[h0,h1]
omit hm in
theorem Aal (m:TM)(d:DM)(σ σ':SM)(a b:Ob):takeB [0,1,2,3] (Sl m d [.map (Bk Fl σ),a,b]) (oH m d σ')=Sl m d [.map (Bk Fl σ'),a,b]:=by
 show [A5 (BY [0,1,2,3] 6) (.map (Bk Ap m)),A5 (BY [0,1,2,3] 6) (.map (GC Fl d)),A5 (BY [0,1,2,3] 6) (.cells B4 [.map 0,.map 1]),A5 (BY [0,1,2,3] 6) (.map (Bk Fl σ')),a,b]=_
 have h0:BY [0,1,2,3] 6 0=some 0:=rfl
 have h1:BY [0,1,2,3] 6 1=some 1:=rfl
 push_cast[h0,h1]
omit hm in
section
variable {N:Nat->C} {B:Nat} {k:List K} {t:T} {Q:X->T->List Ob->Prop} {dd:Option Nat} {l:List S} {f:Nat} {v:A9} {z:Term} {b:Bool} {σ σ':SM} {m:TM} {d:DM} {a c:Ob}
theorem yz (h:Spec prog f [.ptr 2 0,.str v,Ap z,.map 3] (oH m d σ) fun x' H'=>x'=.bool b/\H'=oH m d σ')(k':AB prog N B (.r l::k) (FK dd (.bool b) t) (Sl m d [.map (Bk Fl σ'),a,c]) Q):By prog N B dd l k t Q (.func f) [.ptr 2 0,.str v,Ap z,.map 3] (Sl m d [.map (Bk Fl σ),a,c]):=by
 have h2:Ay [0,1,2,3] 2=some 2:=rfl
 have h3:Ay [0,1,2,3] 3=some 3:=rfl
 refine By.some [0,1,2,3] (by simp) (by simp) (R:=fun x' H'=>x'=.bool b/\H'=oH m d σ') (by rw[pw];push_cast[h2,h3];exact h) ?_
 rintro x' H' ⟨rfl,rfl⟩ _
 rw[Aal];exact k'
end
omit hm in
theorem xD (m:TM)(d:DM)(σ σ':SM)(a b c:Ob):takeB [0,1,2,3] (Sl m d [.map (Bk Fl σ),a,b,c]) (oH m d σ')=Sl m d [.map (Bk Fl σ'),a,b,c]:=by
 show [A5 (BY [0,1,2,3] 7) (.map (Bk Ap m)),A5 (BY [0,1,2,3] 7) (.map (GC Fl d)),A5 (BY [0,1,2,3] 7) (.cells B4 [.map 0,.map 1]),A5 (BY [0,1,2,3] 7) (.map (Bk Fl σ')),a,b,c]=_
 have h0:BY [0,1,2,3] 7 0=some 0:=rfl
 have h1:BY [0,1,2,3] 7 1=some 1:=rfl
 push_cast[h0,h1]
omit hm in
section
variable {N:Nat->C} {B:Nat} {k:List K} {t:T} {Q:X->T->List Ob->Prop} {dd:Option Nat} {l:List S} {f:Nat} {v:A9} {z:Term} {b:Bool} {σ σ':SM} {m:TM} {d:DM} {a c e:Ob}
theorem qX (h:Spec prog f [.ptr 2 0,.str v,Ap z,.map 3] (oH m d σ) fun x' H'=>x'=.bool b/\H'=oH m d σ')(k':AB prog N B (.r l::k) (FK dd (.bool b) t) (Sl m d [.map (Bk Fl σ'),a,c,e]) Q):By prog N B dd l k t Q (.func f) [.ptr 2 0,.str v,Ap z,.map 3] (Sl m d [.map (Bk Fl σ),a,c,e]):=by
 have h2:Ay [0,1,2,3] 2=some 2:=rfl
 have h3:Ay [0,1,2,3] 3=some 3:=rfl
 refine By.some [0,1,2,3] (by simp) (by simp) (R:=fun x' H'=>x'=.bool b/\H'=oH m d σ') (by rw[pw];push_cast[h2,h3];exact h) ?_
 rintro x' H' ⟨rfl,rfl⟩ _
 rw[xD];exact k'
end
omit hm in
theorem Ux {m:TM}{d:DM}{σ σ':SM}{v:A9}{a:Term}{b:Bool}(h:Spec prog C3 [.ptr 2 0,.str v,Ap a,.map 3] (oH m d σ) fun x H'=>x=.bool b/\H'=oH m d σ') :
  Spec prog Db [Ap a,.ptr 4 0,.ro [.str v] 0,.ptr 5 0] (oJ m d σ) fun x H'=>x=.bool b/\H'=oJ m d σ':=by
 refine AK mixed II.ok rfl ?_
 push_cast
 refine yz h ?_
 push_cast
 exact Dy (.inl rfl) rfl ⟨rfl,rfl⟩
theorem XH (hw:∀ v x,Ae s v=some x->Di x<2^40)(v:A9):∀ (n:Nat)(t:Term)(σ:SM),FT s n t->Di t<2^40->Spec prog C3 [.ptr 2 0,.str v,Ap t,.map 3] (oH m d σ) fun x H'=>x=.bool (Nn s v n σ t).2/\H'=oH m d (Nn s v n σ t).1:=by
 intro n
 induction n with
 | zero=>intro t σ h;exact h.elim
 | succ n ih =>
  intro t σ hn ht
  simp only[FT]at hn
  refine AK mixed Ka.ok rfl ?_
  unfold Nn
  cases hv:t.var with
  | true =>
   rw[if_pos rfl]
   rw[if_pos hv]at hn
   by_cases hz:t.name=v
   ·rw[if_pos hz]
    push_cast[hv,hz]
    exact An (H:=oH m d σ) (J:=[_,_]) (WU m d σ) rfl ⟨rfl,rfl⟩
   ·rw[if_neg hz]
    have hz2:(t.name==v)=false:=by simpa using hz
    cases hi:Ae s t.name with
    | none =>
     push_cast[hv,hz,hz2,W9 hm hi]
     exact An (H:=oH m d σ) (J:=[_,_,_]) (WU m d σ) rfl ⟨rfl,rfl⟩
    | some x =>
     have hlk:∀ l,_:=fun l=>KV Fl σ t.name false (.bool false) (H:=Sl m d (.map (Bk Fl σ)::l)) (i:=3) rfl
     have hup:=PQ Fl σ t.name ()
     have hok:=ih x (Fa σ t.name ()) (hn x hi) (hw _ _ hi)
     cases hg:C8 σ t.name with
     | some u =>
      rw[hg]at hlk
      simp only[Option.map_some,Option.getD_some]at hlk
      push_cast[hv,hz,hz2,Qx hm hi,hlk]
      exact An (H:=oH m d σ) (J:=[_,_,_]) (WU m d σ) rfl ⟨rfl,rfl⟩
     | none =>
      rw[hg]at hlk
      simp only[Option.map_none,Option.getD_none]at hlk
      push_cast[hv,hz,hz2,Qx hm hi,hlk,hup]
      refine⟨rfl,qX hok ?_⟩
      push_cast
      exact An (H:=oH m d (Nn s v n (Fa σ t.name ()) x).1) (J:=[_,_,_]) (WU m d _) rfl ⟨rfl,rfl⟩
  | false =>
   rw[if_neg (by simp)]
   rw[if_neg (by simp[hv])]at hn
   push_cast[hv]
   have hwa:=E9 t
   have hC:=OR (F:=Nn s v n) (Hs:=oJ m d) (Inv:=fun _=>True) (g:=Db) (n:=6) (caps:=[.ptr 4 0,.ro [.str v] 0,.ptr 5 0]) (fun _=>rfl) rfl
    (fun σ=>by
     show [A5 (AM 6) (.map (Bk Ap m)),A5 (AM 6) (.map (GC Fl d)),A5 (AM 6) (.cells B4 [.map 0,.map 1]),A5 (AM 6) (.map (Bk Fl σ)),A5 (AM 6) (.cells ID [.ptr 2 0]),A5 (AM 6) (.cells Dt [.map 3])]=_
     have h0:AM 6 0=some 0:=rfl
     have h1:AM 6 1=some 1:=rfl
     have h2:AM 6 2=some 2:=rfl
     have h3:AM 6 3=some 3:=rfl
     push_cast[h0,h1,h2,h3])
    t.args (by omega) (fun a ha σ _=>Ux (ih a σ (hn a ha) (by have:=TE ha;omega))) (fun _ _ _ _ _=>trivial) σ trivial
   refine By.all (R:=fun x H'=>x=.bool (Vk (Nn s v n) σ t.args).2/\H'=oJ m d (Vk (Nn s v n) σ t.args).1) hC ?_
   rintro x H' ⟨rfl,rfl⟩
   push_cast
   exact An (H:=oH m d _) (J:=[_,_]) (WU m d _) rfl ⟨rfl,rfl⟩
omit hm in
theorem fq {F:SM->Term->SM×Bool}:∀ (l:List Term)(σ:SM),(Vk F σ l).2=true->∃ a∈l,∃ σ',(F σ' a).2=true
 | [],σ,h=>by cases h
 | a::l,σ,h=>by
  unfold Vk at h
  by_cases h1:(F σ a).2=true
  ·exact⟨a,by simp,σ,h1⟩
  ·rw[if_neg h1]at h
   obtain⟨b,hb,h2⟩:=fq l _ h
   exact⟨b,by simp[hb],h2⟩
omit hm in
theorem Uy {v:A9}:∀ (n:Nat)(σ:SM)(t:Term),(Nn s v n σ t).2=true->PC s v t
 | 0,σ,t,h=>by cases h
 | n+1,σ,t,h=>by
  unfold Nn at h
  cases hv:t.var with
  | true =>
   rw[if_pos hv]at h
   by_cases hz:t.name=v
   ·exact .here hv hz
   ·rw[if_neg hz]at h
    cases hi:Ae s t.name with
    | none=>rw[hi]at h;cases h
    | some x =>
     rw[hi]at h
     simp only at h
     split at h
     ·cases h
     ·exact .bound hv hi (Uy n _ x h)
  | false =>
   rw[if_neg (by simp[hv])]at h
   obtain⟨a,ha,σ',h1⟩:=fq _ _ h
   exact .arg hv ha (Uy n σ' a h1)
omit hm in
theorem ZL {F:SM->Term->SM×Bool}{P:Term->Prop}{Q:SM->Prop}:∀ (l:List Term)(σ:SM),Q σ->(∀ a∈l,∀ σ,Q σ->(F σ a).2=false->P a/\Q (F σ a).1)->(Vk F σ l).2=false->(∀ a∈l,P a)/\Q (Vk F σ l).1
 | [],σ,hq,_,h=>⟨by simp,hq⟩
 | a::l,σ,hq,hs,h=>by
  unfold Vk at h ⊢
  by_cases h1:(F σ a).2=true
  ·rw[if_pos h1]at h;cases h
  ·rw[if_neg h1]at h ⊢
   obtain⟨h2,h3⟩:=hs a (by simp) σ hq (by simpa using h1)
   obtain⟨h4,h5⟩:=ZL l _ h3 (fun b hb=>hs b (by simp[hb])) h
   exact⟨fun b hb=>by rcases List.mem_cons.1 hb with rfl | hb;exact h2;exact h4 b hb,h5⟩
omit hm in
theorem UU {v w:A9}{x:Term}(hw:w≠v)(hi:Ae s w=some x)(h:¬ PC s v x):¬ PC s v (BZ w):=by
 intro ho
 cases ho with
 | here _ h2=>exact hw h2
 | bound _ h2 h3=>rw[show (BZ w).name=w from rfl,hi]at h2;cases h2;exact h h3
 | arg h1 _ _=>cases h1
omit hm in
theorem S4 {σ':EE}{rk:A9->Nat}(hu:FU s σ' rk){v:A9}:∀ (n:Nat)(σ:SM)(t:Term)(R:Nat),FT s n t->vfl t=true->(∀ u,Cz u t=true->rk u<R)->(∀ w,(C8 σ w).isSome=true->¬ PC s v (BZ w)\/R<=rk w)->(Nn s v n σ t).2=false ->
  ¬ PC s v t/\∀ w,(C8 (Nn s v n σ t).1 w).isSome=true->(C8 σ w).isSome=true\/¬ PC s v (BZ w)
 | 0,σ,t,R,h,_,_,_,_=>h.elim
 | n+1,σ,t,R,hn,ht,hR,hσ,h=>by
  simp only[FT]at hn
  unfold Nn at h ⊢
  cases hv:t.var with
  | true =>
   rw[if_pos hv]at h hn
   rw[if_pos rfl]
   have hocc:Cz t.name t=true:=AE.2 (.inl ⟨hv,rfl⟩)
   have htv:=QF ht hv
   by_cases hz:t.name=v
   ·rw[if_pos hz]at h;cases h
   ·rw[if_neg hz]at h ⊢
    cases hi:Ae s t.name with
    | none =>
     refine⟨fun ho=>?_,fun w hw=>.inl hw⟩
     cases ho with
     | here _ h2=>exact hz h2
     | bound _ h2 _=>rw[hi]at h2;cases h2
     | arg h1 _ _=>rw[hv]at h1;cases h1
    | some x =>
     rw[hi]at h
     simp only at h ⊢
     by_cases hg:(C8 σ t.name).isSome=true
     ·rw[if_pos hg]
      rcases hσ _ hg with h1 | h1
      ·exact⟨by rw[htv];exact h1,fun w hw=>.inl hw⟩
      ·have:=hR _ hocc;omega
     ·rw[if_neg hg]at h ⊢
      obtain⟨h1,h2⟩:=S4 hu n (Fa σ t.name ()) x (rk t.name) (hn x hi) (hu.vf _ _ hi) (hu.low _ _ hi) (fun w hw=>by
       rw[HK]at hw
       by_cases e:t.name=w
       ·exact .inr (by rw[e];exact Nat.le_refl _)
       ·rw[if_neg e]at hw
        rcases hσ w hw with h3 | h3
        ·exact .inl h3
        ·exact .inr (by have:=hR _ hocc;omega)) h
      have h3:=UU hz hi h1
      refine⟨by rw[htv];exact h3,fun w hw=>?_⟩
      rcases h2 w hw with h4 | h4
      ·rw[HK]at h4
       by_cases e:t.name=w
       ·exact .inr (e▸h3)
       ·rw[if_neg e]at h4;exact .inl h4
      ·exact .inr h4
  | false =>
   rw[if_neg (by simp[hv])]at h hn
   rw[if_neg (by simp)]
   obtain⟨h1,h2⟩:=ZL (P:=fun a=>¬ PC s v a) (Q:=fun τ=>∀ w,(C8 τ w).isSome=true->(C8 σ w).isSome=true\/¬ PC s v (BZ w)) t.args σ (fun w hw=>.inl hw)
    (fun a ha τ hτ hf=>by
     obtain⟨h3,h4⟩:=S4 hu n τ a R (hn a ha) (BJ ht ha) (fun u hu'=>hR u (AE.2 (.inr ⟨a,ha,hu'⟩))) (fun w hw=>by
      rcases hτ w hw with h5 | h5
      ·exact hσ w h5
      ·exact .inl h5) hf
     refine⟨h3,fun w hw=>?_⟩
     rcases h4 w hw with h5 | h5
     ·exact hτ w h5
     ·exact .inr h5) h
   refine⟨fun ho=>?_,h2⟩
   cases ho with
   | here h3 _=>rw[hv]at h3;cases h3
   | bound h3 _ _=>rw[hv]at h3;cases h3
   | arg _ h3 h4=>exact h1 _ h3 h4
omit hm in
theorem vr {σ':EE}{rk:A9->Nat}(hu:FU s σ' rk){v:A9}{n:Nat}{t:Term}(hn:FT s n t)(ht:vfl t=true):(Nn s v n [] t).2=true↔PC s v t:=by
 constructor
 ·exact Uy n [] t
 ·intro ho
  obtain⟨M,hM⟩:=Y9 rk t
  cases h:(Nn s v n [] t).2 with
  | true=>rfl
  | false=>exact absurd ho (S4 hu n [] t (M+1) hn ht (fun u h=>by have:=hM u h;omega) (fun w hw=>by cases hw) h).1
theorem Vv {σ':EE}{rk:A9->Nat}(hu:FU s σ' rk)(hw:∀ v x,Ae s v=some x->Di x<2^40)(v:A9)(t:Term)(ht:vfl t=true)(hwt:Di t<2^40) :
  Spec prog EF [.ptr 2 0,.str v,Ap t] (uH m d) fun x H'=>x=.bool (Ly s v t).2/\H'=uH (if (Ly s v t).2 then Fa m v t else m) d:=by
 obtain⟨n,hn⟩:=hu.need t
 have hO:=XH d hm hw v n t [] hn hwt
 have hup:=PQ Ap m v t
 refine AK mixed Mv.ok rfl ?_
 push_cast
 refine By.all (R:=fun x H'=>x=.bool (Nn s v n [] t).2/\H'=oH m d (Nn s v n [] t).1) hO ?_
 rintro x H' ⟨rfl,rfl⟩
 have hq:=vr hu (v:=v) hn ht
 rcases M7 s v t with ⟨ho,e⟩|⟨ho,e⟩
 ·rw[e]
  have hq:=hq.2 ho
  push_cast[hq]
  exact An (H:=uH m d) (J:=[_]) (GO m d) rfl ⟨rfl,rfl⟩
 ·rw[e]
  have hq:(Nn s v n [] t).2=false:=by
   cases h:(Nn s v n [] t).2 with
   | true=>exact absurd (hq.1 h) ho
   | false=>rfl
  push_cast[hq,hup]
  exact⟨rfl,An (H:=uH (Fa m v t) d) (J:=[_]) (GO _ d) rfl ⟨rfl,rfl⟩⟩
end
end Go.Dw
end
section
namespace Go.Dw
theorem FU.sat_comp {s:List A6}{σ θ:EE}{rk:A9->Nat}(h:FU s σ rk)(hθ:TO θ s):∀ v,θ v=app θ (σ v):=by
 refine h.ind fun v ih=>?_
 cases hi:Ae s v with
 | none=>rw[h.free v hi];exact (Aw (f:=θ) (t:=BZ v) rfl).symm
 | some t =>
  rw[h.fix v t hi,hθ v t hi,OH]
  exact DJ t fun w hw=>ih t w hi hw
theorem FU.sat_app {s:List A6}{σ θ:EE}{rk:A9->Nat}(h:FU s σ rk)(hθ:TO θ s)(t:Term):app θ t=app θ (app σ t):=by
 rw[OH];exact DJ t fun v _=>h.sat_comp hθ v
theorem iv {f:Term->Term}{l m:List Term}(h:l.map f=m.map f):l.length=m.length:=by simpa using congrArg List.length h
theorem Ya {s:List A6}{σ:EE}{rk:A9->Nat}(h:FU s σ rk):∀ (n:Nat)(a b:Term)(r:List A6×Bool),vfl a=true->vfl b=true->AZ n s a b=some r->app σ a=app σ b->r=(s,true)
 | 0,_,_,_,_,_,hr,_=>by cases hr
 | n+1,a,b,r,ha,hb,hr,he=>by
  obtain⟨x,y,hx,hy,hc⟩:=JV hr
  have hxv:vfl x=true:=C6 (P:=fun t=>vfl t=true) h.vf ha hx
  have hyv:vfl y=true:=C6 (P:=fun t=>vfl t=true) h.vf hb hy
  rw[<-Iz h.sat hx,<-Iz h.sat hy]at he
  have hfx:x.var=true->app σ x=BZ x.name:=fun c=>by rw[Aw c];exact h.free _ (E8 hx c)
  have hfy:y.var=true->app σ y=BZ y.name:=fun c=>by rw[Aw c];exact h.free _ (E8 hy c)
  rcases hc with ⟨c1,c2,c3,rfl⟩|⟨c1,c2,rfl⟩|⟨c1,c2,rfl⟩|⟨c1,c2,c3,rfl⟩|⟨c1,c2,c3,c4,c5⟩
  ·rfl
  ·exfalso
   rw[hfx c1]at he
   cases hv:y.var with
   | true =>
    rw[hfy hv]at he
    injection he with e1 e2 e3
    exact c2 ⟨hv,e1⟩
   | false=>rw[Ba hv]at he;injection he with e1 e2 e3;cases e2
  ·exfalso
   rw[hfy c2,Ba c1]at he
   injection he with e1 e2 e3;cases e2
  ·exfalso
   rw[Ba c1,Ba c2]at he
   injection he with e1 e2 e3
   rcases c3 with c3 | c3
   ·exact c3 e1
   ·exact c3 (iv e3)
  ·rw[Ba c1,Ba c2]at he
   injection he with e1 e2 e3
   have key:∀ (l m:List Term),(∀ z∈l,vfl z=true)->(∀ z∈m,vfl z=true)->l.map (app σ)=m.map (app σ)->AF (AZ n) s l m=some r->r=(s,true):=by
    intro l
    induction l with
    | nil=>intro m _ _ _ h;simp only[AF,Option.some.injEq]at h;exact h.symm
    | cons a l ihl =>
     intro m hl hm he h
     cases m with
     | nil=>simp at he
     | cons b m =>
      simp only[List.map_cons,List.cons.injEq]at he
      simp only[AF]at h
      cases hf:AZ n s a b with
      | none=>rw[hf]at h;cases h
      | some p =>
       rw[hf]at h
       have e:=Ya ‹FU s σ rk› n a b p (hl a (by simp)) (hm b (by simp)) hf he.1
       subst e
       exact ihl m (fun x hx=>hl x (by simp[hx])) (fun x hx=>hm x (by simp[hx])) he.2 h
   exact key x.args y.args (fun z hz=>BJ hxv hz) (fun z hz=>BJ hyv hz) e3 c5
theorem Ep {t a:Term}(h:Di t<2^40)(ha:a∈t.args):Di a<2^40:=by
 have:=E9 t
 have:=TE ha
 omega
def WB (s:List A6):Prop:=∀ v x,Ae s v=some x->Di x<2^40
theorem WB.solve {s:List A6}(h:WB s){n:Nat}{a b:Term}{r:List A6×Bool}(ha:Di a<2^40)(hb:Di b<2^40)(hr:AZ n s a b=some r):WB r.1 :=
 fun v x hx=>(K7 (P:=fun t=>Di t<2^40) (Q:=fun _=>True) (fun t a h ha=>Ep h ha) (fun _ _ _=>trivial) n s a b r (fun v t hv=>⟨h v t hv,trivial⟩) ha hb hr v x hx).1
def MR (s:List A6)(m:TM):Prop:=(∀ v,C8 m v=Ae s v)/\me m
theorem MR.bind {s:List A6}{m:TM}(h:MR s m){v:A9}(hv:Ae s v=none)(t:Term):MR (FS s v t) (Fa m v t) :=
 ⟨fun w=>by rw[HK,Es hv,h.1 w],lJ h.2 v t⟩
def Pt (s:List A6)(k:Qf):Prop:=∀ θ,TO θ s->θ k.1=θ k.2
def wQ (d:DM)(r:List A6×Bool)(x:V)(m':TM)(d':DM):Prop:=x=.bool r.2/\(r.2=true->MR r.1 m'/\∀ k,(C8 d' k).isSome=true->(C8 d k).isSome=true\/Pt r.1 k)
theorem Abi (m m':TM)(d d':DM)(J:List Ob):takeB [0,1,2] (Sl m d J) (uH m' d')=Sl m' d' J:=by
 apply List.ext_getElem?
 intro i
 rw[DK (by simp)]
 have h0:∀ n,BY [0,1,2] n 0=some 0:=fun _=>rfl
 have h1:∀ n,BY [0,1,2] n 1=some 1:=fun _=>rfl
 match i with
 | 0=>rw[if_pos (by simp)];show some (A5 _ (.map (Bk Ap m')))=some _;push_cast
 | 1=>rw[if_pos (by simp)];show some (A5 _ (.map (GC Fl d')))=some _;push_cast
 | 2=>rw[if_pos (by simp)];show some (A5 _ (.cells B4 [.map 0,.map 1]))=some _;push_cast[h0,h1]
 | i+3 =>
  have hp:Ay [0,1,2] (i+3)=none:=by simp[Ay,List.findIdx?_cons]
  by_cases h:i<J.length
  ·rw[if_pos (by simp;omega),hp]
   simp[List.getD_eq_getElem?_getD,h]
  ·rw[if_neg (by simp;omega)]
   have e1:(Sl m' d' J)[i+3]?=none:=List.getElem?_eq_none (by simp;omega)
   have e2:(uH m' d')[[0,1,2].length+(i+3-(Sl m d J).length)]?=none:=List.getElem?_eq_none (by simp)
   rw[e1,e2];rfl
theorem Aah (m:TM)(d:DM)(J:List Ob):give [0,1,2] (Sl m d J)=uH m d:=by
 show [A5 (Ay [0,1,2]) (.map (Bk Ap m)),A5 (Ay [0,1,2]) (.map (GC Fl d)),A5 (Ay [0,1,2]) (.cells B4 [.map 0,.map 1])]=_
 have h0:Ay [0,1,2] 0=some 0:=rfl
 have h1:Ay [0,1,2] 1=some 1:=rfl
 push_cast[h0,h1]
section
variable {N:Nat->C} {B:Nat} {k:List K} {t:T} {Q:X->T->List Ob->Prop} {dd:Option Nat} {l:List S} {f:Nat} {vs vs':List V} {m:TM} {d:DM} {J:List Ob}
theorem QT {R:V->TM->DM->Prop}(hv:AR (Ay [0,1,2]) vs=vs')(h:Spec prog f vs' (uH m d) fun x' H'=>∃ m' d',R x' m' d'/\H'=uH m' d')(k':∀ x' m' d',R x' m' d'->AB prog N B (.r l::k) (FK dd (ren (BY [0,1,2] (J.length+3)) x') t) (Sl m' d' J) Q):By prog N B dd l k t Q (.func f) vs (Sl m d J):=by
 refine By.some [0,1,2] (by simp) (by simp) (R:=fun x' H'=>∃ m' d',R x' m' d'/\H'=uH m' d') (by rw[Aah,hv];exact h) ?_
 rintro x' H' ⟨m',d',hr,rfl⟩ _
 rw[Abi];exact k' x' m' d' hr
theorem Nu {x:V}(hv:AR (Ay [0,1,2]) vs=vs')(h:Spec prog f vs' (uH m d) fun x' H'=>x'=x/\H'=uH m d)(k':AB prog N B (.r l::k) (FK dd (ren (BY [0,1,2] (J.length+3)) x) t) (Sl m d J) Q):By prog N B dd l k t Q (.func f) vs (Sl m d J):=by
 refine QT (R:=fun x' m' d'=>x'=x/\m'=m/\d'=d) hv (Spec.mono h fun x' H' h=>⟨m,d,⟨h.1,rfl,rfl⟩,h.2⟩) ?_
 rintro x' m' d' ⟨rfl,rfl,rfl⟩;exact k'
end
end Go.Dw
end
namespace Go.Dw
theorem YG:∀ (n:Nat)(s:List A6)(σ:EE)(rk:A9->Nat)(m:TM)(d:DM)(a b:Term) (r:List A6×Bool),FU s σ rk->MR s m->WB s->vfl a=true->vfl b=true->Di a<2^40->Di b<2^40->AZ n s a b=some r ->
  (∀ k,(C8 d k).isSome=true->Pt s k\/∀ θ,TO θ s->size (app θ a)<size (θ k.1))->Spec prog E0 [.ptr 2 0,Ap a,Ap b] (uH m d) fun x H'=>∃ m' d',wQ d r x m' d'/\H'=uH m' d':=by
 intro n
 induction n with
 | zero=>intro s σ rk m d a b r _ _ _ _ _ _ _ h;cases h
 | succ n ih =>
  intro s σ rk m d a b r hu hm hwb ha hb hwa hwb2 hr hd
  have rest:∀ (d:DM)(Q:V->List Ob->Prop)(T:T)(J:List Ob),(∀ x m' d',wQ d r x m' d'->Q x (uH m' d'))->lk T 0=.ptr 2 0->lk T 4=.ptr 3 0->lk T 5=.ptr 4 0->(∀ k,(C8 d k).isSome=true->Pt s k\/∀ θ,TO θ s->size (app θ a)<=size (θ k.1)) ->
    AB prog Cc.nd 3 [.c (.n 5)] T (Sl m d (.cells A3 (cT a)::.cells A3 (cT b)::J)) (Bx 3 Cc.rs Q):=by
   intro d Q T J hQ h0 h4 h5 hd
   obtain⟨x,y,hx,hy,hc⟩:=JV hr
   have hxv:vfl x=true:=C6 (P:=fun t=>vfl t=true) hu.vf ha hx
   have hyv:vfl y=true:=C6 (P:=fun t=>vfl t=true) hu.vf hb hy
   have hxw:Di x<2^40:=C6 (P:=fun t=>Di t<2^40) hwb hwa hx
   have hyw:Di y<2^40:=C6 (P:=fun t=>Di t<2^40) hwb hwb2 hy
   have hxs:∀ θ,TO θ s->app θ x=app θ a:=fun θ hθ=>Iz hθ hx
   have hA:=TH d hm.1 (n+1) a x hx
   have hB:=TH d hm.1 (n+1) b y hy
   have hlx:=E9 x
   have hly:=E9 y
   have p2:Ay [0,1,2] 2=some 2:=rfl
   have same:∀ r:List A6×Bool,r.1=s->∀ x:V,x=.bool r.2->wQ d r x m d:=fun r h x e=>⟨e,fun _=>⟨h▸hm,fun k hk=>.inl hk⟩⟩
   have setF:∀ (v:A9)(t:Term),Ae s v=none->r=Ly s v t->∀ (x':V)(m':TM)(d':DM),(x'=.bool (Ly s v t).2/\m'=(if (Ly s v t).2 then Fa m v t else m)/\d'=d)->wQ d r x' m' d':=by
    rintro v t hv rfl x' m' d' ⟨rfl,rfl,rfl⟩
    refine⟨rfl,fun h=>⟨?_,fun k hk=>.inl hk⟩⟩
    rcases M7 s v t with ⟨_,e⟩|⟨_,e⟩
    ·rw[e]at h;cases h
    ·rw[e,if_pos rfl];exact hm.bind hv t
   push_cast[h0,h4,h5]
   refine⟨Nu (by push_cast[p2]) hA ?_,Nu (by push_cast[p2]) hA ?_⟩
   all_goals
    push_cast[h0,h4,h5]
    refine Nu (by push_cast[p2]) hB ?_
    rcases hc with ⟨c1,c2,c3,c6⟩|⟨c1,c2,c6⟩|⟨c1,c2,c6⟩|⟨c1,c2,c3,c6⟩|⟨c1,c2,c3,c4,c5⟩
    ·push_cast[h0,h4,h5,c1,c2,c3]
     exact An (H:=uH m d) (J:=_::_::J) (GO m d) rfl (hQ _ m d (same r (by rw[c6]) _ (by rw[c6];rfl)))
    ·have hS:=Vv d hm.1 hu hwb x.name y hyv hyw
     have hS2:=Spec.mono hS (Q':=fun x' H'=>∃ m' d',(x'=.bool (Ly s x.name y).2/\m'=(if (Ly s x.name y).2 then Fa m x.name y else m)/\d'=d)/\H'=uH m' d') fun x' H' h=>⟨_,_,⟨h.1,rfl,rfl⟩,h.2⟩
     by_cases c3:y.var=true
     ·have c4:x.name≠y.name:=fun e=>c2 ⟨c3,e⟩
      push_cast[h0,h4,h5,c1,c3,c4]
      refine QT (by push_cast[p2]) hS2 ?_
      intro x' m' d' hR
      have hf:=setF x.name y (E8 hx c1) c6 x' m' d' hR
      obtain⟨rfl,_,_⟩:=hR
      push_cast
      exact An (H:=uH m' d') (J:=_::_::J) (GO m' d') rfl (hQ _ m' d' hf)
     ·have c3:y.var=false:=by simpa using c3
      push_cast[h0,h4,h5,c1,c3]
      refine QT (by push_cast[p2]) hS2 ?_
      intro x' m' d' hR
      have hf:=setF x.name y (E8 hx c1) c6 x' m' d' hR
      obtain⟨rfl,_,_⟩:=hR
      push_cast
      exact An (H:=uH m' d') (J:=_::_::J) (GO m' d') rfl (hQ _ m' d' hf)
    ·have hS:=Vv d hm.1 hu hwb y.name x hxv hxw
     have hS2:=Spec.mono hS (Q':=fun x' H'=>∃ m' d',(x'=.bool (Ly s y.name x).2/\m'=(if (Ly s y.name x).2 then Fa m y.name x else m)/\d'=d)/\H'=uH m' d') fun x' H' h=>⟨_,_,⟨h.1,rfl,rfl⟩,h.2⟩
     push_cast[h0,h4,h5,c1,c2]
     refine QT (by push_cast[p2]) hS2 ?_
     intro x' m' d' hR
     have hf:=setF y.name x (E8 hy c2) c6 x' m' d' hR
     obtain⟨rfl,_,_⟩:=hR
     push_cast
     exact An (H:=uH m' d') (J:=_::_::J) (GO m' d') rfl (hQ _ m' d' hf)
    ·by_cases hn:x.name=y.name
     ·have hlen:((x.args.length:Int)=(y.args.length:Int))=False:=eq_false (by rcases c3 with h | h;exact absurd hn h;omega)
      push_cast[h0,h4,h5,c1,c2,hn,hlen]
      exact An (H:=uH m d) (J:=_::_::J) (GO m d) rfl (hQ _ m d (same r (by rw[c6]) _ (by rw[c6];rfl)))
     ·push_cast[h0,h4,h5,c1,c2,hn]
      exact An (H:=uH m d) (J:=_::_::J) (GO m d) rfl (hQ _ m d (same r (by rw[c6]) _ (by rw[c6];rfl)))
    ·have hlen:((x.args.length:Int)=(y.args.length:Int))=True:=eq_true (by omega)
     push_cast[h0,h4,h5,c1,c2,c3,hlen]
     refine Ad (n:=x.args.length) (R:=fun k=>∀ (s':List A6)(σ':EE)(rk':A9->Nat)(m':TM)(d':DM),FU s' σ' rk'->MR s' m'->WB s'->(∀ θ,TO θ s'->TO θ s)->(∀ k,(C8 d' k).isSome=true->(C8 d k).isSome=true\/Pt s' k)->AF (AZ n) s' (x.args.drop k) (y.args.drop k)=some r ->
      Cc.L3 (.ptr 2 0) (.ptr 3 0) (.ptr 4 0) (.int .i64 x.args.length) (.int .i64 k) 3 (Sl m' d' [.cells A3 (cT x),.cells A3 (cT y)]) (Bx 3 Cc.rs Q)) ?_ ?_ 0 (by omega) s σ rk m d hu hm hwb (fun _ h=>h) (fun k hk=>.inl hk) c5
     ·intro k hk ih2 s' σ' rk' m' d' hu' hm' hwb' hsat hkeys hsol
      have hk2:k<y.args.length:=by omega
      have hmx:=A4 hk
      have hmy:=A4 hk2
      rw[Al hk,Al hk2]at hsol
      generalize hc:x.args.getD k default=c at hmx hsol
      generalize he:y.args.getD k default=e at hmy hsol
      simp only[AF]at hsol
      cases hf:AZ n s' c e with
      | none=>rw[hf]at hsol;cases hsol
      | some p =>
       obtain⟨s1,ok⟩:=p
       rw[hf]at hsol
       have hcall:=ih s' σ' rk' m' d' c e (s1,ok) hu' hm' hwb' (BJ hxv hmx) (BJ hyv hmy) (Ep hxw hmx) (Ep hyw hmy) hf (fun k hk=>by
        rcases hkeys k hk with h | h
        ·rcases hd k h with h | h
         ·exact .inl fun θ hθ=>h θ (hsat θ hθ)
         ·refine .inr fun θ hθ=>?_
          have h1:=h θ (hsat θ hθ)
          rw[<-hxs θ (hsat θ hθ),Ba c1]at h1
          have h2:size (Term.mk x.name false (x.args.map (app θ)))=1+Ac (x.args.map (app θ)):=rfl
          have h3:=Bt (List.mem_map_of_mem (f:=app θ) hmx)
          omega
        ·exact .inl h)
       obtain⟨σ1,rk1,hok⟩:=FD n s' σ' rk' c e (s1,ok) hu' (BJ hxv hmx) (BJ hyv hmy) hf
       refine A8.2 ?_
       push_cast[BT hk,BT hk2,hc,he]
       refine QT (by push_cast[p2]) hcall ?_
       intro x' m1 d1 hR
       obtain⟨rfl,hR⟩:=hR
       cases ok with
       | false =>
        simp only[Option.some.injEq]at hsol
        push_cast
        exact An (H:=uH m1 d1) (J:=[_,_]) (GO m1 d1) rfl (hQ _ m1 d1 ⟨by rw[<-hsol];rfl,fun h=>by rw[<-hsol]at h;cases h⟩)
       | true =>
        obtain⟨hm1,hk1⟩:=hR rfl
        push_cast[CV (show k<2^62 by omega)]
        have:=ih2 s1 σ1 rk1 m1 d1 hok.ok hm1 (hwb'.solve (Ep hxw hmx) (Ep hyw hmy) hf) (fun θ hθ=>hsat θ (hθ.mono hok.ext)) (fun k hk=>by
         rcases hk1 k hk with h | h
         ·rcases hkeys k h with h | h
          ·exact .inl h
          ·exact .inr fun θ hθ=>h θ (hθ.mono hok.ext)
         ·exact .inr h) hsol
        push_cast at this
        exact this
     ·intro s' σ' rk' m' d' hu' hm' hwb' hsat hkeys hsol
      rw[Ao]at hsol
      simp only[AF,Option.some.injEq]at hsol
      refine A8.2 ?_
      push_cast[B8 (Nat.le_refl _)]
      exact An (H:=uH m' d') (J:=[_,_]) (GO m' d') rfl (hQ _ m' d' ⟨by rw[<-hsol];rfl,fun _=>⟨by rw[<-hsol];exact hm',fun k hk=>by rw[<-hsol];exact hkeys k hk⟩⟩)
  refine AK mixed Cc.ok rfl ?_
  unfold Cc.body
  generalize hC:C.n 5=c5
  obtain⟨σ1,rk1,hok⟩:=FD (n+1) s σ rk a b r hu ha hb hr
  have hd1:∀ k,(C8 d k).isSome=true->Pt s k\/∀ θ,TO θ s->size (app θ a)<=size (θ k.1):=fun k hk=>by
   rcases hd k hk with h | h
   ·exact .inl h
   ·exact .inr fun θ hθ=>Nat.le_of_lt (h θ hθ)
  cases hva:a.var with
  | false =>
   push_cast[hva]
   subst hC
   exact rest d _ _ [] (fun x m' d' h=>⟨m',d',h,rfl⟩) rfl rfl rfl hd1
  | true =>
   cases hvb:b.var with
   | false =>
    push_cast[hva,hvb]
    subst hC
    exact rest d _ _ [] (fun x m' d' h=>⟨m',d',h,rfl⟩) rfl rfl rfl hd1
   | true =>
    have hlk:∀ l,_:=fun l=>mY Fl d (a.name,b.name) false (.bool false) (H:=Sl m d l) (i:=1) rfl
    have hup:=qh Fl d (a.name,b.name) ()
    cases hg:C8 d (a.name,b.name)with
    | some u =>
     rw[hg]at hlk
     simp only[Option.map_some,Option.getD_some,Pd]at hlk hup
     push_cast[hva,hvb,hlk]
     have hrr:r=(s,true):=by
      rcases hd (a.name,b.name) (by rw[hg];rfl)with h | h
      ·exact Ya hu (n+1) a b r ha hb hr (by rw[Aw hva,Aw hvb];exact h σ hu.sat)
      ·have:=h σ hu.sat
       rw[Aw hva]at this
       exact absurd this (Nat.lt_irrefl _)
     exact An (H:=uH m d) (J:=[_,_,_]) (GO m d) rfl ⟨m,d,⟨by rw[hrr];rfl,fun _=>⟨by rw[hrr];exact hm,fun k hk=>.inl hk⟩⟩,rfl⟩
    | none =>
     rw[hg]at hlk
     simp only[Option.map_none,Option.getD_none,Pd]at hlk hup
     push_cast[hva,hvb,hlk,hup]
     subst hC
     refine⟨rfl,rest (Fa d (a.name,b.name) ()) _ _ [.dead] (fun x m' d' h=>?_) rfl rfl rfl fun k hk=>?_⟩
     ·obtain⟨e,h1⟩:=h
      refine⟨m',d',⟨e,fun hr2=>⟨(h1 hr2).1,fun k hk=>?_⟩⟩,rfl⟩
      rcases (h1 hr2).2 k hk with h3 | h3
      ·rw[HK]at h3
       by_cases e:(a.name,b.name)=k
       ·subst e
        refine .inr fun θ hθ=>?_
        have h4:=hok.eq hr2
        have h5:=hok.ok.sat_app hθ a
        have h6:=hok.ok.sat_app hθ b
        rw[h4,<-h6,Aw hva,Aw hvb]at h5
        exact h5
       ·rw[if_neg e]at h3;exact .inl h3
      ·exact .inr h3
     ·rw[HK]at hk
      by_cases e:(a.name,b.name)=k
      ·subst e
       exact .inr fun θ hθ=>by rw[Aw hva];exact Nat.le_refl _
      ·rw[if_neg e]at hk;exact hd1 k hk
theorem YW {s:List A6}{σ:EE}{rk:A9->Nat}(hu:FU s σ rk){m:TM}{d:DM}(hm:∀ v,C8 m v=Ae s v)(hwb:WB s):∀ (n:Nat)(t:Term),FT s n t->vfl t=true->Di t<2^40->Spec prog BR [.ptr 2 0,Ap t] (uH m d) fun x H'=>x=Ap (app σ t)/\H'=uH m d:=by
 intro n
 induction n with
 | zero=>intro t h;exact h.elim
 | succ n ih =>
  intro t hn ht hw
  simp only[FT]at hn
  have p2:Ay [0,1,2] 2=some 2:=rfl
  refine AK mixed EG.ok rfl ?_
  cases hv:t.var with
  | true =>
   rw[if_pos hv]at hn
   rw[Aw hv]
   cases hi:Ae s t.name with
   | none =>
    rw[hu.free _ hi]
    push_cast[hv,W9 hm hi]
    exact An (H:=uH m d) (J:=[_,_]) (GO m d) rfl ⟨by push_cast;rfl,rfl⟩
   | some x =>
    have hc:=ih x (hn x hi) (hu.vf _ _ hi) (hwb _ _ hi)
    rw[hu.fix _ _ hi]
    push_cast[hv,Qx hm hi]
    refine Nu (J:=[_,_]) (by push_cast[p2]) hc ?_
    push_cast
    exact An (H:=uH m d) (J:=[_,_]) (GO m d) rfl ⟨by push_cast,rfl⟩
  | false =>
   rw[if_neg (by simp[hv])]at hn
   rw[Ba hv]
   have hwa:=E9 t
   push_cast[hv]
   refine Ad (n:=t.args.length) (R:=fun k=>EG.L3 (.ptr 2 0) (.ptr 3 0) (.ptr 4 0) (Bg t.args) (.int .i64 t.args.length) (.int .i64 k) 3
    (Sl m d [.cells A3 [.str [],.bool false,.sl 3 []],.cells A3 [.str t.name,.bool false,Bf cT 5 3 ((t.args.map (app σ)).take k)],.arr A3 3 k]) _) ?_ ?_ 0 (by omega)
   ·intro k hk ih2
    have hme:=A4 hk
    have hk2:k<(t.args.map (app σ)).length:=by simpa using hk
    have hlt:((t.args.map (app σ)).take k).length=k:=by simp;omega
    have hge:(t.args.map (app σ)).getD k default=app σ (t.args.getD k default):=by
     simp[List.getD_eq_getElem?_getD,hk]
    have hc:=ih _ (hn _ hme) (BJ ht hme) (Ep hw hme)
    rw[Aa hk2,hge]at ih2
    refine A8.2 ?_
    push_cast[BT hk]
    refine⟨⟨?_,?_⟩,?_⟩
    all_goals
     refine Nu (J:=[_,_,_,_]) (by push_cast[p2]) hc ?_
     push_cast[hlt,U9 (show k<2^40 by omega) (show 48<=64 by omega),CV (show k<2^62 by omega)]
     push_cast at ih2
     exact ih2
   ·refine A8.2 ?_
    push_cast[B8 (Nat.le_refl _)]
    rw[List.take_of_length_le (by simp)]
    refine An (H:=uH m d) (J:=[_,_,_]) (GO m d) rfl ⟨?_,rfl⟩
    push_cast[EG.rs]
    rw[Ap,OV];rfl
abbrev MM:=List (A9×(Nat×Nat))
def ED (p:Nat×Nat):V:=.agg [.int .i64 p.1,.int .i64 p.2]
theorem mu {σ:Nat->Option Nat}(m:MM):((Bk ED m).map fun p=>(ren σ p.1,ren σ p.2))=Bk ED m:=ST (fun x=>rfl) m
attribute [push_cast] mu
def gn (σ:EE)(t:Term):Nat×Nat:=(min (size (app σ t)) 4001,depth (app σ t))
def du (σ:EE)(kn:MM):Prop:=∀ v p,C8 kn v=some p->p=gn σ (BZ v)
abbrev uz (m:TM)(d:DM)(kn:MM)(J:List Ob):List Ob:=Sl m d (.map (Bk ED kn)::J)
abbrev kH (m:TM)(d:DM)(kn:MM):List Ob:=uz m d kn []
theorem bc (m:TM)(d:DM)(kn:MM):IU 4 (kH m d kn):=⟨rfl,by
 show [A5 (AM 4) (.map (Bk Ap m)),A5 (AM 4) (.map (GC Fl d)),A5 (AM 4) (.cells B4 [.map 0,.map 1]),A5 (AM 4) (.map (Bk ED kn))]=_
 have h0:AM 4 0=some 0:=rfl
 have h1:AM 4 1=some 1:=rfl
 push_cast[h0,h1]⟩
theorem AaY (m:TM)(d:DM)(kn kn':MM)(J:List Ob):takeB [0,1,2,3] (uz m d kn J) (kH m d kn')=uz m d kn' J:=by
 apply List.ext_getElem?
 intro i
 rw[DK (by simp)]
 have h0:∀ n,BY [0,1,2,3] n 0=some 0:=fun _=>rfl
 have h1:∀ n,BY [0,1,2,3] n 1=some 1:=fun _=>rfl
 match i with
 | 0=>rw[if_pos (by simp)];show some (A5 _ (.map (Bk Ap m)))=some _;push_cast
 | 1=>rw[if_pos (by simp)];show some (A5 _ (.map (GC Fl d)))=some _;push_cast
 | 2=>rw[if_pos (by simp)];show some (A5 _ (.cells B4 [.map 0,.map 1]))=some _;push_cast[h0,h1]
 | 3=>rw[if_pos (by simp)];show some (A5 _ (.map (Bk ED kn')))=some _;push_cast
 | i+4 =>
  have hp:Ay [0,1,2,3] (i+4)=none:=by simp[Ay,List.findIdx?_cons]
  by_cases h:i<J.length
  ·rw[if_pos (by simp;omega),hp]
   simp[List.getD_eq_getElem?_getD,h]
  ·rw[if_neg (by simp;omega)]
   have e1:(uz m d kn' J)[i+4]?=none:=List.getElem?_eq_none (by simp;omega)
   have e2:(kH m d kn')[[0,1,2,3].length+(i+4-(uz m d kn J).length)]?=none:=List.getElem?_eq_none (by simp)
   rw[e1,e2];rfl
theorem Aad (m:TM)(d:DM)(kn:MM)(J:List Ob):give [0,1,2,3] (uz m d kn J)=kH m d kn:=by
 show [A5 (Ay [0,1,2,3]) (.map (Bk Ap m)),A5 (Ay [0,1,2,3]) (.map (GC Fl d)),A5 (Ay [0,1,2,3]) (.cells B4 [.map 0,.map 1]),A5 (Ay [0,1,2,3]) (.map (Bk ED kn))]=_
 have h0:Ay [0,1,2,3] 0=some 0:=rfl
 have h1:Ay [0,1,2,3] 1=some 1:=rfl
 push_cast[h0,h1]
theorem lB {N:Nat->C}{B:Nat}{k:List K}{t:T}{Q:X->T->List Ob->Prop}{dd:Option Nat}{l:List S}{f:Nat}{z:Term}{m:TM}{d:DM}{kn:MM}{J:List Ob}{R:V->MM->Prop}
  (h:Spec prog f [.ptr 2 0,Ap z,.map 3] (kH m d kn) fun x' H'=>∃ kn',R x' kn'/\H'=kH m d kn') (k':∀ x' kn',R x' kn'->AB prog N B (.r l::k) (FK dd (ren (BY [0,1,2,3] (J.length+4)) x') t) (uz m d kn' J) Q):By prog N B dd l k t Q (.func f) [.ptr 2 0,Ap z,.map 3] (uz m d kn J):=by
 have h2:Ay [0,1,2,3] 2=some 2:=rfl
 have h3:Ay [0,1,2,3] 3=some 3:=rfl
 refine By.some [0,1,2,3] (by simp) (by simp) (R:=fun x' H'=>∃ kn',R x' kn'/\H'=kH m d kn') (by rw[Aad];push_cast[h2,h3];exact h) ?_
 rintro x' H' ⟨kn',hr,rfl⟩ _
 rw[AaY];exact k' x' kn' hr
theorem VH {s:List A6}{σ:EE}{rk:A9->Nat}(hu:FU s σ rk){m:TM}{d:DM}(hm:∀ v,C8 m v=Ae s v)(hwb:WB s):∀ (n:Nat)(t:Term)(kn:MM),FT s n t->vfl t=true->Di t<2^40->depth (app σ t)<2^60->du σ kn ->
  Spec prog Cv [.ptr 2 0,Ap t,.map 3] (kH m d kn) fun x H'=>∃ kn',(x=ED (gn σ t)/\du σ kn')/\H'=kH m d kn':=by
 intro n
 induction n with
 | zero=>intro t kn h;exact h.elim
 | succ n ih =>
  intro t kn hn ht hw hdp hkn
  simp only[FT]at hn
  refine AK mixed CW.ok rfl ?_
  cases hv:t.var with
  | true =>
   rw[if_pos hv]at hn
   rw[Aw hv]at hdp
   cases hi:Ae s t.name with
   | none =>
    have e:gn σ t=(1,1):=by
     unfold gn
     rw[Aw hv,hu.free _ hi];rfl
    rw[e]
    push_cast[hv,W9 hm hi]
    exact An (H:=kH m d kn) (J:=[_,_]) (bc m d kn) rfl ⟨kn,⟨rfl,hkn⟩,rfl⟩
   | some x =>
    have hlk:∀ l,_:=fun l=>KV ED kn t.name true (.agg [.int .i64 0,.int .i64 0]) (H:=uz m d kn l) (i:=3) rfl
    have e:gn σ t=gn σ x:=by
     unfold gn
     rw[Aw hv,hu.fix _ _ hi]
    have e2:gn σ (BZ t.name)=gn σ t:=by
     unfold gn
     rw[Aw (t:=BZ t.name) rfl,Aw hv];rfl
    generalize hp:gn σ t=p at e e2
    have hp':gn σ x=p:=e.symm
    obtain⟨p1,p2⟩:=p
    cases hg:C8 kn t.name with
    | some q =>
     have hq:=hkn _ _ hg
     rw[e2]at hq
     subst hq
     rw[hg]at hlk
     simp only[Option.map_some,Option.getD_some,Option.isSome_some,if_true,ED]at hlk
     push_cast[hv,Qx hm hi,hlk]
     exact An (H:=kH m d kn) (J:=[_,_,_]) (bc m d kn) rfl ⟨kn,⟨rfl,hkn⟩,rfl⟩
    | none =>
     rw[hg]at hlk
     simp only[Option.map_none,Option.getD_none,Option.isSome_none,if_true]at hlk
     have hc:=ih x kn (hn x hi) (hu.vf _ _ hi) (hwb _ _ hi) (by rw[<-hu.fix _ _ hi];exact hdp) hkn
     rw[hp']at hc
     push_cast[hv,Qx hm hi,hlk]
     refine lB (R:=fun x' kn'=>x'=ED (p1,p2)/\du σ kn') (J:=[_,_,_]) hc ?_
     rintro x' kn' ⟨rfl,hkn'⟩
     have hup:WK (.str t.name) (.agg [.int .i64 p1,.int .i64 p2]) (Bk ED kn')=some (Bk ED (Fa kn' t.name (p1,p2))):=PQ ED kn' t.name (p1,p2)
     push_cast[ED,hup]
     refine⟨rfl,An (H:=kH m d (Fa kn' t.name (p1,p2))) (J:=[_,_,_,_]) (bc m d _) rfl ⟨_,⟨rfl,fun w q hq=>?_⟩,rfl⟩⟩
     rw[HK]at hq
     by_cases ew:t.name=w
     ·rw[if_pos ew]at hq
      cases hq
      rw[<-ew];exact e2.symm
     ·rw[if_neg ew]at hq;exact hkn' w q hq
  | false =>
   rw[if_neg (by simp[hv])]at hn
   have hwa:=E9 t
   have happ:=Ba (f:=σ) hv
   generalize hL:t.args.map (app σ)=L at happ
   have hLl:L.length=t.args.length:=by rw[<-hL];simp
   have hsz:size (app σ t)=1+Ac L:=by rw[happ];rfl
   have hdz:depth (app σ t)=AC L+1:=by rw[happ];rfl
   push_cast[hv]
   refine Ad (n:=t.args.length) (R:=fun k=>∀ (kn':MM)(c e:Nat),du σ kn'->c=min (1+Ac (L.take k)) 4001->e=AC (L.take k)->CW.L3 (.ptr 2 0) (.map 3) (.ptr 4 0) (.ptr 5 0) (Bg t.args) (.int .i64 t.args.length) (.int .i64 k) 4
    (uz m d kn' [.cells DG [.int .i64 0,.int .i64 0],.cells DG [.int .i64 c,.int .i64 e]]) (Bx 4 CW.rs fun x H'=>∃ kn',(x=ED (gn σ t)/\du σ kn')/\H'=kH m d kn')) ?_ ?_ 0 (by omega) kn 1 0 hkn (by simp[Ac]) (by simp[AC])
   ·intro k hk ih2 kn' c e hkn' hc he
    have hme:=A4 hk
    have hk2:k<L.length:=by omega
    have hge:L.getD k default=app σ (t.args.getD k default):=by
     rw[<-hL];simp[List.getD_eq_getElem?_getD,hk]
    have hmL:=A4 hk2
    have hdl:depth (app σ (t.args.getD k default))<=AC L:=by rw[<-hge];exact Ld hmL
    have hcall:=ih (t.args.getD k default) kn' (hn _ hme) (BJ ht hme) (Ep hw hme) (by omega) hkn'
    have hp1:gn σ (t.args.getD k default)=(min (size (L.getD k default)) 4001,depth (L.getD k default)):=by rw[hge];rfl
    rw[hp1]at hcall
    generalize hq1:min (size (L.getD k default)) 4001=a1 at hcall
    generalize hq2:depth (L.getD k default)=b1 at hcall
    have hw1:IntKind.i64.wrap ((c:Int)+(a1:Int))=(c:Int)+a1:=Bs (by omega) (by omega)
    refine A8.2 ?_
    push_cast[BT hk]
    refine lB (R:=fun x' kn'=>x'=ED (a1,b1)/\du σ kn') (J:=[_,_,_]) hcall ?_
    rintro x' kn1 ⟨rfl,hkn1⟩
    obtain⟨c1,hc1⟩:∃ c1,c1=min (c+a1) 4001:=⟨_,rfl⟩
    obtain⟨e1,he1⟩:∃ e1,e1=max e b1:=⟨_,rfl⟩
    have this:=ih2 kn1 c1 e1 hkn1 (by rw[Aa hk2,Ci,hc1,hc,<-hq1];simp only[Ac];omega) (by rw[Aa hk2,Ey,he1,he,<-hq2];simp[AC])
    have hmn:(if (4001:Int)<(c:Int)+(a1:Int) then (4001:Int) else (c:Int)+(a1:Int))=(c1:Int):=by
     split<;>omega
    have hmx:(if (e:Int)<(b1:Int) then (b1:Int) else (e:Int))=(e1:Int):=by
     split<;>omega
    push_cast[ED,hw1,hmn,hmx,<-he1,CV (show k<2^62 by omega)]
    push_cast[ED]at this
    exact this
   ·intro kn' c e hkn' hc he
    rw[List.take_of_length_le (by omega)]at hc he
    refine A8.2 ?_
    push_cast[B8 (Nat.le_refl _),CV (show e<2^62 by omega)]
    refine An (H:=kH m d kn') (J:=[_,_]) (bc m d kn') rfl ⟨kn',⟨?_,hkn'⟩,rfl⟩
    push_cast[CW.rs]
    unfold gn ED
    rw[hsz,hdz,<-hc,<-he]
    push_cast
end Go.Dw
