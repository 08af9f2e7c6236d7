/-
  Contracts and lemmas for ResidualDivides: part h of 10.
-/
import Derived.Test.YtkdcfkfdkimaeaaGreatDoorVag
import Derived.Test.YtkdcfkfdkimaeaaGreatDoorVaf
import Derived.WalkKit
import Derived.Laws.MathBits
import Derived.Test.YtkdcfkfdkimaeaaGreatDoorVad
import Derived.Test.YtkdcfkfdkimaeaaGreatDoorVae
set_option linter.unusedVariables false
set_option linter.unusedSimpArgs false
set_option maxRecDepth 100000
section
namespace Go.Dw
theorem Zp {σ:EE}{M:Nat}(t:Term):(∀ w,Cz w t=true->depth (σ w)<=M)->depth (app σ t)<=depth t+M:=by
 induction t using Ag with
 | h t ih =>
 intro h
 cases hv:t.var with
 | true =>
  rw[Aw hv]
  have:=h _ (AE.2 (.inl ⟨hv,rfl⟩))
  omega
 | false =>
  rw[Ba hv,Fg,Fg t]
  show AC (t.args.map (app σ))+1<=AC t.args+1+M
  have key:∀ l:List Term,(∀ a∈l,a∈t.args)->AC (l.map (app σ))<=AC l+M:=by
   intro l
   induction l with
   | nil=>intro _;simp[AC]
   | cons a l ihl =>
    intro hl
    have h1:=ih a (hl a (by simp)) fun w hw=>h w (AE.2 (.inr ⟨a,hl a (by simp),hw⟩))
    have h2:=ihl fun b hb=>hl b (by simp[hb])
    simp only[List.map_cons,AC]
    omega
  have:=key t.args fun _ h=>h
  omega
theorem aA {α:Type}{p q:α->Bool}:∀ {l:List α} {x:α},x∈l->(∀ y,p y=true->q y=true)->q x=true->p x=false->l.countP p<l.countP q
 | [],x,h,_,_,_=>by cases h
 | y::l,x,h,hpq,hq,hp=>by
  have hle:l.countP p<=l.countP q:=List.countP_mono_left fun z _=>hpq z
  simp only[List.countP_cons]
  rcases List.mem_cons.1 h with rfl | h
  ·rw[hq,hp];simp;omega
  ·have:=aA h hpq hq hp
   have h2:(if p y=true then 1 else 0)<=(if q y=true then 1 else 0):=by
    by_cases hy:p y=true
    ·rw[if_pos hy,if_pos (hpq y hy)];exact Nat.le_refl _
    ·rw[if_neg hy];exact Nat.zero_le _
   omega
def eE (s:List A6)(rk:A9->Nat)(v:A9):Nat:=s.countP fun b=>decide (rk b.name<=rk v)
theorem pX (s:List A6)(rk:A9->Nat)(v:A9):eE s rk v<=s.length:=List.countP_le_length
theorem Hv {s:List A6}{v:A9}{t:Term}(h:Ae s v=some t):⟨v,t⟩∈s:=by
 obtain⟨b,hb,h1,h2⟩:=Uh h
 subst h1;subst h2;exact hb
theorem FU.cnt_lt {s:List A6}{σ:EE}{rk:A9->Nat}(h:FU s σ rk){v w:A9}{t:Term}(hi:Ae s v=some t)(hw:Cz w t=true):eE s rk w<eE s rk v:=by
 have:=h.low v t hi w hw
 refine aA (Hv hi) (fun y hy=>?_) (by simp) (by simp;exact this)
 simp only[decide_eq_true_eq]at hy ⊢
 omega
theorem FU.deep {s:List A6}{σ:EE}{rk:A9->Nat}(h:FU s σ rk){D:Nat}(hD:∀ v t,Ae s v=some t->depth t<=D):∀ v,depth (σ v)<=eE s rk v*D+1:=by
 refine h.ind fun v ih=>?_
 cases hi:Ae s v with
 | none=>rw[h.free v hi];show depth (BZ v)<=_;simp[BZ,depth,AC]
 | some t =>
  rw[h.fix v t hi]
  obtain⟨c,hc⟩:∃ c,eE s rk v=c+1\/eE s rk v=0:=by
   cases hz:eE s rk v with
   | zero=>exact⟨0,.inr rfl⟩
   | succ c=>exact⟨c,.inl rfl⟩
  rcases hc with hc | hc
  ·have h1:=Zp (σ:=σ) (M:=c*D+1) t fun w hw=>by
    have h2:=ih t w hi hw
    have h3:=h.cnt_lt hi hw
    have h4:eE s rk w*D<=c*D:=Nat.mul_le_mul_right D (by omega)
    omega
   have h2:=hD v t hi
   rw[hc,Nat.succ_mul]
   omega
  ·have h1:=Zp (σ:=σ) (M:=0) t fun w hw=>by
    have h3:=h.cnt_lt hi hw
    omega
   exfalso
   have:0<eE s rk v:=List.countP_pos_iff.2 ⟨_,Hv hi,by simp⟩
   omega
theorem WS:∀ {a b:List A6},DE a->DE b->(∀ x,x∈a↔x∈b)->a=b
 | [],[],_,_,_=>rfl
 | [],y::b,_,_,h=>by have:=(h y).2 (by simp);cases this
 | x::a,[],_,_,h=>by have:=(h x).1 (by simp);cases this
 | x::a,y::b,ha,hb,h=>by
  obtain⟨h1,h2⟩:=List.pairwise_cons.1 ha
  obtain⟨h3,h4⟩:=List.pairwise_cons.1 hb
  have e:x=y:=by
   rcases List.mem_cons.1 ((h x).1 (by simp))with e | hx
   ·exact e
   ·rcases List.mem_cons.1 ((h y).2 (by simp))with e | hy
    ·exact e.symm
    ·exact absurd (Nd (h1 y hy) (h3 x hx)) (Dr _)
  subst e
  congr 1
  refine WS h2 h4 fun z=>⟨fun hz=>?_,fun hz=>?_⟩
  ·rcases List.mem_cons.1 ((h z).1 (by simp[hz]))with e | h
   ·subst e;exact absurd (h1 z hz) (Dr _)
   ·exact h
  ·rcases List.mem_cons.1 ((h z).2 (by simp[hz]))with e | h
   ·subst e;exact absurd (h3 z hz) (Dr _)
   ·exact h
abbrev cV (m:TM)(d:DM)(out:List A6)(kn:MM)(J:List Ob):List Ob:=Sl m d (Pg out::.map (Bk ED kn)::J)
theorem AaX (m:TM)(d:DM)(out:List A6)(kn kn':MM)(J:List Ob):takeB [0,1,2,4] (cV m d out kn J) (kH m d kn')=cV m d out kn' J:=by
 apply List.ext_getElem?
 intro i
 rw[DK (by simp)]
 have h0:∀ n,BY [0,1,2,4] n 0=some 0:=fun _=>rfl
 have h1:∀ n,BY [0,1,2,4] n 1=some 1:=fun _=>rfl
 match i with
 | 0=>rw[if_pos (by simp)];show some (A5 _ (.map (Bk Ap m)))=some _;push_cast
 | 1=>rw[if_pos (by simp)];show some (A5 _ (.map (GC Fl d)))=some _;push_cast
 | 2=>rw[if_pos (by simp)];show some (A5 _ (.cells B4 [.map 0,.map 1]))=some _;push_cast[h0,h1]
 | 3=>rw[if_pos (by simp)];rfl
 | 4=>rw[if_pos (by simp)];show some (A5 _ (.map (Bk ED kn')))=some _;push_cast
 | i+5 =>
  have hp:Ay [0,1,2,4] (i+5)=none:=by simp[Ay,List.findIdx?_cons]
  by_cases h:i<J.length
  ·rw[if_pos (by simp;omega),hp]
   simp[List.getD_eq_getElem?_getD,h]
  ·rw[if_neg (by simp;omega)]
   have e1:(cV m d out kn' J)[i+5]?=none:=List.getElem?_eq_none (by simp;omega)
   have e2:(kH m d kn')[[0,1,2,4].length+(i+5-(cV m d out kn J).length)]?=none:=List.getElem?_eq_none (by simp)
   rw[e1,e2];rfl
theorem Aau (m:TM)(d:DM)(out:List A6)(kn:MM)(J:List Ob):give [0,1,2,4] (cV m d out kn J)=kH m d kn:=by
 show [A5 (Ay [0,1,2,4]) (.map (Bk Ap m)),A5 (Ay [0,1,2,4]) (.map (GC Fl d)),A5 (Ay [0,1,2,4]) (.cells B4 [.map 0,.map 1]),A5 (Ay [0,1,2,4]) (.map (Bk ED kn))]=_
 have h0:Ay [0,1,2,4] 0=some 0:=rfl
 have h1:Ay [0,1,2,4] 1=some 1:=rfl
 push_cast[h0,h1]
theorem AaW (m:TM)(d:DM)(out out':List A6)(kn:MM)(J:List Ob):takeB [3] (cV m d out kn J) [Pg out']=cV m d out' kn J:=by
 apply List.ext_getElem?
 intro i
 rw[DK (by simp)]
 match i with
 | 0=>rw[if_pos (by simp)];rfl
 | 1=>rw[if_pos (by simp)];rfl
 | 2=>rw[if_pos (by simp)];rfl
 | 3=>rw[if_pos (by simp)];show some (A5 _ (Pg out'))=some _;rw[Lj,Tz]
 | i+4 =>
  have hp:Ay [3] (i+4)=none:=by simp[Ay,List.findIdx?_cons]
  by_cases h:i+4<(cV m d out kn J).length
  ·rw[if_pos h,hp]
   simp only[List.length_cons]at h
   have h2:i+1<(Ob.map (Bk ED kn)::J).length+1:=by simp;omega
   simp only[List.getD_eq_getElem?_getD,List.getElem?_cons_succ]
   cases hx:(Ob.map (Bk ED kn)::J)[i]? with
   | none=>rw[List.getElem?_eq_none_iff]at hx;simp at hx;omega
   | some y=>rfl
  ·rw[if_neg h]
   have e1:(cV m d out' kn J)[i+4]?=none:=List.getElem?_eq_none (by simp at h ⊢;omega)
   have e2:([Pg out']:List Ob)[[3].length+(i+4-(cV m d out kn J).length)]?=none:=List.getElem?_eq_none (by simp)
   rw[e1,e2];rfl
theorem zQ (m:TM)(d:DM)(out:List A6)(kn:MM)(J:List Ob):give [3] (cV m d out kn J)=[Pg out]:=by
 show [A5 (Ay [3]) (Pg out)]=_
 rw[Lj,Tz]
section
variable {N:Nat->C} {B:Nat} {k:List K} {t:T} {Q:X->T->List Ob->Prop} {dd:Option Nat} {l:List S} {f:Nat} {m:TM} {d:DM} {out out':List A6} {kn:MM} {J:List Ob}
theorem wx {z:Term}{R:V->MM->Prop}(h:Spec prog f [.ptr 2 0,Ap z,.map 3] (kH m d kn) fun x' H'=>∃ kn',R x' kn'/\H'=kH m d kn')(k':∀ x' kn',R x' kn'->AB prog N B (.r l::k) (FK dd (ren (BY [0,1,2,4] (J.length+5)) x') t) (cV m d out kn' J) Q):By prog N B dd l k t Q (.func f) [.ptr 2 0,Ap z,.map 4] (cV m d out kn J):=by
 have h2:Ay [0,1,2,4] 2=some 2:=rfl
 have h3:Ay [0,1,2,4] 4=some 3:=rfl
 refine By.some [0,1,2,4] (by simp) (by simp) (R:=fun x' H'=>∃ kn',R x' kn'/\H'=kH m d kn') (by rw[Aau];push_cast[h2,h3];exact h) ?_
 rintro x' H' ⟨kn',hr,rfl⟩ _
 rw[AaX];exact k' x' kn' hr
theorem xU {v:A9}{z:Term}{n:Nat}(h:Spec prog f [.rw 0 4 n,.str v,Ap z] [Pg out] fun x' H'=>x'=.rw 0 4 (n+1)/\H'=[Pg out'])(k':AB prog N B (.r l::k) (FK dd (.rw 3 4 (n+1)) t) (cV m d out' kn J) Q):By prog N B dd l k t Q (.func f) [.rw 3 4 n,.str v,Ap z] (cV m d out kn J):=by
 have h3:Ay [3] 3=some 0:=rfl
 have h0:∀ n,BY [3] n 0=some 3:=fun _=>rfl
 refine By.some [3] (by simp) (by simp) (R:=fun x' H'=>x'=.rw 0 4 (n+1)/\H'=[Pg out']) (by rw[zQ];push_cast[h3];exact h) ?_
 rintro x' H' ⟨rfl,rfl⟩ _
 rw[AaW];push_cast[h0];exact k'
end
end Go.Dw
end
section
namespace Go.Dw
theorem ff {s:List A6}(hs:DE s){v:A9}(h:∀ b∈s,b.name≠v):Ae s v=none:=by
 cases hi:Ae s v with
 | none=>rfl
 | some t=>exact absurd rfl (h _ (Hv hi))
theorem lK {s:List A6}{v:A9}{t:Term}{b:A6}:b∈FS s v t↔b∈s\/b=⟨v,t⟩:=by
 constructor
 ·exact nv
 ·intro h
  unfold FS
  rw[List.mem_append,List.mem_cons]
  rcases h with h | h
  ·rw[<-List.take_append_drop (IT v s) s,List.mem_append]at h
   rcases h with h | h
   ·exact .inl h
   ·exact .inr (.inr h)
  ·exact .inr (.inl h)
theorem sZ {s:List A6}{m:TM}(h:MR s m)(hs:DE s):m.length<=s.length:=by
 have h1:(m.map (·.1)).Nodup:=h.2
 have h2:=h1.length_le_of_subset (l₂:=s.map (·.name)) fun v hv=>by
  obtain⟨p,hp,rfl⟩:=List.mem_map.1 hv
  have h3:=Vd h.2 (k:=p.1) (x:=p.2) hp
  rw[h.1]at h3
  exact List.mem_map.2 ⟨_,Hv h3,rfl⟩
 simpa using h2
section
variable {s:List A6} {σ:EE} {rk:A9->Nat} (hu:FU s σ rk) {m:TM} {d:DM} (hm:MR s m) (hwb:WB s) {D:Nat} (hD:∀ v,depth (σ v)<=D) (hDb:D < 2^60) (hlen:s.length < 2^38)
include hu hm hwb hD hDb hlen
theorem ep (hsig:SW s=σ):CO.L3 (.ptr 2 0) (.rw 3 4 0) (.map 4) (.it 5) 0 (cV m d [] [] [.iter (some 0) m.length []]) (Bx 0 CO.rs fun x H'=>x=(if Fw s then .tup [Bi [],.bool false,.int .i64 3] else .tup [Bi (Ds s),.bool true,.int .i64 0])/\H'=[]):=by
 have hml:=sZ hm hu.srt
 have hel:(Bk Ap m).length=m.length:=Tx _ _
 have hkey:∀ {i j:Nat},i<m.length->j<m.length->(m.getD i default).1=(m.getD j default).1->i=j:=fun {i j} hi hj e=>by
  have h1:(m.map (·.1)).Nodup:=hm.2
  have:=(List.getElem_inj (i:=i) (j:=j) (h₀:=by simpa using hi) (h₁:=by simpa using hj) h1).1
  simp only[List.getElem_map]at this
  exact this (by simpa[List.getD_eq_getElem?_getD,hi,hj]using e)
 have himg:∀ {i:Nat},i<m.length->Ae s (m.getD i default).1=some (m.getD i default).2:=fun {i} hi=>by
  rw[<-hm.1]
  exact Vd hm.2 (A4 hi)
 refine qr m.length (fun seen=>∀ (out:List A6)(kn:MM),DE out->out.length=seen.length->(∀ b,b∈out↔∃ i∈seen,b=⟨(m.getD i default).1,σ (m.getD i default).1⟩)->(∀ i∈seen,BO (σ (m.getD i default).1)=true)->du σ kn ->
  CO.L3 (.ptr 2 0) (.rw 3 4 seen.length) (.map 4) (.it 5) 0 (cV m d out kn [.iter (some 0) m.length seen]) (Bx 0 CO.rs fun x H'=>x=(if Fw s then .tup [Bi [],.bool false,.int .i64 3] else .tup [Bi (Ds s),.bool true,.int .i64 0])/\H'=[])) ?_ [] [] List.Pairwise.nil rfl (by simp) (by simp) (fun v p h=>by cases h)
 intro seen hnd hlt hl ih out kn hso hlo hmem hfit hkn
 refine A8.2 ?_
 push_cast
 refine be 0 m.length seen (Bk Ap m) rfl rfl hel.symm (fun hall=>?_) (fun k p hp hk=>?_)
 ·have hout:out=Ds s:=by
   refine WS hso ?_ fun x=>?_
   ·unfold Ds DE
    rw[List.pairwise_map]
    exact hu.srt
   ·rw[hmem]
    unfold Ds
    rw[List.mem_map,hsig]
    constructor
    ·rintro ⟨i,hi,rfl⟩
     exact⟨_,Hv (himg (hlt i hi)),rfl⟩
    ·rintro ⟨b,hb,rfl⟩
     have h1:=Fm hu.srt hb
     rw[<-hm.1]at h1
     obtain⟨i,hi,e⟩:=List.getElem_of_mem (oR h1)
     refine⟨i,hall i hi,?_⟩
     have:(m.getD i default)=(b.name,b.term):=by simp[List.getD_eq_getElem?_getD,hi,e]
     rw[this]
  have hhu:Fw s=false:=by
   unfold Fw
   rw[List.any_eq_false]
   intro b hb
   have h1:(⟨b.name,σ b.name⟩:A6)∈out:=by
    rw[hout];unfold Ds;rw[hsig];exact List.mem_map_of_mem (f:=fun b:A6=>(⟨b.name,σ b.name⟩:A6)) hb
   obtain⟨i,hi,e⟩:=(hmem _).1 h1
   have:=hfit i hi
   injection e with e1 e2
   rw[hsig,e2,this];simp
  rw[hhu]
  have hlo':(Ds s).length=seen.length:=by rw[<-hout,hlo]
  rw[hout]
  push_cast
  exact⟨by simp[hlo'],A1 (by push_cast[CO.rs];rfl)⟩
 ·have hkl:k<m.length:=by rw[<-hel];exact (List.getElem?_eq_some_iff.1 hp).1
  have hpe:p=(.str (m.getD k default).1,Ap (m.getD k default).2):=by
   unfold Bk at hp
   rw[List.getElem?_map]at hp
   simp[hkl]at hp
   rw[<-hp];simp[List.getD_eq_getElem?_getD,hkl]
  subst hpe
  have hi:=himg hkl
  have hen:∀ (J:List Ob),vy (cV m d out kn (.iter (some 0) m.length (seen++[k])::J)) (.it 5)=some (.tup [.str (m.getD k default).1,Ap (m.getD k default).2]):=fun J=>by
   simp[vy,hel,hp]
  generalize hv:(m.getD k default).1=v at hi hen
  obtain⟨n,hn⟩:=hu.need (BZ v)
  have hdv:depth (app σ (BZ v))<=D:=by rw[Aw rfl];exact hD v
  have hM:=VH hu (d:=d) hm.1 hwb n (BZ v) kn hn rfl (by simp[BZ,Di,K1]) (by omega) hkn
  have hW:=YW hu (d:=d) hm.1 hwb n (BZ v) hn rfl (by simp[BZ,Di,K1])
  rw[Aw (t:=BZ v) rfl]at hW
  have hz:V.agg [.str v,.bool true,.sl 3 []]=Ap (BZ v):=rfl
  have hmt:gn σ (BZ v)=(min (size (σ v)) 4001,depth (σ v)):=by unfold gn;rw[Aw (t:=BZ v) rfl];rfl
  rw[hmt]at hM
  have hfe:BO (σ v)=(decide (size (σ v)<=4000)&&decide (depth (σ v)<=200)):=rfl
  generalize hp1:min (size (σ v)) 4001=p1 at hM
  generalize hp2:depth (σ v)=p2 at hM hfe
  push_cast[hen]
  rw[hz]
  refine wx (J:=[_,_]) (R:=fun x' kn'=>x'=ED (p1,p2)/\du σ kn') hM ?_
  rintro x' kn' ⟨rfl,hkn'⟩
  by_cases hf:BO (σ v)=true
  ·have hf2:=hf
   rw[hfe,Bool.and_eq_true,decide_eq_true_eq,decide_eq_true_eq]at hf2
   have c1:((4000:Int)<(p1:Int))=False:=eq_false (by omega)
   have c2:((200:Int)<(p2:Int))=False:=eq_false (by omega)
   push_cast[ED,c1,c2]
   rw[hz]
   have p2':Ay [0,1,2] 2=some 2:=rfl
   refine Nu (J:=[_,_,_,_,_]) (by push_cast[p2']) hW ?_
   push_cast
   rw[<-hlo]
   refine xU (J:=[_,_,_]) (Y8 out v _ hso (by omega)) ?_
   have hnew:Ae out v=none:=ff hso fun b hb e=>by
    obtain⟨i,hi2,rfl⟩:=(hmem b).1 hb
    have:=hkey (hlt i hi2) hkl (e.trans hv.symm)
    exact hk (this▸hi2)
   have:=ih k hkl hk (FS out v (σ v)) kn' (Tt hso hnew) (by rw[aB,hlo];simp) (fun b=>by
    rw[lK,hmem]
    constructor
    ·rintro (⟨i,hi2,rfl⟩ | rfl)
     ·exact⟨i,by simp[hi2],rfl⟩
     ·exact⟨k,by simp,by rw[hv]⟩
    ·rintro ⟨i,hi2,rfl⟩
     rcases List.mem_append.1 hi2 with h | h
     ·exact .inl ⟨i,h,rfl⟩
     ·rw[List.mem_singleton.1 h];exact .inr (by rw[hv])) (fun i hi2=>by
    rcases List.mem_append.1 hi2 with h | h
    ·exact hfit i h
    ·rw[List.mem_singleton.1 h,hv];exact hf) hkn'
   have hsl:(seen++[k]).length=out.length+1:=by simp[hlo]
   rw[hsl]at this
   push_cast
   push_cast at this
   exact this
  ·have hhu:Fw s=true:=by
    unfold Fw
    rw[List.any_eq_true]
    refine⟨_,Hv hi,?_⟩
    rw[hsig];simp[hf]
   rw[hhu,if_pos rfl]
   have hf2:¬ (size (σ v)<=4000/\p2<=200):=fun h=>hf (by rw[hfe];simp[h])
   by_cases h1:size (σ v)<=4000
   ·have c1:((4000:Int)<(p1:Int))=False:=eq_false (by omega)
    have c2:((200:Int)<(p2:Int))=True:=eq_true (by omega)
    push_cast[ED,c1,c2]
    exact A1 (by push_cast[CO.rs];rfl)
   ·have c1:((4000:Int)<(p1:Int))=True:=eq_true (by omega)
    push_cast[ED,c1]
    exact A1 (by push_cast[CO.rs];rfl)
end
def J1 (r:List A6×Bool×Int):V:=.tup [Bi r.1,.bool r.2.1,.int .i64 r.2.2]
structure cr (l:List A2) (Vs:List A9) (D:Nat):Prop where
 am:∀ x∈l,BX Vs x.left/\BX Vs x.right
 wd:∀ x∈l,Di x.left<2^40/\Di x.right<2^40
 dp:∀ x∈l,depth x.left<=D/\depth x.right<=D
 vs:Vs.length<2^28
 hd:D<2^28
 len:l.length<2^40
theorem YU (l:List A2)(Vs:List A9)(D:Nat)(h:cr l Vs D):PF JI [Ak l] (J1 (K0 (l.map (·.left)) (l.map (·.right)))):=by
 obtain⟨n,r,hr⟩:=IB Vs (l.map (·.left)) (l.map (·.right)) [] BZ (fun _=>0) FU.nil (fun v t h=>by cases h) (by simp only[List.mem_map];rintro z ⟨x,hx,rfl⟩;exact (h.am x hx).1) (by simp only[List.mem_map];rintro z ⟨x,hx,rfl⟩;exact (h.am x hx).2)
 have hS:=Nr hr
 have hlv:=h.len
 have p2:Ay [0,1,2] 2=some 2:=rfl
 refine Ab CO.ok rfl ?_
 push_cast
 refine Ad (n:=l.length) (R:=fun k=>∀ (s:List A6)(σ:EE)(rk:A9->Nat)(m:TM)(d:DM),FU s σ rk->MR s m->WB s->(∀ v t,Ae s v=some t->depth t<=D)->(∀ v t,Ae s v=some t->BX Vs t/\v∈Vs)->(∀ k,(C8 d k).isSome=true->Pt s k) ->
   AF (AZ n) s ((l.map (·.left)).drop k) ((l.map (·.right)).drop k)=some r->CO.L7 (.ptr 2 0) (Ak l) (.int .i64 l.length) (.int .i64 k) 0 (Sl m d []) (Bx 0 CO.rs fun x H'=>x=J1 (K0 (l.map (·.left)) (l.map (·.right)))/\H'=[])) ?_ ?_ 0 (by omega)
  [] BZ (fun _=>0) [] [] FU.nil ⟨fun v=>rfl,List.nodup_nil⟩ (fun v t h=>by cases h) (fun v t h=>by cases h) (fun v t h=>by cases h) (fun k h=>by cases h) hr
 ·intro k hk ih s σ rk m d hu hm hwb hdp ham hdone hsol
  have hme:=A4 hk
  have e1:(l.map (·.left)).getD k default=(l.getD k default).left:=by simp[List.getD_eq_getElem?_getD,hk]
  have e2:(l.map (·.right)).getD k default=(l.getD k default).right:=by simp[List.getD_eq_getElem?_getD,hk]
  rw[Al (show k<(l.map (·.left)).length by simpa using hk),Al (show k<(l.map (·.right)).length by simpa using hk),e1,e2]at hsol
  generalize hx:l.getD k default=x at hme hsol
  obtain⟨hal,har⟩:=h.am x hme
  obtain⟨hwl,hwr⟩:=h.wd x hme
  obtain⟨hdl,hdr⟩:=h.dp x hme
  simp only[AF]at hsol
  cases hf:AZ n s x.left x.right with
  | none=>rw[hf]at hsol;cases hsol
  | some p =>
   obtain⟨s1,ok⟩:=p
   rw[hf]at hsol
   obtain⟨σ1,rk1,hok⟩:=FD n s σ rk x.left x.right (s1,ok) hu hal.1 har.1 hf
   have hc:=YG n s σ rk m d x.left x.right (s1,ok) hu hm hwb hal.1 har.1 hwl hwr hf fun k hk=>.inl (hdone k hk)
   refine A8.2 ?_
   push_cast[BT hk,hx]
   refine QT (J:=[_]) (by push_cast[p2]) hc ?_
   rintro x' m1 d1 ⟨rfl,hR⟩
   cases ok with
   | false =>
    simp only[Option.some.injEq]at hsol
    have hu2:K0 (l.map (·.left)) (l.map (·.right))=([],false,0):=by unfold K0;rw[hS,<-hsol];rfl
    push_cast
    rw[hu2]
    exact A1 (by push_cast[CO.rs];rfl)
   | true =>
    obtain⟨hm1,hk1⟩:=hR rfl
    push_cast[CV (show k<2^62 by omega)]
    have:=ih s1 σ1 rk1 m1 d1 hok.ok hm1 (hwb.solve hwl hwr hf)
     (fun v t hv=>(K7 (P:=fun t=>depth t<=D) (Q:=fun _=>True) (fun t a h ha=>by have:=Fg t;have:=Ld ha;omega) (fun _ _ _=>trivial) n s x.left x.right _ (fun v t hv=>⟨hdp v t hv,trivial⟩) hdl hdr hf v t hv).1)
     (LB ham hal har hf) (fun k hk=>by
      rcases hk1 k hk with h | h
      ·exact fun θ hθ=>hdone k h θ (hθ.mono hok.ext)
      ·exact h) hsol
    push_cast at this
    exact this
 ·intro s σ rk m d hu hm hwb hdp ham hdone hsol
  have e1:(l.map (·.left)).drop l.length=[]:=by rw[List.drop_eq_nil_of_le];simp
  rw[e1]at hsol
  simp only[AF,Option.some.injEq]at hsol
  have hlen:=HN hu.srt ham
  have hvs:=h.vs
  have hhd:=h.hd
  have hsig:=T3 hu
  have hDb:s.length*D+1<2^60:=by
   have:s.length*D<=2^28*2^28:=Nat.mul_le_mul (by omega) (by omega)
   omega
  have hq:=ep hu (d:=d) hm hwb (D:=s.length*D+1) (fun v=>by
   have h1:=hu.deep hdp v
   have h2:eE s rk v*D<=s.length*D:=Nat.mul_le_mul_right D (pX s rk v)
   omega) hDb (by omega) hsig
  have hu2:J1 (K0 (l.map (·.left)) (l.map (·.right)))=(if Fw s then .tup [Bi [],.bool false,.int .i64 3] else .tup [Bi (Ds s),.bool true,.int .i64 0]):=by
   unfold K0
   rw[hS,<-hsol]
   simp only[Bool.true_eq_false,if_false]
   cases Fw s<;>rfl
  rw[hu2]
  refine A8.2 ?_
  push_cast[B8 (Nat.le_refl _),Tx]
  exact hq
end Go.Dw
end
namespace Go.Dw
theorem WW {s:List A6}{v:A9}{t:Term}(h:Ae s v=some t):bound s v=true:=by unfold bound;rw[h];rfl
theorem XE {s:List A6}{v:A9}(h:Ae s v=none):bound s v=false:=by unfold bound;rw[h];rfl
theorem RP {s:List A6}(hl:s.length<2^62)(n:Nat)(t h:Term)(hh:DR n s t=some h):PF LT [Bi s,Ap t] (Ap h):=by
 refine Ab N9.ok rfl ?_
 have key:∀ (n:Nat)(t:Term),DR n s t=some h->N9.L3 (Bi s) (.ptr 0 0) (.ptr 1 0) 0 [.cells A3 (cT t),.cells A3 [.str [],.bool false,.sl 3 []]] (Bx 0 N9.rs fun x' H'=>x'=Ap h/\H'=[]):=by
  intro n
  induction n with
  | zero=>intro t h;cases h
  | succ n ih =>
   intro t ht
   simp only[DR]at ht
   refine A8.2 ?_
   cases hv:t.var with
   | false =>
    rw[if_neg (by simp[hv])]at ht
    cases ht
    push_cast[hv]
    exact A1 (by push_cast[N9.rs])
   | true =>
    rw[if_pos hv]at ht
    push_cast[hv]
    refine .of (Vx s t.name hl) ?_
    cases hi:Ae s t.name with
    | none =>
     rw[hi]at ht
     cases ht
     push_cast[XE hi]
     exact A1 (by push_cast[N9.rs])
    | some x =>
     rw[hi]at ht
     push_cast[WW hi]
     refine .of (MB s t.name hl) ?_
     rw[hi]
     push_cast
     exact ih x ht
 push_cast
 exact key n t hh
def C9 (s:List A6):Nat->List A9->Term->List A9
 | 0,met,_=>met
 | n+1,met,t=>if t.var then (if t.name∈met then met else match Ae s t.name with
   | none=>met++[t.name]
   | some x=>C9 s n (met++[t.name]) x)
  else t.args.foldl (C9 s n) met
theorem Tc {F:List A9->Term->List A9}{P:List A9->Prop}:∀ (l:List Term)(m:List A9),P m->(∀ a∈l,∀ m,P m->P (F m a))->P (l.foldl F m)
 | [],m,h,_=>h
 | a::l,m,h,hs=>Tc l _ (hs a (by simp) m h) fun b hb=>hs b (by simp[hb])
theorem NN {s:List A6}{Vs:List A9}(hs:∀ v t,Ae s v=some t->BX Vs t/\v∈Vs):∀ (n:Nat)(met:List A9)(t:Term),BX Vs t->met.Nodup->(∀ w∈met,w∈Vs)->(C9 s n met t).Nodup/\∀ w∈C9 s n met t,w∈Vs
 | 0,met,t,_,h1,h2=>⟨h1,h2⟩
 | n+1,met,t,ht,h1,h2=>by
  unfold C9
  cases hv:t.var with
  | true =>
   rw[if_pos rfl]
   split
   ·exact⟨h1,h2⟩
   ·rename_i hm
    have h3:(met++[t.name]).Nodup:=by
     rw[List.nodup_append]
     refine⟨h1,by simp,fun a ha b hb e=>?_⟩
     rw[List.mem_singleton.1 hb]at e
     exact hm (e▸ha)
    have h4:∀ w∈met++[t.name],w∈Vs:=fun w hw=>by
     rcases List.mem_append.1 hw with h | h
     ·exact h2 w h
     ·rw[List.mem_singleton.1 h];exact ht.2 _ (AE.2 (.inl ⟨hv,rfl⟩))
    cases hi:Ae s t.name with
    | none=>exact⟨h3,h4⟩
    | some x=>exact NN hs n _ x (hs _ _ hi).1 h3 h4
  | false =>
   rw[if_neg (by simp)]
   exact Tc (P:=fun m=>m.Nodup/\∀ w∈m,w∈Vs) t.args met ⟨h1,h2⟩ fun a ha m hm=>NN hs n m a (ht.arg ha) hm.1 hm.2
theorem QZ {s:List A6}:∀ (n:Nat)(met:List A9)(t:Term)(w:A9),w∈met->w∈C9 s n met t
 | 0,met,t,w,h=>h
 | n+1,met,t,w,h=>by
  unfold C9
  split
  ·split
   ·exact h
   ·cases hi:Ae s t.name with
    | none=>simp[h]
    | some x=>exact QZ n _ x w (by simp[h])
  ·exact Tc (P:=fun m=>w∈m) t.args met h fun a ha m hm=>QZ n m a w hm
theorem Qg {s:List A6}:∀ (n:Nat)(met:List A9)(t:Term)(w:A9),w∈C9 s n met t->w∈met\/PC s w t
 | 0,met,t,w,h=>.inl h
 | n+1,met,t,w,h=>by
  unfold C9 at h
  cases hv:t.var with
  | true =>
   rw[if_pos hv]at h
   split at h
   ·exact .inl h
   ·have hw:∀ w,w∈met++[t.name]->w∈met\/PC s w t:=fun w h=>by
     rcases List.mem_append.1 h with h | h
     ·exact .inl h
     ·rw[List.mem_singleton.1 h];exact .inr (.here hv rfl)
    cases hi:Ae s t.name with
    | none=>rw[hi]at h;exact hw w h
    | some x =>
     rw[hi]at h
     rcases Qg n _ x w h with h | h
     ·exact hw w h
     ·exact .inr (.bound hv hi h)
  | false =>
   rw[if_neg (by simp[hv])]at h
   have key:∀ (l:List Term)(m:List A9),(∀ a∈l,a∈t.args)->w∈l.foldl (C9 s n) m->w∈m\/PC s w t:=by
    intro l
    induction l with
    | nil=>intro m _ h;exact .inl h
    | cons a l ih =>
     intro m hl h
     rcases ih _ (fun b hb=>hl b (by simp[hb])) h with h | h
     ·rcases Qg n m a w h with h | h
      ·exact .inl h
      ·exact .inr (.arg hv (hl a (by simp)) h)
     ·exact .inr h
   exact key t.args met (fun _ h=>h) h
theorem S9 {s:List A6}{σ:EE}{rk:A9->Nat}(hu:FU s σ rk){v:A9}:∀ (n:Nat)(met:List A9)(t:Term)(R:Nat),FT s n t->vfl t=true->(∀ u,Cz u t=true->rk u<R)->(∀ w∈met,¬ PC s v (BZ w)\/R<=rk w)->v∉C9 s n met t ->
  ¬ PC s v t/\∀ w∈C9 s n met t,w∈met\/¬ PC s v (BZ w)
 | 0,met,t,R,h,_,_,_,_=>h.elim
 | n+1,met,t,R,hn,ht,hR,hσ,h=>by
  simp only[FT]at hn
  unfold C9 at h ⊢
  cases hv:t.var with
  | true =>
   rw[if_pos hv]at h hn
   rw[if_pos rfl]
   have hocc:Cz t.name t=true:=AE.2 (.inl ⟨hv,rfl⟩)
   have htv:=QF ht hv
   by_cases hg:t.name∈met
   ·rw[if_pos hg]
    rcases hσ _ hg with h1 | h1
    ·exact⟨by rw[htv];exact h1,fun w hw=>.inl hw⟩
    ·have:=hR _ hocc;omega
   ·rw[if_neg hg]at h ⊢
    cases hi:Ae s t.name with
    | none =>
     rw[hi]at h
     have hz:t.name≠v:=fun e=>h (by simp[e])
     have h3:¬ PC s v t:=fun ho=>by
      cases ho with
      | here _ h2=>exact hz h2
      | bound _ h2 _=>rw[hi]at h2;cases h2
      | arg h1 _ _=>rw[hv]at h1;cases h1
     refine⟨h3,fun w hw=>?_⟩
     rcases List.mem_append.1 hw with hw | hw
     ·exact .inl hw
     ·rw[List.mem_singleton.1 hw];rw[htv]at h3;exact .inr h3
    | some x =>
     rw[hi]at h
     simp only at h ⊢
     have hz:t.name≠v:=fun e=>h (QZ n _ x v (by simp[e]))
     obtain⟨h1,h2⟩:=S9 hu n (met++[t.name]) x (rk t.name) (hn x hi) (hu.vf _ _ hi) (hu.low _ _ hi) (fun w hw=>by
      rcases List.mem_append.1 hw with hw | hw
      ·rcases hσ w hw with h3 | h3
       ·exact .inl h3
       ·exact .inr (by have:=hR _ hocc;omega)
      ·rw[List.mem_singleton.1 hw];exact .inr (Nat.le_refl _)) h
     have h3:=UU hz hi h1
     refine⟨by rw[htv];exact h3,fun w hw=>?_⟩
     rcases h2 w hw with h4 | h4
     ·rcases List.mem_append.1 h4 with h5 | h5
      ·exact .inl h5
      ·rw[List.mem_singleton.1 h5];exact .inr h3
     ·exact .inr h4
  | false =>
   rw[if_neg (by simp[hv])]at h hn
   rw[if_neg (by simp)]
   have key:∀ (l:List Term)(m:List A9),(∀ a∈l,a∈t.args)->(∀ w∈m,w∈met\/¬ PC s v (BZ w))->v∉l.foldl (C9 s n) m->(∀ a∈l,¬ PC s v a)/\∀ w∈l.foldl (C9 s n) m,w∈met\/¬ PC s v (BZ w):=by
    intro l
    induction l with
    | nil=>intro m _ hm _;exact⟨by simp,hm⟩
    | cons a l ih =>
     intro m hl hm h
     have hva:v∉C9 s n m a:=fun h2=>h (Tc (P:=fun m=>v∈m) l _ h2 fun b hb m hm=>QZ n m b v hm)
     obtain⟨h3,h4⟩:=S9 hu n m a R (hn a (hl a (by simp))) (BJ ht (hl a (by simp))) (fun u hu'=>hR u (AE.2 (.inr ⟨a,hl a (by simp),hu'⟩))) (fun w hw=>by
      rcases hm w hw with h5 | h5
      ·exact hσ w h5
      ·exact .inl h5) hva
     obtain⟨h5,h6⟩:=ih _ (fun b hb=>hl b (by simp[hb])) (fun w hw=>by
      rcases h4 w hw with h7 | h7
      ·exact hm w h7
      ·exact .inr h7) h
     exact⟨fun b hb=>by rcases List.mem_cons.1 hb with rfl | hb;exact h3;exact h5 b hb,h6⟩
   obtain⟨h1,h2⟩:=key t.args met (fun _ h=>h) (fun w hw=>.inl hw) h
   refine⟨fun ho=>?_,h2⟩
   cases ho with
   | here h3 _=>rw[hv]at h3;cases h3
   | bound h3 _ _=>rw[hv]at h3;cases h3
   | arg _ h3 h4=>exact h1 _ h3 h4
theorem tS {s:List A6}{σ:EE}{rk:A9->Nat}(hu:FU s σ rk){v:A9}{n:Nat}{t:Term}(hn:FT s n t)(ht:vfl t=true):v∈C9 s n [] t↔PC s v t:=by
 constructor
 ·intro h
  rcases Qg n [] t v h with h | h
  ·cases h
  ·exact h
 ·intro ho
  obtain⟨M,hM⟩:=Y9 rk t
  by_cases h:v∈C9 s n [] t
  ·exact h
  ·exact absurd ho (S9 hu n [] t (M+1) hn ht (fun u h=>by have:=hM u h;omega) (fun w hw=>by cases hw) h).1
theorem zq (o o':Ob)(D:List Ob)(h:A5 (BY [0] (D.length+1)) o'=o'):takeB [0] (o::D) [o']=o'::D:=by
 apply List.ext_getElem?
 intro i
 rw[DK (by simp)]
 match i with
 | 0=>rw[if_pos (by simp)];show some (A5 _ o')=some _;rw[List.length_cons,h]
 | i+1 =>
  have hp:Ay [0] (i+1)=none:=by simp[Ay,List.findIdx?_cons]
  by_cases h:i<D.length
  ·rw[if_pos (by simp;omega),hp]
   simp[List.getD_eq_getElem?_getD,h]
  ·rw[if_neg (by simp;omega)]
   have e1:(o'::D)[i+1]?=none:=List.getElem?_eq_none (by simp;omega)
   have e2:([o']:List Ob)[[0].length+(i+1-(o::D).length)]?=none:=List.getElem?_eq_none (by simp)
   rw[e1,e2];rfl
abbrev mR (l:List A9):Ob:=.arr C7 1 l.length
theorem U3 {B:Nat}(hB:B=0\/B=1){rs:List RV}{t:T}{R:List A9}{D:List Ob}{Q:V->List Ob->Prop}(hr:UG rs t (mR R::D)=some (Bf cS 0 1 R))(hq:Q (Bf cS 0 1 R) [mR R]):Bx B rs Q .ret t (mR R::D):=by
 rcases hB with rfl | rfl
 ·refine SD 0 hr rfl ?_
  have h0:Ay [0] 0=some 0:=rfl
  push_cast[h0]
  exact hq
 ·refine An (n:=1) (H:=[mR R]) (J:=D) ⟨rfl,rfl⟩ hr ?_
  have h0:AM 1 0=some 0:=rfl
  push_cast[h0]
  exact hq
theorem bw {N:Nat->C}{B:Nat}{k:List K}{t:T}{Q:X->T->List Ob->Prop}{dd:Option Nat}{l:List S}{f:Nat}{a b:V}{m m':List A9}{D:List Ob}(ha:∀ σ,ren σ a=a)(hb:∀ σ,ren σ b=b)
  (h:Spec prog f [a,b,Bf cS 0 1 m] [mR m] fun x' H'=>x'=Bf cS 0 1 m'/\H'=[mR m']) (k':AB prog N B (.r l::k) (FK dd (Bf cS 0 1 m') t) (mR m'::D) Q):By prog N B dd l k t Q (.func f) [a,b,Bf cS 0 1 m] (mR m::D):=by
 have h0:Ay [0] 0=some 0:=rfl
 have h1:∀ n,BY [0] n 0=some 0:=fun _=>rfl
 refine By.some [0] (by simp) (by simp) (R:=fun x' H'=>x'=Bf cS 0 1 m'/\H'=[mR m']) ?_ ?_
 ·have e:give [0] (mR m::D)=[mR m]:=rfl
  rw[e]
  push_cast[h0,ha,hb]
  exact h
 ·rintro x' H' ⟨rfl,rfl⟩ _
  rw[zq _ _ _ rfl]
  push_cast[h1]
  exact k'
theorem gy {s:List A6}{Vs:List A9}(hs:∀ v t,Ae s v=some t->BX Vs t/\v∈Vs)(hl:s.length<2^62)(hVs:Vs.length<2^30)(hwb:WB s):∀ (n:Nat)(t:Term)(met:List A9),FT s n t->BX Vs t->Di t<2^40->met.Nodup->(∀ w∈met,w∈Vs) ->
  ∀ (V2:V)(H0:List Ob),((V2=.nil/\H0=[]/\met=[])\/(V2=Bf cS 0 1 met/\H0=[mR met]))->Spec prog JY [Bi s,Ap t,V2] H0 fun x H'=>x=Bf cS 0 1 (C9 s n met t)/\H'=[mR (C9 s n met t)]:=by
 intro n
 induction n with
 | zero=>intro t met h;exact h.elim
 | succ n ih =>
  intro t met hn ht hw hnd hmV V2 H0 hcase
  have hml:met.length<=Vs.length:=hnd.length_le_of_subset hmV
  have hB:H0.length=0\/H0.length=1:=by rcases hcase with ⟨_,rfl,_⟩|⟨_,rfl⟩<;>simp
  have hrb:∀ σ:Nat->Option Nat,ren σ (Bi s)=Bi s:=fun σ=>by push_cast
  have hrt:∀ (t:Term)(σ:Nat->Option Nat),ren σ (Ap t)=Ap t:=fun t σ=>by push_cast
  simp only[FT]at hn
  refine AK mixed GB.ok rfl ?_
  unfold C9
  generalize hLen:H0.length=B at hB
  have start:AB prog GB.nd B [.c GB.body] (uk 0 [Bi s,Ap t,V2]) H0 (Bx B GB.rs fun x H'=>x=Bf cS 0 1 (if t.var then (if t.name∈met then met else match Ae s t.name with
   | none=>met++[t.name]
   | some x=>C9 s n (met++[t.name]) x)
  else t.args.foldl (C9 s n) met)/\H'=[mR (if t.var then (if t.name∈met then met else match Ae s t.name with
   | none=>met++[t.name]
   | some x=>C9 s n (met++[t.name]) x)
  else t.args.foldl (C9 s n) met)]):=by
   cases hv:t.var with
   | true =>
    rw[if_pos hv]at hn
    rw[if_pos rfl]
    have hH:=Ur met t.name (by omega)
    by_cases hm:t.name∈met
    ·rw[if_pos hm]
     rw[UP hm]at hH
     rcases hcase with ⟨rfl,rfl,rfl⟩|⟨rfl,rfl⟩
     ·cases hm
     ·have e:(Bf cS 0 1 met:V)=.own 0 1 (met.map cS):=rfl
      rw[e]
      push_cast[hv]
      refine .of hH ?_
      push_cast
      exact U3 hB rfl ⟨rfl,rfl⟩
    ·rw[if_neg hm]
     rw[RZ hm]at hH
     have hnd2:(met++[t.name]).Nodup:=by
      rw[List.nodup_append]
      refine⟨hnd,by simp,fun a ha b hb e=>?_⟩
      rw[List.mem_singleton.1 hb]at e
      exact hm (e▸ha)
     have hmV2:∀ w∈met++[t.name],w∈Vs:=fun w hw=>by
      rcases List.mem_append.1 hw with h | h
      ·exact hmV w h
      ·rw[List.mem_singleton.1 h];exact ht.2 _ (AE.2 (.inl ⟨hv,rfl⟩))
     have hBd:=Vx s t.name hl
     have hIm:=MB s t.name hl
     cases hi:Ae s t.name with
     | none =>
      rw[XE hi]at hBd
      have hroom:=U9 (show met.length<2^40 by omega) (show 16<=64 by omega)
      rcases hcase with ⟨rfl,rfl,rfl⟩|⟨rfl,rfl⟩
      ·push_cast[hv]
       refine .of hH ?_
       have hroom0:1*16<=Ah:=by unfold Ah;decide
       push_cast[hroom0]
       refine .of hBd ?_
       push_cast
       exact U3 (R:=[t.name]) hB rfl ⟨rfl,rfl⟩
      ·have e:(Bf cS 0 1 met:V)=.own 0 1 (met.map cS):=rfl
       rw[e]
       push_cast[hv]
       refine .of hH ?_
       push_cast[bz,hroom,List.length_map]
       refine .of hBd ?_
       push_cast
       have hlen2:met.length+1=(met++[t.name]).length:=by simp
       rw[hlen2]
       exact U3 hB rfl ⟨rfl,rfl⟩
     | some x =>
      rw[WW hi]at hBd
      rw[hi]at hIm
      have hc:=ih x (met++[t.name]) (hn x hi) (hs _ _ hi).1 (hwb _ _ hi) hnd2 hmV2 _ _ (.inr ⟨rfl,rfl⟩)
      have hroom:=U9 (show met.length<2^40 by omega) (show 16<=64 by omega)
      rcases hcase with ⟨rfl,rfl,rfl⟩|⟨rfl,rfl⟩
      ·push_cast[hv]
       refine .of hH ?_
       have hroom0:1*16<=Ah:=by unfold Ah;decide
       push_cast[hroom0]
       refine .of hBd ?_
       push_cast
       refine .of hIm ?_
       push_cast
       refine bw (m:=[t.name]) (D:=[]) hrb (hrt x) hc ?_
       push_cast
       exact U3 hB rfl ⟨rfl,rfl⟩
      ·have e:(Bf cS 0 1 met:V)=.own 0 1 (met.map cS):=rfl
       rw[e]
       push_cast[hv]
       refine .of hH ?_
       push_cast[bz,hroom,List.length_map]
       refine .of hBd ?_
       push_cast
       refine .of hIm ?_
       push_cast
       have hlen2:met.length+1=(met++[t.name]).length:=by simp
       rw[hlen2]
       refine bw (D:=[]) hrb (hrt x) hc ?_
       push_cast
       exact U3 hB rfl ⟨rfl,rfl⟩
   | false =>
    rw[if_neg (by simp[hv])]at hn
    rw[if_neg (by simp)]
    have hwa:=E9 t
    have body:∀ (B:Nat)(hB:B=0\/B=1)(D:List Ob),GB.L3 (Bi s) (Bf cS 0 1 met) (Bg t.args) (.int .i64 t.args.length) (.int .i64 0) B (mR met::D) (Bx B GB.rs fun x H'=>x=Bf cS 0 1 (t.args.foldl (C9 s n) met)/\H'=[mR (t.args.foldl (C9 s n) met)]):=by
     intro B hB D
     refine Ad (n:=t.args.length) (R:=fun k=>∀ (m:List A9)(D:List Ob),m.Nodup->(∀ w∈m,w∈Vs)->(t.args.drop k).foldl (C9 s n) m=t.args.foldl (C9 s n) met->GB.L3 (Bi s) (Bf cS 0 1 m) (Bg t.args) (.int .i64 t.args.length) (.int .i64 k) B (mR m::D) (Bx B GB.rs fun x H'=>x=Bf cS 0 1 (t.args.foldl (C9 s n) met)/\H'=[mR (t.args.foldl (C9 s n) met)])) ?_ ?_ 0 (Nat.zero_le _) met D hnd hmV rfl
     ·intro k hk ih2 m D hm1 hm2 he
      have hme:=A4 hk
      rw[Al hk]at he
      simp only[List.foldl_cons]at he
      have hc:=ih (t.args.getD k default) m (hn _ hme) (ht.arg hme) (Ep hw hme) hm1 hm2 _ _ (.inr ⟨rfl,rfl⟩)
      have hkp:=NN hs n m (t.args.getD k default) (ht.arg hme) hm1 hm2
      have g1:∀ x:Ob,(D++[x])[D.length]?=some x:=fun x=>by simp
      have g2:∀ x y:Ob,(D++[x]).set D.length y=D++[y]:=fun x y=>by simp
      refine A8.2 ?_
      push_cast[BT hk,g1,g2]
      refine bw (D:=D++[_]) hrb (hrt _) hc ?_
      push_cast[CV (show k<2^62 by omega)]
      have:=ih2 _ (D++[.dead]) hkp.1 hkp.2 he
      push_cast at this
      exact this
     ·intro m D hm1 hm2 he
      rw[Ao]at he
      simp only[List.foldl_nil]at he
      refine A8.2 ?_
      push_cast[B8 (Nat.le_refl _)]
      rw[<-he]
      exact U3 hB rfl ⟨rfl,rfl⟩
    rcases hcase with ⟨rfl,rfl,rfl⟩|⟨rfl,rfl⟩
    ·push_cast[hv]
     exact body B hB []
    ·have e:(Bf cS 0 1 met:V)=.own 0 1 (met.map cS):=rfl
     rw[e]
     push_cast[hv]
     exact body B hB []
  exact start
end Go.Dw
section
namespace Go.Dw
def cK (k:Qf):List V:=[.str k.1,.str k.2]
theorem kw {σ:Nat->Option Nat}(k:Qf):AR σ (cK k)=cK k:=rfl
abbrev dnO (dn:List Qf):Ob:=.arr F6 2 dn.length
abbrev km (s:List A6)(dn:List Qf)(J:List Ob):List Ob:=.cells CZ [Bi s,Bf cK 1 2 dn]::dnO dn::J
abbrev rH (s:List A6)(dn:List Qf):List Ob:=km s dn []
theorem FN (s:List A6)(dn:List Qf):IU 2 (rH s dn):=⟨rfl,by
 show [A5 (AM 2) (.cells CZ [Bi s,Bf cK 1 2 dn]),A5 (AM 2) (dnO dn)]=_
 have h1:AM 2 1=some 1:=rfl
 push_cast[h1]⟩
theorem ye (s:List A6)(dn:List Qf)(J:List Ob):give [0,1] (km s dn J)=rH s dn:=by
 show [A5 (Ay [0,1]) (.cells CZ [Bi s,Bf cK 1 2 dn]),A5 (Ay [0,1]) (dnO dn)]=_
 have h1:Ay [0,1] 1=some 1:=rfl
 push_cast[h1]
theorem vU (s s':List A6)(dn dn':List Qf)(J:List Ob):takeB [0,1] (km s dn J) (rH s' dn')=km s' dn' J:=by
 apply List.ext_getElem?
 intro i
 rw[DK (by simp)]
 have h1:∀ n,BY [0,1] n 1=some 1:=fun _=>rfl
 match i with
 | 0=>rw[if_pos (by simp)];show some (A5 _ (.cells CZ [Bi s',Bf cK 1 2 dn']))=some _;push_cast[h1]
 | 1=>rw[if_pos (by simp)];rfl
 | i+2 =>
  have hp:Ay [0,1] (i+2)=none:=by simp[Ay,List.findIdx?_cons]
  by_cases h:i<J.length
  ·rw[if_pos (by simp;omega),hp]
   simp[List.getD_eq_getElem?_getD,h]
  ·rw[if_neg (by simp;omega)]
   have e1:(km s' dn' J)[i+2]?=none:=List.getElem?_eq_none (by simp;omega)
   have e2:(rH s' dn')[[0,1].length+(i+2-(km s dn J).length)]?=none:=List.getElem?_eq_none (by simp)
   rw[e1,e2];rfl
section
variable {N:Nat->C} {B:Nat} {k:List K} {t:T} {Q:X->T->List Ob->Prop} {dd:Option Nat} {l:List S} {f:Nat} {vs vs':List V} {s:List A6} {dn:List Qf} {J:List Ob}
theorem QW {R:V->List A6->List Qf->Prop}(hv:AR (Ay [0,1]) vs=vs')(h:Spec prog f vs' (rH s dn) fun x' H'=>∃ s' dn',R x' s' dn'/\H'=rH s' dn')(k':∀ x' s' dn',R x' s' dn'->AB prog N B (.r l::k) (FK dd (ren (BY [0,1] (J.length+2)) x') t) (km s' dn' J) Q):By prog N B dd l k t Q (.func f) vs (km s dn J):=by
 refine By.some [0,1] (by simp) (by simp) (R:=fun x' H'=>∃ s' dn',R x' s' dn'/\H'=rH s' dn') (by rw[ye,hv];exact h) ?_
 rintro x' H' ⟨s',dn',hr,rfl⟩ _
 rw[vU];exact k' x' s' dn' hr
end
theorem AcW (x:Qf)(a b:A9):hX false [true,true] (.agg [.str x.1,.str x.2]) (.agg [.str a,.str b])=some (.bool (decide (x=(a,b)))):=by
 have:=S8 x (a,b)
 unfold Pd at this
 unfold hX
 rw[if_pos (show uy [true,true] (.agg [.str x.1,.str x.2])=true from rfl),this];rfl
theorem fJ (s:List A6)(dn:List Qf)(hd:dn.length<2^62)(a b:A9):Spec prog Hx [.ptr 0 0,.str a,.str b] (rH s dn) fun x H'=>x=.bool (decide ((a,b)∈dn))/\H'=rH s dn:=by
 refine AK mixed GE.ok rfl ?_
 push_cast
 refine Ad (n:=dn.length) (R:=fun k=>decide ((a,b)∈dn.drop k)=decide ((a,b)∈dn)->GE.L3 (.str a) (.str b) (Bf cK 1 2 dn) (.int .i64 dn.length) (.int .i64 k) 2 (rH s dn) (Bx 2 GE.rs fun x H'=>x=.bool (decide ((a,b)∈dn))/\H'=rH s dn)) ?_ ?_ 0 (Nat.zero_le _) rfl
 ·intro k hk ih he
  rw[Al hk]at he
  refine A8.2 ?_
  generalize hx:dn.getD k default=x at he
  have e4:∀ x:Qf,hX false [true,true] (.agg (cK x)) (.agg [.str a,.str b])=some (.bool (decide (x=(a,b)))):=fun x=>AcW x a b
  have e1:∀ x:Qf,sub 0 2 (cK x)=cK x:=fun x=>rfl
  have e2:∀ x:Qf,(cK x).length=2:=fun x=>rfl
  by_cases h:x=(a,b)
  ·have ht:decide ((a,b)∈dn)=true:=by rw[<-he];simp[h]
   rw[ht]
   push_cast[BT hk,hx,e1,e2,kw,e4,h]
   exact An (H:=rH s dn) (J:=[_]) (FN s dn) rfl ⟨rfl,rfl⟩
  ·have h':(a,b)≠x:=fun e=>h e.symm
   have:=ih (by rw[<-he];simp[h'])
   push_cast[BT hk,hx,e1,e2,kw,e4,h,CV (show k<2^62 by omega)]
   push_cast at this
   exact this
 ·intro he
  rw[Ao]at he
  refine A8.2 ?_
  push_cast[B8 (Nat.le_refl _)]
  exact An (H:=rH s dn) (J:=[]) (FN s dn) rfl ⟨by rw[<-he];rfl,rfl⟩
structure NOk (s:List A6) (Vs:List A9):Prop where
 am:∀ v t,Ae s v=some t->BX Vs t/\v∈Vs
 vs:Vs.length<2^18
 nm:∀ v∈Vs,v.length<2^62
theorem Xj {s:List A6}{σ:EE}{rk:A9->Nat}{Vs:List A9}(hu:FU s σ rk)(hN:NOk s Vs)(hwb:WB s)(dn:List Qf)(v:A9)(t:Term)(hv:v∈Vs)(ht:BX Vs t)(hw:Di t<2^40) :
  Spec prog FR [.ptr 0 0,.str v,Ap t] (rH s dn) fun x H'=>∃ s' dn',(x=.bool (Ly s v t).2/\s'=(Ly s v t).1/\dn'=dn)/\H'=rH s' dn':=by
 obtain⟨n,hn⟩:=hu.need t
 have hlen:=HN hu.srt hN.am
 have hvs:=hN.vs
 have hR:=gy hN.am (by omega) (by omega) hwb n t [] hn ht hw List.nodup_nil (by simp) _ _ (.inl ⟨rfl,rfl,rfl⟩)
 have hk:=NN hN.am n [] t ht List.nodup_nil (by simp)
 have hRl:(C9 s n [] t).length<=Vs.length:=hk.1.length_le_of_subset hk.2
 have hq:=tS hu (v:=v) hn ht.1
 generalize C9 s n [] t=R at hR hRl hq
 have hH:=Ur R v (by omega)
 have hW:=gN s v t (by omega) (fun b hb=>hN.nm _ (hN.am _ _ (Fm hu.srt hb)).2) (hN.nm v hv)
 refine AK mixed OZ.ok rfl ?_
 push_cast
 refine By.some [] (by simp) (by simp) (R:=fun x' H'=>x'=Bf cS 0 1 R/\H'=[mR R]) ?_ ?_
 ·push_cast
  exact hR
 rintro x' H' ⟨rfl,rfl⟩ _
 have hT:takeB [] (rH s dn) [mR R]=km s dn [mR R]:=rfl
 have h0:∀ n,BY [] n 0=some n:=fun n=>rfl
 rw[hT]
 push_cast[h0]
 refine .of hH ?_
 rcases M7 s v t with ⟨ho,e⟩|⟨ho,e⟩
 ·rw[e,UP (hq.2 ho)]
  push_cast
  exact An (H:=rH s dn) (J:=[_]) (FN s dn) rfl ⟨s,dn,⟨rfl,rfl,rfl⟩,rfl⟩
 ·rw[e,RZ (fun h=>ho (hq.1 h))]
  push_cast
  refine .of hW ?_
  push_cast
  exact An (H:=rH (FS s v t) dn) (J:=[_]) (FN _ dn) rfl ⟨FS s v t,dn,⟨rfl,rfl,rfl⟩,rfl⟩
def mH (Vs:List A9)(dn:List Qf)(a:Term)(r:List A6×Bool)(x:V)(s':List A6)(dn':List Qf):Prop:=x=.bool r.2/\(r.2=true->s'=r.1/\dn'.Nodup/\(∀ k∈dn',k.1∈Vs/\k.2∈Vs)/\∀ k∈dn',k∈dn\/(Pt r.1 k/\∀ θ,TO θ r.1->size (θ k.1)<=size (app θ a)))
theorem NOk.solve {s:List A6}{Vs:List A9}(h:NOk s Vs){n:Nat}{a b:Term}{r:List A6×Bool}(ha:BX Vs a)(hb:BX Vs b)(hr:AZ n s a b=some r):NOk r.1 Vs :=
 ⟨LB h.am ha hb hr,h.vs,h.nm⟩
theorem Wz {Vs:List A9}{dn:List Qf}(h:dn.Nodup)(hv:∀ k∈dn,k.1∈Vs/\k.2∈Vs):dn.length<=Vs.length*Vs.length:=by
 have h1:=h.length_le_of_subset (l₂:=Vs.flatMap fun a=>Vs.map fun b=>(a,b)) fun k hk=>by
  obtain⟨h1,h2⟩:=hv k hk
  exact List.mem_flatMap.2 ⟨k.1,h1,List.mem_map.2 ⟨k.2,h2,rfl⟩⟩
 have h2:(Vs.flatMap fun a=>Vs.map fun b=>(a,b)).length=Vs.length*Vs.length:=by
  rw[List.length_flatMap]
  simp[List.map_const',List.sum_replicate_nat]
 omega
end Go.Dw
end
namespace Go.Dw
theorem dL {Vs:List A9}:∀ (n:Nat)(s:List A6)(σ:EE)(rk:A9->Nat)(dn:List Qf)(a b:Term)(r:List A6×Bool),FU s σ rk->NOk s Vs->WB s->BX Vs a->BX Vs b->Di a<2^40->Di b<2^40->AZ n s a b=some r ->
  (∀ k∈dn,Pt s k)->dn.Nodup->(∀ k∈dn,k.1∈Vs/\k.2∈Vs)->Spec prog Fd [.ptr 0 0,Ap a,Ap b] (rH s dn) fun x H'=>∃ s' dn',mH Vs dn a r x s' dn'/\H'=rH s' dn':=by
 intro n
 induction n with
 | zero=>intro s σ rk dn a b r _ _ _ _ _ _ _ h;cases h
 | succ n ih =>
  intro s σ rk dn a b r hu hN hwb ha hb hwa hwb2 hr hd hdn hdV
  have hvs:=hN.vs
  have hlen:=HN hu.srt hN.am
  have hsq:Vs.length*Vs.length<=2^18*2^18:=Nat.mul_le_mul (by omega) (by omega)
  have hdl:=Wz hdn hdV
  obtain⟨σ1,rk1,hok⟩:=FD (n+1) s σ rk a b r hu ha.1 hb.1 hr
  have p0:Ay [0,1] 0=some 0:=rfl
  have p1:Ay [0,1] 1=some 1:=rfl
  have rest2:∀ (T:T)(both:Bool),(a.var&&b.var)=both->(both=true->(a.name,b.name)∉dn)->lk T 0=.ptr 0 0->lk T 4=.ptr 2 0->lk T 5=.ptr 3 0->lk T 7=.ro [.str a.name,.str b.name] 0->lk T 8=.bool both ->
    AB prog BN.nd 2 [.c (.n 6)] T (km s dn [.cells A3 (cT a),.cells A3 (cT b),.dead]) (Bx 2 BN.rs fun x H'=>∃ s' dn',mH Vs dn a r x s' dn'/\H'=rH s' dn'):=by
   intro T both hbo hkey h0 h4 h5 h7 h8
   obtain⟨x,y,hx,hy,hc⟩:=JV hr
   have hxv:BX Vs x:=C6 (P:=fun t=>BX Vs t) (fun v t h=>(hN.am v t h).1) ha hx
   have hyv:BX Vs y:=C6 (P:=fun t=>BX Vs t) (fun v t h=>(hN.am v t h).1) hb hy
   have hxw:Di x<2^40:=C6 (P:=fun t=>Di t<2^40) hwb hwa hx
   have hyw:Di y<2^40:=C6 (P:=fun t=>Di t<2^40) hwb hwb2 hy
   have hxs:∀ θ,TO θ s->app θ x=app θ a:=fun θ hθ=>Iz hθ hx
   have hA:=RP (s:=s) (by omega) (n+1) a x hx
   have hB:=RP (s:=s) (by omega) (n+1) b y hy
   have hlx:=E9 x
   have hly:=E9 y
   have same:∀ x':V,r.1=s->x'=.bool r.2->mH Vs dn a r x' s dn:=fun x' h e=>⟨e,fun _=>⟨h.symm,hdn,hdV,fun k hk=>.inl hk⟩⟩
   push_cast[h0,h4,h5]
   refine .of hA ?_
   push_cast[h0,h4,h5]
   refine .of hB ?_
   have fin:∀ (v:A9)(t:Term),r=Ly s v t->∀ (x':V)(s':List A6)(dn':List Qf),(x'=.bool (Ly s v t).2/\s'=(Ly s v t).1/\dn'=dn)->mH Vs dn a r x' s' dn':=by
    rintro v t rfl x' s' dn' ⟨rfl,rfl,rfl⟩
    exact⟨rfl,fun _=>⟨rfl,hdn,hdV,fun k hk=>.inl hk⟩⟩
   rcases hc with ⟨c1,c2,c3,c6⟩|⟨c1,c2,c6⟩|⟨c1,c2,c6⟩|⟨c1,c2,c3,c6⟩|⟨c1,c2,c3,c4,c5⟩
   ·push_cast[h0,h4,h5,c1,c2,c3]
    exact An (H:=rH s dn) (J:=[_,_,_]) (FN s dn) rfl ⟨s,dn,same _ (by rw[c6]) (by rw[c6];rfl),rfl⟩
   ·have hS:=Xj hu hN hwb dn x.name y (hxv.2 _ (AE.2 (.inl ⟨c1,rfl⟩))) hyv hyw
    by_cases c3:y.var=true
    ·have c4:x.name≠y.name:=fun e=>c2 ⟨c3,e⟩
     push_cast[h0,h4,h5,c1,c3,c4]
     refine QW (J:=[_,_,_]) (by push_cast[p0]) hS ?_
     intro x' s' dn' hR
     have hf:=fin x.name y c6 x' s' dn' hR
     obtain⟨rfl,_,_⟩:=hR
     push_cast
     exact An (H:=rH s' dn') (J:=[_,_,_]) (FN s' dn') rfl ⟨s',dn',hf,rfl⟩
    ·have c3:y.var=false:=by simpa using c3
     push_cast[h0,h4,h5,c1,c3]
     refine QW (J:=[_,_,_]) (by push_cast[p0]) hS ?_
     intro x' s' dn' hR
     have hf:=fin x.name y c6 x' s' dn' hR
     obtain⟨rfl,_,_⟩:=hR
     push_cast
     exact An (H:=rH s' dn') (J:=[_,_,_]) (FN s' dn') rfl ⟨s',dn',hf,rfl⟩
   ·have hS:=Xj hu hN hwb dn y.name x (hyv.2 _ (AE.2 (.inl ⟨c2,rfl⟩))) hxv hxw
    push_cast[h0,h4,h5,c1,c2]
    refine QW (J:=[_,_,_]) (by push_cast[p0]) hS ?_
    intro x' s' dn' hR
    have hf:=fin y.name x c6 x' s' dn' hR
    obtain⟨rfl,_,_⟩:=hR
    push_cast
    exact An (H:=rH s' dn') (J:=[_,_,_]) (FN s' dn') rfl ⟨s',dn',hf,rfl⟩
   ·by_cases hn:x.name=y.name
    ·have hlen:((x.args.length:Int)=(y.args.length:Int))=False:=eq_false (by rcases c3 with h | h;exact absurd hn h;omega)
     push_cast[h0,h4,h5,c1,c2,hn,hlen]
     exact An (H:=rH s dn) (J:=[_,_,_]) (FN s dn) rfl ⟨s,dn,same _ (by rw[c6]) (by rw[c6];rfl),rfl⟩
    ·push_cast[h0,h4,h5,c1,c2,hn]
     exact An (H:=rH s dn) (J:=[_,_,_]) (FN s dn) rfl ⟨s,dn,same _ (by rw[c6]) (by rw[c6];rfl),rfl⟩
   ·have hlen2:((x.args.length:Int)=(y.args.length:Int))=True:=eq_true (by omega)
    push_cast[h0,h4,h5,h7,h8,c1,c2,c3,hlen2]
    have hsx:∀ θ,TO θ s->∀ c∈x.args,size (app θ c)<size (app θ a):=fun θ hθ c hc=>by
     rw[<-hxs θ hθ,Ba c1]
     have h2:size (Term.mk x.name false (x.args.map (app θ)))=1+Ac (x.args.map (app θ)):=rfl
     have h3:=Bt (List.mem_map_of_mem (f:=app θ) hc)
     omega
    refine Ad (n:=x.args.length) (R:=fun k=>∀ (s':List A6)(σ':EE)(rk':A9->Nat)(dn':List Qf),FU s' σ' rk'->NOk s' Vs->WB s'->(∀ θ,TO θ s'->TO θ s)->dn'.Nodup->(∀ k∈dn',k.1∈Vs/\k.2∈Vs)->(∀ k∈dn',k∈dn\/(Pt s' k/\∀ θ,TO θ s'->size (θ k.1)<size (app θ a)))->AF (AZ n) s' (x.args.drop k) (y.args.drop k)=some r ->
     BN.L4 (.ptr 0 0) (.ptr 2 0) (.ptr 3 0) (.ro [.str a.name,.str b.name] 0) (.bool both) (.int .i64 x.args.length) (.int .i64 k) 2 (km s' dn' [.cells A3 (cT x),.cells A3 (cT y),.dead]) (Bx 2 BN.rs fun x H'=>∃ s' dn',mH Vs dn a r x s' dn'/\H'=rH s' dn')) ?_ ?_ 0 (by omega) s σ rk dn hu hN hwb (fun _ h=>h) hdn hdV (fun k hk=>.inl hk) c5
    ·intro k hk ih2 s' σ' rk' dn' hu' hN' hwb' hsat hdn' hdV' hkeys hsol
     have hk2:k<y.args.length:=by omega
     have hmx:=A4 hk
     have hmy:=A4 hk2
     rw[Al hk,Al hk2]at hsol
     generalize hc:x.args.getD k default=c at hmx hsol
     generalize he:y.args.getD k default=e at hmy hsol
     simp only[AF]at hsol
     cases hf:AZ n s' c e with
     | none=>rw[hf]at hsol;cases hsol
     | some p =>
      obtain⟨s1,ok⟩:=p
      rw[hf]at hsol
      have hcall:=ih s' σ' rk' dn' c e (s1,ok) hu' hN' hwb' (hxv.arg hmx) (hyv.arg hmy) (Ep hxw hmx) (Ep hyw hmy) hf (fun k hk=>by
       rcases hkeys k hk with h | h
       ·exact fun θ hθ=>hd k h θ (hsat θ hθ)
       ·exact h.1) hdn' hdV'
      obtain⟨σ2,rk2,hok2⟩:=FD n s' σ' rk' c e (s1,ok) hu' (hxv.arg hmx).1 (hyv.arg hmy).1 hf
      refine A8.2 ?_
      push_cast[BT hk,BT hk2,hc,he]
      refine QW (J:=[_,_,_]) (by push_cast[p0]) hcall ?_
      intro x' s2 dn2 hR
      obtain⟨rfl,hR⟩:=hR
      cases ok with
      | false =>
       simp only[Option.some.injEq]at hsol
       push_cast
       exact An (H:=rH s2 dn2) (J:=[_,_,_]) (FN s2 dn2) rfl ⟨s2,dn2,⟨by rw[<-hsol];rfl,fun h=>by rw[<-hsol]at h;cases h⟩,rfl⟩
      | true =>
       obtain⟨rfl,hm1,hm2,hm3⟩:=hR rfl
       push_cast[CV (show k<2^62 by omega)]
       have:=ih2 s2 σ2 rk2 dn2 hok2.ok (hN'.solve (hxv.arg hmx) (hyv.arg hmy) hf) (hwb'.solve (Ep hxw hmx) (Ep hyw hmy) hf) (fun θ hθ=>hsat θ (hθ.mono hok2.ext)) hm1 hm2 (fun k hk=>by
        rcases hm3 k hk with h | h
        ·rcases hkeys k h with h | h
         ·exact .inl h
         ·exact .inr ⟨fun θ hθ=>h.1 θ (hθ.mono hok2.ext),fun θ hθ=>h.2 θ (hθ.mono hok2.ext)⟩
        ·refine .inr ⟨h.1,fun θ hθ=>?_⟩
         have h1:=h.2 θ hθ
         have h2:=hsx θ (hsat θ (hθ.mono hok2.ext)) c hmx
         omega) hsol
       push_cast at this
       exact this
    ·intro s' σ' rk' dn' hu' hN' hwb' hsat hdn' hdV' hkeys hsol
     rw[Ao]at hsol
     simp only[AF,Option.some.injEq]at hsol
     subst hsol
     refine A8.2 ?_
     have hdl':=Wz hdn' hdV'
     have hkeep:∀ k∈dn',k∈dn\/(Pt s' k/\∀ θ,TO θ s'->size (θ k.1)<=size (app θ a)):=fun k hk=>by
      rcases hkeys k hk with h | h
      ·exact .inl h
      ·exact .inr ⟨h.1,fun θ hθ=>Nat.le_of_lt (h.2 θ hθ)⟩
     cases both with
     | false =>
      push_cast[B8 (Nat.le_refl _)]
      exact An (H:=rH s' dn') (J:=[_,_,_]) (FN s' dn') rfl ⟨s',dn',⟨rfl,fun _=>⟨rfl,hdn',hdV',hkeep⟩⟩,rfl⟩
     | true =>
      rw[Bool.and_eq_true]at hbo
      have hroom:(dn'.length+1)*32<=Ah:=U9 (show dn'.length<2^40 by omega) (show 32<=64 by omega)
      have hown:∀ i,(.own i 2 (dn'.map cK++[[V.str a.name,V.str b.name]]):V)=Bf cK i 2 (dn'++[(a.name,b.name)]):=fun i=>by simp[Bf,cK]
      push_cast[B8 (Nat.le_refl _),hroom,hown]
      have hlen3:dn'.length+1=(dn'++[(a.name,b.name)]).length:=by simp
      rw[hlen3]
      have hdone:∀ θ,TO θ s'->θ a.name=θ b.name:=fun θ hθ=>by
       have h4:=hok.eq rfl
       have h5:=hok.ok.sat_app hθ a
       have h6:=hok.ok.sat_app hθ b
       rw[h4,<-h6,Aw hbo.1,Aw hbo.2]at h5
       exact h5
      refine An (H:=rH s' (dn'++[(a.name,b.name)])) (J:=[_,_,_]) (FN s' _) rfl ⟨s',_,⟨rfl,fun _=>⟨rfl,?_,fun k hk=>?_,fun k hk=>?_⟩⟩,rfl⟩
      ·rw[List.nodup_append]
       refine⟨hdn',by simp,fun k hk q hq e=>?_⟩
       rw[List.mem_singleton.1 hq]at e
       subst e
       rcases hkeys _ hk with h | h
       ·exact hkey rfl h
       ·have:=h.2 σ' hu'.sat
        rw[Aw hbo.1]at this
        exact absurd this (Nat.lt_irrefl _)
      ·rcases List.mem_append.1 hk with h | h
       ·exact hdV' k h
       ·rw[List.mem_singleton.1 h]
        exact⟨ha.2 _ (AE.2 (.inl ⟨hbo.1,rfl⟩)),hb.2 _ (AE.2 (.inl ⟨hbo.2,rfl⟩))⟩
      ·rcases List.mem_append.1 hk with h | h
       ·exact hkeep k h
       ·rw[List.mem_singleton.1 h]
        exact .inr ⟨hdone,fun θ hθ=>by rw[Aw hbo.1];exact Nat.le_refl _⟩
  have rest:∀ (T:T),lk T 0=.ptr 0 0->lk T 4=.ptr 2 0->lk T 5=.ptr 3 0->lk T 7=.ro [.str a.name,.str b.name] 0->lk T 8=.bool (a.var&&b.var) ->
    AB prog BN.nd 2 [.c (.n 7)] T (km s dn [.cells A3 (cT a),.cells A3 (cT b),.dead]) (Bx 2 BN.rs fun x H'=>∃ s' dn',mH Vs dn a r x s' dn'/\H'=rH s' dn'):=by
   intro T h0 h4 h5 h7 h8
   have hK:=fJ s dn (by omega) a.name b.name
   have hK2:=Spec.mono hK (Q':=fun x' H'=>∃ s' dn',(x'=.bool (decide ((a.name,b.name)∈dn))/\s'=s/\dn'=dn)/\H'=rH s' dn') fun x' H' h=>⟨_,_,⟨h.1,rfl,rfl⟩,h.2⟩
   rw[qL]
   simp only[BN.nd]
   generalize hC:C.n 6=c6
   cases hbo:(a.var&&b.var)with
   | true =>
    rw[hbo]at h8
    push_cast[h0,h4,h5,h7,h8]
    refine QW (J:=[_,_,_]) (by push_cast[p0]) hK2 ?_
    rintro x' s' dn' ⟨rfl,rfl,rfl⟩
    by_cases hm:(a.name,b.name)∈dn'
    ·push_cast[hm]
     rw[Bool.and_eq_true]at hbo
     have hrr:r=(s',true):=Ya hu (n+1) a b r ha.1 hb.1 hr (by rw[Aw hbo.1,Aw hbo.2];exact hd _ hm σ hu.sat)
     exact An (H:=rH s' dn') (J:=[_,_,_]) (FN s' dn') rfl ⟨s',dn',⟨by rw[hrr];rfl,fun _=>⟨by rw[hrr],hdn,hdV,fun k hk=>.inl hk⟩⟩,rfl⟩
    ·push_cast[hm]
     subst hC
     exact rest2 _ true hbo (fun _=>hm) h0 h4 h5 h7 h8
   | false =>
    rw[hbo]at h8
    push_cast[h0,h4,h5,h7,h8]
    subst hC
    exact rest2 _ false hbo (fun h=>by cases h) h0 h4 h5 h7 h8
  refine AK mixed BN.ok rfl ?_
  unfold BN.body
  generalize hC:C.n 7=c7
  cases hva:a.var with
  | false =>
   push_cast[hva]
   subst hC
   refine⟨⟨?_,?_,?_⟩,⟨?_,?_⟩,?_⟩<;>exact rest _ rfl rfl rfl rfl (by rw[hva];rfl)
  | true =>
   push_cast[hva]
   subst hC
   refine⟨⟨?_,?_,?_⟩,⟨?_,?_⟩,?_⟩<;>exact rest _ rfl rfl rfl rfl (by rw[hva];rfl)
theorem ZM {s:List A6}:∀ {k n:Nat} {t h:Term},DR k s t=some h->FT s n t->FT s n h
 | 0,_,_,_,h,_=>by cases h
 | k+1,0,_,_,_,hn=>hn.elim
 | k+1,n+1,t,h,hh,hn=>by
  simp only[DR]at hh
  split at hh
  ·rename_i hv
   cases hi:Ae s t.name with
   | none=>rw[hi]at hh;cases hh;exact hn
   | some y =>
    rw[hi]at hh
    simp only[FT,if_pos hv]at hn
    exact (ZM hh (hn y hi)).mono (Nat.le_succ n)
  ·cases hh;exact hn
theorem Yv {s:List A6}:∀ (n:Nat)(t:Term),FT s n t->∃ h,DR n s t=some h
 | 0,_,h=>h.elim
 | n+1,t,h=>by
  simp only[FT]at h
  simp only[DR]
  cases hv:t.var with
  | true =>
   rw[if_pos hv]at h
   rw[if_pos rfl]
   cases hi:Ae s t.name with
   | none=>exact⟨t,rfl⟩
   | some x=>exact Yv n x (h x hi)
  | false=>exact⟨t,by simp⟩
theorem YI {s:List A6}{σ:EE}{rk:A9->Nat}(hu:FU s σ rk)(hl:s.length<2^62)(hwb:WB s):∀ (n:Nat)(t:Term),FT s n t->vfl t=true->Di t<2^40->PF JN [Bi s,Ap t] (Ap (app σ t)):=by
 intro n
 induction n with
 | zero=>intro t h;exact h.elim
 | succ n ih =>
  intro t hn ht hw
  obtain⟨h,hh⟩:=Yv (n+1) t hn
  have hW:=RP hl (n+1) t h hh
  have hhn:=ZM hh hn
  have hhv:vfl h=true:=C6 (P:=fun t=>vfl t=true) hu.vf ht hh
  have hhw:Di h<2^40:=C6 (P:=fun t=>Di t<2^40) hwb hw hh
  rw[<-Iz hu.sat hh]
  have hfree:h.var=true->Ae s h.name=none:=E8 hh
  clear hh hn
  refine Ab K3.ok rfl ?_
  push_cast
  refine .of hW ?_
  cases hv:h.var with
  | true =>
   have e:app σ h=h:=by rw[Aw hv,hu.free _ (hfree hv)];exact (QF hhv hv).symm
   rw[e]
   push_cast[hv]
   exact A1 (by push_cast[K3.rs])
  | false =>
   simp only[FT]at hhn
   rw[if_neg (by simp[hv])]at hhn
   rw[Ba hv]
   have hwa:=E9 h
   push_cast[hv]
   refine Ad (n:=h.args.length) (R:=fun k=>K3.L3 (Bi s) (.ptr 1 0) (.ptr 2 0) (Bg h.args) (.int .i64 h.args.length) (.int .i64 k) 0
    [.cells A3 (cT h),.cells A3 [.str [],.bool false,.sl 3 []],.cells A3 [.str h.name,.bool false,Bf cT 3 3 ((h.args.map (app σ)).take k)],.arr A3 3 k] _) ?_ ?_ 0 (by omega)
   ·intro k hk ih2
    have hme:=A4 hk
    have hk2:k<(h.args.map (app σ)).length:=by simpa using hk
    have hlt:((h.args.map (app σ)).take k).length=k:=by simp;omega
    have hge:(h.args.map (app σ)).getD k default=app σ (h.args.getD k default):=by
     simp[List.getD_eq_getElem?_getD,hk]
    have hc:=ih _ (hhn _ hme) (BJ hhv hme) (Ep hhw hme)
    rw[Aa hk2,hge]at ih2
    refine A8.2 ?_
    push_cast[BT hk]
    refine .of hc ?_
    push_cast[hlt,U9 (show k<2^40 by omega) (show 48<=64 by omega),CV (show k<2^62 by omega)]
    push_cast at ih2
    exact ih2
   ·refine A8.2 ?_
    push_cast[B8 (Nat.le_refl _)]
    rw[List.take_of_length_le (by simp)]
    refine A1 ?_
    push_cast[K3.rs]
    rw[Ap,OV];rfl
def WC (n:Nat):List V:=[.int .i64 n]
theorem tq {σ:Nat->Option Nat}(l:List Nat):(l.map WC).map (AR σ)=l.map WC:=by rw[List.map_map];rfl
attribute [push_cast] tq
abbrev Hb (l:List Nat):Ob:=.row EN 1 (l.map WC)
abbrev aN (sz dp:List Nat):List Ob:=[Hb sz,Hb dp]
theorem bZ (sz dp:List Nat):IU 2 (aN sz dp):=⟨rfl,by
 show [A5 (AM 2) (Hb sz),A5 (AM 2) (Hb dp)]=_
 push_cast⟩
def VD:List A6->List Nat->List Nat->A9->Nat×Nat
 | b::s,x::sz,y::dp,v=>if b.name=v then (x,y) else VD s sz dp v
 | _,_,_,_=>(1,1)
mutual
def P5 (f:A9->Nat×Nat):Term->Nat×Nat
 | .mk n v l=>if v then f n else ((Jb f 1 0 l).1,min (Jb f 1 0 l).2 200+1)
def Jb (f:A9->Nat×Nat)(c e:Nat):List Term->Nat×Nat
 | []=>(c,e)
 | a::l=>Jb f (min (c+(P5 f a).1) 4001) (max e (P5 f a).2) l
end
theorem Yg (f:A9->Nat×Nat)(t:Term):P5 f t=if t.var then f t.name else ((Jb f 1 0 t.args).1,min (Jb f 1 0 t.args).2 200+1):=by cases t;simp only[P5];rfl
theorem Ze {f:A9->Nat×Nat}:∀ (l:List Term)(c e:Nat),c<=4001->(Jb f c e l).1<=4001
 | [],c,e,h=>h
 | a::l,c,e,h=>Ze l _ _ (by omega)
theorem eM {f:A9->Nat×Nat}(hf:∀ v,(f v).1<=4001/\(f v).2<=201)(t:Term):(P5 f t).1<=4001/\(P5 f t).2<=201:=by
 rw[Yg]
 split
 ·exact hf _
 ·exact⟨Ze _ _ _ (by omega),by show min _ 200+1<=201;omega⟩
theorem Z7 (s:List A6)(sz dp:List Nat)(h1:sz.length=s.length)(h2:dp.length=s.length)(hl:s.length<2^62)(hf:∀ v,(VD s sz dp v).1<=4001/\(VD s sz dp v).2<=201)(t:Term):Di t<2^40 ->
  Spec prog JE [Bi s,.rw 0 1 s.length,.rw 1 1 s.length,Ap t] (aN sz dp) fun x H'=>x=.tup [.int .i64 (P5 (VD s sz dp) t).1,.int .i64 (P5 (VD s sz dp) t).2]/\H'=aN sz dp:=by
 induction t using Ag with
 | h t ih =>
 intro hw
 have hwa:=E9 t
 refine AK mixed JR.ok rfl ?_
 rw[Yg]
 cases hv:t.var with
 | true =>
  rw[if_pos rfl]
  push_cast[hv]
  refine Ad (n:=s.length) (R:=fun k=>VD (s.drop k) (sz.drop k) (dp.drop k) t.name=VD s sz dp t.name->JR.L8 (.rw 0 1 s.length) (.rw 1 1 s.length) (.ro (cT t) 0) (Bi s) (.int .i64 s.length) (.int .i64 k) 2 (aN sz dp) _) ?_ ?_ 0 (by omega) rfl
  ·intro k hk ih2 he
   have k1:k<sz.length:=by omega
   have k2:k<dp.length:=by omega
   rw[Al hk,Al k1,Al k2]at he
   simp only[VD]at he
   generalize hb:s.getD k default=b at he
   have g1:(sz.map WC)[k]?=some (WC (sz.getD k default)):=by simp[List.getD_eq_getElem?_getD,k1]
   have g2:(dp.map WC)[k]?=some (WC (dp.getD k default)):=by simp[List.getD_eq_getElem?_getD,k2]
   generalize hx:sz.getD k default=x at he g1
   generalize hy:dp.getD k default=y at he g2
   refine A8.2 ?_
   by_cases h:b.name=t.name
   ·rw[if_pos h]at he
    rw[<-he]
    have g0:∀ x,(WC x)[0]?=some (.int .i64 x):=fun _=>rfl
    push_cast[BT hk,hb,h,g1,g2,g0,List.length_map,h1,h2]
    exact An (H:=aN sz dp) (J:=[_]) (bZ sz dp) rfl ⟨rfl,rfl⟩
   ·rw[if_neg h]at he
    push_cast[BT hk,hb,h,CV (show k<2^62 by omega)]
    exact ih2 he
  ·intro he
   rw[Ao]at he
   refine A8.2 ?_
   push_cast[B8 (Nat.le_refl _)]
   rw[<-he]
   exact An (H:=aN sz dp) (J:=[]) (bZ sz dp) rfl ⟨rfl,rfl⟩
 | false =>
  rw[if_neg (by simp)]
  push_cast[hv]
  refine Ad (n:=t.args.length) (R:=fun k=>∀ (c e:Nat),c<=4001->e<=201->Jb (VD s sz dp) c e (t.args.drop k)=Jb (VD s sz dp) 1 0 t.args->JR.L3 (Bi s) (.rw 0 1 s.length) (.rw 1 1 s.length) (.int .i64 c) (.int .i64 e) (Bg t.args) (.int .i64 t.args.length) (.int .i64 k) 2 (aN sz dp) _) ?_ ?_ 0 (by omega) 1 0 (by omega) (by omega) rfl
  ·intro k hk ih2 c e hc he heq
   have hme:=A4 hk
   rw[Al hk]at heq
   simp only[Jb]at heq
   have hcall:=ih (t.args.getD k default) hme (Ep hw hme)
   have hle:=eM hf (t.args.getD k default)
   generalize P5 (VD s sz dp) (t.args.getD k default)=p at hcall heq hle
   obtain⟨a1,b1⟩:=p
   simp only at hle heq
   obtain⟨c1,hc1⟩:∃ c1,c1=min (c+a1) 4001:=⟨_,rfl⟩
   obtain⟨e1,he1⟩:∃ e1,e1=max e b1:=⟨_,rfl⟩
   rw[<-hc1,<-he1]at heq
   have hw1:IntKind.i64.wrap ((c:Int)+(a1:Int))=(c:Int)+a1:=Bs (by omega) (by omega)
   have hmn:(if (4001:Int)<(c:Int)+(a1:Int) then (4001:Int) else (c:Int)+(a1:Int))=(c1:Int):=by split<;>omega
   have hmx:(if (e:Int)<(b1:Int) then (b1:Int) else (e:Int))=(e1:Int):=by split<;>omega
   refine A8.2 ?_
   push_cast[BT hk]
   have h0:Ay [0,1] 0=some 0:=rfl
   have h1:Ay [0,1] 1=some 1:=rfl
   refine By.some [0,1] (by simp) (by simp) (R:=fun x' H'=>x'=.tup [.int .i64 a1,.int .i64 b1]/\H'=aN sz dp) ?_ ?_
   ·have e:give [0,1] (aN sz dp++[.dead])=aN sz dp:=by
     show [A5 (Ay [0,1]) (Hb sz),A5 (Ay [0,1]) (Hb dp)]=_
     push_cast
    push_cast[h0,h1]
    push_cast at e
    rw[e]
    exact hcall
   rintro x' H' ⟨rfl,rfl⟩ _
   have e:takeB [0,1] (aN sz dp++[.dead]) (aN sz dp)=aN sz dp++[.dead]:=by
    show [A5 (BY [0,1] 3) (Hb sz),A5 (BY [0,1] 3) (Hb dp),.dead]=_
    push_cast
   push_cast at e
   rw[e]
   have this:=ih2 c1 e1 (by omega) (by omega) heq
   push_cast[hw1,hmn,hmx,<-he1,CV (show k<2^62 by omega)]
   push_cast at this
   exact this
  ·intro c e hc he heq
   rw[Ao]at heq
   simp only[Jb]at heq
   rw[<-heq]
   obtain⟨e1,he1⟩:∃ e1,e1=min e 200:=⟨_,rfl⟩
   have hmn:(if (200:Int)<(e:Int) then (200:Int) else (e:Int))=(e1:Int):=by split<;>omega
   refine A8.2 ?_
   simp only[<-he1]
   push_cast[B8 (Nat.le_refl _),hmn,<-he1,CV (show e1<2^62 by omega)]
   exact An (H:=aN sz dp) (J:=[]) (bZ sz dp) rfl ⟨by push_cast[JR.rs],rfl⟩
def ml (σ:EE)(t:Term):Nat×Nat:=(min (size (app σ t)) 4001,min (depth (app σ t)) 201)
theorem eJ {σ:EE}{f:A9->Nat×Nat}(t:Term):(∀ w,Cz w t=true->f w=ml σ (BZ w))->P5 f t=ml σ t:=by
 induction t using Ag with
 | h t ih =>
 intro h
 rw[Yg]
 cases hv:t.var with
 | true =>
  rw[if_pos rfl,h _ (AE.2 (.inl ⟨hv,rfl⟩))]
  unfold ml
  rw[Aw (t:=BZ t.name) rfl,Aw hv];rfl
 | false =>
  rw[if_neg (by simp)]
  have key:∀ (l:List Term)(c e:Nat)(S D:Nat),(∀ a∈l,a∈t.args)->c=min S 4001->e=min D 201->Jb f c e l=(min (S+Ac (l.map (app σ))) 4001,min (max D (AC (l.map (app σ)))) 201):=by
   intro l
   induction l with
   | nil=>intro c e S D _ hc he;simp[Jb,Ac,AC,hc,he]
   | cons a l ihl =>
    intro c e S D hl hc he
    simp only[Jb]
    have ha:=ih a (hl a (by simp)) fun w hw=>h w (AE.2 (.inr ⟨a,hl a (by simp),hw⟩))
    rw[ha]
    rw[ihl _ _ (S+size (app σ a)) (max D (depth (app σ a))) (fun b hb=>hl b (by simp[hb])) (by simp only[ml];omega) (by simp only[ml];omega)]
    simp only[List.map_cons,Ac,AC]
    congr 1<;>omega
  rw[key t.args 1 0 1 0 (fun _ h=>h) (by omega) (by omega)]
  have e1:size (app σ t)=1+Ac (t.args.map (app σ)):=by rw[Ba hv];rfl
  have e2:depth (app σ t)=AC (t.args.map (app σ))+1:=by rw[Ba hv];rfl
  unfold ml
  rw[e1,e2]
  congr 1
  simp only;omega
theorem tI:∀ {s:List A6} {sz dp:List Nat} {i:Nat},(s.map (·.name)).Nodup->sz.length=s.length->dp.length=s.length->i<s.length->VD s sz dp (s.getD i default).name=(sz.getD i 0,dp.getD i 0)
 | [],_,_,i,_,_,_,h=>by simp at h
 | b::s,[],_,i,_,h,_,_=>by simp at h
 | b::s,x::sz,[],i,_,_,h,_=>by simp at h
 | b::s,x::sz,y::dp,0,_,_,_,_=>by simp[VD]
 | b::s,x::sz,y::dp,i+1,hn,h1,h2,hi=>by
  simp only[List.map_cons,List.nodup_cons]at hn
  have hi:i<s.length:=by simpa using hi
  have hne:b.name≠(s.getD i default).name:=fun e=>hn.1 (by rw[e];exact List.mem_map_of_mem (f:=(·.name)) (A4 hi))
  have e:(b::s).getD (i+1) default=s.getD i default:=by simp
  rw[e]
  simp only[VD]
  rw[if_neg hne,tI hn.2 (by simpa using h1) (by simpa using h2) hi]
  simp
theorem eX:∀ {s:List A6} {sz dp:List Nat} {v:A9},Ae s v=none->VD s sz dp v=(1,1)
 | [],_,_,_,_=>rfl
 | b::s,[],_,_,_=>rfl
 | b::s,x::sz,[],_,_=>rfl
 | b::s,x::sz,y::dp,v,h=>by
  simp only[Ae]at h
  simp only[VD]
  split at h
  ·cases h
  ·rename_i hne
   rw[if_neg hne]
   exact eX h
theorem iB:∀ {s:List A6} {sz dp:List Nat} {v:A9},(∀ x∈sz,x<=4001)->(∀ x∈dp,x<=201)->(VD s sz dp v).1<=4001/\(VD s sz dp v).2<=201
 | [],_,_,_,_,_=>by simp[VD]
 | b::s,[],_,_,_,_=>by simp[VD]
 | b::s,x::sz,[],_,_,_=>by simp[VD]
 | b::s,x::sz,y::dp,v,h1,h2=>by
  simp only[VD]
  split
  ·exact⟨h1 x (by simp),h2 y (by simp)⟩
  ·exact iB (fun z hz=>h1 z (by simp[hz])) (fun z hz=>h2 z (by simp[hz]))
theorem bP {s:List A6}(h:DE s):(s.map (·.name)).Nodup:=by
 rw[List.nodup_iff_pairwise_ne,List.pairwise_map]
 exact h.imp fun {a b} hab e=>by rw[e]at hab;exact Dr _ hab
def O2 (σ:EE)(s:List A6)(sz dp:List Nat)(i:Nat):Prop:=(sz.getD i 0,dp.getD i 0)=ml σ (BZ (s.getD i default).name)
def iC (σ:EE)(rk:A9->Nat)(s:List A6)(sz dp:List Nat)(k:Nat):Prop:=∀ i,i<s.length->eE s rk (s.getD i default).name<=k->O2 σ s sz dp i
theorem jr {s:List A6}{σ:EE}{rk:A9->Nat}(hu:FU s σ rk){sz dp:List Nat}(h1:sz.length=s.length)(h2:dp.length=s.length){k:Nat}(hr:iC σ rk s sz dp k){j:Nat}(hj:j<s.length)(hc:eE s rk (s.getD j default).name<=k+1) :
  P5 (VD s sz dp) (s.getD j default).term=ml σ (BZ (s.getD j default).name):=by
 have hb:=A4 hj
 have hi:=Fm hu.srt hb
 have e:ml σ (BZ (s.getD j default).name)=ml σ (s.getD j default).term:=by
  unfold ml
  rw[Aw (t:=BZ (s.getD j default).name) rfl,show (BZ (s.getD j default).name).name=(s.getD j default).name from rfl,hu.fix _ _ hi]
 rw[e]
 refine eJ _ fun w hw=>?_
 cases hw2:Ae s w with
 | none =>
  rw[eX hw2]
  unfold ml
  rw[Aw (t:=BZ w) rfl,show (BZ w).name=w from rfl,hu.free w hw2];rfl
 | some x =>
  obtain⟨i,hi2,e2⟩:=List.getElem_of_mem (Hv hw2)
  have e3:s.getD i default=⟨w,x⟩:=by simp[List.getD_eq_getElem?_getD,hi2,e2]
  have h4:=hu.cnt_lt hi hw
  have h5:=hr i hi2 (by rw[e3];show eE s rk w<=k;omega)
  have h6:=tI (bP hu.srt) h1 h2 hi2
  unfold O2 at h5
  rw[e3]at h5 h6
  rw[h6];exact h5
theorem dz {l:List Nat}{j i x:Nat}(hj:j<l.length):(l.set j x).getD i 0=if i=j then x else l.getD i 0:=by
 simp only[List.getD_eq_getElem?_getD,List.getElem?_set]
 by_cases h:j=i
 ·subst h;rw[if_pos rfl,if_pos rfl,if_pos hj];rfl
 ·rw[if_neg h,if_neg (fun e=>h e.symm)]
theorem py {l:List Nat}{j x m:Nat}(h:∀ y∈l,y<=m)(hx:x<=m):∀ y∈l.set j x,y<=m:=fun y hy=>by
 rcases List.mem_or_eq_of_mem_set hy with h2 | h2
 ·exact h y h2
 ·rw[h2];exact hx
theorem dh {s:List A6}{σ:EE}{rk:A9->Nat}(hu:FU s σ rk)(hl:s.length<2^38)(hwb:WB s):PF Pj [Bi s] (.bool (Fw s)):=by
 have hsig:=T3 hu
 have hc0:∀ x:Nat,(WC x)[0]?=some (.int .i64 x):=fun _=>rfl
 have main:∀ (i j:Nat)(Hf:List Nat->List Nat->List Ob),((i=0/\j=1/\Hf=fun sz dp=>[Hb sz,Hb dp])\/(i=1/\j=0/\Hf=fun sz dp=>[Hb dp,Hb sz])) ->
   Cp.L10 (Bi s) (.rw i 1 s.length) (.rw j 1 s.length) (.int .i64 s.length) (.int .i64 0) 0 (Hf (List.replicate s.length 0) (List.replicate s.length 0)) (Bx 0 Cp.rs fun x H=>x=.bool (Fw s)/\H=[]):=by
  intro i j Hf hcase
  refine Ad (n:=s.length) (R:=fun r=>∀ sz dp:List Nat,sz.length=s.length->dp.length=s.length->(∀ x∈sz,x<=4001)->(∀ x∈dp,x<=201)->iC σ rk s sz dp r->Cp.L10 (Bi s) (.rw i 1 s.length) (.rw j 1 s.length) (.int .i64 s.length) (.int .i64 r) 0 (Hf sz dp) (Bx 0 Cp.rs fun x H=>x=.bool (Fw s)/\H=[])) ?_ ?_ 0 (Nat.zero_le _) _ _ (by simp) (by simp) (fun x hx=>by rw[List.eq_of_mem_replicate hx];omega) (fun x hx=>by rw[List.eq_of_mem_replicate hx];omega) ?_
  ·intro r hr ih sz dp h1 h2 hs1 hs2 hR
   have inner:Cp.L8 (Bi s) (.rw i 1 s.length) (.rw j 1 s.length) (.int .i64 s.length) (.int .i64 r) (Bi s) (.int .i64 s.length) (.int .i64 0) 0 (Hf sz dp) (Bx 0 Cp.rs fun x H=>x=.bool (Fw s)/\H=[]):=by
    refine Ad (n:=s.length) (R:=fun k=>∀ sz dp:List Nat,sz.length=s.length->dp.length=s.length->(∀ x∈sz,x<=4001)->(∀ x∈dp,x<=201)->iC σ rk s sz dp r->(∀ i,i<k->i<s.length->eE s rk (s.getD i default).name<=r+1->O2 σ s sz dp i)->Cp.L8 (Bi s) (.rw i 1 s.length) (.rw j 1 s.length) (.int .i64 s.length) (.int .i64 r) (Bi s) (.int .i64 s.length) (.int .i64 k) 0 (Hf sz dp) (Bx 0 Cp.rs fun x H=>x=.bool (Fw s)/\H=[])) ?_ ?_ 0 (Nat.zero_le _) sz dp h1 h2 hs1 hs2 hR (fun i hi=>by omega)
    ·intro k hk ih2 sz dp h1 h2 hs1 hs2 hR hP
     have hb:=A4 hk
     have hi:=Fm hu.srt hb
     have hM:=Z7 s sz dp h1 h2 (by omega) (fun v=>iB hs1 hs2) (s.getD k default).term (hwb _ _ hi)
     have hle:=eM (f:=VD s sz dp) (fun v=>iB hs1 hs2) (s.getD k default).term
     have hstep:=fun hc=>jr hu h1 h2 hR hk hc
     generalize hp:P5 (VD s sz dp) (s.getD k default).term=p at hM hle hstep
     obtain⟨a1,b1⟩:=p
     have hnew:∀ i,i<s.length->eE s rk (s.getD i default).name<=r+1->(i<k+1\/eE s rk (s.getD i default).name<=r)->O2 σ s (sz.set k a1) (dp.set k b1) i:=fun i hi hc hor=>by
      unfold O2
      rw[dz (show k<sz.length by omega),dz (show k<dp.length by omega)]
      by_cases e:i=k
      ·subst e
       rw[if_pos rfl,if_pos rfl]
       exact hstep hc
      ·rw[if_neg e,if_neg e]
       rcases hor with h | h
       ·exact hP i (by omega) hi hc
       ·exact hR i hi h
     have:=ih2 (sz.set k a1) (dp.set k b1) (by simpa using h1) (by simpa using h2) (py hs1 hle.1) (py hs2 hle.2) (fun i hi hc=>hnew i hi (by omega) (.inr hc)) (fun i hik hi hc=>hnew i hi hc (.inl hik))
     have g1:(sz.map WC)[k]?=some (WC (sz.getD k 0)):=by simp[List.getD_eq_getElem?_getD,h1,hk]
     have g2:(dp.map WC)[k]?=some (WC (dp.getD k 0)):=by simp[List.getD_eq_getElem?_getD,h2,hk]
     have hset0:∀ (l:List Nat)(x:Nat),k<l.length->(l.map WC).set k (put 0 [V.int .i64 x] ((l.map WC).getD k []))=(l.set k x).map WC:=fun l x h=>by
      have e:(l.map WC).getD k []=WC (l.getD k 0):=by simp[List.getD_eq_getElem?_getD,h]
      rw[e,List.map_set];rfl
     have hset1:=fun x=>hset0 sz x (by omega)
     have hset2:=fun x=>hset0 dp x (by omega)
     refine A8.2 ?_
     rcases hcase with ⟨rfl,rfl,rfl⟩|⟨rfl,rfl,rfl⟩
     ·push_cast[BT hk]
      have h0:Ay [0,1] 0=some 0:=rfl
      have h1':Ay [0,1] 1=some 1:=rfl
      refine By.some [0,1] (by simp) (by simp) (R:=fun x' H'=>x'=.tup [.int .i64 a1,.int .i64 b1]/\H'=aN sz dp) ?_ ?_
      ·have e:give [0,1] [Hb sz,Hb dp,.dead]=aN sz dp:=by
        show [A5 (Ay [0,1]) (Hb sz),A5 (Ay [0,1]) (Hb dp)]=_
        push_cast
       rw[e]
       push_cast[h0,h1']
       exact hM
      rintro x' H' ⟨rfl,rfl⟩ _
      have e:takeB [0,1] [Hb sz,Hb dp,.dead] (aN sz dp)=[Hb sz,Hb dp,.dead]:=by
       show [A5 (BY [0,1] 3) (Hb sz),A5 (BY [0,1] 3) (Hb dp),.dead]=_
       push_cast
      rw[e]
      push_cast[g1,g2,hc0,hset1,hset2,List.length_map,h1,h2,BT hk,CV (show k<2^62 by omega)]
      push_cast at this
      exact⟨hk,hk,this⟩
     ·push_cast[BT hk]
      have h0:Ay [1,0] 0=some 1:=rfl
      have h1':Ay [1,0] 1=some 0:=rfl
      refine By.some [1,0] (by simp) (by simp) (R:=fun x' H'=>x'=.tup [.int .i64 a1,.int .i64 b1]/\H'=aN sz dp) ?_ ?_
      ·have e:give [1,0] [Hb dp,Hb sz,.dead]=aN sz dp:=by
        show [A5 (Ay [1,0]) (Hb sz),A5 (Ay [1,0]) (Hb dp)]=_
        push_cast
       rw[e]
       push_cast[h0,h1']
       exact hM
      rintro x' H' ⟨rfl,rfl⟩ _
      have e:takeB [1,0] [Hb dp,Hb sz,.dead] (aN sz dp)=[Hb dp,Hb sz,.dead]:=by
       show [A5 (BY [1,0] 3) (Hb dp),A5 (BY [1,0] 3) (Hb sz),.dead]=_
       push_cast
      rw[e]
      push_cast[g1,g2,hc0,hset1,hset2,List.length_map,h1,h2,BT hk,CV (show k<2^62 by omega)]
      push_cast at this
      exact⟨hk,hk,this⟩
    ·intro sz dp h1 h2 hs1 hs2 hR hP
     have:=ih sz dp h1 h2 hs1 hs2 (fun i hi hc=>hP i (by omega) hi hc)
     refine A8.2 ?_
     rcases hcase with ⟨rfl,rfl,rfl⟩|⟨rfl,rfl,rfl⟩
     all_goals
      push_cast[B8 (Nat.le_refl _),CV (show r<2^62 by omega)]
      push_cast at this
      exact this
   refine A8.2 ?_
   rcases hcase with ⟨rfl,rfl,rfl⟩|⟨rfl,rfl,rfl⟩
   all_goals
    push_cast[BT hr]
    exact inner
  ·intro sz dp h1 h2 hs1 hs2 hR
   have hall:∀ k,k<s.length->O2 σ s sz dp k:=fun k hk=>hR k hk (pX s rk _)
   refine A8.2 ?_
   have fin:Cp.L3 (.rw i 1 s.length) (.rw j 1 s.length) (.int .i64 s.length) (.int .i64 0) 0 (Hf sz dp) (Bx 0 Cp.rs fun x H=>x=.bool (Fw s)/\H=[]):=by
    refine Ad (n:=s.length) (R:=fun k=>((s.drop k).any fun b=>!BO (SW s b.name))=Fw s->Cp.L3 (.rw i 1 s.length) (.rw j 1 s.length) (.int .i64 s.length) (.int .i64 k) 0 (Hf sz dp) (Bx 0 Cp.rs fun x H=>x=.bool (Fw s)/\H=[])) ?_ ?_ 0 (Nat.zero_le _) rfl
    ·intro k hk ih he
     rw[Al hk]at he
     simp only[List.any_cons]at he
     have h4:=hall k hk
     unfold O2 ml at h4
     rw[Aw (t:=BZ (s.getD k default).name) rfl,show (BZ (s.getD k default).name).name=(s.getD k default).name from rfl]at h4
     rw[hsig]at he
     generalize σ (s.getD k default).name=u at h4 he
     injection h4 with e1 e2
     have g1:(sz.map WC)[k]?=some (WC (sz.getD k 0)):=by simp[List.getD_eq_getElem?_getD,h1,hk]
     have g2:(dp.map WC)[k]?=some (WC (dp.getD k 0)):=by simp[List.getD_eq_getElem?_getD,h2,hk]
     rw[e1]at g1
     rw[e2]at g2
     have hfe:BO u=(decide (size u<=4000)&&decide (depth u<=200)):=rfl
     generalize hp1:min (size u) 4001=p1 at g1
     generalize hp2:min (depth u) 201=p2 at g2
     refine A8.2 ?_
     by_cases c1:size u<=4000
     ·by_cases c2:depth u<=200
      ·have i1:((4000:Int)<(p1:Int))=False:=eq_false (by omega)
       have i2:((200:Int)<(p2:Int))=False:=eq_false (by omega)
       have hq:BO u=true:=by rw[hfe];simp[c1,c2]
       rw[hq]at he
       have this:=ih (by simpa[hsig]using he)
       rcases hcase with ⟨rfl,rfl,rfl⟩|⟨rfl,rfl,rfl⟩
       all_goals
        push_cast[BT hk,g1,g2,hc0,i1,i2,List.length_map,h1,h2,CV (show k<2^62 by omega)]
        push_cast at this
        exact this
      ·have i1:((4000:Int)<(p1:Int))=False:=eq_false (by omega)
       have i2:((200:Int)<(p2:Int))=True:=eq_true (by omega)
       have hq:BO u=false:=by rw[hfe];simp[c1,c2]
       rw[hq]at he
       have hh:Fw s=true:=by rw[<-he];simp
       rw[hh]
       rcases hcase with ⟨rfl,rfl,rfl⟩|⟨rfl,rfl,rfl⟩
       all_goals
        push_cast[BT hk,g1,g2,hc0,i1,i2,List.length_map,h1,h2]
        exact A1 (by push_cast[Cp.rs])
     ·have i1:((4000:Int)<(p1:Int))=True:=eq_true (by omega)
      have hq:BO u=false:=by rw[hfe];simp[c1]
      rw[hq]at he
      have hh:Fw s=true:=by rw[<-he];simp
      rw[hh]
      rcases hcase with ⟨rfl,rfl,rfl⟩|⟨rfl,rfl,rfl⟩
      all_goals
       push_cast[BT hk,g1,g2,hc0,i1,List.length_map,h1,h2]
       exact A1 (by push_cast[Cp.rs])
    ·intro he
     rw[Ao]at he
     rw[<-he]
     refine A8.2 ?_
     rcases hcase with ⟨rfl,rfl,rfl⟩|⟨rfl,rfl,rfl⟩
     all_goals
      push_cast[B8 (Nat.le_refl _)]
      exact A1 (by push_cast[Cp.rs];rfl)
   rcases hcase with ⟨rfl,rfl,rfl⟩|⟨rfl,rfl,rfl⟩
   all_goals
    push_cast[B8 (Nat.le_refl _)]
    exact fin
  ·intro i hi hc
   exfalso
   have:0<eE s rk (s.getD i default).name:=List.countP_pos_iff.2 ⟨_,A4 hi,by simp⟩
   omega
 refine Ab Cp.ok rfl ?_
 have hrow:∀ τ,List.map (AR τ) (List.replicate s.length [V.int IntKind.i64 0])=(List.replicate s.length 0).map WC:=fun τ=>by
  rw[List.map_replicate,List.map_replicate];rfl
 have m1:s.length<=Ah:=by unfold Ah;omega
 have m2:s.length*8<=Ah:=by unfold Ah;omega
 push_cast[hrow,m1,m2]
 exact⟨main 0 1 _ (.inl ⟨rfl,rfl,rfl⟩),main 1 0 _ (.inr ⟨rfl,rfl,rfl⟩)⟩
theorem Wt (l:List A2)(Vs:List A9)(D:Nat)(h:cr l Vs D)(hvs:Vs.length<2^18)(hnm:∀ v∈Vs,v.length<2^62):PF Iu [Ak l] (J1 (K0 (l.map (·.left)) (l.map (·.right)))):=by
 obtain⟨n,r,hr⟩:=IB Vs (l.map (·.left)) (l.map (·.right)) [] BZ (fun _=>0) FU.nil (fun v t h=>by cases h) (by simp only[List.mem_map];rintro z ⟨x,hx,rfl⟩;exact (h.am x hx).1) (by simp only[List.mem_map];rintro z ⟨x,hx,rfl⟩;exact (h.am x hx).2)
 have hS:=Nr hr
 have hlv:=h.len
 have p0:Ay [0,1] 0=some 0:=rfl
 refine Ab Ej.ok rfl ?_
 push_cast
 refine Ad (n:=l.length) (R:=fun k=>∀ (s:List A6)(σ:EE)(rk:A9->Nat)(dn:List Qf),FU s σ rk->NOk s Vs->WB s->(∀ k∈dn,Pt s k)->dn.Nodup->(∀ k∈dn,k.1∈Vs/\k.2∈Vs) ->
   AF (AZ n) s ((l.map (·.left)).drop k) ((l.map (·.right)).drop k)=some r->Ej.L8 (.ptr 0 0) (Ak l) (.int .i64 l.length) (.int .i64 k) 0 (km s dn []) (Bx 0 Ej.rs fun x H'=>x=J1 (K0 (l.map (·.left)) (l.map (·.right)))/\H'=[])) ?_ ?_ 0 (by omega)
  [] BZ (fun _=>0) [] FU.nil ⟨fun v t h=>(by cases h),hvs,hnm⟩ (fun v t h=>by cases h) (fun k h=>by cases h) List.nodup_nil (fun k h=>by cases h) hr
 ·intro k hk ih s σ rk dn hu hN hwb hdone hdn hdV hsol
  have hme:=A4 hk
  have e1:(l.map (·.left)).getD k default=(l.getD k default).left:=by simp[List.getD_eq_getElem?_getD,hk]
  have e2:(l.map (·.right)).getD k default=(l.getD k default).right:=by simp[List.getD_eq_getElem?_getD,hk]
  rw[Al (show k<(l.map (·.left)).length by simpa using hk),Al (show k<(l.map (·.right)).length by simpa using hk),e1,e2]at hsol
  generalize hx:l.getD k default=x at hme hsol
  obtain⟨hal,har⟩:=h.am x hme
  obtain⟨hwl,hwr⟩:=h.wd x hme
  simp only[AF]at hsol
  cases hf:AZ n s x.left x.right with
  | none=>rw[hf]at hsol;cases hsol
  | some p =>
   obtain⟨s1,ok⟩:=p
   rw[hf]at hsol
   obtain⟨σ1,rk1,hok⟩:=FD n s σ rk x.left x.right (s1,ok) hu hal.1 har.1 hf
   have hc:=dL n s σ rk dn x.left x.right (s1,ok) hu hN hwb hal har hwl hwr hf hdone hdn hdV
   refine A8.2 ?_
   push_cast[BT hk,hx]
   refine QW (J:=[_]) (by push_cast[p0]) hc ?_
   rintro x' s2 dn2 ⟨rfl,hR⟩
   cases ok with
   | false =>
    simp only[Option.some.injEq]at hsol
    have hu2:K0 (l.map (·.left)) (l.map (·.right))=([],false,0):=by unfold K0;rw[hS,<-hsol];rfl
    push_cast
    rw[hu2]
    exact A1 (by push_cast[Ej.rs];rfl)
   | true =>
    obtain⟨rfl,hm1,hm2,hm3⟩:=hR rfl
    push_cast[CV (show k<2^62 by omega)]
    have:=ih s2 σ1 rk1 dn2 hok.ok (hN.solve hal har hf) (hwb.solve hwl hwr hf) (fun k hk=>by
     rcases hm3 k hk with h | h
     ·exact fun θ hθ=>hdone k h θ (hθ.mono hok.ext)
     ·exact h.1) hm1 hm2 hsol
    push_cast at this
    exact this
 ·intro s σ rk dn hu hN hwb hdone hdn hdV hsol
  have e1:(l.map (·.left)).drop l.length=[]:=by rw[List.drop_eq_nil_of_le];simp
  rw[e1]at hsol
  simp only[AF,Option.some.injEq]at hsol
  have hlen:=HN hu.srt hN.am
  have hsig:=T3 hu
  have hL:=dh hu (by omega) hwb
  have hu2:J1 (K0 (l.map (·.left)) (l.map (·.right)))=(if Fw s then .tup [Bi [],.bool false,.int .i64 3] else .tup [Bi (Ds s),.bool true,.int .i64 0]):=by
   unfold K0
   rw[hS,<-hsol]
   simp only[Bool.true_eq_false,if_false]
   cases Fw s<;>rfl
  rw[hu2]
  refine A8.2 ?_
  push_cast[B8 (Nat.le_refl _)]
  refine .of hL ?_
  cases hh:Fw s with
  | true =>
   push_cast
   exact A1 (by push_cast[Ej.rs];rfl)
  | false =>
   push_cast
   have hwl:(Ds s).length=s.length:=by simp[Ds]
   refine Ad (n:=s.length) (R:=fun k=>Ej.L3 (.ptr 0 0) (Bf cB 2 4 ((Ds s).take k)) (Bi s) (.int .i64 s.length) (.int .i64 k) 0 (km s dn [.arr C4 4 k]) _) ?_ ?_ 0 (by omega)
   ·intro k hk ih2
    have hb:=A4 hk
    have hi:=Fm hu.srt hb
    obtain⟨m,hn⟩:=hu.need (s.getD k default).term
    have hRs:=YI hu (by omega) hwb m (s.getD k default).term hn (hu.vf _ _ hi) (hwb _ _ hi)
    have hge:(Ds s).getD k default=⟨(s.getD k default).name,app σ (s.getD k default).term⟩:=by
     unfold Ds
     rw[hsig,<-hu.fix _ _ hi]
     simp[List.getD_eq_getElem?_getD,hk]
    have hlt:((Ds s).take k).length=k:=by simp[hwl];omega
    rw[Aa (by omega),hge]at ih2
    refine A8.2 ?_
    push_cast[BT hk]
    refine .of hRs ?_
    push_cast[hlt,Xc,U9 (show k<2^40 by omega) (show 64<=64 by omega),CV (show k<2^62 by omega)]
    push_cast at ih2
    exact ih2
   ·refine A8.2 ?_
    push_cast[B8 (Nat.le_refl _)]
    rw[List.take_of_length_le (by omega)]
    refine A1 ?_
    push_cast[Ej.rs]
theorem aw (t:Term):Di t<=size t:=by
 induction t using Ag with
 | h t ih =>
 have h1:=AJ t
 have h2:=Aj t.args
 have key:∀ l:List Term,(∀ a∈l,Di a<=size a)->K1 l<=Ac l:=by
  intro l
  induction l with
  | nil=>intro _;simp[K1,Ac]
  | cons a l ihl =>
   intro h
   have:=h a (by simp)
   have:=ihl fun b hb=>h b (by simp[hb])
   simp only[K1,Ac];omega
 have h3:=key t.args ih
 have h4:Di t=max t.args.length (K1 t.args):=by cases t;rfl
 omega
theorem UO {v:A9}(t:Term):short t=true->Cz v t=true->v.length<=24:=by
 induction t using Ag with
 | h t ih =>
 intro h ho
 obtain⟨h1,h2,h3⟩:=CJ.1 h
 rcases AE.1 ho with ⟨_,e⟩|⟨a,ha,ho⟩
 ·rw[<-e];exact h1
 ·exact ih a ha (h3 a ha) ho
theorem SL {P:Term->Prop}{Q:A9->Prop}(hP:∀ t a,P t->a∈t.args->P a)(hQ:∀ t,P t->t.var=true->Q t.name){n:Nat}:∀ (l m:List Term)(s:List A6)(r:List A6×Bool),(∀ v t,Ae s v=some t->P t/\Q v)->(∀ a∈l,P a)->(∀ b∈m,P b)->AF (AZ n) s l m=some r->∀ v t,Ae r.1 v=some t->P t/\Q v
 | [],m,s,r,hs,_,_,h=>by simp only[AF,Option.some.injEq]at h;subst h;exact hs
 | a::l,[],s,r,hs,_,_,h=>by simp only[AF,Option.some.injEq]at h;subst h;exact hs
 | a::l,b::m,s,r,hs,hl,hm,h=>by
  simp only[AF]at h
  cases hf:AZ n s a b with
  | none=>rw[hf]at h;cases h
  | some p =>
   obtain⟨s1,ok⟩:=p
   rw[hf]at h
   have h1:=K7 hP hQ n s a b _ hs (hl a (by simp)) (hm b (by simp)) hf
   cases ok with
   | false=>simp only[Option.some.injEq]at h;subst h;exact h1
   | true=>exact SL hP hQ l m s1 r h1 (fun x hx=>hl x (by simp[hx])) (fun x hx=>hm x (by simp[hx])) h
theorem ai {f:EE}(t:Term):short t=true->(∀ v,Cz v t=true->short (f v)=true)->short (app f t)=true:=by
 induction t using Ag with
 | h t ih =>
 intro ht h
 obtain⟨h1,h2,h3⟩:=CJ.1 ht
 cases hv:t.var with
 | true=>rw[Aw hv];exact h _ (AE.2 (.inl ⟨hv,rfl⟩))
 | false =>
  rw[Ba hv]
  refine CJ.2 ⟨h1,(fun e=>by cases e),fun a ha=>?_⟩
  simp only[Term.args,List.mem_map]at ha
  obtain⟨b,hb,rfl⟩:=ha
  exact ih b hb (h3 b hb) fun v hv=>h v (AE.2 (.inr ⟨b,hb,hv⟩))
theorem FU.short {s:List A6}{σ:EE}{rk:A9->Nat}(h:FU s σ rk)(hs:∀ v t,Ae s v=some t->Dw.short t=true)(v:A9):v.length<=24->Dw.short (σ v)=true:=by
 revert v
 refine h.ind fun v ih=>?_
 intro hv
 cases hi:Ae s v with
 | none =>
  rw[h.free v hi]
  exact CJ.2 ⟨hv,fun _=>rfl,fun a ha=>by cases ha⟩
 | some t =>
  rw[h.fix v t hi]
  exact ai t (hs v t hi) fun w hw=>ih t w hi hw (UO t (hs v t hi) hw)
structure C2 (t:Term):Prop where
 sh:short t=true
 sz:size t<=4000
 dp:depth t<=200
theorem C2.vf {t:Term}(h:C2 t):vfl t=true:=TR t h.sh
theorem C2.tb {t:Term}(h:C2 t):tb t<2^20:=by have:=Yu t h.sh;have:=h.sz;omega
theorem C2.of_check {t:Term}(h:F2 t=0):C2 t:=by
 obtain⟨h1,h2⟩:=Nk.1 h
 unfold BO at h2
 rw[Bool.and_eq_true,decide_eq_true_eq,decide_eq_true_eq]at h2
 exact⟨TC t h1,h2.1,h2.2⟩
def vs2 (a b:Term):List A9:=E3 a++E3 b
theorem bS {a b:Term}(ha:C2 a)(hb:C2 b):(vs2 a b).length<=8000:=by
 have h1:=Iy a []
 have h2:=Iy b []
 have h3:=ha.sz
 have h4:=hb.sz
 unfold vs2
 rw[List.length_append]
 have e1:E3 a=Dx [] a:=rfl
 have e2:E3 b=Dx [] b:=rfl
 rw[e1,e2]
 simp only[List.length_nil]at h1 h2
 omega
theorem KQ {a b:Term}{w:A9}:w∈vs2 a b↔Cz w a=true\/Cz w b=true:=by
 unfold vs2
 rw[List.mem_append]
 have h1:=F9 w a []
 have h2:=F9 w b []
 simp only[List.not_mem_nil,false_or]at h1 h2
 exact or_congr h1 h2
theorem fI {a b:Term}(ha:C2 a)(hb:C2 b):cr [⟨a,b⟩] (vs2 a b) 200:=by
 have hl:=bS ha hb
 have h1:=aw a
 have h2:=aw b
 have h3:=ha.sz
 have h4:=hb.sz
 refine⟨fun x hx=>?_,fun x hx=>?_,fun x hx=>?_,by omega,by omega,by simp⟩
 all_goals rw[List.mem_singleton.1 hx]
 ·exact⟨⟨ha.vf,fun w hw=>KQ.2 (.inl hw)⟩,⟨hb.vf,fun w hw=>KQ.2 (.inr hw)⟩⟩
 ·exact⟨by show Di a<_;omega,by show Di b<_;omega⟩
 ·exact⟨ha.dp,hb.dp⟩
theorem aO {a b:Term}(ha:C2 a)(hb:C2 b):∀ v∈vs2 a b,v.length<=24:=fun v hv=>by
 rcases KQ.1 hv with h | h
 ·exact UO a ha.sh h
 ·exact UO b hb.sh h
noncomputable abbrev EP (a b:Term):List A6×Bool×Int:=K0 [a] [b]
theorem bu {a b:Term}(ha:C2 a)(hb:C2 b):PF JI [Ak [⟨a,b⟩]] (J1 (EP a b)):=YU _ _ _ (fI ha hb)
theorem WZ {a b:Term}(ha:C2 a)(hb:C2 b):PF Iu [Ak [⟨a,b⟩]] (J1 (EP a b)) :=
 Wt _ _ _ (fI ha hb) (by have:=bS ha hb;omega) fun v hv=>by have:=aO ha hb v hv;omega
structure Aet (a b:Term) (s:List A6):Prop where
 srt:DE s
 len:s.length<=8000
 sh:∀ x∈s,short x.term=true/\size x.term<=4000/\x.name.length<=24
 bb:YF s<2^34
theorem AaQ {s:List A6}{m:Nat}(h:∀ x∈s,1+x.name.length+tb x.term<=m):YF s<=s.length*m:=by
 induction s with
 | nil=>simp[YF]
 | cons x s ih =>
  have h1:=h x (by simp)
  have h2:=ih fun y hy=>h y (by simp[hy])
  simp only[YF,List.length_cons,Nat.succ_mul];omega
theorem Sg (a b:Term):(EP a b).2.2=0\/((EP a b).2.2=3/\(EP a b).2.1=false):=by
 unfold EP K0
 split
 ·exact .inl rfl
 ·split
  ·exact .inr ⟨rfl,rfl⟩
  ·exact .inl rfl
theorem dR {a b:Term}(ha:C2 a)(hb:C2 b)(h:(EP a b).2.1=true):Aet a b (EP a b).1/\(EP a b).2.2=0/\(EP a b).1=Ds (HF [a] [b]).1:=by
 obtain⟨n,r,hr⟩:=IB (vs2 a b) [a] [b] [] BZ (fun _=>0) FU.nil (fun v t h=>by cases h) (fun z hz=>by rw[List.mem_singleton.1 hz];exact⟨ha.vf,fun w hw=>KQ.2 (.inl hw)⟩) (fun z hz=>by rw[List.mem_singleton.1 hz];exact⟨hb.vf,fun w hw=>KQ.2 (.inr hw)⟩)
 have hS:=Nr hr
 obtain⟨rk,hu,ham,_,_⟩:=ac (Vs:=vs2 a b) (l:=[a]) (m:=[b]) (fun z hz=>by rw[List.mem_singleton.1 hz];exact⟨ha.vf,fun w hw=>KQ.2 (.inl hw)⟩) (fun z hz=>by rw[List.mem_singleton.1 hz];exact⟨hb.vf,fun w hw=>KQ.2 (.inr hw)⟩) rfl
 have hk:=SL (P:=fun t=>short t=true) (Q:=fun _=>True) (fun t a h ha=>(CJ.1 h).2.2 a ha) (fun _ _ _=>trivial) [a] [b] [] r (fun v t h=>by cases h) (fun z hz=>by rw[List.mem_singleton.1 hz];exact ha.sh) (fun z hz=>by rw[List.mem_singleton.1 hz];exact hb.sh) hr
 rw[<-hS]at hk
 unfold EP K0 at h ⊢
 generalize HF [a] [b]=q at h hu ham hk
 by_cases c1:q.2=false
 ·rw[if_pos c1]at h;cases h
 ·rw[if_neg c1]at h ⊢
  by_cases c2:Fw q.1=true
  ·rw[if_pos c2]at h;cases h
  ·rw[if_neg c2]
   have hlen:=HN hu.srt ham
   have hv2:=bS ha hb
   have hmem:∀ x∈Ds q.1,short x.term=true/\size x.term<=4000/\x.name.length<=24:=by
    intro x hx
    unfold Ds at hx
    obtain⟨y,hy,rfl⟩:=List.mem_map.1 hx
    have hi:=Fm hu.srt hy
    have hnm:y.name.length<=24:=aO ha hb _ (ham _ _ hi).2
    refine⟨hu.short (fun v t h=>(hk v t h).1) y.name hnm,?_,hnm⟩
    have c3:Fw q.1=false:=by simpa using c2
    unfold Fw at c3
    rw[List.any_eq_false]at c3
    have:=c3 y hy
    unfold BO at this
    simp only[Bool.not_eq_true,Bool.not_eq_false',Bool.not_not,Bool.and_eq_true,decide_eq_true_eq]at this
    exact this.1
   have hwl:(Ds q.1).length=q.1.length:=by simp[Ds]
   refine⟨⟨?_,by rw[hwl];omega,hmem,?_⟩,rfl,rfl⟩
   ·unfold Ds DE
    rw[List.pairwise_map]
    exact hu.srt
   ·have h1:=AaQ (s:=Ds q.1) (m:=100100) fun x hx=>by
     obtain⟨e1,e2,e3⟩:=hmem x hx
     have:=Yu x.term e1
     omega
    have h2:(Ds q.1).length*100100<=8000*100100:=Nat.mul_le_mul_right _ (by rw[hwl];omega)
    show YF (Ds q.1)<2^34
    omega
theorem eh:∀ (k n:Nat),n<10^(k+1)->(IS n).length<=k+1
 | 0,n,h=>by unfold IS Lib.decDigits;rw[dif_pos (by simpa using h)];simp
 | k+1,n,h=>by
  unfold IS Lib.decDigits
  split
  ·simp
  ·have:=eh k (n / 10) (by rw[Nat.pow_succ]at h;omega)
   unfold IS at this
   simp only[List.length_append,List.length_singleton];omega
theorem xA {l:List A9}{v:A9}{j:Nat}(h:ER l v=some j):j<l.length:=by
 induction l generalizing j with
 | nil=>cases h
 | cons x l ih =>
  simp only[ER]at h
  split at h
  ·cases h;simp
  ·cases hq:ER l v with
   | none=>rw[hq]at h;cases h
   | some i =>
    rw[hq]at h;cases h
    have:=ih hq
    simp;omega
theorem mw {f:EE}(hf:∀ v,∃ w,f v=BZ w)(t:Term):vfl t=true->size (app f t)=size t/\depth (app f t)=depth t:=by
 induction t using Ag with
 | h t ih =>
 intro ht
 cases hv:t.var with
 | true =>
  rw[Aw hv]
  obtain⟨w,hw⟩:=hf t.name
  rw[hw,QF ht hv];exact⟨rfl,rfl⟩
 | false =>
  have key:∀ l:List Term,(∀ a∈l,a∈t.args)->Ac (l.map (app f))=Ac l/\AC (l.map (app f))=AC l:=by
   intro l
   induction l with
   | nil=>intro _;exact⟨rfl,rfl⟩
   | cons a l ihl =>
    intro hl
    have h1:=ih a (hl a (by simp)) (BJ ht (hl a (by simp)))
    have h2:=ihl fun b hb=>hl b (by simp[hb])
    simp only[List.map_cons,Ac,AC,h1,h2,and_self]
  have h3:=key t.args fun _ h=>h
  have e1:=AJ t
  have e2:=Fg t
  rw[Ba hv]
  have e3:size (Term.mk t.name false (t.args.map (app f)))=1+Ac (t.args.map (app f)):=rfl
  have e4:depth (Term.mk t.name false (t.args.map (app f)))=AC (t.args.map (app f))+1:=rfl
  omega
theorem dk {pre:A9}(hp:pre.length=1){l:List A9}(hl:l.length<=4000){t:Term}(ht:C2 t)(hs:RC l t):C2 (app (Nm pre l) t):=by
 have h1:=mw (f:=Nm pre l) (fun v=>⟨_,rfl⟩) t ht.vf
 refine⟨ai t ht.sh fun v hv=>?_,by rw[h1.1];exact ht.sz,by rw[h1.2];exact ht.dp⟩
 unfold Nm
 cases hq:ER l v with
 | none=>exact absurd (hs v hv) (Lh.1 hq)
 | some j =>
  have h2:=xA hq
  have h3:=eh 3 j (by omega)
  exact CJ.2 ⟨by show (pre++IS j).length<=24;rw[List.length_append];omega,fun _=>rfl,fun a ha=>by cases ha⟩
structure It (x:A2):Prop where
 l:C2 x.left
 r:C2 x.right
 v:∀ v,Cz v x.right=true->Cz v x.left=true
theorem KW {pre:A9}(hp:pre.length=1){x:A2}(h:It x):It (Ch pre x):=by
 have hl:(AH [] x.left).length<=4000:=by have:=Ph x.left [];have:=h.l.sz;simp only[List.length_nil]at *;omega
 have hs:=(Hq x.left []).2 h.l.vf
 have hs2:RC (AH [] x.left) x.right:=fun v hv=>hs v (h.v v hv)
 refine⟨dk hp hl h.l hs,dk hp hl h.r hs2,fun v hv=>?_⟩
 obtain⟨w,h1,h2⟩:=(Tb x.right h.r.vf).1 hv
 exact (Tb x.left h.l.vf).2 ⟨w,h.v w h1,h2⟩
theorem S1 (p:List Int)(hp:p.length<2^40):PF BQ [Ht p] (Ht p):=by
 refine Ab CD.ok rfl ?_
 push_cast
 intro c hc
 refine⟨fun h=>?_,fun h=>⟨by rw[List.length_map];unfold Ah;omega,?_⟩⟩
 ·have hp0:p=[]:=by simpa using hc (by cases c<;>simp_all)
  subst hp0
  exact A1 (by push_cast[CD.rs];rfl)
 ·exact A1 (by push_cast[CD.rs];rfl)
theorem af {N:Nat->C}{B:Nat}{k:List K}{t:T}{Q:X->T->List Ob->Prop}{dd:Option Nat}{l:List S}(H:List Ob)(k':AB prog N B (.r l::k) (FK dd (.fn (.func Dn) [] [.ptr (H.length+1) 0]) t) (oM H [] []) Q):By prog N B dd l k t Q (.func Fv) [] H:=by
 refine By.some [] (by simp) (by simp) (R:=fun x' H'=>x'=.fn (.func Dn) [] [.ptr 1 0]/\H'=nH []) ?_ ?_
 ·exact Be▸VL
 rintro x' H' ⟨rfl,rfl⟩ _
 have h0:∀ n,BY [] n 0=some n:=fun n=>rfl
 have h1:∀ n,BY [] n 1=some (n+1):=fun n=>rfl
 have e:takeB [] H (nH [])=oM H [] []:=by
  unfold takeB
  have e1:Pq [] H ((nH []).map (A5 (BY [] H.length)))=H:=by
   unfold Pq
   apply List.ext_getElem?
   intro i
   by_cases hi:i<H.length
   ·simp[Ay,hi,List.getD_eq_getElem?_getD]
   ·simp[hi]
  rw[e1]
  push_cast[h0]
  rfl
 rw[e]
 push_cast[h1]at k' ⊢
 exact k'
abbrev ovZ:List V:=[.int .i64 0,.int .i64 0,.sl 1 [],.str [],.bool false,.sl 3 [],.str [],.bool false,.sl 3 [],.str [],.bool false,.sl 3 []]
abbrev yQ (W:Term):List Ob:=[.cells DO ovZ,.dead,.dead,.cells A3 (cT W)]
theorem Mc (z:Term):AR (Ay [4,5]) [Ap z,V.ptr 5 0]=[Ap z,V.ptr 1 0]:=by
 have q5:Ay [4,5] 5=some 1:=rfl
 push_cast[q5]
structure Fq where
 outer:Int
 inner:Int
 pos:List Int
 peak:Term
 left:Term
 right:Term
def Ac3:Fq:=⟨0,0,[],uo,uo,uo⟩
def Wg (o:Fq):List V:=[.int .i64 o.outer,.int .i64 o.inner,Ht o.pos]++cT o.peak++cT o.left++cT o.right
def Zb (o:Fq):V:=.agg (Wg o)
theorem ns {σ:Nat->Option Nat}(o:Fq):ren σ (Zb o)=Zb o:=rfl
noncomputable def DV (a b:A2)(pos:List Int)(sub:Term):Bool×Int :=
 if (EP sub b.left).2.1=false then (false,(EP sub b.left).2.2)
 else if (BO (AD (EP sub b.left).1 a.left)&&(BO (AD (EP sub b.left).1 a.right)&&BO (AD (EP sub b.left).1 b.right)))=false then (false,3)
 else if BO (IG (AD (EP sub b.left).1 a.left) pos (AD (EP sub b.left).1 b.right))=false then (false,3) else (true,0)
noncomputable def ovO (a b:A2)(pos:List Int)(sub:Term):Fq :=
 if (DV a b pos sub).1 then
  let s:=(EP sub b.left).1
  let p:=Hd [120] [] (AD s a.left)
  let q:=Hd [120] p.1 (AD s a.right)
  ⟨0,0,pos,p.2,q.2,(Hd [120] q.1 (IG (AD s a.left) pos (AD s b.right))).2⟩
 else Ac3
theorem YQ {a b:A2}(ha:It a)(hb:It b){pos:List Int}(hpos:pos.length<2^20){sub:Term}(hsub:C2 sub) :
  PF ML [JW a,JW b,Ht pos,Ap sub] (.tup [Zb (ovO a b pos sub),.bool (DV a b pos sub).1,.int .i64 (DV a b pos sub).2]):=by
 have hU:=bu hsub hb.l
 have hE:=Sg sub b.left
 have hO:=dR hsub hb.l
 unfold ovO DV
 generalize hu:EP sub b.left=u at hU hE hO
 obtain⟨s,ok,e⟩:=u
 simp only at hE hO
 refine Ab Ei.ok rfl ?_
 push_cast
 refine .of hU ?_
 cases ok with
 | false =>
  simp only[if_true,Bool.false_eq_true,if_false]
  rcases hE with rfl | ⟨rfl,_⟩
  ·push_cast[J1]
   exact A1 (by push_cast[Ei.rs];rfl)
  ·push_cast[J1]
   exact A1 (by push_cast[Ei.rs];rfl)
 | true =>
  obtain⟨hs,rfl,_⟩:=hO rfl
  have hI1:=Jz s hs.srt hs.bb a.left (by have:=ha.l.tb;omega)
  have hI2:=Jz s hs.srt hs.bb a.right (by have:=ha.r.tb;omega)
  have hI3:=Jz s hs.srt hs.bb b.right (by have:=hb.r.tb;omega)
  simp only[Bool.true_eq_false,if_false]
  clear hU hE hO hu
  by_cases hf:(BO (AD s a.left)&&(BO (AD s a.right)&&BO (AD s b.right)))=false
  ·rw[if_pos hf]
   simp only[Bool.false_eq_true,if_false]
   cases f1:BO (AD s a.left)<;>cases f2:BO (AD s a.right)<;>cases f3:BO (AD s b.right)
   case true.true.true=>rw[f1,f2,f3]at hf;cases hf
   all_goals
    rw[f1]at hI1
    rw[f2]at hI2
    rw[f3]at hI3
    simp only[Bool.false_eq_true,if_false,if_true,GK]at hI1 hI2 hI3
    push_cast[J1]
    refine .of hI1 ?_
    push_cast
    refine .of hI2 ?_
    push_cast
    refine .of hI3 ?_
    push_cast
    exact A1 (by push_cast[Ei.rs];rfl)
  ·rw[if_neg hf]
   have hf2:BO (AD s a.left)=true/\BO (AD s a.right)=true/\BO (AD s b.right)=true:=by simpa using hf
   obtain⟨f1,f2,f3⟩:=hf2
   rw[f1]at hI1
   rw[f2]at hI2
   rw[f3]at hI3
   simp only[if_true,GK]at hI1 hI2 hI3
   have z1:size (AD s a.left)<=4000:=by unfold BO at f1;simp at f1;exact f1.1
   have z2:size (AD s a.right)<=4000:=by unfold BO at f2;simp at f2;exact f2.1
   have z3:size (AD s b.right)<=4000:=by unfold BO at f3;simp at f3;exact f3.1
   have hSet:=jw pos (AD s a.left) (AD s b.right) (by omega) (by omega) (by omega)
   have z4:=Ue pos (AD s a.left) (AD s b.right)
   have hFit:=XD (IG (AD s a.left) pos (AD s b.right)) (by omega)
   generalize AD s a.left=P at *
   generalize AD s a.right=L at *
   generalize AD s b.right=R at *
   generalize IG P pos R=W at *
   push_cast[J1]
   refine .of hI1 ?_
   push_cast
   refine .of hI2 ?_
   push_cast
   refine .of hI3 ?_
   push_cast
   refine .of hSet ?_
   push_cast
   refine .of hFit ?_
   cases f4:BO W with
   | false =>
    push_cast[GK]
    exact A1 (by push_cast[Ei.rs];rfl)
   | true =>
    push_cast[GK]
    have hC:=S1 pos (by omega)
    have r1:=Nj [120] P []
    have r2:=Nj [120] L (Hd [120] [] P).1
    simp only[List.length_nil]at r1
    have hN1:=Eh [] P (by simp;omega)
    have hN2:=Eh (Hd [120] [] P).1 L (by omega)
    have hN3:=Eh (Hd [120] (Hd [120] [] P).1 L).1 W (by omega)
    generalize Hd [120] [] P=P' at *
    generalize Hd [120] P'.1 L=L' at *
    generalize Hd [120] L'.1 W=W' at *
    refine af _ ?_
    push_cast
    refine .of hC ?_
    push_cast
    refine⟨?_,?_⟩
    ·refine Fz (yQ W) [] (Mc P) (Be▸hN1) ?_
     push_cast
     refine⟨?_,?_⟩
     ·refine Fz (yQ W) [] (Mc L) (Be▸hN2) ?_
      push_cast
      refine Fz (yQ W) [] (Mc W) (Be▸hN3) ?_
      push_cast
      exact A1 (by push_cast[Ei.rs];rfl)
     ·refine Fz (yQ W) [] (Mc L) (Be▸hN2) ?_
      push_cast
      refine Fz (yQ W) [] (Mc W) (Be▸hN3) ?_
      push_cast
      exact A1 (by push_cast[Ei.rs];rfl)
    ·refine Fz (yQ W) [] (Mc P) (Be▸hN1) ?_
     push_cast
     refine Fz (yQ W) [] (Mc L) (Be▸hN2) ?_
     push_cast
     refine Fz (yQ W) [] (Mc W) (Be▸hN3) ?_
     push_cast
     exact A1 (by push_cast[Ei.rs];rfl)
def sd (b:Bool)(x:A2):Term:=if b then x.right else x.left
theorem XN (x:A2)(b:Bool):PF On [JW x,.bool b] (Ap (sd b x)):=by
 refine Ab XY.ok rfl ?_
 cases b<;>(push_cast;exact A1 (by push_cast[XY.rs];try rfl))
theorem Vb (l:List A9)(v:A9)(hl:l.length<2^62):PF MI [Bo l,.str v] (.int .i64 (KM (fun x=>decide (v=x)) l)):=by
 refine Ab Lf.ok rfl ?_
 push_cast
 refine Ad (n:=l.length) (R:=fun k=>(∀ j,j<k->(fun x=>decide (v=x)) (l.getD j default)=false)->Lf.L3 (.str v) (Bo l) (.int .i64 l.length) (.int .i64 k) 0 [] (Bx 0 Lf.rs fun x' H'=>x'=.int .i64 (KM (fun x=>decide (v=x)) l)/\H'=[])) ?_ ?_ 0 (by omega) (by intro j hj;omega)
 ·intro k hk ih hq
  refine A8.2 ?_
  generalize hx:l.getD k default=s
  by_cases h:s=v
  ·have hi:=GF (p:=fun x=>decide (v=x)) hk (by show decide (v=l.getD k default)=true;rw[hx,h];simp) hq
   push_cast[BT hk,hx,eq_true h]
   exact A1 (by push_cast[Lf.rs,hi])
  ·push_cast[BT hk,hx,eq_false h,CV (show k<2^62 by omega)]
   exact ih fun j hj=>by
    rcases Nat.lt_succ_iff_lt_or_eq.1 hj with hj | rfl
    ·exact hq j hj
    ·rw[hx];simpa using fun e=>h e.symm
 ·intro hq
  refine A8.2 ?_
  have hi:=HT (p:=fun x=>decide (v=x)) (l:=l) hq
  push_cast[B8 (Nat.le_refl _)]
  exact A1 (by push_cast[Lf.rs,hi])
def cap (n:Nat):Nat:=if n<1099511627776 then n else 1099511627776
theorem TU (n:Nat):cap n<=1099511627776:=by unfold cap;split<;>omega
theorem Xd (a b:Nat):(if ((cap a:Int)+(cap b:Int))<1099511627776 then (cap a:Int)+(cap b:Int) else 1099511627776)=((cap (a+b):Nat):Int):=by
 unfold cap;split<;>split<;>split<;>split<;>omega
theorem li:(1:Int)=((cap 1:Nat):Int):=rfl
theorem Rn {f:Term->Term}{D:Nat}:∀ {l:List Term},(∀ a∈l,depth (f a)<=D)->AC (l.map f)<=D
 | [],_=>by simp[AC]
 | a::l,h=>by
  simp only[List.map_cons,AC]
  have h1:=h a (by simp)
  have h2:=Rn (f:=f) (l:=l) fun b hb=>h b (by simp[hb])
  omega
theorem jF {l:List Term}{k:Nat}:depth (l.getD k default)<=max 1 (AC l):=by
 by_cases h:k<l.length
 ·have:=Ld (A4 h);omega
 ·rw[List.getD_eq_getElem?_getD,List.getElem?_eq_none (by omega)]
  exact Nat.le_max_left _ _
theorem XZ (vars:List A9)(x:List Term)(t:Term):depth (CI vars x t)<=depth t+AC x:=by
 induction t using Ag with
 | h t ih =>
  have hda:=Fg t
  rw[M3]
  split
  ·have:=jF (l:=x) (k:=Mu t.name vars);omega
  ·simp only[depth]
   have:=Rn (f:=CI vars x) (D:=AC t.args+AC x) (l:=t.args) fun a ha=>by
    have:=ih a ha
    have:=Ld ha
    omega
   omega
theorem jd (r:List A2)(f:A2->Term){B:Nat}(hB:∀ x∈r,depth (f x)<=B)(m:A0)(hok:GY r m):depth (Af r f m)<=Bd m*(1+B):=by
 induction m using Cr with
 | h m ih =>
  have hd:AC (m.args.map (Af r f))<=AY m.args*(1+B):=by
   have:∀ l:List A0,(∀ a∈l,depth (Af r f a)<=Bd a*(1+B))->AC (l.map (Af r f))<=AY l*(1+B):=by
    intro l
    induction l with
    | nil=>intro _;simp[AC]
    | cons a l ihl =>
     intro h
     have h1:=h a (by simp)
     have h2:=ihl fun b hb=>h b (by simp[hb])
     simp only[List.map_cons,AC,AY]
     have h3:Bd a*(1+B)<=max (Bd a) (AY l)*(1+B):=Nat.mul_le_mul_right _ (Nat.le_max_left _ _)
     have h4:AY l*(1+B)<=max (Bd a) (AY l)*(1+B):=Nat.mul_le_mul_right _ (Nat.le_max_right _ _)
     omega
   exact this m.args fun a ha=>ih a ha (hok.arg ha)
  rw[De,El,Nat.succ_mul]
  split
  ·simp only[depth];omega
  ·rename_i h0
   have:=XZ (AA [(Au r m).left]) (m.args.map (Af r f)) (f (Au r m))
   have:=hB _ (hok.rule h0).2.2.1
   omega
theorem bU (vars:List A9)(x:List Term)(hva:vars.length<=x.length)(hl:vars.length<2^40)(D:Nat)(hD:AC x<=D)(hD2:D<2^40)(t:Term)(ht:size t<2^40)(ho:∀ v,Cz v t=true->v∈vars) :
  PF KG [Ap t,Bo vars,Ht (x.map fun a=>((cap (size a):Nat):Int)),Ht (x.map fun a=>((depth a:Nat):Int))] (.tup [.int .i64 (cap (size (CI vars x t)):Nat),.int .i64 (depth (CI vars x t):Nat)]):=by
 induction t using Ag with
 | h t ih =>
 have hst:=AJ t
 have hll:=Aj t.args
 have hdz:=GX t
 have hdp:=XZ vars x t
 refine Ab Ju.ok rfl ?_
 rw[M3]at hdp ⊢
 cases hv:t.var with
 | true =>
  obtain⟨h1,h2,h3⟩:=Ff (ho _ (PL hv))
  have hI:=Vb vars t.name (by omega)
  rw[h1]at hI
  have hlt:((Mu t.name vars:Int)<(x.length:Int))=True:=eq_true (by omega)
  have hix:Mu t.name vars<x.length:=by omega
  have hg1:(x.map fun a=>((cap (size a):Nat):Int)).getD (Mu t.name vars) default=(cap (size (x.getD (Mu t.name vars) default)):Nat):=by
   simp[List.getD_eq_getElem?_getD,hix]
  have hg2:(x.map fun a=>((depth a:Nat):Int)).getD (Mu t.name vars) default=(depth (x.getD (Mu t.name vars) default):Nat):=by
   simp[List.getD_eq_getElem?_getD,hix]
  push_cast[hv]
  refine .of hI ?_
  push_cast[hlt,hg1,hg2]
  refine⟨by rw[List.length_map];omega,by rw[List.length_map];omega,A1 ?_⟩
  push_cast[Ju.rs]
 | false =>
  rw[hv,if_neg (by simp)]at hdp
  rw[if_neg (by simp)]
  simp only[size,depth]at hdp ⊢
  push_cast[hv]
  rw[li]
  refine Ad (n:=t.args.length) (R:=fun k=>Ju.L3 (Bo vars) (Ht (x.map fun a=>((cap (size a):Nat):Int))) (Ht (x.map fun a=>((depth a:Nat):Int))) (.int .i64 (cap (1+Ac ((t.args.take k).map (CI vars x))):Nat)) (.int .i64 (AC ((t.args.take k).map (CI vars x)):Nat)) (Bg t.args) (.int .i64 t.args.length) (.int .i64 k) 0 []
   (Bx 0 Ju.rs fun x' H'=>x'=.tup [.int .i64 (cap (1+Ac (t.args.map (CI vars x))):Nat),.int .i64 ((AC (t.args.map (CI vars x))+1:Nat):Int)]/\H'=[])) ?_ ?_ 0 (by omega)
  ·intro k hk ih2
   have hm:=A4 hk
   have hm2:=Bt hm
   have hs1:Ac ((t.args.take (k+1)).map (CI vars x))=Ac ((t.args.take k).map (CI vars x))+size (CI vars x (t.args.getD k default)):=by
    rw[Aa hk,List.map_append,Ci];simp[Ac]
   have hd1:AC ((t.args.take (k+1)).map (CI vars x))=max (AC ((t.args.take k).map (CI vars x))) (depth (CI vars x (t.args.getD k default))):=by
    rw[Aa hk,List.map_append,Ey];simp[AC]
   rw[hs1,hd1,<-Nat.add_assoc]at ih2
   have hc1:=TU (1+Ac ((t.args.take k).map (CI vars x)))
   have hc2:=TU (size (CI vars x (t.args.getD k default)))
   refine A8.2 ?_
   push_cast[BT hk]
   refine .of (ih _ hm (by omega) fun v hv2=>ho v (Sx hm hv2)) ?_
   have hst2:=Xd (1+Ac ((t.args.take k).map (CI vars x))) (size (CI vars x (t.args.getD k default)))
   generalize size (CI vars x (t.args.getD k default))=sa at ih2 hc2 hst2 ⊢
   generalize depth (CI vars x (t.args.getD k default))=da at ih2 ⊢
   generalize 1+Ac ((t.args.take k).map (CI vars x))=sb at ih2 hc1 hst2 ⊢
   have hw:IntKind.i64.wrap ((cap sb:Int)+(cap sa:Int))=(cap sb:Int)+(cap sa:Int):=Bs (by omega) (by omega)
   push_cast[hw,hst2,CV (show k<2^62 by omega)]
   exact ih2
  ·refine A8.2 ?_
   push_cast[B8 (Nat.le_refl _),List.take_length]
   rw[Bs (by omega) (by omega)]
   refine A1 ?_
   push_cast[Ju.rs]
   try rfl
theorem YM (r:List A2)(b:Bool)(hr:KZ r<2^28)(hvs:∀ x∈r,∀ v,Cz v (sd b x)=true->v∈AA [x.left])(m:A0)(hok:GY r m)(hm:As m<2^30)(hmd:Bd m<=200) :
  PF JB [Ak r,Ar m,.bool b] (.tup [.int .i64 (cap (size (Af r (sd b) m)):Nat),.int .i64 (depth (Af r (sd b) m):Nat)]):=by
 induction m using Cr with
 | h m ih =>
 have hst:=AQ m
 have hdt:=El m
 have hll:=AV m.args
 have hsdz:∀ x∈r,size (sd b x)<268435456:=fun x hx=>by
  have:=FQ hx
  have:=AS x.left
  have:=AS x.right
  cases b<;>(simp only[sd,if_true,if_false,Bool.false_eq_true];omega)
 have hdm:∀ a∈m.args,depth (Af r (sd b) a)<=53687091400:=fun a ha=>by
  have h1:=jd r (sd b) (B:=268435456) (fun x hx=>by have:=hsdz x hx;have:=GX (sd b x);omega) a (hok.arg ha)
  have h2:Bd a<=AY m.args:=by
   have:∀ l:List A0,a∈l->Bd a<=AY l:=by
    intro l
    induction l with
    | nil=>intro h;cases h
    | cons x xs ihx=>intro h;rcases List.mem_cons.1 h with rfl | h<;>simp only[AY];omega;have:=ihx h;omega
   exact this _ ha
  have h3:Bd a*(1+268435456)<=200*(1+268435456):=Nat.mul_le_mul_right _ (by omega)
  omega
 have hds:AC (m.args.map (Af r (sd b)))<=53687091400:=by
  have:∀ l:List A0,(∀ a∈l,depth (Af r (sd b) a)<=53687091400)->AC (l.map (Af r (sd b)))<=53687091400:=by
   intro l
   induction l with
   | nil=>intro _;simp[AC]
   | cons a l ihl =>
    intro h
    have h1:=h a (by simp)
    have h2:=ihl fun c hc=>h c (by simp[hc])
    simp only[List.map_cons,AC];omega
  exact this _ hdm
 refine Ab HM.ok rfl ?_
 push_cast
 rw[li]
 refine Ad (n:=m.args.length) (R:=fun k=>HM.L4 (Ak r) (.bool b) (.ro (cM m) 0) (Bf cI 0 1 (((m.args.take k).map (Af r (sd b))).map fun a=>((cap (size a):Nat):Int))) (Bf cI 1 1 (((m.args.take k).map (Af r (sd b))).map fun a=>((depth a:Nat):Int))) (.int .i64 (cap (1+Ac ((m.args.take k).map (Af r (sd b)))):Nat)) (.int .i64 (AC ((m.args.take k).map (Af r (sd b))):Nat)) (CB m.args) (.int .i64 m.args.length) (.int .i64 k) 0 [.arr EN 1 k,.arr EN 1 k]
  (Bx 0 HM.rs fun x' H'=>x'=.tup [.int .i64 (cap (size (Af r (sd b) m)):Nat),.int .i64 (depth (Af r (sd b) m):Nat)]/\H'=[])) ?_ ?_ 0 (by omega)
 ·intro k hk ih2
  have hmm:=A4 hk
  have hm2:=CL hmm
  have hmd2:Bd (m.args.getD k default)<=200:=by
   have:∀ l:List A0,∀ a∈l,Bd a<=AY l:=by
    intro l a
    induction l with
    | nil=>intro h;cases h
    | cons x xs ihx=>intro h;rcases List.mem_cons.1 h with rfl | h<;>simp only[AY];omega;have:=ihx h;omega
   have:=this _ _ hmm
   omega
  have hdk:=hdm _ hmm
  have htk:m.args.take (k+1)=m.args.take k++[m.args.getD k default]:=Aa hk
  rw[htk,List.map_append,Ci,Ey,List.map_append,List.map_append,List.map_singleton,List.map_singleton,List.map_singleton]at ih2
  simp only[Ac,AC,Nat.add_zero,Nat.max_zero]at ih2
  rw[<-Nat.add_assoc]at ih2
  have hih:=ih _ hmm (hok.arg hmm) (by omega) hmd2
  have hl1:((m.args.take k).map (Af r (sd b))).length=k:=by simp;omega
  refine A8.2 ?_
  push_cast[BT hk]
  refine .of hih ?_
  generalize Af r (sd b) (m.args.getD k default)=u at ih2 hdk ⊢
  generalize (m.args.take k).map (Af r (sd b))=us at ih2 hl1 ⊢
  have hc1:=TU (1+Ac us)
  have hc2:=TU (size u)
  have hst2:=Xd (1+Ac us) (size u)
  generalize 1+Ac us=sb at ih2 hc1 hst2 ⊢
  have hw:IntKind.i64.wrap ((cap sb:Int)+(cap (size u):Int))=(cap sb:Int)+(cap (size u):Int):=Bs (by omega) (by omega)
  have hm1:(us.map fun a=>((cap (size a):Nat):Int)).length=k:=by rw[List.length_map,hl1]
  have hm2:(us.map fun a=>((depth a:Nat):Int)).length=k:=by rw[List.length_map,hl1]
  have e5:∀ (i:Nat)(l:List Int)(v:Int),V.own i 1 (List.map cI l++[[V.int .i64 v]])=Bf cI i 1 (l++[v]):=fun i l v=>by simp[Bf,cI]
  push_cast[hw,hst2,hm1,hm2,e5,CV (show k<2^62 by omega)]
  refine⟨by unfold Ah;omega,by unfold Ah;omega,?_⟩
  exact ih2
 ·refine A8.2 ?_
  push_cast[B8 (Nat.le_refl _),List.take_length]
  rw[De]
  by_cases h0:m.rule=0
  ·have h0i:(0<m.rule)=False:=eq_false (by omega)
   rw[if_pos h0]
   simp only[size,depth]
   push_cast[h0i]
   rw[Bs (by omega) (by omega)]
   refine A1 ?_
   push_cast[HM.rs]
   try rfl
  ·obtain⟨k1,k2,k3,k4,k5,k6⟩:=hok.rule h0
   rw[if_neg h0]
   have hw:IntKind.i64.wrap (m.rule-1)=m.rule-1:=Bs (by have:=Bh r;omega) (by have:=Bh r;omega)
   have hc1:((0:Int)<=m.rule-1)=True:=eq_true (by omega)
   have hc2:(m.rule-1<(r.length:Int))=True:=eq_true (by omega)
   have hc3:(0<m.rule)=True:=eq_true k1
   have hru:r.getD (m.rule-1).toNat default=Au r m:=rfl
   have hrm:=FQ k3
   have hF:=bU (AA [(Au r m).left]) (m.args.map (Af r (sd b))) (by rw[List.length_map,k4];exact Nat.le_refl _) (by rw[<-k4];omega) 53687091400 hds (by omega) (sd b (Au r m)) (by have:=hsdz _ k3;omega) (hvs _ k3)
   push_cast[hc3,hw,hc1,hc2,hru]
   refine .of (XN (Au r m) b) ?_
   push_cast[hc3,hw,hc1,hc2,hru]
   refine .of (M2 (Au r m) (by omega)) ?_
   push_cast
   refine .of hF ?_
   push_cast
   exact A1 (by push_cast[HM.rs])
def NF (vars:List A9)(x:List Term):List A6:=List.zipWith A6.mk vars x
theorem V7 {v:A9}:∀ {vars:List A9} {x:List Term},v∈vars->vars.length<=x.length->Ae (NF vars x) v=some (x.getD (Mu v vars) default)
 | [],_,h,_=>by cases h
 | w::vars,[],_,hl=>by simp at hl
 | w::vars,u::x,h,hl=>by
  simp only[NF,List.zipWith_cons_cons,Ae]
  unfold Mu
  simp only[KM]
  by_cases he:v=w
  ·subst he;simp
  ·have hm:v∈vars:=(List.mem_cons.1 h).resolve_left he
   obtain⟨h1,h2,h3⟩:=Ff hm
   have hd:decide (v=w)=false:=by simpa using he
   have ih:=V7 (x:=x) hm (by simpa using hl)
   unfold NF at ih
   rw[if_neg (fun e=>he e.symm)]
   simp only[hd,Bool.false_eq_true,if_false]
   rw[h1,ih]
   have hn:¬ ((Mu v vars:Nat):Int)<0:=by omega
   have h4:(((Mu v vars:Nat):Int)+1).toNat=Mu v vars+1:=by omega
   simp only[hn,if_false,h4]
   simp[List.getD_eq_getElem?_getD]
theorem jz (vars:List A9)(x:List Term)(hl:vars.length<=x.length)(t:Term)(ho:∀ v,Cz v t=true->v∈vars):AD (NF vars x) t=CI vars x t:=by
 induction t using Ag with
 | h t ih =>
  rw[Iw,M3]
  cases hv:t.var with
  | true=>rw[if_pos rfl,if_pos rfl,V7 (ho _ (PL hv)) hl];rfl
  | false =>
   rw[if_neg (by simp),if_neg (by simp)]
   congr 1
   exact List.map_congr_left fun a ha=>ih a ha fun v hv2=>ho v (Sx ha hv2)
theorem jf {vars:List A9}{x:List Term}{k:Nat}(hk:k<vars.length)(hl:vars.length<=x.length):NF (vars.take (k+1)) x=NF (vars.take k) x++[⟨vars.getD k default,x.getD k default⟩]:=by
 unfold NF
 apply List.ext_getElem?
 intro i
 have hx:k<x.length:=by omega
 by_cases h1:i<k
 ·rw[List.getElem?_append_left (by simp;omega)]
  simp[List.getElem?_zipWith,List.getElem?_take,h1,show i<k+1 by omega]
 ·by_cases h2:i=k
  ·subst h2
   rw[List.getElem?_append_right (by simp;omega)]
   simp[List.getElem?_zipWith,List.getElem?_take,hk,hx,List.getD_eq_getElem?_getD,show min i vars.length=i by omega,show min i x.length=i by omega]
  ·rw[List.getElem?_eq_none (by simp;omega),List.getElem?_eq_none (by simp;omega)]
theorem nI {i:Nat}{l:List A6}{n:A9}{t:Term}:(.own i 4 (l.map cB++[V.str n::cT t]):V)=Bf cB i 4 (l++[⟨n,t⟩]):=by simp[Bf,cB]
theorem fC (r:List A2)(b:Bool)(hr:KZ r<2^28)(hvs:∀ x∈r,∀ v,Cz v (sd b x)=true->v∈AA [x.left])(m:A0)(hok:GY r m)(hm:As m<2^30) :
  PF Mh [Ak r,Ar m,.bool b] (Ap (Af r (sd b) m)):=by
 induction m using Cr with
 | h m ih =>
 have hst:=AQ m
 have hll:=AV m.args
 refine Ab Js.ok rfl ?_
 rw[De]
 push_cast
 refine Ad (n:=m.args.length) (R:=fun k=>Js.L8 (Ak r) (.bool b) (.ro (cM m) 0) (.ptr 0 0) (Bf cT 1 3 ((m.args.take k).map (Af r (sd b)))) (CB m.args) (.int .i64 m.args.length) (.int .i64 k) 0 [.cells A3 [.str [],.bool false,.sl 3 []],.arr A3 3 k] _) ?_ ?_ 0 (by omega)
 ·intro k hk ih2
  have hmm:=A4 hk
  have hm2:=CL hmm
  have hlen:((m.args.take k).map (Af r (sd b))).length=k:=by simp;omega
  rw[Aa hk,List.map_append,List.map_singleton]at ih2
  refine A8.2 ?_
  push_cast[BT hk]
  refine .of (ih _ hmm (hok.arg hmm) (by omega)) ?_
  push_cast[hlen,CV (show k<2^62 by omega)]
  exact⟨Nat.le_trans (Nat.mul_le_mul_right 48 (show _<=2^41 by omega)) (by unfold Ah;decide),ih2⟩
 ·refine A8.2 ?_
  push_cast[B8 (Nat.le_refl _),List.take_length]
  by_cases h0:m.rule=0
  ·push_cast[eq_true h0]
   refine A1 ?_
   push_cast[Js.rs]
   show V.agg [.str m.name,.bool m.var,Bg (m.args.map (Af r (sd b)))]=Ap (.mk m.name m.var (m.args.map (Af r (sd b))))
   unfold Ap;rw[OV];rfl
  ·obtain⟨k1,k2,k3,k4,k5,k6⟩:=hok.rule h0
   have hw:IntKind.i64.wrap (m.rule-1)=m.rule-1:=Bs (by have:=Bh r;omega) (by have:=Bh r;omega)
   have hc1:((0:Int)<=m.rule-1)=True:=eq_true (by omega)
   have hc2:(m.rule-1<(r.length:Int))=True:=eq_true (by omega)
   have hru:r.getD (m.rule-1).toNat default=Au r m:=rfl
   have hrm:=FQ k3
   have hzl:=AS (Au r m).left
   have hzr:=AS (Au r m).right
   push_cast[eq_false h0,hw,hc1,hc2,hru]
   refine .of (M2 (Au r m) (by omega)) ?_
   push_cast
   have hxl:(m.args.map (Af r (sd b))).length=m.args.length:=List.length_map ..
   have hbi:=jz (AA [(Au r m).left]) (m.args.map (Af r (sd b))) (by rw[hxl,k4];exact Nat.le_refl _) (sd b (Au r m)) (hvs _ k3)
   generalize hvv:AA [(Au r m).left]=vars at k4 hbi ⊢
   generalize hxx:m.args.map (Af r (sd b))=x at hxl hbi ⊢
   have hvl:vars.length<=x.length:=by omega
   have h9:=Ad (n:=vars.length) (R:=fun k=>Js.L3 (.bool b) (.ptr 0 0) (Bf cT 1 3 x) (.ro (cR (Au r m)) 0) (Bf cB 3 4 (NF (vars.take k) x)) (Bo vars) (.int .i64 vars.length) (.int .i64 k) 0 [.cells A3 [.str [],.bool false,.sl 3 []],.arr A3 3 m.args.length,.dead,.arr C4 4 k] (Bx 0 Js.rs fun x' H'=>x'=Ap (CI vars x (sd b (Au r m)))/\H'=[])) ?_ ?_ 0 (by omega)
   ·simp only[List.take_zero,NF,List.zipWith_nil_left]at h9
    exact h9
   ·intro k hk ih2
    have hkx:((k:Int)<(x.length:Int))=True:=eq_true (by omega)
    have hbl:(NF (vars.take k) x).length=k:=by unfold NF;simp;omega
    rw[jf hk hvl]at ih2
    refine A8.2 ?_
    push_cast[BT hk,hkx,hbl,CV (show k<2^62 by omega)]
    refine⟨by unfold Ah;omega,?_⟩
    rw[nI]
    exact ih2
   ·refine A8.2 ?_
    push_cast[B8 (Nat.le_refl _),List.take_length]
    refine .of (XN (Au r m) b) ?_
    push_cast
    refine .of (Em (NF vars x) (by unfold NF;simp;omega) (sd b (Au r m)) (by cases b<;>(simp only[sd,if_true,if_false,Bool.false_eq_true];omega))) ?_
    rw[hbi]
    push_cast
    exact A1 (by push_cast[Js.rs])
theorem zJ (n:Nat):4000<cap n↔4000<n:=by unfold cap;split<;>omega
def gp (r:List A2)(f:A2->Term)(m:A0):Option Term×Int:=if BO (Af r f m) then (some (Af r f m),0) else (none,3)
theorem Om (r:List A2)(b:Bool)(hr:KZ r<2^28)(hvs:∀ x∈r,∀ v,Cz v (sd b x)=true->v∈AA [x.left])(m:A0)(hok:GY r m)(hm:As m<2^30)(hmd:Bd m<=200) :
  PF Jd [Ak r,Ar m,.bool b] (GK (gp r (sd b) m).1 (gp r (sd b) m).2):=by
 refine Ab Qq.ok rfl ?_
 push_cast
 refine .of (YM r b hr hvs m hok hm hmd) ?_
 have hB:=fC r b hr hvs m hok hm
 unfold gp BO
 generalize Af r (sd b) m=t at hB ⊢
 have hcg:=zJ (size t)
 by_cases h1:4000<size t
 ·have hi:((4000:Int)<(cap (size t):Int))=True:=eq_true (by omega)
  have h1':decide (size t<=4000)=false:=by simp;omega
  rw[h1']
  push_cast[hi]
  exact A1 (by push_cast[Qq.rs];rfl)
 ·have hi:((4000:Int)<(cap (size t):Int))=False:=eq_false (by omega)
  have h1':decide (size t<=4000)=true:=by simp;omega
  rw[h1']
  by_cases h2:200<depth t
  ·have hj:((200:Int)<(depth t:Int))=True:=eq_true (by omega)
   have h2':decide (depth t<=200)=false:=by simp;omega
   rw[h2']
   push_cast[hi,hj]
   exact A1 (by push_cast[Qq.rs];rfl)
  ·have hj:((200:Int)<(depth t:Int))=False:=eq_false (by omega)
   have h2':decide (depth t<=200)=true:=by simp;omega
   rw[h2']
   push_cast[hi,hj]
   refine .of hB ?_
   push_cast
   exact A1 (by push_cast[Qq.rs];try rfl)
theorem wv:sd false=A2.left:=rfl
theorem QI {r:List A2}{f:A2->Term}{m:A0}(h:FH r m=0):Gt r f m=gp r f m:=by
 unfold Gt gp;rw[if_neg (by simpa using h)]
theorem JK (m:A0)(hs:As m<2^40):PF HD [Ar m,Ar m] (.bool true):=by
 induction m using Cr with
 | h m ih =>
 have hst:=AQ m
 have hll:=AV m.args
 refine Ab Qm.ok rfl ?_
 have e:∀ x:Bool,(x != x)=false:=fun x=>by cases x<;>rfl
 push_cast[e]
 refine Ad (n:=m.args.length) (R:=fun k=>Qm.L3 (.ro (cM m) 0) (.ro (cM m) 0) (.int .i64 m.args.length) (.int .i64 k) 0 [] (Bx 0 Qm.rs fun x' H'=>x'=.bool true/\H'=[])) ?_ ?_ 0 (by omega)
 ·intro k hk ih2
  have hmm:=A4 hk
  have hm2:=CL hmm
  refine A8.2 ?_
  push_cast[BT hk]
  refine .of (ih _ hmm (by omega)) ?_
  push_cast[BT hk,CV (show k<2^62 by omega)]
  exact ih2
 ·refine A8.2 ?_
  push_cast[B8 (Nat.le_refl _)]
  exact A1 (by push_cast[Qm.rs])
mutual
def nn (v:A9):Term->List (List Int)
 | .mk n b l=>(if b&&decide (n=v) then [[]] else [])++ap v l 0
def ap (v:A9):List Term->Nat->List (List Int)
 | [],_=>[]
 | a::l,i=>(nn v a).map ((i:Int)::·)++ap v l (i+1)
end
theorem gc (v:A9)(a b:List (List Int×Term)):VJ v (a++b)=VJ v a++VJ v b:=by unfold VJ;rw[List.filter_append,List.map_append]
mutual
theorem Yt (v:A9):∀ (t:Term)(p:List Int),VJ v (Aq t p)=(nn v t).map (p++·)
 | .mk n b l,p=>by
  have h:=V9 v l p 0
  have h1:VJ v ((p,Term.mk n b l)::B6 l p 0)=(if b&&decide (n=v) then [p] else [])++VJ v (B6 l p 0):=by
   unfold VJ
   rw[List.filter_cons]
   show List.map Prod.fst (if (b&&decide (n=v))=true then _ else _)=_
   split<;>simp
  simp only[Aq,nn,h1,h,List.map_append]
  congr 1
  split<;>simp
theorem V9 (v:A9):∀ (l:List Term)(p:List Int)(i:Nat),VJ v (B6 l p i)=(ap v l i).map (p++·)
 | [],p,i=>rfl
 | a::l,p,i=>by
  simp only[B6,ap,gc,Yt v a,V9 v l p (i+1),List.map_append,List.map_map]
  congr 1
  apply List.map_congr_left
  intro q _;simp
end
theorem sS (t:Term)(v:A9):XJ t v=nn v t:=by
 unfold XJ
 rw[Yt]
 simp
mutual
theorem UQ (v:A9):∀ t:Term,Cz v t=true->nn v t≠[]
 | .mk n b l,h=>by
  simp only[Cz,Bool.or_eq_true]at h
  simp only[nn]
  rcases h with h | h
  ·rw[if_pos h];simp
  ·have:=Yd v l 0 h
   simp[this]
theorem Yd (v:A9):∀ (l:List Term)(i:Nat),EQ v l=true->ap v l i≠[]
 | [],i,h=>by cases h
 | a::l,i,h=>by
  simp only[EQ,Bool.or_eq_true]at h
  simp only[ap]
  rcases h with h | h
  ·have:=UQ v a h
   simp[this]
  ·have:=Yd v l (i+1) h
   simp[this]
end
def XQ:A0->List Int->A0
 | m,[]=>m
 | m,i::p=>XQ (m.args.getD i.toNat default) p
theorem KD (t:Term):(AA [t]).Nodup:=by
 have h2:(HZ [] [t]).Nodup:=by
  show (R2 [] (Aq t [])).Nodup
  exact Xx _ _ List.nodup_nil
 exact (List.mergeSort_perm _ _).nodup_iff.2 h2
theorem dO {vars:List A9}(hn:vars.Nodup){k:Nat}(hk:k<vars.length):Mu (vars.getD k default) vars=k:=by
 obtain⟨i1,i2,i3⟩:=Ff (A4 hk)
 generalize hv:vars.getD k default=v at i1 i2 i3 ⊢
 rw[List.getD_eq_getElem?_getD,List.getElem?_eq_getElem hk,Option.getD_some]at hv
 rw[List.getD_eq_getElem?_getD,List.getElem?_eq_getElem i2,Option.getD_some]at i3
 exact (List.getElem_inj hn).1 (i3.trans hv.symm)
mutual
def Fi (vars:List A9)(x:List A0):Term->A0
 | .mk n v l=>if v then x.getD (Mu n vars) default else .mk 0 n false (W3 vars x l)
def W3 (vars:List A9)(x:List A0):List Term->List A0
 | []=>[]
 | a::l=>Fi vars x a::W3 vars x l
end
theorem eS (vars:List A9)(x:List A0)(l:List Term):W3 vars x l=l.map (Fi vars x):=by induction l with | nil=>rfl | cons a l ih=>simp[W3,ih]
theorem Ud (vars:List A9)(x:List A0)(t:Term):Fi vars x t=if t.var then x.getD (Mu t.name vars) default else .mk 0 t.name false (t.args.map (Fi vars x)):=by cases t;simp only[Fi,eS,Term.name,Term.var,Term.args];rfl
theorem cu (vars:List A9)(x:List A0)(hva:vars.length<=x.length)(hl:vars.length<2^40)(t:Term)(ht:size t<2^40)(ho:∀ v,Cz v t=true->v∈vars):PF KB [Ap t,Bo vars,CB x] (Ar (Fi vars x t)):=by
 induction t using Ag with
 | h t ih =>
 have hst:=AJ t
 have hll:=Aj t.args
 refine Ab LD.ok rfl ?_
 rw[Ud]
 cases hv:t.var with
 | true =>
  obtain⟨h1,h2,h3⟩:=Ff (ho _ (PL hv))
  have hI:=Fo vars t.name (by omega)
  rw[h1]at hI
  have hlt:((Mu t.name vars:Int)<(x.length:Int))=True:=eq_true (by omega)
  push_cast[hv]
  refine .of hI ?_
  push_cast[hlt]
  exact A1 (by push_cast[LD.rs])
 | false =>
  push_cast[hv]
  refine Ad (n:=t.args.length) (R:=fun k=>LD.L3 (Bo vars) (CB x) (.ptr 0 0) (.ptr 1 0) (Bg t.args) (.int .i64 t.args.length) (.int .i64 k) 0 [.cells A7 [.int .i64 0,.str [],.bool false,.sl 4 []],.cells A7 [.int .i64 0,.str t.name,.bool false,Bf cM 2 4 ((t.args.take k).map (Fi vars x))],.arr A7 4 k] _) ?_ ?_ 0 (by omega)
  ·intro k hk ih2
   have hm:=A4 hk
   have hm2:=Bt hm
   have hlen:((t.args.take k).map (Fi vars x)).length=k:=by simp;omega
   rw[Aa hk,List.map_append,List.map_singleton]at ih2
   refine A8.2 ?_
   push_cast[BT hk]
   refine .of (ih _ hm (by omega) fun v hv2=>ho v (Sx hm hv2)) ?_
   push_cast[hlen,CV (show k<2^62 by omega)]
   exact⟨by unfold Ah;omega,ih2⟩
  ·refine A8.2 ?_
   push_cast[B8 (Nat.le_refl _)]
   refine A1 ?_
   push_cast[LD.rs,List.take_length,sj]
   try rfl
theorem Ce {σ:Nat->Option Nat}{l:List A0}:(l.map cM).map (AR σ)=l.map cM:=by rw[List.map_map];rfl
theorem rJ (t:Term)(v:A9):XJ t v=(Fe t).filter fun p=>match Dg t p with | some x=>x.var&&decide (x.name=v) | none=>false:=by
 unfold XJ VJ
 have h1:=Lc t []
 simp only[List.nil_append,List.map_id']at h1
 rw[<-h1,List.filter_map]
 congr 1
 apply List.filter_congr
 intro x hx
 obtain⟨q,hq,hs⟩:=Pl t [] x hx
 rw[List.nil_append]at hq
 simp only[Function.comp,hq,hs,isV]
theorem SG (r:List A2)(m:A0)(hr:KZ r<2^28)(hm:mb m<2^28):PF I6 [Ak r,Ar m] (.int .i64 (Gt r A2.left m).2):=by
 have hmz:=Gd m
 refine Ab Hn.ok rfl ?_
 push_cast
 refine .of (eK r m (by omega) (by omega)) ?_
 by_cases h1:FH r m=0
 ·obtain⟨c1,c2,c3,c4⟩:=FC h1
  have hA:=Om r false (by omega) (fun x _=>HW x) m c2 (by omega) c4
  rw[wv,<-QI h1]at hA
  push_cast[h1]
  refine .of hA ?_
  generalize Gt r A2.left m=o
  obtain⟨o,e⟩:=o
  cases o<;>(unfold GK;push_cast;exact A1 (by push_cast[Hn.rs];try rfl))
 ·have:Gt r A2.left m=(none,FH r m):=by unfold Gt;rw[if_pos h1]
  rw[this]
  push_cast[eq_false h1]
  exact A1 (by push_cast[Hn.rs];try rfl)
theorem Ua {r:List A2}{f:A2->Term}{m:A0}(h:(Gt r f m).2=0):FH r m=0/\BO (Af r f m)=true/\Gt r f m=(some (Af r f m),0):=by
 unfold Gt at h ⊢
 split at h
 ·rename_i h1;exact absurd h h1
 ·rename_i h1
  rw[if_neg h1]
  split at h
  ·rename_i h2
   rw[if_pos h2]
   exact⟨Classical.not_not.1 h1,h2,rfl⟩
  ·cases h
theorem eF {vars:List A9}{x:List Term}(hl:vars.length<=x.length)(hx:∀ a∈x,Ca a=true)(t:Term)(ht:Ca t=true)(ho:∀ n,Cz n t=true->n∈vars):Ca (CI vars x t)=true:=by
 induction t using Ag with
 | h t ih =>
 obtain⟨h1,h2⟩:=NS.1 ht
 rw[M3]
 cases hv:t.var with
 | true =>
  obtain⟨i1,i2,i3⟩:=Ff (ho _ (PL hv))
  rw[if_pos rfl]
  exact hx _ (A4 (by omega))
 | false =>
  rw[if_neg (by simp)]
  refine NS.2 ⟨?_,fun a ha=>?_⟩
  ·rw[hv]at h1
   show Uu t.name false (t.args.map (CI vars x)).length=true
   rw[List.length_map];exact h1
  ·obtain⟨b,hb,rfl⟩:=List.mem_map.1 (show a∈t.args.map (CI vars x) from ha)
   exact ih b hb (h2 b hb) fun n hn=>ho n (Sx hb hn)
theorem fg {r:List A2}{f:A2->Term}(hf:∀ x∈r,Ca (f x)=true)(hv:∀ x∈r,∀ v,Cz v (f x)=true->v∈AA [x.left])(m:A0)(hm:GY r m):Ca (Af r f m)=true:=by
 induction m using Cr with
 | h m ih =>
 have hx:∀ a∈m.args.map (Af r f),Ca a=true:=fun a ha=>by
  obtain⟨u,hu,rfl⟩:=List.mem_map.1 ha
  exact ih u hu (hm.arg hu)
 rw[De]
 by_cases h0:m.rule=0
 ·rw[if_pos h0]
  have hfm:=GI hm.fm
  unfold Bn at hfm
  rw[if_neg (by omega)]at hfm
  refine NS.2 ⟨?_,hx⟩
  cases hmv:m.var with
  | true =>
   rw[hmv,if_pos rfl,Bool.and_eq_true,decide_eq_true_eq]at hfm
   simp[Uu,Term.args,Term.name,Term.var,hfm.2]
   exact List.length_eq_zero_iff.1 hfm.1
  | false =>
   rw[hmv,if_neg (by simp),Bool.and_eq_true,decide_eq_true_eq]at hfm
   simp[Uu,Term.args,Term.name,Term.var,hfm.2,hfm.1]
 ·obtain⟨k1,k2,k3,k4,k5,k6⟩:=hm.rule h0
  rw[if_neg h0]
  exact eF (by rw[List.length_map];omega) hx _ (hf _ k3) (hv _ k3)
theorem ee:∀ (p q:List Int)(t:Term),Dg t (p++q)=(Dg t p).bind fun u=>Dg u q
 | [],q,t=>rfl
 | i::p,q,t=>by
  simp only[List.cons_append,Dg]
  split
  ·exact ee p q _
  ·rfl
theorem Xw {σ:List A6}:∀ (p:List Int)(L y:Term),short L=true->Dg L p=some y->Dg (AD σ L) p=some (AD σ y)
 | [],L,y,_,h=>by cases h;rfl
 | i::p,L,y,hs,h=>by
  have h3:=CJ.1 hs
  simp only[Dg]at h
  split at h
  ·rename_i hi
   have hk:i.toNat<L.args.length:=by omega
   have hv:L.var=false:=by
    cases hv:L.var with
    | false=>rfl
    | true=>rw[h3.2.1 hv]at hk;simp at hk
   rw[Iw,hv,if_neg (by simp)]
   have hl:(L.args.map (AD σ)).length=L.args.length:=List.length_map ..
   show (if 0<=i/\i<((L.args.map (AD σ)).length:Int) then Dg ((L.args.map (AD σ)).getD i.toNat default) p else none)=_
   rw[if_pos (by omega)]
   have e:(L.args.map (AD σ)).getD i.toNat default=AD σ (L.args.getD i.toNat default):=by simp[List.getD_eq_getElem?_getD,hk]
   rw[e]
   exact Xw p _ y (h3.2.2 _ (A4 hk)) h
  ·cases h
theorem yu {t:Term}{v:A9}{p:List Int}(h:p∈XJ t v):∃ y,Dg t p=some y/\y.var=true/\y.name=v:=by
 rw[rJ]at h
 obtain⟨h1,h2⟩:=List.mem_filter.1 h
 cases hs:Dg t p with
 | none=>rw[hs]at h2;cases h2
 | some y =>
  rw[hs]at h2
  simp only[Bool.and_eq_true,decide_eq_true_eq]at h2
  exact⟨y,rfl,h2.1,h2.2⟩
theorem df {x:A2}(h:It x):PF PW [JW x] (Bo (AH [] x.left)):=by
 have hF:=Vc x.left [] (by have:=h.l.sz;simp;omega)
 refine Ab UR.ok rfl ?_
 push_cast
 refine .of hF ?_
 push_cast
 exact A1 (by push_cast[UR.rs])
theorem PK {l:List A9}(h:l.length<=4000)(pre:A9):(RS l pre).length<2^62:=by
 have h1:=ft (l:=Cw l) (F:=fun v=>IW pre v 0 l) (m:=l.length) fun v=>To pre v l 0
 have h2:(Cw l).length<=l.length:=by have:=IN l [];simpa[Cw]using this
 have h3:(Cw l).length*l.length<=4000*4000:=Nat.mul_le_mul (by omega) h
 show ((Cw l).flatMap fun v=>IW pre v 0 l).length<2^62
 omega
theorem WV {t:Term}(h:C2 t):(AH [] t).length<=4000:=by have:=Ph t [];have:=h.sz;simp only[List.length_nil]at *;omega
theorem YO:∀ (t:Term),short t=true->∀ l:List A9,(∀ v∈l,v.length<=24)->∀ v∈AH l t,v.length<=24:=by
 intro t
 induction t using Ag with
 | h t ih =>
 intro ht l hl v hv
 rw[Lg]at hv
 obtain⟨h1,h2,h3⟩:=CJ.1 ht
 split at hv
 ·split at hv
  ·exact hl v hv
  ·rcases List.mem_append.1 hv with hv | hv
   ·exact hl v hv
   ·rw[List.mem_singleton.1 hv];exact h1
 ·have key:∀ (ar:List Term)(l:List A9),(∀ a∈ar,a∈t.args)->(∀ v∈l,v.length<=24)->∀ v∈BM l ar,v.length<=24:=by
   intro ar
   induction ar with
   | nil=>intro l _ hl;exact hl
   | cons a ar ihl =>
    intro l hsub hl
    exact ihl _ (fun b hb=>hsub b (by simp[hb])) (ih a (hsub a (by simp)) (h3 a (hsub a (by simp))) l hl)
  exact key t.args l (fun _ h=>h) hl v hv
theorem Sp {t:Term}(h:short t=true):∀ v∈AH [] t,v.length<=24:=YO t h [] (fun v hv=>by cases hv)
theorem Rl {x:A2}(h:It x){pre:A9}(hp:pre.length=1):PF JM [JW x,.str pre] (JW (Ch pre x)):=by
 have hN:=df h
 have hl:=WV h.l
 have hs:=(Hq x.left []).2 h.l.vf
 have hn:=Sp h.l.sh
 have hR:=PD (AH [] x.left) pre (by omega) (fun v hv=>by have:=hn v hv;omega) (by omega)
 have hA1:=Em (RS (AH [] x.left) pre) (PK hl pre) x.left (by have:=h.l.sz;omega)
 have hA2:=Em (RS (AH [] x.left) pre) (PK hl pre) x.right (by have:=h.r.sz;omega)
 rw[TT]at hA1 hA2
 refine Ab PA.ok rfl ?_
 push_cast
 refine .of hN ?_
 push_cast
 refine .of hR ?_
 push_cast
 refine .of hA1 ?_
 push_cast
 refine .of hA2 ?_
 push_cast
 exact A1 (by push_cast[PA.rs,Ch];rfl)
theorem gm (t:Term)(h:size t<2^62):PF Qh [Ap t] (.bool (BO t)):=by
 have h1:=RE t h
 have h2:=PP t h
 refine Ab NC.ok rfl ?_
 push_cast
 refine .of h1 ?_
 by_cases c1:size t<=4000
 ·have i1:((size t:Int)<=4000)=True:=eq_true (by omega)
  push_cast[i1]
  refine .of h2 ?_
  by_cases c2:depth t<=200
  ·have i2:((depth t:Int)<=200)=True:=eq_true (by omega)
   push_cast[i2]
   exact A1 (by push_cast[NC.rs,BO,c1,c2])
  ·have i2:((depth t:Int)<=200)=False:=eq_false (by omega)
   push_cast[i2]
   exact A1 (by push_cast[NC.rs,BO,c1,c2])
 ·have i1:((size t:Int)<=4000)=False:=eq_false (by omega)
  push_cast[i1]
  exact A1 (by push_cast[NC.rs,BO,c1])
theorem C2.arg {t a:Term}(h:C2 t)(ha:a∈t.args):C2 a:=by
 have h1:=AJ t
 have h2:=Bt ha
 have h3:=Fg t
 have h4:=Ld ha
 have h5:=h.sz
 have h6:=h.dp
 exact⟨(CJ.1 h.sh).2.2 a ha,by omega,by omega⟩
theorem C2.sub:∀ (p:List Int) {t x:Term},C2 t->Dg t p=some x->C2 x
 | [],t,x,h,hx=>by simp only[Dg,Option.some.injEq]at hx;subst hx;exact h
 | i::p,t,x,h,hx=>by
  simp only[Dg]at hx
  split at hx
  ·rename_i hi
   exact C2.sub p (h.arg (A4 (by omega))) hx
  ·cases hx
noncomputable def ovR (a b:A2)(i j:Nat)(pos:List Int)(sub:Term):Fq :=
 if (DV a b pos sub).1 then
  let s:=(EP sub b.left).1
  let v:=RS (AH [] (AD s a.left)) [120]
  ⟨i,j,pos,AD v (AD s a.left),AD v (AD s a.right),AD v (IG (AD s a.left) pos (AD s b.right))⟩
 else Ac3
theorem qD {r:List A2}(hr:∀ x∈r,It x)(hl:r.length<=64){i j:Nat}(hi:i<r.length)(hj:j<r.length){pos:List Int}(hpos:pos.length<2^20){sub:Term}(hsub:Dg (Ch [120] (r.getD i default)).left pos=some sub) :
  PF Xv [Ak r,.int .i64 i,.int .i64 j,Ht pos] (.tup [Zb (ovR (Ch [120] (r.getD i default)) (Ch [121] (r.getD j default)) i j pos sub),.bool (DV (Ch [120] (r.getD i default)) (Ch [121] (r.getD j default)) pos sub).1,.int .i64 (DV (Ch [120] (r.getD i default)) (Ch [121] (r.getD j default)) pos sub).2]):=by
 have hxi:=hr _ (A4 hi)
 have hxj:=hr _ (A4 hj)
 have hA:=Rl hxi (pre:=[120]) rfl
 have hB:=Rl hxj (pre:=[121]) rfl
 have ha:=KW (pre:=[120]) rfl hxi
 have hb:=KW (pre:=[121]) rfl hxj
 generalize Ch [120] (r.getD i default)=a at *
 generalize Ch [121] (r.getD j default)=b at *
 have hAt:=fV a.left pos (by omega) (by have:=ha.l.sz;omega)
 rw[hsub]at hAt
 have hgs:C2 sub:=C2.sub pos ha.l hsub
 have hU:=WZ hgs hb.l
 have hE:=Sg sub b.left
 have hO:=dR hgs hb.l
 unfold ovR DV
 generalize hu:EP sub b.left=u at hU hE hO
 obtain⟨s,ok,e⟩:=u
 simp only at hE hO
 refine Ab OF.ok rfl ?_
 push_cast[BT hi,BT hj]
 refine .of hA ?_
 push_cast[BT hi,BT hj]
 refine .of hB ?_
 push_cast
 refine⟨?_,?_⟩
 all_goals
  refine .of hAt ?_
  push_cast[Va]
  refine .of hU ?_
  cases ok with
  | false =>
   simp only[if_true,Bool.false_eq_true,if_false]
   rcases hE with rfl | ⟨rfl,_⟩
   ·push_cast[J1]
    exact A1 (by push_cast[OF.rs];rfl)
   ·push_cast[J1]
    exact A1 (by push_cast[OF.rs];rfl)
  | true =>
   obtain⟨hs,rfl,_⟩:=hO rfl
   have hsl:=hs.len
   have hF1:=Po s (by omega) hs.bb a.left (by have:=ha.l.tb;omega)
   have hF2:=Po s (by omega) hs.bb a.right (by have:=ha.r.tb;omega)
   have hF3:=Po s (by omega) hs.bb b.right (by have:=hb.r.tb;omega)
   have hP1:=Em s (by omega) a.left (by have:=ha.l.sz;omega)
   have hP2:=Em s (by omega) a.right (by have:=ha.r.sz;omega)
   have hP3:=Em s (by omega) b.right (by have:=hb.r.sz;omega)
   have hss:∀ x∈s,short x.term=true:=fun x hx=>(hs.sh x hx).1
   have hsb:=Xw (σ:=s) pos a.left sub ha.l.sh hsub
   have hshp:=iX hss a.left ha.l.sh
   simp only[Bool.true_eq_false,if_false]
   clear hU hE hO hu
   cases f1:BO (AD s a.left)with
   | false =>
    rw[f1]at hF1
    simp only[Bool.false_and,if_true,Bool.false_eq_true,if_false]
    push_cast[J1]
    refine .of hF1 ?_
    push_cast
    exact A1 (by push_cast[OF.rs];rfl)
   | true =>
    rw[f1]at hF1
    cases f2:BO (AD s a.right)with
    | false =>
     rw[f2]at hF2
     simp only[Bool.false_and,Bool.and_false,if_true,Bool.false_eq_true,if_false]
     push_cast[J1]
     refine .of hF1 ?_
     push_cast
     refine .of hF2 ?_
     push_cast
     exact A1 (by push_cast[OF.rs];rfl)
    | true =>
     rw[f2]at hF2
     cases f3:BO (AD s b.right)with
     | false =>
      rw[f3]at hF3
      simp only[Bool.and_false,if_true,Bool.false_eq_true,if_false]
      push_cast[J1]
      refine .of hF1 ?_
      push_cast
      refine .of hF2 ?_
      push_cast
      refine .of hF3 ?_
      push_cast
      exact A1 (by push_cast[OF.rs];rfl)
     | true =>
      rw[f3]at hF3
      have z1:size (AD s a.left)<=4000:=by unfold BO at f1;simp at f1;exact f1.1
      have z2:size (AD s a.right)<=4000:=by unfold BO at f2;simp at f2;exact f2.1
      have z3:size (AD s b.right)<=4000:=by unfold BO at f3;simp at f3;exact f3.1
      have hPut:=nY pos (AD s a.left) (AD s b.right) (AD s sub) hshp hsb (by omega) (by omega)
      have z4:=Ue pos (AD s a.left) (AD s b.right)
      have hSm:=gm (IG (AD s a.left) pos (AD s b.right)) (by omega)
      simp only[Bool.and_self,Bool.true_eq_false,if_false]
      push_cast[J1]
      refine .of hF1 ?_
      push_cast
      refine .of hF2 ?_
      push_cast
      refine .of hF3 ?_
      push_cast
      refine .of hP1 ?_
      push_cast
      refine .of hP3 ?_
      push_cast
      refine .of hPut ?_
      push_cast
      refine .of hSm ?_
      cases f4:BO (IG (AD s a.left) pos (AD s b.right))with
      | false =>
       push_cast
       exact A1 (by push_cast[OF.rs];rfl)
      | true =>
       have hgp:C2 (AD s a.left):=⟨hshp,z1,by unfold BO at f1;simp at f1;exact f1.2⟩
       have hl4:=WV hgp
       have hFi:=Vc (AD s a.left) [] (by simp;omega)
       have hRe:=PD (AH [] (AD s a.left)) [120] (by omega) (fun v hv=>by
        have:=Sp hgp.sh v hv;omega) (by simp)
       have hQ1:=Em (RS (AH [] (AD s a.left)) [120]) (PK hl4 _) (AD s a.left) (by omega)
       have hQ2:=Em (RS (AH [] (AD s a.left)) [120]) (PK hl4 _) (AD s a.right) (by omega)
       have hQ3:=Em (RS (AH [] (AD s a.left)) [120]) (PK hl4 _) (IG (AD s a.left) pos (AD s b.right)) (by omega)
       push_cast
       refine .of hFi ?_
       push_cast
       refine .of hRe ?_
       push_cast
       refine .of hQ1 ?_
       push_cast
       refine .of hP2 ?_
       push_cast
       refine .of hQ2 ?_
       push_cast
       refine .of hQ3 ?_
       push_cast
       exact A1 (by push_cast[OF.rs];rfl)
def BC {α:Type}(F:List Fq->α->List Fq×Int):List Fq->List α->List Fq×Int
 | out,[]=>(out,0)
 | out,x::l=>if (F out x).2≠0 then ([],(F out x).2) else BC F (F out x).1 l
theorem Bz {α:Type}{F:List Fq->α->List Fq×Int}{out o:List Fq}{x:α}{l:List α}(h:F out x=(o,0)):BC F out (x::l)=BC F o l:=by simp[BC,h]
theorem FB {α:Type}{F:List Fq->α->List Fq×Int}{out:List Fq}{x:α}{l:List α}{o:List Fq}{e:Int}(h:F out x=(o,e))(he:e≠0):BC F out (x::l)=([],e):=by simp[BC,h,he]
noncomputable def Kq (r:List A2)(i:Nat)(a:A2)(pos:List Int)(sub:Term)(out:List Fq)(j:Nat):List Fq×Int :=
 if i=j/\pos=[] then (out,0)
 else if (DV a (Ch [121] (r.getD j default)) pos sub).2≠0 then ([],(DV a (Ch [121] (r.getD j default)) pos sub).2)
 else if (DV a (Ch [121] (r.getD j default)) pos sub).1 then
  (if 4096<out.length+1 then ([],3) else (out++[{ ovO a (Ch [121] (r.getD j default)) pos sub with outer:=i,inner:=j }],0))
 else (if 4096<out.length then ([],3) else (out,0))
noncomputable def Ku (r:List A2)(i:Nat)(a:A2)(out:List Fq)(x:List Int×Term):List Fq×Int :=
 if x.2.var then (out,0) else BC (Kq r i a x.1 x.2) out (List.range r.length)
noncomputable def LR (r:List A2)(out:List Fq)(i:Nat):List Fq×Int :=
 BC (Ku r i (Ch [120] (r.getD i default))) out (Aq (Ch [120] (r.getD i default)).left [])
noncomputable def OA (r:List A2):List Fq×Int:=BC (LR r) [] (List.range r.length)
abbrev oH1 (out:List Fq)(o:V)(e:Int):List Ob:=[.cells F5 [o],.cells VZ [.int .i64 e],.cells F5 [Bf Wg 3 12 out],.arr DO 12 out.length]
abbrev ox (out:List Fq)(o:V)(e:Int)(a:A2)(nm:NM):List Ob:=oH1 out o e++[.dead,.cells BS (cR a),.map (Bk V.str nm),.cells Bc [.map 6]]
theorem vg (o:Fq):(Wg o).length=12:=rfl
theorem wn (o:Fq):sub 0 12 (Wg o)=Wg o:=rfl
theorem nO (o:Fq):Kt (Zb o)=some (Wg o):=rfl
theorem jt (o:Fq):V.agg (Wg o)=Zb o:=rfl
theorem qK {σ:Nat->Option Nat}(o:Fq):AR σ (Wg o)=Wg o:=rfl
theorem pP (o:Fq)(i:Int):put 0 [V.int .i64 i] (Wg o)=Wg { o with outer:=i }:=rfl
theorem tX (o:Fq)(i:Int):put 1 [V.int .i64 i] (Wg o)=Wg { o with inner:=i }:=rfl
theorem po (o:Fq):put 0 (Wg o) [.int .i64 0,.int .i64 0,.sl 1 [],.str [],.bool false,.sl 3 [],.str [],.bool false,.sl 3 [],.str [],.bool false,.sl 3 []]=Wg o:=rfl
attribute [push_cast] pP tX po
attribute [push_cast] vg wn nO jt qK ns
theorem ZN (a b:A2)(pos:List Int)(sub:Term):(DV a b pos sub).2≠0->(DV a b pos sub).1=false/\(DV a b pos sub).2=3:=by
 intro h
 have hE:=Sg sub b.left
 unfold DV at h ⊢
 split at h
 ·rename_i c
  rw[if_pos c]
  rcases hE with e | ⟨e,_⟩
  ·exact absurd e h
  ·exact⟨rfl,e⟩
 ·rename_i c
  rw[if_neg c]
  split at h
  ·rename_i c2
   rw[if_pos c2];exact⟨rfl,rfl⟩
  ·rename_i c2
   rw[if_neg c2]
   split at h
   ·rename_i c3
    rw[if_pos c3];exact⟨rfl,rfl⟩
   ·exact absurd rfl h
theorem lU {r:List A2}(hr:∀ x∈r,It x)(hrl:r.length<=64){i:Nat}(hi:i<r.length){a:A2}(ha:It a){pos:List Int}(hpos:pos.length<2^20){sub:Term}(hs:C2 sub){nm:NM}
  {Q:X->T->List Ob->Prop} (L:Ob) (hL:A5 (AM 10) L=L) (S:List Fq×Int)
  (out0:List Fq) (h0:out0.length<=4096) (hS:BC (Kq r i a pos sub) out0 (List.range r.length)=S)
  (kOk:∀ out,S=(out,0)->out.length<=4096->∀ T,Q .fall T (ox out (.sl 12 []) 0 a nm++[L,.dead]))
  (kBad:∀ out e,S.2=e->e≠0->∀ T J,Q .ret T (ox out (.sl 12 []) e a nm++(L::J))) :
  Cu.L7 (.ptr 0 0) (.ptr 1 0) (.ptr 2 0) (.ro [.int .i64 i] 0) (.ptr 5 0) (Ht pos) (.ro (cT sub) 0) (Ak r) (.int .i64 r.length) (.int .i64 0) 9 (ox out0 (.sl 12 []) 0 a nm++[L,.dead]) Q:=by
 refine Ad (n:=r.length) (R:=fun j=>∀ out:List Fq,out.length<=4096->BC (Kq r i a pos sub) out ((List.range r.length).drop j)=S->Cu.L7 (.ptr 0 0) (.ptr 1 0) (.ptr 2 0) (.ro [.int .i64 i] 0) (.ptr 5 0) (Ht pos) (.ro (cT sub) 0) (Ak r) (.int .i64 r.length) (.int .i64 j) 9 (ox out (.sl 12 []) 0 a nm++[L,.dead]) Q) ?_ ?_ 0 (by omega) out0 h0 hS
 ·intro j hj ih out hol he
  have hx:=hr _ (A4 hj)
  have hjr:j<(List.range r.length).length:=by simpa using hj
  have hgj:(List.range r.length).getD j default=j:=by simp[List.getD_eq_getElem?_getD,hj]
  rw[Al hjr,hgj]at he
  have hI:=VP (r.getD j default) (by have:=hx.l.sz;have:=hx.r.sz;omega)
  rw[aD (pre:=[121]) (by simp) hx.l.vf hx.r.vf hx.v]at hI
  have hb:=KW (pre:=[121]) rfl hx
  have hO:=YQ ha hb hpos hs
  have hErr:=ZN a (Ch [121] (r.getD j default)) pos sub
  have hst:Kq r i a pos sub out j=Kq r i a pos sub out j:=rfl
  conv at hst=>rhs;unfold Kq
  have hl9:∀ k:Nat,AM 9 k=if k<9 then some k else none:=fun _=>rfl
  refine A8.2 ?_
  by_cases hc:i=j/\pos=[]
  ·rw[if_pos hc]at hst
   rw[Bz hst]at he
   have:=ih out hol he
   obtain⟨c1,c2⟩:=hc
   have i1:((i:Int)=(j:Int))=True:=eq_true (by omega)
   have i2:((pos.length:Int)=0)=True:=eq_true (by rw[c2];rfl)
   push_cast[BT hj,hL,i1,i2,CV (show j<2^62 by omega)]
   push_cast at this
   exact this
  ·rw[if_neg hc]at hst
   have go:∀ T:T,True:=fun _=>trivial
   generalize Ch [121] (r.getD j default)=b at hI hb hO hErr hst
   generalize hoo:ovO a b pos sub=o at hO hst
   generalize hov:DV a b pos sub=v at hO hErr hst
   obtain⟨ok,e⟩:=v
   simp only at hErr hst
   by_cases hi1:i=j
   ·have hp:pos≠[]:=fun h=>hc ⟨hi1,h⟩
    have i1:((i:Int)=(j:Int))=True:=eq_true (by omega)
    have i2:((pos.length:Int)=0)=False:=eq_false (by have:=List.length_pos_iff.2 hp;omega)
    push_cast[BT hj,i1,i2]
    refine .of hI ?_
    push_cast
    refine .of hO ?_
    have hroom:(out.length+1)*184<=Ah:=by unfold Ah;omega
    by_cases he0:e=0
    ·subst he0
     rw[if_neg (by simp)]at hst
     cases ok with
     | true =>
      rw[if_pos rfl]at hst
      by_cases h4:4096<out.length+1
      ·rw[if_pos h4]at hst
       rw[FB hst (by omega)]at he
       have i4:((4096:Int)<(out.length:Int)+1)=True:=eq_true (by omega)
       push_cast[hroom,i4,List.length_append,List.length_singleton]
       have hl3:out.length+1=(out++[({ o with outer:=(i:Int),inner:=(j:Int) }:Fq)]).length:=by simp
       rw[hl3]
       exact kBad (out++[_]) 3 (by rw[<-he]) (by omega) _ _
      ·rw[if_neg h4]at hst
       rw[Bz hst]at he
       have i4:((4096:Int)<(out.length:Int)+1)=False:=eq_false (by omega)
       have:=ih _ (by simp;omega) he
       push_cast[hroom,i4,hL,List.length_append,List.length_singleton,CV (show j<2^62 by omega)]
       push_cast[List.length_append,List.length_singleton]at this
       exact this
     | false =>
      rw[if_neg (by simp),if_neg (by omega)]at hst
      rw[Bz hst]at he
      have i4:((4096:Int)<(out.length:Int))=False:=eq_false (by omega)
      have:=ih _ hol he
      push_cast[i4,hL,CV (show j<2^62 by omega)]
      push_cast at this
      exact this
    ·rw[if_pos he0]at hst
     rw[FB hst he0]at he
     have i3:(e=0)=False:=eq_false he0
     push_cast[i3]
     exact kBad out e (by rw[<-he]) he0 _ _
   ·have i1:((i:Int)=(j:Int))=False:=eq_false (by omega)
    push_cast[BT hj,i1]
    refine .of hI ?_
    push_cast
    refine .of hO ?_
    have hroom:(out.length+1)*184<=Ah:=by unfold Ah;omega
    by_cases he0:e=0
    ·subst he0
     rw[if_neg (by simp)]at hst
     cases ok with
     | true =>
      rw[if_pos rfl]at hst
      by_cases h4:4096<out.length+1
      ·rw[if_pos h4]at hst
       rw[FB hst (by omega)]at he
       have i4:((4096:Int)<(out.length:Int)+1)=True:=eq_true (by omega)
       push_cast[hroom,i4,List.length_append,List.length_singleton]
       have hl3:out.length+1=(out++[({ o with outer:=(i:Int),inner:=(j:Int) }:Fq)]).length:=by simp
       rw[hl3]
       exact kBad (out++[_]) 3 (by rw[<-he]) (by omega) _ _
      ·rw[if_neg h4]at hst
       rw[Bz hst]at he
       have i4:((4096:Int)<(out.length:Int)+1)=False:=eq_false (by omega)
       have:=ih _ (by simp;omega) he
       push_cast[hroom,i4,hL,List.length_append,List.length_singleton,CV (show j<2^62 by omega)]
       push_cast[List.length_append,List.length_singleton]at this
       exact this
     | false =>
      rw[if_neg (by simp),if_neg (by omega)]at hst
      rw[Bz hst]at he
      have i4:((4096:Int)<(out.length:Int))=False:=eq_false (by omega)
      have:=ih _ hol he
      push_cast[i4,hL,CV (show j<2^62 by omega)]
      push_cast at this
      exact this
    ·rw[if_pos he0]at hst
     rw[FB hst he0]at he
     have i3:(e=0)=False:=eq_false he0
     push_cast[i3]
     exact kBad out e (by rw[<-he]) he0 _ _
 ·intro out hol he
  have e1:(List.range r.length).drop r.length=[]:=by rw[List.drop_eq_nil_of_le];simp
  rw[e1]at he
  simp only[BC]at he
  refine A8.2 ?_
  push_cast[B8 (Nat.le_refl _)]
  have:=kOk out he.symm hol
  exact this _
theorem ly (out:List Fq)(e:Int)(a:A2)(nm:NM):IU 8 (ox out (.sl 12 []) e a nm):=⟨rfl,by
 show [A5 (AM 8) (.cells F5 [.sl 12 []]),A5 (AM 8) (.cells VZ [.int .i64 e]),A5 (AM 8) (.cells F5 [Bf Wg 3 12 out]),A5 (AM 8) (.arr DO 12 out.length),A5 (AM 8) .dead,A5 (AM 8) (.cells BS (cR a)),A5 (AM 8) (.map (Bk V.str nm)),A5 (AM 8) (.cells Bc [.map 6])]=_
 have h3:AM 8 3=some 3:=rfl
 have h6:AM 8 6=some 6:=rfl
 push_cast[h3,h6]⟩
theorem jG (out:List Fq)(e:Int)(a:A2)(nm:NM)(J:List Ob):cut 8 (ox out (.sl 12 []) e a nm++J)=ox out (.sl 12 []) e a nm:=by
 show [A5 (AM 9) (.cells F5 [.sl 12 []]),A5 (AM 9) (.cells VZ [.int .i64 e]),A5 (AM 9) (.cells F5 [Bf Wg 3 12 out]),A5 (AM 9) (.arr DO 12 out.length),A5 (AM 9) .dead,A5 (AM 9) (.cells BS (cR a)),A5 (AM 9) (.map (Bk V.str nm)),A5 (AM 9) (.cells Bc [.map 6])]=_
 have h3:AM 9 3=some 3:=rfl
 have h6:AM 9 6=some 6:=rfl
 push_cast[h3,h6]
theorem XF {t:Term}(ht:C2 t){x:List Int×Term}(hx:x∈Aq t []):C2 x.2/\x.1.length<2^20/\Dg t x.1=some x.2:=by
 have h1:=Pl t [] x hx
 obtain⟨p,hp,h2⟩:=h1
 rw[List.nil_append]at hp
 rw[<-hp]at h2
 have h3:=(QE t [] x hx).2
 have:=ht.sz
 exact⟨C2.sub _ ht h2,by simp only[List.length_nil]at h3;omega,h2⟩
theorem AaR {r:List A2}(hr:∀ x∈r,It x)(hrl:r.length<=64){i:Nat}(hi:i<r.length){a:A2}(ha:It a){nm:NM}(S:List Fq×Int)(out0:List Fq)(h0:out0.length<=4096)
  (hS:BC (Ku r i a) out0 (Aq a.left [])=S) (T:T) (Ks:List K) {Q:X->Dw.T->List Ob->Prop}
  (t34:lk T 34=.fn (.func Dd) [] [.ro (cT a.left) 0]) (t1:lk T 1=.ro [Ak r] 0) (t2:lk T 2=.ptr 0 0) (t3:lk T 3=.ptr 1 0) (t4:lk T 4=.ptr 2 0) (t5:lk T 5=.ro [.int .i64 i] 0) (t6:lk T 6=.ptr 5 0)
  (hT8:(T.map fun p=>(p.1,ren (AM 8) p.2))=T) (hT10:(T.map fun p=>(p.1,ren (AM 10) p.2))=T)
  (kOk:∀ out,S=(out,0)->out.length<=4096->AB prog Cu.nd 0 Ks T (ox out (.sl 12 []) 0 a nm++[.dead]) Q)
  (kBad:∀ out e,S.2=e->e≠0->AB prog Cu.nd 0 (.c (eB .ret)::Ks) T (ox out (.sl 12 []) e a nm++[.dead]) Q) :
  AB prog Cu.nd 0 (.c (.rf (.s 34) [35,36] (.seq (.reg [.mv 8 (.s 35)]) (.reg [.al 9 A3 [.str [],.bool false,.sl 3 []],.sf 9 3 (.s 36)])) (.m 9))::Ks) T (ox out0 (.sl 12 []) 0 a nm) Q:=by
 refine AB.rf Dd [] [.ro (cT a.left) 0] ((Aq a.left []).map Kn) (fun j H1=>∃ out,H1=ox out (.sl 12 []) 0 a nm/\out.length<=4096/\BC (Ku r i a) out ((Aq a.left []).drop j)=S) (fun e H1=>e=.ret/\∃ out e',S.2=e'/\e'≠0/\H1=ox out (.sl 12 []) e' a nm) t34 (Ib a.left (by have:=ha.l.sz;omega)) ?_ ⟨out0,rfl,h0,hS⟩ hT8 ?_ ?_ ?_ ?_ ?_
 ·intro it hit
  obtain⟨x,_,rfl⟩:=List.mem_map.1 hit
  rfl
 ·rintro j H1 ⟨out,rfl,_⟩
  exact ly out 0 a nm
 ·rintro e H1 ⟨_,out,e',_,_,rfl⟩
  exact ly out e' a nm
 ·rintro lo rr j it H1 hit ⟨out,rfl,hol,hq⟩
  rw[List.getElem?_map]at hit
  cases hx:(Aq a.left [])[j]? with
  | none=>rw[hx]at hit;cases hit
  | some x =>
  rw[hx]at hit
  have hit:it=Kn x:=by simpa using hit.symm
  subst hit
  have hj:j<(Aq a.left []).length:=(List.getElem?_eq_some_iff.1 hx).1
  have hxj:(Aq a.left []).getD j default=x:=by rw[List.getD_eq_getElem?_getD,hx];rfl
  have hxm:x∈Aq a.left []:=hxj▸A4 hj
  obtain⟨hg,hpl,hsb⟩:=XF ha.l hxm
  rw[Al hj,hxj]at hq
  have hL:A5 (AM 10) (.lp lo .busy rr T)=.lp lo .busy rr T:=by push_cast[hT10]
  have hst:Ku r i a out x=Ku r i a out x:=rfl
  conv at hst=>rhs;unfold Ku
  push_cast[Q4,Kn]
  refine A8.2 ?_
  cases hv:x.2.var with
  | true =>
   rw[hv,if_pos rfl]at hst
   rw[Bz hst]at hq
   push_cast[hv,t1,t2,t3,t4,t5,t6]
   exact⟨rfl,out,jG out 0 a nm [.lp lo .busy rr T,.dead],hol,hq⟩
  | false =>
   rw[hv,if_neg (by simp)]at hst
   push_cast[hv,t1,t2,t3,t4,t5,t6,hT10]
   refine lU hr hrl hi ha hpl hg (.lp lo .busy rr T) hL _ out hol rfl ?_ ?_
   ·intro out' h1 h2 T'
    rw[h1]at hst
    rw[Bz hst]at hq
    exact⟨rfl,out',jG out' 0 a nm [.lp lo .busy rr T,.dead],h2,hq⟩
   ·intro out' e' h1 h2 T' J
    generalize BC (Kq r i a x.1 x.2) out (List.range r.length)=S2 at hst h1
    obtain⟨o2,e2⟩:=S2
    have h1:e2=e':=h1
    subst h1
    rw[FB hst h2]at hq
    exact⟨rfl,rfl,out',e2,by rw[<-hq],h2,jG out' e2 a nm (.lp lo .busy rr T::J)⟩
 ·rintro H1 ⟨out,rfl,hol,hq⟩
  rw[List.length_map,Ao]at hq
  exact kOk out hq.symm hol
 ·rintro e H1 ⟨rfl,out,e',h1,h2,rfl⟩
  exact kBad out e' h1 h2
abbrev N1 (l:List Fq):V:=DI Wg 12 l
abbrev p6 (out:List Fq)(x:A2):List Ob:=oH1 out (.sl 12 []) 0++[.dead,.cells BS (cR x)]
theorem eY (z:Term):AR (Ay [6,7]) [Ap z,V.ptr 7 0]=[Ap z,V.ptr 1 0]:=by
 have q5:Ay [6,7] 7=some 1:=rfl
 push_cast[q5]
theorem YJ {r:List A2}(hr:∀ x∈r,It x)(hrl:r.length<=64):PF N5 [Ak r] (.tup [N1 (OA r).1,.int .i64 (OA r).2]):=by
 refine Ab Cu.ok rfl ?_
 push_cast
 refine Ad (n:=r.length) (R:=fun k=>∀ (out:List Fq),out.length<=4096->BC (LR r) out ((List.range r.length).drop k)=OA r->Cu.L11 (.ro [Ak r] 0) (.ptr 0 0) (.ptr 1 0) (.ptr 2 0) .any .any (Ak r) (.int .i64 r.length) (.int .i64 k) 0 (oH1 out (.sl 12 []) 0) (Bx 0 Cu.rs fun x' H'=>x'=.tup [N1 (OA r).1,.int .i64 (OA r).2]/\H'=[])) ?_ ?_ 0 (by omega) [] (by simp) rfl
 ·intro k hk ih out hol he
  have hx:=hr _ (A4 hk)
  have hkr:k<(List.range r.length).length:=by simpa using hk
  have hgk:(List.range r.length).getD k default=k:=by simp[List.getD_eq_getElem?_getD,hk]
  rw[Al hkr,hgk]at he
  have hst:LR r out k=LR r out k:=rfl
  conv at hst=>rhs;unfold LR
  have hRR:=aD (pre:=[120]) (by simp) hx.l.vf hx.r.vf hx.v
  have hg:=KW (pre:=[120]) rfl hx
  generalize hxx:r.getD k default=x at hx hRR hg hst
  have hN1:=Eh [] x.left (by have:=hx.l.sz;simp;omega)
  have hN2:=Eh (Hd [120] [] x.left).1 x.right (by have:=Nj [120] x.left [];have:=hx.l.sz;have:=hx.r.sz;simp only[List.length_nil]at *;omega)
  unfold pZ at hRR
  generalize Hd [120] [] x.left=u at hN1 hN2 hRR
  generalize Hd [120] u.1 x.right=w at hN2 hRR
  have hcR:cR ⟨u.2,w.2⟩=cR (Ch [120] x):=by rw[hRR]
  generalize Ch [120] x=a at hcR hg hst
  have hW:=Mp a.left
  refine A8.2 ?_
  simp only[Cu.nd]
  generalize hC:C.n 10=c10
  push_cast[BT hk]
  subst hC
  rw[qL]
  simp only[Cu.nd]
  generalize hR:C.rf (O.s 34) [35,36] ((C.reg [S.mv 8 (O.s 35)]).seq (C.reg [S.al 9 A3 [V.str [],V.bool false,V.sl 3 []],S.sf 9 3 (O.s 36)])) (C.m 9)=cRf
  have hz:∀ x:A2,put 0 (cR x) [V.str [],V.bool false,V.sl 3 [],V.str [],V.bool false,V.sl 3 []]=cR x:=fun _=>rfl
  have hz2:∀ y:A2,put 0 (cT u.2++cT w.2) (cR y)=cR a:=fun _=>by rw[<-hcR];rfl
  push_cast[BT hk,hxx]
  refine af _ ?_
  push_cast[hz]
  refine⟨?_,?_,?_⟩
  all_goals
   refine Fz (p6 out x) [] (eY x.left) (Be▸hN1) ?_
   push_cast[hz]
   refine Fz (p6 out x) [] (eY x.right) (Be▸hN2) ?_
   push_cast[hz,hz2]
   refine .of hW ?_
   push_cast
   subst hR
   refine AaR hr hrl hk hg (nm:=w.1) _ out hol rfl _ _ rfl rfl rfl rfl rfl rfl rfl (by push_cast;rfl) (by push_cast;rfl) ?_ ?_
   ·intro out' h1 h2
    rw[h1]at hst
    rw[Bz hst]at he
    have this:=ih out' h2 he
    push_cast[CV (show k<2^62 by omega)]
    push_cast at this
    exact this
   ·intro out' e' h1 h2
    generalize BC (Ku r k a) out (Aq a.left [])=S2 at hst h1
    obtain⟨o2,e2⟩:=S2
    have h1:e2=e':=h1
    subst h1
    rw[FB hst h2]at he
    rw[<-he]
    push_cast[eB]
    exact A1 (by push_cast[Cu.rs];rfl)
 ·intro out hol he
  have e1:(List.range r.length).drop r.length=[]:=by rw[List.drop_eq_nil_of_le];simp
  rw[e1]at he
  simp only[BC]at he
  refine A8.2 ?_
  push_cast[B8 (Nat.le_refl _)]
  rw[<-he]
  exact A1 (by push_cast[Cu.rs])
noncomputable def Hz (r:List A2)(i:Nat)(p:List Int)(x:Term)(out:List Fq)(j:Nat):List Fq×Int :=
 if x.var=true\/(i=j/\p=[]) then (out,0)
 else if (DV (Ch [120] (r.getD i default)) (Ch [121] (r.getD j default)) p (app (Nm [120] (AH [] (r.getD i default).left)) x)).2≠0 then ([],(DV (Ch [120] (r.getD i default)) (Ch [121] (r.getD j default)) p (app (Nm [120] (AH [] (r.getD i default).left)) x)).2)
 else if (DV (Ch [120] (r.getD i default)) (Ch [121] (r.getD j default)) p (app (Nm [120] (AH [] (r.getD i default).left)) x)).1 then (out++[ovR (Ch [120] (r.getD i default)) (Ch [121] (r.getD j default)) i j p (app (Nm [120] (AH [] (r.getD i default).left)) x)],0)
 else (out,0)
noncomputable def Ql (r:List A2)(i:Nat)(out:List Fq)(x:List Int×Term):List Fq×Int:=BC (Hz r i x.1 x.2) out (List.range r.length)
noncomputable def IM (r:List A2)(out:List Fq)(i:Nat):List Fq×Int:=BC (Ql r i) out (Aq (r.getD i default).left [])
noncomputable def P7 (r:List A2):List Fq×Int :=
 if (BC (IM r) [] (List.range r.length)).2≠0 then ([],(BC (IM r) [] (List.range r.length)).2)
 else if 4096<(BC (IM r) [] (List.range r.length)).1.length then ([],3) else ((BC (IM r) [] (List.range r.length)).1,0)
abbrev lH (out:List Fq):Ob:=.arr DO 12 out.length
theorem lq {x:A2}(hx:It x){p:List Int}{y:Term}(h:Dg x.left p=some y):Dg (Ch [120] x).left p=some (app (Nm [120] (AH [] x.left)) y):=by
 have h1:=Xw (σ:=RS (AH [] x.left) [120]) p x.left y hx.l.sh h
 rw[TT,TT]at h1
 exact h1
theorem gQ {r:List A2}(hr:∀ x∈r,It x)(hrl:r.length<=64){i:Nat}(hi:i<r.length){p:List Int}(hp:p.length<2^20){x:Term}(hsx:Dg (r.getD i default).left p=some x){P:List (List Int)}{k:Nat}(hk:k<2^40){R:V}
  (S:List Fq×Int) (out0:List Fq) (m:Nat) (h0:out0.length<=m) (hm:m<2^30) (hS:BC (Hz r i p x) out0 (List.range r.length)=S)
  (kOk:∀ out,S=(out,0)->out.length<=m+64->CX.L10 (Ak r) (Bf Wg 0 12 out) (.int .i64 i) (.int .i64 r.length) (.int .i64 i) (SO P) (.int .i64 P.length) (.int .i64 (k+1:Nat)) 0 [lH out] (Bx 0 CX.rs fun x' H'=>x'=R/\H'=[]))
  (kBad:∀ e,S.2=e->e≠0->R=.tup [N1 [],.int .i64 e]) :
  CX.L8 (Ak r) (Bf Wg 0 12 out0) (.int .i64 i) (Ht p) (.ro (cT x) 0) (.int .i64 r.length) (.int .i64 i) (SO P) (.int .i64 P.length) (.int .i64 k) (.int .i64 r.length) (.int .i64 0) 0 [lH out0,.dead] (Bx 0 CX.rs fun x' H'=>x'=R/\H'=[]):=by
 refine Ad (n:=r.length) (R:=fun j=>∀ out:List Fq,out.length<=m+j->BC (Hz r i p x) out ((List.range r.length).drop j)=S->CX.L8 (Ak r) (Bf Wg 0 12 out) (.int .i64 i) (Ht p) (.ro (cT x) 0) (.int .i64 r.length) (.int .i64 i) (SO P) (.int .i64 P.length) (.int .i64 k) (.int .i64 r.length) (.int .i64 j) 0 [lH out,.dead] (Bx 0 CX.rs fun x' H'=>x'=R/\H'=[])) ?_ ?_ 0 (by omega) out0 (by omega) hS
 ·intro j hj ih out hol he
  have hjr:j<(List.range r.length).length:=by simpa using hj
  have hgj:(List.range r.length).getD j default=j:=by simp[List.getD_eq_getElem?_getD,hj]
  rw[Al hjr,hgj]at he
  have hO:=qD hr hrl hi hj hp (lq (hr _ (A4 hi)) hsx)
  have hst:Hz r i p x out j=Hz r i p x out j:=rfl
  conv at hst=>rhs;unfold Hz
  generalize hov:DV (Ch [120] (r.getD i default)) (Ch [121] (r.getD j default)) p (app (Nm [120] (AH [] (r.getD i default).left)) x)=v at hO hst
  generalize ovR (Ch [120] (r.getD i default)) (Ch [121] (r.getD j default)) i j p (app (Nm [120] (AH [] (r.getD i default).left)) x)=o at hO hst
  obtain⟨ok,e⟩:=v
  simp only at hst
  refine A8.2 ?_
  cases hv:x.var with
  | true =>
   rw[hv,if_pos (.inl rfl)]at hst
   rw[Bz hst]at he
   have this:=ih out (by omega) he
   push_cast[BT hj,hv,CV (show j<2^62 by omega)]
   push_cast at this
   exact this
  | false =>
   by_cases hc:i=j/\p=[]
   ·rw[if_pos (.inr hc)]at hst
    rw[Bz hst]at he
    have this:=ih out (by omega) he
    obtain⟨c1,c2⟩:=hc
    have i1:((i:Int)=(j:Int))=True:=eq_true (by omega)
    have i2:((p.length:Int)=0)=True:=eq_true (by rw[c2];rfl)
    push_cast[BT hj,hv,i1,i2,CV (show j<2^62 by omega)]
    push_cast at this
    exact this
   ·rw[if_neg (by rw[hv];simp only[Bool.false_eq_true,false_or];exact hc)]at hst
    have hroom:(out.length+1)*184<=Ah:=by unfold Ah;omega
    by_cases hi1:i=j
    ·have hpn:p≠[]:=fun h=>hc ⟨hi1,h⟩
     have i1:((i:Int)=(j:Int))=True:=eq_true (by omega)
     have i2:((p.length:Int)=0)=False:=eq_false (by have:=List.length_pos_iff.2 hpn;omega)
     push_cast[BT hj,hv,i1,i2]
     refine .of hO ?_
     by_cases he0:e=0
     ·subst he0
      rw[if_neg (by simp)]at hst
      cases ok with
      | true =>
       rw[if_pos rfl]at hst
       rw[Bz hst]at he
       have this:=ih _ (by simp;omega) he
       push_cast[hroom,CV (show j<2^62 by omega)]
       have hl3:out.length+1=(out++[o]).length:=by simp
       rw[hl3]
       push_cast at this
       exact this
      | false =>
       rw[if_neg (by simp)]at hst
       rw[Bz hst]at he
       have this:=ih _ (by omega) he
       push_cast[CV (show j<2^62 by omega)]
       push_cast at this
       exact this
     ·rw[if_pos he0]at hst
      rw[FB hst he0]at he
      have i3:(e=0)=False:=eq_false he0
      push_cast[i3]
      rw[kBad e (by rw[<-he]) he0]
      exact A1 (by push_cast[CX.rs];rfl)
    ·have i1:((i:Int)=(j:Int))=False:=eq_false (by omega)
     push_cast[BT hj,hv,i1]
     refine .of hO ?_
     by_cases he0:e=0
     ·subst he0
      rw[if_neg (by simp)]at hst
      cases ok with
      | true =>
       rw[if_pos rfl]at hst
       rw[Bz hst]at he
       have this:=ih _ (by simp;omega) he
       push_cast[hroom,CV (show j<2^62 by omega)]
       have hl3:out.length+1=(out++[o]).length:=by simp
       rw[hl3]
       push_cast at this
       exact this
      | false =>
       rw[if_neg (by simp)]at hst
       rw[Bz hst]at he
       have this:=ih _ (by omega) he
       push_cast[CV (show j<2^62 by omega)]
       push_cast at this
       exact this
     ·rw[if_pos he0]at hst
      rw[FB hst he0]at he
      have i3:(e=0)=False:=eq_false he0
      push_cast[i3]
      rw[kBad e (by rw[<-he]) he0]
      exact A1 (by push_cast[CX.rs];rfl)
 ·intro out hol he
  have e1:(List.range r.length).drop r.length=[]:=by rw[List.drop_eq_nil_of_le];simp
  rw[e1]at he
  simp only[BC]at he
  have this:=kOk out he.symm (by omega)
  refine A8.2 ?_
  push_cast[B8 (Nat.le_refl _),CV (show k<2^62 by omega)]
  push_cast at this
  exact this
theorem gX {r:List A2}(hr:∀ x∈r,It x)(hrl:r.length<=64):PF RY [Ak r] (.tup [N1 (P7 r).1,.int .i64 (P7 r).2]):=by
 generalize hR:V.tup [N1 (P7 r).1,.int .i64 (P7 r).2]=R
 generalize hSS:BC (IM r) [] (List.range r.length)=SS
 have hRS:R=if SS.2≠0 then .tup [N1 [],.int .i64 SS.2] else if 4096<SS.1.length then .tup [N1 [],.int .i64 3] else .tup [N1 SS.1,.int .i64 0]:=by
  rw[<-hR]
  unfold P7
  rw[hSS]
  split
  ·rfl
  ·split<;>rfl
 refine Ab CX.ok rfl ?_
 push_cast
 refine Ad (n:=r.length) (R:=fun i=>∀ out:List Fq,out.length<=i*(4000*64)->BC (IM r) out ((List.range r.length).drop i)=SS->CX.L12 (Ak r) (Bf Wg 0 12 out) (.int .i64 r.length) (.int .i64 i) 0 [lH out] (Bx 0 CX.rs fun x' H'=>x'=R/\H'=[])) ?_ ?_ 0 (by omega) [] (by simp) hSS
 ·intro i hi ih out hol he
  have hx:=hr _ (A4 hi)
  have hir:i<(List.range r.length).length:=by simpa using hi
  have hgi:(List.range r.length).getD i default=i:=by simp[List.getD_eq_getElem?_getD,hi]
  rw[Al hir,hgi]at he
  have hst:IM r out i=IM r out i:=rfl
  conv at hst=>rhs;unfold IM
  have hPs:=VC (r.getD i default).left (by have:=hx.l.sz;omega)
  have hvl:(Aq (r.getD i default).left []).length=size (r.getD i default).left:=Nl _ _
  have hpl:(Fe (r.getD i default).left).length=size (r.getD i default).left:=by
   have:=congrArg List.length (Lc (r.getD i default).left [])
   simp only[List.length_map]at this
   omega
  have hsz:=hx.l.sz
  have mid:CX.L10 (Ak r) (Bf Wg 0 12 out) (.int .i64 i) (.int .i64 r.length) (.int .i64 i) (SO (Fe (r.getD i default).left)) (.int .i64 (Fe (r.getD i default).left).length) (.int .i64 (0:Nat)) 0 [lH out] (Bx 0 CX.rs fun x' H'=>x'=R/\H'=[]):=by
   refine Ad (n:=(Fe (r.getD i default).left).length) (R:=fun k=>∀ o2:List Fq,o2.length<=out.length+k*64->BC (Ql r i) o2 ((Aq (r.getD i default).left []).drop k)=BC (Ql r i) out (Aq (r.getD i default).left [])->CX.L10 (Ak r) (Bf Wg 0 12 o2) (.int .i64 i) (.int .i64 r.length) (.int .i64 i) (SO (Fe (r.getD i default).left)) (.int .i64 (Fe (r.getD i default).left).length) (.int .i64 k) 0 [lH o2] (Bx 0 CX.rs fun x' H'=>x'=R/\H'=[])) ?_ ?_ 0 (by omega) out (by omega) rfl
   ·intro k hk ih2 o2 ho2 he2
    obtain⟨v1,v2⟩:=lL (r.getD i default).left hk
    have hkv:k<(Aq (r.getD i default).left []).length:=by omega
    rw[Al hkv]at he2
    have hg:=XF hx.l (A4 hkv)
    rw[v2]at hg
    have hAt:=fV (r.getD i default).left ((Fe (r.getD i default).left).getD k default) (by omega) (by omega)
    rw[v1]at hAt
    have hst2:Ql r i o2 ((Aq (r.getD i default).left []).getD k default)=BC (Hz r i ((Fe (r.getD i default).left).getD k default) ((Aq (r.getD i default).left []).getD k default).2) o2 (List.range r.length):=by unfold Ql;rw[v2]
    generalize (Aq (r.getD i default).left []).getD k default=y at he2 hst2 hAt v1 hg
    generalize hpp:(Fe (r.getD i default).left).getD k default=p at hst2 hAt v1 hg
    have hin:=gQ hr hrl hi hg.2.1 v1 (P:=Fe (r.getD i default).left) (k:=k) (by omega) (R:=R) _ o2 (out.length+k*64) ho2 (by have:=Nat.mul_le_mul_right (4000*64) (show i<=64 by omega);omega) rfl
     (fun o3 h1 h2=>by
      rw[h1]at hst2
      rw[Bz hst2]at he2
      exact ih2 o3 (by omega) he2)
     (fun e h1 h2=>by
      generalize BC (Hz r i p y.2) o2 (List.range r.length)=S2 at hst2 h1
      obtain⟨o4,e2⟩:=S2
      have h1:e2=e:=h1
      subst h1
      rw[FB hst2 h2]at he2
      rw[<-he2]at hst
      rw[FB hst h2]at he
      rw[hRS,<-he,if_pos h2])
    refine A8.2 ?_
    push_cast[BT hk,BT hi,hpp]
    refine .of hAt ?_
    push_cast[Va]
    push_cast at hin
    exact hin
   ·intro o2 ho2 he2
    have e1:(Aq (r.getD i default).left []).drop (Fe (r.getD i default).left).length=[]:=by rw[List.drop_eq_nil_of_le];omega
    rw[e1]at he2
    simp only[BC]at he2
    rw[<-he2]at hst
    rw[Bz hst]at he
    have this:=ih o2 (by rw[Nat.succ_mul];have:=Nat.mul_le_mul_right 64 (show (Fe (r.getD i default).left).length<=4000 by omega);omega) he
    refine A8.2 ?_
    push_cast[B8 (Nat.le_refl _),CV (show i<2^62 by omega)]
    push_cast at this
    exact this
  refine A8.2 ?_
  push_cast[BT hi]
  refine .of hPs ?_
  push_cast
  push_cast at mid
  exact mid
 ·intro out hol he
  have e1:(List.range r.length).drop r.length=[]:=by rw[List.drop_eq_nil_of_le];simp
  rw[e1]at he
  simp only[BC]at he
  rw[<-he]at hRS
  rw[if_neg (by simp)]at hRS
  refine A8.2 ?_
  by_cases h4:4096<out.length
  ·have i4:((4096:Int)<(out.length:Int))=True:=eq_true (by omega)
   push_cast[B8 (Nat.le_refl _),i4]
   rw[hRS,if_pos h4]
   exact A1 (by push_cast[CX.rs];rfl)
  ·have i4:((4096:Int)<(out.length:Int))=False:=eq_false (by omega)
   push_cast[B8 (Nat.le_refl _),i4]
   rw[hRS,if_neg h4]
   exact A1 (by push_cast[CX.rs])
def ri (P R:List Fq×Int):Prop:=(P.2=0/\R.2=0/\P.1.length=R.1.length/\P.1.length<=4096)\/(P.2=3/\(R.2=3\/(R.2=0/\4096<R.1.length)))
def mV {β:Type}(G:List Fq->β->List Fq×Int)(l:List β):Prop:=∀ o,∀ y∈l,(G o y).2=3\/((G o y).2=0/\o.length<=(G o y).1.length)
theorem Nx {β:Type}{G:List Fq->β->List Fq×Int}:∀ (l:List β)(o:List Fq),mV G l->(BC G o l).2=3\/((BC G o l).2=0/\o.length<=(BC G o l).1.length)
 | [],o,_=>.inr ⟨rfl,Nat.le_refl _⟩
 | y::l,o,h=>by
  simp only[BC]
  rcases h o y (by simp)with h1 | ⟨h1,h2⟩
  ·rw[if_pos (by rw[h1];decide)];exact .inl h1
  ·rw[if_neg (by rw[h1];decide)]
   rcases Nx l (G o y).1 fun o z hz=>h o z (by simp[hz])with h3 | ⟨h3,h4⟩
   ·exact .inl h3
   ·exact .inr ⟨h3,by omega⟩
theorem Tf {α β:Type}{F:List Fq->α->List Fq×Int}{G:List Fq->β->List Fq×Int}{f:β->α}:∀ (l:List β)(o o':List Fq),mV G l->(∀ o o',∀ y∈l,o.length=o'.length->o.length<=4096->ri (F o (f y)) (G o' y))->o.length=o'.length->o.length<=4096->ri (BC F o (l.map f)) (BC G o' l)
 | [],o,o',_,_,h1,h2=>.inl ⟨rfl,rfl,h1,h2⟩
 | y::l,o,o',hm,hs,h1,h2=>by
  simp only[List.map_cons,BC]
  rcases hs o o' y (by simp) h1 h2 with ⟨a1,a2,a3,a4⟩|⟨a1,a2⟩
  ·rw[if_neg (by rw[a1];decide),if_neg (by rw[a2];decide)]
   exact Tf l _ _ (fun o z hz=>hm o z (by simp[hz])) (fun o o' z hz=>hs o o' z (by simp[hz])) a3 a4
  ·rw[if_pos (by rw[a1];decide)]
   refine .inr ⟨a1,?_⟩
   rcases a2 with a2 | ⟨a2,a3⟩
   ·rw[if_pos (by rw[a2];decide)];exact .inl a2
   ·rw[if_neg (by rw[a2];decide)]
    rcases Nx l (G o' y).1 fun o z hz=>hm o z (by simp[hz])with h3 | ⟨h3,h4⟩
    ·exact .inl h3
    ·exact .inr ⟨h3,by omega⟩
theorem S3 (a b:A2)(pos:List Int)(sub:Term):(DV a b pos sub).2=0\/(DV a b pos sub).2=3:=by
 by_cases h:(DV a b pos sub).2=0
 ·exact .inl h
 ·exact .inr (ZN a b pos sub h).2
theorem PV (r:List A2)(i:Nat)(p:List Int)(x:Term)(l:List Nat):mV (Hz r i p x) l:=fun o j _=>by
 unfold Hz
 split
 ·exact .inr ⟨rfl,Nat.le_refl _⟩
 ·split
  ·rename_i h
   rcases S3 (Ch [120] (r.getD i default)) (Ch [121] (r.getD j default)) p (app (Nm [120] (AH [] (r.getD i default).left)) x)with h2 | h2
   ·exact absurd h2 h
   ·exact .inl h2
  ·split
   ·exact .inr ⟨rfl,by simp⟩
   ·exact .inr ⟨rfl,Nat.le_refl _⟩
theorem Qc (r:List A2)(i:Nat)(l:List (List Int×Term)):mV (Ql r i) l:=fun o y _=>Nx _ _ (PV r i y.1 y.2 _)
theorem Vf (r:List A2)(l:List Nat):mV (IM r) l:=fun o i _=>Nx _ _ (Qc r i _)
theorem rT (r:List A2)(i:Nat)(p:List Int)(x:Term)(hx:x.var=false)(o o':List Fq)(j:Nat)(h1:o.length=o'.length)(h2:o.length<=4096) :
  ri (Kq r i (Ch [120] (r.getD i default)) p (app (Nm [120] (AH [] (r.getD i default).left)) x) o j) (Hz r i p x o' j):=by
 unfold Kq Hz
 have he:=S3 (Ch [120] (r.getD i default)) (Ch [121] (r.getD j default)) p (app (Nm [120] (AH [] (r.getD i default).left)) x)
 generalize DV (Ch [120] (r.getD i default)) (Ch [121] (r.getD j default)) p (app (Nm [120] (AH [] (r.getD i default).left)) x)=v at he ⊢
 obtain⟨ok,e⟩:=v
 simp only at he ⊢
 by_cases hc:i=j/\p=[]
 ·rw[if_pos hc,if_pos (.inr hc)]
  exact .inl ⟨rfl,rfl,h1,h2⟩
 ·have c2:¬ (x.var=true\/(i=j/\p=[])):=by rw[hx];simp only[Bool.false_eq_true,false_or];exact hc
  rw[if_neg hc,if_neg c2]
  rcases he with rfl | rfl
  ·simp only[ne_eq,not_true_eq_false,if_false]
   cases ok with
   | true =>
    simp only[if_true]
    by_cases h4:4096<o.length+1
    ·rw[if_pos h4]
     exact .inr ⟨rfl,.inr ⟨rfl,by simp;omega⟩⟩
    ·rw[if_neg h4]
     exact .inl ⟨rfl,rfl,by simp;omega,by simp;omega⟩
   | false =>
    simp only[Bool.false_eq_true,if_false]
    rw[if_neg (by omega)]
    exact .inl ⟨rfl,rfl,h1,h2⟩
  ·have c3:(3:Int)≠0:=by decide
   rw[if_pos c3,if_pos c3]
   exact .inr ⟨rfl,.inl rfl⟩
theorem Zv {β:Type}{G:List Fq->β->List Fq×Int}{o:List Fq}:∀ l:List β,(∀ y∈l,G o y=(o,0))->BC G o l=(o,0)
 | [],_=>rfl
 | y::l,h=>by rw[Bz (h y (by simp))];exact Zv l fun z hz=>h z (by simp[hz])
theorem om (r:List A2)(i:Nat)(o o':List Fq)(y:List Int×Term)(h1:o.length=o'.length)(h2:o.length<=4096) :
  ri (Ku r i (Ch [120] (r.getD i default)) o (y.1,app (Nm [120] (AH [] (r.getD i default).left)) y.2)) (Ql r i o' y):=by
 unfold Ku Ql
 cases hv:y.2.var with
 | true =>
  have hv2:(app (Nm [120] (AH [] (r.getD i default).left)) y.2).var=true:=by rw[Aw hv];rfl
  rw[if_pos hv2,Zv _ fun j _=>by unfold Hz;rw[if_pos (.inl hv)]]
  exact .inl ⟨rfl,rfl,h1,h2⟩
 | false =>
  have hv2:(app (Nm [120] (AH [] (r.getD i default).left)) y.2).var=false:=by rw[Ba hv];rfl
  have hv3:¬ (((y.1,app (Nm [120] (AH [] (r.getD i default).left)) y.2):List Int×Term).2.var=true):=by
   show ¬ ((app (Nm [120] (AH [] (r.getD i default).left)) y.2).var=true)
   rw[hv2];simp
  rw[if_neg hv3]
  have:=Tf (F:=Kq r i (Ch [120] (r.getD i default)) y.1 (app (Nm [120] (AH [] (r.getD i default).left)) y.2)) (G:=Hz r i y.1 y.2) (f:=id) (List.range r.length) o o' (PV r i y.1 y.2 _) (fun o o' j _ h1 h2=>rT r i y.1 y.2 hv o o' j h1 h2) h1 h2
  rw[List.map_id]at this
  exact this
theorem lZ {f:EE}(hf:∀ v,∃ w,f v=BZ w)(t:Term):∀ p:List Int,vfl t=true->Aq (app f t) p=(Aq t p).map fun x=>(x.1,app f x.2):=by
 induction t using Ag with
 | h t ih =>
 intro p ht
 rw[GQ (app f t),GQ t]
 cases hv:t.var with
 | true =>
  obtain⟨w,hw⟩:=hf t.name
  have h0:t.args=[]:=(Kx.1 ht).1 hv
  have h1:(app f t).args=[]:=by rw[Aw hv,hw];rfl
  rw[h0,h1]
  rfl
 | false =>
  have h1:(app f t).args=t.args.map (app f):=by rw[Ba hv];rfl
  rw[h1]
  have key:∀ (l:List Term)(i:Nat),(∀ a∈l,a∈t.args)->B6 (l.map (app f)) p i=(B6 l p i).map fun x=>(x.1,app f x.2):=by
   intro l
   induction l with
   | nil=>intro i _;rfl
   | cons a l ihl =>
    intro i hl
    simp only[List.map_cons,B6,List.map_append]
    rw[ih a (hl a (by simp)) _ (BJ ht (hl a (by simp))),ihl (i+1) fun b hb=>hl b (by simp[hb])]
  rw[key t.args 0 fun _ h=>h]
  rfl
theorem Ru {r:List A2}(hr:∀ x∈r,It x):(OA r).2=(P7 r).2/\((OA r).2=0->(OA r).1.length=(P7 r).1.length):=by
 have h:=Tf (F:=LR r) (G:=IM r) (f:=id) (List.range r.length) [] [] (Vf r _) (fun o o' i hi h1 h2=>by
  have hi:i<r.length:=List.mem_range.1 hi
  have hx:=hr _ (A4 hi)
  unfold LR IM
  have hv:=lZ (f:=Nm [120] (AH [] (r.getD i default).left)) (fun v=>⟨_,rfl⟩) (r.getD i default).left [] hx.l.vf
  show ri (BC (Ku r i (Ch [120] (r.getD i default))) o (Aq (app (Nm [120] (AH [] (r.getD i default).left)) (r.getD i default).left) [])) _
  rw[hv]
  exact Tf (f:=fun x:List Int×Term=>(x.1,app (Nm [120] (AH [] (r.getD i default).left)) x.2)) _ o o' (Qc r i _) (fun o o' y _ h1 h2=>om r i o o' y h1 h2) h1 h2) rfl (by simp)
 rw[List.map_id]at h
 unfold P7
 show (BC (LR r) [] (List.range r.length)).2=_/\((BC (LR r) [] (List.range r.length)).2=0->(BC (LR r) [] (List.range r.length)).1.length=_)
 generalize BC (LR r) [] (List.range r.length)=P at h ⊢
 generalize BC (IM r) [] (List.range r.length)=R at h ⊢
 rcases h with ⟨a1,a2,a3,a4⟩|⟨a1,a2⟩
 ·rw[if_neg (by rw[a2];decide),if_neg (by omega)]
  exact⟨a1,fun _=>a3⟩
 ·rcases a2 with a2 | ⟨a2,a3⟩
  ·rw[if_pos (by rw[a2];decide)]
   exact⟨by rw[a1,a2],fun h=>by rw[a1]at h;cases h⟩
  ·rw[if_neg (by rw[a2];decide),if_pos a3]
   exact⟨a1,fun h=>by rw[a1]at h;cases h⟩
theorem aP (t:Term)(v:A9)(hs:size t<2^61):PF KI [Ap t,.str v] (.int .i64 (D8 v t)):=by
 induction t using Ag with
 | h t ih =>
 have hst:=AJ t
 have hla:=Aj t.args
 have hcl:=QV v t.args
 refine Ab HB.ok rfl ?_
 have loop:∀ c0:Nat,c0<=1->D8 v t=c0+BW v t.args->HB.L3 (.str v) (.int .i64 c0) (Bg t.args) (.int .i64 t.args.length) (.int .i64 (0:Nat)) 0 [] (Bx 0 HB.rs fun x' H'=>x'=.int .i64 (D8 v t)/\H'=[]):=by
  intro c0 hc0 he
  refine Ad (n:=t.args.length) (R:=fun k=>∀ c:Nat,c=c0+BW v (t.args.take k)->HB.L3 (.str v) (.int .i64 c) (Bg t.args) (.int .i64 t.args.length) (.int .i64 k) 0 [] (Bx 0 HB.rs fun x' H'=>x'=.int .i64 (D8 v t)/\H'=[])) ?_ ?_ 0 (by omega) c0 (by simp[BW])
  ·intro k hk ih2 c hc
   have hm:=A4 hk
   have hsm:=Bt hm
   have htk:=Qn v t.args (k+1)
   rw[Aa hk,JJ]at htk
   simp only[BW]at htk
   have hcall:=ih _ hm (by omega)
   have this:=ih2 (c+D8 v (t.args.getD k default)) (by rw[Aa hk,JJ];simp only[BW];omega)
   generalize D8 v (t.args.getD k default)=d at hcall this htk
   have hw1:IntKind.i64.wrap ((c:Int)+(d:Int))=(c:Int)+d:=Bs (by omega) (by omega)
   refine A8.2 ?_
   push_cast[BT hk]
   refine .of hcall ?_
   push_cast[hw1,CV (show k<2^62 by omega)]
   push_cast at this
   exact this
  ·intro c hc
   rw[List.take_length]at hc
   refine A8.2 ?_
   push_cast[B8 (Nat.le_refl _)]
   rw[he,<-hc]
   exact A1 (by push_cast[HB.rs])
 cases hv:t.var with
 | false =>
  have:=loop 0 (by omega) (by rw[Ln,hv];simp)
  push_cast[hv]
  push_cast at this
  exact this
 | true =>
  by_cases hn:t.name=v
  ·have:=loop 1 (by omega) (by rw[Ln,hv];simp[hn])
   push_cast[hv,hn,CV (show 0<2^62 by omega)]
   push_cast at this
   exact this
  ·have:=loop 0 (by omega) (by rw[Ln,hv];simp[hn])
   push_cast[hv,hn]
   push_cast at this
   exact this
def PY (t:Term):Bool:=!((E3 t).any fun v=>decide (1<D8 v t))
theorem ZU {t:Term}(h:C2 t):(E3 t).length<=4000:=by
 have h1:=Iy t []
 have:=h.sz
 have e:E3 t=Dx [] t:=rfl
 rw[e];simp only[List.length_nil]at h1;omega
theorem UI {t:Term}(h:C2 t):PF Jx [Ap t] (.bool (PY t)):=by
 have hsz:=h.sz
 have hV:=Ew [t] (by simp[Ac];omega)
 rw[<-dA]at hV
 have hC:=Dl (p:=fun v=>decide (1<D8 v t)) (g:=Hr) (caps:=[.ro (cT t) 0]) (fun _=>by push_cast) (E3 t) (by have:=ZU h;omega) fun v hv=>by
  refine Ab Jj.ok rfl ?_
  push_cast
  refine .of (aP t v (by omega)) ?_
  push_cast
  have hq:decide ((1:Int)<(D8 v t:Int))=decide (1<D8 v t):=decide_eq_decide.2 ⟨fun h=>by omega,fun h=>by omega⟩
  exact A1 (by push_cast[Jj.rs];rw[hq])
 refine Ab LP.ok rfl ?_
 push_cast
 refine .of hV ?_
 push_cast
 refine .of hC ?_
 push_cast
 exact A1 (by push_cast[LP.rs,PY])
theorem Xg {r:List A2}(hr:∀ x∈r,It x)(hl:r.length<=64):PF LK [Ak r] (.bool (r.all fun x=>PY x.left)):=by
 have hC:=E5 (p:=fun x=>!PY x.left) (g:=Jc) (caps:=[]) (fun _=>rfl) r (by omega) fun x hx=>by
  refine Ab Lt.ok rfl ?_
  push_cast
  refine .of (UI (hr x hx).l) ?_
  push_cast
  exact A1 (by push_cast[Lt.rs])
 refine Ab NP.ok rfl ?_
 push_cast
 refine .of hC ?_
 push_cast
 refine A1 ?_
 push_cast[NP.rs]
 congr 1
 rw[List.all_eq_not_any_not]
theorem ca {t:Term}(h:C2 t):PF OB [Ap t] (.bool (PY t)):=by
 have hsz:=h.sz
 have hV:=Rz t (by have:=h.tb;omega)
 have hvl:=ZU h
 refine Ab Jy.ok rfl ?_
 push_cast
 refine .of hV ?_
 push_cast
 refine Ad (n:=(E3 t).length) (R:=fun k=>((E3 t).drop k).any (fun v=>decide (1<D8 v t))=(E3 t).any (fun v=>decide (1<D8 v t))->Jy.L3 (.ro (cT t) 0) (Bo (E3 t)) (.int .i64 (E3 t).length) (.int .i64 k) 0 [] (Bx 0 Jy.rs fun x' H'=>x'=.bool (PY t)/\H'=[])) ?_ ?_ 0 (by omega) rfl
 ·intro k hk ih he
  rw[Al hk]at he
  simp only[List.any_cons]at he
  have hc:=Vl t ((E3 t).getD k default) (by omega)
  refine A8.2 ?_
  generalize hv:(E3 t).getD k default=v at he hc
  by_cases h1:1<D8 v t
  ·have i1:((1:Int)<(D8 v t:Int))=True:=eq_true (by omega)
   have hq:PY t=false:=by unfold PY;rw[<-he];simp[h1]
   rw[hq]
   push_cast[BT hk,hv]
   refine .of hc ?_
   push_cast[i1]
   exact A1 (by push_cast[Jy.rs])
  ·have i1:((1:Int)<(D8 v t:Int))=False:=eq_false (by omega)
   have this:=ih (by rw[<-he];simp[h1])
   push_cast[BT hk,hv]
   refine .of hc ?_
   push_cast[i1,CV (show k<2^62 by omega)]
   push_cast at this
   exact this
 ·intro he
  rw[Ao]at he
  refine A8.2 ?_
  push_cast[B8 (Nat.le_refl _)]
  refine A1 ?_
  push_cast[Jy.rs]
  unfold PY
  rw[<-he];rfl
theorem Uf {r:List A2}(hr:∀ x∈r,It x)(hl:r.length<=64):PF Jt [Ak r] (.bool (r.all fun x=>PY x.left)):=by
 refine Ab EI.ok rfl ?_
 push_cast
 refine Ad (n:=r.length) (R:=fun k=>((r.drop k).all fun x=>PY x.left)=(r.all fun x=>PY x.left)->EI.L3 (Ak r) (.int .i64 r.length) (.int .i64 k) 0 [] (Bx 0 EI.rs fun x' H'=>x'=.bool (r.all fun x=>PY x.left)/\H'=[])) ?_ ?_ 0 (by omega) rfl
 ·intro k hk ih he
  have hx:=hr _ (A4 hk)
  rw[Al hk]at he
  simp only[List.all_cons]at he
  refine A8.2 ?_
  generalize hxx:r.getD k default=x at hx he
  have hc:=ca hx.l
  cases h1:PY x.left with
  | false =>
   rw[h1]at hc he
   rw[<-he]
   push_cast[BT hk,hxx]
   refine .of hc ?_
   push_cast
   exact A1 (by push_cast[EI.rs])
  | true =>
   rw[h1]at hc he
   have this:=ih (by rw[<-he];simp)
   push_cast[BT hk,hxx]
   refine .of hc ?_
   push_cast[CV (show k<2^62 by omega)]
   push_cast at this
   exact this
 ·intro he
  rw[Ao]at he
  refine A8.2 ?_
  push_cast[B8 (Nat.le_refl _)]
  refine A1 ?_
  push_cast[EI.rs]
  rw[<-he];rfl
theorem HJ {r:List A2}(h:Am r=0):(∀ x∈r,It x)/\r.length<=64:=by
 refine⟨fun x hx=>?_,?_⟩
 ·obtain⟨h1,h2⟩:=I9 h x hx
  exact⟨C2.of_check h1,C2.of_check h2,fun v hv=>(DQ v x.left).1 (KP h x hx v hv)⟩
 ·have h1:Bl r=0:=by
   unfold Am at h
   split at h
   ·rename_i hc;exact absurd h hc
   ·rename_i hc;simpa using hc
  unfold Bl at h1
  split at h1
  ·cases h1
  ·omega
noncomputable def ES (r:List A2):Bool×Int :=
 if Am r≠0 then (false,Am r) else if (OA r).2≠0 then (false,(OA r).2) else (decide ((OA r).1.length=0)&&r.all fun x=>PY x.left,0)
theorem PU {r:List A2}(hs:KZ r<2^38):PF Gl [Ak r] (.tup [.bool (ES r).1,.int .i64 (ES r).2]):=by
 have hC:=LU r hs
 have hList:PF Lm [Ak r] (if Am r≠0 then .tup [N1 [],.int .i64 (Am r)] else .tup [N1 (OA r).1,.int .i64 (OA r).2]):=by
  refine Ab KR.ok rfl ?_
  push_cast
  refine .of hC ?_
  by_cases h0:Am r=0
  ·obtain⟨h1,h2⟩:=HJ h0
   rw[if_neg (by simpa using h0)]
   push_cast[h0]
   refine .of (YJ h1 h2) ?_
   push_cast
   exact A1 (by push_cast[KR.rs])
  ·rw[if_pos h0]
   push_cast[h0]
   exact A1 (by push_cast[KR.rs];rfl)
 refine Ab D6.ok rfl ?_
 unfold ES
 push_cast
 refine .of hList ?_
 by_cases h0:Am r=0
 ·obtain⟨h1,h2⟩:=HJ h0
  rw[if_neg (by simpa using h0),if_neg (by simpa using h0)]
  have hL:=Xg h1 h2
  generalize OA r=A
  obtain⟨l,e⟩:=A
  simp only
  by_cases he:e=0
  ·subst he
   simp only[ne_eq,not_true_eq_false,if_false]
   by_cases hl:l.length=0
   ·have i1:((l.length:Int)=0)=True:=eq_true (by omega)
    push_cast[i1]
    refine .of hL ?_
    push_cast
    exact A1 (by push_cast[D6.rs,hl])
   ·have i1:((l.length:Int)=0)=False:=eq_false (by omega)
    push_cast[i1]
    exact A1 (by push_cast[D6.rs,hl])
  ·have i1:(e=0)=False:=eq_false he
   rw[if_pos he]
   push_cast[i1]
   exact A1 (by push_cast[D6.rs])
 ·rw[if_pos h0,if_pos h0]
  have i1:(Am r=0)=False:=eq_false h0
  push_cast[i1]
  exact A1 (by push_cast[D6.rs])
theorem TV {r:List A2}(hs:KZ r<2^38):PF Jk [Ak r] (.tup [.bool (ES r).1,.int .i64 (ES r).2]):=by
 have hC:=Mk r hs
 refine Ab EJ.ok rfl ?_
 unfold ES
 push_cast
 refine .of hC ?_
 by_cases h0:Am r=0
 ·obtain⟨h1,h2⟩:=HJ h0
  rw[if_neg (by simpa using h0)]
  have hL:=Uf h1 h2
  have hLi:=gX h1 h2
  obtain⟨s1,s2⟩:=Ru h1
  rw[s1]at s2 ⊢
  generalize OA r=P at s2 ⊢
  generalize P7 r=A at hLi s2 ⊢
  obtain⟨l,e⟩:=A
  simp only at s2 ⊢
  push_cast[h0]
  refine .of hLi ?_
  by_cases he:e=0
  ·subst he
   have hl2:=s2 rfl
   rw[hl2]
   simp only[ne_eq,not_true_eq_false,if_false]
   by_cases hl:l.length=0
   ·have i1:((l.length:Int)=0)=True:=eq_true (by omega)
    push_cast[i1]
    refine .of hL ?_
    push_cast
    exact A1 (by push_cast[EJ.rs,hl])
   ·have i1:((l.length:Int)=0)=False:=eq_false (by omega)
    push_cast[i1]
    exact A1 (by push_cast[EJ.rs,hl])
  ·have i1:(e=0)=False:=eq_false he
   rw[if_pos he]
   push_cast[i1]
   exact A1 (by push_cast[EJ.rs])
 ·rw[if_pos h0]
  have i1:(Am r=0)=False:=eq_false h0
  push_cast[i1]
  exact A1 (by push_cast[EJ.rs])
end Go.Dw
