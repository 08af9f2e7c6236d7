/-
  Contracts and lemmas for ResidualFull: part d of 11.
-/
import Derived.Test.YtkdcfkfdkimaeaaGreatDoorFac
import Derived.Test.YtkdcfkfdkimaeaaGreatDoorProg
set_option linter.unusedVariables false
set_option linter.unusedSimpArgs false
set_option maxRecDepth 100000
section
namespace Go.Dw
section
variable {P:Program} {N:Nat->C} {B:Nat} {s:List K} {t:T} {H:List Ob} {Q:X->T->List Ob->Prop}
theorem sG:Ax P N B [] t H Q↔Q .fall t H:=⟨fun h=>by cases h;assumption,.done⟩
theorem rF:Ax P N B (.c .skip::s) t H Q↔Ax P N B s t H Q:=⟨fun h=>by cases h;assumption,.skip⟩
theorem xU {a b:C}:Ax P N B (.c (.seq a b)::s) t H Q↔Ax P N B (.c a::.c b::s) t H Q:=⟨fun h=>by cases h;assumption,.seq⟩
theorem xW {l:List S}:Ax P N B (.c (.reg l)::s) t H Q↔Ax P N B (.r l::s) t H Q:=⟨fun h=>by cases h;assumption,.reg⟩
theorem AbP {π:List Nat}{l:List S}:Ax P N B (.c (.dr π l)::s) t H Q↔Ax P N B (.r l::s) t H Q:=⟨fun h=>by cases h;assumption,.dr⟩
theorem Aal {l:List I}{c:C}:Ax P N B (.c (.gh l c)::s) t H Q↔Ax P N B (.r (l.map .op)::.c c::s) t H Q:=⟨fun h=>by cases h;assumption,.gh⟩
theorem qc:Ax P N B (.r []::s) t H Q↔Ax P N B s t H Q:=⟨fun h=>by cases h;assumption,.rend⟩
theorem yV {id:Nat}{a:C}:Ax P N B (.c (.blk id a)::s) t H Q↔Ax P N B (.c a::.mk id::s) t H Q:=⟨fun h=>by cases h;assumption,.blk⟩
theorem Aad {id:Nat}:Ax P N B (.mk id::s) t H Q↔Ax P N B s t H Q:=⟨fun h=>by cases h;assumption,.mk⟩
theorem rd {a:C}:Ax P N B (.c (.loop a)::s) t H Q↔Ax P N B (.c a::.c (.loop a)::s) t H Q:=⟨fun h=>by cases h;assumption,.loop⟩
theorem vJ:Ax P N B (.c .ret::s) t H Q↔Q .ret t H:=⟨fun h=>by cases h;assumption,.ret⟩
abbrev E1 (a b c d : Nat) : List K := [.c (.m a),.c (.loop (.n b)),.mk c,.c (.n d)]
abbrev Di := List Ob
abbrev QX := X->T->List Ob->Prop
theorem A7 {k:Nat}:Ax P N B (.c (.m k)::s) t H Q↔Ax P N B (.c (N k)::s) t H Q:=⟨fun h=>by cases h;assumption,.m⟩
theorem wU:Ax P N B (.c .bad::s) t H Q↔False:=⟨fun h=>(by cases h),False.elim⟩
/- The continuations are no functions: rewriting would run them ahead of time,with nothing known. -/
def nlP (P:Program)(N:Nat->C)(B:Nat)(l:List S)(s:List K)(t:T)(H:List Ob)(Q:X->T->List Ob->Prop)(d:Nat)(ne:Bool):Option (List (List V))->Prop
 | some els=>∀ c:Bool,(c=true->els=[])->Ax P N B (.r l::s) ((d,.bool (c != ne))::t) H Q
 | none=>False
theorem pF {els:List (List V)}{d:Nat}{ne:Bool}{l:List S}:nlP P N B l s t H Q d ne (some els)=∀ c:Bool,(c=true->els=[])->Ax P N B (.r l::s) ((d,.bool (c != ne))::t) H Q:=rfl
theorem Aab {d:Nat}{ne:Bool}{x:O}{l:List S}:Ax P N B (.r (.nl d ne x::l)::s) t H Q↔nlP P N B l s t H Q d ne (Wa (ev t x)):=by
 constructor
 ·intro h
  cases h with
  | nl els h1 h2=>rw[h1];exact h2
 ·intro h
  cases he:Wa (ev t x)with
  | none=>rw[he]at h;exact h.elim
  | some els=>rw[he]at h;exact .nl els he h
theorem pQ {k:Nat}:Ax P N B (.c (.n k)::s) t H Q↔Ax P N B (.c (N k)::s) t H Q:=⟨fun h=>by cases h;assumption,.n⟩
def goP (P:Program)(N:Nat->C)(B:Nat)(id:Nat)(t:T)(H:List Ob)(Q:X->T->List Ob->Prop):Option (List K)->Prop
 | some s=>Ax P N B s t H Q
 | none=>Q (.exit id) t H
theorem sy {id:Nat}:goP P N B id t H Q (some s)=Ax P N B s t H Q:=rfl
theorem rN {id:Nat}:goP P N B id t H Q none=Q (.exit id) t H:=rfl
theorem sa {id:Nat}:Ax P N B (.c (.exit id)::s) t H Q↔goP P N B id t H Q (Ku id s):=by
 constructor
 ·intro h
  cases h with
  | exit s' h1 h2=>rw[h1];exact h2
  | exitX h1 h2=>rw[h1];exact h2
 ·intro h
  cases hp:Ku id s with
  | some s'=>rw[hp]at h;exact .exit s' hp h
  | none=>rw[hp]at h;exact .exitX hp h
def zw (P:Program)(N:Nat->C)(B:Nat)(l:List S)(s:List K)(Q:X->T->List Ob->Prop):Option (T×List Ob)->Prop
 | some (t,H)=>Ax P N B (.r l::s) t H Q
 | none=>False
theorem tC {l:List S}:zw P N B l s Q (some (t,H))=Ax P N B (.r l::s) t H Q:=rfl
theorem pK {l:List S}:zw P N B l s Q none=False:=rfl
theorem vR {c:Prop}[Decidable c]{o:Option (T×List Ob)}{l:List S}:zw P N B l s Q (if c then o else none)↔c/\zw P N B l s Q o:=by by_cases h:c<;>simp[h,zw]
theorem Aa4 {i:I}{l:List S}:Ax P N B (.r (.op i::l)::s) t H Q↔zw P N B l s Q (AA B i t H):=by
 constructor
 ·intro h
  cases h with
  | op t' H' h1 h2=>rw[h1];exact h2
 ·intro h
  cases he:AA B i t H with
  | none=>rw[he]at h;exact h.elim
  | some p=>rw[he]at h;exact .op p.1 p.2 he h
def wm (P:Program)(N:Nat->C)(B:Nat)(l:List S)(s:List K)(Q:X->T->List Ob->Prop)(d:Nat)(t:T)(H:List Ob):Option V->Prop
 | some v=>Ax P N B (.r l::s) ((d,v)::t) H Q
 | none=>False
theorem sF {l:List S}{d:Nat}{v:V}:wm P N B l s Q d t H (some v)=Ax P N B (.r l::s) ((d,v)::t) H Q:=rfl
theorem qo {l:List S}{d:Nat}:wm P N B l s Q d t H none=False:=rfl
theorem wx {l:List S}{d:Nat}{c:Prop}[Decidable c]{o:Option V}:wm P N B l s Q d t H (if c then o else none)↔c/\wm P N B l s Q d t H o:=by by_cases h:c<;>simp[h,wm]
theorem pN {l:List S}{d:Nat}{c:Prop}[Decidable c]{o:Option V}:wm P N B l s Q d t H (if c then none else o)↔¬ c/\wm P N B l s Q d t H o:=by by_cases h:c<;>simp[h,wm]
theorem uG {l:List S}{d:Nat}{o:Option V}:zw P N B l s Q (AY d o t H)=wm P N B l s Q d t H o:=by cases o<;>rfl
def o2P (P:Program)(N:Nat->C)(B:Nat)(l:List S)(s:List K)(Q:X->T->List Ob->Prop)(d:Nat)(t:T):Option (V×List Ob)->Prop
 | some p=>Ax P N B (.r l::s) ((d,p.1)::t) p.2 Q
 | none=>False
theorem tw {l:List S}{d:Nat}{v:V}:o2P P N B l s Q d t (some (v,H))=Ax P N B (.r l::s) ((d,v)::t) H Q:=rfl
theorem qi {l:List S}{d:Nat}:o2P P N B l s Q d t none=False:=rfl
theorem xB {l:List S}{d:Nat}{c:Prop}[Decidable c]{o:Option (V×List Ob)}:o2P P N B l s Q d t (if c then o else none)↔c/\o2P P N B l s Q d t o:=by by_cases h:c<;>simp[h,o2P]
theorem qz {l:List S}{d:Nat}{o:Option (V×List Ob)}:zw P N B l s Q (Qf d o t)=o2P P N B l s Q d t o:=by cases o<;>rfl
def oP (o:Option V)(K:V->Prop):Prop:=match o with
 | some v=>K v
 | none=>False
theorem yR {v:V}{K:V->Prop}:oP (some v) K=K v:=rfl
theorem wW {K:V->Prop}:oP none K=False:=rfl
theorem AaY {c:Prop}[Decidable c]{o:Option V}{K:V->Prop}:oP (if c then o else none) K↔c/\oP o K:=by by_cases h:c<;>simp[h,oP]
theorem wP {c:Prop}[Decidable c]{o:Option V}{K:V->Prop}:oP (if c then none else o) K↔¬ c/\oP o K:=by by_cases h:c<;>simp[h,oP]
def cP (P:Program)(N:Nat->C)(B:Nat)(a b:C)(s:List K)(t:T)(H:List Ob)(Q:X->T->List Ob->Prop):V->Prop
 | .bool c=>(c=true->Ax P N B (.c a::s) t H Q)/\(c=false->Ax P N B (.c b::s) t H Q)
 | _=>False
theorem me {a b:C}{c:Bool}:cP P N B a b s t H Q (.bool c)=((c=true->Ax P N B (.c a::s) t H Q)/\(c=false->Ax P N B (.c b::s) t H Q)):=rfl
theorem uA {x:O}{a b:C}:Ax P N B (.c (.cond x a b)::s) t H Q↔cP P N B a b s t H Q (ev t x):=by
 constructor
 ·intro h
  cases h with
  | cond c h1 h2 =>
   rw[h1]
   refine⟨fun h=>?_,fun h=>?_⟩<;>subst h<;>exact h2
 ·intro h
  cases hv:ev t x with
  | bool c =>
   rw[hv]at h
   refine .cond c hv ?_
   cases c
   ·exact h.2 rfl
   ·exact h.1 rfl
  | _=>rw[hv]at h;exact h.elim
def gP (P:Program)(N:Nat->C)(B:Nat)(b:Bool)(ds:List Nat)(g l:List S)(s:List K)(t:T)(H:List Ob)(Q:X->T->List Ob->Prop):V->Prop
 | .bool c=>(c=b->Ax P N B (.r (g++l)::s) t H Q)/\(c≠b->Ax P N B (.r l::s) (ds.map (fun d=>(d,V.tup []))++t) H Q)
 | .tup []=>Ax P N B (.r l::s) (ds.map (fun d=>(d,V.tup []))++t) H Q
 | _=>False
theorem mq {c b:Bool}{ds:List Nat}{g l:List S}:gP P N B b ds g l s t H Q (.bool c)=((c=b->Ax P N B (.r (g++l)::s) t H Q)/\(c≠b->Ax P N B (.r l::s) (ds.map (fun d=>(d,V.tup []))++t) H Q)):=rfl
theorem Aaj {b:Bool}{ds:List Nat}{g l:List S}:gP P N B b ds g l s t H Q (.tup [])=Ax P N B (.r l::s) (ds.map (fun d=>(d,V.tup []))++t) H Q:=rfl
theorem Aav {x:O}{b:Bool}{ds:List Nat}{g l:List S}:Ax P N B (.r (.gd x b ds g::l)::s) t H Q↔gP P N B b ds g l s t H Q (ev t x):=by
 constructor
 ·intro h
  cases h with
  | gd c h1 h2 =>
   rw[h1]
   refine⟨fun h=>?_,fun h=>?_⟩
   ·simpa[h]using h2
   ·simpa[h]using h2
  | gdU h1 h2=>rw[h1];exact h2
 ·intro h
  have key:∀ c,ev t x=.bool c->Ax P N B (.r (.gd x b ds g::l)::s) t H Q:=fun c hv=>by
   rw[hv]at h
   refine .gd c hv ?_
   by_cases e:c=b
   ·simpa[e]using h.1 e
   ·simpa[e]using h.2 e
  cases hv:ev t x with
  | bool c=>exact key c hv
  | tup l =>
   cases l with
   | nil=>rw[hv]at h;exact .gdU hv h
   | cons y ys=>rw[hv]at h;exact h.elim
  | _=>rw[hv]at h;exact h.elim
theorem qZ:Ax P N B (.r [.alt []]::s) t H Q↔True:=⟨fun _=>trivial,fun _=>.alt fun p hp=>by cases hp⟩
theorem qU {p:List Nat×List S}{ls:List (List Nat×List S)}:Ax P N B (.r [.alt (p::ls)]::s) t H Q↔Ax P N B (.r p.2::s) t H Q/\Ax P N B (.r [.alt ls]::s) t H Q:=by
 constructor
 ·intro h
  cases h with
  | alt h=>exact⟨h p (by simp),.alt fun q hq=>h q (List.mem_cons_of_mem _ hq)⟩
 ·rintro ⟨h1,h2⟩
  cases h2 with
  | alt h2 =>
   refine .alt fun q hq=>?_
   rcases List.mem_cons.1 hq with rfl | hq
   ·exact h1
   ·exact h2 q hq
def nxP (P:Program)(N:Nat->C)(B:Nat)(d:Nat)(l:List S)(s:List K)(t:T)(H:List Ob)(Q:X->T->List Ob->Prop):V->Prop
 | .it j=>∃ i n seen es,H[j]?=some (.iter (some i) n seen)/\H[i]?=some (.map es)/\n=es.length/\((∀ k,k<n->k∈seen)->Ax P N B (.r l::s) ((d,.tup [.bool false])::t) H Q) /\
   ∀ k p,es[k]?=some p->k∉seen->Ax P N B (.r l::s) ((d,.tup [.bool true,p.1,p.2])::t) (H.set j (.iter (some i) n (seen++[k]))) Q
 | _=>False
theorem du {d:Nat}{l:List S}{j:Nat}(i n:Nat)(seen:List Nat)(es:List (V×V))(h1:H[j]?=some (.iter (some i) n seen))(h2:H[i]?=some (.map es))(h3:n=es.length)
  (h4:(∀ k,k<n->k∈seen)->Ax P N B (.r l::s) ((d,.tup [.bool false])::t) H Q)
  (h5:∀ k p,es[k]?=some p->k∉seen->Ax P N B (.r l::s) ((d,.tup [.bool true,p.1,p.2])::t) (H.set j (.iter (some i) n (seen++[k]))) Q):nxP P N B d l s t H Q (.it j):=⟨i,n,seen,es,h1,h2,h3,h4,h5⟩
theorem AaB {d:Nat}{x:O}{l:List S}:Ax P N B (.r (.nx d x::l)::s) t H Q↔nxP P N B d l s t H Q (ev t x):=by
 constructor
 ·intro h
  cases h with
  | nx j i n seen es h1 h2 h3 h4 h5 h6 =>
   rw[h1]
   exact⟨i,n,seen,es,h2,h3,h4,h5,h6⟩
 ·intro h
  cases hv:ev t x with
  | it j =>
   rw[hv]at h
   obtain⟨i,n,seen,es,h1,h2,h3,h4,h5⟩:=h
   exact .nx j i n seen es hv h1 h2 h3 h4 h5
  | _=>rw[hv]at h;exact h.elim
def eN (P:Program)(N:Nat->C)(B:Nat)(d:Option Nat)(l:List S)(s:List K)(t:T)(H:List Ob)(Q:X->T->List Ob->Prop)(f:Nat)(vs:List V):Prop :=
 ∃ x,Spec P f vs [] (fun x' H'=>x'=x/\H'=[])/\Ax P N B (.r l::s) (Fd d (ren (fun _=>none) x) t) H Q
theorem nR {d:Option Nat}{f:Nat}{args:List O}{l:List S}:Ax P N B (.r (.callp d f args::l)::s) t H Q↔eN P N B d l s t H Q f (AN (fun _=>none) (args.map (ev t))):=by
 constructor
 ·intro h
  cases h with
  | callp x h1 h2=>exact⟨x,h1,h2⟩
 ·rintro ⟨x,h1,h2⟩
  exact .callp x h1 h2
def fnP (P:Program)(N:Nat->C)(B:Nat)(d:Option Nat)(args:List O)(l:List S)(s:List K)(t:T)(H:List Ob)(Q:X->T->List Ob->Prop):V->Prop
 | .fn (.func f) fst caps=>eN P N B d l s t H Q f (AN (fun _=>none) (fst++args.map (ev t)++caps))
 | _=>False
theorem Aah {d:Option Nat}{args:List O}{l:List S}{f:Nat}{fst caps:List V}:fnP P N B d args l s t H Q (.fn (.func f) fst caps)=eN P N B d l s t H Q f (AN (fun _=>none) (fst++args.map (ev t)++caps)):=rfl
theorem iZ {d:Option Nat}{g:O}{args:List O}{l:List S}:Ax P N B (.r (.callvp d g args::l)::s) t H Q↔fnP P N B d args l s t H Q (ev t g):=by
 constructor
 ·intro h
  cases h with
  | callvp f fst caps x h0 h1 h2=>rw[h0];exact⟨x,h1,h2⟩
 ·intro h
  unfold fnP at h
  split at h
  ·rename_i f a c hv
   obtain⟨x,h1,h2⟩:=h
   exact .callvp f a c x hv h1 h2
  ·exact h.elim
theorem eN.of {d:Option Nat}{l:List S}{f:Nat}{vs:List V}{x:V}(h:Spec P f vs [] (fun x' H'=>x'=x/\H'=[]))(k:Ax P N B (.r l::s) (Fd d (ren (fun _=>none) x) t) H Q):eN P N B d l s t H Q f vs:=⟨x,h,k⟩
theorem AeC {n:Nat}:ev t (.s n)=lk t n:=rfl
theorem AeY {v:V}:ev t (.c v)=v:=rfl
theorem Aeo {f:Nat}:ev t (.f f)=.fn (.func f) [] []:=rfl
theorem Aaz {n:Nat}:lk [] n=.any:=rfl
theorem vI {m n:Nat}{v:V}:lk ((m,v)::t) n=if m=n then v else lk t n:=by
 unfold lk;simp only[find];split<;>rfl
theorem eh {rs:List RV}{Q:V->List Ob->Prop}{e:X}(he:e=.ret\/e=.fall){x:V}(h:UD rs t H=some x)(hq:Q (ren (fun _=>none) x) []):BH 0 rs Q e t H :=
 ⟨he,.inr ⟨[],x,by simp,by simp,h,hq⟩⟩
theorem Ck {rs:List RV}{Q:V->List Ob->Prop}{e:X}(he:e=.ret\/e=.fall){x:V}(h:UD rs t H=some x)(hq:Q x H):BH B rs Q e t H :=
 ⟨he,.inl ⟨x,h,hq⟩⟩
theorem cZ {rs:List RV}{Q:V->List Ob->Prop}{e:X}(he:e=.ret\/e=.fall)(ex:List Nat){x:V}(hnd:(List.range B++ex).Nodup)(hlt:∀ i∈ex,i<H.length)(h:UD rs t H=some x)
  (hq:Q (ren (Ay (List.range B++ex)) x) (give (List.range B++ex) H)):BH B rs Q e t H:=⟨he,.inr ⟨ex,x,hnd,hlt,h,hq⟩⟩
def Bl (P:Program)(N:Nat->C)(B:Nat)(d:Option Nat)(l:List S)(s:List K)(t:T)(Q:X->T->List Ob->Prop)(F:Fn)(vs:List V)(H:List Ob):Prop :=
 (∃ R,Hl P F vs H R/\∀ x H',R x H'->Ax P N B (.r l::s) (Fd d x t) H' Q) \/
  ∃ idx R,idx.Nodup/\(∀ i∈idx,i<H.length)/\Hl P F (AN (Ay idx) vs) (give idx H) R/\∀ x H',R x H'->idx.length<=H'.length->Ax P N B (.r l::s) (Fd d (ren (BG idx H.length) x) t) (takeB idx H H') Q
theorem Bl.all {d:Option Nat}{l:List S}{F:Fn}{vs:List V}{R:V->List Ob->Prop}(h:Hl P F vs H R)(k:∀ x H',R x H'->Ax P N B (.r l::s) (Fd d x t) H' Q):Bl P N B d l s t Q F vs H:=.inl ⟨R,h,k⟩
theorem Bl.some {d:Option Nat}{l:List S}{F:Fn}{vs:List V}(idx:List Nat){R:V->List Ob->Prop}(h1:idx.Nodup)(h2:∀ i∈idx,i<H.length)(h:Hl P F (AN (Ay idx) vs) (give idx H) R)
  (k:∀ x H',R x H'->idx.length<=H'.length->Ax P N B (.r l::s) (Fd d (ren (BG idx H.length) x) t) (takeB idx H H') Q):Bl P N B d l s t Q F vs H:=.inr ⟨idx,R,h1,h2,h,k⟩
theorem tM {d:Option Nat}{f:Nat}{args:List O}{l:List S}:Ax P N B (.r (.call d f args::l)::s) t H Q↔Bl P N B d l s t Q (.func f) (args.map (ev t)) H:=by
 constructor
 ·intro h
  cases h with
  | callA R h1 h2=>exact .inl ⟨R,h1,h2⟩
  | call idx R h1 h2 h3 h4=>exact .inr ⟨idx,R,h1,h2,h3,h4⟩
 ·rintro (⟨R,h1,h2⟩|⟨idx,R,h1,h2,h3,h4⟩)
  ·exact .callA R h1 h2
  ·exact .call idx R h1 h2 h3 h4
def fnG (P:Program)(N:Nat->C)(B:Nat)(d:Option Nat)(args:List O)(l:List S)(s:List K)(t:T)(H:List Ob)(Q:X->T->List Ob->Prop):V->Prop
 | .fn F fst caps=>((∃ f,F=.func f)\/caps=[])/\Bl P N B d l s t Q F (fst++args.map (ev t)++caps) H
 | _=>False
theorem se {d:Option Nat}{args:List O}{l:List S}{f:Nat}{a c:List V}:fnG P N B d args l s t H Q (.fn (.func f) a c)=Bl P N B d l s t Q (.func f) (a++args.map (ev t)++c) H:=by simp[fnG]
theorem yA {d:Option Nat}{args:List O}{l:List S}{F:Fn}{a:List V}:fnG P N B d args l s t H Q (.fn F a [])=Bl P N B d l s t Q F (a++args.map (ev t)++[]) H:=by simp[fnG]
theorem oz {d:Option Nat}{g:O}{args:List O}{l:List S}:Ax P N B (.r (.callv d g args::l)::s) t H Q↔fnG P N B d args l s t H Q (ev t g):=by
 constructor
 ·intro h
  cases h with
  | callvA F fst caps R h0 hF h1 h2=>rw[h0];exact⟨hF,.inl ⟨R,h1,h2⟩⟩
  | callv F fst caps idx R h0 hF h1 h2 h3 h4=>rw[h0];exact⟨hF,.inr ⟨idx,R,h1,h2,h3,h4⟩⟩
 ·intro h
  unfold fnG at h
  split at h
  ·rename_i F fst caps hv
   obtain⟨hF,h⟩:=h
   rcases h with ⟨R,h1,h2⟩|⟨idx,R,h1,h2,h3,h4⟩
   ·exact .callvA F fst caps R hv hF h1 h2
   ·exact .callv F fst caps idx R hv hF h1 h2 h3 h4
  ·exact h.elim
def brP (o:Option Ob)(l:Nat)(K:Loop->T->Prop):Prop:=match o with
 | some (.lp l' .ready r ts)=>l'=l/\K r ts
 | _=>False
theorem tg {l l':Nat}{r:Loop}{ts:T}{K:Loop->T->Prop}:brP (some (.lp l' .ready r ts)) l K=(l'=l/\K r ts):=rfl
theorem AaL {l n:Nat}:Ax P N B (.br l n::s) t H Q↔brP H[n]? l fun r ts=>Ax P N B s t (H.set n (.lp l .busy r ts)) Q:=by
 constructor
 ·intro h
  cases h with
  | br h1 h2=>rw[h1];exact⟨rfl,h2⟩
 ·intro h
  unfold brP at h
  split at h
  ·rename_i l' r ts hh
   obtain⟨rfl,h⟩:=h
   exact .br hh h
  ·exact h.elim
end
theorem Ae {n:Nat}{R:Nat->Prop}(hstep:∀ k,k<n->R (k+1)->R k)(hend:R n):∀ k,k<=n->R k:=by
 intro k hk
 obtain⟨m,rfl⟩:∃ m,n=k+m:=⟨n-k,by omega⟩
 induction m generalizing k with
 | zero=>exact hend
 | succ m ih=>exact hstep k (by omega) (ih (k+1) (fun j hj=>hstep j (by omega)) (by rw[show k+1+m=k+(m+1) by omega];exact hend) (by omega))
theorem yl {σ:Nat->Option Nat}{k:IntKind}{n:Int}:ren σ (.int k n)=.int k n:=rfl
theorem qx {σ:Nat->Option Nat}{b:Bool}:ren σ (.bool b)=.bool b:=rfl
theorem za {σ:Nat->Option Nat}{s:List UInt8}:ren σ (.str s)=.str s:=rfl
theorem Abx {σ:Nat->Option Nat}{z:Nat}{l:List (List V)}:ren σ (.sl z l)=.sl z l:=rfl
theorem Aa9 {σ:Nat->Option Nat}{l:List V}{k:Nat}:ren σ (.ro l k)=.ro l k:=rfl
theorem wO {σ:Nat->Option Nat}:ren σ .nil=.nil:=rfl
theorem tF {σ:Nat->Option Nat}:ren σ .nilp=.nilp:=rfl
theorem qu {σ:Nat->Option Nat}:ren σ .nilm=.nilm:=rfl
theorem rG {σ:Nat->Option Nat}:ren σ .nilf=.nilf:=rfl
theorem yU {σ:Nat->Option Nat}:ren σ .any=.any:=rfl
theorem GL {σ:Nat->Option Nat}{l:List V}:ren σ (.agg l)=.agg (AN σ l):=by simp only[ren]
theorem wk {σ:Nat->Option Nat}{l:List V}:ren σ (.tup l)=.tup (AN σ l):=by simp only[ren]
theorem Abp {σ:Nat->Option Nat}{f:Fn}{a l:List V}:ren σ (.fn f a l)=.fn f (AN σ a) (AN σ l):=by simp only[ren]
theorem xP {σ:Nat->Option Nat}{i z:Nat}{l:List (List V)}:ren σ (.own i z l)=match σ i with | some j=>.own j z l | none=>.sl z l:=by simp only[ren];rfl
theorem ye {σ:Nat->Option Nat}{i o:Nat}:ren σ (.ptr i o)=match σ i with | some j=>.ptr j o | none=>.any:=by simp only[ren];rfl
theorem sA {σ:Nat->Option Nat}:AN σ []=[]:=by simp only[AN]
theorem nh {σ:Nat->Option Nat}{x:V}{l:List V}:AN σ (x::l)=ren σ x::AN σ l:=by simp only[AN]
theorem wB {k:IntKind}{n:Int}:Kz (.int k n)=some [.int k n]:=rfl
theorem rj {b:Bool}:Kz (.bool b)=some [.bool b]:=rfl
theorem wQ {s:List UInt8}:Kz (.str s)=some [.str s]:=rfl
theorem Abv {z:Nat}{l:List (List V)}:Kz (.sl z l)=some [.sl z l]:=rfl
theorem xx {i z:Nat}{l:List (List V)}:Kz (.own i z l)=some [.own i z l]:=rfl
theorem wY {l:List V}:Kz (.agg l)=some l:=rfl
theorem yI {i:Nat}:Kz (.map i)=some [.map i]:=rfl
theorem qP:Kz .nilm=some [.nilm]:=rfl
theorem sr:Kz .nilf=some [.nilf]:=rfl
theorem rq:Kz .nilp=some [.nilp]:=rfl
theorem xY {σ:Nat->Option Nat}{i:Nat}:ren σ (.map i)=match σ i with | some j=>.map j | none=>.any:=by simp only[ren];rfl
theorem AbR {σ:Nat->Option Nat}{i:Nat}:ren σ (.it i)=match σ i with | some j=>.it j | none=>.any:=by simp only[ren];rfl
theorem xH:Kz .nil=some [.nil]:=rfl
theorem Acx {f:Fn}{a l:List V}:Kz (.fn f a l)=some [.fn f a l]:=rfl
theorem yd {i o:Nat}:Kz (.ptr i o)=some [.ptr i o]:=rfl
theorem Ab1 {σ:Nat->Option Nat}{i z n:Nat}:ren σ (.rw i z n)=match σ i with | some j=>.rw j z n | none=>.any:=by simp only[ren];rfl
theorem Acj {σ:Nat->Option Nat}{i n k o:Nat}:ren σ (.rp i n k o)=match σ i with | some j=>.rp j n k o | none=>.any:=by simp only[ren];rfl
theorem AbX {i z n:Nat}:Kz (.rw i z n)=some [.rw i z n]:=rfl
theorem Aaq {i n k o:Nat}:Kz (.rp i n k o)=some [.rp i n k o]:=rfl
theorem gC {σ:Nat->Option Nat}{e:Nat}{cs:List V}:A6 σ (.cells e cs)=.cells e (AN σ cs):=rfl
theorem nZ {σ:Nat->Option Nat}{e z n:Nat}:A6 σ (.arr e z n)=.arr e z n:=rfl
theorem oB {σ:Nat->Option Nat}{es:List (V×V)}:A6 σ (.map es)=.map (es.map fun p=>(ren σ p.1,ren σ p.2)):=rfl
theorem jB {σ:Nat->Option Nat}{m:Option Nat}{n:Nat}{s:List Nat}:A6 σ (.iter m n s)=.iter (m.bind σ) n s:=rfl
theorem iz {σ:Nat->Option Nat}:A6 σ .dead=.dead:=rfl
theorem El {σ:Nat->Option Nat}{e z:Nat}{els:List (List V)}:A6 σ (.row e z els)=.row e z (els.map (AN σ)):=rfl
theorem qK {σ:Nat->Option Nat}{l:Nat}{st:LS}{r:Loop}{ts:T}:A6 σ (.lp l st r ts)=.lp l st r (ts.map fun p=>(p.1,ren σ p.2)):=rfl
theorem AbK {l:List V}{o:Nat}:Kz (.ro l o)=some [.ro l o]:=rfl
theorem Cr {x:Int}(h1:-9223372036854775808<=x)(h2:x<=9223372036854775807):IntKind.i64.wrap x=x:=by
 unfold IntKind.wrap IntKind.bits IntKind.signed;simp;omega
def Ot (o:Option Ob)(f:List V->Option V):Option V:=match o with
 | some (.cells _ cs)=>f cs
 | _=>none
theorem fx {e:Nat}{cs:List V}{f:List V->Option V}:Ot (some (.cells e cs)) f=f cs:=rfl
theorem Aax {H:List Ob}{cs:List V}{k:Nat}:ZD H (.ro cs k)=cs[k]?:=rfl
theorem wN {H:List Ob}{i k:Nat}:ZD H (.ptr i k)=Ot H[i]? fun cs=>cs[k]?:=by unfold ZD Ot;rfl
theorem Aco {H:List Ob}{cs:List V}{k n:Nat}:aJ n H (.ro cs k)=if k+n<=cs.length then some (.agg (sub k n cs)) else none:=rfl
theorem vX {H:List Ob}{i k n:Nat}:aJ n H (.ptr i k)=Ot H[i]? fun cs=>if k+n<=cs.length then some (.agg (sub k n cs)) else none:=by unfold aJ Ot;rfl
def sg (o:Option Ob)(f:List (List V)->Option V):Option V:=match o with
 | some (.row _ _ els)=>f els
 | _=>none
theorem na {e z:Nat}{els:List (List V)}{f:List (List V)->Option V}:sg (some (.row e z els)) f=f els:=rfl
theorem AaJ {H:List Ob}{i n k o:Nat}:ZD H (.rp i n k o)=sg H[i]? fun els=>if els.length=n then (els[k]?).bind fun el=>el[o]? else none:=by unfold ZD sg;rfl
theorem AcA {H:List Ob}{i n j o k:Nat}:aJ k H (.rp i n j o)=sg H[i]? fun els=>if els.length=n then (els[j]?).bind fun el=>if o+k<=el.length then some (.agg (sub o k el)) else none else none:=by unfold aJ sg;rfl
theorem Aay {H:List Ob}{i n j o k:Nat}:U0 k H (.rp i n j o)=some (.rp i n j (o+k)):=rfl
theorem Abe {H:List Ob}{i n j o:Nat}:lN H (.rp i n j o)=some (.rp i n j o):=rfl
theorem yi {i z n:Nat}:W7 (.rw i z n)=some (.int .i64 n):=rfl
theorem AaS {z y i m:Nat}{k:IntKind}{n:Int}:nD z (.rw i y m) (.int k n)=if y=z/\0<=n/\n<m then some (.rp i m n.toNat 0) else none:=rfl
theorem Acf {H:List Ob}{cs:List V}{k n:Nat}:U0 n H (.ro cs k)=some (.ro cs (k+n)):=rfl
theorem xX {H:List Ob}{i k n:Nat}:U0 n H (.ptr i k)=Ot H[i]? fun _=>some (.ptr i (k+n)):=by unfold U0 Ot;rfl
theorem AaM {H:List Ob}{cs:List V}{k:Nat}:lN H (.ro cs k)=some (.ro cs k):=rfl
theorem wG {H:List Ob}{i k:Nat}:lN H (.ptr i k)=Ot H[i]? fun _=>some (.ptr i k):=by unfold lN Ot;rfl
theorem uz {cs:List V}{k:Nat}:mM k none (.agg cs)=cs[k]?:=rfl
theorem sB {cs:List V}{k n:Nat}:mM k (some n) (.agg cs)=if k+n<=cs.length then some (.agg (sub k n cs)) else none:=rfl
theorem AaT {z:Nat}{l:List (List V)}:Wa (.sl z l)=some l:=rfl
theorem xK {i z:Nat}{l:List (List V)}:Wa (.own i z l)=some l:=rfl
theorem wb:Wa .nil=some []:=rfl
theorem xp {z:Nat}{l:List (List V)}:W7 (.sl z l)=some (.int .i64 l.length):=rfl
theorem sb {i z:Nat}{l:List (List V)}:W7 (.own i z l)=some (.int .i64 l.length):=rfl
theorem um:W7 .nil=some (.int .i64 0):=rfl
theorem ow {l:List UInt8}:eK (.str l)=some (.int .i64 l.length):=rfl
theorem Abk {z y:Nat}{l:List (List V)}{k:IntKind}{n:Int}:nD z (.sl y l) (.int k n)=if y=z/\0<=n/\n<l.length then some (.ro (l.getD n.toNat []) 0) else none:=rfl
theorem xh {i z y:Nat}{l:List (List V)}{k:IntKind}{n:Int}:nD z (.own i y l) (.int k n)=if y=z/\0<=n/\n<l.length then some (.ro (l.getD n.toNat []) 0) else none:=rfl
theorem xf {l:List UInt8}{k:IntKind}{n:Int}:ixV (.str l) (.int k n)=if 0<=n/\n<l.length then some (.int .u8 (vd l n.toNat)) else none:=rfl
theorem ry {z L:Nat}{o:Option Nat}{x:V}{k:IntKind}{n:Int}:oK z L o x (.int k n)=if 0<=n/\n<L then mM (n.toNat*z) o x else none:=rfl
section
variable {k:IntKind} {a b:Int}
theorem qH:IW .add (.int k a) (.int k b)=some (.int k (k.wrap (a+b))):=by simp[IW]
theorem uI:IW .sub (.int k a) (.int k b)=some (.int k (k.wrap (a-b))):=by simp[IW]
theorem ub:IW .mul (.int k a) (.int k b)=some (.int k (k.wrap (a*b))):=by simp[IW]
theorem sZ:IW .quo (.int k a) (.int k b)=if b=0 then none else some (.int k (k.wrap (a.tdiv b))):=by simp[IW]
theorem sJ:IW .rem (.int k a) (.int k b)=if b=0 then none else some (.int k (a.tmod b)):=by simp[IW]
theorem yD {j:IntKind}:shV .shl (.int k a) (.int j b)=if b<0 then none else some (.int k (k.wrap (a*2^(min b.toNat k.bits)))):=rfl
theorem yT {j:IntKind}:shV .shr (.int k a) (.int j b)=if b<0 then none else some (.int k (a.fdiv (2^(min b.toNat k.bits)))):=rfl
theorem tR:IW .eql (.int k a) (.int k b)=some (.bool (decide (a=b))):=by simp[IW,Mr,BEq.beq]
theorem tZ:IW .neq (.int k a) (.int k b)=some (.bool (decide (a≠b))):=by simp[IW,Mr,BEq.beq,bne]
theorem rD:IW .lss (.int k a) (.int k b)=some (.bool (decide (a<b))):=by simp[IW,Mr]
theorem uJ:IW .leq (.int k a) (.int k b)=some (.bool (decide (a<=b))):=by simp[IW,Mr]
theorem sW:IW .gtr (.int k a) (.int k b)=some (.bool (decide (b<a))):=by simp[IW,Mr]
theorem pH:IW .geq (.int k a) (.int k b)=some (.bool (decide (b<=a))):=by simp[IW,Mr]
end
theorem tH {op:BinOp}{a b:List UInt8}:IW op (.str a) (.str b)=Hy op a b:=rfl
theorem iu {a b:List UInt8}:Hy .add a b=if a.length+b.length<=BJ then some (.str (a++b)) else none:=rfl
theorem jJ {a b:List UInt8}:Hy .eql a b=some (.bool (decide (a=b))):=by by_cases h:a=b<;>simp[Hy,h]
theorem ip {a b:List UInt8}:Hy .neq a b=some (.bool (decide (a≠b))):=by by_cases h:a=b<;>simp[Hy,h]
theorem iS {a b:List UInt8}:Hy .lss a b=some (.bool (Op.bytesLess a b)):=rfl
theorem ze {a b:Bool}:bbV .eql (.bool a) (.bool b)=some (.bool (a==b)):=rfl
theorem yt {a b:Bool}:bbV .neq (.bool a) (.bool b)=some (.bool (a != b)):=rfl
theorem yq {b:Bool}:unV .not (.bool b)=some (.bool !b):=rfl
theorem xR {k:IntKind}{n:Int}:unV .neg (.int k n)=some (.int k (k.wrap (0-n))):=rfl
theorem wh {l:List V}{i:Nat}:exV i (.tup l)=l[i]?:=rfl
theorem qI {l:List UInt8}{lo hi:Option V}:tI (.str l) lo hi=match dU lo 0,dU hi l.length with
  | some a,some b=>if a<=b/\b<=l.length then some (.str ((l.drop a).take (b-a))) else none
  | _,_=>none:=rfl
theorem rP {n:Nat}:dU none n=some n:=rfl
theorem yS {k:IntKind}{m:Int}{n:Nat}:dU (some (.int k m)) n=if 0<=m then some m.toNat else none:=rfl
section
variable {B:Nat} {t:T} {H:List Ob}
theorem Ac0 {d:Nat}{x:O}:AA B (.mv d x) t H=some ((d,ev t x)::t,H):=rfl
theorem yK {d:Nat}{c:O}{a:O}{b:O}:AA B (.pick d c a b) t H=(match ev t c with
  | .bool c=>some ((d,if c then ev t a else ev t b)::t,H)
  | _=>none):=rfl
theorem AcV {d:Nat}{e:Nat}{z:List V}:AA B (.al d e z) t H=some ((d,.ptr H.length 0)::t,H++[.cells e z]):=rfl
theorem Adp {d:Nat}{e:Nat}{x:O}:AA B (.bx d e x) t H=(match Kz (ev t x)with
  | some cs=>some ((d,.ptr H.length 0)::t,H++[.cells e cs])
  | none=>none):=rfl
theorem Ad4 {d:Nat}{e:Nat}{x:O}:AA B (.br d e x) t H=(match Kz (ev t x)with
  | some cs=>some ((d,.ro (AN (fun _=>none) cs) 0)::t,H)
  | none=>none):=rfl
theorem AcS {d:Nat}{k:Nat}{x:O}:AA B (.sf d k x) t H=(match lk t d with
  | .ptr i 0=>match H[i]? with
   | some (.cells e cs)=>match Kz (ev t x)with
    | some new=>if new.length=k/\cs.length=k then some ((d,.ro (AN (fun _=>none) new) 0)::t,H.set i .dead) else none
    | none=>none
   | _=>none
  | _=>none):=rfl
theorem AbE {d:Nat}{x:O}:AA B (.ldr d x) t H=AY d (ZD [] (ev t x)) t H:=rfl
theorem Abh {d:Nat}{k:Nat}{x:O}:AA B (.lar d k x) t H=AY d (aJ k [] (ev t x)) t H:=rfl
theorem Aca {d:Nat}{off:Nat}{x:O}:AA B (.far d off x) t H=AY d (U0 off [] (ev t x)) t H:=rfl
theorem AdS {d:Nat}{x:O}:AA B (.ld d x) t H=AY d (ZD H (ev t x)) t H:=rfl
theorem Adn {d:Nat}{k:Nat}{x:O}:AA B (.la d k x) t H=AY d (aJ k H (ev t x)) t H:=rfl
theorem Ado {k:Nat}{a:O}{x:O}:AA B (.st k a x) t H=(match ev t a with
  | .ptr i off=>match H[i]? with
   | some (.cells e cs)=>match Kz (ev t x)with
    | some new=>if new.length=k/\off+k<=cs.length then some (t,H.set i (.cells e (put off new cs))) else none
    | none=>none
   | _=>none
  | .rp i n j off=>match H[i]? with
   | some (.row e sz els)=>match Kz (ev t x)with
    | some new=>if els.length=n/\j<n/\new.length=k/\off+k<=sz then some (t,H.set i (.row e sz (els.set j (put off new (els.getD j []))))) else none
    | none=>none
   | _=>none
  | _=>none):=rfl
theorem Adg {d:Nat}{off:Nat}{x:O}:AA B (.fa d off x) t H=AY d (U0 off H (ev t x)) t H:=rfl
theorem Adu {d:Nat}{x:O}:AA B (.nc d x) t H=AY d (lN H (ev t x)) t H:=rfl
theorem Adj {d:Nat}{off:Nat}{k:Option Nat}{x:O}:AA B (.fd d off k x) t H=AY d (mM off k (ev t x)) t H:=rfl
theorem AcY {d:Nat}{z:List V}{ps:List (Nat×Nat×O)}:AA B (.bd d z ps) t H=AY d ((pI t ps z).map .agg) t H:=rfl
theorem Ad7 {d:Nat}{sz:Nat}{xs:List O}:AA B (.bs d sz xs) t H=AY d ((hY t sz xs).map (.sl sz)) t H:=rfl
theorem AdM {d:Nat}{e:Nat}{sz:Nat}{xs:List O}:AA B (.bo d e sz xs) t H=(match hY t sz xs with
  | some els=>some ((d,.own H.length sz els)::t,H++[.arr e sz els.length])
  | none=>none):=rfl
theorem Aaa {d:Nat}{op:BinOp}{x:O}{y:O}:AA B (.bin d op x y) t H=AY d (IW op (ev t x) (ev t y)) t H:=rfl
theorem AcR {d:Nat}{op:BinOp}{x:O}{y:O}:AA B (.bb d op x y) t H=AY d (bbV op (ev t x) (ev t y)) t H:=rfl
theorem Adl {d:Nat}{op:BinOp}{x:O}{y:O}:AA B (.sh d op x y) t H=AY d (shV op (ev t x) (ev t y)) t H:=rfl
theorem AdE {d:Nat}{op:UnOp}{x:O}:AA B (.un d op x) t H=AY d (unV op (ev t x)) t H:=rfl
theorem AaN {d:Nat}{k:IntKind}{x:O}:AA B (.cvi d k x) t H=(match ev t x with
  | .int _ n=>some ((d,.int k (k.wrap n))::t,H)
  | _=>none):=rfl
theorem AaR {d:Nat}{x:O}:AA B (.cvs d x) t H=(match ev t x with
  | .str s=>some ((d,.str s)::t,H)
  | _=>none):=rfl
theorem zZ {d:Nat}{x:O}:AA B (.s2b d x) t H=(match ev t x with
  | .str s=>if s.length<=Ai then some ((d,.sl 1 (s.map fun c=>[.int .u8 c.toNat]))::t,H) else none
  | _=>none):=rfl
theorem AaU {d:Nat}{x:O}:AA B (.b2s d x) t H=(match Wa (ev t x)with
  | some els=>match jh els with
   | some l=>some ((d,.str l)::t,H)
   | none=>none
  | none=>none):=rfl
theorem Add {d:Nat}{g:Nat}{fst:List O}{caps:List O}:AA B (.mf d g fst caps) t H=some ((d,.fn (.func g) (fst.map (ev t)) (caps.map (ev t)))::t,H):=rfl
theorem AbC {d:Nat}{x:O}:AA B (.len d x) t H=AY d (W7 (ev t x)) t H:=rfl
theorem yB {d:Nat}{x:O}:AA B (.lens d x) t H=AY d (eK (ev t x)) t H:=rfl
theorem AdL {d:Nat}{sz:Nat}{x:O}{i:O}:AA B (.ia d sz x i) t H=AY d (nD sz (ev t x) (ev t i)) t H:=rfl
theorem Ad5 {d:Nat}{x:O}{i:O}:AA B (.ix d x i) t H=AY d (ixV (ev t x) (ev t i)) t H:=rfl
theorem Abi {d:Nat}{sz n:Nat}{k:Option Nat}{x:O}{i:O}:AA B (.ixa d sz n k x i) t H=AY d (oK sz n k (ev t x) (ev t i)) t H:=rfl
theorem AdZ {d:Nat}{sz:Nat}{x:O}{lo:Option O}{hi:Option O}:AA B (.sx d sz x lo hi) t H=AY d (sxV sz (ev t x) (lo.map (ev t)) (hi.map (ev t))) t H:=rfl
theorem AbN {d:Nat}{x:O}{lo:Option O}{hi:Option O}:AA B (.sxs d x lo hi) t H=AY d (tI (ev t x) (lo.map (ev t)) (hi.map (ev t))) t H:=rfl
theorem AdP {d:Nat}{x:O}{i:Nat}:AA B (.ex d x i) t H=AY d (exV i (ev t x)) t H:=rfl
theorem Acb {d:Nat}{e:Nat}{sz:Nat}{bytes:Nat}{x:O}{y:O}:AA B (.app d e sz bytes x y) t H=Qf d (Pj H e sz bytes (ev t x) (ev t y)) t:=rfl
theorem AaC {d:Nat}{e:Nat}{sz:Nat}{bytes:Nat}{x:O}{y:O}:AA B (.apr d e sz bytes x y) t H=Qf d (fA H e sz bytes (ev t x) (ev t y)) t:=rfl
theorem AdU {d:Nat}{x:O}{y:O}:AA B (.mx d x y) t H=(match ev t x,ev t y with
  | .int k a,.int k' b=>if k=k' then some ((d,.int k (if b > a then b else a))::t,H) else none
  | _,_=>none):=rfl
theorem Adb {d:Nat}{x:O}{y:O}:AA B (.mn d x y) t H=(match ev t x,ev t y with
  | .int k a,.int k' b=>if k=k' then some ((d,.int k (if b<a then b else a))::t,H) else none
  | _,_=>none):=rfl
theorem AaI {d:Nat}{e:Nat}{sz:Nat}:AA B (.non d e sz) t H=(match lk t d with
  | .nil=>some ((d,.own H.length sz [])::t,H++[.arr e sz 0])
  | _=>none):=rfl
theorem Ab0 {e:Nat}{sz:Nat}{k:Nat}{a:O}:AA B (.ono e sz k a) t H=(match ev t a with
  | .ptr i off=>match H[i]? with
   | some (.cells e' cs)=>match cs[off+k]? with
    | some .nil=>some (t,H.set i (.cells e' (put (off+k) [.own H.length sz []] cs))++[.arr e sz 0])
    | _=>none
   | _=>none
  | _=>none):=rfl
theorem Ady {d e sz bytes:Nat}{z:List V}{x:O}:AA B (.mk d e sz bytes z x) t H=(match ev t x with
  | .int _ n=>if 0<=n/\n.toNat<=Ai/\n.toNat*bytes<=Ai then some ((d,.rw H.length sz n.toNat)::t,H++[.row e sz (List.replicate n.toNat z)]) else none
  | _=>none):=rfl
theorem AbF {d:Nat}:AA B (.mkm d) t H=some ((d,.map H.length)::t,H++[.map []]):=rfl
theorem Aaw {d:Nat}{ks:Bool}{ok:Bool}{z:V}{m:O}{k:O}:AA B (.lkp d ks ok z m k) t H=AY d (LN H ks ok z (ev t m) (ev t k)) t H:=rfl
theorem AbB {d:Nat}{m:O}:AA B (.lnm d m) t H=AY d (W8 H (ev t m)) t H:=rfl
theorem AaO {d:Nat}{sh:List Bool}{ok:Bool}{z:V}{m:O}{k:O}:AA B (.lkq d sh ok z m k) t H=AY d (RH H sh ok z (ev t m) (ev t k)) t H:=rfl
theorem Aba {d sz n:Nat}{x:O}{i:O}:AA B (.iaa d sz n x i) t H=AY d (dm H sz n (ev t x) (ev t i)) t H:=rfl
theorem ul {sz n:Nat}{x:V}{k:IntKind}{m:Int}:dm H sz n x (.int k m)=if 0<=m/\m<n then U0 (m.toNat*sz) H x else none:=rfl
theorem Abs {sh:List Bool}{m:O}{k:O}{x:O}:AA B (.muq sh m k x) t H=(match ev t m with
  | .map i=>match H[i]? with
   | some (.map es)=>if vh sh (ev t k) then match mu (ev t k) (ev t x) es with
    | some es'=>some (t,H.set i (.map es'))
    | none=>none
    else none
   | _=>none
  | _=>none):=rfl
theorem AbM {d:Nat}{neg:Bool}{sh:List Bool}{x y:O}:AA B (.eqs d neg sh x y) t H=AY d (jc neg sh (ev t x) (ev t y)) t H:=rfl
theorem Aa8 {d e sz bytes k:Nat}{y:O}:AA B (.apz d e sz bytes k y) t H=(match lk t k with
  | .nil=>Qf d (Pj (H++[.arr e sz 0]) e sz bytes (.own H.length sz []) (ev t y)) t
  | .own _ _ _=>Qf d (Pj H e sz bytes (lk t k) (ev t y)) t
  | _=>none):=rfl
theorem AcX {l:List Nat}:AA B (.kt l) t H=some (l.map fun n=>(n,lk t n),H):=rfl
theorem Ac1 {rs l:List Nat}:AA B (.kk rs l) t H=(match tf t rs with
  | some js=>if kkB B H.length js then some (l.map fun n=>(n,ren (Ay (List.range B++js)) (lk t n)),give (List.range B++js) H) else none
  | none=>none):=rfl
theorem Acp {d e sz:Nat}:AA B (.noz d e sz) t H=(match lk t d with
  | .nil=>some ((d,.own H.length sz [])::t,H++[.arr e sz 0])
  | .own _ _ _=>some (t,H)
  | _=>none):=rfl
theorem AbG {ks:Bool}{m:O}{k:O}{x:O}:AA B (.mup ks m k x) t H=(match ev t m with
  | .map i=>match H[i]? with
   | some (.map es)=>if mr ks (ev t k) then match Yh (ev t k) (ev t x) es with
    | some es'=>some (t,H.set i (.map es'))
    | none=>none
    else none
   | _=>none
  | _=>none):=rfl
theorem Adm {d:Nat}{m:O}:AA B (.rg d m) t H=(match ev t m with
  | .map i=>match H[i]? with
   | some (.map es)=>some ((d,.it H.length)::t,H++[.iter (some i) es.length []])
   | _=>none
  | _=>none):=rfl
theorem AcP {d:Nat}{x:O}:AA B (.en d x) t H=AY d (vU H (ev t x)) t H:=rfl
theorem vF {d:Nat}{e:Nat}{sz:Nat}:AA B (.rnon d e sz) t H=(match lk t d with
  | .nil=>some ((d,.rw H.length sz 0)::t,H++[.row e sz []])
  | _=>none):=rfl
theorem wF {e:Nat}{sz:Nat}{k:Nat}{a:O}:AA B (.rono e sz k a) t H=(match ev t a with
  | .ptr i off=>match H[i]? with
   | some (.cells e' cs)=>match cs[off+k]? with
    | some .nil=>some (t,H.set i (.cells e' (put (off+k) [.rw H.length sz 0] cs))++[.row e sz []])
    | _=>none
   | _=>none
  | _=>none):=rfl
theorem AaH {d:Nat}:AA B (.frz d) t H=(match lk t d with
  | .rw i z n=>match H[i]? with
   | some (.row e sz els)=>if els.length=n then some ((d,.sl sz (els.map (AN fun _=>none)))::t,H.set i .dead) else none
   | _=>none
  | _=>none):=rfl
theorem Aa1 {d:Nat}:AA B (.e2r d) t H=(match lk t d with
  | .own i z []=>match H[i]? with
   | some (.arr e sz 0)=>if z=sz then some ((d,.rw H.length sz 0)::t,H.set i .dead++[.row e sz []]) else none
   | _=>none
  | _=>none):=rfl
theorem AbD {k:Nat}{a:O}:AA B (.frc k a) t H=(match ev t a with
  | .ptr i off=>match H[i]? with
   | some (.cells e cs)=>match cs[off+k]? with
    | some (.rw j z n)=>match H[j]? with
     | some (.row e' sz els)=>if els.length=n then some (t,(H.set j .dead).set i (.cells e (put (off+k) [.sl sz (els.map (AN fun _=>none))] cs))) else none
     | _=>none
    | some (.sl _ _)=>some (t,H)
    | _=>none
   | _=>none
  | _=>none):=rfl
theorem AdV {m:Nat}{l:List Nat}:AA B (.ks m l) t H=some (l.map fun n=>(n,ren (AI (B+m)) (lk t n)),(H.take (B+m)).map (A6 (AI (B+m)))):=rfl
end
attribute [push_cast] sG rF xU xW AbP Aal qc yV Aad rd vJ sy rN sa Ku tC pK vR Aa4 yR wW AaY sF qo wx pN uG me uA mq Aaj Aav qZ qU AaB nR Aah iZ AeC AeY Aeo Aaz vI Ac0 yK AcV Adp Ad4 AcS AbE Abh Aca AdS Adn Ado Adg Adu Adj AcY Ad7 AdM Aaa AcR Adl AdE AaN AaR zZ AaU Add AbC yB AdL Ad5 Abi AdZ AbN AdP Acb AaC AdU Adb AaI Ab0 Ady AbF Aaw AbB AaO Aba ul AbG Abs AbM AcX Ac1 Acp Aa8 Adm AcP vF wF AaH Aa1 AbD AdV fx Aax wN Aco vX Acf xX AaM wG uz sB AaT xK wb xp sb um ow Abk xh xf ry qH uI ub tR tZ rD uJ sW pH tH iu jJ ip iS ze yt yq xR wh qI rP yS pI hY AI Fd qz tw qi xB tM se yA oz AaL tg wU pF Aab pQ sZ sJ yD yT wP na AaJ AcA Aay Abe yi AaS Ab1 Acj AbX Aaq gC nZ oB jB iz El qK yl qx za Abx Aa9 wO tF qu rG yU GL wk Abp xP ye sA nh wB rj wQ Abv xx wY xH Acx yd AbK yI qP sr rq xY AbR List.map_cons List.map_nil List.cons_append List.nil_append List.append_nil rvs rvV UD vg List.length_nil List.length_cons List.getElem?_nil List.getElem?_cons_zero List.getElem?_cons_succ List.set_cons_zero List.set_cons_succ List.take_zero List.take_nil List.take_succ_cons Nat.le_refl true_and and_true and_self Nat.zero_add Nat.add_zero decide_eq_true_eq decide_eq_false_iff_not if_true if_false Bool.not_true Bool.not_false Int.toNat_natCast decide_true decide_false Bool.true_and Bool.and_true Bool.false_and Bool.and_false forall_const not_true_eq_false not_false_eq_true true_implies false_implies
end Go.Dw
end
namespace Go.Dw
noncomputable abbrev prog:Program:=Go.Proofs.Tryz.prog
theorem mixed:prog.follows .mixedOrders=true:=by kernel_rfl
def LL:Nat:=7
def EV:Nat:=11
def Qw:Nat:=12
def J8:Nat:=13
def Qy:Nat:=18
def Ht:Nat:=22
def RW:Nat:=23
def Kq:Nat:=31
def Mi:Nat:=32
def Bw:Nat:=33
def KN:Nat:=34
def LV:Nat:=40
def LC:Nat:=41
def JD:Nat:=42
def GT:Nat:=43
def GS:Nat:=46
def IN:Nat:=49
def KS:Nat:=54
def MP:Nat:=55
def Oq:Nat:=56
def Ms:Nat:=57
def MZ:Nat:=58
def Mc:Nat:=59
def Cm:Nat:=63
def Hw:Nat:=71
def Is:Nat:=72
def Hk:Nat:=73
def Mn:Nat:=74
def GX:Nat:=75
def M3:Nat:=76
def Ds:Nat:=77
def KC:Nat:=78
def CN:Nat:=79
def Mw:Nat:=86
def GN:Nat:=87
def GV:Nat:=88
def Df:Nat:=89
def Eu:Nat:=90
def Gr:Nat:=91
def BD:Nat:=92
def Jl:Nat:=94
def JI:Nat:=97
def Mp:Nat:=98
def EE:Nat:=99
def OL:Nat:=100
def CH:Nat:=101
def Iv:Nat:=102
def Dl:Nat:=103
def Aj:Nat:=104
def KR:Nat:=105
def Jq:Nat:=106
def HY:Nat:=107
def UQ:Nat:=108
def fY:Nat:=109
def fo:Nat:=110
def Zm:Nat:=111
def Q6:Nat:=112
def GF:Nat:=113
def CO:Nat:=115
def E3:Nat:=118
def Fz:Nat:=122
def J9:Nat:=123
def AU:Nat:=124
def n_slices_Sort_s_string_string:Nat:=125
def N7:Nat:=132
def KU:Nat:=133
def Nc:Nat:=134
def Of:Nat:=135
def HG:Nat:=136
def LZ:Nat:=137
def Ly:Nat:=138
def Gg:Nat:=139
def RX:Nat:=140
def Jb:Nat:=141
def Do:Nat:=144
def DR:Nat:=145
def AL:Nat:=146
def Ko:Nat:=147
def JP:Nat:=148
def Iw:Nat:=149
def C6:Nat:=150
def GK:Nat:=151
def O0:Nat:=152
def Ak:Nat:=153
def Dc:Nat:=154
def E6:Nat:=155
def Ce:Nat:=156
def Ha:Nat:=157
def RR:Nat:=158
def Hj:Nat:=159
def Iu:Nat:=160
def FP:Nat:=161
def Q0:Nat:=162
def MI:Nat:=164
def IH:Nat:=169
def Ia:Nat:=170
def N1:Nat:=171
def BP:Nat:=172
def KB:Nat:=173
def Oe:Nat:=184
def K5:Nat:=186
def Kh:Nat:=187
def Ki:Nat:=188
def M9:Nat:=189
def KG:Nat:=190
def Dz:Nat:=191
def N9:Nat:=192
def Jm:Nat:=193
def Ja:Nat:=194
def PC:Nat:=195
def N3:Nat:=196
def On:Nat:=197
def Xs:Nat:=198
def OO:Nat:=199
def Gm:Nat:=200
def GB:Nat:=201
def BS:Nat:=202
def Hx:Nat:=203
def Nb:Nat:=204
def Bf:Nat:=205
def Ed:Nat:=206
def n_slices_Grow_s_int_int:Nat:=207
def Bq:Nat:=208
def KD:Nat:=209
def JJ:Nat:=210
def K6:Nat:=211
def OR:Nat:=212
def FG:Nat:=214
def Oo:Nat:=215
def ML:Nat:=217
def R1:Nat:=219
def Sv:Nat:=223
def Hb:Nat:=224
def Dd:Nat:=225
def Bv:Nat:=226
def QD:Nat:=227
def CG:Nat:=228
def JB:Nat:=247
def MQ:Nat:=248
def FF:Nat:=249
def MY:Nat:=250
def Kr:Nat:=251
def HI:Nat:=252
def KI:Nat:=253
def Ma:Nat:=254
def Jx:Nat:=255
def JM:Nat:=256
def JA:Nat:=257
def It:Nat:=258
def LB:Nat:=259
def Qe:Nat:=260
def IC:Nat:=261
def K2:Nat:=262
def EG:Nat:=263
def Dg:Nat:=264
def FB:Nat:=265
def KL:Nat:=266
def Ol:Nat:=267
def Ie:Nat:=268
def Io:Nat:=269
def Dv:Nat:=271
def Ct:Nat:=272
def KF:Nat:=279
def Dt:Nat:=280
def Dn:Nat:=281
def ES:Nat:=282
def GI:Nat:=283
def JF:Nat:=284
def CP:Nat:=285
def Qb:Nat:=286
def Ft:Nat:=287
def PJ:Nat:=288
def JL:Nat:=289
def O7:Nat:=290
def IO:Nat:=291
def NE:Nat:=292
def AJ:Nat:=293
def Lr:Nat:=294
def Gh:Nat:=295
def LO:Nat:=296
def Gi:Nat:=297
def Kn:Nat:=299
def Eb:Nat:=300
def CB:Nat:=301
def BV:Nat:=302
def HK:Nat:=303
def Lp:Nat:=304
def Gf:Nat:=305
def JK:Nat:=306
def Fb:Nat:=307
def NW:Nat:=308
def n_strconv_FormatInt:Nat:=310
def Cy:Nat:=311
def EX:Nat:=312
def K0:Nat:=313
def Cu:Nat:=314
def Cb:Nat:=320
def Dm:Nat:=326
noncomputable abbrev NH:Func:=Go.Proofs.Tryz.f308
theorem Zw:prog.funcs[NW]?=some NH:=Go.Proofs.Tryz.func308
noncomputable abbrev Ho:Func:=Go.Proofs.Tryz.f314
theorem He:prog.funcs[Cu]?=some Ho:=Go.Proofs.Tryz.func314
def t_int:Nat:=3
def jK:Nat:=4
def C5:Nat:=9
def PH:Nat:=22
def R6:Nat:=23
def A8:Nat:=25
def Wl:Nat:=26
def A2:Nat:=35
def ft:Nat:=47
def Tb:Nat:=67
def Ch:Nat:=107
def YI:Nat:=108
def GO:Nat:=127
def MA:Nat:=130
def Ew:Nat:=132
def AW:Nat:=134
def DN:Nat:=136
def Cg:Nat:=148
def DB:Nat:=158
def Fl:Nat:=169
def aw:Nat:=185
def IQ:Nat:=192
def DY:Nat:=215
def P4:Nat:=225
def GU:Nat:=270
def Bi:Nat:=281
def TD:Nat:=286
def D7:Nat:=290
def Im:Nat:=298
def B9:Nat:=302
def DP:Nat:=305
def Fj:Nat:=307
end Go.Dw
section
namespace Go.Dw
abbrev A9:=List UInt8
inductive Term where
 | mk (name:A9) (var:Bool) (args:List Term)
deriving Inhabited
namespace Term
def name:Term->A9 | mk n _ _=>n
def var:Term->Bool | mk _ v _=>v
def args:Term->List Term | mk _ _ a=>a
end Term
def Dp {α:Type}(f:α->List V)(z:Nat)(l:List α):V:=.sl z (l.map f)
def B8 {α:Type}(f:α->List V)(i z:Nat)(l:List α):V:=.own i z (l.map f)
section
variable {α:Type} {f:α->List V} {z:Nat}
theorem su {l:List α}:Kz (Dp f z l)=some [Dp f z l]:=rfl
theorem ur {σ:Nat->Option Nat}{l:List α}:ren σ (Dp f z l)=Dp f z l:=rfl
theorem oX {l:List α}:W7 (Dp f z l)=some (.int .i64 l.length):=by simp[Dp,W7]
theorem uS {l:List α}:Wa (Dp f z l)=some (l.map f):=rfl
theorem th [Inhabited α]{l:List α}{k:IntKind}{n:Int}{y:Nat}:nD y (Dp f z l) (.int k n)=if z=y/\0<=n/\n<l.length then some (.ro (f (l.getD n.toNat default)) 0) else none:=by
 simp only[Dp,nD,List.length_map]
 split
 ·rename_i h
  have hlt:n.toNat<l.length:=by omega
  simp[List.getD_eq_getElem?_getD,hlt]
 ·rfl
theorem tc {l:List α}{lo hi:Option V}{y:Nat}:sxV y (Dp f z l) lo hi=match dU lo 0,dU hi l.length with
  | some a,some b=>if z=y/\a<=b/\b<=l.length then some (Dp f z ((l.drop a).take (b-a))) else none
  | _,_=>none:=by
 simp only[Dp,sxV,List.length_map,<-List.map_drop,<-List.map_take]
 rfl
theorem tj {i:Nat}{l:List α}:Kz (B8 f i z l)=some [B8 f i z l]:=rfl
theorem rv {σ:Nat->Option Nat}{i:Nat}{l:List α}:ren σ (B8 f i z l)=match σ i with | some j=>B8 f j z l | none=>Dp f z l:=by simp only[B8,Dp,ren];rfl
theorem nu {i:Nat}{l:List α}:W7 (B8 f i z l)=some (.int .i64 l.length):=by simp[B8,W7]
theorem qk {i:Nat}{l:List α}:Wa (B8 f i z l)=some (l.map f):=rfl
theorem uL [Inhabited α]{i:Nat}{l:List α}{k:IntKind}{n:Int}{y:Nat}:nD y (B8 f i z l) (.int k n)=if z=y/\0<=n/\n<l.length then some (.ro (f (l.getD n.toNat default)) 0) else none:=by
 simp only[B8,nD,List.length_map]
 split
 ·rename_i h
  have hlt:n.toNat<l.length:=by omega
  simp[List.getD_eq_getElem?_getD,hlt]
 ·rfl
def uy (o:Option Ob)(K:Nat->Nat->Nat->Option (V×List Ob)):Option (V×List Ob):=match o with
 | some (.arr e z n)=>K e z n
 | _=>none
theorem nb {e y n:Nat}{K:Nat->Nat->Nat->Option (V×List Ob)}:uy (some (.arr e y n)) K=K e y n:=rfl
def jz (o:Option (List (List V)))(K:List (List V)->Option (V×List Ob)):Option (V×List Ob):=match o with
 | some l=>K l
 | none=>none
theorem mI {l:List (List V)}{K:List (List V)->Option (V×List Ob)}:jz (some l) K=K l:=rfl
theorem oU {H:List Ob}{e y bytes i:Nat}{l:List α}{v:V}:Pj H e y bytes (B8 f i z l) v=jz (Wa v) fun new=>uy H[i]? fun e' z' n=>if z=y/\z'=y/\e'=e/\n=l.length/\(∀ x∈new,x.length=y)/\(l.length+new.length)*bytes<=Ai then some (.own i y (l.map f++new),H.set i (.arr e y (l.length+new.length))) else none:=by
 unfold Pj B8 jz uy
 cases Wa v with
 | none=>rfl
 | some new =>
  simp only[List.length_map]
  rfl
theorem qO {H:List Ob}{e y bytes i:Nat}{l:List (List V)}{v:V}:Pj H e y bytes (.own i z l) v=jz (Wa v) fun new=>uy H[i]? fun e' z' n=>if z=y/\z'=y/\e'=e/\n=l.length/\(∀ x∈new,x.length=y)/\(l.length+new.length)*bytes<=Ai then some (.own i y (l++new),H.set i (.arr e y (l.length+new.length))) else none:=by
 unfold Pj jz uy
 cases Wa v with
 | none=>rfl
 | some new=>rfl
def Aam (o:Option Ob)(K:Nat->Nat->List (List V)->Option (V×List Ob)):Option (V×List Ob):=match o with
 | some (.row e z els)=>K e z els
 | _=>none
theorem ni {e y:Nat}{els:List (List V)}{K:Nat->Nat->List (List V)->Option (V×List Ob)}:Aam (some (.row e y els)) K=K e y els:=rfl
theorem wo {H:List Ob}{e y bytes i n:Nat}{v:V}:fA H e y bytes (.rw i z n) v=jz (Wa v) fun new=>Aam H[i]? fun e' z' els=>if z'=y/\e'=e/\els.length=n/\(∀ x∈new,x.length=y)/\(n+new.length)*bytes<=Ai then some (.rw i y (n+new.length),H.set i (.row e y (els++new))) else none:=by
 unfold fA jz Aam
 cases Wa v with
 | none=>rfl
 | some new=>rfl
theorem qA {i:Nat}{l:List α}{x:α}:(.own i z (l.map f++[f x]):V)=B8 f i z (l++[x]):=by simp[B8]
theorem yE {i:Nat}{l m:List α}:(.own i z (l.map f++m.map f):V)=B8 f i z (l++m):=by simp[B8]
end
attribute [push_cast] su ur oX uS th tc tj rv nu qk uL nb mI oU qO ni wo qA yE eq_self
mutual
def ji:Term->List (List V)
 | .mk _ _ ts=>ai ts
def ai:List Term->List (List V)
 | []=>[]
 | a::ts=>[.str a.name,.bool a.var,.sl 3 (ji a)]::ai ts
end
def cT (t:Term):List V:=[.str t.name,.bool t.var,.sl 3 (ji t)]
theorem qE (ts:List Term):ai ts=ts.map cT:=by
 induction ts with
 | nil=>simp[ai]
 | cons a ts ih=>simp[ai,ih,cT]
theorem cw (t:Term):ji t=t.args.map cT:=by cases t;simp[ji,qE,Term.args]
abbrev Bk (l:List Term):V:=Dp cT 3 l
theorem Qm (t:Term):cT t=[.str t.name,.bool t.var,Bk t.args]:=by rw[cT,cw];rfl
def An (t:Term):V:=.agg (cT t)
theorem tD (t:Term):Kz (An t)=some (cT t):=rfl
theorem bp (t:Term):(cT t).length=3:=rfl
theorem Ae1 (t:Term):(cT t)[0]?=some (.str t.name):=rfl
theorem AeU (t:Term):(cT t)[1]?=some (.bool t.var):=rfl
theorem AeW (t:Term):(cT t)[2]?=some (Bk t.args):=by rw[Qm];rfl
theorem AbS (t:Term):sub 0 3 (cT t)=cT t:=rfl
theorem mQ (t:Term):V.agg (cT t)=An t:=rfl
theorem kY {σ:Nat->Option Nat}(t:Term):AN σ (cT t)=cT t:=rfl
theorem fK {σ:Nat->Option Nat}(t:Term):ren σ (An t)=An t:=by unfold An;rw[GL,kY]
theorem zq (n:A9)(v:Bool)(l:List Term):[V.str n,.bool v,Bk l]=cT (.mk n v l):=by rw[Qm];rfl
theorem Zp (t:Term)(k:Nat):mM k none (An t)=(cT t)[k]?:=rfl
theorem lz (x:List V)(a b c:V)(h:x.length=3):put 0 x [a,b,c]=x:=by
 simp only[put,h];simp
theorem Ab2 (t:Term)(a b c:V):put 0 (cT t) [a,b,c]=cT t:=lz _ _ _ _ rfl
theorem lD (t u:Term):put 0 (cT t) (cT u)=cT t:=lz _ _ _ _ rfl
attribute [push_cast] tD bp Ae1 AeU AeW AbS mQ fK kY Zp Ab2 lD
end Go.Dw
end
section
namespace Go.Dw
abbrev PF (f:Nat)(args:List V)(x:V):Prop:=Spec prog f args [] fun x' H'=>x'=x/\H'=[]
theorem Ad {f:Nat}{nd:Nat->C}{c:C}{n:Nat}{rs:List RV}(hok:Bh prog f nd c n rs=true){args:List V}{x:V}(hn:args.length=n)
  (hrun:Ax prog nd 0 [.c c] (vg 0 args) [] (BH 0 rs fun x' H'=>x'=x/\H'=[])):PF f args x:=AC mixed hok hn hrun
theorem A0 {rs:List RV}{t:T}{H:List Ob}{v:V}{e:X}(h:oP (UD rs t H) fun x=>ren (fun _=>none) x=v)(he:e=.ret\/e=.fall:=by first | exact .inl rfl | exact .inr rfl):BH 0 rs (fun x' H'=>x'=v/\H'=[]) e t H:=by
 cases hr:UD rs t H with
 | none=>rw[hr]at h;exact h.elim
 | some x=>rw[hr]at h;exact eh he hr ⟨h,rfl⟩
attribute [push_cast] List.forall_mem_singleton List.forall_mem_map Option.map_some Option.map_none Option.bind_some Option.bind_none ne_eq Bool.false_eq_true Bool.true_eq_false and_true true_and implies_true Int.natCast_nonneg implies_true not_true_eq_false not_false_eq_true true_implies false_implies forall_const V.int.injEq V.bool.injEq V.str.injEq V.tup.injEq V.agg.injEq List.cons.injEq
theorem Adt {l:List V}:sub 0 0 l=[]:=rfl
theorem AdR {k:Nat}{x:V}{l:List V}:sub 0 (k+1) (x::l)=x::sub 0 k l:=rfl
theorem Ade {o k:Nat}{x:V}{l:List V}:sub (o+1) k (x::l)=sub o k l:=rfl
theorem Ads {l:List V}:put 0 [] l=l:=by simp[put]
theorem AdO {x y:V}{n l:List V}:put 0 (x::n) (y::l)=x::put 0 n l:=by simp[put]
theorem AcN {o:Nat}{y:V}{n l:List V}:put (o+1) n (y::l)=y::put o n l:=by
 simp only[put,List.take_succ_cons,List.cons_append]
 rw[show o+1+n.length=(o+n.length)+1 by omega,List.drop_succ_cons]
theorem xn (t:Term)(a b c:V)(l:List V):put 0 (cT t) (a::b::c::l)=cT t++l:=by simp[put,bp]
theorem vz (t:Term)(n l:List V)(k:Nat):put (k+3) n (cT t++l)=cT t++put k n l:=by
 simp only[put]
 have h:(cT t).length=3:=rfl
 rw[List.take_append,List.drop_append,List.take_of_length_le (by omega),List.drop_of_length_le (by omega)]
 simp only[h,List.nil_append,List.append_assoc]
 rw[show k+3-3=k by omega,show k+3+n.length-3=k+n.length by omega]
theorem iq (t:Term)(l:List V)(k:Nat):(cT t++l)[k+3]?=l[k]?:=by
 rw[List.getElem?_append_right (by simp[bp])];simp[bp]
theorem jT (t:Term)(l:List V):sub 0 3 (cT t++l)=cT t:=by
 simp only[sub,List.drop_zero]
 exact List.take_left' rfl
attribute [push_cast] Adt AdR Ade Ads AdO AcN xn vz iq jT List.length_append List.append_assoc
theorem A4 {α:Type}[Inhabited α]{l:List α}{k:Nat}(h:k<l.length):l.getD k default∈l:=by simp[List.getD_eq_getElem?_getD,h]
theorem Aa {α:Type}[Inhabited α]{l:List α}{k:Nat}(h:k<l.length):l.take (k+1)=l.take k++[l.getD k default]:=by
 rw[List.take_succ_eq_append_getElem h];simp[List.getD_eq_getElem?_getD,h]
theorem Ag {α:Type}[Inhabited α]{l:List α}{k:Nat}(h:k<l.length):l.drop k=l.getD k default::l.drop (k+1):=by
 rw[List.drop_eq_getElem_cons h];simp[List.getD_eq_getElem?_getD,h]
theorem BB {k n:Nat}(h:k<n):((k:Int)<(n:Int))=True:=eq_true (by omega)
theorem AZ {k n:Nat}(h:n<=k):((k:Int)<(n:Int))=False:=eq_false (by omega)
theorem Co {k:Nat}(h:k<2^62):IntKind.i64.wrap ((k:Int)+1)=(k:Int)+1:=Cr (by omega) (by omega)
theorem xt:Ay []=fun _=>none:=by funext i;rfl
theorem ns (H H':List Ob):Qa [] H H'=H:=by
 unfold Qa
 apply List.ext_getElem (by simp)
 intro i h1 h2
 simp[Ay,h2]
theorem iy (H H':List Ob):takeB [] H H'=H++H'.map (A6 fun i=>some (H.length+i)):=by
 unfold takeB
 rw[ns]
 have:BG [] H.length=fun i=>some (H.length+i):=by funext i;simp[BG]
 rw[this];simp
section
variable {N:Nat->C} {B:Nat} {s:List K} {t:T} {H:List Ob} {Q:X->T->List Ob->Prop}
theorem NR {d:Option Nat}{l:List S}{f:Nat}{vs:List V}{x:V}{H1:List Ob}(h:Spec prog f (AN (fun _=>none) vs) [] fun x' H'=>x'=x/\H'=H1)
  (k:Ax prog N B (.r l::s) (Fd d (ren (fun i=>some (H.length+i)) x) t) (H++H1.map (A6 fun i=>some (H.length+i))) Q):Bl prog N B d l s t Q (.func f) vs H:=by
 refine Bl.some [] List.nodup_nil (fun i hi=>by cases hi) (R:=fun x' H'=>x'=x/\H'=H1) (by rw[xt];exact h) ?_
 rintro x' H' ⟨rfl,rfl⟩ _
 rw[iy]
 have:BG [] H.length=fun i=>some (H.length+i):=by funext i;simp[BG]
 rw[this];exact k
end
end Go.Dw
end
namespace Go.Dw
mutual
def size:Term->Nat
 | .mk _ _ l=>1+Af l
def Af:List Term->Nat
 | []=>0
 | a::l=>size a+Af l
end
theorem Dk (a b:List Term):Af (a++b)=Af a+Af b:=by
 induction a with
 | nil=>simp[Af]
 | cons x xs ih=>simp[Af,ih];omega
theorem Aq (t:Term):size t=1+Af t.args:=by cases t;simp[size,Term.args]
theorem Eo (l:List Term)(k:Nat)(h:k<l.length):Af (l.take (k+1))=Af (l.take k)+size (l.getD k default):=by
 rw[Aa h,Dk];simp[Af]
theorem EI (l:List Term)(k:Nat):Af (l.take k)<=Af l:=by
 conv=>rhs;rw[<-List.take_append_drop k l]
 rw[Dk];omega
theorem B4 {l:List Term}{a:Term}(h:a∈l):size a<=Af l:=by
 induction l with
 | nil=>cases h
 | cons x xs ih=>rcases List.mem_cons.1 h with rfl | h<;>simp[Af];have:=ih h;omega
theorem Ap (l:List Term):l.length<=Af l:=by
 induction l with
 | nil=>simp
 | cons x xs ih=>simp only[Af,List.length_cons];have:=Aq x;omega
theorem Ah {p:Term->Prop}(h:∀ t,(∀ a∈t.args,p a)->p t)(t:Term):p t:=by
 have:∀ n t,size t<=n->p t:=by
  intro n
  induction n with
  | zero=>intro t ht;have:=Aq t;omega
  | succ n ih =>
   intro t ht
   refine h t fun a ha=>ih a ?_
   have:=Aq t
   have:=B4 ha
   omega
 exact this (size t) t (Nat.le_refl _)
def cj {α β:Type}(f:α->β->Bool):List α->List β->Bool
 | [],[]=>true
 | a::l,b::m=>f a b&&cj f l m
 | _,_=>false
theorem cf {α β:Type}{f:α->β->Bool}:∀ {l:List α} {m:List β},cj f l m=true->l.length=m.length
 | [],[],_=>rfl
 | a::l,b::m,h=>by simp only[cj,Bool.and_eq_true]at h;simp[cf h.2]
 | [],_::_,h=>by cases h
 | _::_,[],h=>by cases h
mutual
def teq:Term->Term->Bool
 | .mk n v l,.mk n' v' l'=>n==n'&&v==v'&&jq l l'
def jq:List Term->List Term->Bool
 | [],[]=>true
 | a::l,b::m=>teq a b&&jq l m
 | _,_=>false
end
mutual
theorem bB:∀ a b:Term,teq a b=true↔a=b
 | .mk n v l,.mk n' v' l'=>by simp[teq,gJ l l',and_assoc]
theorem gJ:∀ a b:List Term,jq a b=true↔a=b
 | [],[]=>by simp[jq]
 | a::l,b::m=>by simp[jq,bB a b,gJ l m]
 | [],_::_=>by simp[jq]
 | _::_,[]=>by simp[jq]
end
instance:DecidableEq Term:=fun a b=>if h:teq a b=true then .isTrue ((bB a b).1 h) else .isFalse fun e=>h ((bB a b).2 e)
theorem ss {f:Term->Term->Bool}:∀ {l m:List Term},(∀ a∈l,∀ b,f a b=decide (a=b))->cj f l m=decide (l=m)
 | [],[],_=>rfl
 | a::l,b::m,h=>by
  simp only[cj,h a (by simp) b,ss (l:=l) (m:=m) fun x hx=>h x (by simp[hx])]
  simp
 | [],_::_,_=>rfl
 | _::_,[],_=>rfl
theorem V7 (a b:Term):a=b↔a.name=b.name/\a.var=b.var/\a.args=b.args:=by cases a;cases b;simp[Term.name,Term.var,Term.args]
end Go.Dw
section
namespace Go.Dw
def cU8 (c:UInt8):List V:=[.int .u8 c.toNat]
def cS (s:A9):List V:=[.str s]
def cI (n:Int):List V:=[.int .i64 n]
theorem qW (s:A9):(.sl 1 (s.map fun c=>[V.int .u8 c.toNat]):V)=Dp cU8 1 s:=rfl
theorem Xl (c:UInt8):(cU8 c)[0]?=some (.int .u8 c.toNat):=rfl
theorem iV (s:A9):(cS s)[0]?=some (.str s):=rfl
theorem Aey (n:Int):(cI n)[0]?=some (.int .i64 n):=rfl
theorem vG (s:UInt8):(cU8 s).length=1:=rfl
theorem AbT (s:A9):(cS s).length=1:=rfl
theorem AaK (s:Int):(cI s).length=1:=rfl
abbrev C7 (l:List A9):V:=Dp cS 1 l
abbrev D0 (l:List Int):V:=Dp cI 1 l
structure A3 where
 left:Term
 right:Term
 deriving Inhabited,DecidableEq
def cR (r:A3):List V:=cT r.left++cT r.right
def Oh (r:A3):V:=.agg (cR r)
abbrev As (l:List A3):V:=Dp cR 6 l
structure A5 where
 name:A9
 term:Term
 deriving Inhabited,DecidableEq
def cB (b:A5):List V:=.str b.name::cT b.term
def Xp (b:A5):V:=.agg (cB b)
abbrev B5 (l:List A5):V:=Dp cB 4 l
structure BZ where
 rule:Int
 pos:List Int
 deriving Inhabited,DecidableEq
def Pi (s:BZ):List V:=[.int .i64 s.rule,D0 s.pos]
def Rr (s:BZ):V:=.agg (Pi s)
abbrev Cq (l:List BZ):V:=Dp Pi 2 l
structure bD where
 start:Term
 steps:List BZ
 deriving Inhabited,DecidableEq
def cC (c:bD):List V:=cT c.start++[Cq c.steps]
def uB (c:bD):V:=.agg (cC c)
structure eE where
 src:Int
 dst:Int
 step:BZ
 deriving Inhabited,DecidableEq
def pr (e:eE):List V:=.int .i64 e.src::.int .i64 e.dst::Pi e.step
def dJ (e:eE):V:=.agg (pr e)
abbrev uf (l:List eE):V:=Dp pr 4 l
structure kc where
 terms:List Term
 edges:List eE
 whole:Bool
 deriving Inhabited,DecidableEq
def cG (g:kc):List V:=[Bk g.terms,uf g.edges,.bool g.whole]
def uF (g:kc):V:=.agg (cG g)
structure rZ where
 chain:bD
 pos:List Int
 subst:List A5
 deriving Inhabited,DecidableEq
def cL (l:rZ):List V:=cC l.chain++[D0 l.pos,B5 l.subst]
def fi (l:rZ):V:=.agg (cL l)
section
variable (r:A3) (b:A5) (s:BZ) (c:bD) (e:eE) (g:kc) (l:rZ) {σ:Nat->Option Nat}
theorem Aci:(cR r).length=6:=rfl
theorem Acw:(cB b).length=4:=rfl
theorem yF:(Pi s).length=2:=rfl
theorem Aa2:(cC c).length=4:=rfl
theorem vx:(pr e).length=4:=rfl
theorem Ab5:(cG g).length=3:=rfl
theorem Abu:(cL l).length=6:=rfl
theorem pL:Kz (Oh r)=some (cR r):=rfl
theorem tq:Kz (Xp b)=some (cB b):=rfl
theorem mN:Kz (Rr s)=some (Pi s):=rfl
theorem pX:Kz (uB c)=some (cC c):=rfl
theorem ox:Kz (dJ e)=some (pr e):=rfl
theorem sj:Kz (uF g)=some (cG g):=rfl
theorem nB:Kz (fi l)=some (cL l):=rfl
theorem lv:AN σ (cR r)=cR r:=rfl
theorem mc:AN σ (cB b)=cB b:=rfl
theorem fN:AN σ (Pi s)=Pi s:=rfl
theorem lL:AN σ (cC c)=cC c:=rfl
theorem fh:AN σ (pr e)=pr e:=rfl
theorem lU:AN σ (cG g)=cG g:=rfl
theorem lO:AN σ (cL l)=cL l:=rfl
theorem rR:ren σ (Oh r)=Oh r:=by unfold Oh;rw[GL,lv]
theorem uk:ren σ (Xp b)=Xp b:=by unfold Xp;rw[GL,mc]
theorem mS:ren σ (Rr s)=Rr s:=by unfold Rr;rw[GL,fN]
theorem sX:ren σ (uB c)=uB c:=by unfold uB;rw[GL,lL]
theorem pb:ren σ (dJ e)=dJ e:=by unfold dJ;rw[GL,fh]
theorem qF:ren σ (uF g)=uF g:=by unfold uF;rw[GL,lU]
theorem mP:ren σ (fi l)=fi l:=by unfold fi;rw[GL,lO]
theorem mC:V.agg (cR r)=Oh r:=rfl
theorem mK:V.agg (cB b)=Xp b:=rfl
theorem kf:V.agg (Pi s)=Rr s:=rfl
theorem oe:V.agg (cC c)=uB c:=rfl
theorem jL:V.agg (pr e)=dJ e:=rfl
theorem nt:V.agg (cG g)=uF g:=rfl
theorem jI:V.agg (cL l)=fi l:=rfl
theorem wv:sub 0 3 (cR r)=cT r.left:=rfl
theorem yM:sub 3 3 (cR r)=cT r.right:=rfl
theorem zh:sub 0 6 (cR r)=cR r:=rfl
theorem AeK:(cB b)[0]?=some (.str b.name):=rfl
theorem yj:sub 1 3 (cB b)=cT b.term:=rfl
theorem vO:sub 0 4 (cB b)=cB b:=rfl
theorem Ad2:(Pi s)[0]?=some (.int .i64 s.rule):=rfl
theorem Ac3:(Pi s)[1]?=some (D0 s.pos):=rfl
theorem rV:sub 0 2 (Pi s)=Pi s:=rfl
theorem vN:sub 0 3 (cC c)=cT c.start:=rfl
theorem Ae3:(cC c)[3]?=some (Cq c.steps):=rfl
theorem zb:sub 0 4 (cC c)=cC c:=rfl
theorem Ac6:(pr e)[0]?=some (.int .i64 e.src):=rfl
theorem Adk:(pr e)[1]?=some (.int .i64 e.dst):=rfl
theorem sQ:sub 2 2 (pr e)=Pi e.step:=rfl
theorem rQ:sub 0 4 (pr e)=pr e:=rfl
theorem AeD:(cG g)[0]?=some (Bk g.terms):=rfl
theorem Aer:(cG g)[1]?=some (uf g.edges):=rfl
theorem AeJ:(cG g)[2]?=some (.bool g.whole):=rfl
theorem vW:sub 0 3 (cG g)=cG g:=rfl
theorem xm:sub 0 4 (cL l)=cC l.chain:=rfl
theorem xJ:sub 0 3 (cL l)=cT l.chain.start:=rfl
theorem Ael:(cL l)[3]?=some (Cq l.chain.steps):=rfl
theorem Ae0:(cL l)[4]?=some (D0 l.pos):=rfl
theorem AeL:(cL l)[5]?=some (B5 l.subst):=rfl
theorem vV:sub 0 6 (cL l)=cL l:=rfl
theorem AeI:mM 0 none (Xp b)=some (.str b.name):=rfl
theorem Aej:mM 1 (some 3) (Xp b)=some (An b.term):=rfl
end
attribute [push_cast] qW Xl iV Aey vG AbT AaK Aci Acw yF Aa2 vx Ab5 Abu pL tq mN pX ox sj nB lv mc fN lL fh lU lO rR uk mS sX pb qF mP mC mK kf oe jL nt jI wv yM zh AeK yj vO Ad2 Ac3 rV vN Ae3 zb Ac6 Adk sQ rQ AeD Aer AeJ vW xm xJ Ael Ae0 AeL vV AeI Aej
def Mf {α:Type}(p:α->Bool):List α->Int
 | []=>-1
 | a::l=>if p a then 0 else if Mf p l<0 then -1 else Mf p l+1
theorem XK {α:Type}(p:α->Bool):∀ l:List α,(Mf p l=-1/\l.any p=false)\/(0<=Mf p l/\Mf p l<l.length/\l.any p=true)
 | []=>.inl ⟨rfl,rfl⟩
 | a::l=>by
  simp only[Mf,List.any_cons,List.length_cons]
  cases hp:p a with
  | true=>right;simp
  | false =>
   rcases XK p l with ⟨h1,h2⟩|⟨h1,h2,h3⟩
   ·left;simp[h1,h2]
   ·right;simp only[Bool.false_eq_true,if_false,h3];rw[if_neg (by omega)];simp;omega
theorem Lx {α:Type}(p:α->Bool)(l:List α):decide (0<=Mf p l)=l.any p:=by
 rcases XK p l with ⟨h1,h2⟩|⟨h1,h2,h3⟩
 ·rw[h1,h2];rfl
 ·rw[h3];simp[h1]
theorem HW {α:Type}[Inhabited α]{p:α->Bool}:∀ {l:List α} {k:Nat},k<l.length->p (l.getD k default)=true->(∀ j,j<k->p (l.getD j default)=false)->Mf p l=k
 | [],k,hk,_,_=>by simp at hk
 | a::l,0,hk,hp,_=>by simp only[Mf];rw[if_pos (by simpa using hp)];rfl
 | a::l,k+1,hk,hp,hq=>by
  have h0:p a=false:=hq 0 (by omega)
  have:=HW (l:=l) (k:=k) (by simpa using hk) (by simpa using hp) fun j hj=>by have:=hq (j+1) (by omega);simpa using this
  simp only[Mf,h0,Bool.false_eq_true,if_false,this]
  rw[if_neg (by omega)];omega
theorem HS {α:Type}[Inhabited α]{p:α->Bool}:∀ {l:List α},(∀ j,j<l.length->p (l.getD j default)=false)->Mf p l=-1
 | [],_=>rfl
 | a::l,hq=>by
  have h0:p a=false:=hq 0 (by simp)
  have:=HS (l:=l) fun j hj=>by have:=hq (j+1) (by simpa using hj);simpa using this
  simp[Mf,h0,this]
end Go.Dw
end
section
namespace Go.Dw
variable {s:List K} {B:Nat} {t:T} {H:List Ob} {Q:X->T->List Ob->Prop}
namespace Jf
def nd (_:Nat):C:=.skip
def body:C:=.R [.Z 3 A2 1,.mv 4 (.c (.bool false))] (.R [.A 10 0,.E 11 3 3,.U 12 Ht [.s 10,.s 11],.A 9 12,.F 13 9 0,.F 14 9 1,.al 5 A8 KZ,.L 5 4 13,.A 6 14] (.R [.A 16 0,.E 17 3 3,.U 18 RW [.s 16,.s 17],.A 15 18,.F 19 15 0,.F 20 15 1,.al 7 A8 KZ,.L 7 4 19,.A 8 20] (.R [.A 21 6,.A 22 8,.V 23 .eql 21 22,.A 24 23,.P 24 true [25,26,27] [.E 25 4 5,.E 26 4 7,.U 27 J8 [.s 25,.s 26]],.N 28 24 27,.A 29 28,.P 29 true [30] [.U 30 Qw []],.N 31 29 30,.A 4 31] (.ret))))
def rs:List RV:=[.t 4]
attribute [push_cast] nd body
theorem ok:Bh prog LL nd body 2 rs=true:=by kernel_rfl
end Jf
namespace Ex
def nd:Nat->C
 | 0=>.R [.A 17 0,.E 18 4 4,.E 19 4 5,.U 20 Bw [.s 17,.s 18,.s 19],.U 21 Mi [.s 20],.F 22 21 0,.F 23 21 1,.K 4 6 22,.A 7 23] (.ret)
 | _=>.skip
def body:C:=.R [.Z 4 A8 1,.Z 5 A8 2,.al 6 A8 KZ,.mv 7 (.i 0)] (.seq (.R [.A 9 0,.E 10 4 4,.E 11 4 5,.U 12 Kq [.s 9,.s 10,.s 11],.A 8 12] (.R [.A 13 8,.J 14 13] (.W 14 (.R [.bd 15 KZ [],.A 16 8,.K 4 6 15,.A 7 16] (.ret)) (.skip)))) (.n 0))
def rs:List RV:=[.a 6 4,.t 7]
attribute [push_cast] nd body
theorem ok:Bh prog EV nd body 3 rs=true:=by kernel_rfl
end Ex
namespace Uc
def nd (_:Nat):C:=.skip
def body:C:=.R [.mv 0 (.c (.bool false))] (.R [.bd 7 KZ [(1,1,(.c (.str [97])))],.bs 8 4 [.s 7],.bd 9 KZ [(0,1,(.i 1)),(3,1,(.s 8))],.al 1 A8 KZ,.L 1 4 9] (.R [.bd 10 KZ [(0,1,(.i 2))],.bs 11 4 [.s 10],.bd 12 KZ [(1,1,(.c (.str [102]))),(3,1,(.s 11))],.al 2 A8 KZ,.L 2 4 12] (.seq (.dr [0,1,2,3,4,5,6,7,8,9] [.U 14 KN [],.E 15 4 1,.E 16 4 2,.U 17 EV [.s 14,.s 15,.s 16],.A 13 17,.F 18 13 0,.F 19 13 1,.al 3 A8 KZ,.L 3 4 18,.A 4 19]) (.seq (.dr [0,1,2,3,4,5,6,7,8,9] [.U 21 KN [],.E 22 4 2,.E 23 4 1,.U 24 EV [.s 21,.s 22,.s 23],.A 20 24,.F 25 20 0,.F 26 20 1,.al 5 A8 KZ,.L 5 4 25,.A 6 26]) (.R [.A 27 4,.X 28 .eql 27 0,.A 29 28,.P 29 true [30,31] [.A 30 6,.X 31 .eql 30 0],.N 32 29 31,.A 33 32,.P 33 true [34,35,36,37,38] [.E 34 4 3,.bd 35 KZ [(1,1,(.c (.str [98])))],.bs 36 4 [.s 35],.bd 37 KZ [(0,1,(.i 1)),(3,1,(.s 36))],.U 38 J8 [.s 34,.s 37]],.N 39 33 38,.A 40 39,.P 40 true [41,42,43,44,45,46] [.E 41 4 5,.bd 42 KZ [(0,1,(.i 2))],.bd 43 KZ [(0,1,(.i 2))],.bs 44 4 [.s 42,.s 43],.bd 45 KZ [(1,1,(.c (.str [103]))),(3,1,(.s 44))],.U 46 J8 [.s 41,.s 45]],.N 47 40 46,.A 0 47] (.ret))))))
def rs:List RV:=[.t 0]
attribute [push_cast] nd body
theorem ok:Bh prog Qw nd body 0 rs=true:=by kernel_rfl
end Uc
namespace PR
def nd:Nat->C
 | 0=>.R [.mv 4 (.c (.bool true))] (.ret)
 | 1=>.gh [.ks 0 [2,3,36,37]] (.m 3)
 | 2=>.seq (.blk 1 (.R [.A 39 37,.A 5 39] (.seq (.dr [0,1,2,3,4,5,6,7,8,9,10,11] [.D 40 3 2,.B 41 40,.A 42 5,.G 43 4 41 42,.E 44 4 43,.D 45 3 3,.B 46 45,.A 47 5,.G 48 4 46 47,.E 49 4 48,.U 50 J8 [.s 44,.s 49],.Q 51 50]) (.W 51 (.R [.mv 4 (.c (.bool false))] (.ret)) (.skip))))) (.reg [.X 52 .add 37 1,.A 37 52])
 | 3=>.R [.V 38 .lss 37 36] (.seq (.W 38 (.skip) (.exit 0)) (.n 2))
 | 4=>.seq (.R [.D 34 3 2,.B 35 34,.Y 36 35,.mv 37 (.i 0)] (.J 0 1)) (.n 0)
 | _=>.skip
def body:C:=.R [.Z 2 A8 0,.Z 3 A8 1,.mv 4 (.c (.bool false))] (.seq (.R [.D 6 0 2,.B 7 6,.D 8 0 3,.B 9 8,.V 10 .neq 7 9,.A 11 10,.P 11 false [12,13,14,15,16] [.D 12 1 2,.B 13 12,.D 14 1 3,.B 15 14,.V 16 .neq 13 15],.M 17 11 16,.A 18 17,.P 18 false [19,20,21,22,23] [.D 19 2 2,.B 20 19,.D 21 2 3,.B 22 21,.bb 23 .neq (.s 20) (.s 22)],.M 24 18 23,.A 25 24,.P 25 false [26,27,28,29,30,31,32] [.D 26 3 2,.B 27 26,.Y 28 27,.D 29 3 3,.B 30 29,.Y 31 30,.V 32 .neq 28 31],.M 33 25 32] (.W 33 (.R [.mv 4 (.c (.bool false))] (.ret)) (.skip))) (.n 4))
def rs:List RV:=[.t 4]
attribute [push_cast] nd body
theorem ok:Bh prog J8 nd body 2 rs=true:=by kernel_rfl
abbrev L3 (a b c d:V)(B:Nat)(H:Di)(Q:QX):Prop:=Ax prog nd B (E1 3 1 0 0) [(2,a),(3,b),(36,c),(37,d)] H Q
end PR
namespace UU
def nd (_:Nat):C:=.skip
def body:C:=.R [.Z 2 A2 0,.Z 3 A2 1,.mv 4 (.c (.bool false))] (.R [.E 5 3 2,.E 6 3 3,.U 7 JD [.s 5,.s 6],.X 8 .eql 7 0,.A 4 8] (.ret))
def rs:List RV:=[.t 4]
attribute [push_cast] nd body
theorem ok:Bh prog Qy nd body 2 rs=true:=by kernel_rfl
end UU
namespace FU
def nd:Nat->C
 | 0=>.R [.A 28 0,.E 29 3 3,.A 30 8,.U 31 Oq [.s 28,.s 29,.s 30],.F 32 31 0,.F 33 31 1,.K 4 4 32,.A 5 33] (.ret)
 | 1=>.R [.A 21 0,.E 22 3 3,.U 23 MP [.s 21,.s 22],.A 8 23] (.seq (.R [.A 24 8,.Y 25 24,.X 26 .gtr 25 4096] (.W 26 (.R [.bd 27 KZ [],.K 4 4 27,.mv 5 (.i 3)] (.ret)) (.skip))) (.n 0))
 | 2=>.seq (.R [.E 15 3 3,.U 16 KS [.s 15],.A 7 16] (.R [.A 17 7,.J 18 17] (.W 18 (.R [.bd 19 KZ [],.A 20 7,.K 4 4 19,.A 5 20] (.ret)) (.skip)))) (.n 1)
 | _=>.skip
def body:C:=.R [.Z 3 A2 1,.al 4 A8 KZ,.mv 5 (.i 0)] (.seq (.R [.A 9 0,.U 10 GT [.s 9],.A 6 10] (.R [.A 11 6,.J 12 11] (.W 12 (.R [.bd 13 KZ [],.A 14 6,.K 4 4 13,.A 5 14] (.ret)) (.skip)))) (.n 2))
def rs:List RV:=[.a 4 4,.t 5]
attribute [push_cast] nd body
theorem ok:Bh prog Ht nd body 2 rs=true:=by kernel_rfl
end FU
namespace Nk
def nd:Nat->C
 | 0=>.R [.A 26 0,.E 27 3 3,.U 28 Mc [.s 26,.s 27],.K 4 4 28,.mv 5 (.i 0)] (.ret)
 | 1=>.seq (.R [.A 20 0,.E 21 3 3,.U 22 MZ [.s 20,.s 21,(.i 1)],.Y 23 22,.X 24 .gtr 23 4096] (.W 24 (.R [.bd 25 KZ [],.K 4 4 25,.mv 5 (.i 3)] (.ret)) (.skip))) (.n 0)
 | 2=>.seq (.R [.E 14 3 3,.U 15 Ms [.s 14],.A 7 15] (.R [.A 16 7,.J 17 16] (.W 17 (.R [.bd 18 KZ [],.A 19 7,.K 4 4 18,.A 5 19] (.ret)) (.skip)))) (.n 1)
 | _=>.skip
def body:C:=.R [.Z 3 A2 1,.al 4 A8 KZ,.mv 5 (.i 0)] (.seq (.R [.A 8 0,.U 9 IN [.s 8],.A 6 9] (.R [.A 10 6,.J 11 10] (.W 11 (.R [.bd 12 KZ [],.A 13 6,.K 4 4 12,.A 5 13] (.ret)) (.skip)))) (.n 2))
def rs:List RV:=[.a 4 4,.t 5]
attribute [push_cast] nd body
theorem ok:Bh prog RW nd body 2 rs=true:=by kernel_rfl
end Nk
namespace EH
def nd:Nat->C
 | 0=>.R [.A 43 10,.A 6 43] (.ret)
 | 1=>.R [.A 29 0,.E 30 4 5,.U 31 Hw [.s 29,.s 30],.A 28 31,.F 32 28 0,.F 33 28 1,.F 34 28 2,.al 11 A2 CR,.al 12 A2 CR,.L 11 3 32,.L 12 3 33,.A 10 34] (.seq (.R [.A 35 10,.X 36 .eql 35 0,.A 37 36,.P 37 true [38,39,40,41] [.E 38 3 8,.E 39 3 11,.U 40 GS [.s 38,.s 39],.Q 41 40],.N 42 37 41] (.W 42 (.R [.mv 6 (.i 9)] (.ret)) (.skip))) (.n 0))
 | 2=>.R [.A 19 0,.E 20 4 4,.U 21 Hw [.s 19,.s 20],.A 18 21,.F 22 18 0,.F 23 18 1,.F 24 18 2,.al 8 A2 CR,.al 9 A2 CR,.L 8 3 22,.L 9 3 23,.A 10 24] (.seq (.R [.A 25 10,.J 26 25] (.W 26 (.R [.A 27 10,.A 6 27] (.ret)) (.skip))) (.n 1))
 | _=>.skip
def body:C:=.R [.Z 4 A8 1,.Z 5 A8 2,.mv 6 (.i 0)] (.seq (.R [.A 13 0,.U 14 GT [.s 13],.A 7 14] (.R [.A 15 7,.J 16 15] (.W 16 (.R [.A 17 7,.A 6 17] (.ret)) (.skip)))) (.n 2))
def rs:List RV:=[.t 6]
attribute [push_cast] nd body
theorem ok:Bh prog Kq nd body 3 rs=true:=by kernel_rfl
end EH
namespace NB
def nd:Nat->C
 | 0=>.R [.E 13 4 1,.U 14 Mn [.s 13],.K 4 2 14,.mv 3 (.i 0)] (.ret)
 | _=>.skip
def body:C:=.R [.Z 1 A8 0,.al 2 A8 KZ,.mv 3 (.i 0)] (.seq (.R [.E 4 4 1,.U 5 Is [.s 4],.X 6 .gtr 5 4000,.A 7 6,.P 7 false [8,9,10] [.E 8 4 1,.U 9 Hk [.s 8],.X 10 .gtr 9 200],.M 11 7 10] (.W 11 (.R [.bd 12 KZ [],.K 4 2 12,.mv 3 (.i 3)] (.ret)) (.skip))) (.n 0))
def rs:List RV:=[.a 2 4,.t 3]
attribute [push_cast] nd body
theorem ok:Bh prog Mi nd body 1 rs=true:=by kernel_rfl
end NB
namespace EK
def nd:Nat->C
 | 0=>.seq (.dr [0,1,2,3,4,5,6,7,8,9,10,11,12,13,14,15,16] [.B 39 3,.A 40 7,.X 41 .sub 40 1,.G 42 6 39 41,.D 43 3 42,.E 44 3 43,.B 45 3,.A 46 7,.X 47 .sub 46 1,.G 48 6 45 47,.D 49 0 48,.E 50 3 49,.bs 51 3 [.s 50],.U 52 CN [.s 51],.A 53 10,.U 54 KC [.s 44,.s 52,.s 53],.K 4 6 54]) (.ret)
 | _=>.skip
def body:C:=.R [.Z 3 PH 0,.Z 4 A8 1,.Z 5 A8 2,.al 6 A8 KZ] (.R [.B 12 3,.E 13 4 4,.E 14 4 5,.U 15 GX [.s 12,.s 13,.s 14],.A 11 15,.F 16 11 0,.F 17 11 1,.F 18 11 2,.A 7 16,.A 8 17,.A 9 18] (.R [.A 19 8,.A 20 9,.mf 21 Ds [] [.s 3],.U 22 M3 [.s 19,.s 20,.s 21],.A 10 22] (.seq (.blk 0 (.R [.A 24 7,.X 25 .eql 24 0,.A 23 25] (.W 23 (.R [.D 26 1 4,.B 27 26,.D 28 2 4,.B 29 28,.A 30 10,.bd 31 KZ [(1,1,(.s 27)),(2,1,(.s 29)),(3,1,(.s 30))],.K 4 6 31] (.ret)) (.R [.D 33 0 5,.B 34 33,.X 35 .eql 34 0,.A 32 35] (.W 32 (.R [.A 36 7,.A 37 10,.bd 38 KZ [(0,1,(.s 36)),(3,1,(.s 37))],.K 4 6 38] (.ret)) (.skip)))))) (.n 0))))
def rs:List RV:=[.a 6 4]
attribute [push_cast] nd body
theorem ok:Bh prog Bw nd body 3 rs=true:=by kernel_rfl
end EK
namespace Sw
def nd (_:Nat):C:=.skip
def body:C:=.R [.mv 0 (.c (.sl 6 []))] (.R [.bd 2 CR [(0,1,(.c (.str [120]))),(1,1,(.c (.bool true)))],.al 1 A2 CR,.L 1 3 2] (.R [.E 3 3 1,.bs 4 3 [.s 3],.bd 5 CR [(0,1,(.c (.str [102]))),(2,1,(.s 4))],.E 6 3 1,.E 7 3 1,.bs 8 3 [.s 6,.s 7],.bd 9 CR [(0,1,(.c (.str [103]))),(2,1,(.s 8))],.bd 10 [.str [],.bool false,.sl 3 [],.str [],.bool false,.sl 3 []] [(0,3,(.s 5)),(3,3,(.s 9))],.bd 11 CR [(0,1,(.c (.str [97])))],.bd 12 CR [(0,1,(.c (.str [98])))],.bd 13 [.str [],.bool false,.sl 3 [],.str [],.bool false,.sl 3 []] [(0,3,(.s 11)),(3,3,(.s 12))],.bs 14 6 [.s 10,.s 13],.A 0 14] (.ret)))
def rs:List RV:=[.t 0]
attribute [push_cast] nd body
theorem ok:Bh prog KN nd body 0 rs=true:=by kernel_rfl
end Sw
namespace O5
def nd (_:Nat):C:=.skip
def body:C:=.R [.Z 3 A8 1,.al 4 A2 CR,.mv 5 (.i 0)] (.R [.A 6 0,.E 7 4 3,.U 8 Mw [.s 6,.s 7,(.f GN)],.F 9 8 0,.F 10 8 1,.K 3 4 9,.A 5 10] (.ret))
def rs:List RV:=[.a 4 3,.t 5]
attribute [push_cast] nd body
theorem ok:Bh prog LV nd body 2 rs=true:=by kernel_rfl
end O5
namespace Oa
def nd (_:Nat):C:=.skip
def body:C:=.R [.Z 3 A8 1,.al 4 A2 CR,.mv 5 (.i 0)] (.R [.A 6 0,.E 7 4 3,.U 8 Mw [.s 6,.s 7,(.f GV)],.F 9 8 0,.F 10 8 1,.K 3 4 9,.A 5 10] (.ret))
def rs:List RV:=[.a 4 3,.t 5]
attribute [push_cast] nd body
theorem ok:Bh prog LC nd body 2 rs=true:=by kernel_rfl
end Oa
namespace EB
def nd:Nat->C
 | 0=>.R [.mv 4 (.i 0)] (.ret)
 | 1=>.gh [.ks 0 [2,3,36,37]] (.m 3)
 | 2=>.seq (.blk 1 (.R [.A 39 37,.A 7 39] (.seq (.dr [0,1,2,3,4,5,6,7,8,9,10,11] [.D 40 2 2,.B 41 40,.A 42 7,.G 43 3 41 42,.E 44 3 43,.D 45 2 3,.B 46 45,.A 47 7,.G 48 3 46 47,.E 49 3 48,.U 50 JD [.s 44,.s 49],.A 8 50]) (.R [.A 51 8,.J 52 51] (.W 52 (.R [.A 53 8,.A 4 53] (.ret)) (.skip)))))) (.reg [.X 54 .add 37 1,.A 37 54])
 | 3=>.R [.V 38 .lss 37 36] (.seq (.W 38 (.skip) (.exit 0)) (.n 2))
 | 4=>.seq (.R [.D 34 2 2,.B 35 34,.Y 36 35,.mv 37 (.i 0)] (.J 0 1)) (.n 0)
 | 5=>.seq (.R [.D 24 2 2,.B 25 24,.Y 26 25,.D 27 2 3,.B 28 27,.Y 29 28,.U 30 Eu [.s 26,.s 29],.A 6 30] (.R [.A 31 6,.J 32 31] (.W 32 (.R [.A 33 6,.A 4 33] (.ret)) (.skip)))) (.n 4)
 | 6=>.seq (.R [.D 16 0 2,.B 17 16,.D 18 0 3,.B 19 18,.U 20 Df [.s 17,.s 19],.A 5 20] (.R [.A 21 5,.J 22 21] (.W 22 (.R [.A 23 5,.A 4 23] (.ret)) (.skip)))) (.n 5)
 | 7=>.R [.mv 4 (.i 1)] (.ret)
 | _=>.skip
def body:C:=.R [.Z 2 A2 0,.Z 3 A2 1,.mv 4 (.i 0)] (.seq (.R [.D 9 1 2,.B 10 9,.D 11 1 3,.B 12 11,.bb 13 .neq (.s 10) (.s 12)] (.W 13 (.seq (.R [.D 14 1 2,.B 15 14] (.W 15 (.R [.mv 4 (.i (-1))] (.ret)) (.skip))) (.n 7)) (.skip))) (.n 6))
def rs:List RV:=[.t 4]
attribute [push_cast] nd body
theorem ok:Bh prog JD nd body 2 rs=true:=by kernel_rfl
abbrev L3 (a b c d:V)(B:Nat)(H:Di)(Q:QX):Prop:=Ax prog nd B (E1 3 1 0 0) [(2,a),(3,b),(36,c),(37,d)] H Q
end EB
namespace Gx
def nd:Nat->C
 | 0=>.R [.A 16 4,.A 2 16] (.ret)
 | _=>.skip
def body:C:=.R [.mv 2 (.i 0)] (.R [.A 6 0,.U 7 Gr [.s 6],.A 5 7,.F 8 5 0,.F 9 5 1,.A 3 8,.A 4 9] (.seq (.R [.A 10 4,.X 11 .eql 10 0,.A 12 11,.P 12 true [13,14] [.A 13 3,.Q 14 13],.N 15 12 14] (.W 15 (.R [.mv 2 (.i 2)] (.ret)) (.skip))) (.n 0)))
def rs:List RV:=[.t 2]
attribute [push_cast] nd body
theorem ok:Bh prog GT nd body 1 rs=true:=by kernel_rfl
end Gx
namespace Od
def nd (_:Nat):C:=.skip
def body:C:=.R [.Z 2 A2 0,.Z 3 A2 1,.mv 4 (.c (.bool false))] (.R [.D 5 0 2,.B 6 5,.D 7 0 3,.B 8 7,.V 9 .eql 6 8,.A 10 9,.P 10 true [11,12,13,14,15] [.D 11 1 2,.B 12 11,.D 13 1 3,.B 14 13,.bb 15 .eql (.s 12) (.s 14)],.N 16 10 15,.A 17 16,.P 17 true [18,19,20,21,22] [.D 18 2 2,.B 19 18,.D 20 2 3,.B 21 20,.U 22 BD [.s 19,.s 21,(.f GS)]],.N 23 17 22,.A 4 23] (.ret))
def rs:List RV:=[.t 4]
attribute [push_cast] nd body
theorem ok:Bh prog GS nd body 2 rs=true:=by kernel_rfl
end Od
namespace FO
def nd:Nat->C
 | 0=>.R [.A 16 4,.A 2 16] (.ret)
 | _=>.skip
def body:C:=.R [.mv 2 (.i 0)] (.R [.A 6 0,.U 7 Jl [.s 6],.A 5 7,.F 8 5 0,.F 9 5 1,.A 3 8,.A 4 9] (.seq (.R [.A 10 4,.X 11 .eql 10 0,.A 12 11,.P 12 true [13,14] [.A 13 3,.Q 14 13],.N 15 12 14] (.W 15 (.R [.mv 2 (.i 2)] (.ret)) (.skip))) (.n 0)))
def rs:List RV:=[.t 2]
attribute [push_cast] nd body
theorem ok:Bh prog IN nd body 1 rs=true:=by kernel_rfl
end FO
namespace Ov
def nd:Nat->C
 | 0=>.R [.mv 2 (.i 0)] (.ret)
 | _=>.skip
def body:C:=.R [.Z 1 A2 0,.mv 2 (.i 0)] (.seq (.blk 0 (.R [.E 4 3 1,.U 5 JI [.s 4],.Q 6 5,.A 3 6] (.W 3 (.R [.mv 2 (.i 4)] (.ret)) (.R [.E 8 3 1,.U 9 Mp [.s 8],.Q 10 9,.A 7 10] (.W 7 (.R [.mv 2 (.i 3)] (.ret)) (.skip)))))) (.n 0))
def rs:List RV:=[.t 2]
attribute [push_cast] nd body
theorem ok:Bh prog KS nd body 1 rs=true:=by kernel_rfl
end Ov
namespace Qs
def nd:Nat->C
 | 0=>.R [.B 18 5,.A 4 18] (.ret)
 | 1=>.blk 1 (.dr [0,1,2,3,4,5,6] [.B 12 5,.B 13 2,.A 14 6,.E 15 3 7,.U 16 OL [.s 13,.s 14,.s 15],.app 17 DN 2 32 (.s 12) (.s 16),.K 1 5 17])
 | _=>.skip
def body:C:=.R [.Z 2 PH 0,.Z 3 A2 1,.mv 4 (.c (.sl 2 []))] (.R [.al 5 ft [.nil],.ono DN 2 0 (.s 5)] (.seq (.R [.E 8 3 3,.U 9 EE [.s 8]] (.blk 0 (.rf (.s 9) [10,11] (.R [.A 6 10] (.reg [.al 7 A2 CR,.L 7 3 11])) (.m 1)))) (.n 0)))
def rs:List RV:=[.t 4]
attribute [push_cast] nd body
theorem ok:Bh prog MP nd body 2 rs=true:=by kernel_rfl
end Qs
namespace J5
def nd:Nat->C
 | 0=>.R [.E 40 4 11,.U 41 Mi [.s 40],.F 42 41 0,.F 43 41 1,.K 4 6 42,.A 7 43] (.ret)
 | 1=>.R [.A 32 8,.E 33 3 4,.call (some 34) Aj [.s 32,.s 33,(.c (.sl 1 []))],.al 11 A8 KZ,.L 11 4 34] (.seq (.R [.A 35 8,.nc 36 (.s 35),.D 37 2 36,.B 38 37] (.W 38 (.R [.bd 39 KZ [],.K 4 6 39,.mv 7 (.i 9)] (.ret)) (.skip))) (.n 0))
 | 2=>.gh [.ks 2 [2,4,6,8,16,17,18]] (.m 4)
 | 3=>.seq (.blk 1 (.R [.A 20 18,.G 21 2 16 18,.E 22 2 21,.al 10 DN [.int .i64 0,.sl 1 []],.A 9 20,.L 10 2 22] (.R [.A 23 2,.A 24 9,.sx 25 2 (.s 23) none (some (.s 24)),.mf 26 Iv [] [.s 10],.U 27 CH [.s 25,.s 26]] (.W 27 (.reg [.A 28 8,.nc 29 (.s 28),.D 30 2 29,.st 1 (.s 30) (.c (.bool true))]) (.skip))))) (.reg [.X 31 .add 18 1,.A 18 31])
 | 4=>.R [.V 19 .lss 18 17] (.seq (.W 19 (.skip) (.exit 0)) (.n 3))
 | _=>.skip
def body:C:=.R [.Z 4 A2 1,.al 6 A8 KZ,.mv 7 (.i 0)] (.R [.A 12 0,.A 13 2,.bd 14 [.sl 6 [],.sl 2 [],.bool false] [(0,1,(.s 12)),(1,1,(.s 13))],.bx 15 AW (.s 14),.A 8 15] (.seq (.R [.A 16 2,.Y 17 16,.mv 18 (.i 0)] (.J 0 2)) (.n 1)))
def rs:List RV:=[.a 6 4,.t 7]
attribute [push_cast] nd body
theorem ok:Bh prog Oq nd body 3 rs=true:=by kernel_rfl
abbrev L4 (a b c d e f g:V)(B:Nat)(H:Di)(Q:QX):Prop:=Ax prog nd B (E1 4 2 0 1) [(2,a),(4,b),(6,c),(8,d),(16,e),(17,f),(18,g)] H Q
end J5
namespace KY
def nd:Nat->C
 | 0=>.R [.mv 2 (.i 0)] (.ret)
 | 1=>.seq (.R [.E 6 3 1,.U 7 Jq [.s 6],.X 8 .gtr 7 4000,.A 9 8,.P 9 false [10,11,12] [.E 10 3 1,.U 11 HY [.s 10],.X 12 .gtr 11 200],.M 13 9 12] (.W 13 (.R [.mv 2 (.i 3)] (.ret)) (.skip))) (.n 0)
 | _=>.skip
def body:C:=.R [.Z 1 A2 0,.mv 2 (.i 0)] (.seq (.R [.E 3 3 1,.U 4 KR [.s 3],.Q 5 4] (.W 5 (.R [.mv 2 (.i 4)] (.ret)) (.skip))) (.n 1))
def rs:List RV:=[.t 2]
attribute [push_cast] nd body
theorem ok:Bh prog Ms nd body 1 rs=true:=by kernel_rfl
end KY
namespace K1
def nd:Nat->C
 | 0=>.R [.A 63 8,.A 6 63] (.ret)
 | 1=>.gh [.ks 1 [2,7,8,15,16,17]] (.m 7)
 | 2=>.R [.A 57 11] (.W 57 (.reg [.A 58 8,.E 59 2 10,.bs 60 2 [.s 59],.app 61 DN 2 32 (.s 58) (.s 60),.A 8 61]) (.skip))
 | 3=>.seq (.seq (.dr [0,1,2,3,4,5,6,7,8,9,10,11,12,13,14,15,16,17,18,19,20] [.A 36 2,.X 37 .eql 36 4,.A 38 37,.P 38 false [39] [.A 39 2],.P 38 false [40] [.X 40 .eql 39 5],.M 41 38 40,.A 42 41,.P 42 true [43] [.A 43 8],.P 42 true [44] [.Y 44 43],.P 42 true [45] [.X 45 .gtr 44 0],.N 46 42 45,.A 47 46,.P 47 true [48] [.A 48 8],.P 47 true [49] [.ia 49 2 (.s 48) (.i 0)],.P 47 true [50] [.D 50 1 49],.P 47 true [51] [.B 51 50],.P 47 true [52] [.D 52 1 10],.P 47 true [53] [.B 53 52],.P 47 true [54] [.U 54 Zm [.s 51,.s 53]],.P 47 true [55] [.Q 55 54],.N 56 47 55]) (.W 56 (.reg [.mv 11 (.c (.bool false))]) (.skip))) (.n 2)
 | 4=>.W 29 (.reg [.A 32 7,.D 33 1 10,.B 34 33,.U 35 fo [.s 32,.s 34],.A 11 35]) (.skip)
 | 5=>.W 22 (.reg [.A 25 7,.D 26 1 10,.B 27 26,.U 28 fY [.s 25,.s 27],.A 11 28]) (.seq (.R [.X 30 .eql 21 3,.A 29 30] (.W 29 (.skip) (.reg [.X 31 .eql 21 5,.A 29 31]))) (.n 4))
 | 6=>.seq (.blk 1 (.R [.G 19 2 15 17,.E 20 2 19,.al 10 DN [.int .i64 0,.sl 1 []],.L 10 2 20] (.R [.mv 11 (.c (.bool true))] (.seq (.R [.A 21 2] (.blk 2 (.seq (.R [.X 23 .eql 21 2,.A 22 23] (.W 22 (.skip) (.reg [.X 24 .eql 21 4,.A 22 24]))) (.n 5)))) (.n 3))))) (.reg [.X 62 .add 17 1,.A 17 62])
 | 7=>.R [.V 18 .lss 17 16] (.seq (.W 18 (.skip) (.exit 0)) (.n 6))
 | _=>.skip
def body:C:=.R [.Z 4 A2 1,.mv 6 (.c (.sl 2 []))] (.R [.A 12 0,.E 13 3 4,.U 14 UQ [.s 12,.s 13],.A 7 14] (.R [.mv 8 (.c .nil),.non 8 DN 2] (.seq (.R [.A 15 7,.Y 16 15,.mv 17 (.i 0)] (.J 0 1)) (.n 0))))
def rs:List RV:=[.t 6]
attribute [push_cast] nd body
theorem ok:Bh prog MZ nd body 3 rs=true:=by kernel_rfl
abbrev L7 (a b c d e f:V)(B:Nat)(H:Di)(Q:QX):Prop:=Ax prog nd B (E1 7 1 0 0) [(2,a),(7,b),(8,c),(15,d),(16,e),(17,f)] H Q
end K1
namespace K8
def nd:Nat->C
 | 0=>.R [.E 70 4 11,.K 4 4 70] (.ret)
 | 1=>.gh [.ks 3 [0,4,11,55,56,57]] (.m 3)
 | 2=>.seq (.blk 3 (.R [.G 59 3 55 57,.E 60 3 59,.al 13 A2 CR,.L 13 3 60] (.dr [0,1,2,3,4,5,6,7,8] [.D 61 3 11,.B 62 61,.A 63 0,.E 64 3 13,.U 65 Mc [.s 63,.s 64],.bs 66 4 [.s 65],.app 67 A8 4 56 (.s 62) (.s 66),.D 68 3 11,.K 1 68 67]))) (.reg [.X 69 .add 57 1,.A 57 69])
 | 3=>.R [.V 58 .lss 57 56] (.seq (.W 58 (.skip) (.exit 2)) (.n 2))
 | 4=>.R [.D 49 0 3,.B 50 49,.D 51 1 3,.B 52 51,.bd 53 [.int .i64 0,.str [],.bool false,.nil] [(1,1,(.s 50)),(2,1,(.s 52))],.al 11 A8 [.int .i64 0,.str [],.bool false,.nil],.K 4 11 53,.ono A8 4 3 (.s 11)] (.seq (.R [.D 54 2 3,.B 55 54,.Y 56 55,.mv 57 (.i 0)] (.J 2 1)) (.n 0))
 | 5=>.R [.E 48 4 8,.K 4 4 48] (.ret)
 | 6=>.gh [.ks 3 [0,4,8,32,33,34]] (.m 8)
 | 7=>.seq (.blk 1 (.R [.G 36 4 32 34,.E 37 4 36,.al 10 Cg [.str [],.str [],.bool false,.sl 3 []],.L 10 4 37] (.dr [0,1,2,3,4,5,6,7,8,9] [.D 38 3 8,.B 39 38,.A 40 0,.D 41 1 10,.E 42 3 41,.U 43 Mc [.s 40,.s 42],.bs 44 4 [.s 43],.app 45 A8 4 56 (.s 39) (.s 44),.D 46 3 8,.K 1 46 45]))) (.reg [.X 47 .add 34 1,.A 34 47])
 | 8=>.R [.V 35 .lss 34 33] (.seq (.W 35 (.skip) (.exit 0)) (.n 7))
 | _=>.skip
def body:C:=.R [.Z 3 A2 1,.al 4 A8 KZ] (.seq (.R [.A 14 0,.E 15 3 3,.U 16 Q6 [.s 14,.s 15],.A 5 16] (.R [.A 17 5,.X 18 .geq 17 0] (.W 18 (.seq (.dr [0,1,2,3,4,5,6,7,8,9,10,11] [.A 20 0,.A 21 5,.G 22 6 20 21,.D 23 0 22,.E 24 3 23,.E 25 3 3,.U 26 GF [.s 24,.s 25],.A 19 26,.F 27 19 0,.F 28 19 1,.A 6 27,.A 7 28]) (.R [.A 29 5,.X 30 .add 29 1,.bd 31 [.int .i64 0,.str [],.bool false,.nil] [(0,1,(.s 30))],.al 8 A8 [.int .i64 0,.str [],.bool false,.nil],.K 4 8 31,.ono A8 4 3 (.s 8)] (.seq (.R [.A 32 6,.Y 33 32,.mv 34 (.i 0)] (.J 0 6)) (.n 5)))) (.skip)))) (.n 4))
def rs:List RV:=[.a 4 4]
attribute [push_cast] nd body
theorem ok:Bh prog Mc nd body 2 rs=true:=by kernel_rfl
abbrev L3 (a b c d e f:V)(B:Nat)(H:Di)(Q:QX):Prop:=Ax prog nd B (E1 3 1 2 0) [(0,a),(4,b),(11,c),(55,d),(56,e),(57,f)] H Q
abbrev L8 (a b c d e f:V)(B:Nat)(H:Di)(Q:QX):Prop:=Ax prog nd B [.c (.m 8),.c (.loop (.n 6)),.mk 0,.c (.n 5),.c (.n 4)] [(0,a),(4,b),(8,c),(32,d),(33,e),(34,f)] H Q
end K8
end Go.Dw
end
section
namespace Go.Dw
variable {s:List K} {B:Nat} {t:T} {H:List Ob} {Q:X->T->List Ob->Prop}
namespace CL
def nd (_:Nat):C:=.skip
def body:C:=.R [.mv 4 (.c (.bool false))] (.R [.A 5 0,.A 6 1,.U 7 CO [.s 5,.s 6],.X 8 .geq 7 0,.A 4 8] (.ret))
def rs:List RV:=[.t 4]
attribute [push_cast] nd body
theorem ok:Bh prog Cm nd body 2 rs=true:=by kernel_rfl
end CL
namespace Jz
def nd:Nat->C
 | 0=>.R [.A 22 0,.E 23 4 3,.U 24 LC [.s 22,.s 23],.A 21 24,.F 25 21 0,.F 26 21 1,.al 9 A2 CR,.L 9 3 25,.A 8 26] (.seq (.dr [0,1,2,3,4,5] [.lar 27 3 (.s 7),.lar 28 3 (.s 9),.A 29 8,.K 3 4 27,.K 3 5 28,.A 6 29]) (.ret))
 | _=>.skip
def body:C:=.R [.Z 3 A8 1,.al 4 A2 CR,.al 5 A2 CR,.mv 6 (.i 0)] (.R [.A 11 0,.E 12 4 3,.U 13 LV [.s 11,.s 12],.A 10 13,.F 14 10 0,.F 15 10 1,.al 7 A2 CR,.L 7 3 14,.A 8 15] (.seq (.R [.A 16 8,.J 17 16] (.W 17 (.seq (.dr [0,1,2,3,4,5] [.lar 18 3 (.s 7),.lar 19 3 (.s 7),.A 20 8,.K 3 4 18,.K 3 5 19,.A 6 20]) (.ret)) (.skip))) (.n 0)))
def rs:List RV:=[.a 4 3,.a 5 3,.t 6]
attribute [push_cast] nd body
theorem ok:Bh prog Hw nd body 2 rs=true:=by kernel_rfl
end Jz
namespace Js
def nd:Nat->C
 | 0=>.R [.A 20 3,.A 2 20] (.ret)
 | 1=>.gh [.ks 0 [3,7,8,9]] (.m 3)
 | 2=>.seq (.blk 1 (.R [.G 11 4 7 9,.E 12 4 11,.al 5 A8 KZ,.L 5 4 12] (.R [.A 13 3,.E 14 4 5,.U 15 Is [.s 14],.V 16 .add 13 15,.A 3 16] (.R [.A 17 3,.X 18 .gtr 17 4000] (.W 18 (.exit 0) (.skip)))))) (.reg [.X 19 .add 9 1,.A 9 19])
 | 3=>.R [.V 10 .lss 9 8] (.seq (.W 10 (.skip) (.exit 0)) (.n 2))
 | _=>.skip
def body:C:=.R [.Z 1 A8 0,.mv 2 (.i 0)] (.R [.mv 3 (.i 1)] (.seq (.R [.D 6 3 1,.B 7 6,.Y 8 7,.mv 9 (.i 0)] (.J 0 1)) (.n 0)))
def rs:List RV:=[.t 2]
attribute [push_cast] nd body
theorem ok:Bh prog Is nd body 1 rs=true:=by kernel_rfl
abbrev L3 (a b c d:V)(B:Nat)(H:Di)(Q:QX):Prop:=Ax prog nd B (E1 3 1 0 0) [(3,a),(7,b),(8,c),(9,d)] H Q
end Js
namespace Mx
def nd:Nat->C
 | 0=>.R [.A 18 3,.X 19 .add 18 1,.A 2 19] (.ret)
 | 1=>.gh [.ks 0 [3,7,8,9]] (.m 3)
 | 2=>.seq (.blk 1 (.R [.G 11 4 7 9,.E 12 4 11,.al 5 A8 KZ,.L 5 4 12] (.reg [.A 13 3,.E 14 4 5,.U 15 Hk [.s 14],.mx 16 (.s 13) (.s 15),.A 3 16]))) (.reg [.X 17 .add 9 1,.A 9 17])
 | 3=>.R [.V 10 .lss 9 8] (.seq (.W 10 (.skip) (.exit 0)) (.n 2))
 | _=>.skip
def body:C:=.R [.Z 1 A8 0,.mv 2 (.i 0)] (.R [.mv 3 (.i 0)] (.seq (.R [.D 6 3 1,.B 7 6,.Y 8 7,.mv 9 (.i 0)] (.J 0 1)) (.n 0)))
def rs:List RV:=[.t 2]
attribute [push_cast] nd body
theorem ok:Bh prog Hk nd body 1 rs=true:=by kernel_rfl
abbrev L3 (a b c d:V)(B:Nat)(H:Di)(Q:QX):Prop:=Ax prog nd B (E1 3 1 0 0) [(3,a),(7,b),(8,c),(9,d)] H Q
end Mx
namespace R4
def nd:Nat->C
 | 0=>.R [.E 23 4 1,.K 4 2 23] (.ret)
 | 1=>.gh [.ks 3 [1,2,9,10,11]] (.m 3)
 | 2=>.seq (.blk 1 (.R [.G 13 4 9 11,.E 14 4 13,.al 5 A8 KZ,.L 5 4 14] (.dr [0,1,2,3,4,5,6,7] [.D 15 3 1,.B 16 15,.E 17 4 5,.U 18 Mn [.s 17],.bs 19 4 [.s 18],.app 20 A8 4 56 (.s 16) (.s 19),.D 21 3 1,.K 1 21 20]))) (.reg [.X 22 .add 11 1,.A 11 22])
 | 3=>.R [.V 12 .lss 11 10] (.seq (.W 12 (.skip) (.exit 0)) (.n 2))
 | _=>.skip
def body:C:=.R [.bx 1 A8 (.s 0),.al 2 A8 KZ] (.R [.D 6 3 1,.B 7 6,.A 3 7] (.R [.D 8 3 1,.st 1 (.s 8) (.c .nil),.ono A8 4 0 (.s 8)] (.seq (.R [.A 9 3,.Y 10 9,.mv 11 (.i 0)] (.J 0 1)) (.n 0))))
def rs:List RV:=[.a 2 4]
attribute [push_cast] nd body
theorem ok:Bh prog Mn nd body 1 rs=true:=by kernel_rfl
abbrev L3 (a b c d e:V)(B:Nat)(H:Di)(Q:QX):Prop:=Ax prog nd B (E1 3 1 0 0) [(1,a),(2,b),(9,c),(10,d),(11,e)] H Q
end R4
namespace Gt
def nd (_:Nat):C:=.skip
def body:C:=.R [.Z 3 PH 0,.Z 4 A8 1,.Z 5 A8 2,.mv 6 (.i 0),.mv 7 (.c (.sl 4 [])),.mv 8 (.c (.sl 4 []))] (.R [.D 11 0 4,.B 12 11,.D 13 0 5,.B 14 13,.mx 15 (.s 12) (.s 14),.al 9 t_int [.int .i64 0],.L 9 1 15] (.R [.mf 16 Fz [] [.s 9,.s 3],.A 10 16] (.seq (.dr [0,1,2,3,4,5,6,7,8,9] [.B 17 9,.A 18 10,.E 19 4 4,.callvp (some 20) (.s 18) [.s 19],.A 21 10,.E 22 4 5,.callvp (some 23) (.s 21) [.s 22],.A 6 17,.A 7 20,.A 8 23]) (.ret))))
def rs:List RV:=[.t 6,.t 7,.t 8]
attribute [push_cast] nd body
theorem ok:Bh prog GX nd body 3 rs=true:=by kernel_rfl
end Gt
namespace IJ
def nd:Nat->C
 | 0=>.R [.frz 7,.A 31 7,.A 6 31] (.ret)
 | 1=>.gh [.ks 1 [0,1,2,7,13,14]] (.m 3)
 | 2=>.seq (.blk 1 (.R [.A 16 14,.A 8 16] (.dr [0,1,2,3,4,5,6,7,8,9,10,11,12,13] [.A 17 7,.A 18 8,.A 19 2,.A 20 0,.A 21 8,.G 22 4 20 21,.E 23 4 22,.A 24 1,.A 25 8,.G 26 4 24 25,.E 27 4 26,.callvp (some 28) (.s 19) [.s 23,.s 27],.G 29 4 17 18,.K 4 29 28]))) (.reg [.X 30 .add 14 1,.A 14 30])
 | 3=>.R [.V 15 .lss 14 13] (.seq (.W 15 (.skip) (.exit 0)) (.n 2))
 | _=>.skip
def body:C:=.R [.mv 6 (.c (.sl 4 []))] (.R [.A 9 0,.Y 10 9,.mk 11 A8 4 56 [.int .i64 0,.str [],.bool false,.sl 4 []] (.s 10),.A 7 11] (.seq (.R [.A 12 0,.Y 13 12,.mv 14 (.i 0)] (.J 0 1)) (.n 0)))
def rs:List RV:=[.t 6]
attribute [push_cast] nd body
theorem ok:Bh prog M3 nd body 3 rs=true:=by kernel_rfl
abbrev L3 (a b c d e f:V)(B:Nat)(H:Di)(Q:QX):Prop:=Ax prog nd B (E1 3 1 0 0) [(0,a),(1,b),(2,c),(7,d),(13,e),(14,f)] H Q
end IJ
namespace Kk
def nd (_:Nat):C:=.skip
def body:C:=.R [.Z 3 A8 0,.Z 4 A8 1,.al 5 A8 KZ] (.R [.B 6 2,.E 7 4 3,.E 8 4 4,.U 9 Bw [.s 6,.s 7,.s 8],.K 4 5 9] (.ret))
def rs:List RV:=[.a 5 4]
attribute [push_cast] nd body
theorem ok:Bh prog Ds nd body 3 rs=true:=by kernel_rfl
end Kk
namespace LT
def nd:Nat->C
 | 0=>.R [.E 39 4 7,.K 4 6 39] (.ret)
 | 1=>.gh [.ks 3 [1,2,6,7,23,24,25]] (.m 3)
 | 2=>.seq (.blk 1 (.R [.G 27 3 23 25,.E 28 3 27,.al 9 A2 CR,.L 9 3 28] (.dr [0,1,2,3,4,5,6,7,8,9] [.D 29 3 7,.B 30 29,.E 31 3 9,.A 32 1,.A 33 2,.U 34 KC [.s 31,.s 32,.s 33],.bs 35 4 [.s 34],.app 36 A8 4 56 (.s 30) (.s 35),.D 37 3 7,.K 1 37 36]))) (.reg [.X 38 .add 25 1,.A 25 38])
 | 3=>.R [.V 26 .lss 25 24] (.seq (.W 26 (.skip) (.exit 0)) (.n 2))
 | 4=>.R [.D 19 0 3,.B 20 19,.bd 21 [.int .i64 0,.str [],.bool false,.nil] [(1,1,(.s 20))],.al 7 A8 [.int .i64 0,.str [],.bool false,.nil],.K 4 7 21,.ono A8 4 3 (.s 7)] (.seq (.R [.D 22 2 3,.B 23 22,.Y 24 23,.mv 25 (.i 0)] (.J 0 1)) (.n 0))
 | _=>.skip
def body:C:=.R [.Z 3 A2 0,.al 6 A8 KZ] (.seq (.R [.D 10 1 3,.B 11 10] (.W 11 (.R [.A 12 2,.A 13 1,.D 14 0 3,.B 15 14,.U 16 AU [.s 13,.s 15],.G 17 4 12 16,.E 18 4 17,.K 4 6 18] (.ret)) (.skip))) (.n 4))
def rs:List RV:=[.a 6 4]
attribute [push_cast] nd body
theorem ok:Bh prog KC nd body 3 rs=true:=by kernel_rfl
abbrev L3 (a b c d e f g:V)(B:Nat)(H:Di)(Q:QX):Prop:=Ax prog nd B (E1 3 1 0 0) [(1,a),(2,b),(6,c),(7,d),(23,e),(24,f),(25,g)] H Q
end LT
namespace GD
def nd:Nat->C
 | 0=>.R [.A 37 8,.call (some 38) n_slices_Sort_s_string_string [.s 37],.frz 8] (.R [.A 39 8,.A 2 39] (.ret))
 | 1=>.gh [.ks 4 [8,28]] (.m 3)
 | 2=>.blk 5 (.R [.en 31 (.s 28),.F 32 31 0,.A 9 32] (.reg [.A 33 8,.A 34 9,.bs 35 1 [.s 34],.apr 36 C5 1 16 (.s 33) (.s 35),.A 8 36]))
 | 3=>.R [.nx 29 (.s 28),.F 30 29 0] (.seq (.W 30 (.skip) (.exit 4)) (.n 2))
 | 4=>.R [.mv 8 (.c .nil),.rnon 8 C5 1] (.seq (.R [.B 27 3,.rg 28 (.s 27)] (.J 4 1)) (.n 0))
 | 5=>.gh [.ks 2 [3,7,11,12,13]] (.m 8)
 | 6=>.blk 3 (.R [.D 21 1 7,.B 22 21] (.W 22 (.reg [.B 23 3,.D 24 0 7,.B 25 24,.mup true (.s 23) (.s 25) (.c (.bool true))]) (.skip)))
 | 7=>.seq (.blk 1 (.R [.G 15 3 11 13,.E 16 3 15,.al 5 A2 CR,.L 5 3 16] (.R [.E 17 3 5,.U 18 EE [.s 17]] (.blk 2 (.rf (.s 18) [19,20] (.reg [.al 7 A2 CR,.L 7 3 20]) (.m 6)))))) (.reg [.X 26 .add 13 1,.A 13 26])
 | 8=>.R [.V 14 .lss 13 12] (.seq (.W 14 (.skip) (.exit 0)) (.n 7))
 | _=>.skip
def body:C:=.R [.mv 2 (.c (.sl 1 []))] (.R [.mkm 10,.al 3 DB [.nilm],.K 1 3 10] (.seq (.R [.A 11 0,.Y 12 11,.mv 13 (.i 0)] (.J 0 5)) (.n 4)))
def rs:List RV:=[.t 2]
attribute [push_cast] nd body
theorem ok:Bh prog CN nd body 1 rs=true:=by kernel_rfl
abbrev L3 (a b:V)(B:Nat)(H:Di)(Q:QX):Prop:=Ax prog nd B (E1 3 1 4 0) [(8,a),(28,b)] H Q
abbrev L8 (a b c d e:V)(B:Nat)(H:Di)(Q:QX):Prop:=Ax prog nd B (E1 8 5 0 4) [(3,a),(7,b),(11,c),(12,d),(13,e)] H Q
end GD
namespace Ll
def nd:Nat->C
 | 0=>.R [.E 24 3 9,.U 25 HG [.s 24],.U 26 Of [.s 25],.F 27 26 0,.F 28 26 1,.K 3 6 27,.A 7 28] (.ret)
 | 1=>.R [.A 17 0,.E 18 4 4,.A 19 2,.U 20 KU [.s 17,.s 18,.s 19],.al 9 A2 CR,.L 9 3 20] (.seq (.R [.E 21 3 9,.U 22 Nc [.s 21]] (.W 22 (.R [.bd 23 CR [],.K 3 6 23,.mv 7 (.i 3)] (.ret)) (.skip))) (.n 0))
 | _=>.skip
def body:C:=.R [.Z 4 A8 1,.al 6 A2 CR,.mv 7 (.i 0)] (.seq (.R [.A 10 0,.E 11 4 4,.U 12 N7 [.s 10,.s 11],.A 8 12] (.R [.A 13 8,.J 14 13] (.W 14 (.R [.bd 15 CR [],.A 16 8,.K 3 6 15,.A 7 16] (.ret)) (.skip)))) (.n 1))
def rs:List RV:=[.a 6 3,.t 7]
attribute [push_cast] nd body
theorem ok:Bh prog Mw nd body 3 rs=true:=by kernel_rfl
end Ll
namespace Ls
def nd (_:Nat):C:=.skip
def body:C:=.R [.Z 1 Ch 0,.al 2 A2 CR] (.R [.D 3 0 1,.E 4 3 3,.K 3 2 4] (.ret))
def rs:List RV:=[.a 2 3]
attribute [push_cast] nd body
theorem ok:Bh prog GN nd body 1 rs=true:=by kernel_rfl
end Ls
namespace LR
def nd (_:Nat):C:=.skip
def body:C:=.R [.Z 1 Ch 0,.al 2 A2 CR] (.R [.D 3 3 1,.E 4 3 3,.K 3 2 4] (.ret))
def rs:List RV:=[.a 2 3]
attribute [push_cast] nd body
theorem ok:Bh prog GV nd body 1 rs=true:=by kernel_rfl
end LR
namespace F3
def nd:Nat->C
 | 0=>.R [.A 31 0,.lens 32 (.s 31),.A 33 1,.lens 34 (.s 33),.U 35 Eu [.s 32,.s 34],.A 4 35] (.ret)
 | 1=>.gh [.ks 0 [0,1,10,11]] (.m 3)
 | 2=>.seq (.blk 1 (.R [.A 13 11,.A 5 13] (.seq (.dr [0,1,2,3,4,5,6] [.A 14 0,.A 15 5,.ix 16 (.s 14) (.s 15),.A 17 1,.A 18 5,.ix 19 (.s 17) (.s 18),.V 20 .neq 16 19]) (.W 20 (.seq (.dr [0,1,2,3,4,5,6,7,8,9] [.A 21 0,.A 22 5,.ix 23 (.s 21) (.s 22),.cvi 24 .i64 (.s 23),.A 25 1,.A 26 5,.ix 27 (.s 25) (.s 26),.cvi 28 .i64 (.s 27),.U 29 Eu [.s 24,.s 28],.A 4 29]) (.ret)) (.skip))))) (.reg [.X 30 .add 11 1,.A 11 30])
 | 3=>.R [.V 12 .lss 11 10] (.seq (.W 12 (.skip) (.exit 0)) (.n 2))
 | _=>.skip
def body:C:=.R [.mv 4 (.i 0)] (.seq (.R [.A 6 0,.lens 7 (.s 6),.A 8 1,.lens 9 (.s 8),.mn 10 (.s 7) (.s 9),.mv 11 (.i 0)] (.J 0 1)) (.n 0))
def rs:List RV:=[.t 4]
attribute [push_cast] nd body
theorem ok:Bh prog Df nd body 2 rs=true:=by kernel_rfl
abbrev L3 (a b c d:V)(B:Nat)(H:Di)(Q:QX):Prop:=Ax prog nd B (E1 3 1 0 0) [(0,a),(1,b),(10,c),(11,d)] H Q
end F3
namespace Kl
def nd:Nat->C
 | 0=>.R [.mv 4 (.i 0)] (.ret)
 | 1=>.seq (.R [.A 8 0,.A 9 1,.V 10 .gtr 8 9] (.W 10 (.R [.mv 4 (.i 1)] (.ret)) (.skip))) (.n 0)
 | _=>.skip
def body:C:=.R [.mv 4 (.i 0)] (.seq (.R [.A 5 0,.A 6 1,.V 7 .lss 5 6] (.W 7 (.R [.mv 4 (.i (-1))] (.ret)) (.skip))) (.n 1))
def rs:List RV:=[.t 4]
attribute [push_cast] nd body
theorem ok:Bh prog Eu nd body 2 rs=true:=by kernel_rfl
end Kl
namespace Db
def nd:Nat->C
 | 0=>.R [.A 14 4,.Y 15 14,.X 16 .eql 15 0,.A 17 16,.P 17 true [18,19] [.A 18 0,.U 19 Ly [.s 18]],.N 20 17 19,.A 2 20,.mv 3 (.i 0)] (.ret)
 | _=>.skip
def body:C:=.R [.mv 2 (.c (.bool false)),.mv 3 (.i 0)] (.R [.A 7 0,.U 8 LZ [.s 7],.A 6 8,.F 9 6 0,.F 10 6 1,.A 4 9,.A 5 10] (.seq (.R [.A 11 5,.J 12 11] (.W 12 (.R [.A 13 5,.mv 2 (.c (.bool false)),.A 3 13] (.ret)) (.skip))) (.n 0)))
def rs:List RV:=[.t 2,.t 3]
attribute [push_cast] nd body
theorem ok:Bh prog Gr nd body 1 rs=true:=by kernel_rfl
end Db
namespace AH
def nd:Nat->C
 | 0=>.R [.mv 6 (.c (.bool true))] (.ret)
 | 1=>.gh [.ks 0 [1,2,15,16,17]] (.m 3)
 | 2=>.seq (.blk 1 (.R [.A 19 17,.G 20 3 15 17,.E 21 3 20,.al 8 A2 CR,.A 7 19,.L 8 3 21] (.R [.A 22 1,.A 23 7,.G 24 3 22 23,.E 25 3 24,.al 9 A2 CR,.L 9 3 25] (.R [.A 26 2,.E 27 3 8,.E 28 3 9,.callvp (some 29) (.s 26) [.s 27,.s 28],.Q 30 29] (.W 30 (.R [.mv 6 (.c (.bool false))] (.ret)) (.skip)))))) (.reg [.X 31 .add 17 1,.A 17 31])
 | 3=>.R [.V 18 .lss 17 16] (.seq (.W 18 (.skip) (.exit 0)) (.n 2))
 | 4=>.seq (.R [.A 15 0,.Y 16 15,.mv 17 (.i 0)] (.J 0 1)) (.n 0)
 | _=>.skip
def body:C:=.R [.mv 6 (.c (.bool false))] (.seq (.R [.A 10 0,.Y 11 10,.A 12 1,.Y 13 12,.V 14 .neq 11 13] (.W 14 (.R [.mv 6 (.c (.bool false))] (.ret)) (.skip))) (.n 4))
def rs:List RV:=[.t 6]
attribute [push_cast] nd body
theorem ok:Bh prog BD nd body 3 rs=true:=by kernel_rfl
abbrev L3 (a b c d e:V)(B:Nat)(H:Di)(Q:QX):Prop:=Ax prog nd B (E1 3 1 0 0) [(1,a),(2,b),(15,c),(16,d),(17,e)] H Q
end AH
namespace F7
def nd:Nat->C
 | 0=>.R [.A 20 5,.Y 21 20,.X 22 .eql 21 0,.A 23 22,.P 23 true [24,25] [.A 24 0,.U 25 Jb [.s 24]],.N 26 23 25,.A 2 26,.mv 3 (.i 0)] (.ret)
 | 1=>.R [.A 13 0,.U 14 RX [.s 13],.A 12 14,.F 15 12 0,.F 16 12 1,.A 5 15,.A 6 16] (.seq (.R [.A 17 6,.J 18 17] (.W 18 (.R [.A 19 6,.mv 2 (.c (.bool false)),.A 3 19] (.ret)) (.skip))) (.n 0))
 | _=>.skip
def body:C:=.R [.mv 2 (.c (.bool false)),.mv 3 (.i 0)] (.seq (.R [.A 7 0,.U 8 Gg [.s 7],.A 4 8] (.R [.A 9 4,.J 10 9] (.W 10 (.R [.A 11 4,.mv 2 (.c (.bool false)),.A 3 11] (.ret)) (.skip)))) (.n 1))
def rs:List RV:=[.t 2,.t 3]
attribute [push_cast] nd body
theorem ok:Bh prog Jl nd body 1 rs=true:=by kernel_rfl
end F7
namespace GJ
def nd:Nat->C
 | 0=>.R [.D 14 2 1,.B 15 14,.Y 16 15,.X 17 .leq 16 8,.A 18 17,.P 18 true [19,20,21] [.D 19 0 1,.B 20 19,.U 21 DR [.s 20,(.c (.bool true))]],.N 22 18 21,.A 23 22,.P 23 true [24,25,26,27] [.D 24 2 1,.B 25 24,.U 26 AL [.s 25,(.f Ko)],.Q 27 26],.N 28 23 27,.A 2 28] (.ret)
 | _=>.skip
def body:C:=.R [.Z 1 A2 0,.mv 2 (.c (.bool false))] (.seq (.R [.D 3 1 1,.B 4 3] (.W 4 (.R [.D 5 2 1,.B 6 5,.Y 7 6,.X 8 .eql 7 0,.A 9 8,.P 9 true [10,11,12] [.D 10 0 1,.B 11 10,.U 12 DR [.s 11,(.c (.bool false))]],.N 13 9 12,.A 2 13] (.ret)) (.skip))) (.n 0))
def rs:List RV:=[.t 2]
attribute [push_cast] nd body
theorem ok:Bh prog JI nd body 1 rs=true:=by kernel_rfl
end GJ
namespace QJ
def nd (_:Nat):C:=.skip
def body:C:=.R [.Z 1 A2 0,.mv 2 (.c (.bool false))] (.R [.E 3 3 1,.U 4 JP [.s 3],.X 5 .leq 4 4000,.A 6 5,.P 6 true [7,8,9] [.E 7 3 1,.U 8 Iw [.s 7],.X 9 .leq 8 200],.N 10 6 9,.A 2 10] (.ret))
def rs:List RV:=[.t 2]
attribute [push_cast] nd body
theorem ok:Bh prog Mp nd body 1 rs=true:=by kernel_rfl
end QJ
namespace Uo
def nd (_:Nat):C:=.skip
def body:C:=.R [.Z 1 A2 0,.mv 2 (.c .nilf)] (.R [.mf 3 C6 [] [.s 1],.A 2 3] (.ret))
def rs:List RV:=[.t 2]
attribute [push_cast] nd body
theorem ok:Bh prog EE nd body 1 rs=true:=by kernel_rfl
end Uo
namespace Jp
def nd:Nat->C
 | 0=>.R [.A 37 7,.A 6 37] (.ret)
 | 1=>.gh [.ks 1 [1,5,7,12,13,14]] (.m 4)
 | 2=>.R [.D 22 0 9,.E 23 3 22,.E 24 3 5,.U 25 O0 [.s 23,.s 24],.A 21 25,.F 26 21 0,.F 27 21 1,.A 10 26,.A 11 27] (.R [.A 28 11] (.W 28 (.reg [.A 29 7,.A 30 8,.A 31 1,.call (some 32) Ak [.s 31],.bd 33 [.int .i64 0,.sl 1 []] [(0,1,(.s 30)),(1,1,(.s 32))],.bs 34 2 [.s 33],.app 35 DN 2 32 (.s 29) (.s 34),.A 7 35]) (.skip)))
 | 3=>.seq (.blk 1 (.R [.A 16 14,.G 17 6 12 14,.E 18 6 17,.al 9 Ch [.str [],.bool false,.sl 3 [],.str [],.bool false,.sl 3 []],.A 8 16,.L 9 6 18] (.seq (.R [.D 19 1 5,.B 20 19] (.W 20 (.exit 0) (.skip))) (.n 2)))) (.reg [.X 36 .add 14 1,.A 14 36])
 | 4=>.R [.V 15 .lss 14 13] (.seq (.W 15 (.skip) (.exit 0)) (.n 3))
 | _=>.skip
def body:C:=.R [.Z 5 A2 2,.mv 6 (.c (.sl 2 []))] (.R [.mv 7 (.c .nil),.non 7 DN 2] (.seq (.R [.A 12 0,.Y 13 12,.mv 14 (.i 0)] (.J 0 1)) (.n 0)))
def rs:List RV:=[.t 6]
attribute [push_cast] nd body
theorem ok:Bh prog OL nd body 3 rs=true:=by kernel_rfl
abbrev L4 (a b c d e f:V)(B:Nat)(H:Di)(Q:QX):Prop:=Ax prog nd B (E1 4 1 0 0) [(1,a),(5,b),(7,c),(12,d),(13,e),(14,f)] H Q
end Jp
namespace CY
def nd (_:Nat):C:=.skip
def body:C:=.R [.mv 4 (.c (.bool false))] (.R [.A 5 0,.A 6 1,.U 7 Dc [.s 5,.s 6],.X 8 .geq 7 0,.A 4 8] (.ret))
def rs:List RV:=[.t 4]
attribute [push_cast] nd body
theorem ok:Bh prog CH nd body 2 rs=true:=by kernel_rfl
end CY
namespace O3
def nd (_:Nat):C:=.skip
def body:C:=.R [.Z 2 DN 0,.mv 3 (.c (.bool false))] (.R [.D 4 1 2,.B 5 4,.D 6 1 1,.B 7 6,.U 8 Dl [.s 5,.s 7],.A 3 8] (.ret))
def rs:List RV:=[.t 3]
attribute [push_cast] nd body
theorem ok:Bh prog Iv nd body 2 rs=true:=by kernel_rfl
end O3
namespace Cc
def nd:Nat->C
 | 0=>.R [.mv 4 (.c (.bool true))] (.ret)
 | 1=>.gh [.ks 0 [0,1,12,13]] (.m 3)
 | 2=>.seq (.blk 1 (.R [.A 15 13,.A 5 15] (.seq (.dr [0,1,2,3,4,5,6,7,8] [.A 16 0,.A 17 5,.G 18 1 16 17,.B 19 18,.A 20 1,.A 21 5,.G 22 1 20 21,.B 23 22,.V 24 .neq 19 23]) (.W 24 (.R [.mv 4 (.c (.bool false))] (.ret)) (.skip))))) (.reg [.X 25 .add 13 1,.A 13 25])
 | 3=>.R [.V 14 .lss 13 12] (.seq (.W 14 (.skip) (.exit 0)) (.n 2))
 | 4=>.seq (.R [.A 11 0,.Y 12 11,.mv 13 (.i 0)] (.J 0 1)) (.n 0)
 | _=>.skip
def body:C:=.R [.mv 4 (.c (.bool false))] (.seq (.R [.A 6 0,.Y 7 6,.A 8 1,.Y 9 8,.V 10 .neq 7 9] (.W 10 (.R [.mv 4 (.c (.bool false))] (.ret)) (.skip))) (.n 4))
def rs:List RV:=[.t 4]
attribute [push_cast] nd body
theorem ok:Bh prog Dl nd body 2 rs=true:=by kernel_rfl
abbrev L3 (a b c d:V)(B:Nat)(H:Di)(Q:QX):Prop:=Ax prog nd B (E1 3 1 0 0) [(0,a),(1,b),(12,c),(13,d)] H Q
end Cc
namespace Fq
def nd:Nat->C
 | 0=>.R [.mv 2 (.c (.bool true))] (.ret)
 | 1=>.gh [.ks 0 [27,28,29]] (.m 3)
 | 2=>.seq (.blk 1 (.R [.G 31 3 27 29,.E 32 3 31,.al 4 A2 CR,.L 4 3 32] (.R [.E 33 3 4,.U 34 KR [.s 33],.Q 35 34] (.W 35 (.R [.mv 2 (.c (.bool false))] (.ret)) (.skip))))) (.reg [.X 36 .add 29 1,.A 29 36])
 | 3=>.R [.V 30 .lss 29 28] (.seq (.W 30 (.skip) (.exit 0)) (.n 2))
 | 4=>.seq (.R [.D 26 2 1,.B 27 26,.Y 28 27,.mv 29 (.i 0)] (.J 0 1)) (.n 0)
 | 5=>.seq (.R [.D 16 0 1,.B 17 16,.U 18 Iu [.s 17,(.c (.bool true))],.Q 19 18,.A 20 19,.P 20 false [21,22,23,24] [.D 21 2 1,.B 22 21,.Y 23 22,.X 24 .gtr 23 8],.M 25 20 24] (.W 25 (.R [.mv 2 (.c (.bool false))] (.ret)) (.skip))) (.n 4)
 | _=>.skip
def body:C:=.R [.Z 1 A2 0,.mv 2 (.c (.bool false))] (.seq (.R [.D 5 1 1,.B 6 5] (.W 6 (.R [.D 7 0 1,.B 8 7,.U 9 Iu [.s 8,(.c (.bool false))],.A 10 9,.P 10 true [11,12,13,14] [.D 11 2 1,.B 12 11,.Y 13 12,.X 14 .eql 13 0],.N 15 10 14,.A 2 15] (.ret)) (.skip))) (.n 5))
def rs:List RV:=[.t 2]
attribute [push_cast] nd body
theorem ok:Bh prog KR nd body 1 rs=true:=by kernel_rfl
abbrev L3 (a b c:V)(B:Nat)(H:Di)(Q:QX):Prop:=Ax prog nd B (E1 3 1 0 0) [(27,a),(28,b),(29,c)] H Q
end Fq
namespace Tm
def nd:Nat->C
 | 0=>.R [.A 18 3,.A 2 18] (.ret)
 | 1=>.gh [.ks 0 [3,7,8,9]] (.m 3)
 | 2=>.seq (.blk 1 (.R [.G 11 3 7 9,.E 12 3 11,.al 5 A2 CR,.L 5 3 12] (.reg [.A 13 3,.E 14 3 5,.U 15 Jq [.s 14],.V 16 .add 13 15,.A 3 16]))) (.reg [.X 17 .add 9 1,.A 9 17])
 | 3=>.R [.V 10 .lss 9 8] (.seq (.W 10 (.skip) (.exit 0)) (.n 2))
 | _=>.skip
def body:C:=.R [.Z 1 A2 0,.mv 2 (.i 0)] (.R [.mv 3 (.i 1)] (.seq (.R [.D 6 2 1,.B 7 6,.Y 8 7,.mv 9 (.i 0)] (.J 0 1)) (.n 0)))
def rs:List RV:=[.t 2]
attribute [push_cast] nd body
theorem ok:Bh prog Jq nd body 1 rs=true:=by kernel_rfl
abbrev L3 (a b c d:V)(B:Nat)(H:Di)(Q:QX):Prop:=Ax prog nd B (E1 3 1 0 0) [(3,a),(7,b),(8,c),(9,d)] H Q
end Tm
namespace QL
def nd:Nat->C
 | 0=>.R [.A 18 3,.X 19 .add 18 1,.A 2 19] (.ret)
 | 1=>.gh [.ks 0 [3,7,8,9]] (.m 3)
 | 2=>.seq (.blk 1 (.R [.G 11 3 7 9,.E 12 3 11,.al 5 A2 CR,.L 5 3 12] (.reg [.A 13 3,.E 14 3 5,.U 15 HY [.s 14],.mx 16 (.s 13) (.s 15),.A 3 16]))) (.reg [.X 17 .add 9 1,.A 9 17])
 | 3=>.R [.V 10 .lss 9 8] (.seq (.W 10 (.skip) (.exit 0)) (.n 2))
 | _=>.skip
def body:C:=.R [.Z 1 A2 0,.mv 2 (.i 0)] (.R [.mv 3 (.i 0)] (.seq (.R [.D 6 2 1,.B 7 6,.Y 8 7,.mv 9 (.i 0)] (.J 0 1)) (.n 0)))
def rs:List RV:=[.t 2]
attribute [push_cast] nd body
theorem ok:Bh prog HY nd body 1 rs=true:=by kernel_rfl
abbrev L3 (a b c d:V)(B:Nat)(H:Di)(Q:QX):Prop:=Ax prog nd B (E1 3 1 0 0) [(3,a),(7,b),(8,c),(9,d)] H Q
end QL
namespace Oz
def nd:Nat->C
 | 0=>.R [.A 50 5,.A 4 50] (.ret)
 | 1=>.gh [.ks 1 [0,3,5,14,15,16]] (.m 6)
 | 2=>.gh [.ks 2 [0,3,5,7,8,14,15,16,27,28]] (.m 4)
 | 3=>.seq (.blk 3 (.R [.A 30 28,.A 10 30] (.seq (.dr [0,1,2,3,4,5,6,7,8,9,10,11] [.A 32 0,.A 33 10,.G 34 6 32 33,.D 35 0 34,.E 36 3 35,.E 37 3 8,.U 38 GF [.s 36,.s 37],.A 31 38,.F 39 31 0,.F 40 31 1,.A 11 39,.A 12 40]) (.R [.A 41 12] (.W 41 (.reg [.A 42 5,.A 43 10,.A 44 7,.bd 45 [.int .i64 0,.sl 1 []] [(0,1,(.s 43)),(1,1,(.s 44))],.bs 46 2 [.s 45],.app 47 DN 2 32 (.s 42) (.s 46),.A 5 47]) (.skip)))))) (.reg [.X 48 .add 28 1,.A 28 48])
 | 4=>.R [.V 29 .lss 28 27] (.seq (.W 29 (.skip) (.exit 2)) (.n 3))
 | 5=>.seq (.blk 1 (.R [.G 18 1 14 16,.B 19 18,.A 7 19] (.R [.E 21 3 3,.A 22 7,.U 23 Q0 [.s 21,.s 22],.A 20 23,.F 24 20 0,.F 25 20 1,.al 8 A2 CR,.L 8 3 24,.A 9 25] (.R [.A 26 0,.Y 27 26,.mv 28 (.i 0)] (.J 2 2))))) (.reg [.X 49 .add 16 1,.A 16 49])
 | 6=>.R [.V 17 .lss 16 15] (.seq (.W 17 (.skip) (.exit 0)) (.n 5))
 | _=>.skip
def body:C:=.R [.Z 3 A2 1,.mv 4 (.c (.sl 2 []))] (.R [.mv 5 (.c .nil),.non 5 DN 2] (.seq (.R [.E 13 3 3,.U 14 FP [.s 13],.Y 15 14,.mv 16 (.i 0)] (.J 0 1)) (.n 0)))
def rs:List RV:=[.t 4]
attribute [push_cast] nd body
theorem ok:Bh prog UQ nd body 2 rs=true:=by kernel_rfl
abbrev L4 (a b c d e f g h i j:V)(B:Nat)(H:Di)(Q:QX):Prop:=Ax prog nd B [.c (.m 4),.c (.loop (.n 2)),.mk 2,.mk 1,.c (.reg [.X 49 .add 16 1,.A 16 49]),.c (.loop (.n 1)),.mk 0,.c (.n 0)] [(0,a),(3,b),(5,c),(7,d),(8,e),(14,f),(15,g),(16,h),(27,i),(28,j)] H Q
abbrev L6 (a b c d e f:V)(B:Nat)(H:Di)(Q:QX):Prop:=Ax prog nd B (E1 6 1 0 0) [(0,a),(3,b),(5,c),(14,d),(15,e),(16,f)] H Q
end Oz
namespace Lk
def nd:Nat->C
 | 0=>.R [.mv 4 (.i (-1))] (.ret)
 | 1=>.gh [.ks 0 [0,3,9,10]] (.m 3)
 | 2=>.seq (.blk 1 (.R [.A 12 10,.A 5 12] (.seq (.dr [0,1,2,3,4,5,6,7,8,9,10,11] [.A 14 0,.A 15 5,.G 16 6 14 15,.D 17 0 16,.E 18 3 17,.E 19 3 3,.U 20 GF [.s 18,.s 19],.A 13 20,.F 21 13 0,.F 22 13 1,.A 6 21,.A 7 22]) (.R [.A 23 7] (.W 23 (.R [.A 24 5,.A 4 24] (.ret)) (.skip)))))) (.reg [.X 25 .add 10 1,.A 10 25])
 | 3=>.R [.V 11 .lss 10 9] (.seq (.W 11 (.skip) (.exit 0)) (.n 2))
 | _=>.skip
def body:C:=.R [.Z 3 A2 1,.mv 4 (.i 0)] (.seq (.R [.A 8 0,.Y 9 8,.mv 10 (.i 0)] (.J 0 1)) (.n 0))
def rs:List RV:=[.t 4]
attribute [push_cast] nd body
theorem ok:Bh prog Q6 nd body 2 rs=true:=by kernel_rfl
abbrev L3 (a b c d:V)(B:Nat)(H:Di)(Q:QX):Prop:=Ax prog nd B (E1 3 1 0 0) [(0,a),(3,b),(9,c),(10,d)] H Q
end Lk
namespace Ud
def nd (_:Nat):C:=.skip
def body:C:=.R [.Z 2 A2 0,.Z 3 A2 1,.mv 4 (.c (.sl 4 [])),.mv 5 (.c (.bool false))] (.R [.E 6 3 2,.E 7 3 3,.U 8 MI [(.c (.sl 4 [])),.s 6,.s 7],.F 9 8 0,.F 10 8 1,.A 4 9,.A 5 10] (.ret))
def rs:List RV:=[.t 4,.t 5]
attribute [push_cast] nd body
theorem ok:Bh prog GF nd body 2 rs=true:=by kernel_rfl
end Ud
namespace Bx
def nd:Nat->C
 | 0=>.R [.mv 4 (.i (-1))] (.ret)
 | 1=>.gh [.ks 0 [0,1,7,8]] (.m 3)
 | 2=>.seq (.blk 1 (.R [.A 10 8,.A 5 10] (.R [.A 11 1,.A 12 0,.A 13 5,.G 14 4 12 13,.E 15 4 14,.callvp (some 16) (.s 11) [.s 15]] (.W 16 (.R [.A 17 5,.A 4 17] (.ret)) (.skip))))) (.reg [.X 18 .add 8 1,.A 8 18])
 | 3=>.R [.V 9 .lss 8 7] (.seq (.W 9 (.skip) (.exit 0)) (.n 2))
 | _=>.skip
def body:C:=.R [.mv 4 (.i 0)] (.seq (.R [.A 6 0,.Y 7 6,.mv 8 (.i 0)] (.J 0 1)) (.n 0))
def rs:List RV:=[.t 4]
attribute [push_cast] nd body
theorem ok:Bh prog CO nd body 2 rs=true:=by kernel_rfl
abbrev L3 (a b c d:V)(B:Nat)(H:Di)(Q:QX):Prop:=Ax prog nd B (E1 3 1 0 0) [(0,a),(1,b),(7,c),(8,d)] H Q
end Bx
namespace CC
def nd:Nat->C
 | 0=>.R [.mv 2 (.i 0)] (.ret)
 | 1=>.seq (.R [.A 27 0,.U 28 BP [.s 27,(.f KB)]] (.W 28 (.R [.mv 2 (.i 7)] (.ret)) (.skip))) (.n 0)
 | 2=>.gh [.ks 2 [0,20]] (.m 4)
 | 3=>.blk 1 (.R [.en 23 (.s 20),.F 24 23 0,.A 6 24] (.R [.A 25 6,.U 26 N1 [.s 25]] (.W 26 (.R [.mv 2 (.i 6)] (.ret)) (.skip))))
 | 4=>.R [.nx 21 (.s 20),.F 22 21 0] (.seq (.W 22 (.skip) (.exit 0)) (.n 3))
 | 5=>.seq (.R [.A 19 4,.rg 20 (.s 19)] (.J 0 2)) (.n 1)
 | 6=>.R [.A 13 0,.call (some 14) Ia [.s 13],.A 12 14,.F 15 12 0,.F 16 12 1,.A 4 15,.A 5 16] (.seq (.R [.A 17 5,.Q 18 17] (.W 18 (.R [.mv 2 (.i 6)] (.ret)) (.skip))) (.n 5))
 | _=>.skip
def body:C:=.R [.mv 2 (.i 0)] (.seq (.R [.A 7 0,.U 8 IH [.s 7],.A 3 8] (.R [.A 9 3,.J 10 9] (.W 10 (.R [.A 11 3,.A 2 11] (.ret)) (.skip)))) (.n 6))
def rs:List RV:=[.t 2]
attribute [push_cast] nd body
theorem ok:Bh prog E3 nd body 1 rs=true:=by kernel_rfl
abbrev L4 (a b:V)(B:Nat)(H:Di)(Q:QX):Prop:=Ax prog nd B (E1 4 2 0 1) [(0,a),(20,b)] H Q
end CC
namespace DV
def nd:Nat->C
 | 0=>.seq (.dr [0,1,2,3,4,5,6,7,8] [.B 14 2,.B 15 1,.X 16 .sub 15 1,.G 17 6 14 16,.D 18 0 17,.E 19 3 18,.E 20 4 3,.U 21 J9 [.s 19,.s 20],.A 4 21]) (.ret)
 | _=>.skip
def body:C:=.R [.Z 3 A8 0,.mv 4 (.c (.sl 4 []))] (.seq (.R [.D 5 0 3,.B 6 5,.X 7 .gtr 6 0,.A 8 7,.P 8 false [9,10] [.B 9 1,.X 10 .eql 9 0],.M 11 8 10] (.W 11 (.R [.D 12 3 3,.B 13 12,.A 4 13] (.ret)) (.skip))) (.n 0))
def rs:List RV:=[.t 4]
attribute [push_cast] nd body
theorem ok:Bh prog Fz nd body 3 rs=true:=by kernel_rfl
end DV
namespace GH
def nd:Nat->C
 | 0=>.R [.frc 0 (.s 6),.B 44 6,.A 4 44] (.ret)
 | 1=>.gh [.ks 2 [5,6,8,9,25,26,27]] (.m 3)
 | 2=>.seq (.blk 3 (.R [.G 29 1 25 27,.B 30 29,.A 11 30] (.reg [.D 31 3 9,.B 32 31,.A 33 11,.G 34 4 32 33,.E 35 4 34,.K 4 9 35]))) (.reg [.X 36 .add 27 1,.A 27 36])
 | 3=>.R [.V 28 .lss 27 26] (.seq (.W 28 (.skip) (.exit 2)) (.n 2))
 | 4=>.blk 1 (.R [.D 22 1 8,.B 23 22] (.W 23 (.R [.E 24 4 3,.al 9 A8 KZ,.K 4 9 24] (.seq (.R [.A 25 7,.Y 26 25,.mv 27 (.i 0)] (.J 2 1)) (.dr [0,1,2,3,4,5,6,7] [.B 37 6,.B 38 5,.D 39 0 8,.B 40 39,.U 41 AU [.s 38,.s 40],.E 42 4 9,.G 43 4 37 41,.K 4 43 42]))) (.skip)))
 | _=>.skip
def body:C:=.R [.Z 2 A2 0,.Z 3 A8 1,.mv 4 (.c (.sl 4 []))] (.R [.E 12 3 2,.bs 13 3 [.s 12],.U 14 CN [.s 13],.al 5 YI [.sl 1 []],.L 5 1 14] (.R [.B 15 5,.Y 16 15,.mk 17 A8 4 56 [.int .i64 0,.str [],.bool false,.sl 4 []] (.s 16),.al 6 R6 [.nil],.K 1 6 17] (.seq (.R [.E 18 3 2,.U 19 EE [.s 18]] (.blk 0 (.rf (.s 19) [20,21] (.R [.A 7 20] (.reg [.al 8 A2 CR,.L 8 3 21])) (.m 4)))) (.n 0))))
def rs:List RV:=[.t 4]
attribute [push_cast] nd body
theorem ok:Bh prog J9 nd body 2 rs=true:=by kernel_rfl
abbrev L3 (a b c d e f g:V)(B:Nat)(H:Di)(Q:QX):Prop:=Ax prog nd B [.c (.m 3),.c (.loop (.n 1)),.mk 2,.c (.dr [0,1,2,3,4,5,6,7] [.B 37 6,.B 38 5,.D 39 0 8,.B 40 39,.U 41 AU [.s 38,.s 40],.E 42 4 9,.G 43 4 37 41,.K 4 43 42]),.mk 1] [(5,a),(6,b),(8,c),(9,d),(25,e),(26,f),(27,g)] H Q
end GH
end Go.Dw
end
section
namespace Go.Dw
variable {s:List K} {B:Nat} {t:T} {H:List Ob} {Q:X->T->List Ob->Prop}
namespace BO
def nd:Nat->C
 | 0=>.R [.mv 4 (.i (-1))] (.ret)
 | 1=>.gh [.ks 0 [0,1,7,8]] (.m 3)
 | 2=>.seq (.blk 1 (.R [.A 10 8,.A 5 10] (.R [.A 11 1,.A 12 0,.A 13 5,.G 14 1 12 13,.B 15 14,.V 16 .eql 11 15] (.W 16 (.R [.A 17 5,.A 4 17] (.ret)) (.skip))))) (.reg [.X 18 .add 8 1,.A 8 18])
 | 3=>.R [.V 9 .lss 8 7] (.seq (.W 9 (.skip) (.exit 0)) (.n 2))
 | _=>.skip
def body:C:=.R [.mv 4 (.i 0)] (.seq (.R [.A 6 0,.Y 7 6,.mv 8 (.i 0)] (.J 0 1)) (.n 0))
def rs:List RV:=[.t 4]
attribute [push_cast] nd body
theorem ok:Bh prog AU nd body 2 rs=true:=by kernel_rfl
abbrev L3 (a b c d:V)(B:Nat)(H:Di)(Q:QX):Prop:=Ax prog nd B (E1 3 1 0 0) [(0,a),(1,b),(7,c),(8,d)] H Q
end BO
namespace Ff
def nd:Nat->C
 | 0=>.R [.mv 4 (.i 0)] (.ret)
 | 1=>.seq (.blk 0 (.R [.E 12 4 3,.mf 13 Kh [] [.s 2],.U 14 K5 [.s 12,.s 13],.Q 15 14,.A 11 15] (.W 11 (.R [.mv 4 (.i 8)] (.ret)) (.R [.E 17 4 3,.mf 18 Ki [] [.s 2],.U 19 K5 [.s 17,.s 18],.Q 20 19,.A 16 20] (.W 16 (.R [.mv 4 (.i 4)] (.ret)) (.R [.E 22 4 3,.U 23 Is [.s 22],.X 24 .gtr 23 4000,.A 25 24,.P 25 false [26,27,28] [.E 26 4 3,.U 27 Hk [.s 26],.X 28 .gtr 27 200],.M 29 25 28,.A 21 29] (.W 21 (.R [.mv 4 (.i 3)] (.ret)) (.skip)))))))) (.n 0)
 | _=>.skip
def body:C:=.R [.Z 2 PH 0,.Z 3 A8 1,.mv 4 (.i 0)] (.seq (.R [.B 6 2,.U 7 E3 [.s 6],.A 5 7] (.R [.A 8 5,.J 9 8] (.W 9 (.R [.A 10 5,.A 4 10] (.ret)) (.skip)))) (.n 1))
def rs:List RV:=[.t 4]
attribute [push_cast] nd body
theorem ok:Bh prog N7 nd body 2 rs=true:=by kernel_rfl
end Ff
namespace M0
def nd:Nat->C
 | 0=>.R [.A 35 0,.D 36 0 4,.B 37 36,.X 38 .sub 37 1,.G 39 6 35 38,.E 40 6 39,.al 10 Ch [.str [],.bool false,.sl 3 [],.str [],.bool false,.sl 3 []],.L 10 6 40] (.seq (.dr [0,1,2,3,4,5,6,7,8,9] [.A 41 2,.E 42 6 10,.callvp (some 43) (.s 41) [.s 42],.D 44 0 10,.E 45 3 44,.bs 46 3 [.s 45],.U 47 CN [.s 46],.A 48 7,.U 49 KG [.s 43,.s 47,.s 48],.K 3 6 49]) (.ret))
 | 1=>.seq (.R [.D 26 0 4,.B 27 26,.X 28 .eql 27 0] (.W 28 (.R [.D 29 1 4,.B 30 29,.D 31 2 4,.B 32 31,.A 33 7,.bd 34 CR [(0,1,(.s 30)),(1,1,(.s 32)),(2,1,(.s 33))],.K 3 6 34] (.ret)) (.skip))) (.n 0)
 | 2=>.gh [.ks 2 [0,2,4,6,7,12,13,14]] (.m 4)
 | 3=>.seq (.blk 1 (.R [.G 16 4 12 14,.E 17 4 16,.al 9 A8 KZ,.L 9 4 17] (.reg [.A 18 7,.A 19 0,.E 20 4 9,.A 21 2,.U 22 KU [.s 19,.s 20,.s 21],.bs 23 3 [.s 22],.app 24 A2 3 48 (.s 18) (.s 23),.A 7 24]))) (.reg [.X 25 .add 14 1,.A 14 25])
 | 4=>.R [.V 15 .lss 14 13] (.seq (.W 15 (.skip) (.exit 0)) (.n 3))
 | _=>.skip
def body:C:=.R [.Z 4 A8 1,.al 6 A2 CR] (.R [.mv 7 (.c .nil),.non 7 A2 3] (.seq (.R [.D 11 3 4,.B 12 11,.Y 13 12,.mv 14 (.i 0)] (.J 0 2)) (.n 1)))
def rs:List RV:=[.a 6 3]
attribute [push_cast] nd body
theorem ok:Bh prog KU nd body 3 rs=true:=by kernel_rfl
abbrev L4 (a b c d e f g h:V)(B:Nat)(H:Di)(Q:QX):Prop:=Ax prog nd B (E1 4 2 0 1) [(0,a),(2,b),(4,c),(6,d),(7,e),(12,f),(13,g),(14,h)] H Q
end M0
namespace Qc
def nd (_:Nat):C:=.skip
def body:C:=.R [.Z 1 A2 0,.mv 2 (.c (.bool false))] (.R [.al 3 t_int [.int .i64 0],.st 1 (.s 3) (.i 4000)] (.R [.al 4 GO [.nilf]] (.R [.mf 5 Dz [] [.s 3,.s 4],.K 1 4 5] (.R [.B 6 4,.E 7 3 1,.callv (some 8) (.s 6) [.s 7],.A 2 8] (.ret)))))
def rs:List RV:=[.t 2]
attribute [push_cast] nd body
theorem ok:Bh prog Nc nd body 1 rs=true:=by kernel_rfl
end Qc
namespace Xa
def nd:Nat->C
 | 0=>.R [.E 8 3 1,.K 3 2 8,.mv 3 (.i 0)] (.ret)
 | _=>.skip
def body:C:=.R [.Z 1 A2 0,.al 2 A2 CR,.mv 3 (.i 0)] (.seq (.R [.E 4 3 1,.U 5 Mp [.s 4],.Q 6 5] (.W 6 (.R [.bd 7 CR [],.K 3 2 7,.mv 3 (.i 3)] (.ret)) (.skip))) (.n 0))
def rs:List RV:=[.a 2 3,.t 3]
attribute [push_cast] nd body
theorem ok:Bh prog Of nd body 1 rs=true:=by kernel_rfl
end Xa
namespace Tz
def nd:Nat->C
 | 0=>.R [.E 26 3 3,.K 3 2 26] (.ret)
 | 1=>.gh [.ks 3 [2,3,12,13,14]] (.m 3)
 | 2=>.seq (.blk 1 (.R [.G 16 3 12 14,.E 17 3 16,.al 5 A2 CR,.L 5 3 17] (.dr [0,1,2,3,4,5,6,7] [.D 18 2 3,.B 19 18,.E 20 3 5,.U 21 HG [.s 20],.bs 22 3 [.s 21],.app 23 A2 3 48 (.s 19) (.s 22),.D 24 2 3,.K 1 24 23]))) (.reg [.X 25 .add 14 1,.A 14 25])
 | 3=>.R [.V 15 .lss 14 13] (.seq (.W 15 (.skip) (.exit 0)) (.n 2))
 | _=>.skip
def body:C:=.R [.Z 1 A2 0,.al 2 A2 CR] (.R [.D 6 0 1,.B 7 6,.D 8 1 1,.B 9 8,.bd 10 [.str [],.bool false,.nil] [(0,1,(.s 7)),(1,1,(.s 9))],.al 3 A2 [.str [],.bool false,.nil],.K 3 3 10,.ono A2 3 2 (.s 3)] (.seq (.R [.D 11 2 1,.B 12 11,.Y 13 12,.mv 14 (.i 0)] (.J 0 1)) (.n 0)))
def rs:List RV:=[.a 2 3]
attribute [push_cast] nd body
theorem ok:Bh prog HG nd body 1 rs=true:=by kernel_rfl
abbrev L3 (a b c d e:V)(B:Nat)(H:Di)(Q:QX):Prop:=Ax prog nd B (E1 3 1 0 0) [(2,a),(3,b),(12,c),(13,d),(14,e)] H Q
end Tz
namespace KT
def nd:Nat->C
 | 0=>.R [.A 10 0,.U 11 N9 [.s 10],.F 12 11 0,.F 13 11 1,.A 2 12,.A 3 13] (.ret)
 | _=>.skip
def body:C:=.R [.mv 2 (.c (.sl 12 [])),.mv 3 (.i 0)] (.seq (.R [.A 5 0,.U 6 E3 [.s 5],.A 4 6] (.R [.A 7 4,.J 8 7] (.W 8 (.R [.A 9 4,.mv 2 (.c (.sl 12 [])),.A 3 9] (.ret)) (.skip)))) (.n 0))
def rs:List RV:=[.t 2,.t 3]
attribute [push_cast] nd body
theorem ok:Bh prog LZ nd body 1 rs=true:=by kernel_rfl
end KT
namespace OJ
def nd (_:Nat):C:=.skip
def body:C:=.R [.mv 2 (.c (.bool false))] (.R [.A 3 0,.U 4 BP [.s 3,(.f Jm)],.Q 5 4,.A 2 5] (.ret))
def rs:List RV:=[.t 2]
attribute [push_cast] nd body
theorem ok:Bh prog Ly nd body 1 rs=true:=by kernel_rfl
end OJ
namespace CT
def nd:Nat->C
 | 0=>.R [.mv 2 (.i 0)] (.ret)
 | 1=>.gh [.ks 0 [20,21,22]] (.m 3)
 | 2=>.seq (.blk 1 (.R [.G 24 6 20 22,.E 25 6 24,.al 7 Ch [.str [],.bool false,.sl 3 [],.str [],.bool false,.sl 3 []],.L 7 6 25] (.R [.D 26 0 7,.D 27 1 26,.B 28 27,.A 29 28,.P 29 false [30,31,32,33,34,35] [.D 30 3 7,.E 31 3 30,.D 32 0 7,.E 33 3 32,.U 34 On [.s 31,.s 33],.Q 35 34],.M 36 29 35] (.W 36 (.R [.mv 2 (.i 7)] (.ret)) (.skip))))) (.reg [.X 37 .add 22 1,.A 22 37])
 | 3=>.R [.V 23 .lss 22 21] (.seq (.W 23 (.skip) (.exit 0)) (.n 2))
 | 4=>.seq (.R [.A 20 0,.Y 21 20,.mv 22 (.i 0)] (.J 0 1)) (.n 0)
 | 5=>.seq (.R [.A 14 0,.U 15 N3 [.s 14],.A 13 15,.F 16 13 0,.F 17 13 1,.A 4 16,.A 5 17] (.R [.A 18 5,.Q 19 18] (.W 19 (.R [.mv 2 (.i 6)] (.ret)) (.skip)))) (.n 4)
 | _=>.skip
def body:C:=.R [.mv 2 (.i 0)] (.seq (.R [.A 8 0,.U 9 PC [.s 8],.A 3 9] (.R [.A 10 3,.J 11 10] (.W 11 (.R [.A 12 3,.A 2 12] (.ret)) (.skip)))) (.n 5))
def rs:List RV:=[.t 2]
attribute [push_cast] nd body
theorem ok:Bh prog Gg nd body 1 rs=true:=by kernel_rfl
abbrev L3 (a b c:V)(B:Nat)(H:Di)(Q:QX):Prop:=Ax prog nd B (E1 3 1 0 0) [(20,a),(21,b),(22,c)] H Q
end CT
namespace D5
def nd:Nat->C
 | 0=>.R [.A 80 4,.A 2 80,.mv 3 (.i 0)] (.ret)
 | 1=>.seq (.R [.A 77 4,.Y 78 77,.X 79 .gtr 78 4096] (.W 79 (.R [.mv 2 (.c (.sl 12 [])),.mv 3 (.i 3)] (.ret)) (.skip))) (.n 0)
 | 2=>.gh [.ks 1 [0,4,15,16]] (.m 12)
 | 3=>.gh [.ks 1 [0,4,5,15,16,24,25,26]] (.m 10)
 | 4=>.gh [.ks 2 [0,4,5,7,8,15,16,24,25,26,41,42]] (.m 8)
 | 5=>.R [.A 69 12] (.W 69 (.reg [.A 70 4,.E 71 12 11,.bs 72 12 [.s 71],.app 73 DY 12 184 (.s 70) (.s 72),.A 4 73]) (.skip))
 | 6=>.R [.A 58 0,.A 59 5,.A 60 10,.A 61 7,.U 62 Xs [.s 58,.s 59,.s 60,.s 61],.A 57 62,.F 63 57 0,.F 64 57 1,.F 65 57 2,.al 11 DY [.int .i64 0,.int .i64 0,.sl 1 [],.str [],.bool false,.sl 3 [],.str [],.bool false,.sl 3 [],.str [],.bool false,.sl 3 []],.L 11 12 63,.A 12 64,.A 13 65] (.seq (.R [.A 66 13,.J 67 66] (.W 67 (.R [.A 68 13,.mv 2 (.c (.sl 12 [])),.A 3 68] (.ret)) (.skip))) (.n 5))
 | 7=>.seq (.blk 5 (.R [.A 44 42,.A 10 44] (.seq (.R [.D 45 1 8,.B 46 45,.A 47 46,.P 47 false [48,49,50,51] [.A 48 5,.A 49 10,.V 50 .eql 48 49,.A 51 50],.P 51 true [52,53,54] [.A 52 7,.Y 53 52,.X 54 .eql 53 0],.P 47 false [55] [.N 55 51 54],.M 56 47 55] (.W 56 (.exit 5) (.skip))) (.n 6)))) (.reg [.X 74 .add 42 1,.A 42 74])
 | 8=>.R [.V 43 .lss 42 41] (.seq (.W 43 (.skip) (.exit 4)) (.n 7))
 | 9=>.seq (.blk 3 (.R [.G 28 1 24 26,.B 29 28,.A 7 29] (.R [.A 31 0,.A 32 5,.G 33 6 31 32,.D 34 0 33,.E 35 3 34,.A 36 7,.U 37 Q0 [.s 35,.s 36],.A 30 37,.F 38 30 0,.F 39 30 1,.al 8 A2 CR,.L 8 3 38,.A 9 39] (.R [.A 40 0,.Y 41 40,.mv 42 (.i 0)] (.J 4 4))))) (.reg [.X 75 .add 26 1,.A 26 75])
 | 10=>.R [.V 27 .lss 26 25] (.seq (.W 27 (.skip) (.exit 2)) (.n 9))
 | 11=>.seq (.blk 1 (.R [.A 18 16,.A 5 18] (.R [.A 19 0,.A 20 5,.G 21 6 19 20,.D 22 0 21,.E 23 3 22,.U 24 FP [.s 23],.Y 25 24,.mv 26 (.i 0)] (.J 2 3)))) (.reg [.X 76 .add 16 1,.A 16 76])
 | 12=>.R [.V 17 .lss 16 15] (.seq (.W 17 (.skip) (.exit 0)) (.n 11))
 | _=>.skip
def body:C:=.R [.mv 2 (.c (.sl 12 [])),.mv 3 (.i 0)] (.R [.mv 4 (.c .nil),.non 4 DY 12] (.seq (.R [.A 14 0,.Y 15 14,.mv 16 (.i 0)] (.J 0 2)) (.n 1)))
def rs:List RV:=[.t 2,.t 3]
attribute [push_cast] nd body
theorem ok:Bh prog RX nd body 1 rs=true:=by kernel_rfl
abbrev L8 (a b c d e f g h i j k l:V)(B:Nat)(H:Di)(Q:QX):Prop:=Ax prog nd B [.c (.m 8),.c (.loop (.n 4)),.mk 4,.mk 3,.c (.reg [.X 75 .add 26 1,.A 26 75]),.c (.loop (.n 3)),.mk 2,.mk 1,.c (.reg [.X 76 .add 16 1,.A 16 76]),.c (.loop (.n 2)),.mk 0,.c (.n 1)] [(0,a),(4,b),(5,c),(7,d),(8,e),(15,f),(16,g),(24,h),(25,i),(26,j),(41,k),(42,l)] H Q
abbrev L10 (a b c d e f g h:V)(B:Nat)(H:Di)(Q:QX):Prop:=Ax prog nd B [.c (.m 10),.c (.loop (.n 3)),.mk 2,.mk 1,.c (.reg [.X 76 .add 16 1,.A 16 76]),.c (.loop (.n 2)),.mk 0,.c (.n 1)] [(0,a),(4,b),(5,c),(15,d),(16,e),(24,f),(25,g),(26,h)] H Q
abbrev L12 (a b c d:V)(B:Nat)(H:Di)(Q:QX):Prop:=Ax prog nd B (E1 12 2 0 1) [(0,a),(4,b),(15,c),(16,d)] H Q
end D5
namespace Fc
def nd:Nat->C
 | 0=>.R [.mv 2 (.c (.bool true))] (.ret)
 | 1=>.gh [.ks 0 [5,6,7]] (.m 3)
 | 2=>.seq (.blk 1 (.R [.G 9 6 5 7,.E 10 6 9,.al 4 Ch [.str [],.bool false,.sl 3 [],.str [],.bool false,.sl 3 []],.L 4 6 10] (.R [.D 11 0 4,.E 12 3 11,.U 13 OO [.s 12],.Q 14 13] (.W 14 (.R [.mv 2 (.c (.bool false))] (.ret)) (.skip))))) (.reg [.X 15 .add 7 1,.A 7 15])
 | 3=>.R [.V 8 .lss 7 6] (.seq (.W 8 (.skip) (.exit 0)) (.n 2))
 | _=>.skip
def body:C:=.R [.mv 2 (.c (.bool false))] (.seq (.R [.A 5 0,.Y 6 5,.mv 7 (.i 0)] (.J 0 1)) (.n 0))
def rs:List RV:=[.t 2]
attribute [push_cast] nd body
theorem ok:Bh prog Jb nd body 1 rs=true:=by kernel_rfl
abbrev L3 (a b c:V)(B:Nat)(H:Di)(Q:QX):Prop:=Ax prog nd B (E1 3 1 0 0) [(5,a),(6,b),(7,c)] H Q
end Fc
namespace NN
def nd:Nat->C
 | 0=>.R [.E 33 3 5,.K 3 4 33] (.ret)
 | 1=>.gh [.ks 3 [0,4,5,18,19,20]] (.m 3)
 | 2=>.seq (.blk 1 (.R [.G 22 3 18 20,.E 23 3 22,.al 7 A2 CR,.L 7 3 23] (.dr [0,1,2,3,4,5,6,7,8] [.D 24 2 5,.B 25 24,.A 26 0,.E 27 3 7,.U 28 Do [.s 26,.s 27],.bs 29 3 [.s 28],.app 30 A2 3 48 (.s 25) (.s 29),.D 31 2 5,.K 1 31 30]))) (.reg [.X 32 .add 20 1,.A 20 32])
 | 3=>.R [.V 21 .lss 20 19] (.seq (.W 21 (.skip) (.exit 0)) (.n 2))
 | 4=>.R [.D 14 0 3,.B 15 14,.bd 16 [.str [],.bool false,.nil] [(0,1,(.s 15))],.al 5 A2 [.str [],.bool false,.nil],.K 3 5 16,.ono A2 3 2 (.s 5)] (.seq (.R [.D 17 2 3,.B 18 17,.Y 19 18,.mv 20 (.i 0)] (.J 0 1)) (.n 0))
 | _=>.skip
def body:C:=.R [.Z 3 A2 1,.al 4 A2 CR] (.seq (.R [.D 8 1 3,.B 9 8] (.W 9 (.R [.A 10 0,.D 11 0 3,.B 12 11,.U 13 Gm [.s 10,.s 12],.K 3 4 13] (.ret)) (.skip))) (.n 4))
def rs:List RV:=[.a 4 3]
attribute [push_cast] nd body
theorem ok:Bh prog Do nd body 2 rs=true:=by kernel_rfl
abbrev L3 (a b c d e f:V)(B:Nat)(H:Di)(Q:QX):Prop:=Ax prog nd B (E1 3 1 0 0) [(0,a),(4,b),(5,c),(18,d),(19,e),(20,f)] H Q
end NN
namespace GG
def nd:Nat->C
 | 0=>.R [.A 11 0,.bin 12 .neq (.s 11) (.c (.str [])),.A 13 12,.P 13 true [14,15,16,17] [.A 14 0,.s2b 15 (.s 14),.U 16 BS [.s 15,(.f Hx)],.Q 17 16],.N 18 13 17,.A 4 18] (.ret)
 | 1=>.seq (.R [.A 8 1] (.W 8 (.reg [.A 9 0,.U 10 GB [.s 9,(.c (.str [35]))],.A 0 10]) (.skip))) (.n 0)
 | _=>.skip
def body:C:=.R [.mv 4 (.c (.bool false))] (.seq (.R [.A 5 0,.lens 6 (.s 5),.X 7 .gtr 6 24] (.W 7 (.R [.mv 4 (.c (.bool false))] (.ret)) (.skip))) (.n 1))
def rs:List RV:=[.t 4]
attribute [push_cast] nd body
theorem ok:Bh prog DR nd body 2 rs=true:=by kernel_rfl
end GG
namespace CW
def nd (_:Nat):C:=.skip
def body:C:=.R [.mv 4 (.c (.bool false))] (.R [.A 5 0,.A 6 1,.U 7 Bf [.s 5,.s 6],.X 8 .geq 7 0,.A 4 8] (.ret))
def rs:List RV:=[.t 4]
attribute [push_cast] nd body
theorem ok:Bh prog AL nd body 2 rs=true:=by kernel_rfl
end CW
namespace Nf
def nd (_:Nat):C:=.skip
def body:C:=.R [.Z 1 A2 0,.mv 2 (.c (.bool false))] (.R [.E 3 3 1,.U 4 JI [.s 3],.Q 5 4,.A 2 5] (.ret))
def rs:List RV:=[.t 2]
attribute [push_cast] nd body
theorem ok:Bh prog Ko nd body 1 rs=true:=by kernel_rfl
end Nf
namespace QY
def nd:Nat->C
 | 0=>.R [.A 18 3,.A 2 18] (.ret)
 | 1=>.gh [.ks 0 [3,7,8,9]] (.m 3)
 | 2=>.seq (.blk 1 (.R [.G 11 3 7 9,.E 12 3 11,.al 5 A2 CR,.L 5 3 12] (.reg [.A 13 3,.E 14 3 5,.U 15 JP [.s 14],.V 16 .add 13 15,.A 3 16]))) (.reg [.X 17 .add 9 1,.A 9 17])
 | 3=>.R [.V 10 .lss 9 8] (.seq (.W 10 (.skip) (.exit 0)) (.n 2))
 | _=>.skip
def body:C:=.R [.Z 1 A2 0,.mv 2 (.i 0)] (.R [.mv 3 (.i 1)] (.seq (.R [.D 6 2 1,.B 7 6,.Y 8 7,.mv 9 (.i 0)] (.J 0 1)) (.n 0)))
def rs:List RV:=[.t 2]
attribute [push_cast] nd body
theorem ok:Bh prog JP nd body 1 rs=true:=by kernel_rfl
abbrev L3 (a b c d:V)(B:Nat)(H:Di)(Q:QX):Prop:=Ax prog nd B (E1 3 1 0 0) [(3,a),(7,b),(8,c),(9,d)] H Q
end QY
namespace O8
def nd:Nat->C
 | 0=>.R [.A 18 3,.X 19 .add 18 1,.A 2 19] (.ret)
 | 1=>.gh [.ks 0 [3,7,8,9]] (.m 3)
 | 2=>.seq (.blk 1 (.R [.G 11 3 7 9,.E 12 3 11,.al 5 A2 CR,.L 5 3 12] (.reg [.A 13 3,.E 14 3 5,.U 15 Iw [.s 14],.mx 16 (.s 13) (.s 15),.A 3 16]))) (.reg [.X 17 .add 9 1,.A 9 17])
 | 3=>.R [.V 10 .lss 9 8] (.seq (.W 10 (.skip) (.exit 0)) (.n 2))
 | _=>.skip
def body:C:=.R [.Z 1 A2 0,.mv 2 (.i 0)] (.R [.mv 3 (.i 0)] (.seq (.R [.D 6 2 1,.B 7 6,.Y 8 7,.mv 9 (.i 0)] (.J 0 1)) (.n 0)))
def rs:List RV:=[.t 2]
attribute [push_cast] nd body
theorem ok:Bh prog Iw nd body 1 rs=true:=by kernel_rfl
abbrev L3 (a b c d:V)(B:Nat)(H:Di)(Q:QX):Prop:=Ax prog nd B (E1 3 1 0 0) [(3,a),(7,b),(8,c),(9,d)] H Q
end O8
namespace Vh
def nd (_:Nat):C:=.skip
def body:C:=.reg [.E 3 3 1,.A 4 0,.call (some 5) GK [.s 3,(.c (.sl 1 [])),.s 4]]
def rs:List RV:=[]
attribute [push_cast] nd body
theorem ok:Bh prog C6 nd body 2 rs=true:=by kernel_rfl
end Vh
namespace Ux
def nd:Nat->C
 | 0=>.R [.mv 6 (.c (.bool true))] (.ret)
 | 1=>.gh [.ks 0 [1,2,15,16,17]] (.m 3)
 | 2=>.seq (.blk 1 (.R [.A 19 17,.G 20 3 15 17,.E 21 3 20,.al 8 A2 CR,.A 7 19,.L 8 3 21] (.seq (.dr [1,3,4,6] [.A 23 1,.A 25 7,.bs 26 1 [.s 25],.A 28 2,.alt [([0,2,5,7,8],[.E 22 3 8,.call (some 24) Ak [.s 23],.app 27 t_int 1 8 (.s 24) (.s 26),.call (some 29) GK [.s 22,.s 27,.s 28],.Q 30 29]),([2,0,5,7,8],[.call (some 24) Ak [.s 23],.E 22 3 8,.app 27 t_int 1 8 (.s 24) (.s 26),.call (some 29) GK [.s 22,.s 27,.s 28],.Q 30 29])]]) (.W 30 (.R [.mv 6 (.c (.bool false))] (.ret)) (.skip))))) (.reg [.X 31 .add 17 1,.A 17 31])
 | 3=>.R [.V 18 .lss 17 16] (.seq (.W 18 (.skip) (.exit 0)) (.n 2))
 | 4=>.seq (.R [.D 14 2 3,.B 15 14,.Y 16 15,.mv 17 (.i 0)] (.J 0 1)) (.n 0)
 | _=>.skip
def body:C:=.R [.Z 3 A2 0,.mv 6 (.c (.bool false))] (.seq (.R [.A 9 2,.A 10 1,.E 11 3 3,.callv (some 12) (.s 9) [.s 10,.s 11],.Q 13 12] (.W 13 (.R [.mv 6 (.c (.bool false))] (.ret)) (.skip))) (.n 4))
def rs:List RV:=[.t 6]
attribute [push_cast] nd body
theorem ok:Bh prog GK nd body 3 rs=true:=by kernel_rfl
abbrev L3 (a b c d e:V)(B:Nat)(H:Di)(Q:QX):Prop:=Ax prog nd B (E1 3 1 0 0) [(1,a),(2,b),(15,c),(16,d),(17,e)] H Q
end Ux
namespace S8
def nd (_:Nat):C:=.skip
def body:C:=.R [.Z 2 A2 0,.Z 3 A2 1,.mv 4 (.c (.sl 4 [])),.mv 5 (.c (.bool false))] (.R [.al 6 P4 [.nil],.rono Cg 4 0 (.s 6)] (.R [.E 8 3 2,.E 9 3 3,.call (some 10) Ed [.s 6,.s 8,.s 9],.A 7 10] (.R [.D 11 0 6,.B 12 11,.frz 12,.A 13 7,.A 4 12,.A 5 13] (.ret))))
def rs:List RV:=[.t 4,.t 5]
attribute [push_cast] nd body
theorem ok:Bh prog O0 nd body 2 rs=true:=by kernel_rfl
end S8
namespace Bn
def nd:Nat->C
 | 0=>.R [.bo 5 t_int 1 [],.A 6 0,.app 7 t_int 1 8 (.s 5) (.s 6),.A 2 7] (.ret)
 | _=>.skip
def body:C:=.R [.mv 2 (.c .nil),.non 2 t_int 1] (.seq (.R [.A 3 0,.nl 4 false (.s 3)] (.W 4 (.R [.mv 2 (.c .nil),.non 2 t_int 1] (.ret)) (.skip))) (.n 0))
def rs:List RV:=[.t 2]
attribute [push_cast] nd body
theorem ok:Bh prog Ak nd body 1 rs=true:=by kernel_rfl
end Bn
namespace BI
def nd:Nat->C
 | 0=>.R [.mv 4 (.i (-1))] (.ret)
 | 1=>.gh [.ks 0 [0,1,7,8]] (.m 3)
 | 2=>.seq (.blk 1 (.R [.A 10 8,.A 5 10] (.R [.A 11 1,.A 12 0,.A 13 5,.G 14 2 12 13,.E 15 2 14,.callvp (some 16) (.s 11) [.s 15]] (.W 16 (.R [.A 17 5,.A 4 17] (.ret)) (.skip))))) (.reg [.X 18 .add 8 1,.A 8 18])
 | 3=>.R [.V 9 .lss 8 7] (.seq (.W 9 (.skip) (.exit 0)) (.n 2))
 | _=>.skip
def body:C:=.R [.mv 4 (.i 0)] (.seq (.R [.A 6 0,.Y 7 6,.mv 8 (.i 0)] (.J 0 1)) (.n 0))
def rs:List RV:=[.t 4]
attribute [push_cast] nd body
theorem ok:Bh prog Dc nd body 2 rs=true:=by kernel_rfl
abbrev L3 (a b c d:V)(B:Nat)(H:Di)(Q:QX):Prop:=Ax prog nd B (E1 3 1 0 0) [(0,a),(1,b),(7,c),(8,d)] H Q
end BI
namespace Cz
def nd:Nat->C
 | 0=>.R [.A 35 6,.A 2 35] (.ret)
 | 1=>.gh [.ks 1 [6,25,26,27]] (.m 3)
 | 2=>.seq (.blk 3 (.R [.G 29 1 25 27,.B 30 29,.A 8 30] (.reg [.A 31 6,.A 32 8,.app 33 t_int 1 8 (.s 31) (.s 32),.A 6 33]))) (.reg [.X 34 .add 27 1,.A 27 34])
 | 3=>.R [.V 28 .lss 27 26] (.seq (.W 28 (.skip) (.exit 2)) (.n 2))
 | 4=>.R [.A 23 3,.call (some 24) n_slices_Grow_s_int_int [(.c .nil),.s 23],.A 6 24] (.seq (.R [.A 25 0,.Y 26 25,.mv 27 (.i 0)] (.J 2 1)) (.n 0))
 | 5=>.gh [.ks 0 [0,3,9,10,11]] (.m 7)
 | 6=>.seq (.blk 1 (.R [.G 13 1 9 11,.B 14 13,.A 5 14] (.R [.A 15 3,.A 16 5,.Y 17 16,.V 18 .add 15 17,.A 3 18] (.R [.A 19 3,.X 20 .lss 19 0] (.W 20 (.bad) (.skip)))))) (.reg [.X 22 .add 11 1,.A 11 22])
 | 7=>.R [.V 12 .lss 11 10] (.seq (.W 12 (.skip) (.exit 0)) (.n 6))
 | _=>.skip
def body:C:=.R [.mv 2 (.c (.sl 1 []))] (.R [.mv 3 (.i 0)] (.seq (.R [.A 9 0,.Y 10 9,.mv 11 (.i 0)] (.J 0 5)) (.n 4)))
def rs:List RV:=[.t 2]
attribute [push_cast] nd body
theorem ok:Bh prog Ce nd body 1 rs=true:=by kernel_rfl
abbrev L3 (a b c d:V)(B:Nat)(H:Di)(Q:QX):Prop:=Ax prog nd B (E1 3 1 2 0) [(6,a),(25,b),(26,c),(27,d)] H Q
abbrev L7 (a b c d e:V)(B:Nat)(H:Di)(Q:QX):Prop:=Ax prog nd B (E1 7 5 0 4) [(0,a),(3,b),(9,c),(10,d),(11,e)] H Q
end Cz
namespace Ir
def nd:Nat->C
 | 0=>.R [.B 25 5,.A 4 25] (.ret)
 | 1=>.blk 1 (.R [.D 12 1 7,.B 13 12,.A 14 13,.P 14 true [15,16,17,18] [.D 15 0 7,.B 16 15,.B 17 3,.V 18 .eql 16 17],.N 19 14 18] (.W 19 (.dr [0,1,2,3,4,5] [.B 20 5,.A 21 6,.U 22 Ak [.s 21],.bs 23 1 [.s 22],.app 24 MA 1 24 (.s 20) (.s 23),.K 1 5 24]) (.skip)))
 | _=>.skip
def body:C:=.R [.Z 2 A2 0,.Z 3 C5 1,.mv 4 (.c (.sl 1 []))] (.R [.al 5 aw [.nil],.ono MA 1 0 (.s 5)] (.seq (.R [.E 8 3 2,.U 9 EE [.s 8]] (.blk 0 (.rf (.s 9) [10,11] (.R [.A 6 10] (.reg [.al 7 A2 CR,.L 7 3 11])) (.m 1)))) (.n 0)))
def rs:List RV:=[.t 4]
attribute [push_cast] nd body
theorem ok:Bh prog Ha nd body 2 rs=true:=by kernel_rfl
end Ir
namespace LD
def nd:Nat->C
 | 0=>.R [.E 30 3 2,.K 3 4 30,.mv 5 (.c (.bool true))] (.ret)
 | 1=>.gh [.ks 2 [2,4,8,9,10]] (.m 3)
 | 2=>.seq (.blk 1 (.R [.G 12 1 8 10,.B 13 12,.A 7 13] (.seq (.R [.A 14 7,.X 15 .lss 14 0,.A 16 15,.P 16 false [17,18,19,20,21] [.A 17 7,.D 18 2 2,.B 19 18,.Y 20 19,.V 21 .geq 17 20],.M 22 16 21] (.W 22 (.R [.bd 23 CR [],.K 3 4 23,.mv 5 (.c (.bool false))] (.ret)) (.skip))) (.reg [.D 24 2 2,.B 25 24,.A 26 7,.G 27 3 25 26,.E 28 3 27,.K 3 2 28])))) (.reg [.X 29 .add 10 1,.A 10 29])
 | 3=>.R [.V 11 .lss 10 9] (.seq (.W 11 (.skip) (.exit 0)) (.n 2))
 | _=>.skip
def body:C:=.R [.bx 2 A2 (.s 0),.al 4 A2 CR,.mv 5 (.c (.bool false))] (.seq (.R [.A 8 1,.Y 9 8,.mv 10 (.i 0)] (.J 0 1)) (.n 0))
def rs:List RV:=[.a 4 3,.t 5]
attribute [push_cast] nd body
theorem ok:Bh prog RR nd body 2 rs=true:=by kernel_rfl
abbrev L3 (a b c d e:V)(B:Nat)(H:Di)(Q:QX):Prop:=Ax prog nd B (E1 3 1 0 0) [(2,a),(4,b),(8,c),(9,d),(10,e)] H Q
end LD
namespace MJ
def nd (_:Nat):C:=.skip
def body:C:=.R [.Z 2 A8 0,.Z 3 A8 1,.mv 4 (.c (.bool false))] (.R [.D 5 0 2,.B 6 5,.D 7 0 3,.B 8 7,.V 9 .eql 6 8,.A 10 9,.P 10 true [11,12,13,14,15] [.D 11 1 2,.B 12 11,.D 13 1 3,.B 14 13,.V 15 .eql 12 14],.N 16 10 15,.A 17 16,.P 17 true [18,19,20,21,22] [.D 18 2 2,.B 19 18,.D 20 2 3,.B 21 20,.bb 22 .eql (.s 19) (.s 21)],.N 23 17 22,.A 24 23,.P 24 true [25,26,27,28,29] [.D 25 3 2,.B 26 25,.D 27 3 3,.B 28 27,.U 29 Bq [.s 26,.s 28,(.f Hj)]],.N 30 24 29,.A 4 30] (.ret))
def rs:List RV:=[.t 4]
attribute [push_cast] nd body
theorem ok:Bh prog Hj nd body 2 rs=true:=by kernel_rfl
end MJ
namespace Fw
def nd:Nat->C
 | 0=>.R [.A 18 0,.bin 19 .neq (.s 18) (.c (.str [])),.A 20 19,.P 20 true [21,22] [.A 21 0,.U 22 JJ [.s 21]],.N 23 20 22,.A 4 23] (.ret)
 | 1=>.seq (.R [.A 8 1,.A 9 8,.P 9 true [10,11] [.A 10 0,.U 11 KD [.s 10]],.N 12 9 11] (.W 12 (.reg [.A 13 0,.A 14 0,.lens 15 (.s 14),.X 16 .sub 15 1,.sxs 17 (.s 13) none (some (.s 16)),.A 0 17]) (.skip))) (.n 0)
 | _=>.skip
def body:C:=.R [.mv 4 (.c (.bool false))] (.seq (.R [.A 5 0,.lens 6 (.s 5),.X 7 .gtr 6 24] (.W 7 (.R [.mv 4 (.c (.bool false))] (.ret)) (.skip))) (.n 1))
def rs:List RV:=[.t 4]
attribute [push_cast] nd body
theorem ok:Bh prog Iu nd body 2 rs=true:=by kernel_rfl
end Fw
namespace EF
def nd:Nat->C
 | 0=>.R [.A 34 3,.A 2 34] (.ret)
 | 1=>.gh [.ks 1 [3,11,12,13]] (.m 6)
 | 2=>.gh [.ks 2 [3,4,11,12,13,19,20,21]] (.m 4)
 | 3=>.seq (.blk 3 (.R [.G 23 1 19 21,.B 24 23,.A 7 24] (.reg [.A 25 3,.A 26 4,.bo 27 t_int 1 [.s 26],.A 28 7,.app 29 t_int 1 8 (.s 27) (.s 28),.bs 30 1 [.s 29],.app 31 MA 1 24 (.s 25) (.s 30),.A 3 31]))) (.reg [.X 32 .add 21 1,.A 21 32])
 | 4=>.R [.V 22 .lss 21 20] (.seq (.W 22 (.skip) (.exit 2)) (.n 3))
 | 5=>.seq (.blk 1 (.R [.A 15 13,.G 16 3 11 13,.E 17 3 16,.al 5 A2 CR,.A 4 15,.L 5 3 17] (.R [.E 18 3 5,.U 19 FP [.s 18],.Y 20 19,.mv 21 (.i 0)] (.J 2 2)))) (.reg [.X 33 .add 13 1,.A 13 33])
 | 6=>.R [.V 14 .lss 13 12] (.seq (.W 14 (.skip) (.exit 0)) (.n 5))
 | _=>.skip
def body:C:=.R [.Z 1 A2 0,.mv 2 (.c (.sl 1 []))] (.R [.bs 8 1 [],.bo 9 MA 1 [.s 8],.A 3 9] (.seq (.R [.D 10 2 1,.B 11 10,.Y 12 11,.mv 13 (.i 0)] (.J 0 1)) (.n 0)))
def rs:List RV:=[.t 2]
attribute [push_cast] nd body
theorem ok:Bh prog FP nd body 1 rs=true:=by kernel_rfl
abbrev L4 (a b c d e f g h:V)(B:Nat)(H:Di)(Q:QX):Prop:=Ax prog nd B [.c (.m 4),.c (.loop (.n 2)),.mk 2,.mk 1,.c (.reg [.X 33 .add 13 1,.A 13 33]),.c (.loop (.n 1)),.mk 0,.c (.n 0)] [(3,a),(4,b),(11,c),(12,d),(13,e),(19,f),(20,g),(21,h)] H Q
abbrev L6 (a b c d:V)(B:Nat)(H:Di)(Q:QX):Prop:=Ax prog nd B (E1 6 1 0 0) [(3,a),(11,b),(12,c),(13,d)] H Q
end EF
namespace Ut
def nd:Nat->C
 | 0=>.R [.E 30 3 2,.K 3 4 30,.mv 5 (.c (.bool true))] (.ret)
 | 1=>.gh [.ks 2 [2,4,8,9,10]] (.m 3)
 | 2=>.seq (.blk 1 (.R [.G 12 1 8 10,.B 13 12,.A 7 13] (.seq (.R [.A 14 7,.X 15 .lss 14 0,.A 16 15,.P 16 false [17,18,19,20,21] [.A 17 7,.D 18 2 2,.B 19 18,.Y 20 19,.V 21 .geq 17 20],.M 22 16 21] (.W 22 (.R [.bd 23 CR [],.K 3 4 23,.mv 5 (.c (.bool false))] (.ret)) (.skip))) (.reg [.D 24 2 2,.B 25 24,.A 26 7,.G 27 3 25 26,.E 28 3 27,.K 3 2 28])))) (.reg [.X 29 .add 10 1,.A 10 29])
 | 3=>.R [.V 11 .lss 10 9] (.seq (.W 11 (.skip) (.exit 0)) (.n 2))
 | _=>.skip
def body:C:=.R [.bx 2 A2 (.s 0),.al 4 A2 CR,.mv 5 (.c (.bool false))] (.seq (.R [.A 8 1,.Y 9 8,.mv 10 (.i 0)] (.J 0 1)) (.n 0))
def rs:List RV:=[.a 4 3,.t 5]
attribute [push_cast] nd body
theorem ok:Bh prog Q0 nd body 2 rs=true:=by kernel_rfl
abbrev L3 (a b c d e:V)(B:Nat)(H:Di)(Q:QX):Prop:=Ax prog nd B (E1 3 1 0 0) [(2,a),(4,b),(8,c),(9,d),(10,e)] H Q
end Ut
namespace F0
def nd:Nat->C
 | 0=>.R [.A 72 0,.A 6 72,.mv 7 (.c (.bool true))] (.ret)
 | 1=>.gh [.ks 0 [0,4,5,49,50]] (.m 3)
 | 2=>.seq (.blk 1 (.R [.A 52 50,.A 8 52] (.seq (.dr [0,1,2,3,4,5,6,7,8,9,10,11,12,13,14,15,16] [.A 54 0,.D 55 2 4,.B 56 55,.A 57 8,.G 58 3 56 57,.E 59 3 58,.D 60 2 5,.B 61 60,.A 62 8,.G 63 3 61 62,.E 64 3 63,.U 65 MI [.s 54,.s 59,.s 64],.A 53 65,.F 66 53 0,.F 67 53 1,.A 9 66,.A 10 67]) (.seq (.R [.A 68 10,.Q 69 68] (.W 69 (.R [.mv 6 (.c (.sl 4 [])),.mv 7 (.c (.bool false))] (.ret)) (.skip))) (.reg [.A 70 9,.A 0 70]))))) (.reg [.X 71 .add 50 1,.A 50 71])
 | 3=>.R [.V 51 .lss 50 49] (.seq (.W 51 (.skip) (.exit 0)) (.n 2))
 | 4=>.seq (.R [.D 47 2 5,.B 48 47,.Y 49 48,.mv 50 (.i 0)] (.J 0 1)) (.n 0)
 | 5=>.seq (.R [.D 29 1 5,.B 30 29,.A 31 30,.P 31 false [32,33,34,35,36] [.D 32 0 5,.B 33 32,.D 34 0 4,.B 35 34,.V 36 .neq 33 35],.M 37 31 36,.A 38 37,.P 38 false [39,40,41,42,43,44,45] [.D 39 2 5,.B 40 39,.Y 41 40,.D 42 2 4,.B 43 42,.Y 44 43,.V 45 .neq 41 44],.M 46 38 45] (.W 46 (.R [.mv 6 (.c (.sl 4 [])),.mv 7 (.c (.bool false))] (.ret)) (.skip))) (.n 4)
 | 6=>.R [.A 24 0,.D 25 0 4,.B 26 25,.E 27 3 5,.U 28 OR [.s 24,.s 26,.s 27],.A 6 28,.mv 7 (.c (.bool true))] (.ret)
 | _=>.skip
def body:C:=.R [.Z 4 A2 1,.Z 5 A2 2,.mv 6 (.c (.sl 4 [])),.mv 7 (.c (.bool false))] (.seq (.R [.D 11 1 4,.B 12 11] (.W 12 (.seq (.R [.A 13 0,.D 14 0 4,.B 15 14,.U 16 K6 [.s 13,.s 15]] (.W 16 (.seq (.dr [0,1,2,3,4,5,6,7,8] [.A 17 0,.A 18 0,.D 19 0 4,.B 20 19,.U 21 Gm [.s 18,.s 20],.E 22 3 5,.U 23 Qy [.s 21,.s 22],.A 6 17,.A 7 23]) (.ret)) (.skip))) (.n 6)) (.skip))) (.n 5))
def rs:List RV:=[.t 6,.t 7]
attribute [push_cast] nd body
theorem ok:Bh prog MI nd body 3 rs=true:=by kernel_rfl
abbrev L3 (a b c d e:V)(B:Nat)(H:Di)(Q:QX):Prop:=Ax prog nd B (E1 3 1 0 0) [(0,a),(4,b),(5,c),(49,d),(50,e)] H Q
end F0
namespace En
def nd:Nat->C
 | 0=>.R [.mv 2 (.i 0)] (.ret)
 | 1=>.gh [.ks 0 [9,10,11]] (.m 3)
 | 2=>.seq (.blk 1 (.R [.G 13 6 9 11,.E 14 6 13,.al 4 Ch [.str [],.bool false,.sl 3 [],.str [],.bool false,.sl 3 []],.L 4 6 14] (.R [.D 15 0 4,.E 16 3 15,.D 17 3 4,.E 18 3 17,.bs 19 3 [.s 16,.s 18],.U 20 Sv [.s 19],.A 5 20] (.R [.A 21 5,.J 22 21] (.W 22 (.R [.A 23 5,.A 2 23] (.ret)) (.skip)))))) (.reg [.X 24 .add 11 1,.A 11 24])
 | 3=>.R [.V 12 .lss 11 10] (.seq (.W 12 (.skip) (.exit 0)) (.n 2))
 | 4=>.seq (.R [.A 9 0,.Y 10 9,.mv 11 (.i 0)] (.J 0 1)) (.n 0)
 | _=>.skip
def body:C:=.R [.mv 2 (.i 0)] (.seq (.R [.A 6 0,.Y 7 6,.X 8 .gtr 7 64] (.W 8 (.R [.mv 2 (.i 3)] (.ret)) (.skip))) (.n 4))
def rs:List RV:=[.t 2]
attribute [push_cast] nd body
theorem ok:Bh prog IH nd body 1 rs=true:=by kernel_rfl
abbrev L3 (a b c:V)(B:Nat)(H:Di)(Q:QX):Prop:=Ax prog nd B (E1 3 1 0 0) [(9,a),(10,b),(11,c)] H Q
end En
namespace Ey
def nd:Nat->C
 | 0=>.R [.B 57 4,.K 1 2 57,.st 1 (.s 3) (.c (.bool true))] (.ret)
 | 1=>.gh [.ks 4 [2,3,4,10,14,15,16]] (.m 8)
 | 2=>.gh [.ks 5 [2,3,4,10,14,15,16,24,25]] (.m 6)
 | 3=>.seq (.R [.B 35 4,.D 36 0 10,.B 37 36,.lkp 38 true true (.int .i64 0) (.s 35) (.s 37),.A 34 38,.F 39 34 0,.F 40 34 1,.A 11 39,.A 12 40] (.R [.A 41 12,.A 42 41,.P 42 true [43,44,45,46,47] [.A 43 11,.D 44 2 10,.B 45 44,.Y 46 45,.V 47 .neq 43 46],.N 48 42 47] (.W 48 (.R [.st 1 (.s 2) (.c .nilm),.st 1 (.s 3) (.c (.bool false))] (.ret)) (.skip)))) (.reg [.B 49 4,.D 50 0 10,.B 51 50,.D 52 2 10,.B 53 52,.Y 54 53,.mup true (.s 49) (.s 51) (.s 54)])
 | 4=>.blk 5 (.seq (.R [.D 32 1 10,.B 33 32] (.W 33 (.exit 5) (.skip))) (.n 3))
 | 5=>.seq (.blk 3 (.R [.ixa 27 3 2 (some 3) (.s 24) (.s 25),.al 8 A2 CR,.L 8 3 27] (.R [.E 28 3 8,.U 29 EE [.s 28]] (.blk 4 (.rf (.s 29) [30,31] (.reg [.al 10 A2 CR,.L 10 3 31]) (.m 4)))))) (.reg [.X 55 .add 25 1,.A 25 55])
 | 6=>.R [.X 26 .lss 25 2] (.seq (.W 26 (.skip) (.exit 2)) (.n 5))
 | 7=>.seq (.blk 1 (.R [.G 18 6 14 16,.E 19 6 18,.al 6 Ch [.str [],.bool false,.sl 3 [],.str [],.bool false,.sl 3 []],.L 6 6 19] (.R [.D 20 0 6,.E 21 3 20,.D 22 3 6,.E 23 3 22,.bd 24 [.str [],.bool false,.sl 3 [],.str [],.bool false,.sl 3 []] [(0,3,(.s 21)),(3,3,(.s 23))],.mv 25 (.i 0)] (.J 2 2)))) (.reg [.X 56 .add 16 1,.A 16 56])
 | 8=>.R [.V 17 .lss 16 15] (.seq (.W 17 (.skip) (.exit 0)) (.n 7))
 | _=>.skip
def body:C:=.R [.al 2 IQ [.nilm],.al 3 jK [.bool false]] (.R [.mkm 13,.al 4 IQ [.nilm],.K 1 4 13] (.seq (.R [.A 14 0,.Y 15 14,.mv 16 (.i 0)] (.J 0 1)) (.n 0)))
def rs:List RV:=[.c 2,.c 3]
attribute [push_cast] nd body
theorem ok:Bh prog Ia nd body 1 rs=true:=by kernel_rfl
abbrev L6 (a b c d e f g h i:V)(B:Nat)(H:Di)(Q:QX):Prop:=Ax prog nd B [.c (.m 6),.c (.loop (.n 2)),.mk 2,.mk 1,.c (.reg [.X 56 .add 16 1,.A 16 56]),.c (.loop (.n 1)),.mk 0,.c (.n 0)] [(2,a),(3,b),(4,c),(10,d),(14,e),(15,f),(16,g),(24,h),(25,i)] H Q
abbrev L8 (a b c d e f g:V)(B:Nat)(H:Di)(Q:QX):Prop:=Ax prog nd B (E1 8 1 0 0) [(2,a),(3,b),(4,c),(10,d),(14,e),(15,f),(16,g)] H Q
end Ey
namespace Qo
def nd (_:Nat):C:=.skip
def body:C:=.R [.mv 2 (.c (.bool false))] (.R [.A 3 0,.U 4 Hb [.s 3,(.c (.str [35]))],.A 2 4] (.ret))
def rs:List RV:=[.t 2]
attribute [push_cast] nd body
theorem ok:Bh prog N1 nd body 1 rs=true:=by kernel_rfl
end Qo
namespace CU
def nd (_:Nat):C:=.skip
def body:C:=.R [.mv 4 (.c (.bool false))] (.R [.A 5 0,.A 6 1,.U 7 Dd [.s 5,.s 6],.X 8 .geq 7 0,.A 4 8] (.ret))
def rs:List RV:=[.t 4]
attribute [push_cast] nd body
theorem ok:Bh prog BP nd body 2 rs=true:=by kernel_rfl
end CU
namespace OH
def nd (_:Nat):C:=.skip
def body:C:=.R [.Z 1 Ch 0,.mv 2 (.c (.bool false))] (.R [.D 4 0 1,.E 5 3 4,.bs 6 3 [.s 5],.U 7 CN [.s 6],.al 3 YI [.sl 1 []],.L 3 1 7] (.R [.D 8 0 1,.D 9 1 8,.B 10 9,.A 11 10,.P 11 false [12,13,14,15,16,17] [.D 12 3 1,.E 13 3 12,.bs 14 3 [.s 13],.U 15 CN [.s 14],.mf 16 QD [] [.s 3],.U 17 Bv [.s 15,.s 16]],.M 18 11 17,.A 2 18] (.ret)))
def rs:List RV:=[.t 2]
attribute [push_cast] nd body
theorem ok:Bh prog KB nd body 1 rs=true:=by kernel_rfl
end OH
namespace TQ
def nd:Nat->C
 | 0=>.R [.A 16 3,.A 2 16] (.ret)
 | 1=>.gh [.ks 0 [3,6,7,8]] (.m 3)
 | 2=>.seq (.blk 1 (.R [.G 10 3 6 8,.E 11 3 10,.al 5 A2 CR,.L 5 3 11] (.reg [.E 12 3 5,.A 13 3,.U 14 JB [.s 12,.s 13],.A 3 14]))) (.reg [.X 15 .add 8 1,.A 8 15])
 | 3=>.R [.V 9 .lss 8 7] (.seq (.W 9 (.skip) (.exit 0)) (.n 2))
 | _=>.skip
def body:C:=.R [.mv 2 (.c (.sl 1 []))] (.R [.mv 3 (.c (.sl 1 []))] (.seq (.R [.A 6 0,.Y 7 6,.mv 8 (.i 0)] (.J 0 1)) (.n 0)))
def rs:List RV:=[.t 2]
attribute [push_cast] nd body
theorem ok:Bh prog Oe nd body 1 rs=true:=by kernel_rfl
abbrev L3 (a b c d:V)(B:Nat)(H:Di)(Q:QX):Prop:=Ax prog nd B (E1 3 1 0 0) [(3,a),(6,b),(7,c),(8,d)] H Q
end TQ
end Go.Dw
end
