/-
  Contracts and lemmas for ResidualProjects: part d of 11.
-/
import Derived.Test.YtkdcfkfdkimaeaaGreatDoorPac
import Derived.Test.YtkdcfkfdkimaeaaGreatDoorProg
set_option linter.unusedVariables false
set_option linter.unusedSimpArgs false
set_option maxRecDepth 100000
section
namespace Go.Dw
section
variable {P:Program} {N:Nat->C} {B:Nat} {s:List K} {t:T} {H:List Ob} {Q:X->T->List Ob->Prop}
theorem qi:Ax P N B [] t H Q↔Q .fall t H:=⟨fun h=>by cases h;assumption,.done⟩
theorem se:Ax P N B (.c .skip::s) t H Q↔Ax P N B s t H Q:=⟨fun h=>by cases h;assumption,.skip⟩
theorem vM {a b:C}:Ax P N B (.c (.seq a b)::s) t H Q↔Ax P N B (.c a::.c b::s) t H Q:=⟨fun h=>by cases h;assumption,.seq⟩
theorem xV {l:List S}:Ax P N B (.c (.reg l)::s) t H Q↔Ax P N B (.r l::s) t H Q:=⟨fun h=>by cases h;assumption,.reg⟩
theorem AaH {π:List Nat}{l:List S}:Ax P N B (.c (.dr π l)::s) t H Q↔Ax P N B (.r l::s) t H Q:=⟨fun h=>by cases h;assumption,.dr⟩
theorem AbZ {l:List I}{c:C}:Ax P N B (.c (.gh l c)::s) t H Q↔Ax P N B (.r (l.map .op)::.c c::s) t H Q:=⟨fun h=>by cases h;assumption,.gh⟩
theorem ve:Ax P N B (.r []::s) t H Q↔Ax P N B s t H Q:=⟨fun h=>by cases h;assumption,.rend⟩
theorem vV {id:Nat}{a:C}:Ax P N B (.c (.blk id a)::s) t H Q↔Ax P N B (.c a::.mk id::s) t H Q:=⟨fun h=>by cases h;assumption,.blk⟩
theorem AaQ {id:Nat}:Ax P N B (.mk id::s) t H Q↔Ax P N B s t H Q:=⟨fun h=>by cases h;assumption,.mk⟩
theorem ss {a:C}:Ax P N B (.c (.loop a)::s) t H Q↔Ax P N B (.c a::.c (.loop a)::s) t H Q:=⟨fun h=>by cases h;assumption,.loop⟩
theorem xR:Ax P N B (.c .ret::s) t H Q↔Q .ret t H:=⟨fun h=>by cases h;assumption,.ret⟩
abbrev DA (a b c d : Nat) : List K := [.c (.m a),.c (.loop (.n b)),.mk c,.c (.n d)]
abbrev CX := List Ob
abbrev QX := X->T->List Ob->Prop
theorem A5 {k:Nat}:Ax P N B (.c (.m k)::s) t H Q↔Ax P N B (.c (N k)::s) t H Q:=⟨fun h=>by cases h;assumption,.m⟩
theorem wM:Ax P N B (.c .bad::s) t H Q↔False:=⟨fun h=>(by cases h),False.elim⟩
/- The continuations are no functions: rewriting would run them ahead of time,with nothing known. -/
def nlP (P:Program)(N:Nat->C)(B:Nat)(l:List S)(s:List K)(t:T)(H:List Ob)(Q:X->T->List Ob->Prop)(d:Nat)(ne:Bool):Option (List (List V))->Prop
 | some els=>∀ c:Bool,(c=true->els=[])->Ax P N B (.r l::s) ((d,.bool (c != ne))::t) H Q
 | none=>False
theorem ug {els:List (List V)}{d:Nat}{ne:Bool}{l:List S}:nlP P N B l s t H Q d ne (some els)=∀ c:Bool,(c=true->els=[])->Ax P N B (.r l::s) ((d,.bool (c != ne))::t) H Q:=rfl
theorem Abq {d:Nat}{ne:Bool}{x:O}{l:List S}:Ax P N B (.r (.nl d ne x::l)::s) t H Q↔nlP P N B l s t H Q d ne (WF (ev t x)):=by
 constructor
 ·intro h
  cases h with
  | nl els h1 h2=>rw[h1];exact h2
 ·intro h
  cases he:WF (ev t x)with
  | none=>rw[he]at h;exact h.elim
  | some els=>rw[he]at h;exact .nl els he h
theorem tC {k:Nat}:Ax P N B (.c (.n k)::s) t H Q↔Ax P N B (.c (N k)::s) t H Q:=⟨fun h=>by cases h;assumption,.n⟩
def goP (P:Program)(N:Nat->C)(B:Nat)(id:Nat)(t:T)(H:List Ob)(Q:X->T->List Ob->Prop):Option (List K)->Prop
 | some s=>Ax P N B s t H Q
 | none=>Q (.exit id) t H
theorem tv {id:Nat}:goP P N B id t H Q (some s)=Ax P N B s t H Q:=rfl
theorem sX {id:Nat}:goP P N B id t H Q none=Q (.exit id) t H:=rfl
theorem qQ {id:Nat}:Ax P N B (.c (.exit id)::s) t H Q↔goP P N B id t H Q (KE id s):=by
 constructor
 ·intro h
  cases h with
  | exit s' h1 h2=>rw[h1];exact h2
  | exitX h1 h2=>rw[h1];exact h2
 ·intro h
  cases hp:KE id s with
  | some s'=>rw[hp]at h;exact .exit s' hp h
  | none=>rw[hp]at h;exact .exitX hp h
def zZ (P:Program)(N:Nat->C)(B:Nat)(l:List S)(s:List K)(Q:X->T->List Ob->Prop):Option (T×List Ob)->Prop
 | some (t,H)=>Ax P N B (.r l::s) t H Q
 | none=>False
theorem sy {l:List S}:zZ P N B l s Q (some (t,H))=Ax P N B (.r l::s) t H Q:=rfl
theorem uu {l:List S}:zZ P N B l s Q none=False:=rfl
theorem yL {c:Prop}[Decidable c]{o:Option (T×List Ob)}{l:List S}:zZ P N B l s Q (if c then o else none)↔c/\zZ P N B l s Q o:=by by_cases h:c<;>simp[h,zZ]
theorem AbQ {i:I}{l:List S}:Ax P N B (.r (.op i::l)::s) t H Q↔zZ P N B l s Q (AB B i t H):=by
 constructor
 ·intro h
  cases h with
  | op t' H' h1 h2=>rw[h1];exact h2
 ·intro h
  cases he:AB B i t H with
  | none=>rw[he]at h;exact h.elim
  | some p=>rw[he]at h;exact .op p.1 p.2 he h
def xm (P:Program)(N:Nat->C)(B:Nat)(l:List S)(s:List K)(Q:X->T->List Ob->Prop)(d:Nat)(t:T)(H:List Ob):Option V->Prop
 | some v=>Ax P N B (.r l::s) ((d,v)::t) H Q
 | none=>False
theorem qp {l:List S}{d:Nat}{v:V}:xm P N B l s Q d t H (some v)=Ax P N B (.r l::s) ((d,v)::t) H Q:=rfl
theorem qw {l:List S}{d:Nat}:xm P N B l s Q d t H none=False:=rfl
theorem xq {l:List S}{d:Nat}{c:Prop}[Decidable c]{o:Option V}:xm P N B l s Q d t H (if c then o else none)↔c/\xm P N B l s Q d t H o:=by by_cases h:c<;>simp[h,xm]
theorem tj {l:List S}{d:Nat}{c:Prop}[Decidable c]{o:Option V}:xm P N B l s Q d t H (if c then none else o)↔¬ c/\xm P N B l s Q d t H o:=by by_cases h:c<;>simp[h,xm]
theorem tg {l:List S}{d:Nat}{o:Option V}:zZ P N B l s Q (B4 d o t H)=xm P N B l s Q d t H o:=by cases o<;>rfl
def o2P (P:Program)(N:Nat->C)(B:Nat)(l:List S)(s:List K)(Q:X->T->List Ob->Prop)(d:Nat)(t:T):Option (V×List Ob)->Prop
 | some p=>Ax P N B (.r l::s) ((d,p.1)::t) p.2 Q
 | none=>False
theorem uQ {l:List S}{d:Nat}{v:V}:o2P P N B l s Q d t (some (v,H))=Ax P N B (.r l::s) ((d,v)::t) H Q:=rfl
theorem pM {l:List S}{d:Nat}:o2P P N B l s Q d t none=False:=rfl
theorem xe {l:List S}{d:Nat}{c:Prop}[Decidable c]{o:Option (V×List Ob)}:o2P P N B l s Q d t (if c then o else none)↔c/\o2P P N B l s Q d t o:=by by_cases h:c<;>simp[h,o2P]
theorem si {l:List S}{d:Nat}{o:Option (V×List Ob)}:zZ P N B l s Q (Qg d o t)=o2P P N B l s Q d t o:=by cases o<;>rfl
def oP (o:Option V)(K:V->Prop):Prop:=match o with
 | some v=>K v
 | none=>False
theorem xn {v:V}{K:V->Prop}:oP (some v) K=K v:=rfl
theorem xL {K:V->Prop}:oP none K=False:=rfl
theorem AaY {c:Prop}[Decidable c]{o:Option V}{K:V->Prop}:oP (if c then o else none) K↔c/\oP o K:=by by_cases h:c<;>simp[h,oP]
theorem xM {c:Prop}[Decidable c]{o:Option V}{K:V->Prop}:oP (if c then none else o) K↔¬ c/\oP o K:=by by_cases h:c<;>simp[h,oP]
def cP (P:Program)(N:Nat->C)(B:Nat)(a b:C)(s:List K)(t:T)(H:List Ob)(Q:X->T->List Ob->Prop):V->Prop
 | .bool c=>(c=true->Ax P N B (.c a::s) t H Q)/\(c=false->Ax P N B (.c b::s) t H Q)
 | _=>False
theorem xh {a b:C}{c:Bool}:cP P N B a b s t H Q (.bool c)=((c=true->Ax P N B (.c a::s) t H Q)/\(c=false->Ax P N B (.c b::s) t H Q)):=rfl
theorem rd {x:O}{a b:C}:Ax P N B (.c (.cond x a b)::s) t H Q↔cP P N B a b s t H Q (ev t x):=by
 constructor
 ·intro h
  cases h with
  | cond c h1 h2 =>
   rw[h1]
   refine⟨fun h=>?_,fun h=>?_⟩<;>subst h<;>exact h2
 ·intro h
  cases hv:ev t x with
  | bool c =>
   rw[hv]at h
   refine .cond c hv ?_
   cases c
   ·exact h.2 rfl
   ·exact h.1 rfl
  | _=>rw[hv]at h;exact h.elim
def gP (P:Program)(N:Nat->C)(B:Nat)(b:Bool)(ds:List Nat)(g l:List S)(s:List K)(t:T)(H:List Ob)(Q:X->T->List Ob->Prop):V->Prop
 | .bool c=>(c=b->Ax P N B (.r (g++l)::s) t H Q)/\(c≠b->Ax P N B (.r l::s) (ds.map (fun d=>(d,V.tup []))++t) H Q)
 | .tup []=>Ax P N B (.r l::s) (ds.map (fun d=>(d,V.tup []))++t) H Q
 | _=>False
theorem xz {c b:Bool}{ds:List Nat}{g l:List S}:gP P N B b ds g l s t H Q (.bool c)=((c=b->Ax P N B (.r (g++l)::s) t H Q)/\(c≠b->Ax P N B (.r l::s) (ds.map (fun d=>(d,V.tup []))++t) H Q)):=rfl
theorem AbD {b:Bool}{ds:List Nat}{g l:List S}:gP P N B b ds g l s t H Q (.tup [])=Ax P N B (.r l::s) (ds.map (fun d=>(d,V.tup []))++t) H Q:=rfl
theorem Ace {x:O}{b:Bool}{ds:List Nat}{g l:List S}:Ax P N B (.r (.gd x b ds g::l)::s) t H Q↔gP P N B b ds g l s t H Q (ev t x):=by
 constructor
 ·intro h
  cases h with
  | gd c h1 h2 =>
   rw[h1]
   refine⟨fun h=>?_,fun h=>?_⟩
   ·simpa[h]using h2
   ·simpa[h]using h2
  | gdU h1 h2=>rw[h1];exact h2
 ·intro h
  have key:∀ c,ev t x=.bool c->Ax P N B (.r (.gd x b ds g::l)::s) t H Q:=fun c hv=>by
   rw[hv]at h
   refine .gd c hv ?_
   by_cases e:c=b
   ·simpa[e]using h.1 e
   ·simpa[e]using h.2 e
  cases hv:ev t x with
  | bool c=>exact key c hv
  | tup l =>
   cases l with
   | nil=>rw[hv]at h;exact .gdU hv h
   | cons y ys=>rw[hv]at h;exact h.elim
  | _=>rw[hv]at h;exact h.elim
theorem rO:Ax P N B (.r [.alt []]::s) t H Q↔True:=⟨fun _=>trivial,fun _=>.alt fun p hp=>by cases hp⟩
theorem uX {p:List Nat×List S}{ls:List (List Nat×List S)}:Ax P N B (.r [.alt (p::ls)]::s) t H Q↔Ax P N B (.r p.2::s) t H Q/\Ax P N B (.r [.alt ls]::s) t H Q:=by
 constructor
 ·intro h
  cases h with
  | alt h=>exact⟨h p (by simp),.alt fun q hq=>h q (List.mem_cons_of_mem _ hq)⟩
 ·rintro ⟨h1,h2⟩
  cases h2 with
  | alt h2 =>
   refine .alt fun q hq=>?_
   rcases List.mem_cons.1 hq with rfl | hq
   ·exact h1
   ·exact h2 q hq
def nxP (P:Program)(N:Nat->C)(B:Nat)(d:Nat)(l:List S)(s:List K)(t:T)(H:List Ob)(Q:X->T->List Ob->Prop):V->Prop
 | .it j=>∃ i n seen es,H[j]?=some (.iter (some i) n seen)/\H[i]?=some (.map es)/\n=es.length/\((∀ k,k<n->k∈seen)->Ax P N B (.r l::s) ((d,.tup [.bool false])::t) H Q) /\
   ∀ k p,es[k]?=some p->k∉seen->Ax P N B (.r l::s) ((d,.tup [.bool true,p.1,p.2])::t) (H.set j (.iter (some i) n (seen++[k]))) Q
 | _=>False
theorem ck {d:Nat}{l:List S}{j:Nat}(i n:Nat)(seen:List Nat)(es:List (V×V))(h1:H[j]?=some (.iter (some i) n seen))(h2:H[i]?=some (.map es))(h3:n=es.length)
  (h4:(∀ k,k<n->k∈seen)->Ax P N B (.r l::s) ((d,.tup [.bool false])::t) H Q)
  (h5:∀ k p,es[k]?=some p->k∉seen->Ax P N B (.r l::s) ((d,.tup [.bool true,p.1,p.2])::t) (H.set j (.iter (some i) n (seen++[k]))) Q):nxP P N B d l s t H Q (.it j):=⟨i,n,seen,es,h1,h2,h3,h4,h5⟩
theorem Abk {d:Nat}{x:O}{l:List S}:Ax P N B (.r (.nx d x::l)::s) t H Q↔nxP P N B d l s t H Q (ev t x):=by
 constructor
 ·intro h
  cases h with
  | nx j i n seen es h1 h2 h3 h4 h5 h6 =>
   rw[h1]
   exact⟨i,n,seen,es,h2,h3,h4,h5,h6⟩
 ·intro h
  cases hv:ev t x with
  | it j =>
   rw[hv]at h
   obtain⟨i,n,seen,es,h1,h2,h3,h4,h5⟩:=h
   exact .nx j i n seen es hv h1 h2 h3 h4 h5
  | _=>rw[hv]at h;exact h.elim
def eA (P:Program)(N:Nat->C)(B:Nat)(d:Option Nat)(l:List S)(s:List K)(t:T)(H:List Ob)(Q:X->T->List Ob->Prop)(f:Nat)(vs:List V):Prop :=
 ∃ x,Spec P f vs [] (fun x' H'=>x'=x/\H'=[])/\Ax P N B (.r l::s) (FZ d (ren (fun _=>none) x) t) H Q
theorem mB {d:Option Nat}{f:Nat}{args:List O}{l:List S}:Ax P N B (.r (.callp d f args::l)::s) t H Q↔eA P N B d l s t H Q f (AS (fun _=>none) (args.map (ev t))):=by
 constructor
 ·intro h
  cases h with
  | callp x h1 h2=>exact⟨x,h1,h2⟩
 ·rintro ⟨x,h1,h2⟩
  exact .callp x h1 h2
def fnP (P:Program)(N:Nat->C)(B:Nat)(d:Option Nat)(args:List O)(l:List S)(s:List K)(t:T)(H:List Ob)(Q:X->T->List Ob->Prop):V->Prop
 | .fn (.func f) fst caps=>eA P N B d l s t H Q f (AS (fun _=>none) (fst++args.map (ev t)++caps))
 | _=>False
theorem AaJ {d:Option Nat}{args:List O}{l:List S}{f:Nat}{fst caps:List V}:fnP P N B d args l s t H Q (.fn (.func f) fst caps)=eA P N B d l s t H Q f (AS (fun _=>none) (fst++args.map (ev t)++caps)):=rfl
theorem jj {d:Option Nat}{g:O}{args:List O}{l:List S}:Ax P N B (.r (.callvp d g args::l)::s) t H Q↔fnP P N B d args l s t H Q (ev t g):=by
 constructor
 ·intro h
  cases h with
  | callvp f fst caps x h0 h1 h2=>rw[h0];exact⟨x,h1,h2⟩
 ·intro h
  unfold fnP at h
  split at h
  ·rename_i f a c hv
   obtain⟨x,h1,h2⟩:=h
   exact .callvp f a c x hv h1 h2
  ·exact h.elim
theorem eA.of {d:Option Nat}{l:List S}{f:Nat}{vs:List V}{x:V}(h:Spec P f vs [] (fun x' H'=>x'=x/\H'=[]))(k:Ax P N B (.r l::s) (FZ d (ren (fun _=>none) x) t) H Q):eA P N B d l s t H Q f vs:=⟨x,h,k⟩
theorem AeN {n:Nat}:ev t (.s n)=lk t n:=rfl
theorem Ae9 {v:V}:ev t (.c v)=v:=rfl
theorem AeV {f:Nat}:ev t (.f f)=.fn (.func f) [] []:=rfl
theorem AbC {n:Nat}:lk [] n=.any:=rfl
theorem vH {m n:Nat}{v:V}:lk ((m,v)::t) n=if m=n then v else lk t n:=by
 unfold lk;simp only[find];split<;>rfl
theorem fS {rs:List RV}{Q:V->List Ob->Prop}{e:X}(he:e=.ret\/e=.fall){x:V}(h:Uh rs t H=some x)(hq:Q (ren (fun _=>none) x) []):Bo 0 rs Q e t H :=
 ⟨he,.inr ⟨[],x,by simp,by simp,h,hq⟩⟩
theorem DJ {rs:List RV}{Q:V->List Ob->Prop}{e:X}(he:e=.ret\/e=.fall){x:V}(h:Uh rs t H=some x)(hq:Q x H):Bo B rs Q e t H :=
 ⟨he,.inl ⟨x,h,hq⟩⟩
theorem SX {rs:List RV}{Q:V->List Ob->Prop}{e:X}(he:e=.ret\/e=.fall)(ex:List Nat){x:V}(hnd:(List.range B++ex).Nodup)(hlt:∀ i∈ex,i<H.length)(h:Uh rs t H=some x)
  (hq:Q (ren (Az (List.range B++ex)) x) (give (List.range B++ex) H)):Bo B rs Q e t H:=⟨he,.inr ⟨ex,x,hnd,hlt,h,hq⟩⟩
def BD (P:Program)(N:Nat->C)(B:Nat)(d:Option Nat)(l:List S)(s:List K)(t:T)(Q:X->T->List Ob->Prop)(F:Fn)(vs:List V)(H:List Ob):Prop :=
 (∃ R,HC P F vs H R/\∀ x H',R x H'->Ax P N B (.r l::s) (FZ d x t) H' Q) \/
  ∃ idx R,idx.Nodup/\(∀ i∈idx,i<H.length)/\HC P F (AS (Az idx) vs) (give idx H) R/\∀ x H',R x H'->idx.length<=H'.length->Ax P N B (.r l::s) (FZ d (ren (C5 idx H.length) x) t) (takeB idx H H') Q
theorem BD.all {d:Option Nat}{l:List S}{F:Fn}{vs:List V}{R:V->List Ob->Prop}(h:HC P F vs H R)(k:∀ x H',R x H'->Ax P N B (.r l::s) (FZ d x t) H' Q):BD P N B d l s t Q F vs H:=.inl ⟨R,h,k⟩
theorem BD.some {d:Option Nat}{l:List S}{F:Fn}{vs:List V}(idx:List Nat){R:V->List Ob->Prop}(h1:idx.Nodup)(h2:∀ i∈idx,i<H.length)(h:HC P F (AS (Az idx) vs) (give idx H) R)
  (k:∀ x H',R x H'->idx.length<=H'.length->Ax P N B (.r l::s) (FZ d (ren (C5 idx H.length) x) t) (takeB idx H H') Q):BD P N B d l s t Q F vs H:=.inr ⟨idx,R,h1,h2,h,k⟩
theorem qy {d:Option Nat}{f:Nat}{args:List O}{l:List S}:Ax P N B (.r (.call d f args::l)::s) t H Q↔BD P N B d l s t Q (.func f) (args.map (ev t)) H:=by
 constructor
 ·intro h
  cases h with
  | callA R h1 h2=>exact .inl ⟨R,h1,h2⟩
  | call idx R h1 h2 h3 h4=>exact .inr ⟨idx,R,h1,h2,h3,h4⟩
 ·rintro (⟨R,h1,h2⟩|⟨idx,R,h1,h2,h3,h4⟩)
  ·exact .callA R h1 h2
  ·exact .call idx R h1 h2 h3 h4
def fnG (P:Program)(N:Nat->C)(B:Nat)(d:Option Nat)(args:List O)(l:List S)(s:List K)(t:T)(H:List Ob)(Q:X->T->List Ob->Prop):V->Prop
 | .fn F fst caps=>((∃ f,F=.func f)\/caps=[])/\BD P N B d l s t Q F (fst++args.map (ev t)++caps) H
 | _=>False
theorem ui {d:Option Nat}{args:List O}{l:List S}{f:Nat}{a c:List V}:fnG P N B d args l s t H Q (.fn (.func f) a c)=BD P N B d l s t Q (.func f) (a++args.map (ev t)++c) H:=by simp[fnG]
theorem wA {d:Option Nat}{args:List O}{l:List S}{F:Fn}{a:List V}:fnG P N B d args l s t H Q (.fn F a [])=BD P N B d l s t Q F (a++args.map (ev t)++[]) H:=by simp[fnG]
theorem mQ {d:Option Nat}{g:O}{args:List O}{l:List S}:Ax P N B (.r (.callv d g args::l)::s) t H Q↔fnG P N B d args l s t H Q (ev t g):=by
 constructor
 ·intro h
  cases h with
  | callvA F fst caps R h0 hF h1 h2=>rw[h0];exact⟨hF,.inl ⟨R,h1,h2⟩⟩
  | callv F fst caps idx R h0 hF h1 h2 h3 h4=>rw[h0];exact⟨hF,.inr ⟨idx,R,h1,h2,h3,h4⟩⟩
 ·intro h
  unfold fnG at h
  split at h
  ·rename_i F fst caps hv
   obtain⟨hF,h⟩:=h
   rcases h with ⟨R,h1,h2⟩|⟨idx,R,h1,h2,h3,h4⟩
   ·exact .callvA F fst caps R hv hF h1 h2
   ·exact .callv F fst caps idx R hv hF h1 h2 h3 h4
  ·exact h.elim
def brP (o:Option Ob)(l:Nat)(K:Loop->T->Prop):Prop:=match o with
 | some (.lp l' .ready r ts)=>l'=l/\K r ts
 | _=>False
theorem sZ {l l':Nat}{r:Loop}{ts:T}{K:Loop->T->Prop}:brP (some (.lp l' .ready r ts)) l K=(l'=l/\K r ts):=rfl
theorem Aaq {l n:Nat}:Ax P N B (.br l n::s) t H Q↔brP H[n]? l fun r ts=>Ax P N B s t (H.set n (.lp l .busy r ts)) Q:=by
 constructor
 ·intro h
  cases h with
  | br h1 h2=>rw[h1];exact⟨rfl,h2⟩
 ·intro h
  unfold brP at h
  split at h
  ·rename_i l' r ts hh
   obtain⟨rfl,h⟩:=h
   exact .br hh h
  ·exact h.elim
end
theorem Ac {n:Nat}{R:Nat->Prop}(hstep:∀ k,k<n->R (k+1)->R k)(hend:R n):∀ k,k<=n->R k:=by
 intro k hk
 obtain⟨m,rfl⟩:∃ m,n=k+m:=⟨n-k,by omega⟩
 induction m generalizing k with
 | zero=>exact hend
 | succ m ih=>exact hstep k (by omega) (ih (k+1) (fun j hj=>hstep j (by omega)) (by rw[show k+1+m=k+(m+1) by omega];exact hend) (by omega))
theorem zo {σ:Nat->Option Nat}{k:IntKind}{n:Int}:ren σ (.int k n)=.int k n:=rfl
theorem qO {σ:Nat->Option Nat}{b:Bool}:ren σ (.bool b)=.bool b:=rfl
theorem xN {σ:Nat->Option Nat}{s:List UInt8}:ren σ (.str s)=.str s:=rfl
theorem Acw {σ:Nat->Option Nat}{z:Nat}{l:List (List V)}:ren σ (.sl z l)=.sl z l:=rfl
theorem Acq {σ:Nat->Option Nat}{l:List V}{k:Nat}:ren σ (.ro l k)=.ro l k:=rfl
theorem xT {σ:Nat->Option Nat}:ren σ .nil=.nil:=rfl
theorem qA {σ:Nat->Option Nat}:ren σ .nilp=.nilp:=rfl
theorem qJ {σ:Nat->Option Nat}:ren σ .nilm=.nilm:=rfl
theorem uN {σ:Nat->Option Nat}:ren σ .nilf=.nilf:=rfl
theorem vQ {σ:Nat->Option Nat}:ren σ .any=.any:=rfl
theorem Hd {σ:Nat->Option Nat}{l:List V}:ren σ (.agg l)=.agg (AS σ l):=by simp only[ren]
theorem wj {σ:Nat->Option Nat}{l:List V}:ren σ (.tup l)=.tup (AS σ l):=by simp only[ren]
theorem Aca {σ:Nat->Option Nat}{f:Fn}{a l:List V}:ren σ (.fn f a l)=.fn f (AS σ a) (AS σ l):=by simp only[ren]
theorem zm {σ:Nat->Option Nat}{i z:Nat}{l:List (List V)}:ren σ (.own i z l)=match σ i with | some j=>.own j z l | none=>.sl z l:=by simp only[ren];rfl
theorem yS {σ:Nat->Option Nat}{i o:Nat}:ren σ (.ptr i o)=match σ i with | some j=>.ptr j o | none=>.any:=by simp only[ren];rfl
theorem qz {σ:Nat->Option Nat}:AS σ []=[]:=by simp only[AS]
theorem pn {σ:Nat->Option Nat}{x:V}{l:List V}:AS σ (x::l)=ren σ x::AS σ l:=by simp only[AS]
theorem xW {k:IntKind}{n:Int}:KL (.int k n)=some [.int k n]:=rfl
theorem qr {b:Bool}:KL (.bool b)=some [.bool b]:=rfl
theorem xu {s:List UInt8}:KL (.str s)=some [.str s]:=rfl
theorem Abd {z:Nat}{l:List (List V)}:KL (.sl z l)=some [.sl z l]:=rfl
theorem zy {i z:Nat}{l:List (List V)}:KL (.own i z l)=some [.own i z l]:=rfl
theorem vG {l:List V}:KL (.agg l)=some l:=rfl
theorem wG {i:Nat}:KL (.map i)=some [.map i]:=rfl
theorem sw:KL .nilm=some [.nilm]:=rfl
theorem sP:KL .nilf=some [.nilf]:=rfl
theorem uc:KL .nilp=some [.nilp]:=rfl
theorem xI {σ:Nat->Option Nat}{i:Nat}:ren σ (.map i)=match σ i with | some j=>.map j | none=>.any:=by simp only[ren];rfl
theorem Ab8 {σ:Nat->Option Nat}{i:Nat}:ren σ (.it i)=match σ i with | some j=>.it j | none=>.any:=by simp only[ren];rfl
theorem yz:KL .nil=some [.nil]:=rfl
theorem AaG {f:Fn}{a l:List V}:KL (.fn f a l)=some [.fn f a l]:=rfl
theorem wR {i o:Nat}:KL (.ptr i o)=some [.ptr i o]:=rfl
theorem AaA {σ:Nat->Option Nat}{i z n:Nat}:ren σ (.rw i z n)=match σ i with | some j=>.rw j z n | none=>.any:=by simp only[ren];rfl
theorem Acp {σ:Nat->Option Nat}{i n k o:Nat}:ren σ (.rp i n k o)=match σ i with | some j=>.rp j n k o | none=>.any:=by simp only[ren];rfl
theorem Ab9 {i z n:Nat}:KL (.rw i z n)=some [.rw i z n]:=rfl
theorem Aay {i n k o:Nat}:KL (.rp i n k o)=some [.rp i n k o]:=rfl
theorem eU {σ:Nat->Option Nat}{e:Nat}{cs:List V}:A6 σ (.cells e cs)=.cells e (AS σ cs):=rfl
theorem nM {σ:Nat->Option Nat}{e z n:Nat}:A6 σ (.arr e z n)=.arr e z n:=rfl
theorem mO {σ:Nat->Option Nat}{es:List (V×V)}:A6 σ (.map es)=.map (es.map fun p=>(ren σ p.1,ren σ p.2)):=rfl
theorem iQ {σ:Nat->Option Nat}{m:Option Nat}{n:Nat}{s:List Nat}:A6 σ (.iter m n s)=.iter (m.bind σ) n s:=rfl
theorem iD {σ:Nat->Option Nat}:A6 σ .dead=.dead:=rfl
theorem Jv {σ:Nat->Option Nat}{e z:Nat}{els:List (List V)}:A6 σ (.row e z els)=.row e z (els.map (AS σ)):=rfl
theorem sV {σ:Nat->Option Nat}{l:Nat}{st:LS}{r:Loop}{ts:T}:A6 σ (.lp l st r ts)=.lp l st r (ts.map fun p=>(p.1,ren σ p.2)):=rfl
theorem Abu {l:List V}{o:Nat}:KL (.ro l o)=some [.ro l o]:=rfl
theorem Bn {x:Int}(h1:-9223372036854775808<=x)(h2:x<=9223372036854775807):IntKind.i64.wrap x=x:=by
 unfold IntKind.wrap IntKind.bits IntKind.signed;simp;omega
def OP (o:Option Ob)(f:List V->Option V):Option V:=match o with
 | some (.cells _ cs)=>f cs
 | _=>none
theorem fE {e:Nat}{cs:List V}{f:List V->Option V}:OP (some (.cells e cs)) f=f cs:=rfl
theorem Acf {H:List Ob}{cs:List V}{k:Nat}:aB H (.ro cs k)=cs[k]?:=rfl
theorem wV {H:List Ob}{i k:Nat}:aB H (.ptr i k)=OP H[i]? fun cs=>cs[k]?:=by unfold aB OP;rfl
theorem Acs {H:List Ob}{cs:List V}{k n:Nat}:aW n H (.ro cs k)=if k+n<=cs.length then some (.agg (sub k n cs)) else none:=rfl
theorem xP {H:List Ob}{i k n:Nat}:aW n H (.ptr i k)=OP H[i]? fun cs=>if k+n<=cs.length then some (.agg (sub k n cs)) else none:=by unfold aW OP;rfl
def sE (o:Option Ob)(f:List (List V)->Option V):Option V:=match o with
 | some (.row _ _ els)=>f els
 | _=>none
theorem mU {e z:Nat}{els:List (List V)}{f:List (List V)->Option V}:sE (some (.row e z els)) f=f els:=rfl
theorem AcD {H:List Ob}{i n k o:Nat}:aB H (.rp i n k o)=sE H[i]? fun els=>if els.length=n then (els[k]?).bind fun el=>el[o]? else none:=by unfold aB sE;rfl
theorem AcE {H:List Ob}{i n j o k:Nat}:aW k H (.rp i n j o)=sE H[i]? fun els=>if els.length=n then (els[j]?).bind fun el=>if o+k<=el.length then some (.agg (sub o k el)) else none else none:=by unfold aW sE;rfl
theorem Abo {H:List Ob}{i n j o k:Nat}:Ua k H (.rp i n j o)=some (.rp i n j (o+k)):=rfl
theorem Acx {H:List Ob}{i n j o:Nat}:lg H (.rp i n j o)=some (.rp i n j o):=rfl
theorem yR {i z n:Nat}:Wb (.rw i z n)=some (.int .i64 n):=rfl
theorem AaV {z y i m:Nat}{k:IntKind}{n:Int}:oi z (.rw i y m) (.int k n)=if y=z/\0<=n/\n<m then some (.rp i m n.toNat 0) else none:=rfl
theorem Acr {H:List Ob}{cs:List V}{k n:Nat}:Ua n H (.ro cs k)=some (.ro cs (k+n)):=rfl
theorem wa {H:List Ob}{i k n:Nat}:Ua n H (.ptr i k)=OP H[i]? fun _=>some (.ptr i (k+n)):=by unfold Ua OP;rfl
theorem Abw {H:List Ob}{cs:List V}{k:Nat}:lg H (.ro cs k)=some (.ro cs k):=rfl
theorem yh {H:List Ob}{i k:Nat}:lg H (.ptr i k)=OP H[i]? fun _=>some (.ptr i k):=by unfold lg OP;rfl
theorem qk {cs:List V}{k:Nat}:nN k none (.agg cs)=cs[k]?:=rfl
theorem qK {cs:List V}{k n:Nat}:nN k (some n) (.agg cs)=if k+n<=cs.length then some (.agg (sub k n cs)) else none:=rfl
theorem Abz {z:Nat}{l:List (List V)}:WF (.sl z l)=some l:=rfl
theorem wc {i z:Nat}{l:List (List V)}:WF (.own i z l)=some l:=rfl
theorem yd:WF .nil=some []:=rfl
theorem zc {z:Nat}{l:List (List V)}:Wb (.sl z l)=some (.int .i64 l.length):=rfl
theorem pY {i z:Nat}{l:List (List V)}:Wb (.own i z l)=some (.int .i64 l.length):=rfl
theorem tR:Wb .nil=some (.int .i64 0):=rfl
theorem oI {l:List UInt8}:gL (.str l)=some (.int .i64 l.length):=rfl
theorem Abl {z y:Nat}{l:List (List V)}{k:IntKind}{n:Int}:oi z (.sl y l) (.int k n)=if y=z/\0<=n/\n<l.length then some (.ro (l.getD n.toNat []) 0) else none:=rfl
theorem wK {i z y:Nat}{l:List (List V)}{k:IntKind}{n:Int}:oi z (.own i y l) (.int k n)=if y=z/\0<=n/\n<l.length then some (.ro (l.getD n.toNat []) 0) else none:=rfl
theorem vT {l:List UInt8}{k:IntKind}{n:Int}:ixV (.str l) (.int k n)=if 0<=n/\n<l.length then some (.int .u8 (vC l n.toNat)) else none:=rfl
theorem ul {z L:Nat}{o:Option Nat}{x:V}{k:IntKind}{n:Int}:oU z L o x (.int k n)=if 0<=n/\n<L then nN (n.toNat*z) o x else none:=rfl
section
variable {k:IntKind} {a b:Int}
theorem tV:Jh .add (.int k a) (.int k b)=some (.int k (k.wrap (a+b))):=by simp[Jh]
theorem sj:Jh .sub (.int k a) (.int k b)=some (.int k (k.wrap (a-b))):=by simp[Jh]
theorem vh:Jh .mul (.int k a) (.int k b)=some (.int k (k.wrap (a*b))):=by simp[Jh]
theorem rR:Jh .quo (.int k a) (.int k b)=if b=0 then none else some (.int k (k.wrap (a.tdiv b))):=by simp[Jh]
theorem qx:Jh .rem (.int k a) (.int k b)=if b=0 then none else some (.int k (a.tmod b)):=by simp[Jh]
theorem wh {j:IntKind}:shV .shl (.int k a) (.int j b)=if b<0 then none else some (.int k (k.wrap (a*2^(min b.toNat k.bits)))):=rfl
theorem yG {j:IntKind}:shV .shr (.int k a) (.int j b)=if b<0 then none else some (.int k (a.fdiv (2^(min b.toNat k.bits)))):=rfl
theorem rC:Jh .eql (.int k a) (.int k b)=some (.bool (decide (a=b))):=by simp[Jh,MQ,BEq.beq]
theorem tt:Jh .neq (.int k a) (.int k b)=some (.bool (decide (a≠b))):=by simp[Jh,MQ,BEq.beq,bne]
theorem pU:Jh .lss (.int k a) (.int k b)=some (.bool (decide (a<b))):=by simp[Jh,MQ]
theorem sN:Jh .leq (.int k a) (.int k b)=some (.bool (decide (a<=b))):=by simp[Jh,MQ]
theorem tz:Jh .gtr (.int k a) (.int k b)=some (.bool (decide (b<a))):=by simp[Jh,MQ]
theorem qM:Jh .geq (.int k a) (.int k b)=some (.bool (decide (b<=a))):=by simp[Jh,MQ]
end
theorem pI {op:BinOp}{a b:List UInt8}:Jh op (.str a) (.str b)=HZ op a b:=rfl
theorem jB {a b:List UInt8}:HZ .add a b=if a.length+b.length<=C7 then some (.str (a++b)) else none:=rfl
theorem jl {a b:List UInt8}:HZ .eql a b=some (.bool (decide (a=b))):=by by_cases h:a=b<;>simp[HZ,h]
theorem kc {a b:List UInt8}:HZ .neq a b=some (.bool (decide (a≠b))):=by by_cases h:a=b<;>simp[HZ,h]
theorem jF {a b:List UInt8}:HZ .lss a b=some (.bool (Op.bytesLess a b)):=rfl
theorem vS {a b:Bool}:bbV .eql (.bool a) (.bool b)=some (.bool (a==b)):=rfl
theorem wo {a b:Bool}:bbV .neq (.bool a) (.bool b)=some (.bool (a != b)):=rfl
theorem xQ {b:Bool}:unV .not (.bool b)=some (.bool !b):=rfl
theorem zi {k:IntKind}{n:Int}:unV .neg (.int k n)=some (.int k (k.wrap (0-n))):=rfl
theorem wn {l:List V}{i:Nat}:exV i (.tup l)=l[i]?:=rfl
theorem uC {l:List UInt8}{lo hi:Option V}:vi (.str l) lo hi=match eD lo 0,eD hi l.length with
  | some a,some b=>if a<=b/\b<=l.length then some (.str ((l.drop a).take (b-a))) else none
  | _,_=>none:=rfl
theorem uU {n:Nat}:eD none n=some n:=rfl
theorem vK {k:IntKind}{m:Int}{n:Nat}:eD (some (.int k m)) n=if 0<=m then some m.toNat else none:=rfl
section
variable {B:Nat} {t:T} {H:List Ob}
theorem Ac4 {d:Nat}{x:O}:AB B (.mv d x) t H=some ((d,ev t x)::t,H):=rfl
theorem yM {d:Nat}{c:O}{a:O}{b:O}:AB B (.pick d c a b) t H=(match ev t c with
  | .bool c=>some ((d,if c then ev t a else ev t b)::t,H)
  | _=>none):=rfl
theorem Adv {d:Nat}{e:Nat}{z:List V}:AB B (.al d e z) t H=some ((d,.ptr H.length 0)::t,H++[.cells e z]):=rfl
theorem Adw {d:Nat}{e:Nat}{x:O}:AB B (.bx d e x) t H=(match KL (ev t x)with
  | some cs=>some ((d,.ptr H.length 0)::t,H++[.cells e cs])
  | none=>none):=rfl
theorem Aei {d:Nat}{e:Nat}{x:O}:AB B (.br d e x) t H=(match KL (ev t x)with
  | some cs=>some ((d,.ro (AS (fun _=>none) cs) 0)::t,H)
  | none=>none):=rfl
theorem Adt {d:Nat}{k:Nat}{x:O}:AB B (.sf d k x) t H=(match lk t d with
  | .ptr i 0=>match H[i]? with
   | some (.cells e cs)=>match KL (ev t x)with
    | some new=>if new.length=k/\cs.length=k then some ((d,.ro (AS (fun _=>none) new) 0)::t,H.set i .dead) else none
    | none=>none
   | _=>none
  | _=>none):=rfl
theorem Aat {d:Nat}{x:O}:AB B (.ldr d x) t H=B4 d (aB [] (ev t x)) t H:=rfl
theorem Aa8 {d:Nat}{k:Nat}{x:O}:AB B (.lar d k x) t H=B4 d (aW k [] (ev t x)) t H:=rfl
theorem AcG {d:Nat}{off:Nat}{x:O}:AB B (.far d off x) t H=B4 d (Ua off [] (ev t x)) t H:=rfl
theorem AdZ {d:Nat}{x:O}:AB B (.ld d x) t H=B4 d (aB H (ev t x)) t H:=rfl
theorem Ad2 {d:Nat}{k:Nat}{x:O}:AB B (.la d k x) t H=B4 d (aW k H (ev t x)) t H:=rfl
theorem Add {k:Nat}{a:O}{x:O}:AB B (.st k a x) t H=(match ev t a with
  | .ptr i off=>match H[i]? with
   | some (.cells e cs)=>match KL (ev t x)with
    | some new=>if new.length=k/\off+k<=cs.length then some (t,H.set i (.cells e (put off new cs))) else none
    | none=>none
   | _=>none
  | .rp i n j off=>match H[i]? with
   | some (.row e sz els)=>match KL (ev t x)with
    | some new=>if els.length=n/\j<n/\new.length=k/\off+k<=sz then some (t,H.set i (.row e sz (els.set j (put off new (els.getD j []))))) else none
    | none=>none
   | _=>none
  | _=>none):=rfl
theorem Ac3 {d:Nat}{off:Nat}{x:O}:AB B (.fa d off x) t H=B4 d (Ua off H (ev t x)) t H:=rfl
theorem Adh {d:Nat}{x:O}:AB B (.nc d x) t H=B4 d (lg H (ev t x)) t H:=rfl
theorem Ac9 {d:Nat}{off:Nat}{k:Option Nat}{x:O}:AB B (.fd d off k x) t H=B4 d (nN off k (ev t x)) t H:=rfl
theorem AdW {d:Nat}{z:List V}{ps:List (Nat×Nat×O)}:AB B (.bd d z ps) t H=B4 d ((ti t ps z).map .agg) t H:=rfl
theorem AdR {d:Nat}{sz:Nat}{xs:List O}:AB B (.bs d sz xs) t H=B4 d ((ij t sz xs).map (.sl sz)) t H:=rfl
theorem Ad8 {d:Nat}{e:Nat}{sz:Nat}{xs:List O}:AB B (.bo d e sz xs) t H=(match ij t sz xs with
  | some els=>some ((d,.own H.length sz els)::t,H++[.arr e sz els.length])
  | none=>none):=rfl
theorem Acl {d:Nat}{op:BinOp}{x:O}{y:O}:AB B (.bin d op x y) t H=B4 d (Jh op (ev t x) (ev t y)) t H:=rfl
theorem Ac6 {d:Nat}{op:BinOp}{x:O}{y:O}:AB B (.bb d op x y) t H=B4 d (bbV op (ev t x) (ev t y)) t H:=rfl
theorem AdU {d:Nat}{op:BinOp}{x:O}{y:O}:AB B (.sh d op x y) t H=B4 d (shV op (ev t x) (ev t y)) t H:=rfl
theorem AdT {d:Nat}{op:UnOp}{x:O}:AB B (.un d op x) t H=B4 d (unV op (ev t x)) t H:=rfl
theorem Ab0 {d:Nat}{k:IntKind}{x:O}:AB B (.cvi d k x) t H=(match ev t x with
  | .int _ n=>some ((d,.int k (k.wrap n))::t,H)
  | _=>none):=rfl
theorem Acn {d:Nat}{x:O}:AB B (.cvs d x) t H=(match ev t x with
  | .str s=>some ((d,.str s)::t,H)
  | _=>none):=rfl
theorem Abc {d:Nat}{x:O}:AB B (.s2b d x) t H=(match ev t x with
  | .str s=>if s.length<=Ah then some ((d,.sl 1 (s.map fun c=>[.int .u8 c.toNat]))::t,H) else none
  | _=>none):=rfl
theorem AbM {d:Nat}{x:O}:AB B (.b2s d x) t H=(match WF (ev t x)with
  | some els=>match iF els with
   | some l=>some ((d,.str l)::t,H)
   | none=>none
  | none=>none):=rfl
theorem Adk {d:Nat}{g:Nat}{fst:List O}{caps:List O}:AB B (.mf d g fst caps) t H=some ((d,.fn (.func g) (fst.map (ev t)) (caps.map (ev t)))::t,H):=rfl
theorem Acg {d:Nat}{x:O}:AB B (.len d x) t H=B4 d (Wb (ev t x)) t H:=rfl
theorem yV {d:Nat}{x:O}:AB B (.lens d x) t H=B4 d (gL (ev t x)) t H:=rfl
theorem Ada {d:Nat}{sz:Nat}{x:O}{i:O}:AB B (.ia d sz x i) t H=B4 d (oi sz (ev t x) (ev t i)) t H:=rfl
theorem Adf {d:Nat}{x:O}{i:O}:AB B (.ix d x i) t H=B4 d (ixV (ev t x) (ev t i)) t H:=rfl
theorem Aak {d:Nat}{sz n:Nat}{k:Option Nat}{x:O}{i:O}:AB B (.ixa d sz n k x i) t H=B4 d (oU sz n k (ev t x) (ev t i)) t H:=rfl
theorem Ad5 {d:Nat}{sz:Nat}{x:O}{lo:Option O}{hi:Option O}:AB B (.sx d sz x lo hi) t H=B4 d (sxV sz (ev t x) (lo.map (ev t)) (hi.map (ev t))) t H:=rfl
theorem Aa3 {d:Nat}{x:O}{lo:Option O}{hi:Option O}:AB B (.sxs d x lo hi) t H=B4 d (vi (ev t x) (lo.map (ev t)) (hi.map (ev t))) t H:=rfl
theorem Ado {d:Nat}{x:O}{i:Nat}:AB B (.ex d x i) t H=B4 d (exV i (ev t x)) t H:=rfl
theorem AbO {d:Nat}{e:Nat}{sz:Nat}{bytes:Nat}{x:O}{y:O}:AB B (.app d e sz bytes x y) t H=Qg d (Px H e sz bytes (ev t x) (ev t y)) t:=rfl
theorem Aaz {d:Nat}{e:Nat}{sz:Nat}{bytes:Nat}{x:O}{y:O}:AB B (.apr d e sz bytes x y) t H=Qg d (gH H e sz bytes (ev t x) (ev t y)) t:=rfl
theorem Ad0 {d:Nat}{x:O}{y:O}:AB B (.mx d x y) t H=(match ev t x,ev t y with
  | .int k a,.int k' b=>if k=k' then some ((d,.int k (if b > a then b else a))::t,H) else none
  | _,_=>none):=rfl
theorem Aee {d:Nat}{x:O}{y:O}:AB B (.mn d x y) t H=(match ev t x,ev t y with
  | .int k a,.int k' b=>if k=k' then some ((d,.int k (if b<a then b else a))::t,H) else none
  | _,_=>none):=rfl
theorem AaT {d:Nat}{e:Nat}{sz:Nat}:AB B (.non d e sz) t H=(match lk t d with
  | .nil=>some ((d,.own H.length sz [])::t,H++[.arr e sz 0])
  | _=>none):=rfl
theorem Aam {e:Nat}{sz:Nat}{k:Nat}{a:O}:AB B (.ono e sz k a) t H=(match ev t a with
  | .ptr i off=>match H[i]? with
   | some (.cells e' cs)=>match cs[off+k]? with
    | some .nil=>some (t,H.set i (.cells e' (put (off+k) [.own H.length sz []] cs))++[.arr e sz 0])
    | _=>none
   | _=>none
  | _=>none):=rfl
theorem Ady {d e sz bytes:Nat}{z:List V}{x:O}:AB B (.mk d e sz bytes z x) t H=(match ev t x with
  | .int _ n=>if 0<=n/\n.toNat<=Ah/\n.toNat*bytes<=Ah then some ((d,.rw H.length sz n.toNat)::t,H++[.row e sz (List.replicate n.toNat z)]) else none
  | _=>none):=rfl
theorem Aaw {d:Nat}:AB B (.mkm d) t H=some ((d,.map H.length)::t,H++[.map []]):=rfl
theorem Abv {d:Nat}{ks:Bool}{ok:Bool}{z:V}{m:O}{k:O}:AB B (.lkp d ks ok z m k) t H=B4 d (M8 H ks ok z (ev t m) (ev t k)) t H:=rfl
theorem Aa9 {d:Nat}{m:O}:AB B (.lnm d m) t H=B4 d (W3 H (ev t m)) t H:=rfl
theorem AbB {d:Nat}{sh:List Bool}{ok:Bool}{z:V}{m:O}{k:O}:AB B (.lkq d sh ok z m k) t H=B4 d (Rv H sh ok z (ev t m) (ev t k)) t H:=rfl
theorem Acv {d sz n:Nat}{x:O}{i:O}:AB B (.iaa d sz n x i) t H=B4 d (cz H sz n (ev t x) (ev t i)) t H:=rfl
theorem qB {sz n:Nat}{x:V}{k:IntKind}{m:Int}:cz H sz n x (.int k m)=if 0<=m/\m<n then Ua (m.toNat*sz) H x else none:=rfl
theorem Abs {sh:List Bool}{m:O}{k:O}{x:O}:AB B (.muq sh m k x) t H=(match ev t m with
  | .map i=>match H[i]? with
   | some (.map es)=>if vk sh (ev t k) then match ou (ev t k) (ev t x) es with
    | some es'=>some (t,H.set i (.map es'))
    | none=>none
    else none
   | _=>none
  | _=>none):=rfl
theorem Aa1 {d:Nat}{neg:Bool}{sh:List Bool}{x y:O}:AB B (.eqs d neg sh x y) t H=B4 d (kz neg sh (ev t x) (ev t y)) t H:=rfl
theorem AcB {d e sz bytes k:Nat}{y:O}:AB B (.apz d e sz bytes k y) t H=(match lk t k with
  | .nil=>Qg d (Px (H++[.arr e sz 0]) e sz bytes (.own H.length sz []) (ev t y)) t
  | .own _ _ _=>Qg d (Px H e sz bytes (lk t k) (ev t y)) t
  | _=>none):=rfl
theorem AdX {l:List Nat}:AB B (.kt l) t H=some (l.map fun n=>(n,lk t n),H):=rfl
theorem Ad3 {rs l:List Nat}:AB B (.kk rs l) t H=(match qj t rs with
  | some js=>if kkB B H.length js then some (l.map fun n=>(n,ren (Az (List.range B++js)) (lk t n)),give (List.range B++js) H) else none
  | none=>none):=rfl
theorem AcJ {d e sz:Nat}:AB B (.noz d e sz) t H=(match lk t d with
  | .nil=>some ((d,.own H.length sz [])::t,H++[.arr e sz 0])
  | .own _ _ _=>some (t,H)
  | _=>none):=rfl
theorem AaK {ks:Bool}{m:O}{k:O}{x:O}:AB B (.mup ks m k x) t H=(match ev t m with
  | .map i=>match H[i]? with
   | some (.map es)=>if kQ ks (ev t k) then match XR (ev t k) (ev t x) es with
    | some es'=>some (t,H.set i (.map es'))
    | none=>none
    else none
   | _=>none
  | _=>none):=rfl
theorem Ac8 {d:Nat}{m:O}:AB B (.rg d m) t H=(match ev t m with
  | .map i=>match H[i]? with
   | some (.map es)=>some ((d,.it H.length)::t,H++[.iter (some i) es.length []])
   | _=>none
  | _=>none):=rfl
theorem Adu {d:Nat}{x:O}:AB B (.en d x) t H=B4 d (xB H (ev t x)) t H:=rfl
theorem wP {d:Nat}{e:Nat}{sz:Nat}:AB B (.rnon d e sz) t H=(match lk t d with
  | .nil=>some ((d,.rw H.length sz 0)::t,H++[.row e sz []])
  | _=>none):=rfl
theorem yi {e:Nat}{sz:Nat}{k:Nat}{a:O}:AB B (.rono e sz k a) t H=(match ev t a with
  | .ptr i off=>match H[i]? with
   | some (.cells e' cs)=>match cs[off+k]? with
    | some .nil=>some (t,H.set i (.cells e' (put (off+k) [.rw H.length sz 0] cs))++[.row e sz []])
    | _=>none
   | _=>none
  | _=>none):=rfl
theorem Ach {d:Nat}:AB B (.frz d) t H=(match lk t d with
  | .rw i z n=>match H[i]? with
   | some (.row e sz els)=>if els.length=n then some ((d,.sl sz (els.map (AS fun _=>none)))::t,H.set i .dead) else none
   | _=>none
  | _=>none):=rfl
theorem Ab4 {d:Nat}:AB B (.e2r d) t H=(match lk t d with
  | .own i z []=>match H[i]? with
   | some (.arr e sz 0)=>if z=sz then some ((d,.rw H.length sz 0)::t,H.set i .dead++[.row e sz []]) else none
   | _=>none
  | _=>none):=rfl
theorem AbN {k:Nat}{a:O}:AB B (.frc k a) t H=(match ev t a with
  | .ptr i off=>match H[i]? with
   | some (.cells e cs)=>match cs[off+k]? with
    | some (.rw j z n)=>match H[j]? with
     | some (.row e' sz els)=>if els.length=n then some (t,(H.set j .dead).set i (.cells e (put (off+k) [.sl sz (els.map (AS fun _=>none))] cs))) else none
     | _=>none
    | some (.sl _ _)=>some (t,H)
    | _=>none
   | _=>none
  | _=>none):=rfl
theorem AdF {m:Nat}{l:List Nat}:AB B (.ks m l) t H=some (l.map fun n=>(n,ren (AM (B+m)) (lk t n)),(H.take (B+m)).map (A6 (AM (B+m)))):=rfl
end
attribute [push_cast] qi se vM xV AaH AbZ ve vV AaQ ss xR tv sX qQ KE sy uu yL AbQ xn xL AaY qp qw xq tj tg xh rd xz AbD Ace rO uX Abk mB AaJ jj AeN Ae9 AeV AbC vH Ac4 yM Adv Adw Aei Adt Aat Aa8 AcG AdZ Ad2 Add Ac3 Adh Ac9 AdW AdR Ad8 Acl Ac6 AdU AdT Ab0 Acn Abc AbM Adk Acg yV Ada Adf Aak Ad5 Aa3 Ado AbO Aaz Ad0 Aee AaT Aam Ady Aaw Abv Aa9 AbB Acv qB AaK Abs Aa1 AdX Ad3 AcJ AcB Ac8 Adu wP yi Ach Ab4 AbN AdF fE Acf wV Acs xP Acr wa Abw yh qk qK Abz wc yd zc pY tR oI Abl wK vT ul tV sj vh rC tt pU sN tz qM pI jB jl kc jF vS wo xQ zi wn uC uU vK ti ij AM FZ si uQ pM xe qy ui wA mQ Aaq sZ wM ug Abq tC rR qx wh yG xM mU AcD AcE Abo Acx yR AaV AaA Acp Ab9 Aay eU nM mO iQ iD Jv sV zo qO xN Acw Acq xT qA qJ uN vQ Hd wj Aca zm yS qz pn xW qr xu Abd zy vG yz AaG wR Abu wG sw sP uc xI Ab8 List.map_cons List.map_nil List.cons_append List.nil_append List.append_nil rvs rvV Uh vr List.length_nil List.length_cons List.getElem?_nil List.getElem?_cons_zero List.getElem?_cons_succ List.set_cons_zero List.set_cons_succ List.take_zero List.take_nil List.take_succ_cons Nat.le_refl true_and and_true and_self Nat.zero_add Nat.add_zero decide_eq_true_eq decide_eq_false_iff_not if_true if_false Bool.not_true Bool.not_false Int.toNat_natCast decide_true decide_false Bool.true_and Bool.and_true Bool.false_and Bool.and_false forall_const not_true_eq_false not_false_eq_true true_implies false_implies
end Go.Dw
end
namespace Go.Dw
noncomputable abbrev prog:Program:=Go.Proofs.Tryz.prog
theorem mixed:prog.follows .mixedOrders=true:=by kernel_rfl
def Iw:Nat:=6
def ER:Nat:=11
def Qi:Nat:=12
def JL:Nat:=13
def N1:Nat:=18
def HW:Nat:=19
def Ns:Nat:=20
def Jb:Nat:=21
def Ku:Nat:=31
def Fd:Nat:=32
def Ba:Nat:=33
def KZ:Nat:=34
def IZ:Nat:=37
def Qe:Nat:=39
def M9:Nat:=40
def LU:Nat:=41
def JU:Nat:=42
def GP:Nat:=43
def Hk:Nat:=44
def Gg:Nat:=45
def Fu:Nat:=46
def HT:Nat:=47
def Gd:Nat:=48
def Iu:Nat:=49
def Ho:Nat:=50
def HK:Nat:=51
def DD:Nat:=52
def Nh:Nat:=53
def P2:Nat:=54
def Q8:Nat:=57
def Ck:Nat:=63
def Ej:Nat:=71
def GS:Nat:=72
def FV:Nat:=73
def MC:Nat:=74
def Hg:Nat:=75
def Mm:Nat:=76
def Dq:Nat:=77
def KY:Nat:=78
def Di:Nat:=79
def JN:Nat:=81
def E1:Nat:=82
def Q9:Nat:=83
def I2:Nat:=84
def Oo:Nat:=85
def ML:Nat:=86
def GW:Nat:=87
def GV:Nat:=88
def D8:Nat:=89
def EA:Nat:=90
def GL:Nat:=91
def BG:Nat:=92
def Dy:Nat:=93
def Jx:Nat:=94
def JX:Nat:=95
def MJ:Nat:=96
def JW:Nat:=97
def N4:Nat:=98
def Ie:Nat:=99
def KT:Nat:=105
def Jz:Nat:=106
def I5:Nat:=107
def CK:Nat:=115
def E2:Nat:=118
def FD:Nat:=122
def JE:Nat:=123
def AY:Nat:=124
def n_slices_Sort_s_string_string:Nat:=125
def Ir:Nat:=126
def OU:Nat:=127
def GG:Nat:=128
def FI:Nat:=129
def Js:Nat:=130
def N0:Nat:=131
def Nj:Nat:=132
def KP:Nat:=133
def Nf:Nat:=134
def P5:Nat:=135
def HY:Nat:=136
def M1:Nat:=137
def LK:Nat:=138
def Eo:Nat:=139
def Sp:Nat:=140
def Jy:Nat:=141
def Lh:Nat:=142
def OI:Nat:=143
def CQ:Nat:=144
def DQ:Nat:=145
def AO:Nat:=146
def Kt:Nat:=147
def Kg:Nat:=148
def IW:Nat:=149
def Dh:Nat:=150
def Gt:Nat:=151
def BV:Nat:=153
def Ez:Nat:=160
def HG:Nat:=161
def TX:Nat:=162
def IY:Nat:=169
def J1:Nat:=170
def Nb:Nat:=171
def BP:Nat:=172
def Le:Nat:=173
def PB:Nat:=183
def M5:Nat:=184
def Mz:Nat:=185
def Km:Nat:=186
def Kq:Nat:=187
def Kz:Nat:=188
def LX:Nat:=189
def Lc:Nat:=190
def DE:Nat:=191
def Nt:Nat:=192
def JI:Nat:=193
def JB:Nat:=194
def PE:Nat:=195
def N8:Nat:=196
def P3:Nat:=197
def Xa:Nat:=198
def Of:Nat:=199
def I3:Nat:=200
def Gs:Nat:=201
def BQ:Nat:=202
def HF:Nat:=203
def Np:Nat:=204
def Bh:Nat:=205
def Lf:Nat:=209
def JR:Nat:=210
def ME:Nat:=211
def S7:Nat:=212
def FE:Nat:=214
def OV:Nat:=215
def MX:Nat:=217
def QQ:Nat:=219
def SG:Nat:=223
def Hn:Nat:=224
def Dd:Nat:=225
def Bu:Nat:=226
def PV:Nat:=227
def CE:Nat:=228
def KV:Nat:=245
def Li:Nat:=246
def JQ:Nat:=247
def Ng:Nat:=248
def FF:Nat:=249
def Nw:Nat:=250
def Kx:Nat:=251
def HV:Nat:=252
def La:Nat:=253
def LG:Nat:=254
def JT:Nat:=255
def Kj:Nat:=256
def JS:Nat:=257
def IR:Nat:=258
def Mk:Nat:=259
def Qa:Nat:=260
def IA:Nat:=261
def Kd:Nat:=262
def EL:Nat:=263
def Da:Nat:=264
def Lj:Nat:=265
def OH:Nat:=266
def OW:Nat:=267
def Ja:Nat:=268
def IJ:Nat:=269
def Dp:Nat:=271
def Cs:Nat:=272
def KQ:Nat:=279
def Dv:Nat:=280
def Dl:Nat:=281
def EU:Nat:=282
def GM:Nat:=283
def JO:Nat:=284
def CL:Nat:=285
def PP:Nat:=286
def Fs:Nat:=287
def Q0:Nat:=288
def JZ:Nat:=289
def O7:Nat:=290
def IO:Nat:=291
def NQ:Nat:=292
def AL:Nat:=293
def Md:Nat:=294
def Gl:Nat:=295
def M2:Nat:=296
def Gk:Nat:=297
def Kv:Nat:=299
def Ea:Nat:=300
def Cw:Nat:=301
def BX:Nat:=302
def HR:Nat:=303
def LP:Nat:=304
def Gf:Nat:=305
def K1:Nat:=306
def F8:Nat:=307
def Ol:Nat:=308
def n_strconv_FormatInt:Nat:=310
def CA:Nat:=311
def EQ:Nat:=312
def Kc:Nat:=313
def Cp:Nat:=314
def Cd:Nat:=320
def Dj:Nat:=326
noncomputable abbrev NY:Func:=Go.Proofs.Tryz.f308
theorem ZY:prog.funcs[Ol]?=some NY:=Go.Proofs.Tryz.func308
noncomputable abbrev Hr:Func:=Go.Proofs.Tryz.f314
theorem HA:prog.funcs[Cp]?=some Hr:=Go.Proofs.Tryz.func314
def F1:Nat:=3
def ko:Nat:=4
def Cf:Nat:=9
def U7:Nat:=22
def QL:Nat:=23
def A8:Nat:=25
def WH:Nat:=26
def A3:Nat:=35
def SO:Nat:=67
def BY:Nat:=107
def Xt:Nat:=108
def Ay:Nat:=112
def GQ:Nat:=127
def WQ:Nat:=130
def Cc:Nat:=148
def DC:Nat:=158
def Fj:Nat:=169
def Iv:Nat:=192
def DY:Nat:=215
def GR:Nat:=270
def Bi:Nat:=281
def Tk:Nat:=286
def D2:Nat:=290
def IK:Nat:=298
def Bc:Nat:=302
def DS:Nat:=305
def Ff:Nat:=307
end Go.Dw
section
namespace Go.Dw
abbrev A9:=List UInt8
inductive Term where
 | mk (name:A9) (var:Bool) (args:List Term)
deriving Inhabited
namespace Term
def name:Term->A9 | mk n _ _=>n
def var:Term->Bool | mk _ v _=>v
def args:Term->List Term | mk _ _ a=>a
end Term
def DT {α:Type}(f:α->List V)(z:Nat)(l:List α):V:=.sl z (l.map f)
def Bf {α:Type}(f:α->List V)(i z:Nat)(l:List α):V:=.own i z (l.map f)
section
variable {α:Type} {f:α->List V} {z:Nat}
theorem uJ {l:List α}:KL (DT f z l)=some [DT f z l]:=rfl
theorem rh {σ:Nat->Option Nat}{l:List α}:ren σ (DT f z l)=DT f z l:=rfl
theorem nf {l:List α}:Wb (DT f z l)=some (.int .i64 l.length):=by simp[DT,Wb]
theorem pN {l:List α}:WF (DT f z l)=some (l.map f):=rfl
theorem pR [Inhabited α]{l:List α}{k:IntKind}{n:Int}{y:Nat}:oi y (DT f z l) (.int k n)=if z=y/\0<=n/\n<l.length then some (.ro (f (l.getD n.toNat default)) 0) else none:=by
 simp only[DT,oi,List.length_map]
 split
 ·rename_i h
  have hlt:n.toNat<l.length:=by omega
  simp[List.getD_eq_getElem?_getD,hlt]
 ·rfl
theorem uh {l:List α}{lo hi:Option V}{y:Nat}:sxV y (DT f z l) lo hi=match eD lo 0,eD hi l.length with
  | some a,some b=>if z=y/\a<=b/\b<=l.length then some (DT f z ((l.drop a).take (b-a))) else none
  | _,_=>none:=by
 simp only[DT,sxV,List.length_map,<-List.map_drop,<-List.map_take]
 rfl
theorem tP {i:Nat}{l:List α}:KL (Bf f i z l)=some [Bf f i z l]:=rfl
theorem rF {σ:Nat->Option Nat}{i:Nat}{l:List α}:ren σ (Bf f i z l)=match σ i with | some j=>Bf f j z l | none=>DT f z l:=by simp only[Bf,DT,ren];rfl
theorem oe {i:Nat}{l:List α}:Wb (Bf f i z l)=some (.int .i64 l.length):=by simp[Bf,Wb]
theorem ud {i:Nat}{l:List α}:WF (Bf f i z l)=some (l.map f):=rfl
theorem rL [Inhabited α]{i:Nat}{l:List α}{k:IntKind}{n:Int}{y:Nat}:oi y (Bf f i z l) (.int k n)=if z=y/\0<=n/\n<l.length then some (.ro (f (l.getD n.toNat default)) 0) else none:=by
 simp only[Bf,oi,List.length_map]
 split
 ·rename_i h
  have hlt:n.toNat<l.length:=by omega
  simp[List.getD_eq_getElem?_getD,hlt]
 ·rfl
def qT (o:Option Ob)(K:Nat->Nat->Nat->Option (V×List Ob)):Option (V×List Ob):=match o with
 | some (.arr e z n)=>K e z n
 | _=>none
theorem nF {e y n:Nat}{K:Nat->Nat->Nat->Option (V×List Ob)}:qT (some (.arr e y n)) K=K e y n:=rfl
def jV (o:Option (List (List V)))(K:List (List V)->Option (V×List Ob)):Option (V×List Ob):=match o with
 | some l=>K l
 | none=>none
theorem nZ {l:List (List V)}{K:List (List V)->Option (V×List Ob)}:jV (some l) K=K l:=rfl
theorem mD {H:List Ob}{e y bytes i:Nat}{l:List α}{v:V}:Px H e y bytes (Bf f i z l) v=jV (WF v) fun new=>qT H[i]? fun e' z' n=>if z=y/\z'=y/\e'=e/\n=l.length/\(∀ x∈new,x.length=y)/\(l.length+new.length)*bytes<=Ah then some (.own i y (l.map f++new),H.set i (.arr e y (l.length+new.length))) else none:=by
 unfold Px Bf jV qT
 cases WF v with
 | none=>rfl
 | some new =>
  simp only[List.length_map]
  rfl
theorem qn {H:List Ob}{e y bytes i:Nat}{l:List (List V)}{v:V}:Px H e y bytes (.own i z l) v=jV (WF v) fun new=>qT H[i]? fun e' z' n=>if z=y/\z'=y/\e'=e/\n=l.length/\(∀ x∈new,x.length=y)/\(l.length+new.length)*bytes<=Ah then some (.own i y (l++new),H.set i (.arr e y (l.length+new.length))) else none:=by
 unfold Px jV qT
 cases WF v with
 | none=>rfl
 | some new=>rfl
def Abn (o:Option Ob)(K:Nat->Nat->List (List V)->Option (V×List Ob)):Option (V×List Ob):=match o with
 | some (.row e z els)=>K e z els
 | _=>none
theorem pe {e y:Nat}{els:List (List V)}{K:Nat->Nat->List (List V)->Option (V×List Ob)}:Abn (some (.row e y els)) K=K e y els:=rfl
theorem wO {H:List Ob}{e y bytes i n:Nat}{v:V}:gH H e y bytes (.rw i z n) v=jV (WF v) fun new=>Abn H[i]? fun e' z' els=>if z'=y/\e'=e/\els.length=n/\(∀ x∈new,x.length=y)/\(n+new.length)*bytes<=Ah then some (.rw i y (n+new.length),H.set i (.row e y (els++new))) else none:=by
 unfold gH jV Abn
 cases WF v with
 | none=>rfl
 | some new=>rfl
theorem rm {i:Nat}{l:List α}{x:α}:(.own i z (l.map f++[f x]):V)=Bf f i z (l++[x]):=by simp[Bf]
theorem xD {i:Nat}{l m:List α}:(.own i z (l.map f++m.map f):V)=Bf f i z (l++m):=by simp[Bf]
end
attribute [push_cast] uJ rh nf pN pR uh tP rF oe ud rL nF nZ mD qn pe wO rm xD eq_self
mutual
def iW:Term->List (List V)
 | .mk _ _ ts=>bF ts
def bF:List Term->List (List V)
 | []=>[]
 | a::ts=>[.str a.name,.bool a.var,.sl 3 (iW a)]::bF ts
end
def cT (t:Term):List V:=[.str t.name,.bool t.var,.sl 3 (iW t)]
theorem qC (ts:List Term):bF ts=ts.map cT:=by
 induction ts with
 | nil=>simp[bF]
 | cons a ts ih=>simp[bF,ih,cT]
theorem dw (t:Term):iW t=t.args.map cT:=by cases t;simp[iW,qC,Term.args]
abbrev Bk (l:List Term):V:=DT cT 3 l
theorem P7 (t:Term):cT t=[.str t.name,.bool t.var,Bk t.args]:=by rw[cT,dw];rfl
def An (t:Term):V:=.agg (cT t)
theorem vd (t:Term):KL (An t)=some (cT t):=rfl
theorem cE (t:Term):(cT t).length=3:=rfl
theorem Ae5 (t:Term):(cT t)[0]?=some (.str t.name):=rfl
theorem AeD (t:Term):(cT t)[1]?=some (.bool t.var):=rfl
theorem AeW (t:Term):(cT t)[2]?=some (Bk t.args):=by rw[P7];rfl
theorem Aby (t:Term):sub 0 3 (cT t)=cT t:=rfl
theorem ns (t:Term):V.agg (cT t)=An t:=rfl
theorem lF {σ:Nat->Option Nat}(t:Term):AS σ (cT t)=cT t:=rfl
theorem gt {σ:Nat->Option Nat}(t:Term):ren σ (An t)=An t:=by unfold An;rw[Hd,lF]
theorem zO (n:A9)(v:Bool)(l:List Term):[V.str n,.bool v,Bk l]=cT (.mk n v l):=by rw[P7];rfl
theorem Zq (t:Term)(k:Nat):nN k none (An t)=(cT t)[k]?:=rfl
theorem kT (x:List V)(a b c:V)(h:x.length=3):put 0 x [a,b,c]=x:=by
 simp only[put,h];simp
theorem Abm (t:Term)(a b c:V):put 0 (cT t) [a,b,c]=cT t:=kT _ _ _ _ rfl
theorem lS (t u:Term):put 0 (cT t) (cT u)=cT t:=kT _ _ _ _ rfl
attribute [push_cast] vd cE Ae5 AeD AeW Aby ns gt lF Zq Abm lS
end Go.Dw
end
section
namespace Go.Dw
abbrev PF (f:Nat)(args:List V)(x:V):Prop:=Spec prog f args [] fun x' H'=>x'=x/\H'=[]
theorem Ab {f:Nat}{nd:Nat->C}{c:C}{n:Nat}{rs:List RV}(hok:Bd prog f nd c n rs=true){args:List V}{x:V}(hn:args.length=n)
  (hrun:Ax prog nd 0 [.c c] (vr 0 args) [] (Bo 0 rs fun x' H'=>x'=x/\H'=[])):PF f args x:=AK mixed hok hn hrun
theorem A1 {rs:List RV}{t:T}{H:List Ob}{v:V}{e:X}(h:oP (Uh rs t H) fun x=>ren (fun _=>none) x=v)(he:e=.ret\/e=.fall:=by first | exact .inl rfl | exact .inr rfl):Bo 0 rs (fun x' H'=>x'=v/\H'=[]) e t H:=by
 cases hr:Uh rs t H with
 | none=>rw[hr]at h;exact h.elim
 | some x=>rw[hr]at h;exact fS he hr ⟨h,rfl⟩
attribute [push_cast] List.forall_mem_singleton List.forall_mem_map Option.map_some Option.map_none Option.bind_some Option.bind_none ne_eq Bool.false_eq_true Bool.true_eq_false and_true true_and implies_true Int.natCast_nonneg implies_true not_true_eq_false not_false_eq_true true_implies false_implies forall_const V.int.injEq V.bool.injEq V.str.injEq V.tup.injEq V.agg.injEq List.cons.injEq
theorem AdH {l:List V}:sub 0 0 l=[]:=rfl
theorem Ads {k:Nat}{x:V}{l:List V}:sub 0 (k+1) (x::l)=x::sub 0 k l:=rfl
theorem Adm {o k:Nat}{x:V}{l:List V}:sub (o+1) k (x::l)=sub o k l:=rfl
theorem Ad6 {l:List V}:put 0 [] l=l:=by simp[put]
theorem Adq {x y:V}{n l:List V}:put 0 (x::n) (y::l)=x::put 0 n l:=by simp[put]
theorem Ac7 {o:Nat}{y:V}{n l:List V}:put (o+1) n (y::l)=y::put o n l:=by
 simp only[put,List.take_succ_cons,List.cons_append]
 rw[show o+1+n.length=(o+n.length)+1 by omega,List.drop_succ_cons]
theorem xO (t:Term)(a b c:V)(l:List V):put 0 (cT t) (a::b::c::l)=cT t++l:=by simp[put,cE]
theorem xG (t:Term)(n l:List V)(k:Nat):put (k+3) n (cT t++l)=cT t++put k n l:=by
 simp only[put]
 have h:(cT t).length=3:=rfl
 rw[List.take_append,List.drop_append,List.take_of_length_le (by omega),List.drop_of_length_le (by omega)]
 simp only[h,List.nil_append,List.append_assoc]
 rw[show k+3-3=k by omega,show k+3+n.length-3=k+n.length by omega]
theorem iX (t:Term)(l:List V)(k:Nat):(cT t++l)[k+3]?=l[k]?:=by
 rw[List.getElem?_append_right (by simp[cE])];simp[cE]
theorem jp (t:Term)(l:List V):sub 0 3 (cT t++l)=cT t:=by
 simp only[sub,List.drop_zero]
 exact List.take_left' rfl
attribute [push_cast] AdH Ads Adm Ad6 Adq Ac7 xO xG iX jp List.length_append List.append_assoc
theorem A4 {α:Type}[Inhabited α]{l:List α}{k:Nat}(h:k<l.length):l.getD k default∈l:=by simp[List.getD_eq_getElem?_getD,h]
theorem Aa {α:Type}[Inhabited α]{l:List α}{k:Nat}(h:k<l.length):l.take (k+1)=l.take k++[l.getD k default]:=by
 rw[List.take_succ_eq_append_getElem h];simp[List.getD_eq_getElem?_getD,h]
theorem Ag {α:Type}[Inhabited α]{l:List α}{k:Nat}(h:k<l.length):l.drop k=l.getD k default::l.drop (k+1):=by
 rw[List.drop_eq_getElem_cons h];simp[List.getD_eq_getElem?_getD,h]
theorem BC {k n:Nat}(h:k<n):((k:Int)<(n:Int))=True:=eq_true (by omega)
theorem AZ {k n:Nat}(h:n<=k):((k:Int)<(n:Int))=False:=eq_false (by omega)
theorem CD {k:Nat}(h:k<2^62):IntKind.i64.wrap ((k:Int)+1)=(k:Int)+1:=Bn (by omega) (by omega)
theorem vW:Az []=fun _=>none:=by funext i;rfl
theorem mK (H H':List Ob):PD [] H H'=H:=by
 unfold PD
 apply List.ext_getElem (by simp)
 intro i h1 h2
 simp[Az,h2]
theorem kr (H H':List Ob):takeB [] H H'=H++H'.map (A6 fun i=>some (H.length+i)):=by
 unfold takeB
 rw[mK]
 have:C5 [] H.length=fun i=>some (H.length+i):=by funext i;simp[C5]
 rw[this];simp
section
variable {N:Nat->C} {B:Nat} {s:List K} {t:T} {H:List Ob} {Q:X->T->List Ob->Prop}
theorem UD {d:Option Nat}{l:List S}{f:Nat}{vs:List V}{x:V}{H1:List Ob}(h:Spec prog f (AS (fun _=>none) vs) [] fun x' H'=>x'=x/\H'=H1)
  (k:Ax prog N B (.r l::s) (FZ d (ren (fun i=>some (H.length+i)) x) t) (H++H1.map (A6 fun i=>some (H.length+i))) Q):BD prog N B d l s t Q (.func f) vs H:=by
 refine BD.some [] List.nodup_nil (fun i hi=>by cases hi) (R:=fun x' H'=>x'=x/\H'=H1) (by rw[vW];exact h) ?_
 rintro x' H' ⟨rfl,rfl⟩ _
 rw[kr]
 have:C5 [] H.length=fun i=>some (H.length+i):=by funext i;simp[C5]
 rw[this];exact k
end
end Go.Dw
end
namespace Go.Dw
mutual
def size:Term->Nat
 | .mk _ _ l=>1+Ae l
def Ae:List Term->Nat
 | []=>0
 | a::l=>size a+Ae l
end
theorem Cm (a b:List Term):Ae (a++b)=Ae a+Ae b:=by
 induction a with
 | nil=>simp[Ae]
 | cons x xs ih=>simp[Ae,ih];omega
theorem AJ (t:Term):size t=1+Ae t.args:=by cases t;simp[size,Term.args]
theorem FN (l:List Term)(k:Nat)(h:k<l.length):Ae (l.take (k+1))=Ae (l.take k)+size (l.getD k default):=by
 rw[Aa h,Cm];simp[Ae]
theorem EF (l:List Term)(k:Nat):Ae (l.take k)<=Ae l:=by
 conv=>rhs;rw[<-List.take_append_drop k l]
 rw[Cm];omega
theorem By {l:List Term}{a:Term}(h:a∈l):size a<=Ae l:=by
 induction l with
 | nil=>cases h
 | cons x xs ih=>rcases List.mem_cons.1 h with rfl | h<;>simp[Ae];have:=ih h;omega
theorem Am (l:List Term):l.length<=Ae l:=by
 induction l with
 | nil=>simp
 | cons x xs ih=>simp only[Ae,List.length_cons];have:=AJ x;omega
theorem Ai {p:Term->Prop}(h:∀ t,(∀ a∈t.args,p a)->p t)(t:Term):p t:=by
 have:∀ n t,size t<=n->p t:=by
  intro n
  induction n with
  | zero=>intro t ht;have:=AJ t;omega
  | succ n ih =>
   intro t ht
   refine h t fun a ha=>ih a ?_
   have:=AJ t
   have:=By ha
   omega
 exact this (size t) t (Nat.le_refl _)
def uj {α β:Type}(f:α->β->Bool):List α->List β->Bool
 | [],[]=>true
 | a::l,b::m=>f a b&&uj f l m
 | _,_=>false
theorem lv {α β:Type}{f:α->β->Bool}:∀ {l:List α} {m:List β},uj f l m=true->l.length=m.length
 | [],[],_=>rfl
 | a::l,b::m,h=>by simp only[uj,Bool.and_eq_true]at h;simp[lv h.2]
 | [],_::_,h=>by cases h
 | _::_,[],h=>by cases h
mutual
def teq:Term->Term->Bool
 | .mk n v l,.mk n' v' l'=>n==n'&&v==v'&&jw l l'
def jw:List Term->List Term->Bool
 | [],[]=>true
 | a::l,b::m=>teq a b&&jw l m
 | _,_=>false
end
mutual
theorem co:∀ a b:Term,teq a b=true↔a=b
 | .mk n v l,.mk n' v' l'=>by simp[teq,fq l l',and_assoc]
theorem fq:∀ a b:List Term,jw a b=true↔a=b
 | [],[]=>by simp[jw]
 | a::l,b::m=>by simp[jw,co a b,fq l m]
 | [],_::_=>by simp[jw]
 | _::_,[]=>by simp[jw]
end
instance:DecidableEq Term:=fun a b=>if h:teq a b=true then .isTrue ((co a b).1 h) else .isFalse fun e=>h ((co a b).2 e)
theorem qV {f:Term->Term->Bool}:∀ {l m:List Term},(∀ a∈l,∀ b,f a b=decide (a=b))->uj f l m=decide (l=m)
 | [],[],_=>rfl
 | a::l,b::m,h=>by
  simp only[uj,h a (by simp) b,qV (l:=l) (m:=m) fun x hx=>h x (by simp[hx])]
  simp
 | [],_::_,_=>rfl
 | _::_,[],_=>rfl
theorem Vv (a b:Term):a=b↔a.name=b.name/\a.var=b.var/\a.args=b.args:=by cases a;cases b;simp[Term.name,Term.var,Term.args]
end Go.Dw
section
namespace Go.Dw
def cU8 (c:UInt8):List V:=[.int .u8 c.toNat]
def cS (s:A9):List V:=[.str s]
def cI (n:Int):List V:=[.int .i64 n]
theorem qu (s:A9):(.sl 1 (s.map fun c=>[V.int .u8 c.toNat]):V)=DT cU8 1 s:=rfl
theorem aP (c:UInt8):(cU8 c)[0]?=some (.int .u8 c.toNat):=rfl
theorem nW (s:A9):(cS s)[0]?=some (.str s):=rfl
theorem Ae1 (n:Int):(cI n)[0]?=some (.int .i64 n):=rfl
theorem zj (s:UInt8):(cU8 s).length=1:=rfl
theorem AbT (s:A9):(cS s).length=1:=rfl
theorem Aan (s:Int):(cI s).length=1:=rfl
abbrev Bw (l:List A9):V:=DT cS 1 l
abbrev I0 (l:List Int):V:=DT cI 1 l
structure A2 where
 left:Term
 right:Term
 deriving Inhabited,DecidableEq
def cR (r:A2):List V:=cT r.left++cT r.right
def Kn (r:A2):V:=.agg (cR r)
abbrev Al (l:List A2):V:=DT cR 6 l
structure A7 where
 name:A9
 term:Term
 deriving Inhabited,DecidableEq
def cB (b:A7):List V:=.str b.name::cT b.term
def Yv (b:A7):V:=.agg (cB b)
abbrev Bm (l:List A7):V:=DT cB 4 l
structure YX where
 rule:Int
 pos:List Int
 deriving Inhabited,DecidableEq
def ju (s:YX):List V:=[.int .i64 s.rule,I0 s.pos]
def fe (s:YX):V:=.agg (ju s)
abbrev jo (l:List YX):V:=DT ju 2 l
structure dD where
 start:Term
 steps:List YX
 deriving Inhabited,DecidableEq
def cC (c:dD):List V:=cT c.start++[jo c.steps]
def rA (c:dD):V:=.agg (cC c)
structure gJ where
 src:Int
 dst:Int
 step:YX
 deriving Inhabited,DecidableEq
def pA (e:gJ):List V:=.int .i64 e.src::.int .i64 e.dst::ju e.step
def gX (e:gJ):V:=.agg (pA e)
abbrev sF (l:List gJ):V:=DT pA 4 l
structure iP where
 terms:List Term
 edges:List gJ
 whole:Bool
 deriving Inhabited,DecidableEq
def cG (g:iP):List V:=[Bk g.terms,sF g.edges,.bool g.whole]
def uT (g:iP):V:=.agg (cG g)
structure uK where
 chain:dD
 pos:List Int
 subst:List A7
 deriving Inhabited,DecidableEq
def cL (l:uK):List V:=cC l.chain++[I0 l.pos,Bm l.subst]
def fC (l:uK):V:=.agg (cL l)
section
variable (r:A2) (b:A7) (s:YX) (c:dD) (e:gJ) (g:iP) (l:uK) {σ:Nat->Option Nat}
theorem AbL:(cR r).length=6:=rfl
theorem AaD:(cB b).length=4:=rfl
theorem vN:(ju s).length=2:=rfl
theorem AbA:(cC c).length=4:=rfl
theorem yJ:(pA e).length=4:=rfl
theorem Abg:(cG g).length=3:=rfl
theorem Aco:(cL l).length=6:=rfl
theorem ri:KL (Kn r)=some (cR r):=rfl
theorem pX:KL (Yv b)=some (cB b):=rfl
theorem oE:KL (fe s)=some (ju s):=rfl
theorem rD:KL (rA c)=some (cC c):=rfl
theorem ph:KL (gX e)=some (pA e):=rfl
theorem qW:KL (uT g)=some (cG g):=rfl
theorem oK:KL (fC l)=some (cL l):=rfl
theorem mq:AS σ (cR r)=cR r:=rfl
theorem kW:AS σ (cB b)=cB b:=rfl
theorem gO:AS σ (ju s)=ju s:=rfl
theorem kK:AS σ (cC c)=cC c:=rfl
theorem hX:AS σ (pA e)=pA e:=rfl
theorem mw:AS σ (cG g)=cG g:=rfl
theorem lK:AS σ (cL l)=cL l:=rfl
theorem ue:ren σ (Kn r)=Kn r:=by unfold Kn;rw[Hd,mq]
theorem qH:ren σ (Yv b)=Yv b:=by unfold Yv;rw[Hd,kW]
theorem nI:ren σ (fe s)=fe s:=by unfold fe;rw[Hd,gO]
theorem uE:ren σ (rA c)=rA c:=by unfold rA;rw[Hd,kK]
theorem mG:ren σ (gX e)=gX e:=by unfold gX;rw[Hd,hX]
theorem uy:ren σ (uT g)=uT g:=by unfold uT;rw[Hd,mw]
theorem mZ:ren σ (fC l)=fC l:=by unfold fC;rw[Hd,lK]
theorem mA:V.agg (cR r)=Kn r:=rfl
theorem mM:V.agg (cB b)=Yv b:=rfl
theorem jr:V.agg (ju s)=fe s:=rfl
theorem nQ:V.agg (cC c)=rA c:=rfl
theorem iG:V.agg (pA e)=gX e:=rfl
theorem oL:V.agg (cG g)=uT g:=rfl
theorem kb:V.agg (cL l)=fC l:=rfl
theorem vO:sub 0 3 (cR r)=cT r.left:=rfl
theorem xA:sub 3 3 (cR r)=cT r.right:=rfl
theorem zb:sub 0 6 (cR r)=cR r:=rfl
theorem Ae7:(cB b)[0]?=some (.str b.name):=rfl
theorem xj:sub 1 3 (cB b)=cT b.term:=rfl
theorem zx:sub 0 4 (cB b)=cB b:=rfl
theorem AdQ:(ju s)[0]?=some (.int .i64 s.rule):=rfl
theorem AdE:(ju s)[1]?=some (I0 s.pos):=rfl
theorem tl:sub 0 2 (ju s)=ju s:=rfl
theorem xJ:sub 0 3 (cC c)=cT c.start:=rfl
theorem Ae2:(cC c)[3]?=some (jo c.steps):=rfl
theorem wy:sub 0 4 (cC c)=cC c:=rfl
theorem Ad7:(pA e)[0]?=some (.int .i64 e.src):=rfl
theorem Aeg:(pA e)[1]?=some (.int .i64 e.dst):=rfl
theorem uf:sub 2 2 (pA e)=ju e.step:=rfl
theorem rq:sub 0 4 (pA e)=pA e:=rfl
theorem AeE:(cG g)[0]?=some (Bk g.terms):=rfl
theorem Afb:(cG g)[1]?=some (sF g.edges):=rfl
theorem AeF:(cG g)[2]?=some (.bool g.whole):=rfl
theorem yp:sub 0 3 (cG g)=cG g:=rfl
theorem yy:sub 0 4 (cL l)=cC l.chain:=rfl
theorem xF:sub 0 3 (cL l)=cT l.chain.start:=rfl
theorem Aez:(cL l)[3]?=some (jo l.chain.steps):=rfl
theorem Aev:(cL l)[4]?=some (I0 l.pos):=rfl
theorem AeK:(cL l)[5]?=some (Bm l.subst):=rfl
theorem xg:sub 0 6 (cL l)=cL l:=rfl
theorem Aex:nN 0 none (Yv b)=some (.str b.name):=rfl
theorem Afe:nN 1 (some 3) (Yv b)=some (An b.term):=rfl
end
attribute [push_cast] qu aP nW Ae1 zj AbT Aan AbL AaD vN AbA yJ Abg Aco ri pX oE rD ph qW oK mq kW gO kK hX mw lK ue qH nI uE mG uy mZ mA mM jr nQ iG oL kb vO xA zb Ae7 xj zx AdQ AdE tl xJ Ae2 wy Ad7 Aeg uf rq AeE Afb AeF yp yy xF Aez Aev AeK xg Aex Afe
def Ld {α:Type}(p:α->Bool):List α->Int
 | []=>-1
 | a::l=>if p a then 0 else if Ld p l<0 then -1 else Ld p l+1
theorem Yx {α:Type}(p:α->Bool):∀ l:List α,(Ld p l=-1/\l.any p=false)\/(0<=Ld p l/\Ld p l<l.length/\l.any p=true)
 | []=>.inl ⟨rfl,rfl⟩
 | a::l=>by
  simp only[Ld,List.any_cons,List.length_cons]
  cases hp:p a with
  | true=>right;simp
  | false =>
   rcases Yx p l with ⟨h1,h2⟩|⟨h1,h2,h3⟩
   ·left;simp[h1,h2]
   ·right;simp only[Bool.false_eq_true,if_false,h3];rw[if_neg (by omega)];simp;omega
theorem NF {α:Type}(p:α->Bool)(l:List α):decide (0<=Ld p l)=l.any p:=by
 rcases Yx p l with ⟨h1,h2⟩|⟨h1,h2,h3⟩
 ·rw[h1,h2];rfl
 ·rw[h3];simp[h1]
theorem Hc {α:Type}[Inhabited α]{p:α->Bool}:∀ {l:List α} {k:Nat},k<l.length->p (l.getD k default)=true->(∀ j,j<k->p (l.getD j default)=false)->Ld p l=k
 | [],k,hk,_,_=>by simp at hk
 | a::l,0,hk,hp,_=>by simp only[Ld];rw[if_pos (by simpa using hp)];rfl
 | a::l,k+1,hk,hp,hq=>by
  have h0:p a=false:=hq 0 (by omega)
  have:=Hc (l:=l) (k:=k) (by simpa using hk) (by simpa using hp) fun j hj=>by have:=hq (j+1) (by omega);simpa using this
  simp only[Ld,h0,Bool.false_eq_true,if_false,this]
  rw[if_neg (by omega)];omega
theorem Ij {α:Type}[Inhabited α]{p:α->Bool}:∀ {l:List α},(∀ j,j<l.length->p (l.getD j default)=false)->Ld p l=-1
 | [],_=>rfl
 | a::l,hq=>by
  have h0:p a=false:=hq 0 (by simp)
  have:=Ij (l:=l) fun j hj=>by have:=hq (j+1) (by simpa using hj);simpa using this
  simp[Ld,h0,this]
end Go.Dw
end
section
namespace Go.Dw
variable {s:List K} {B:Nat} {t:T} {H:List Ob} {Q:X->T->List Ob->Prop}
namespace ED
def nd:Nat->C
 | 0=>.R [.A 32 0,.A 33 1,.A 34 2,.U 35 HW [.s 32,.s 33,.s 34],.A 31 35,.F 36 31 0,.F 37 31 1,.F 38 31 2,.A 7 36,.A 8 37,.A 9 38] (.R [.A 40 0,.A 41 1,.A 42 2,.U 43 Ns [.s 40,.s 41,.s 42],.A 39 43,.F 44 39 0,.F 45 39 1,.F 46 39 2,.A 10 44,.A 11 45,.A 12 46] (.R [.A 47 9,.A 48 12,.V 49 .eql 47 48,.A 50 49,.P 50 true [51,52,53] [.A 51 7,.A 52 10,.U 53 Jb [.s 51,.s 52]],.N 54 50 53,.A 55 54,.P 55 true [56,57,58] [.A 56 8,.A 57 11,.U 58 Jb [.s 56,.s 57]],.N 59 55 58,.A 60 59,.P 60 true [61] [.U 61 Qi []],.N 62 60 61,.A 6 62] (.ret)))
 | _=>.skip
def body:C:=.R [.mv 6 (.c (.bool false))] (.seq (.R [.A 13 1,.Y 14 13,.X 15 .gtr 14 6,.A 16 15,.P 16 true [17,18,19] [.A 17 1,.Y 18 17,.X 19 .leq 18 4096],.N 20 16 19,.A 21 20,.P 21 false [22,23,24,25] [.A 22 2,.Y 23 22,.X 24 .gtr 23 6,.A 25 24],.P 25 true [26,27,28] [.A 26 2,.Y 27 26,.X 28 .leq 27 4096],.P 21 false [29] [.N 29 25 28],.M 30 21 29] (.W 30 (.R [.mv 6 (.c (.bool true))] (.ret)) (.skip))) (.n 0))
def rs:List RV:=[.t 6]
attribute [push_cast] nd body
theorem ok:Bd prog Iw nd body 3 rs=true:=by kernel_rfl
end ED
namespace Ey
def nd:Nat->C
 | 0=>.R [.A 17 0,.E 18 4 4,.E 19 4 5,.U 20 Ba [.s 17,.s 18,.s 19],.U 21 Fd [.s 20],.F 22 21 0,.F 23 21 1,.K 4 6 22,.A 7 23] (.ret)
 | _=>.skip
def body:C:=.R [.Z 4 A8 1,.Z 5 A8 2,.al 6 A8 Lq,.mv 7 (.i 0)] (.seq (.R [.A 9 0,.E 10 4 4,.E 11 4 5,.U 12 Ku [.s 9,.s 10,.s 11],.A 8 12] (.R [.A 13 8,.J 14 13] (.W 14 (.R [.bd 15 Lq [],.A 16 8,.K 4 6 15,.A 7 16] (.ret)) (.skip)))) (.n 0))
def rs:List RV:=[.a 6 4,.t 7]
attribute [push_cast] nd body
theorem ok:Bd prog ER nd body 3 rs=true:=by kernel_rfl
end Ey
namespace V8
def nd (_:Nat):C:=.skip
def body:C:=.R [.mv 0 (.c (.bool false))] (.R [.bd 7 Lq [(1,1,(.c (.str [97])))],.bs 8 4 [.s 7],.bd 9 Lq [(0,1,(.i 1)),(3,1,(.s 8))],.al 1 A8 Lq,.L 1 4 9] (.R [.bd 10 Lq [(0,1,(.i 2))],.bs 11 4 [.s 10],.bd 12 Lq [(1,1,(.c (.str [102]))),(3,1,(.s 11))],.al 2 A8 Lq,.L 2 4 12] (.seq (.dr [0,1,2,3,4,5,6,7,8,9] [.U 14 KZ [],.E 15 4 1,.E 16 4 2,.U 17 ER [.s 14,.s 15,.s 16],.A 13 17,.F 18 13 0,.F 19 13 1,.al 3 A8 Lq,.L 3 4 18,.A 4 19]) (.seq (.dr [0,1,2,3,4,5,6,7,8,9] [.U 21 KZ [],.E 22 4 2,.E 23 4 1,.U 24 ER [.s 21,.s 22,.s 23],.A 20 24,.F 25 20 0,.F 26 20 1,.al 5 A8 Lq,.L 5 4 25,.A 6 26]) (.R [.A 27 4,.X 28 .eql 27 0,.A 29 28,.P 29 true [30,31] [.A 30 6,.X 31 .eql 30 0],.N 32 29 31,.A 33 32,.P 33 true [34,35,36,37,38] [.E 34 4 3,.bd 35 Lq [(1,1,(.c (.str [98])))],.bs 36 4 [.s 35],.bd 37 Lq [(0,1,(.i 1)),(3,1,(.s 36))],.U 38 JL [.s 34,.s 37]],.N 39 33 38,.A 40 39,.P 40 true [41,42,43,44,45,46] [.E 41 4 5,.bd 42 Lq [(0,1,(.i 2))],.bd 43 Lq [(0,1,(.i 2))],.bs 44 4 [.s 42,.s 43],.bd 45 Lq [(1,1,(.c (.str [103]))),(3,1,(.s 44))],.U 46 JL [.s 41,.s 45]],.N 47 40 46,.A 0 47] (.ret))))))
def rs:List RV:=[.t 0]
attribute [push_cast] nd body
theorem ok:Bd prog Qi nd body 0 rs=true:=by kernel_rfl
end V8
namespace QC
def nd:Nat->C
 | 0=>.R [.mv 4 (.c (.bool true))] (.ret)
 | 1=>.gh [.ks 0 [2,3,36,37]] (.m 3)
 | 2=>.seq (.blk 1 (.R [.A 39 37,.A 5 39] (.seq (.dr [0,1,2,3,4,5,6,7,8,9,10,11] [.D 40 3 2,.B 41 40,.A 42 5,.G 43 4 41 42,.E 44 4 43,.D 45 3 3,.B 46 45,.A 47 5,.G 48 4 46 47,.E 49 4 48,.U 50 JL [.s 44,.s 49],.Q 51 50]) (.W 51 (.R [.mv 4 (.c (.bool false))] (.ret)) (.skip))))) (.reg [.X 52 .add 37 1,.A 37 52])
 | 3=>.R [.V 38 .lss 37 36] (.seq (.W 38 (.skip) (.exit 0)) (.n 2))
 | 4=>.seq (.R [.D 34 3 2,.B 35 34,.Y 36 35,.mv 37 (.i 0)] (.J 0 1)) (.n 0)
 | _=>.skip
def body:C:=.R [.Z 2 A8 0,.Z 3 A8 1,.mv 4 (.c (.bool false))] (.seq (.R [.D 6 0 2,.B 7 6,.D 8 0 3,.B 9 8,.V 10 .neq 7 9,.A 11 10,.P 11 false [12,13,14,15,16] [.D 12 1 2,.B 13 12,.D 14 1 3,.B 15 14,.V 16 .neq 13 15],.M 17 11 16,.A 18 17,.P 18 false [19,20,21,22,23] [.D 19 2 2,.B 20 19,.D 21 2 3,.B 22 21,.bb 23 .neq (.s 20) (.s 22)],.M 24 18 23,.A 25 24,.P 25 false [26,27,28,29,30,31,32] [.D 26 3 2,.B 27 26,.Y 28 27,.D 29 3 3,.B 30 29,.Y 31 30,.V 32 .neq 28 31],.M 33 25 32] (.W 33 (.R [.mv 4 (.c (.bool false))] (.ret)) (.skip))) (.n 4))
def rs:List RV:=[.t 4]
attribute [push_cast] nd body
theorem ok:Bd prog JL nd body 2 rs=true:=by kernel_rfl
abbrev L3 (a b c d:V)(B:Nat)(H:CX)(Q:QX):Prop:=Ax prog nd B (DA 3 1 0 0) [(2,a),(3,b),(36,c),(37,d)] H Q
end QC
namespace UP
def nd (_:Nat):C:=.skip
def body:C:=.R [.Z 2 A3 0,.Z 3 A3 1,.mv 4 (.c (.bool false))] (.R [.E 5 3 2,.E 6 3 3,.U 7 JU [.s 5,.s 6],.X 8 .eql 7 0,.A 4 8] (.ret))
def rs:List RV:=[.t 4]
attribute [push_cast] nd body
theorem ok:Bd prog N1 nd body 2 rs=true:=by kernel_rfl
end UP
namespace B6
def nd:Nat->C
 | 0=>.R [.A 83 17,.U 84 Gd [.s 83],.A 85 18,.U 86 Gd [.s 85],.A 6 84,.A 7 86,.mv 8 (.i 0)] (.ret)
 | 1=>.R [.A 73 0,.A 74 1,.A 75 2,.U 76 HT [.s 73,.s 74,.s 75],.A 72 76,.F 77 72 0,.F 78 72 1,.F 79 72 2,.A 17 77,.A 18 78,.A 19 79] (.seq (.R [.A 80 19,.J 81 80] (.W 81 (.R [.A 82 19,.mv 6 (.c (.sl 4 [])),.mv 7 (.c (.sl 4 [])),.A 8 82] (.ret)) (.skip))) (.n 0))
 | 2=>.R [.A 39 0,.A 40 1,.U 41 Gg [.s 39,.s 40],.A 38 41,.F 42 38 0,.F 43 38 1,.al 13 A3 Co,.L 13 3 42,.A 14 43] (.R [.A 45 0,.A 46 2,.U 47 Gg [.s 45,.s 46],.A 44 47,.F 48 44 0,.F 49 44 1,.al 15 A3 Co,.L 15 3 48,.A 16 49] (.seq (.R [.A 50 14,.Q 51 50,.A 52 51,.P 52 false [53,54] [.A 53 16,.Q 54 53],.M 55 52 54,.A 56 55,.P 56 false [57,58,59,60] [.A 57 1,.Y 58 57,.X 59 .gtr 58 0,.A 60 59],.P 60 true [61,62,63] [.A 61 2,.Y 62 61,.X 63 .gtr 62 0],.P 56 false [64,65] [.N 64 60 63,.A 65 64],.P 65 true [66,67,68,69] [.E 66 3 13,.E 67 3 15,.U 68 Fu [.s 66,.s 67],.Q 69 68],.P 56 false [70] [.N 70 65 69],.M 71 56 70] (.W 71 (.R [.mv 6 (.c (.sl 4 [])),.mv 7 (.c (.sl 4 [])),.mv 8 (.i 9)] (.ret)) (.skip))) (.n 1)))
 | 3=>.gh [.ks 0 [0,1,2,27,28]] (.m 5)
 | 4=>.seq (.blk 1 (.R [.ixa 30 1 2 none (.s 27) (.s 28),.A 11 30] (.R [.A 31 0,.A 32 11,.U 33 Hk [.s 31,.s 32],.A 12 33] (.R [.A 34 12,.J 35 34] (.W 35 (.R [.A 36 12,.mv 6 (.c (.sl 4 [])),.mv 7 (.c (.sl 4 [])),.A 8 36] (.ret)) (.skip)))))) (.reg [.X 37 .add 28 1,.A 28 37])
 | 5=>.R [.X 29 .lss 28 2] (.seq (.W 29 (.skip) (.exit 0)) (.n 4))
 | 6=>.seq (.R [.A 25 1,.A 26 2,.bd 27 [.sl 4 [],.sl 4 []] [(0,1,(.s 25)),(1,1,(.s 26))],.mv 28 (.i 0)] (.J 0 3)) (.n 2)
 | _=>.skip
def body:C:=.R [.mv 6 (.c (.sl 4 [])),.mv 7 (.c (.sl 4 [])),.mv 8 (.i 0)] (.seq (.R [.A 20 0,.U 21 GP [.s 20],.A 9 21] (.R [.A 22 9,.J 23 22] (.W 23 (.R [.A 24 9,.mv 6 (.c (.sl 4 [])),.mv 7 (.c (.sl 4 [])),.A 8 24] (.ret)) (.skip)))) (.n 6))
def rs:List RV:=[.t 6,.t 7,.t 8]
attribute [push_cast] nd body
theorem ok:Bd prog HW nd body 3 rs=true:=by kernel_rfl
abbrev L5 (a b c d e:V)(B:Nat)(H:CX)(Q:QX):Prop:=Ax prog nd B (DA 5 3 0 2) [(0,a),(1,b),(2,c),(27,d),(28,e)] H Q
end B6
namespace Cj
def nd:Nat->C
 | 0=>.R [.A 88 17,.A 89 18,.A 6 88,.A 7 89,.mv 8 (.i 0)] (.ret)
 | 1=>.R [.A 79 0,.A 80 1,.A 81 2,.U 82 Nh [.s 79,.s 80,.s 81],.A 78 82,.F 83 78 0,.F 84 78 1,.F 85 78 2,.A 17 83,.A 18 84,.A 19 85] (.seq (.R [.A 86 19,.Q 87 86] (.W 87 (.R [.mv 6 (.c (.sl 4 [])),.mv 7 (.c (.sl 4 [])),.mv 8 (.i 3)] (.ret)) (.skip))) (.n 0))
 | 2=>.seq (.R [.A 50 1,.Y 51 50,.X 52 .gtr 51 0,.A 53 52,.P 53 true [54,55,56] [.A 54 2,.Y 55 54,.X 56 .gtr 55 0],.N 57 53 56] (.W 57 (.R [.A 59 0,.A 60 1,.ia 61 4 (.s 60) (.i 0),.E 62 4 61,.U 63 DD [.s 59,.s 62,(.c (.bool false))],.A 58 63,.F 64 58 0,.F 65 58 1,.al 13 A3 Co,.L 13 3 64,.A 14 65] (.R [.A 67 0,.A 68 2,.ia 69 4 (.s 68) (.i 0),.E 70 4 69,.U 71 DD [.s 67,.s 70,(.c (.bool false))],.A 66 71,.F 72 66 0,.F 73 66 1,.al 15 A3 Co,.L 15 3 72,.A 16 73] (.R [.E 74 3 13,.E 75 3 15,.U 76 N1 [.s 74,.s 75],.Q 77 76] (.W 77 (.R [.mv 6 (.c (.sl 4 [])),.mv 7 (.c (.sl 4 [])),.mv 8 (.i 9)] (.ret)) (.skip))))) (.skip))) (.n 1)
 | 3=>.seq (.R [.A 40 0,.A 41 1,.U 42 HK [.s 40,.s 41],.Q 43 42,.A 44 43,.P 44 false [45,46,47,48] [.A 45 0,.A 46 2,.U 47 HK [.s 45,.s 46],.Q 48 47],.M 49 44 48] (.W 49 (.R [.mv 6 (.c (.sl 4 [])),.mv 7 (.c (.sl 4 [])),.mv 8 (.i 9)] (.ret)) (.skip))) (.n 2)
 | 4=>.gh [.ks 0 [0,1,2,27,28,29]] (.m 6)
 | 5=>.seq (.blk 1 (.R [.G 31 1 27 29,.B 32 31,.A 11 32] (.R [.A 33 0,.A 34 11,.U 35 Ho [.s 33,.s 34],.A 12 35] (.R [.A 36 12,.J 37 36] (.W 37 (.R [.A 38 12,.mv 6 (.c (.sl 4 [])),.mv 7 (.c (.sl 4 [])),.A 8 38] (.ret)) (.skip)))))) (.reg [.X 39 .add 29 1,.A 29 39])
 | 6=>.R [.V 30 .lss 29 28] (.seq (.W 30 (.skip) (.exit 0)) (.n 5))
 | 7=>.seq (.R [.A 25 1,.A 26 2,.bs 27 1 [.s 25,.s 26],.Y 28 27,.mv 29 (.i 0)] (.J 0 4)) (.n 3)
 | _=>.skip
def body:C:=.R [.mv 6 (.c (.sl 4 [])),.mv 7 (.c (.sl 4 [])),.mv 8 (.i 0)] (.seq (.R [.A 20 0,.U 21 Iu [.s 20],.A 9 21] (.R [.A 22 9,.J 23 22] (.W 23 (.R [.A 24 9,.mv 6 (.c (.sl 4 [])),.mv 7 (.c (.sl 4 [])),.A 8 24] (.ret)) (.skip)))) (.n 7))
def rs:List RV:=[.t 6,.t 7,.t 8]
attribute [push_cast] nd body
theorem ok:Bd prog Ns nd body 3 rs=true:=by kernel_rfl
abbrev L6 (a b c d e f:V)(B:Nat)(H:CX)(Q:QX):Prop:=Ax prog nd B (DA 6 4 0 3) [(0,a),(1,b),(2,c),(27,d),(28,e),(29,f)] H Q
end Cj
namespace IM
def nd:Nat->C
 | 0=>.R [.mv 4 (.c (.bool true))] (.ret)
 | 1=>.gh [.ks 0 [0,1,12,13]] (.m 3)
 | 2=>.seq (.blk 1 (.R [.A 15 13,.A 5 15] (.seq (.dr [0,1,2,3,4,5,6,7,8,9] [.A 16 0,.A 17 5,.G 18 4 16 17,.E 19 4 18,.A 20 1,.A 21 5,.G 22 4 20 21,.E 23 4 22,.U 24 JL [.s 19,.s 23],.Q 25 24]) (.W 25 (.R [.mv 4 (.c (.bool false))] (.ret)) (.skip))))) (.reg [.X 26 .add 13 1,.A 13 26])
 | 3=>.R [.V 14 .lss 13 12] (.seq (.W 14 (.skip) (.exit 0)) (.n 2))
 | 4=>.seq (.R [.A 11 0,.Y 12 11,.mv 13 (.i 0)] (.J 0 1)) (.n 0)
 | _=>.skip
def body:C:=.R [.mv 4 (.c (.bool false))] (.seq (.R [.A 6 0,.Y 7 6,.A 8 1,.Y 9 8,.V 10 .neq 7 9] (.W 10 (.R [.mv 4 (.c (.bool false))] (.ret)) (.skip))) (.n 4))
def rs:List RV:=[.t 4]
attribute [push_cast] nd body
theorem ok:Bd prog Jb nd body 2 rs=true:=by kernel_rfl
abbrev L3 (a b c d:V)(B:Nat)(H:CX)(Q:QX):Prop:=Ax prog nd B (DA 3 1 0 0) [(0,a),(1,b),(12,c),(13,d)] H Q
end IM
namespace EI
def nd:Nat->C
 | 0=>.R [.A 43 10,.A 6 43] (.ret)
 | 1=>.R [.A 29 0,.E 30 4 5,.U 31 Ej [.s 29,.s 30],.A 28 31,.F 32 28 0,.F 33 28 1,.F 34 28 2,.al 11 A3 Co,.al 12 A3 Co,.L 11 3 32,.L 12 3 33,.A 10 34] (.seq (.R [.A 35 10,.X 36 .eql 35 0,.A 37 36,.P 37 true [38,39,40,41] [.E 38 3 8,.E 39 3 11,.U 40 Fu [.s 38,.s 39],.Q 41 40],.N 42 37 41] (.W 42 (.R [.mv 6 (.i 9)] (.ret)) (.skip))) (.n 0))
 | 2=>.R [.A 19 0,.E 20 4 4,.U 21 Ej [.s 19,.s 20],.A 18 21,.F 22 18 0,.F 23 18 1,.F 24 18 2,.al 8 A3 Co,.al 9 A3 Co,.L 8 3 22,.L 9 3 23,.A 10 24] (.seq (.R [.A 25 10,.J 26 25] (.W 26 (.R [.A 27 10,.A 6 27] (.ret)) (.skip))) (.n 1))
 | _=>.skip
def body:C:=.R [.Z 4 A8 1,.Z 5 A8 2,.mv 6 (.i 0)] (.seq (.R [.A 13 0,.U 14 GP [.s 13],.A 7 14] (.R [.A 15 7,.J 16 15] (.W 16 (.R [.A 17 7,.A 6 17] (.ret)) (.skip)))) (.n 2))
def rs:List RV:=[.t 6]
attribute [push_cast] nd body
theorem ok:Bd prog Ku nd body 3 rs=true:=by kernel_rfl
end EI
namespace Hi
def nd:Nat->C
 | 0=>.R [.E 13 4 1,.U 14 MC [.s 13],.K 4 2 14,.mv 3 (.i 0)] (.ret)
 | _=>.skip
def body:C:=.R [.Z 1 A8 0,.al 2 A8 Lq,.mv 3 (.i 0)] (.seq (.R [.E 4 4 1,.U 5 GS [.s 4],.X 6 .gtr 5 4000,.A 7 6,.P 7 false [8,9,10] [.E 8 4 1,.U 9 FV [.s 8],.X 10 .gtr 9 200],.M 11 7 10] (.W 11 (.R [.bd 12 Lq [],.K 4 2 12,.mv 3 (.i 3)] (.ret)) (.skip))) (.n 0))
def rs:List RV:=[.a 2 4,.t 3]
attribute [push_cast] nd body
theorem ok:Bd prog Fd nd body 1 rs=true:=by kernel_rfl
end Hi
namespace EK
def nd:Nat->C
 | 0=>.seq (.dr [0,1,2,3,4,5,6,7,8,9,10,11,12,13,14,15,16] [.B 39 3,.A 40 7,.X 41 .sub 40 1,.G 42 6 39 41,.D 43 3 42,.E 44 3 43,.B 45 3,.A 46 7,.X 47 .sub 46 1,.G 48 6 45 47,.D 49 0 48,.E 50 3 49,.bs 51 3 [.s 50],.U 52 Di [.s 51],.A 53 10,.U 54 KY [.s 44,.s 52,.s 53],.K 4 6 54]) (.ret)
 | _=>.skip
def body:C:=.R [.Z 3 U7 0,.Z 4 A8 1,.Z 5 A8 2,.al 6 A8 Lq] (.R [.B 12 3,.E 13 4 4,.E 14 4 5,.U 15 Hg [.s 12,.s 13,.s 14],.A 11 15,.F 16 11 0,.F 17 11 1,.F 18 11 2,.A 7 16,.A 8 17,.A 9 18] (.R [.A 19 8,.A 20 9,.mf 21 Dq [] [.s 3],.U 22 Mm [.s 19,.s 20,.s 21],.A 10 22] (.seq (.blk 0 (.R [.A 24 7,.X 25 .eql 24 0,.A 23 25] (.W 23 (.R [.D 26 1 4,.B 27 26,.D 28 2 4,.B 29 28,.A 30 10,.bd 31 Lq [(1,1,(.s 27)),(2,1,(.s 29)),(3,1,(.s 30))],.K 4 6 31] (.ret)) (.R [.D 33 0 5,.B 34 33,.X 35 .eql 34 0,.A 32 35] (.W 32 (.R [.A 36 7,.A 37 10,.bd 38 Lq [(0,1,(.s 36)),(3,1,(.s 37))],.K 4 6 38] (.ret)) (.skip)))))) (.n 0))))
def rs:List RV:=[.a 6 4]
attribute [push_cast] nd body
theorem ok:Bd prog Ba nd body 3 rs=true:=by kernel_rfl
end EK
namespace S3
def nd (_:Nat):C:=.skip
def body:C:=.R [.mv 0 (.c (.sl 6 []))] (.R [.bd 2 Co [(0,1,(.c (.str [120]))),(1,1,(.c (.bool true)))],.al 1 A3 Co,.L 1 3 2] (.R [.E 3 3 1,.bs 4 3 [.s 3],.bd 5 Co [(0,1,(.c (.str [102]))),(2,1,(.s 4))],.E 6 3 1,.E 7 3 1,.bs 8 3 [.s 6,.s 7],.bd 9 Co [(0,1,(.c (.str [103]))),(2,1,(.s 8))],.bd 10 [.str [],.bool false,.sl 3 [],.str [],.bool false,.sl 3 []] [(0,3,(.s 5)),(3,3,(.s 9))],.bd 11 Co [(0,1,(.c (.str [97])))],.bd 12 Co [(0,1,(.c (.str [98])))],.bd 13 [.str [],.bool false,.sl 3 [],.str [],.bool false,.sl 3 []] [(0,3,(.s 11)),(3,3,(.s 12))],.bs 14 6 [.s 10,.s 13],.A 0 14] (.ret)))
def rs:List RV:=[.t 0]
attribute [push_cast] nd body
theorem ok:Bd prog KZ nd body 0 rs=true:=by kernel_rfl
end S3
namespace Oc
def nd:Nat->C
 | 0=>.R [.D 17 0 8,.E 18 4 17,.K 4 6 18,.mv 7 (.c (.bool true))] (.ret)
 | _=>.skip
def body:C:=.R [.Z 4 A8 1,.Z 5 A8 2,.al 6 A8 Lq,.mv 7 (.c (.bool false))] (.R [.A 9 0,.E 10 4 4,.E 11 4 5,.U 12 E1 [.s 9,.s 10,.s 11],.al 8 Ay [.int .i64 0,.str [],.bool false,.sl 4 [],.int .i64 0,.int .i64 0],.L 8 6 12] (.seq (.R [.E 13 6 8,.U 14 Q9 [.s 13],.Q 15 14] (.W 15 (.R [.bd 16 Lq [],.K 4 6 16,.mv 7 (.c (.bool false))] (.ret)) (.skip))) (.n 0)))
def rs:List RV:=[.a 6 4,.t 7]
attribute [push_cast] nd body
theorem ok:Bd prog IZ nd body 3 rs=true:=by kernel_rfl
end Oc
namespace QM
def nd (_:Nat):C:=.skip
def body:C:=.R [.Z 1 A8 0,.mv 2 (.c (.bool false))] (.R [.E 6 4 1,.U 7 Oo [.s 6],.A 5 7,.F 8 5 0,.F 9 5 1,.A 3 8,.A 4 9] (.R [.A 10 3,.X 11 .leq 10 4000,.A 12 11,.P 12 true [13,14] [.A 13 4,.X 14 .leq 13 200],.N 15 12 14,.A 2 15] (.ret)))
def rs:List RV:=[.t 2]
attribute [push_cast] nd body
theorem ok:Bd prog Qe nd body 1 rs=true:=by kernel_rfl
end QM
namespace OJ
def nd (_:Nat):C:=.skip
def body:C:=.R [.Z 3 A8 1,.al 4 A3 Co,.mv 5 (.i 0)] (.R [.A 6 0,.E 7 4 3,.U 8 ML [.s 6,.s 7,(.f GW)],.F 9 8 0,.F 10 8 1,.K 3 4 9,.A 5 10] (.ret))
def rs:List RV:=[.a 4 3,.t 5]
attribute [push_cast] nd body
theorem ok:Bd prog M9 nd body 2 rs=true:=by kernel_rfl
end OJ
namespace OD
def nd (_:Nat):C:=.skip
def body:C:=.R [.Z 3 A8 1,.al 4 A3 Co,.mv 5 (.i 0)] (.R [.A 6 0,.E 7 4 3,.U 8 ML [.s 6,.s 7,(.f GV)],.F 9 8 0,.F 10 8 1,.K 3 4 9,.A 5 10] (.ret))
def rs:List RV:=[.a 4 3,.t 5]
attribute [push_cast] nd body
theorem ok:Bd prog LU nd body 2 rs=true:=by kernel_rfl
end OD
namespace Ev
def nd:Nat->C
 | 0=>.R [.mv 4 (.i 0)] (.ret)
 | 1=>.gh [.ks 0 [2,3,36,37]] (.m 3)
 | 2=>.seq (.blk 1 (.R [.A 39 37,.A 7 39] (.seq (.dr [0,1,2,3,4,5,6,7,8,9,10,11] [.D 40 2 2,.B 41 40,.A 42 7,.G 43 3 41 42,.E 44 3 43,.D 45 2 3,.B 46 45,.A 47 7,.G 48 3 46 47,.E 49 3 48,.U 50 JU [.s 44,.s 49],.A 8 50]) (.R [.A 51 8,.J 52 51] (.W 52 (.R [.A 53 8,.A 4 53] (.ret)) (.skip)))))) (.reg [.X 54 .add 37 1,.A 37 54])
 | 3=>.R [.V 38 .lss 37 36] (.seq (.W 38 (.skip) (.exit 0)) (.n 2))
 | 4=>.seq (.R [.D 34 2 2,.B 35 34,.Y 36 35,.mv 37 (.i 0)] (.J 0 1)) (.n 0)
 | 5=>.seq (.R [.D 24 2 2,.B 25 24,.Y 26 25,.D 27 2 3,.B 28 27,.Y 29 28,.U 30 EA [.s 26,.s 29],.A 6 30] (.R [.A 31 6,.J 32 31] (.W 32 (.R [.A 33 6,.A 4 33] (.ret)) (.skip)))) (.n 4)
 | 6=>.seq (.R [.D 16 0 2,.B 17 16,.D 18 0 3,.B 19 18,.U 20 D8 [.s 17,.s 19],.A 5 20] (.R [.A 21 5,.J 22 21] (.W 22 (.R [.A 23 5,.A 4 23] (.ret)) (.skip)))) (.n 5)
 | 7=>.R [.mv 4 (.i 1)] (.ret)
 | _=>.skip
def body:C:=.R [.Z 2 A3 0,.Z 3 A3 1,.mv 4 (.i 0)] (.seq (.R [.D 9 1 2,.B 10 9,.D 11 1 3,.B 12 11,.bb 13 .neq (.s 10) (.s 12)] (.W 13 (.seq (.R [.D 14 1 2,.B 15 14] (.W 15 (.R [.mv 4 (.i (-1))] (.ret)) (.skip))) (.n 7)) (.skip))) (.n 6))
def rs:List RV:=[.t 4]
attribute [push_cast] nd body
theorem ok:Bd prog JU nd body 2 rs=true:=by kernel_rfl
abbrev L3 (a b c d:V)(B:Nat)(H:CX)(Q:QX):Prop:=Ax prog nd B (DA 3 1 0 0) [(2,a),(3,b),(36,c),(37,d)] H Q
end Ev
namespace GK
def nd:Nat->C
 | 0=>.R [.A 16 4,.A 2 16] (.ret)
 | _=>.skip
def body:C:=.R [.mv 2 (.i 0)] (.R [.A 6 0,.U 7 GL [.s 6],.A 5 7,.F 8 5 0,.F 9 5 1,.A 3 8,.A 4 9] (.seq (.R [.A 10 4,.X 11 .eql 10 0,.A 12 11,.P 12 true [13,14] [.A 13 3,.Q 14 13],.N 15 12 14] (.W 15 (.R [.mv 2 (.i 2)] (.ret)) (.skip))) (.n 0)))
def rs:List RV:=[.t 2]
attribute [push_cast] nd body
theorem ok:Bd prog GP nd body 1 rs=true:=by kernel_rfl
end GK
namespace CJ
def nd:Nat->C
 | 0=>.R [.mv 4 (.i 0)] (.ret)
 | 1=>.gh [.ks 0 [0,13,14,15]] (.m 3)
 | 2=>.seq (.blk 1 (.R [.G 17 4 13 15,.E 18 4 17,.al 6 A8 Lq,.L 6 4 18] (.R [.A 20 0,.E 21 4 6,.U 22 Ej [.s 20,.s 21],.A 19 22,.F 23 19 0,.F 24 19 1,.F 25 19 2,.al 7 A3 Co,.al 8 A3 Co,.L 7 3 23,.L 8 3 24,.A 9 25] (.R [.A 26 9,.J 27 26] (.W 27 (.R [.A 28 9,.A 4 28] (.ret)) (.skip)))))) (.reg [.X 29 .add 15 1,.A 15 29])
 | 3=>.R [.V 16 .lss 15 14] (.seq (.W 16 (.skip) (.exit 0)) (.n 2))
 | 4=>.seq (.R [.A 13 1,.Y 14 13,.mv 15 (.i 0)] (.J 0 1)) (.n 0)
 | _=>.skip
def body:C:=.R [.mv 4 (.i 0)] (.seq (.R [.A 10 1,.Y 11 10,.X 12 .gtr 11 4096] (.W 12 (.R [.mv 4 (.i 3)] (.ret)) (.skip))) (.n 4))
def rs:List RV:=[.t 4]
attribute [push_cast] nd body
theorem ok:Bd prog Hk nd body 2 rs=true:=by kernel_rfl
abbrev L3 (a b c d:V)(B:Nat)(H:CX)(Q:QX):Prop:=Ax prog nd B (DA 3 1 0 0) [(0,a),(13,b),(14,c),(15,d)] H Q
end CJ
namespace Em
def nd:Nat->C
 | 0=>.R [.E 37 3 6,.K 3 4 37,.mv 5 (.c (.bool true))] (.ret)
 | 1=>.gh [.ks 3 [0,4,6,7,13,14,15]] (.m 3)
 | 2=>.seq (.blk 1 (.R [.A 17 15,.G 18 4 13 15,.E 19 4 18,.al 9 A8 Lq,.A 8 17,.L 9 4 19] (.R [.A 21 0,.E 22 4 9,.U 23 Ej [.s 21,.s 22],.A 20 23,.F 24 20 0,.F 25 20 1,.F 26 20 2,.al 10 A3 Co,.al 11 A3 Co,.L 10 3 24,.L 11 3 25,.A 12 26] (.seq (.R [.A 27 8,.X 28 .eql 27 0] (.W 28 (.reg [.E 29 3 10,.K 3 6 29]) (.R [.E 30 3 7,.E 31 3 10,.U 32 Fu [.s 30,.s 31],.Q 33 32] (.W 33 (.R [.E 34 3 6,.K 3 4 34,.mv 5 (.c (.bool false))] (.ret)) (.skip))))) (.reg [.E 35 3 11,.K 3 7 35]))))) (.reg [.X 36 .add 15 1,.A 15 36])
 | 3=>.R [.V 16 .lss 15 14] (.seq (.W 16 (.skip) (.exit 0)) (.n 2))
 | _=>.skip
def body:C:=.R [.al 4 A3 Co,.mv 5 (.c (.bool false))] (.R [.al 6 A3 Co,.al 7 A3 Co] (.seq (.R [.A 13 1,.Y 14 13,.mv 15 (.i 0)] (.J 0 1)) (.n 0)))
def rs:List RV:=[.a 4 3,.t 5]
attribute [push_cast] nd body
theorem ok:Bd prog Gg nd body 2 rs=true:=by kernel_rfl
abbrev L3 (a b c d e f g:V)(B:Nat)(H:CX)(Q:QX):Prop:=Ax prog nd B (DA 3 1 0 0) [(0,a),(4,b),(6,c),(7,d),(13,e),(14,f),(15,g)] H Q
end Em
namespace OE
def nd (_:Nat):C:=.skip
def body:C:=.R [.Z 2 A3 0,.Z 3 A3 1,.mv 4 (.c (.bool false))] (.R [.D 5 0 2,.B 6 5,.D 7 0 3,.B 8 7,.V 9 .eql 6 8,.A 10 9,.P 10 true [11,12,13,14,15] [.D 11 1 2,.B 12 11,.D 13 1 3,.B 14 13,.bb 15 .eql (.s 12) (.s 14)],.N 16 10 15,.A 17 16,.P 17 true [18,19,20,21,22] [.D 18 2 2,.B 19 18,.D 20 2 3,.B 21 20,.U 22 BG [.s 19,.s 21,(.f Fu)]],.N 23 17 22,.A 4 23] (.ret))
def rs:List RV:=[.t 4]
attribute [push_cast] nd body
theorem ok:Bd prog Fu nd body 2 rs=true:=by kernel_rfl
end OE
namespace Bx
def nd:Nat->C
 | 0=>.R [.frz 2,.A 63 9,.A 64 2,.A 6 63,.A 7 64,.mv 8 (.i 0)] (.ret)
 | 1=>.gh [.ks 2 [0,2,9,18,19,20]] (.m 7)
 | 2=>.gh [.ks 3 [0,2,9,11,18,19,20,24,25,26]] (.m 5)
 | 3=>.seq (.R [.A 43 0,.E 44 4 11,.E 45 4 13,.U 46 Ba [.s 43,.s 44,.s 45],.U 47 Fd [.s 46],.A 42 47,.F 48 42 0,.F 49 42 1,.K 4 11 48,.A 15 49] (.R [.A 50 15,.J 51 50] (.W 51 (.R [.A 52 15,.mv 6 (.c (.sl 4 [])),.mv 7 (.c (.sl 4 [])),.A 8 52] (.ret)) (.skip)))) (.reg [.A 53 2,.A 54 12,.E 55 4 14,.G 56 4 53 54,.K 4 56 55])
 | 4=>.seq (.blk 3 (.R [.A 28 26,.G 29 4 24 26,.E 30 4 29,.al 13 A8 Lq,.A 12 28,.L 13 4 30] (.R [.A 32 0,.E 33 4 13,.E 34 4 11,.U 35 Ba [.s 32,.s 33,.s 34],.U 36 Fd [.s 35],.A 31 36,.F 37 31 0,.F 38 31 1,.al 14 A8 Lq,.L 14 4 37,.A 15 38] (.seq (.R [.A 39 15,.J 40 39] (.W 40 (.R [.A 41 15,.mv 6 (.c (.sl 4 [])),.mv 7 (.c (.sl 4 [])),.A 8 41] (.ret)) (.skip))) (.n 3))))) (.reg [.X 57 .add 26 1,.A 26 57])
 | 5=>.R [.V 27 .lss 26 25] (.seq (.W 27 (.skip) (.exit 2)) (.n 4))
 | 6=>.seq (.blk 1 (.R [.G 22 4 18 20,.E 23 4 22,.al 11 A8 Lq,.K 4 11 23] (.seq (.R [.A 24 2,.Y 25 24,.mv 26 (.i 0)] (.J 2 2)) (.reg [.A 58 9,.E 59 4 11,.bs 60 4 [.s 59],.app 61 A8 4 56 (.s 58) (.s 60),.A 9 61])))) (.reg [.X 62 .add 20 1,.A 20 62])
 | 7=>.R [.V 21 .lss 20 19] (.seq (.W 21 (.skip) (.exit 0)) (.n 6))
 | _=>.skip
def body:C:=.R [.mv 6 (.c (.sl 4 [])),.mv 7 (.c (.sl 4 [])),.mv 8 (.i 0)] (.R [.mv 9 (.c .nil),.non 9 A8 4] (.R [.A 16 2,.call (some 17) Dy [.s 16],.A 2 17] (.seq (.R [.A 18 1,.Y 19 18,.mv 20 (.i 0)] (.J 0 1)) (.n 0))))
def rs:List RV:=[.t 6,.t 7,.t 8]
attribute [push_cast] nd body
theorem ok:Bd prog HT nd body 3 rs=true:=by kernel_rfl
abbrev L5 (a b c d e f g h i j:V)(B:Nat)(H:CX)(Q:QX):Prop:=Ax prog nd B [.c (.m 5),.c (.loop (.n 2)),.mk 2,.c (.reg [.A 58 9,.E 59 4 11,.bs 60 4 [.s 59],.app 61 A8 4 56 (.s 58) (.s 60),.A 9 61]),.mk 1,.c (.reg [.X 62 .add 20 1,.A 20 62]),.c (.loop (.n 1)),.mk 0,.c (.n 0)] [(0,a),(2,b),(9,c),(11,d),(18,e),(19,f),(20,g),(24,h),(25,i),(26,j)] H Q
abbrev L7 (a b c d e f:V)(B:Nat)(H:CX)(Q:QX):Prop:=Ax prog nd B (DA 7 1 0 0) [(0,a),(2,b),(9,c),(18,d),(19,e),(20,f)] H Q
end Bx
namespace FJ
def nd:Nat->C
 | 0=>.R [.A 24 3,.A 2 24] (.ret)
 | 1=>.gh [.ks 1 [3,8,9,10]] (.m 3)
 | 2=>.seq (.blk 1 (.R [.G 12 4 8 10,.E 13 4 12,.al 5 A8 Lq,.L 5 4 13] (.R [.E 15 4 5,.U 16 Fd [.s 15],.A 14 16,.F 17 14 0,.F 18 14 1,.al 6 A8 Lq,.L 6 4 17,.A 7 18] (.reg [.A 19 3,.E 20 4 6,.bs 21 4 [.s 20],.app 22 A8 4 56 (.s 19) (.s 21),.A 3 22])))) (.reg [.X 23 .add 10 1,.A 10 23])
 | 3=>.R [.V 11 .lss 10 9] (.seq (.W 11 (.skip) (.exit 0)) (.n 2))
 | _=>.skip
def body:C:=.R [.mv 2 (.c (.sl 4 []))] (.R [.mv 3 (.c .nil),.non 3 A8 4] (.seq (.R [.A 8 0,.Y 9 8,.mv 10 (.i 0)] (.J 0 1)) (.n 0)))
def rs:List RV:=[.t 2]
attribute [push_cast] nd body
theorem ok:Bd prog Gd nd body 1 rs=true:=by kernel_rfl
abbrev L3 (a b c d:V)(B:Nat)(H:CX)(Q:QX):Prop:=Ax prog nd B (DA 3 1 0 0) [(3,a),(8,b),(9,c),(10,d)] H Q
end FJ
namespace FH
def nd:Nat->C
 | 0=>.R [.A 16 4,.A 2 16] (.ret)
 | _=>.skip
def body:C:=.R [.mv 2 (.i 0)] (.R [.A 6 0,.U 7 Jx [.s 6],.A 5 7,.F 8 5 0,.F 9 5 1,.A 3 8,.A 4 9] (.seq (.R [.A 10 4,.X 11 .eql 10 0,.A 12 11,.P 12 true [13,14] [.A 13 3,.Q 14 13],.N 15 12 14] (.W 15 (.R [.mv 2 (.i 2)] (.ret)) (.skip))) (.n 0)))
def rs:List RV:=[.t 2]
attribute [push_cast] nd body
theorem ok:Bd prog Iu nd body 1 rs=true:=by kernel_rfl
end FH
namespace CM
def nd:Nat->C
 | 0=>.R [.mv 4 (.i 0)] (.ret)
 | 1=>.gh [.ks 0 [0,11,12,13]] (.m 3)
 | 2=>.seq (.blk 1 (.R [.G 15 4 11 13,.E 16 4 15,.al 6 A8 Lq,.L 6 4 16] (.R [.A 17 0,.E 18 4 6,.U 19 JN [.s 17,.s 18],.A 7 19] (.R [.A 20 7,.J 21 20] (.W 21 (.R [.A 22 7,.A 4 22] (.ret)) (.skip)))))) (.reg [.X 23 .add 13 1,.A 13 23])
 | 3=>.R [.V 14 .lss 13 12] (.seq (.W 14 (.skip) (.exit 0)) (.n 2))
 | 4=>.seq (.R [.A 11 1,.Y 12 11,.mv 13 (.i 0)] (.J 0 1)) (.n 0)
 | _=>.skip
def body:C:=.R [.mv 4 (.i 0)] (.seq (.R [.A 8 1,.Y 9 8,.X 10 .gtr 9 4096] (.W 10 (.R [.mv 4 (.i 3)] (.ret)) (.skip))) (.n 4))
def rs:List RV:=[.t 4]
attribute [push_cast] nd body
theorem ok:Bd prog Ho nd body 2 rs=true:=by kernel_rfl
abbrev L3 (a b c d:V)(B:Nat)(H:CX)(Q:QX):Prop:=Ax prog nd B (DA 3 1 0 0) [(0,a),(11,b),(12,c),(13,d)] H Q
end CM
namespace FT
def nd:Nat->C
 | 0=>.R [.mv 4 (.c (.bool true))] (.ret)
 | 1=>.gh [.ks 0 [0,1,5]] (.m 3)
 | 2=>.seq (.blk 1 (.R [.A 17 0,.A 18 1,.A 19 5,.X 20 .sub 19 1,.G 21 4 18 20,.E 22 4 21,.U 23 DD [.s 17,.s 22,(.c (.bool true))],.A 16 23,.F 24 16 0,.F 25 16 1,.al 6 A3 Co,.L 6 3 24,.A 7 25] (.R [.A 27 0,.A 28 1,.A 29 5,.G 30 4 28 29,.E 31 4 30,.U 32 DD [.s 27,.s 31,(.c (.bool false))],.A 26 32,.F 33 26 0,.F 34 26 1,.al 8 A3 Co,.L 8 3 33,.A 9 34] (.R [.E 35 3 6,.E 36 3 8,.U 37 N1 [.s 35,.s 36],.Q 38 37] (.W 38 (.R [.mv 4 (.c (.bool false))] (.ret)) (.skip)))))) (.reg [.A 14 5,.X 15 .add 14 1,.A 5 15])
 | 3=>.seq (.R [.A 10 5,.A 11 1,.Y 12 11,.V 13 .lss 10 12] (.W 13 (.skip) (.exit 0))) (.n 2)
 | _=>.skip
def body:C:=.R [.mv 4 (.c (.bool false))] (.seq (.R [.mv 5 (.i 1)] (.J 0 1)) (.n 0))
def rs:List RV:=[.t 4]
attribute [push_cast] nd body
theorem ok:Bd prog HK nd body 2 rs=true:=by kernel_rfl
abbrev L3 (a b c:V)(B:Nat)(H:CX)(Q:QX):Prop:=Ax prog nd B (DA 3 1 0 0) [(0,a),(1,b),(5,c)] H Q
end FT
namespace Qt
def nd:Nat->C
 | 0=>.R [.A 24 0,.E 25 4 4,.A 26 2,.U 27 MJ [.s 24,.s 25,.s 26],.K 3 6 27,.mv 7 (.i 0)] (.ret)
 | _=>.skip
def body:C:=.R [.Z 4 A8 1,.al 6 A3 Co,.mv 7 (.i 0)] (.R [.A 11 0,.E 12 4 4,.A 13 2,.U 14 JX [.s 11,.s 12,.s 13],.A 10 14,.F 15 10 0,.F 16 10 1,.A 8 15,.A 9 16] (.seq (.R [.A 17 8,.X 18 .gtr 17 4000,.A 19 18,.P 19 false [20,21] [.A 20 9,.X 21 .gtr 20 200],.M 22 19 21] (.W 22 (.R [.bd 23 Co [],.K 3 6 23,.mv 7 (.i 3)] (.ret)) (.skip))) (.n 0)))
def rs:List RV:=[.a 6 3,.t 7]
attribute [push_cast] nd body
theorem ok:Bd prog DD nd body 3 rs=true:=by kernel_rfl
end Qt
namespace Dk
def nd:Nat->C
 | 0=>.R [.A 63 9,.A 64 2,.A 6 63,.A 7 64,.mv 8 (.c (.bool true))] (.ret)
 | 1=>.gh [.ks 1 [0,2,9,19,20,21]] (.m 8)
 | 2=>.R [.A 57 9,.E 58 4 11,.bs 59 4 [.s 58],.app 60 A8 4 56 (.s 57) (.s 59),.A 9 60] (.reg [.frz 12,.A 61 12,.A 2 61])
 | 3=>.gh [.ks 3 [0,9,11,12,19,20,21,25,26,27]] (.m 6)
 | 4=>.R [.A 51 12,.E 52 4 15,.bs 53 4 [.s 52],.apr 54 A8 4 56 (.s 51) (.s 53),.A 12 54] (.reg [.E 55 4 17,.K 4 11 55])
 | 5=>.seq (.blk 3 (.R [.G 29 4 25 27,.E 30 4 29,.al 14 A8 Lq,.L 14 4 30] (.R [.A 32 0,.E 33 4 14,.E 34 4 11,.U 35 IZ [.s 32,.s 33,.s 34],.A 31 35,.F 36 31 0,.F 37 31 1,.al 15 A8 Lq,.L 15 4 36,.A 16 37] (.R [.A 39 0,.E 40 4 11,.E 41 4 14,.U 42 IZ [.s 39,.s 40,.s 41],.A 38 42,.F 43 38 0,.F 44 38 1,.al 17 A8 Lq,.L 17 4 43,.A 18 44] (.seq (.R [.A 45 16,.Q 46 45,.A 47 46,.P 47 false [48,49] [.A 48 18,.Q 49 48],.M 50 47 49] (.W 50 (.R [.mv 6 (.c (.sl 4 [])),.mv 7 (.c (.sl 4 [])),.mv 8 (.c (.bool false))] (.ret)) (.skip))) (.n 4)))))) (.reg [.X 56 .add 27 1,.A 27 56])
 | 6=>.R [.V 28 .lss 27 26] (.seq (.W 28 (.skip) (.exit 2)) (.n 5))
 | 7=>.seq (.blk 1 (.R [.G 23 4 19 21,.E 24 4 23,.al 11 A8 Lq,.K 4 11 24] (.R [.mv 12 (.c .nil),.rnon 12 A8 4] (.seq (.R [.A 25 2,.Y 26 25,.mv 27 (.i 0)] (.J 2 3)) (.n 2))))) (.reg [.X 62 .add 21 1,.A 21 62])
 | 8=>.R [.V 22 .lss 21 20] (.seq (.W 22 (.skip) (.exit 0)) (.n 7))
 | _=>.skip
def body:C:=.R [.mv 6 (.c (.sl 4 [])),.mv 7 (.c (.sl 4 [])),.mv 8 (.c (.bool false))] (.R [.mv 9 (.c .nil),.non 9 A8 4] (.seq (.R [.A 19 1,.Y 20 19,.mv 21 (.i 0)] (.J 0 1)) (.n 0)))
def rs:List RV:=[.t 6,.t 7,.t 8]
attribute [push_cast] nd body
theorem ok:Bd prog Nh nd body 3 rs=true:=by kernel_rfl
abbrev L6 (a b c d e f g h i j:V)(B:Nat)(H:CX)(Q:QX):Prop:=Ax prog nd B [.c (.m 6),.c (.loop (.n 3)),.mk 2,.c (.n 2),.mk 1,.c (.reg [.X 62 .add 21 1,.A 21 62]),.c (.loop (.n 1)),.mk 0,.c (.n 0)] [(0,a),(9,b),(11,c),(12,d),(19,e),(20,f),(21,g),(25,h),(26,i),(27,j)] H Q
abbrev L8 (a b c d e f:V)(B:Nat)(H:CX)(Q:QX):Prop:=Ax prog nd B (DA 8 1 0 0) [(0,a),(2,b),(9,c),(19,d),(20,e),(21,f)] H Q
end Dk
namespace Ou
def nd:Nat->C
 | 0=>.R [.mv 2 (.i 0)] (.ret)
 | _=>.skip
def body:C:=.R [.Z 1 A3 0,.mv 2 (.i 0)] (.seq (.blk 0 (.R [.E 4 3 1,.U 5 JW [.s 4],.Q 6 5,.A 3 6] (.W 3 (.R [.mv 2 (.i 4)] (.ret)) (.R [.E 8 3 1,.U 9 N4 [.s 8],.Q 10 9,.A 7 10] (.W 7 (.R [.mv 2 (.i 3)] (.ret)) (.skip)))))) (.n 0))
def rs:List RV:=[.t 2]
attribute [push_cast] nd body
theorem ok:Bd prog P2 nd body 1 rs=true:=by kernel_rfl
end Ou
namespace Ls
def nd:Nat->C
 | 0=>.R [.mv 2 (.i 0)] (.ret)
 | 1=>.seq (.R [.E 6 3 1,.U 7 Jz [.s 6],.X 8 .gtr 7 4000,.A 9 8,.P 9 false [10,11,12] [.E 10 3 1,.U 11 I5 [.s 10],.X 12 .gtr 11 200],.M 13 9 12] (.W 13 (.R [.mv 2 (.i 3)] (.ret)) (.skip))) (.n 0)
 | _=>.skip
def body:C:=.R [.Z 1 A3 0,.mv 2 (.i 0)] (.seq (.R [.E 3 3 1,.U 4 KT [.s 3],.Q 5 4] (.W 5 (.R [.mv 2 (.i 4)] (.ret)) (.skip))) (.n 1))
def rs:List RV:=[.t 2]
attribute [push_cast] nd body
theorem ok:Bd prog Q8 nd body 1 rs=true:=by kernel_rfl
end Ls
end Go.Dw
end
section
namespace Go.Dw
variable {s:List K} {B:Nat} {t:T} {H:List Ob} {Q:X->T->List Ob->Prop}
namespace CF
def nd (_:Nat):C:=.skip
def body:C:=.R [.mv 4 (.c (.bool false))] (.R [.A 5 0,.A 6 1,.U 7 CK [.s 5,.s 6],.X 8 .geq 7 0,.A 4 8] (.ret))
def rs:List RV:=[.t 4]
attribute [push_cast] nd body
theorem ok:Bd prog Ck nd body 2 rs=true:=by kernel_rfl
end CF
namespace JV
def nd:Nat->C
 | 0=>.R [.A 22 0,.E 23 4 3,.U 24 LU [.s 22,.s 23],.A 21 24,.F 25 21 0,.F 26 21 1,.al 9 A3 Co,.L 9 3 25,.A 8 26] (.seq (.dr [0,1,2,3,4,5] [.lar 27 3 (.s 7),.lar 28 3 (.s 9),.A 29 8,.K 3 4 27,.K 3 5 28,.A 6 29]) (.ret))
 | _=>.skip
def body:C:=.R [.Z 3 A8 1,.al 4 A3 Co,.al 5 A3 Co,.mv 6 (.i 0)] (.R [.A 11 0,.E 12 4 3,.U 13 M9 [.s 11,.s 12],.A 10 13,.F 14 10 0,.F 15 10 1,.al 7 A3 Co,.L 7 3 14,.A 8 15] (.seq (.R [.A 16 8,.J 17 16] (.W 17 (.seq (.dr [0,1,2,3,4,5] [.lar 18 3 (.s 7),.lar 19 3 (.s 7),.A 20 8,.K 3 4 18,.K 3 5 19,.A 6 20]) (.ret)) (.skip))) (.n 0)))
def rs:List RV:=[.a 4 3,.a 5 3,.t 6]
attribute [push_cast] nd body
theorem ok:Bd prog Ej nd body 2 rs=true:=by kernel_rfl
end JV
namespace E8
def nd:Nat->C
 | 0=>.R [.A 20 3,.A 2 20] (.ret)
 | 1=>.gh [.ks 0 [3,7,8,9]] (.m 3)
 | 2=>.seq (.blk 1 (.R [.G 11 4 7 9,.E 12 4 11,.al 5 A8 Lq,.L 5 4 12] (.R [.A 13 3,.E 14 4 5,.U 15 GS [.s 14],.V 16 .add 13 15,.A 3 16] (.R [.A 17 3,.X 18 .gtr 17 4000] (.W 18 (.exit 0) (.skip)))))) (.reg [.X 19 .add 9 1,.A 9 19])
 | 3=>.R [.V 10 .lss 9 8] (.seq (.W 10 (.skip) (.exit 0)) (.n 2))
 | _=>.skip
def body:C:=.R [.Z 1 A8 0,.mv 2 (.i 0)] (.R [.mv 3 (.i 1)] (.seq (.R [.D 6 3 1,.B 7 6,.Y 8 7,.mv 9 (.i 0)] (.J 0 1)) (.n 0)))
def rs:List RV:=[.t 2]
attribute [push_cast] nd body
theorem ok:Bd prog GS nd body 1 rs=true:=by kernel_rfl
abbrev L3 (a b c d:V)(B:Nat)(H:CX)(Q:QX):Prop:=Ax prog nd B (DA 3 1 0 0) [(3,a),(7,b),(8,c),(9,d)] H Q
end E8
namespace GI
def nd:Nat->C
 | 0=>.R [.A 18 3,.X 19 .add 18 1,.A 2 19] (.ret)
 | 1=>.gh [.ks 0 [3,7,8,9]] (.m 3)
 | 2=>.seq (.blk 1 (.R [.G 11 4 7 9,.E 12 4 11,.al 5 A8 Lq,.L 5 4 12] (.reg [.A 13 3,.E 14 4 5,.U 15 FV [.s 14],.mx 16 (.s 13) (.s 15),.A 3 16]))) (.reg [.X 17 .add 9 1,.A 9 17])
 | 3=>.R [.V 10 .lss 9 8] (.seq (.W 10 (.skip) (.exit 0)) (.n 2))
 | _=>.skip
def body:C:=.R [.Z 1 A8 0,.mv 2 (.i 0)] (.R [.mv 3 (.i 0)] (.seq (.R [.D 6 3 1,.B 7 6,.Y 8 7,.mv 9 (.i 0)] (.J 0 1)) (.n 0)))
def rs:List RV:=[.t 2]
attribute [push_cast] nd body
theorem ok:Bd prog FV nd body 1 rs=true:=by kernel_rfl
abbrev L3 (a b c d:V)(B:Nat)(H:CX)(Q:QX):Prop:=Ax prog nd B (DA 3 1 0 0) [(3,a),(7,b),(8,c),(9,d)] H Q
end GI
namespace Rf
def nd:Nat->C
 | 0=>.R [.E 23 4 1,.K 4 2 23] (.ret)
 | 1=>.gh [.ks 3 [1,2,9,10,11]] (.m 3)
 | 2=>.seq (.blk 1 (.R [.G 13 4 9 11,.E 14 4 13,.al 5 A8 Lq,.L 5 4 14] (.dr [0,1,2,3,4,5,6,7] [.D 15 3 1,.B 16 15,.E 17 4 5,.U 18 MC [.s 17],.bs 19 4 [.s 18],.app 20 A8 4 56 (.s 16) (.s 19),.D 21 3 1,.K 1 21 20]))) (.reg [.X 22 .add 11 1,.A 11 22])
 | 3=>.R [.V 12 .lss 11 10] (.seq (.W 12 (.skip) (.exit 0)) (.n 2))
 | _=>.skip
def body:C:=.R [.bx 1 A8 (.s 0),.al 2 A8 Lq] (.R [.D 6 3 1,.B 7 6,.A 3 7] (.R [.D 8 3 1,.st 1 (.s 8) (.c .nil),.ono A8 4 0 (.s 8)] (.seq (.R [.A 9 3,.Y 10 9,.mv 11 (.i 0)] (.J 0 1)) (.n 0))))
def rs:List RV:=[.a 2 4]
attribute [push_cast] nd body
theorem ok:Bd prog MC nd body 1 rs=true:=by kernel_rfl
abbrev L3 (a b c d e:V)(B:Nat)(H:CX)(Q:QX):Prop:=Ax prog nd B (DA 3 1 0 0) [(1,a),(2,b),(9,c),(10,d),(11,e)] H Q
end Rf
namespace Gr
def nd (_:Nat):C:=.skip
def body:C:=.R [.Z 3 U7 0,.Z 4 A8 1,.Z 5 A8 2,.mv 6 (.i 0),.mv 7 (.c (.sl 4 [])),.mv 8 (.c (.sl 4 []))] (.R [.D 11 0 4,.B 12 11,.D 13 0 5,.B 14 13,.mx 15 (.s 12) (.s 14),.al 9 F1 [.int .i64 0],.L 9 1 15] (.R [.mf 16 FD [] [.s 9,.s 3],.A 10 16] (.seq (.dr [0,1,2,3,4,5,6,7,8,9] [.B 17 9,.A 18 10,.E 19 4 4,.callvp (some 20) (.s 18) [.s 19],.A 21 10,.E 22 4 5,.callvp (some 23) (.s 21) [.s 22],.A 6 17,.A 7 20,.A 8 23]) (.ret))))
def rs:List RV:=[.t 6,.t 7,.t 8]
attribute [push_cast] nd body
theorem ok:Bd prog Hg nd body 3 rs=true:=by kernel_rfl
end Gr
namespace J6
def nd:Nat->C
 | 0=>.R [.frz 7,.A 31 7,.A 6 31] (.ret)
 | 1=>.gh [.ks 1 [0,1,2,7,13,14]] (.m 3)
 | 2=>.seq (.blk 1 (.R [.A 16 14,.A 8 16] (.dr [0,1,2,3,4,5,6,7,8,9,10,11,12,13] [.A 17 7,.A 18 8,.A 19 2,.A 20 0,.A 21 8,.G 22 4 20 21,.E 23 4 22,.A 24 1,.A 25 8,.G 26 4 24 25,.E 27 4 26,.callvp (some 28) (.s 19) [.s 23,.s 27],.G 29 4 17 18,.K 4 29 28]))) (.reg [.X 30 .add 14 1,.A 14 30])
 | 3=>.R [.V 15 .lss 14 13] (.seq (.W 15 (.skip) (.exit 0)) (.n 2))
 | _=>.skip
def body:C:=.R [.mv 6 (.c (.sl 4 []))] (.R [.A 9 0,.Y 10 9,.mk 11 A8 4 56 [.int .i64 0,.str [],.bool false,.sl 4 []] (.s 10),.A 7 11] (.seq (.R [.A 12 0,.Y 13 12,.mv 14 (.i 0)] (.J 0 1)) (.n 0)))
def rs:List RV:=[.t 6]
attribute [push_cast] nd body
theorem ok:Bd prog Mm nd body 3 rs=true:=by kernel_rfl
abbrev L3 (a b c d e f:V)(B:Nat)(H:CX)(Q:QX):Prop:=Ax prog nd B (DA 3 1 0 0) [(0,a),(1,b),(2,c),(7,d),(13,e),(14,f)] H Q
end J6
namespace Kw
def nd (_:Nat):C:=.skip
def body:C:=.R [.Z 3 A8 0,.Z 4 A8 1,.al 5 A8 Lq] (.R [.B 6 2,.E 7 4 3,.E 8 4 4,.U 9 Ba [.s 6,.s 7,.s 8],.K 4 5 9] (.ret))
def rs:List RV:=[.a 5 4]
attribute [push_cast] nd body
theorem ok:Bd prog Dq nd body 3 rs=true:=by kernel_rfl
end Kw
namespace LJ
def nd:Nat->C
 | 0=>.R [.E 39 4 7,.K 4 6 39] (.ret)
 | 1=>.gh [.ks 3 [1,2,6,7,23,24,25]] (.m 3)
 | 2=>.seq (.blk 1 (.R [.G 27 3 23 25,.E 28 3 27,.al 9 A3 Co,.L 9 3 28] (.dr [0,1,2,3,4,5,6,7,8,9] [.D 29 3 7,.B 30 29,.E 31 3 9,.A 32 1,.A 33 2,.U 34 KY [.s 31,.s 32,.s 33],.bs 35 4 [.s 34],.app 36 A8 4 56 (.s 30) (.s 35),.D 37 3 7,.K 1 37 36]))) (.reg [.X 38 .add 25 1,.A 25 38])
 | 3=>.R [.V 26 .lss 25 24] (.seq (.W 26 (.skip) (.exit 0)) (.n 2))
 | 4=>.R [.D 19 0 3,.B 20 19,.bd 21 [.int .i64 0,.str [],.bool false,.nil] [(1,1,(.s 20))],.al 7 A8 [.int .i64 0,.str [],.bool false,.nil],.K 4 7 21,.ono A8 4 3 (.s 7)] (.seq (.R [.D 22 2 3,.B 23 22,.Y 24 23,.mv 25 (.i 0)] (.J 0 1)) (.n 0))
 | _=>.skip
def body:C:=.R [.Z 3 A3 0,.al 6 A8 Lq] (.seq (.R [.D 10 1 3,.B 11 10] (.W 11 (.R [.A 12 2,.A 13 1,.D 14 0 3,.B 15 14,.U 16 AY [.s 13,.s 15],.G 17 4 12 16,.E 18 4 17,.K 4 6 18] (.ret)) (.skip))) (.n 4))
def rs:List RV:=[.a 6 4]
attribute [push_cast] nd body
theorem ok:Bd prog KY nd body 3 rs=true:=by kernel_rfl
abbrev L3 (a b c d e f g:V)(B:Nat)(H:CX)(Q:QX):Prop:=Ax prog nd B (DA 3 1 0 0) [(1,a),(2,b),(6,c),(7,d),(23,e),(24,f),(25,g)] H Q
end LJ
namespace GO
def nd:Nat->C
 | 0=>.R [.A 37 8,.call (some 38) n_slices_Sort_s_string_string [.s 37],.frz 8] (.R [.A 39 8,.A 2 39] (.ret))
 | 1=>.gh [.ks 4 [8,28]] (.m 3)
 | 2=>.blk 5 (.R [.en 31 (.s 28),.F 32 31 0,.A 9 32] (.reg [.A 33 8,.A 34 9,.bs 35 1 [.s 34],.apr 36 Cf 1 16 (.s 33) (.s 35),.A 8 36]))
 | 3=>.R [.nx 29 (.s 28),.F 30 29 0] (.seq (.W 30 (.skip) (.exit 4)) (.n 2))
 | 4=>.R [.mv 8 (.c .nil),.rnon 8 Cf 1] (.seq (.R [.B 27 3,.rg 28 (.s 27)] (.J 4 1)) (.n 0))
 | 5=>.gh [.ks 2 [3,7,11,12,13]] (.m 8)
 | 6=>.blk 3 (.R [.D 21 1 7,.B 22 21] (.W 22 (.reg [.B 23 3,.D 24 0 7,.B 25 24,.mup true (.s 23) (.s 25) (.c (.bool true))]) (.skip)))
 | 7=>.seq (.blk 1 (.R [.G 15 3 11 13,.E 16 3 15,.al 5 A3 Co,.L 5 3 16] (.R [.E 17 3 5,.U 18 Ie [.s 17]] (.blk 2 (.rf (.s 18) [19,20] (.reg [.al 7 A3 Co,.L 7 3 20]) (.m 6)))))) (.reg [.X 26 .add 13 1,.A 13 26])
 | 8=>.R [.V 14 .lss 13 12] (.seq (.W 14 (.skip) (.exit 0)) (.n 7))
 | _=>.skip
def body:C:=.R [.mv 2 (.c (.sl 1 []))] (.R [.mkm 10,.al 3 DC [.nilm],.K 1 3 10] (.seq (.R [.A 11 0,.Y 12 11,.mv 13 (.i 0)] (.J 0 5)) (.n 4)))
def rs:List RV:=[.t 2]
attribute [push_cast] nd body
theorem ok:Bd prog Di nd body 1 rs=true:=by kernel_rfl
abbrev L3 (a b:V)(B:Nat)(H:CX)(Q:QX):Prop:=Ax prog nd B (DA 3 1 4 0) [(8,a),(28,b)] H Q
abbrev L8 (a b c d e:V)(B:Nat)(H:CX)(Q:QX):Prop:=Ax prog nd B (DA 8 5 0 4) [(3,a),(7,b),(11,c),(12,d),(13,e)] H Q
end GO
namespace IQ
def nd:Nat->C
 | 0=>.R [.A 15 0,.E 16 4 3,.U 17 DD [.s 15,.s 16,(.c (.bool true))],.A 14 17,.F 18 14 0,.F 19 14 1,.al 6 A3 Co,.L 6 3 18,.A 7 19] (.R [.A 20 7,.A 4 20] (.ret))
 | _=>.skip
def body:C:=.R [.Z 3 A8 1,.mv 4 (.i 0)] (.seq (.R [.A 8 0,.E 9 4 3,.U 10 Ir [.s 8,.s 9],.A 5 10] (.R [.A 11 5,.J 12 11] (.W 12 (.R [.A 13 5,.A 4 13] (.ret)) (.skip)))) (.n 0))
def rs:List RV:=[.t 4]
attribute [push_cast] nd body
theorem ok:Bd prog JN nd body 2 rs=true:=by kernel_rfl
end IQ
namespace Es
def nd:Nat->C
 | 0=>.seq (.dr [0,1,2,3,4,5,6,7,8] [.E 62 4 4,.A 63 0,.D 64 3 4,.B 65 64,.D 66 3 5,.B 67 66,.U 68 FI [.s 63,.s 65,.s 67],.U 69 Js [.s 62,.s 68],.K 6 6 69]) (.ret)
 | 1=>.seq (.R [.D 41 0 4,.B 42 41,.X 43 .gtr 42 0] (.W 43 (.seq (.dr [0,1,2,3,4,5,6,7,8,9,10,11,12] [.A 45 0,.D 46 0 4,.B 47 46,.X 48 .sub 47 1,.G 49 6 45 48,.E 50 6 49,.E 51 4 5,.U 52 I2 [.s 50,.s 51],.A 44 52,.F 53 44 0,.F 54 44 1,.A 9 53,.A 10 54]) (.seq (.dr [0,1,2,3,4,5,6,7] [.E 55 4 4,.A 56 0,.D 57 3 4,.B 58 57,.A 59 9,.U 60 FI [.s 56,.s 58,.s 59],.U 61 Js [.s 55,.s 60],.K 6 6 61]) (.ret))) (.skip))) (.n 0)
 | 2=>.seq (.dr [0,1,2,3,4,5,6,7,8,9,10] [.D 31 3 7,.E 32 3 31,.E 33 6 7,.U 34 GG [.s 33],.A 35 0,.A 36 8,.D 37 3 5,.B 38 37,.U 39 FI [.s 35,.s 36,.s 38],.U 40 OU [.s 32,.s 34,.s 39],.K 6 6 40]) (.ret)
 | _=>.skip
def body:C:=.R [.Z 4 A8 1,.Z 5 A8 2,.al 6 Ay [.int .i64 0,.str [],.bool false,.sl 4 [],.int .i64 0,.int .i64 0]] (.seq (.R [.D 11 0 5,.B 12 11,.X 13 .gtr 12 0] (.W 13 (.R [.A 14 0,.D 15 0 5,.B 16 15,.X 17 .sub 16 1,.G 18 6 14 17,.E 19 6 18,.al 7 BY [.str [],.bool false,.sl 3 [],.str [],.bool false,.sl 3 []],.L 7 6 19] (.R [.D 20 3 4,.B 21 20,.A 8 21] (.seq (.R [.D 22 0 4,.B 23 22,.X 24 .eql 23 0] (.W 24 (.reg [.E 26 6 7,.E 27 4 4,.U 28 I2 [.s 26,.s 27],.A 25 28,.F 29 25 0,.F 30 25 1,.A 8 29]) (.skip))) (.n 2)))) (.skip))) (.n 1))
def rs:List RV:=[.a 6 6]
attribute [push_cast] nd body
theorem ok:Bd prog E1 nd body 3 rs=true:=by kernel_rfl
end Es
namespace R1
def nd (_:Nat):C:=.skip
def body:C:=.R [.Z 1 Ay 0,.mv 2 (.c (.bool false))] (.R [.D 3 4 1,.B 4 3,.X 5 .leq 4 4000,.A 6 5,.P 6 true [7,8,9] [.D 7 5 1,.B 8 7,.X 9 .leq 8 200],.N 10 6 9,.A 2 10] (.ret))
def rs:List RV:=[.t 2]
attribute [push_cast] nd body
theorem ok:Bd prog Q9 nd body 1 rs=true:=by kernel_rfl
end R1
namespace UX
def nd (_:Nat):C:=.skip
def body:C:=.R [.Z 2 BY 0,.Z 3 A8 1,.mv 4 (.c (.sl 4 [])),.mv 5 (.c (.bool false))] (.R [.E 8 6 2,.U 9 GG [.s 8],.A 6 9] (.R [.A 10 6,.Y 11 10,.mk 12 A8 4 56 [.int .i64 0,.str [],.bool false,.sl 4 []] (.s 11),.A 7 12] (.R [.A 13 7,.D 14 0 2,.E 15 3 14,.E 16 4 3,.A 17 6,.A 18 7,.call (some 19) N0 [.s 15,.s 16,.s 17,.s 18],.frz 13,.A 4 13,.A 5 19] (.ret))))
def rs:List RV:=[.t 4,.t 5]
attribute [push_cast] nd body
theorem ok:Bd prog I2 nd body 2 rs=true:=by kernel_rfl
end UX
namespace Tg
def nd:Nat->C
 | 0=>.R [.A 29 4,.A 30 5,.X 31 .add 30 1,.A 2 29,.A 3 31] (.ret)
 | 1=>.gh [.ks 0 [4,5,11,12,13]] (.m 3)
 | 2=>.seq (.blk 1 (.R [.G 15 4 11 13,.E 16 4 15,.al 7 A8 Lq,.L 7 4 16] (.R [.E 18 4 7,.U 19 Oo [.s 18],.A 17 19,.F 20 17 0,.F 21 17 1,.A 8 20,.A 9 21] (.R [.A 22 4,.A 23 8,.V 24 .add 22 23,.A 4 24] (.reg [.A 25 5,.A 26 9,.mx 27 (.s 25) (.s 26),.A 5 27]))))) (.reg [.X 28 .add 13 1,.A 13 28])
 | 3=>.R [.V 14 .lss 13 12] (.seq (.W 14 (.skip) (.exit 0)) (.n 2))
 | _=>.skip
def body:C:=.R [.Z 1 A8 0,.mv 2 (.i 0),.mv 3 (.i 0)] (.R [.mv 4 (.i 1),.mv 5 (.i 0)] (.seq (.R [.D 10 3 1,.B 11 10,.Y 12 11,.mv 13 (.i 0)] (.J 0 1)) (.n 0)))
def rs:List RV:=[.t 2,.t 3]
attribute [push_cast] nd body
theorem ok:Bd prog Oo nd body 1 rs=true:=by kernel_rfl
abbrev L3 (a b c d e:V)(B:Nat)(H:CX)(Q:QX):Prop:=Ax prog nd B (DA 3 1 0 0) [(4,a),(5,b),(11,c),(12,d),(13,e)] H Q
end Tg
namespace LB
def nd:Nat->C
 | 0=>.R [.E 24 3 9,.U 25 HY [.s 24],.U 26 P5 [.s 25],.F 27 26 0,.F 28 26 1,.K 3 6 27,.A 7 28] (.ret)
 | 1=>.R [.A 17 0,.E 18 4 4,.A 19 2,.U 20 KP [.s 17,.s 18,.s 19],.al 9 A3 Co,.L 9 3 20] (.seq (.R [.E 21 3 9,.U 22 Nf [.s 21]] (.W 22 (.R [.bd 23 Co [],.K 3 6 23,.mv 7 (.i 3)] (.ret)) (.skip))) (.n 0))
 | _=>.skip
def body:C:=.R [.Z 4 A8 1,.al 6 A3 Co,.mv 7 (.i 0)] (.seq (.R [.A 10 0,.E 11 4 4,.U 12 Nj [.s 10,.s 11],.A 8 12] (.R [.A 13 8,.J 14 13] (.W 14 (.R [.bd 15 Co [],.A 16 8,.K 3 6 15,.A 7 16] (.ret)) (.skip)))) (.n 1))
def rs:List RV:=[.a 6 3,.t 7]
attribute [push_cast] nd body
theorem ok:Bd prog ML nd body 3 rs=true:=by kernel_rfl
end LB
namespace LR
def nd (_:Nat):C:=.skip
def body:C:=.R [.Z 1 BY 0,.al 2 A3 Co] (.R [.D 3 0 1,.E 4 3 3,.K 3 2 4] (.ret))
def rs:List RV:=[.a 2 3]
attribute [push_cast] nd body
theorem ok:Bd prog GW nd body 1 rs=true:=by kernel_rfl
end LR
namespace LI
def nd (_:Nat):C:=.skip
def body:C:=.R [.Z 1 BY 0,.al 2 A3 Co] (.R [.D 3 3 1,.E 4 3 3,.K 3 2 4] (.ret))
def rs:List RV:=[.a 2 3]
attribute [push_cast] nd body
theorem ok:Bd prog GV nd body 1 rs=true:=by kernel_rfl
end LI
namespace EV
def nd:Nat->C
 | 0=>.R [.A 31 0,.lens 32 (.s 31),.A 33 1,.lens 34 (.s 33),.U 35 EA [.s 32,.s 34],.A 4 35] (.ret)
 | 1=>.gh [.ks 0 [0,1,10,11]] (.m 3)
 | 2=>.seq (.blk 1 (.R [.A 13 11,.A 5 13] (.seq (.dr [0,1,2,3,4,5,6] [.A 14 0,.A 15 5,.ix 16 (.s 14) (.s 15),.A 17 1,.A 18 5,.ix 19 (.s 17) (.s 18),.V 20 .neq 16 19]) (.W 20 (.seq (.dr [0,1,2,3,4,5,6,7,8,9] [.A 21 0,.A 22 5,.ix 23 (.s 21) (.s 22),.cvi 24 .i64 (.s 23),.A 25 1,.A 26 5,.ix 27 (.s 25) (.s 26),.cvi 28 .i64 (.s 27),.U 29 EA [.s 24,.s 28],.A 4 29]) (.ret)) (.skip))))) (.reg [.X 30 .add 11 1,.A 11 30])
 | 3=>.R [.V 12 .lss 11 10] (.seq (.W 12 (.skip) (.exit 0)) (.n 2))
 | _=>.skip
def body:C:=.R [.mv 4 (.i 0)] (.seq (.R [.A 6 0,.lens 7 (.s 6),.A 8 1,.lens 9 (.s 8),.mn 10 (.s 7) (.s 9),.mv 11 (.i 0)] (.J 0 1)) (.n 0))
def rs:List RV:=[.t 4]
attribute [push_cast] nd body
theorem ok:Bd prog D8 nd body 2 rs=true:=by kernel_rfl
abbrev L3 (a b c d:V)(B:Nat)(H:CX)(Q:QX):Prop:=Ax prog nd B (DA 3 1 0 0) [(0,a),(1,b),(10,c),(11,d)] H Q
end EV
namespace Kr
def nd:Nat->C
 | 0=>.R [.mv 4 (.i 0)] (.ret)
 | 1=>.seq (.R [.A 8 0,.A 9 1,.V 10 .gtr 8 9] (.W 10 (.R [.mv 4 (.i 1)] (.ret)) (.skip))) (.n 0)
 | _=>.skip
def body:C:=.R [.mv 4 (.i 0)] (.seq (.R [.A 5 0,.A 6 1,.V 7 .lss 5 6] (.W 7 (.R [.mv 4 (.i (-1))] (.ret)) (.skip))) (.n 1))
def rs:List RV:=[.t 4]
attribute [push_cast] nd body
theorem ok:Bd prog EA nd body 2 rs=true:=by kernel_rfl
end Kr
namespace D9
def nd:Nat->C
 | 0=>.R [.A 14 4,.Y 15 14,.X 16 .eql 15 0,.A 17 16,.P 17 true [18,19] [.A 18 0,.U 19 LK [.s 18]],.N 20 17 19,.A 2 20,.mv 3 (.i 0)] (.ret)
 | _=>.skip
def body:C:=.R [.mv 2 (.c (.bool false)),.mv 3 (.i 0)] (.R [.A 7 0,.U 8 M1 [.s 7],.A 6 8,.F 9 6 0,.F 10 6 1,.A 4 9,.A 5 10] (.seq (.R [.A 11 5,.J 12 11] (.W 12 (.R [.A 13 5,.mv 2 (.c (.bool false)),.A 3 13] (.ret)) (.skip))) (.n 0)))
def rs:List RV:=[.t 2,.t 3]
attribute [push_cast] nd body
theorem ok:Bd prog GL nd body 1 rs=true:=by kernel_rfl
end D9
namespace AI
def nd:Nat->C
 | 0=>.R [.mv 6 (.c (.bool true))] (.ret)
 | 1=>.gh [.ks 0 [1,2,15,16,17]] (.m 3)
 | 2=>.seq (.blk 1 (.R [.A 19 17,.G 20 3 15 17,.E 21 3 20,.al 8 A3 Co,.A 7 19,.L 8 3 21] (.R [.A 22 1,.A 23 7,.G 24 3 22 23,.E 25 3 24,.al 9 A3 Co,.L 9 3 25] (.R [.A 26 2,.E 27 3 8,.E 28 3 9,.callvp (some 29) (.s 26) [.s 27,.s 28],.Q 30 29] (.W 30 (.R [.mv 6 (.c (.bool false))] (.ret)) (.skip)))))) (.reg [.X 31 .add 17 1,.A 17 31])
 | 3=>.R [.V 18 .lss 17 16] (.seq (.W 18 (.skip) (.exit 0)) (.n 2))
 | 4=>.seq (.R [.A 15 0,.Y 16 15,.mv 17 (.i 0)] (.J 0 1)) (.n 0)
 | _=>.skip
def body:C:=.R [.mv 6 (.c (.bool false))] (.seq (.R [.A 10 0,.Y 11 10,.A 12 1,.Y 13 12,.V 14 .neq 11 13] (.W 14 (.R [.mv 6 (.c (.bool false))] (.ret)) (.skip))) (.n 4))
def rs:List RV:=[.t 6]
attribute [push_cast] nd body
theorem ok:Bd prog BG nd body 3 rs=true:=by kernel_rfl
abbrev L3 (a b c d e:V)(B:Nat)(H:CX)(Q:QX):Prop:=Ax prog nd B (DA 3 1 0 0) [(1,a),(2,b),(15,c),(16,d),(17,e)] H Q
end AI
namespace GB
def nd:Nat->C
 | 0=>.R [.bo 5 A8 4 [],.op (.e2r 5),.A 6 0,.apr 7 A8 4 56 (.s 5) (.s 6),.A 2 7] (.ret)
 | _=>.skip
def body:C:=.R [.mv 2 (.c .nil),.rnon 2 A8 4] (.seq (.R [.A 3 0,.nl 4 false (.s 3)] (.W 4 (.R [.mv 2 (.c .nil),.rnon 2 A8 4] (.ret)) (.skip))) (.n 0))
def rs:List RV:=[.t 2]
attribute [push_cast] nd body
theorem ok:Bd prog Dy nd body 1 rs=true:=by kernel_rfl
end GB
namespace F9
def nd:Nat->C
 | 0=>.R [.A 20 5,.Y 21 20,.X 22 .eql 21 0,.A 23 22,.P 23 true [24,25] [.A 24 0,.U 25 Jy [.s 24]],.N 26 23 25,.A 2 26,.mv 3 (.i 0)] (.ret)
 | 1=>.R [.A 13 0,.U 14 Sp [.s 13],.A 12 14,.F 15 12 0,.F 16 12 1,.A 5 15,.A 6 16] (.seq (.R [.A 17 6,.J 18 17] (.W 18 (.R [.A 19 6,.mv 2 (.c (.bool false)),.A 3 19] (.ret)) (.skip))) (.n 0))
 | _=>.skip
def body:C:=.R [.mv 2 (.c (.bool false)),.mv 3 (.i 0)] (.seq (.R [.A 7 0,.U 8 Eo [.s 7],.A 4 8] (.R [.A 9 4,.J 10 9] (.W 10 (.R [.A 11 4,.mv 2 (.c (.bool false)),.A 3 11] (.ret)) (.skip)))) (.n 1))
def rs:List RV:=[.t 2,.t 3]
attribute [push_cast] nd body
theorem ok:Bd prog Jx nd body 1 rs=true:=by kernel_rfl
end F9
namespace Ii
def nd:Nat->C
 | 0=>.R [.A 69 10,.A 70 11,.X 71 .add 70 1,.A 6 69,.A 7 71] (.ret)
 | 1=>.seq (.R [.D 46 0 4,.B 47 46,.X 48 .gtr 47 0] (.W 48 (.seq (.dr [0,1,2,3,4,5,6,7,8,9,10,11,12,13,14,15,16,17,18,19,20,21] [.A 49 0,.D 50 0 4,.B 51 50,.X 52 .sub 51 1,.G 53 6 49 52,.E 54 6 53,.A 55 2,.U 56 OI [.s 54,.s 55],.A 57 0,.D 58 0 4,.B 59 58,.X 60 .sub 59 1,.G 61 6 57 60,.E 62 6 61,.U 63 GG [.s 62],.A 64 8,.A 65 9,.U 66 Lh [.s 56,.s 63,.s 64,.s 65],.F 67 66 0,.F 68 66 1,.A 6 67,.A 7 68]) (.ret)) (.skip))) (.n 0)
 | 2=>.gh [.ks 2 [0,2,4,8,9,10,11,17,18,19]] (.m 4)
 | 3=>.seq (.blk 1 (.R [.G 21 4 17 19,.E 22 4 21,.al 13 A8 Lq,.L 13 4 22] (.R [.A 24 0,.E 25 4 13,.A 26 2,.U 27 JX [.s 24,.s 25,.s 26],.A 23 27,.F 28 23 0,.F 29 23 1,.A 14 28,.A 15 29] (.R [.A 30 8,.A 31 14,.bs 32 1 [.s 31],.app 33 F1 1 8 (.s 30) (.s 32),.A 8 33] (.R [.A 34 9,.A 35 15,.bs 36 1 [.s 35],.app 37 F1 1 8 (.s 34) (.s 36),.A 9 37] (.R [.A 38 10,.A 39 14,.V 40 .add 38 39,.mn 41 (.i 1099511627776) (.s 40),.A 10 41] (.reg [.A 42 11,.A 43 15,.mx 44 (.s 42) (.s 43),.A 11 44]))))))) (.reg [.X 45 .add 19 1,.A 19 45])
 | 4=>.R [.V 20 .lss 19 18] (.seq (.W 20 (.skip) (.exit 0)) (.n 3))
 | _=>.skip
def body:C:=.R [.Z 4 A8 1,.mv 6 (.i 0),.mv 7 (.i 0)] (.R [.mv 8 (.c .nil),.non 8 F1 1,.mv 9 (.c .nil),.non 9 F1 1] (.R [.mv 10 (.i 1),.mv 11 (.i 0)] (.seq (.R [.D 16 3 4,.B 17 16,.Y 18 17,.mv 19 (.i 0)] (.J 0 2)) (.n 1))))
def rs:List RV:=[.t 6,.t 7]
attribute [push_cast] nd body
theorem ok:Bd prog JX nd body 3 rs=true:=by kernel_rfl
abbrev L4 (a b c d e f g h i j:V)(B:Nat)(H:CX)(Q:QX):Prop:=Ax prog nd B (DA 4 2 0 1) [(0,a),(2,b),(4,c),(8,d),(9,e),(10,f),(11,g),(17,h),(18,i),(19,j)] H Q
end Ii
namespace Jp
def nd:Nat->C
 | 0=>.R [.A 62 11,.E 63 6 10,.A 64 2,.U 65 OI [.s 63,.s 64],.U 66 CQ [.s 62,.s 65],.K 3 6 66] (.ret)
 | 1=>.gh [.ks 4 [2,6,7,10,11,45,46,47]] (.m 3)
 | 2=>.seq (.blk 3 (.R [.A 49 47,.G 50 1 45 47,.B 51 50,.A 12 49,.A 13 51] (.reg [.A 52 11,.A 53 13,.A 54 7,.A 55 12,.G 56 3 54 55,.E 57 3 56,.bd 58 [.str [],.str [],.bool false,.sl 3 []] [(0,1,(.s 53)),(1,3,(.s 57))],.bs 59 4 [.s 58],.app 60 Cc 4 64 (.s 52) (.s 59),.A 11 60]))) (.reg [.X 61 .add 47 1,.A 47 61])
 | 3=>.R [.V 48 .lss 47 46] (.seq (.W 48 (.skip) (.exit 2)) (.n 2))
 | 4=>.R [.A 38 0,.D 39 0 4,.B 40 39,.X 41 .sub 40 1,.G 42 6 38 41,.E 43 6 42,.al 10 BY [.str [],.bool false,.sl 3 [],.str [],.bool false,.sl 3 []],.L 10 6 43] (.R [.mv 11 (.c .nil),.non 11 Cc 4] (.seq (.R [.E 44 6 10,.U 45 GG [.s 44],.Y 46 45,.mv 47 (.i 0)] (.J 2 1)) (.n 0)))
 | 5=>.seq (.R [.D 29 0 4,.B 30 29,.X 31 .eql 30 0] (.W 31 (.R [.D 32 1 4,.B 33 32,.D 34 2 4,.B 35 34,.A 36 7,.bd 37 Co [(0,1,(.s 33)),(1,1,(.s 35)),(2,1,(.s 36))],.K 3 6 37] (.ret)) (.skip))) (.n 4)
 | 6=>.gh [.ks 2 [0,2,4,6,7,15,16,17]] (.m 8)
 | 7=>.seq (.blk 1 (.R [.G 19 4 15 17,.E 20 4 19,.al 9 A8 Lq,.L 9 4 20] (.reg [.A 21 7,.A 22 0,.E 23 4 9,.A 24 2,.U 25 MJ [.s 22,.s 23,.s 24],.bs 26 3 [.s 25],.app 27 A3 3 48 (.s 21) (.s 26),.A 7 27]))) (.reg [.X 28 .add 17 1,.A 17 28])
 | 8=>.R [.V 18 .lss 17 16] (.seq (.W 18 (.skip) (.exit 0)) (.n 7))
 | _=>.skip
def body:C:=.R [.Z 4 A8 1,.al 6 A3 Co] (.R [.mv 7 (.c .nil),.non 7 A3 3] (.seq (.R [.D 14 3 4,.B 15 14,.Y 16 15,.mv 17 (.i 0)] (.J 0 6)) (.n 5)))
def rs:List RV:=[.a 6 3]
attribute [push_cast] nd body
theorem ok:Bd prog MJ nd body 3 rs=true:=by kernel_rfl
abbrev L3 (a b c d e f g h:V)(B:Nat)(H:CX)(Q:QX):Prop:=Ax prog nd B (DA 3 1 2 0) [(2,a),(6,b),(7,c),(10,d),(11,e),(45,f),(46,g),(47,h)] H Q
abbrev L8 (a b c d e f g h:V)(B:Nat)(H:CX)(Q:QX):Prop:=Ax prog nd B (DA 8 6 0 5) [(0,a),(2,b),(4,c),(6,d),(7,e),(15,f),(16,g),(17,h)] H Q
end Jp
namespace Gw
def nd:Nat->C
 | 0=>.R [.D 14 2 1,.B 15 14,.Y 16 15,.X 17 .leq 16 8,.A 18 17,.P 18 true [19,20,21] [.D 19 0 1,.B 20 19,.U 21 DQ [.s 20,(.c (.bool true))]],.N 22 18 21,.A 23 22,.P 23 true [24,25,26,27] [.D 24 2 1,.B 25 24,.U 26 AO [.s 25,(.f Kt)],.Q 27 26],.N 28 23 27,.A 2 28] (.ret)
 | _=>.skip
def body:C:=.R [.Z 1 A3 0,.mv 2 (.c (.bool false))] (.seq (.R [.D 3 1 1,.B 4 3] (.W 4 (.R [.D 5 2 1,.B 6 5,.Y 7 6,.X 8 .eql 7 0,.A 9 8,.P 9 true [10,11,12] [.D 10 0 1,.B 11 10,.U 12 DQ [.s 11,(.c (.bool false))]],.N 13 9 12,.A 2 13] (.ret)) (.skip))) (.n 0))
def rs:List RV:=[.t 2]
attribute [push_cast] nd body
theorem ok:Bd prog JW nd body 1 rs=true:=by kernel_rfl
end Gw
namespace R9
def nd (_:Nat):C:=.skip
def body:C:=.R [.Z 1 A3 0,.mv 2 (.c (.bool false))] (.R [.E 3 3 1,.U 4 Kg [.s 3],.X 5 .leq 4 4000,.A 6 5,.P 6 true [7,8,9] [.E 7 3 1,.U 8 IW [.s 7],.X 9 .leq 8 200],.N 10 6 9,.A 2 10] (.ret))
def rs:List RV:=[.t 2]
attribute [push_cast] nd body
theorem ok:Bd prog N4 nd body 1 rs=true:=by kernel_rfl
end R9
namespace UO
def nd (_:Nat):C:=.skip
def body:C:=.R [.Z 1 A3 0,.mv 2 (.c .nilf)] (.R [.mf 3 Dh [] [.s 1],.A 2 3] (.ret))
def rs:List RV:=[.t 2]
attribute [push_cast] nd body
theorem ok:Bd prog Ie nd body 1 rs=true:=by kernel_rfl
end UO
namespace Fl
def nd:Nat->C
 | 0=>.R [.mv 2 (.c (.bool true))] (.ret)
 | 1=>.gh [.ks 0 [27,28,29]] (.m 3)
 | 2=>.seq (.blk 1 (.R [.G 31 3 27 29,.E 32 3 31,.al 4 A3 Co,.L 4 3 32] (.R [.E 33 3 4,.U 34 KT [.s 33],.Q 35 34] (.W 35 (.R [.mv 2 (.c (.bool false))] (.ret)) (.skip))))) (.reg [.X 36 .add 29 1,.A 29 36])
 | 3=>.R [.V 30 .lss 29 28] (.seq (.W 30 (.skip) (.exit 0)) (.n 2))
 | 4=>.seq (.R [.D 26 2 1,.B 27 26,.Y 28 27,.mv 29 (.i 0)] (.J 0 1)) (.n 0)
 | 5=>.seq (.R [.D 16 0 1,.B 17 16,.U 18 Ez [.s 17,(.c (.bool true))],.Q 19 18,.A 20 19,.P 20 false [21,22,23,24] [.D 21 2 1,.B 22 21,.Y 23 22,.X 24 .gtr 23 8],.M 25 20 24] (.W 25 (.R [.mv 2 (.c (.bool false))] (.ret)) (.skip))) (.n 4)
 | _=>.skip
def body:C:=.R [.Z 1 A3 0,.mv 2 (.c (.bool false))] (.seq (.R [.D 5 1 1,.B 6 5] (.W 6 (.R [.D 7 0 1,.B 8 7,.U 9 Ez [.s 8,(.c (.bool false))],.A 10 9,.P 10 true [11,12,13,14] [.D 11 2 1,.B 12 11,.Y 13 12,.X 14 .eql 13 0],.N 15 10 14,.A 2 15] (.ret)) (.skip))) (.n 5))
def rs:List RV:=[.t 2]
attribute [push_cast] nd body
theorem ok:Bd prog KT nd body 1 rs=true:=by kernel_rfl
abbrev L3 (a b c:V)(B:Nat)(H:CX)(Q:QX):Prop:=Ax prog nd B (DA 3 1 0 0) [(27,a),(28,b),(29,c)] H Q
end Fl
namespace TS
def nd:Nat->C
 | 0=>.R [.A 18 3,.A 2 18] (.ret)
 | 1=>.gh [.ks 0 [3,7,8,9]] (.m 3)
 | 2=>.seq (.blk 1 (.R [.G 11 3 7 9,.E 12 3 11,.al 5 A3 Co,.L 5 3 12] (.reg [.A 13 3,.E 14 3 5,.U 15 Jz [.s 14],.V 16 .add 13 15,.A 3 16]))) (.reg [.X 17 .add 9 1,.A 9 17])
 | 3=>.R [.V 10 .lss 9 8] (.seq (.W 10 (.skip) (.exit 0)) (.n 2))
 | _=>.skip
def body:C:=.R [.Z 1 A3 0,.mv 2 (.i 0)] (.R [.mv 3 (.i 1)] (.seq (.R [.D 6 2 1,.B 7 6,.Y 8 7,.mv 9 (.i 0)] (.J 0 1)) (.n 0)))
def rs:List RV:=[.t 2]
attribute [push_cast] nd body
theorem ok:Bd prog Jz nd body 1 rs=true:=by kernel_rfl
abbrev L3 (a b c d:V)(B:Nat)(H:CX)(Q:QX):Prop:=Ax prog nd B (DA 3 1 0 0) [(3,a),(7,b),(8,c),(9,d)] H Q
end TS
namespace QP
def nd:Nat->C
 | 0=>.R [.A 18 3,.X 19 .add 18 1,.A 2 19] (.ret)
 | 1=>.gh [.ks 0 [3,7,8,9]] (.m 3)
 | 2=>.seq (.blk 1 (.R [.G 11 3 7 9,.E 12 3 11,.al 5 A3 Co,.L 5 3 12] (.reg [.A 13 3,.E 14 3 5,.U 15 I5 [.s 14],.mx 16 (.s 13) (.s 15),.A 3 16]))) (.reg [.X 17 .add 9 1,.A 9 17])
 | 3=>.R [.V 10 .lss 9 8] (.seq (.W 10 (.skip) (.exit 0)) (.n 2))
 | _=>.skip
def body:C:=.R [.Z 1 A3 0,.mv 2 (.i 0)] (.R [.mv 3 (.i 0)] (.seq (.R [.D 6 2 1,.B 7 6,.Y 8 7,.mv 9 (.i 0)] (.J 0 1)) (.n 0)))
def rs:List RV:=[.t 2]
attribute [push_cast] nd body
theorem ok:Bd prog I5 nd body 1 rs=true:=by kernel_rfl
abbrev L3 (a b c d:V)(B:Nat)(H:CX)(Q:QX):Prop:=Ax prog nd B (DA 3 1 0 0) [(3,a),(7,b),(8,c),(9,d)] H Q
end QP
namespace Bz
def nd:Nat->C
 | 0=>.R [.mv 4 (.i (-1))] (.ret)
 | 1=>.gh [.ks 0 [0,1,7,8]] (.m 3)
 | 2=>.seq (.blk 1 (.R [.A 10 8,.A 5 10] (.R [.A 11 1,.A 12 0,.A 13 5,.G 14 4 12 13,.E 15 4 14,.callvp (some 16) (.s 11) [.s 15]] (.W 16 (.R [.A 17 5,.A 4 17] (.ret)) (.skip))))) (.reg [.X 18 .add 8 1,.A 8 18])
 | 3=>.R [.V 9 .lss 8 7] (.seq (.W 9 (.skip) (.exit 0)) (.n 2))
 | _=>.skip
def body:C:=.R [.mv 4 (.i 0)] (.seq (.R [.A 6 0,.Y 7 6,.mv 8 (.i 0)] (.J 0 1)) (.n 0))
def rs:List RV:=[.t 4]
attribute [push_cast] nd body
theorem ok:Bd prog CK nd body 2 rs=true:=by kernel_rfl
abbrev L3 (a b c d:V)(B:Nat)(H:CX)(Q:QX):Prop:=Ax prog nd B (DA 3 1 0 0) [(0,a),(1,b),(7,c),(8,d)] H Q
end Bz
namespace Ct
def nd:Nat->C
 | 0=>.R [.mv 2 (.i 0)] (.ret)
 | 1=>.seq (.R [.A 27 0,.U 28 BP [.s 27,(.f Le)]] (.W 28 (.R [.mv 2 (.i 7)] (.ret)) (.skip))) (.n 0)
 | 2=>.gh [.ks 2 [0,20]] (.m 4)
 | 3=>.blk 1 (.R [.en 23 (.s 20),.F 24 23 0,.A 6 24] (.R [.A 25 6,.U 26 Nb [.s 25]] (.W 26 (.R [.mv 2 (.i 6)] (.ret)) (.skip))))
 | 4=>.R [.nx 21 (.s 20),.F 22 21 0] (.seq (.W 22 (.skip) (.exit 0)) (.n 3))
 | 5=>.seq (.R [.A 19 4,.rg 20 (.s 19)] (.J 0 2)) (.n 1)
 | 6=>.R [.A 13 0,.call (some 14) J1 [.s 13],.A 12 14,.F 15 12 0,.F 16 12 1,.A 4 15,.A 5 16] (.seq (.R [.A 17 5,.Q 18 17] (.W 18 (.R [.mv 2 (.i 6)] (.ret)) (.skip))) (.n 5))
 | _=>.skip
def body:C:=.R [.mv 2 (.i 0)] (.seq (.R [.A 7 0,.U 8 IY [.s 7],.A 3 8] (.R [.A 9 3,.J 10 9] (.W 10 (.R [.A 11 3,.A 2 11] (.ret)) (.skip)))) (.n 6))
def rs:List RV:=[.t 2]
attribute [push_cast] nd body
theorem ok:Bd prog E2 nd body 1 rs=true:=by kernel_rfl
abbrev L4 (a b:V)(B:Nat)(H:CX)(Q:QX):Prop:=Ax prog nd B (DA 4 2 0 1) [(0,a),(20,b)] H Q
end Ct
namespace DX
def nd:Nat->C
 | 0=>.seq (.dr [0,1,2,3,4,5,6,7,8] [.B 14 2,.B 15 1,.X 16 .sub 15 1,.G 17 6 14 16,.D 18 0 17,.E 19 3 18,.E 20 4 3,.U 21 JE [.s 19,.s 20],.A 4 21]) (.ret)
 | _=>.skip
def body:C:=.R [.Z 3 A8 0,.mv 4 (.c (.sl 4 []))] (.seq (.R [.D 5 0 3,.B 6 5,.X 7 .gtr 6 0,.A 8 7,.P 8 false [9,10] [.B 9 1,.X 10 .eql 9 0],.M 11 8 10] (.W 11 (.R [.D 12 3 3,.B 13 12,.A 4 13] (.ret)) (.skip))) (.n 0))
def rs:List RV:=[.t 4]
attribute [push_cast] nd body
theorem ok:Bd prog FD nd body 3 rs=true:=by kernel_rfl
end DX
namespace GH
def nd:Nat->C
 | 0=>.R [.frc 0 (.s 6),.B 44 6,.A 4 44] (.ret)
 | 1=>.gh [.ks 2 [5,6,8,9,25,26,27]] (.m 3)
 | 2=>.seq (.blk 3 (.R [.G 29 1 25 27,.B 30 29,.A 11 30] (.reg [.D 31 3 9,.B 32 31,.A 33 11,.G 34 4 32 33,.E 35 4 34,.K 4 9 35]))) (.reg [.X 36 .add 27 1,.A 27 36])
 | 3=>.R [.V 28 .lss 27 26] (.seq (.W 28 (.skip) (.exit 2)) (.n 2))
 | 4=>.blk 1 (.R [.D 22 1 8,.B 23 22] (.W 23 (.R [.E 24 4 3,.al 9 A8 Lq,.K 4 9 24] (.seq (.R [.A 25 7,.Y 26 25,.mv 27 (.i 0)] (.J 2 1)) (.dr [0,1,2,3,4,5,6,7] [.B 37 6,.B 38 5,.D 39 0 8,.B 40 39,.U 41 AY [.s 38,.s 40],.E 42 4 9,.G 43 4 37 41,.K 4 43 42]))) (.skip)))
 | _=>.skip
def body:C:=.R [.Z 2 A3 0,.Z 3 A8 1,.mv 4 (.c (.sl 4 []))] (.R [.E 12 3 2,.bs 13 3 [.s 12],.U 14 Di [.s 13],.al 5 Xt [.sl 1 []],.L 5 1 14] (.R [.B 15 5,.Y 16 15,.mk 17 A8 4 56 [.int .i64 0,.str [],.bool false,.sl 4 []] (.s 16),.al 6 QL [.nil],.K 1 6 17] (.seq (.R [.E 18 3 2,.U 19 Ie [.s 18]] (.blk 0 (.rf (.s 19) [20,21] (.R [.A 7 20] (.reg [.al 8 A3 Co,.L 8 3 21])) (.m 4)))) (.n 0))))
def rs:List RV:=[.t 4]
attribute [push_cast] nd body
theorem ok:Bd prog JE nd body 2 rs=true:=by kernel_rfl
abbrev L3 (a b c d e f g:V)(B:Nat)(H:CX)(Q:QX):Prop:=Ax prog nd B [.c (.m 3),.c (.loop (.n 1)),.mk 2,.c (.dr [0,1,2,3,4,5,6,7] [.B 37 6,.B 38 5,.D 39 0 8,.B 40 39,.U 41 AY [.s 38,.s 40],.E 42 4 9,.G 43 4 37 41,.K 4 43 42]),.mk 1] [(5,a),(6,b),(8,c),(9,d),(25,e),(26,f),(27,g)] H Q
end GH
end Go.Dw
end
