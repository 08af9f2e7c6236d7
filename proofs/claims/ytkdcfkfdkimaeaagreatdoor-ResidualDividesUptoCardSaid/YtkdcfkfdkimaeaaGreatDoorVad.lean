/-
  Contracts and lemmas for ResidualDivides: part d of 10.
-/
import Derived.Test.YtkdcfkfdkimaeaaGreatDoorVac
import Derived.Test.YtkdcfkfdkimaeaaGreatDoorProg
set_option linter.unusedVariables false
set_option linter.unusedSimpArgs false
set_option maxRecDepth 100000
section
namespace Go.Dw
section
variable {P:Program} {N:Nat->C} {B:Nat} {s:List K} {t:T} {H:List Ob} {Q:X->T->List Ob->Prop}
theorem qr:Run P N B [] t H Q↔Q .fall t H:=⟨fun h=>by cases h;assumption,.done⟩
theorem nz:Run P N B (.c .skip::s) t H Q↔Run P N B s t H Q:=⟨fun h=>by cases h;assumption,.skip⟩
theorem vE {a b:C}:Run P N B (.c (.seq a b)::s) t H Q↔Run P N B (.c a::.c b::s) t H Q:=⟨fun h=>by cases h;assumption,.seq⟩
theorem tc {l:List S}:Run P N B (.c (.reg l)::s) t H Q↔Run P N B (.r l::s) t H Q:=⟨fun h=>by cases h;assumption,.reg⟩
theorem ye {π:List Nat}{l:List S}:Run P N B (.c (.dr π l)::s) t H Q↔Run P N B (.r l::s) t H Q:=⟨fun h=>by cases h;assumption,.dr⟩
theorem zI {l:List I}{c:C}:Run P N B (.c (.gh l c)::s) t H Q↔Run P N B (.r (l.map .op)::.c c::s) t H Q:=⟨fun h=>by cases h;assumption,.gh⟩
theorem oB:Run P N B (.r []::s) t H Q↔Run P N B s t H Q:=⟨fun h=>by cases h;assumption,.rend⟩
theorem uk {id:Nat}{a:C}:Run P N B (.c (.blk id a)::s) t H Q↔Run P N B (.c a::.mk id::s) t H Q:=⟨fun h=>by cases h;assumption,.blk⟩
theorem Aax {id:Nat}:Run P N B (.mk id::s) t H Q↔Run P N B s t H Q:=⟨fun h=>by cases h;assumption,.mk⟩
theorem pS {a:C}:Run P N B (.c (.loop a)::s) t H Q↔Run P N B (.c a::.c (.loop a)::s) t H Q:=⟨fun h=>by cases h;assumption,.loop⟩
theorem vA:Run P N B (.c .ret::s) t H Q↔Q .ret t H:=⟨fun h=>by cases h;assumption,.ret⟩
abbrev LOb := List Ob
abbrev QX := X->T->List Ob->Prop
theorem A8 {k:Nat}:Run P N B (.c (.m k)::s) t H Q↔Run P N B (.c (N k)::s) t H Q:=⟨fun h=>by cases h;assumption,.m⟩
theorem wx:Run P N B (.c .bad::s) t H Q↔False:=⟨fun h=>(by cases h),False.elim⟩
/- The continuations are no functions: rewriting would run them ahead of time,with nothing known. -/
def nlP (P:Program)(N:Nat->C)(B:Nat)(l:List S)(s:List K)(t:T)(H:List Ob)(Q:X->T->List Ob->Prop)(d:Nat)(ne:Bool):Option (List (List V))->Prop
 | some els=>∀ c:Bool,(c=true->els=[])->Run P N B (.r l::s) ((d,.bool (c != ne))::t) H Q
 | none=>False
theorem ny {els:List (List V)}{d:Nat}{ne:Bool}{l:List S}:nlP P N B l s t H Q d ne (some els)=∀ c:Bool,(c=true->els=[])->Run P N B (.r l::s) ((d,.bool (c != ne))::t) H Q:=rfl
theorem zY {d:Nat}{ne:Bool}{x:O}{l:List S}:Run P N B (.r (.nl d ne x::l)::s) t H Q↔nlP P N B l s t H Q d ne (elV (ev t x)):=by
 constructor
 ·intro h
  cases h with
  | nl els h1 h2=>rw[h1];exact h2
 ·intro h
  cases he:elV (ev t x)with
  | none=>rw[he]at h;exact h.elim
  | some els=>rw[he]at h;exact .nl els he h
theorem rc {k:Nat}:Run P N B (.c (.n k)::s) t H Q↔Run P N B (.c (N k)::s) t H Q:=⟨fun h=>by cases h;assumption,.n⟩
def goP (P:Program)(N:Nat->C)(B:Nat)(id:Nat)(t:T)(H:List Ob)(Q:X->T->List Ob->Prop):Option (List K)->Prop
 | some s=>Run P N B s t H Q
 | none=>Q (.exit id) t H
theorem nQ {id:Nat}:goP P N B id t H Q (some s)=Run P N B s t H Q:=rfl
theorem qf {id:Nat}:goP P N B id t H Q none=Q (.exit id) t H:=rfl
theorem qN {id:Nat}:Run P N B (.c (.exit id)::s) t H Q↔goP P N B id t H Q (JJ id s):=by
 constructor
 ·intro h
  cases h with
  | exit s' h1 h2=>rw[h1];exact h2
  | exitX h1 h2=>rw[h1];exact h2
 ·intro h
  cases hp:JJ id s with
  | some s'=>rw[hp]at h;exact .exit s' hp h
  | none=>rw[hp]at h;exact .exitX hp h
def exP (P:Program)(N:Nat->C)(B:Nat)(l:List S)(s:List K)(Q:X->T->List Ob->Prop):Option (T×List Ob)->Prop
 | some (t,H)=>Run P N B (.r l::s) t H Q
 | none=>False
theorem qF {l:List S}:exP P N B l s Q (some (t,H))=Run P N B (.r l::s) t H Q:=rfl
theorem oQ {l:List S}:exP P N B l s Q none=False:=rfl
theorem wB {c:Prop}[Decidable c]{o:Option (T×List Ob)}{l:List S}:exP P N B l s Q (if c then o else none)↔c/\exP P N B l s Q o:=by by_cases h:c <;> simp[h,exP]
theorem zG {i:I}{l:List S}:Run P N B (.r (.op i::l)::s) t H Q↔exP P N B l s Q (Ay B i t H):=by
 constructor
 ·intro h
  cases h with
  | op t' H' h1 h2=>rw[h1];exact h2
 ·intro h
  cases he:Ay B i t H with
  | none=>rw[he]at h;exact h.elim
  | some p=>rw[he]at h;exact .op p.1 p.2 he h
def o1P (P:Program)(N:Nat->C)(B:Nat)(l:List S)(s:List K)(Q:X->T->List Ob->Prop)(d:Nat)(t:T)(H:List Ob):Option V->Prop
 | some v=>Run P N B (.r l::s) ((d,v)::t) H Q
 | none=>False
theorem nk {l:List S}{d:Nat}{v:V}:o1P P N B l s Q d t H (some v)=Run P N B (.r l::s) ((d,v)::t) H Q:=rfl
theorem rb {l:List S}{d:Nat}:o1P P N B l s Q d t H none=False:=rfl
theorem uY {l:List S}{d:Nat}{c:Prop}[Decidable c]{o:Option V}:o1P P N B l s Q d t H (if c then o else none)↔c/\o1P P N B l s Q d t H o:=by by_cases h:c <;> simp[h,o1P]
theorem rM {l:List S}{d:Nat}{c:Prop}[Decidable c]{o:Option V}:o1P P N B l s Q d t H (if c then none else o)↔¬ c/\o1P P N B l s Q d t H o:=by by_cases h:c <;> simp[h,o1P]
theorem pN {l:List S}{d:Nat}{o:Option V}:exP P N B l s Q (AV d o t H)=o1P P N B l s Q d t H o:=by cases o <;> rfl
def o2P (P:Program)(N:Nat->C)(B:Nat)(l:List S)(s:List K)(Q:X->T->List Ob->Prop)(d:Nat)(t:T):Option (V×List Ob)->Prop
 | some p=>Run P N B (.r l::s) ((d,p.1)::t) p.2 Q
 | none=>False
theorem nV {l:List S}{d:Nat}{v:V}:o2P P N B l s Q d t (some (v,H))=Run P N B (.r l::s) ((d,v)::t) H Q:=rfl
theorem rE {l:List S}{d:Nat}:o2P P N B l s Q d t none=False:=rfl
theorem vT {l:List S}{d:Nat}{c:Prop}[Decidable c]{o:Option (V×List Ob)}:o2P P N B l s Q d t (if c then o else none)↔c/\o2P P N B l s Q d t o:=by by_cases h:c <;> simp[h,o2P]
theorem oY {l:List S}{d:Nat}{o:Option (V×List Ob)}:exP P N B l s Q (PQ d o t)=o2P P N B l s Q d t o:=by cases o <;> rfl
def oP (o:Option V)(K:V->Prop):Prop:=match o with
 | some v=>K v
 | none=>False
theorem tV {v:V}{K:V->Prop}:oP (some v) K=K v:=rfl
theorem tI {K:V->Prop}:oP none K=False:=rfl
theorem Aao {c:Prop}[Decidable c]{o:Option V}{K:V->Prop}:oP (if c then o else none) K↔c/\oP o K:=by by_cases h:c <;> simp[h,oP]
theorem uZ {c:Prop}[Decidable c]{o:Option V}{K:V->Prop}:oP (if c then none else o) K↔¬ c/\oP o K:=by by_cases h:c <;> simp[h,oP]
def cP (P:Program)(N:Nat->C)(B:Nat)(a b:C)(s:List K)(t:T)(H:List Ob)(Q:X->T->List Ob->Prop):V->Prop
 | .bool c=>(c=true->Run P N B (.c a::s) t H Q)/\(c=false->Run P N B (.c b::s) t H Q)
 | _=>False
theorem vU {a b:C}{c:Bool}:cP P N B a b s t H Q (.bool c)=((c=true->Run P N B (.c a::s) t H Q)/\(c=false->Run P N B (.c b::s) t H Q)):=rfl
theorem oa {x:O}{a b:C}:Run P N B (.c (.cond x a b)::s) t H Q↔cP P N B a b s t H Q (ev t x):=by
 constructor
 ·intro h
  cases h with
  | cond c h1 h2 =>
   rw[h1]
   refine⟨fun h=>?_,fun h=>?_⟩ <;> subst h <;> exact h2
 ·intro h
  cases hv:ev t x with
  | bool c =>
   rw[hv]at h
   refine .cond c hv ?_
   cases c
   ·exact h.2 rfl
   ·exact h.1 rfl
  | _=>rw[hv]at h;exact h.elim
def gP (P:Program)(N:Nat->C)(B:Nat)(b:Bool)(ds:List Nat)(g l:List S)(s:List K)(t:T)(H:List Ob)(Q:X->T->List Ob->Prop):V->Prop
 | .bool c=>(c=b->Run P N B (.r (g++l)::s) t H Q)/\(c≠b->Run P N B (.r l::s) (ds.map (fun d=>(d,V.tup []))++t) H Q)
 | .tup []=>Run P N B (.r l::s) (ds.map (fun d=>(d,V.tup []))++t) H Q
 | _=>False
theorem tM {c b:Bool}{ds:List Nat}{g l:List S}:gP P N B b ds g l s t H Q (.bool c)=((c=b->Run P N B (.r (g++l)::s) t H Q)/\(c≠b->Run P N B (.r l::s) (ds.map (fun d=>(d,V.tup []))++t) H Q)):=rfl
theorem yX {b:Bool}{ds:List Nat}{g l:List S}:gP P N B b ds g l s t H Q (.tup [])=Run P N B (.r l::s) (ds.map (fun d=>(d,V.tup []))++t) H Q:=rfl
theorem yP {x:O}{b:Bool}{ds:List Nat}{g l:List S}:Run P N B (.r (.gd x b ds g::l)::s) t H Q↔gP P N B b ds g l s t H Q (ev t x):=by
 constructor
 ·intro h
  cases h with
  | gd c h1 h2 =>
   rw[h1]
   refine⟨fun h=>?_,fun h=>?_⟩
   ·simpa[h]using h2
   ·simpa[h]using h2
  | gdU h1 h2=>rw[h1];exact h2
 ·intro h
  have key:∀ c,ev t x=.bool c->Run P N B (.r (.gd x b ds g::l)::s) t H Q:=fun c hv=>by
   rw[hv]at h
   refine .gd c hv ?_
   by_cases e:c=b
   ·simpa[e]using h.1 e
   ·simpa[e]using h.2 e
  cases hv:ev t x with
  | bool c=>exact key c hv
  | tup l =>
   cases l with
   | nil=>rw[hv]at h;exact .gdU hv h
   | cons y ys=>rw[hv]at h;exact h.elim
  | _=>rw[hv]at h;exact h.elim
theorem rn:Run P N B (.r [.alt []]::s) t H Q↔True:=⟨fun _=>trivial,fun _=>.alt fun p hp=>by cases hp⟩
theorem sy {p:List Nat×List S}{ls:List (List Nat×List S)}:Run P N B (.r [.alt (p::ls)]::s) t H Q↔Run P N B (.r p.2::s) t H Q/\Run P N B (.r [.alt ls]::s) t H Q:=by
 constructor
 ·intro h
  cases h with
  | alt h=>exact⟨h p (by simp),.alt fun q hq=>h q (List.mem_cons_of_mem _ hq)⟩
 ·rintro ⟨h1,h2⟩
  cases h2 with
  | alt h2 =>
   refine .alt fun q hq=>?_
   rcases List.mem_cons.1 hq with rfl | hq
   ·exact h1
   ·exact h2 q hq
def nxP (P:Program)(N:Nat->C)(B:Nat)(d:Nat)(l:List S)(s:List K)(t:T)(H:List Ob)(Q:X->T->List Ob->Prop):V->Prop
 | .it j=>∃ i n seen es,H[j]?=some (.iter (some i) n seen)/\H[i]?=some (.map es)/\n=es.length/\((∀ k,k<n->k∈seen)->Run P N B (.r l::s) ((d,.tup [.bool false])::t) H Q) /\
   ∀ k p,es[k]?=some p->k∉seen->Run P N B (.r l::s) ((d,.tup [.bool true,p.1,p.2])::t) (H.set j (.iter (some i) n (seen++[k]))) Q
 | _=>False
theorem ZX {d:Nat}{l:List S}{j:Nat}(i n:Nat)(seen:List Nat)(es:List (V×V))(h1:H[j]?=some (.iter (some i) n seen))(h2:H[i]?=some (.map es))(h3:n=es.length)
  (h4:(∀ k,k<n->k∈seen)->Run P N B (.r l::s) ((d,.tup [.bool false])::t) H Q)
  (h5:∀ k p,es[k]?=some p->k∉seen->Run P N B (.r l::s) ((d,.tup [.bool true,p.1,p.2])::t) (H.set j (.iter (some i) n (seen++[k]))) Q):nxP P N B d l s t H Q (.it j):=⟨i,n,seen,es,h1,h2,h3,h4,h5⟩
theorem yt {d:Nat}{x:O}{l:List S}:Run P N B (.r (.nx d x::l)::s) t H Q↔nxP P N B d l s t H Q (ev t x):=by
 constructor
 ·intro h
  cases h with
  | nx j i n seen es h1 h2 h3 h4 h5 h6 =>
   rw[h1]
   exact⟨i,n,seen,es,h2,h3,h4,h5,h6⟩
 ·intro h
  cases hv:ev t x with
  | it j =>
   rw[hv]at h
   obtain⟨i,n,seen,es,h1,h2,h3,h4,h5⟩:=h
   exact .nx j i n seen es hv h1 h2 h3 h4 h5
  | _=>rw[hv]at h;exact h.elim
def fe (P:Program)(N:Nat->C)(B:Nat)(d:Option Nat)(l:List S)(s:List K)(t:T)(H:List Ob)(Q:X->T->List Ob->Prop)(f:Nat)(vs:List V):Prop :=
 ∃ x,Spec P f vs [] (fun x' H'=>x'=x/\H'=[])/\Run P N B (.r l::s) (Ez d (ren (fun _=>none) x) t) H Q
theorem lX {d:Option Nat}{f:Nat}{args:List O}{l:List S}:Run P N B (.r (.callp d f args::l)::s) t H Q↔fe P N B d l s t H Q f (AP (fun _=>none) (args.map (ev t))):=by
 constructor
 ·intro h
  cases h with
  | callp x h1 h2=>exact⟨x,h1,h2⟩
 ·rintro ⟨x,h1,h2⟩
  exact .callp x h1 h2
def fnP (P:Program)(N:Nat->C)(B:Nat)(d:Option Nat)(args:List O)(l:List S)(s:List K)(t:T)(H:List Ob)(Q:X->T->List Ob->Prop):V->Prop
 | .fn (.func f) fst caps=>fe P N B d l s t H Q f (AP (fun _=>none) (fst++args.map (ev t)++caps))
 | _=>False
theorem yL {d:Option Nat}{args:List O}{l:List S}{f:Nat}{fst caps:List V}:fnP P N B d args l s t H Q (.fn (.func f) fst caps)=fe P N B d l s t H Q f (AP (fun _=>none) (fst++args.map (ev t)++caps)):=rfl
theorem fZ {d:Option Nat}{g:O}{args:List O}{l:List S}:Run P N B (.r (.callvp d g args::l)::s) t H Q↔fnP P N B d args l s t H Q (ev t g):=by
 constructor
 ·intro h
  cases h with
  | callvp f fst caps x h0 h1 h2=>rw[h0];exact⟨x,h1,h2⟩
 ·intro h
  unfold fnP at h
  split at h
  ·rename_i f a c hv
   obtain⟨x,h1,h2⟩:=h
   exact .callvp f a c x hv h1 h2
  ·exact h.elim
theorem fe.of {d:Option Nat}{l:List S}{f:Nat}{vs:List V}{x:V}(h:Spec P f vs [] (fun x' H'=>x'=x/\H'=[]))(k:Run P N B (.r l::s) (Ez d (ren (fun _=>none) x) t) H Q):fe P N B d l s t H Q f vs:=⟨x,h,k⟩
theorem Ack {n:Nat}:ev t (.s n)=lk t n:=rfl
theorem AbW {v:V}:ev t (.c v)=v:=rfl
theorem Ab2 {f:Nat}:ev t (.f f)=.fn (.func f) [] []:=rfl
theorem xJ {n:Nat}:lk [] n=.any:=rfl
theorem vJ {m n:Nat}{v:V}:lk ((m,v)::t) n=if m=n then v else lk t n:=by
 unfold lk;simp only[find];split <;> rfl
theorem cm {rs:List RV}{Q:V->List Ob->Prop}{e:X}(he:e=.ret\/e=.fall){x:V}(h:Sh rs t H=some x)(hq:Q (ren (fun _=>none) x) []):Bv 0 rs Q e t H :=
 ⟨he,.inr ⟨[],x,by simp,by simp,h,hq⟩⟩
theorem Dl {rs:List RV}{Q:V->List Ob->Prop}{e:X}(he:e=.ret\/e=.fall){x:V}(h:Sh rs t H=some x)(hq:Q x H):Bv B rs Q e t H :=
 ⟨he,.inl ⟨x,h,hq⟩⟩
theorem aX {rs:List RV}{Q:V->List Ob->Prop}{e:X}(he:e=.ret\/e=.fall)(ex:List Nat){x:V}(hnd:(List.range B++ex).Nodup)(hlt:∀ i∈ex,i<H.length)(h:Sh rs t H=some x)
  (hq:Q (ren (Aw (List.range B++ex)) x) (give (List.range B++ex) H)):Bv B rs Q e t H:=⟨he,.inr ⟨ex,x,hnd,hlt,h,hq⟩⟩
def Bt (P:Program)(N:Nat->C)(B:Nat)(d:Option Nat)(l:List S)(s:List K)(t:T)(Q:X->T->List Ob->Prop)(F:Fn)(vs:List V)(H:List Ob):Prop :=
 (∃ R,GN P F vs H R/\∀ x H',R x H'->Run P N B (.r l::s) (Ez d x t) H' Q) \/
  ∃ idx R,idx.Nodup/\(∀ i∈idx,i<H.length)/\GN P F (AP (Aw idx) vs) (give idx H) R/\∀ x H',R x H'->idx.length<=H'.length->Run P N B (.r l::s) (Ez d (ren (BT idx H.length) x) t) (takeB idx H H') Q
theorem Bt.all {d:Option Nat}{l:List S}{F:Fn}{vs:List V}{R:V->List Ob->Prop}(h:GN P F vs H R)(k:∀ x H',R x H'->Run P N B (.r l::s) (Ez d x t) H' Q):Bt P N B d l s t Q F vs H:=.inl ⟨R,h,k⟩
theorem Bt.some {d:Option Nat}{l:List S}{F:Fn}{vs:List V}(idx:List Nat){R:V->List Ob->Prop}(h1:idx.Nodup)(h2:∀ i∈idx,i<H.length)(h:GN P F (AP (Aw idx) vs) (give idx H) R)
  (k:∀ x H',R x H'->idx.length<=H'.length->Run P N B (.r l::s) (Ez d (ren (BT idx H.length) x) t) (takeB idx H H') Q):Bt P N B d l s t Q F vs H:=.inr ⟨idx,R,h1,h2,h,k⟩
theorem qC {d:Option Nat}{f:Nat}{args:List O}{l:List S}:Run P N B (.r (.call d f args::l)::s) t H Q↔Bt P N B d l s t Q (.func f) (args.map (ev t)) H:=by
 constructor
 ·intro h
  cases h with
  | callA R h1 h2=>exact .inl ⟨R,h1,h2⟩
  | call idx R h1 h2 h3 h4=>exact .inr ⟨idx,R,h1,h2,h3,h4⟩
 ·rintro (⟨R,h1,h2⟩ | ⟨idx,R,h1,h2,h3,h4⟩)
  ·exact .callA R h1 h2
  ·exact .call idx R h1 h2 h3 h4
def fnG (P:Program)(N:Nat->C)(B:Nat)(d:Option Nat)(args:List O)(l:List S)(s:List K)(t:T)(H:List Ob)(Q:X->T->List Ob->Prop):V->Prop
 | .fn F fst caps=>((∃ f,F=.func f)\/caps=[])/\Bt P N B d l s t Q F (fst++args.map (ev t)++caps) H
 | _=>False
theorem qt {d:Option Nat}{args:List O}{l:List S}{f:Nat}{a c:List V}:fnG P N B d args l s t H Q (.fn (.func f) a c)=Bt P N B d l s t Q (.func f) (a++args.map (ev t)++c) H:=by simp[fnG]
theorem wq {d:Option Nat}{args:List O}{l:List S}{F:Fn}{a:List V}:fnG P N B d args l s t H Q (.fn F a [])=Bt P N B d l s t Q F (a++args.map (ev t)++[]) H:=by simp[fnG]
theorem kT {d:Option Nat}{g:O}{args:List O}{l:List S}:Run P N B (.r (.callv d g args::l)::s) t H Q↔fnG P N B d args l s t H Q (ev t g):=by
 constructor
 ·intro h
  cases h with
  | callvA F fst caps R h0 hF h1 h2=>rw[h0];exact⟨hF,.inl ⟨R,h1,h2⟩⟩
  | callv F fst caps idx R h0 hF h1 h2 h3 h4=>rw[h0];exact⟨hF,.inr ⟨idx,R,h1,h2,h3,h4⟩⟩
 ·intro h
  unfold fnG at h
  split at h
  ·rename_i F fst caps hv
   obtain⟨hF,h⟩:=h
   rcases h with ⟨R,h1,h2⟩ | ⟨idx,R,h1,h2,h3,h4⟩
   ·exact .callvA F fst caps R hv hF h1 h2
   ·exact .callv F fst caps idx R hv hF h1 h2 h3 h4
  ·exact h.elim
def brP (o:Option Ob)(l:Nat)(K:Loop->T->Prop):Prop:=match o with
 | some (.lp l' .ready r ts)=>l'=l/\K r ts
 | _=>False
theorem sk {l l':Nat}{r:Loop}{ts:T}{K:Loop->T->Prop}:brP (some (.lp l' .ready r ts)) l K=(l'=l/\K r ts):=rfl
theorem Aag {l n:Nat}:Run P N B (.br l n::s) t H Q↔brP H[n]? l fun r ts=>Run P N B s t (H.set n (.lp l .busy r ts)) Q:=by
 constructor
 ·intro h
  cases h with
  | br h1 h2=>rw[h1];exact⟨rfl,h2⟩
 ·intro h
  unfold brP at h
  split at h
  ·rename_i l' r ts hh
   obtain⟨rfl,h⟩:=h
   exact .br hh h
  ·exact h.elim
end
theorem Ac {n:Nat}{R:Nat->Prop}(hstep:∀ k,k<n->R (k+1)->R k)(hend:R n):∀ k,k<=n->R k:=by
 intro k hk
 obtain⟨m,rfl⟩:∃ m,n=k+m:=⟨n-k,by omega⟩
 induction m generalizing k with
 | zero=>exact hend
 | succ m ih=>exact hstep k (by omega) (ih (k+1) (fun j hj=>hstep j (by omega)) (by rw[show k+1+m=k+(m+1) by omega];exact hend) (by omega))
theorem uE {σ:Nat->Option Nat}{k:IntKind}{n:Int}:ren σ (.int k n)=.int k n:=rfl
theorem pD {σ:Nat->Option Nat}{b:Bool}:ren σ (.bool b)=.bool b:=rfl
theorem tp {σ:Nat->Option Nat}{s:List UInt8}:ren σ (.str s)=.str s:=rfl
theorem xU {σ:Nat->Option Nat}{z:Nat}{l:List (List V)}:ren σ (.sl z l)=.sl z l:=rfl
theorem yv {σ:Nat->Option Nat}{l:List V}{k:Nat}:ren σ (.ro l k)=.ro l k:=rfl
theorem uh {σ:Nat->Option Nat}:ren σ .nil=.nil:=rfl
theorem oi {σ:Nat->Option Nat}:ren σ .nilp=.nilp:=rfl
theorem ow {σ:Nat->Option Nat}:ren σ .nilm=.nilm:=rfl
theorem ov {σ:Nat->Option Nat}:ren σ .nilf=.nilf:=rfl
theorem uJ {σ:Nat->Option Nat}:ren σ .any=.any:=rfl
theorem Gi {σ:Nat->Option Nat}{l:List V}:ren σ (.agg l)=.agg (AP σ l):=by simp only[ren]
theorem tf {σ:Nat->Option Nat}{l:List V}:ren σ (.tup l)=.tup (AP σ l):=by simp only[ren]
theorem zo {σ:Nat->Option Nat}{f:Fn}{a l:List V}:ren σ (.fn f a l)=.fn f (AP σ a) (AP σ l):=by simp only[ren]
theorem uG {σ:Nat->Option Nat}{i z:Nat}{l:List (List V)}:ren σ (.own i z l)=match σ i with | some j=>.own j z l | none=>.sl z l:=by simp only[ren];rfl
theorem uM {σ:Nat->Option Nat}{i o:Nat}:ren σ (.ptr i o)=match σ i with | some j=>.ptr j o | none=>.any:=by simp only[ren];rfl
theorem pG {σ:Nat->Option Nat}:AP σ []=[]:=by simp only[AP]
theorem lA {σ:Nat->Option Nat}{x:V}{l:List V}:AP σ (x::l)=ren σ x::AP σ l:=by simp only[AP]
theorem tT {k:IntKind}{n:Int}:sto (.int k n)=some [.int k n]:=rfl
theorem np {b:Bool}:sto (.bool b)=some [.bool b]:=rfl
theorem wg {s:List UInt8}:sto (.str s)=some [.str s]:=rfl
theorem Aaz {z:Nat}{l:List (List V)}:sto (.sl z l)=some [.sl z l]:=rfl
theorem vY {i z:Nat}{l:List (List V)}:sto (.own i z l)=some [.own i z l]:=rfl
theorem ug {l:List V}:sto (.agg l)=some l:=rfl
theorem tC {i:Nat}:sto (.map i)=some [.map i]:=rfl
theorem rd:sto .nilm=some [.nilm]:=rfl
theorem rW:sto .nilf=some [.nilf]:=rfl
theorem ql:sto .nilp=some [.nilp]:=rfl
theorem vN {σ:Nat->Option Nat}{i:Nat}:ren σ (.map i)=match σ i with | some j=>.map j | none=>.any:=by simp only[ren];rfl
theorem yh {σ:Nat->Option Nat}{i:Nat}:ren σ (.it i)=match σ i with | some j=>.it j | none=>.any:=by simp only[ren];rfl
theorem uX:sto .nil=some [.nil]:=rfl
theorem zq {f:Fn}{a l:List V}:sto (.fn f a l)=some [.fn f a l]:=rfl
theorem uC {i o:Nat}:sto (.ptr i o)=some [.ptr i o]:=rfl
theorem Aat {σ:Nat->Option Nat}{i z n:Nat}:ren σ (.rw i z n)=match σ i with | some j=>.rw j z n | none=>.any:=by simp only[ren];rfl
theorem zZ {σ:Nat->Option Nat}{i n k o:Nat}:ren σ (.rp i n k o)=match σ i with | some j=>.rp j n k o | none=>.any:=by simp only[ren];rfl
theorem ze {i z n:Nat}:sto (.rw i z n)=some [.rw i z n]:=rfl
theorem xw {i n k o:Nat}:sto (.rp i n k o)=some [.rp i n k o]:=rfl
theorem eL {σ:Nat->Option Nat}{e:Nat}{cs:List V}:A5 σ (.cells e cs)=.cells e (AP σ cs):=rfl
theorem lV {σ:Nat->Option Nat}{e z n:Nat}:A5 σ (.arr e z n)=.arr e z n:=rfl
theorem lG {σ:Nat->Option Nat}{es:List (V×V)}:A5 σ (.map es)=.map (es.map fun p=>(ren σ p.1,ren σ p.2)):=rfl
theorem hX {σ:Nat->Option Nat}{m:Option Nat}{n:Nat}{s:List Nat}:A5 σ (.iter m n s)=.iter (m.bind σ) n s:=rfl
theorem gn {σ:Nat->Option Nat}:A5 σ .dead=.dead:=rfl
theorem KE {σ:Nat->Option Nat}{e z:Nat}{els:List (List V)}:A5 σ (.row e z els)=.row e z (els.map (AP σ)):=rfl
theorem rX {σ:Nat->Option Nat}{l:Nat}{st:LS}{r:Loop}{ts:T}:A5 σ (.lp l st r ts)=.lp l st r (ts.map fun p=>(p.1,ren σ p.2)):=rfl
theorem zd {l:List V}{o:Nat}:sto (.ro l o)=some [.ro l o]:=rfl
theorem Bq {x:Int}(h1:-9223372036854775808<=x)(h2:x<=9223372036854775807):IntKind.i64.wrap x=x:=by
 unfold IntKind.wrap IntKind.bits IntKind.signed;simp;omega
def O1 (o:Option Ob)(f:List V->Option V):Option V:=match o with
 | some (.cells _ cs)=>f cs
 | _=>none
theorem ck {e:Nat}{cs:List V}{f:List V->Option V}:O1 (some (.cells e cs)) f=f cs:=rfl
theorem yM {H:List Ob}{cs:List V}{k:Nat}:ldV H (.ro cs k)=cs[k]?:=rfl
theorem tl {H:List Ob}{i k:Nat}:ldV H (.ptr i k)=O1 H[i]? fun cs=>cs[k]?:=by unfold ldV O1;rfl
theorem zN {H:List Ob}{cs:List V}{k n:Nat}:laV n H (.ro cs k)=if k+n<=cs.length then some (.agg (sub k n cs)) else none:=rfl
theorem ww {H:List Ob}{i k n:Nat}:laV n H (.ptr i k)=O1 H[i]? fun cs=>if k+n<=cs.length then some (.agg (sub k n cs)) else none:=by unfold laV O1;rfl
def sB (o:Option Ob)(f:List (List V)->Option V):Option V:=match o with
 | some (.row _ _ els)=>f els
 | _=>none
theorem mh {e z:Nat}{els:List (List V)}{f:List (List V)->Option V}:sB (some (.row e z els)) f=f els:=rfl
theorem yH {H:List Ob}{i n k o:Nat}:ldV H (.rp i n k o)=sB H[i]? fun els=>if els.length=n then (els[k]?).bind fun el=>el[o]? else none:=by unfold ldV sB;rfl
theorem zh {H:List Ob}{i n j o k:Nat}:laV k H (.rp i n j o)=sB H[i]? fun els=>if els.length=n then (els[j]?).bind fun el=>if o+k<=el.length then some (.agg (sub o k el)) else none else none:=by unfold laV sB;rfl
theorem yp {H:List Ob}{i n j o k:Nat}:faV k H (.rp i n j o)=some (.rp i n j (o+k)):=rfl
theorem zr {H:List Ob}{i n j o:Nat}:ncV H (.rp i n j o)=some (.rp i n j o):=rfl
theorem wb {i z n:Nat}:V8 (.rw i z n)=some (.int .i64 n):=rfl
theorem zW {z y i m:Nat}{k:IntKind}{n:Int}:iaV z (.rw i y m) (.int k n)=if y=z/\0<=n/\n<m then some (.rp i m n.toNat 0) else none:=rfl
theorem yr {H:List Ob}{cs:List V}{k n:Nat}:faV n H (.ro cs k)=some (.ro cs (k+n)):=rfl
theorem ub {H:List Ob}{i k n:Nat}:faV n H (.ptr i k)=O1 H[i]? fun _=>some (.ptr i (k+n)):=by unfold faV O1;rfl
theorem zX {H:List Ob}{cs:List V}{k:Nat}:ncV H (.ro cs k)=some (.ro cs k):=rfl
theorem ux {H:List Ob}{i k:Nat}:ncV H (.ptr i k)=O1 H[i]? fun _=>some (.ptr i k):=by unfold ncV O1;rfl
theorem pA {cs:List V}{k:Nat}:fdV k none (.agg cs)=cs[k]?:=rfl
theorem pC {cs:List V}{k n:Nat}:fdV k (some n) (.agg cs)=if k+n<=cs.length then some (.agg (sub k n cs)) else none:=rfl
theorem xA {z:Nat}{l:List (List V)}:elV (.sl z l)=some l:=rfl
theorem vn {i z:Nat}{l:List (List V)}:elV (.own i z l)=some l:=rfl
theorem vr:elV .nil=some []:=rfl
theorem tD {z:Nat}{l:List (List V)}:V8 (.sl z l)=some (.int .i64 l.length):=rfl
theorem nU {i z:Nat}{l:List (List V)}:V8 (.own i z l)=some (.int .i64 l.length):=rfl
theorem nr:V8 .nil=some (.int .i64 0):=rfl
theorem kr {l:List UInt8}:cv (.str l)=some (.int .i64 l.length):=rfl
theorem xL {z y:Nat}{l:List (List V)}{k:IntKind}{n:Int}:iaV z (.sl y l) (.int k n)=if y=z/\0<=n/\n<l.length then some (.ro (l.getD n.toNat []) 0) else none:=rfl
theorem wA {i z y:Nat}{l:List (List V)}{k:IntKind}{n:Int}:iaV z (.own i y l) (.int k n)=if y=z/\0<=n/\n<l.length then some (.ro (l.getD n.toNat []) 0) else none:=rfl
theorem uV {l:List UInt8}{k:IntKind}{n:Int}:ixV (.str l) (.int k n)=if 0<=n/\n<l.length then some (.int .u8 (btV l n.toNat)) else none:=rfl
theorem qo {z L:Nat}{o:Option Nat}{x:V}{k:IntKind}{n:Int}:mp z L o x (.int k n)=if 0<=n/\n<L then fdV (n.toNat*z) o x else none:=rfl
section
variable {k:IntKind} {a b:Int}
theorem rD:IF .add (.int k a) (.int k b)=some (.int k (k.wrap (a+b))):=by simp[IF]
theorem ra:IF .sub (.int k a) (.int k b)=some (.int k (k.wrap (a-b))):=by simp[IF]
theorem pI:IF .mul (.int k a) (.int k b)=some (.int k (k.wrap (a*b))):=by simp[IF]
theorem nq:IF .quo (.int k a) (.int k b)=if b=0 then none else some (.int k (k.wrap (a.tdiv b))):=by simp[IF]
theorem pW:IF .rem (.int k a) (.int k b)=if b=0 then none else some (.int k (a.tmod b)):=by simp[IF]
theorem tx {j:IntKind}:shV .shl (.int k a) (.int j b)=if b<0 then none else some (.int k (k.wrap (a*2^(min b.toNat k.bits)))):=rfl
theorem vK {j:IntKind}:shV .shr (.int k a) (.int j b)=if b<0 then none else some (.int k (a.fdiv (2^(min b.toNat k.bits)))):=rfl
theorem qx:IF .eql (.int k a) (.int k b)=some (.bool (decide (a=b))):=by simp[IF,M0,BEq.beq]
theorem rj:IF .neq (.int k a) (.int k b)=some (.bool (decide (a≠b))):=by simp[IF,M0,BEq.beq,bne]
theorem pm:IF .lss (.int k a) (.int k b)=some (.bool (decide (a<b))):=by simp[IF,M0]
theorem oK:IF .leq (.int k a) (.int k b)=some (.bool (decide (a<=b))):=by simp[IF,M0]
theorem pi:IF .gtr (.int k a) (.int k b)=some (.bool (decide (b<a))):=by simp[IF,M0]
theorem po:IF .geq (.int k a) (.int k b)=some (.bool (decide (b<=a))):=by simp[IF,M0]
end
theorem rT {op:BinOp}{a b:List UInt8}:IF op (.str a) (.str b)=Hb op a b:=rfl
theorem fI {a b:List UInt8}:Hb .add a b=if a.length+b.length<=BV then some (.str (a++b)) else none:=rfl
theorem fJ {a b:List UInt8}:Hb .eql a b=some (.bool (decide (a=b))):=by by_cases h:a=b <;> simp[Hb,h]
theorem gI {a b:List UInt8}:Hb .neq a b=some (.bool (decide (a≠b))):=by by_cases h:a=b <;> simp[Hb,h]
theorem gA {a b:List UInt8}:Hb .lss a b=some (.bool (Op.bytesLess a b)):=rfl
theorem ul {a b:Bool}:bbV .eql (.bool a) (.bool b)=some (.bool (a == b)):=rfl
theorem uU {a b:Bool}:bbV .neq (.bool a) (.bool b)=some (.bool (a != b)):=rfl
theorem ut {b:Bool}:unV .not (.bool b)=some (.bool !b):=rfl
theorem wF {k:IntKind}{n:Int}:unV .neg (.int k n)=some (.int k (k.wrap (0-n))):=rfl
theorem sV {l:List V}{i:Nat}:exV i (.tup l)=l[i]?:=rfl
theorem ry {l:List UInt8}{lo hi:Option V}:rQ (.str l) lo hi=match bnd lo 0,bnd hi l.length with
  | some a,some b=>if a<=b/\b<=l.length then some (.str ((l.drop a).take (b-a))) else none
  | _,_=>none:=rfl
theorem nt {n:Nat}:bnd none n=some n:=rfl
theorem wu {k:IntKind}{m:Int}{n:Nat}:bnd (some (.int k m)) n=if 0<=m then some m.toNat else none:=rfl
section
variable {B:Nat} {t:T} {H:List Ob}
theorem Abn {d:Nat}{x:O}:Ay B (.mv d x) t H=some ((d,ev t x)::t,H):=rfl
theorem ua {d:Nat}{c:O}{a:O}{b:O}:Ay B (.pick d c a b) t H=(match ev t c with
  | .bool c=>some ((d,if c then ev t a else ev t b)::t,H)
  | _=>none):=rfl
theorem Abh {d:Nat}{e:Nat}{z:List V}:Ay B (.al d e z) t H=some ((d,.ptr H.length 0)::t,H++[.cells e z]):=rfl
theorem AaM {d:Nat}{e:Nat}{x:O}:Ay B (.bx d e x) t H=(match sto (ev t x)with
  | some cs=>some ((d,.ptr H.length 0)::t,H++[.cells e cs])
  | none=>none):=rfl
theorem Aa6 {d:Nat}{e:Nat}{x:O}:Ay B (.br d e x) t H=(match sto (ev t x)with
  | some cs=>some ((d,.ro (AP (fun _=>none) cs) 0)::t,H)
  | none=>none):=rfl
theorem AaO {d:Nat}{k:Nat}{x:O}:Ay B (.sf d k x) t H=(match lk t d with
  | .ptr i 0=>match H[i]? with
   | some (.cells e cs)=>match sto (ev t x)with
    | some new=>if new.length=k/\cs.length=k then some ((d,.ro (AP (fun _=>none) new) 0)::t,H.set i .dead) else none
    | none=>none
   | _=>none
  | _=>none):=rfl
theorem zk {d:Nat}{x:O}:Ay B (.ldr d x) t H=AV d (ldV [] (ev t x)) t H:=rfl
theorem zP {d:Nat}{k:Nat}{x:O}:Ay B (.lar d k x) t H=AV d (laV k [] (ev t x)) t H:=rfl
theorem zD {d:Nat}{off:Nat}{x:O}:Ay B (.far d off x) t H=AV d (faV off [] (ev t x)) t H:=rfl
theorem AaK {d:Nat}{x:O}:Ay B (.ld d x) t H=AV d (ldV H (ev t x)) t H:=rfl
theorem Aba {d:Nat}{k:Nat}{x:O}:Ay B (.la d k x) t H=AV d (laV k H (ev t x)) t H:=rfl
theorem AbP {k:Nat}{a:O}{x:O}:Ay B (.st k a x) t H=(match ev t a with
  | .ptr i off=>match H[i]? with
   | some (.cells e cs)=>match sto (ev t x)with
    | some new=>if new.length=k/\off+k<=cs.length then some (t,H.set i (.cells e (put off new cs))) else none
    | none=>none
   | _=>none
  | .rp i n j off=>match H[i]? with
   | some (.row e sz els)=>match sto (ev t x)with
    | some new=>if els.length=n/\j<n/\new.length=k/\off+k<=sz then some (t,H.set i (.row e sz (els.set j (put off new (els.getD j []))))) else none
    | none=>none
   | _=>none
  | _=>none):=rfl
theorem Abe {d:Nat}{off:Nat}{x:O}:Ay B (.fa d off x) t H=AV d (faV off H (ev t x)) t H:=rfl
theorem Abc {d:Nat}{x:O}:Ay B (.nc d x) t H=AV d (ncV H (ev t x)) t H:=rfl
theorem AaP {d:Nat}{off:Nat}{k:Option Nat}{x:O}:Ay B (.fd d off k x) t H=AV d (fdV off k (ev t x)) t H:=rfl
theorem AaT {d:Nat}{z:List V}{ps:List (Nat×Nat×O)}:Ay B (.bd d z ps) t H=AV d ((bdV t ps z).map .agg) t H:=rfl
theorem Abj {d:Nat}{sz:Nat}{xs:List O}:Ay B (.bs d sz xs) t H=AV d ((bsV t sz xs).map (.sl sz)) t H:=rfl
theorem Aa2 {d:Nat}{e:Nat}{sz:Nat}{xs:List O}:Ay B (.bo d e sz xs) t H=(match bsV t sz xs with
  | some els=>some ((d,.own H.length sz els)::t,H++[.arr e sz els.length])
  | none=>none):=rfl
theorem xN {d:Nat}{op:BinOp}{x:O}{y:O}:Ay B (.bin d op x y) t H=AV d (IF op (ev t x) (ev t y)) t H:=rfl
theorem AaL {d:Nat}{op:BinOp}{x:O}{y:O}:Ay B (.bb d op x y) t H=AV d (bbV op (ev t x) (ev t y)) t H:=rfl
theorem Abl {d:Nat}{op:BinOp}{x:O}{y:O}:Ay B (.sh d op x y) t H=AV d (shV op (ev t x) (ev t y)) t H:=rfl
theorem Aa3 {d:Nat}{op:UnOp}{x:O}:Ay B (.un d op x) t H=AV d (unV op (ev t x)) t H:=rfl
theorem zc {d:Nat}{k:IntKind}{x:O}:Ay B (.cvi d k x) t H=(match ev t x with
  | .int _ n=>some ((d,.int k (k.wrap n))::t,H)
  | _=>none):=rfl
theorem Aai {d:Nat}{x:O}:Ay B (.cvs d x) t H=(match ev t x with
  | .str s=>some ((d,.str s)::t,H)
  | _=>none):=rfl
theorem zL {d:Nat}{x:O}:Ay B (.s2b d x) t H=(match ev t x with
  | .str s=>if s.length<=Ag then some ((d,.sl 1 (s.map fun c=>[.int .u8 c.toNat]))::t,H) else none
  | _=>none):=rfl
theorem xM {d:Nat}{x:O}:Ay B (.b2s d x) t H=(match elV (ev t x)with
  | some els=>match gG els with
   | some l=>some ((d,.str l)::t,H)
   | none=>none
  | none=>none):=rfl
theorem Abd {d:Nat}{g:Nat}{fst:List O}{caps:List O}:Ay B (.mf d g fst caps) t H=some ((d,.fn (.func g) (fst.map (ev t)) (caps.map (ev t)))::t,H):=rfl
theorem yI {d:Nat}{x:O}:Ay B (.len d x) t H=AV d (V8 (ev t x)) t H:=rfl
theorem tE {d:Nat}{x:O}:Ay B (.lens d x) t H=AV d (cv (ev t x)) t H:=rfl
theorem Abi {d:Nat}{sz:Nat}{x:O}{i:O}:Ay B (.ia d sz x i) t H=AV d (iaV sz (ev t x) (ev t i)) t H:=rfl
theorem Abw {d:Nat}{x:O}{i:O}:Ay B (.ix d x i) t H=AV d (ixV (ev t x) (ev t i)) t H:=rfl
theorem yC {d:Nat}{sz n:Nat}{k:Option Nat}{x:O}{i:O}:Ay B (.ixa d sz n k x i) t H=AV d (mp sz n k (ev t x) (ev t i)) t H:=rfl
theorem Abv {d:Nat}{sz:Nat}{x:O}{lo:Option O}{hi:Option O}:Ay B (.sx d sz x lo hi) t H=AV d (sxV sz (ev t x) (lo.map (ev t)) (hi.map (ev t))) t H:=rfl
theorem yl {d:Nat}{x:O}{lo:Option O}{hi:Option O}:Ay B (.sxs d x lo hi) t H=AV d (rQ (ev t x) (lo.map (ev t)) (hi.map (ev t))) t H:=rfl
theorem AaG {d:Nat}{x:O}{i:Nat}:Ay B (.ex d x i) t H=AV d (exV i (ev t x)) t H:=rfl
theorem xK {d:Nat}{e:Nat}{sz:Nat}{bytes:Nat}{x:O}{y:O}:Ay B (.app d e sz bytes x y) t H=PQ d (OM H e sz bytes (ev t x) (ev t y)) t:=rfl
theorem Aaa {d:Nat}{e:Nat}{sz:Nat}{bytes:Nat}{x:O}{y:O}:Ay B (.apr d e sz bytes x y) t H=PQ d (eu H e sz bytes (ev t x) (ev t y)) t:=rfl
theorem Abr {d:Nat}{x:O}{y:O}:Ay B (.mx d x y) t H=(match ev t x,ev t y with
  | .int k a,.int k' b=>if k=k' then some ((d,.int k (if b > a then b else a))::t,H) else none
  | _,_=>none):=rfl
theorem AaU {d:Nat}{x:O}{y:O}:Ay B (.mn d x y) t H=(match ev t x,ev t y with
  | .int k a,.int k' b=>if k=k' then some ((d,.int k (if b<a then b else a))::t,H) else none
  | _,_=>none):=rfl
theorem Aac {d:Nat}{e:Nat}{sz:Nat}:Ay B (.non d e sz) t H=(match lk t d with
  | .nil=>some ((d,.own H.length sz [])::t,H++[.arr e sz 0])
  | _=>none):=rfl
theorem Aau {e:Nat}{sz:Nat}{k:Nat}{a:O}:Ay B (.ono e sz k a) t H=(match ev t a with
  | .ptr i off=>match H[i]? with
   | some (.cells e' cs)=>match cs[off+k]? with
    | some .nil=>some (t,H.set i (.cells e' (put (off+k) [.own H.length sz []] cs))++[.arr e sz 0])
    | _=>none
   | _=>none
  | _=>none):=rfl
theorem AaI {d e sz bytes:Nat}{z:List V}{x:O}:Ay B (.mk d e sz bytes z x) t H=(match ev t x with
  | .int _ n=>if 0<=n/\n.toNat<=Ag/\n.toNat*bytes<=Ag then some ((d,.rw H.length sz n.toNat)::t,H++[.row e sz (List.replicate n.toNat z)]) else none
  | _=>none):=rfl
theorem yE {d:Nat}:Ay B (.mkm d) t H=some ((d,.map H.length)::t,H++[.map []]):=rfl
theorem za {d:Nat}{ks:Bool}{ok:Bool}{z:V}{m:O}{k:O}:Ay B (.lkp d ks ok z m k) t H=AV d (Ly H ks ok z (ev t m) (ev t k)) t H:=rfl
theorem xR {d:Nat}{m:O}:Ay B (.lnm d m) t H=AV d (Vh H (ev t m)) t H:=rfl
theorem zy {d:Nat}{sh:List Bool}{ok:Bool}{z:V}{m:O}{k:O}:Ay B (.lkq d sh ok z m k) t H=AV d (QZ H sh ok z (ev t m) (ev t k)) t H:=rfl
theorem xZ {d sz n:Nat}{x:O}{i:O}:Ay B (.iaa d sz n x i) t H=AV d (aR H sz n (ev t x) (ev t i)) t H:=rfl
theorem rv {sz n:Nat}{x:V}{k:IntKind}{m:Int}:aR H sz n x (.int k m)=if 0<=m/\m<n then faV (m.toNat*sz) H x else none:=rfl
theorem yz {sh:List Bool}{m:O}{k:O}{x:O}:Ay B (.muq sh m k x) t H=(match ev t m with
  | .map i=>match H[i]? with
   | some (.map es)=>if shB sh (ev t k) then match lU (ev t k) (ev t x) es with
    | some es'=>some (t,H.set i (.map es'))
    | none=>none
    else none
   | _=>none
  | _=>none):=rfl
theorem yq {d:Nat}{neg:Bool}{sh:List Bool}{x y:O}:Ay B (.eqs d neg sh x y) t H=AV d (fR neg sh (ev t x) (ev t y)) t H:=rfl
theorem zR {d e sz bytes k:Nat}{y:O}:Ay B (.apz d e sz bytes k y) t H=(match lk t k with
  | .nil=>PQ d (OM (H++[.arr e sz 0]) e sz bytes (.own H.length sz []) (ev t y)) t
  | .own _ _ _=>PQ d (OM H e sz bytes (lk t k) (ev t y)) t
  | _=>none):=rfl
theorem AaF {l:List Nat}:Ay B (.kt l) t H=some (l.map fun n=>(n,lk t n),H):=rfl
theorem AaH {rs l:List Nat}:Ay B (.kk rs l) t H=(match qP t rs with
  | some js=>if kkB B H.length js then some (l.map fun n=>(n,ren (Aw (List.range B++js)) (lk t n)),give (List.range B++js) H) else none
  | none=>none):=rfl
theorem Aad {d e sz:Nat}:Ay B (.noz d e sz) t H=(match lk t d with
  | .nil=>some ((d,.own H.length sz [])::t,H++[.arr e sz 0])
  | .own _ _ _=>some (t,H)
  | _=>none):=rfl
theorem Aas {ks:Bool}{m:O}{k:O}{x:O}:Ay B (.mup ks m k x) t H=(match ev t m with
  | .map i=>match H[i]? with
   | some (.map es)=>if ksB ks (ev t k) then match VW (ev t k) (ev t x) es with
    | some es'=>some (t,H.set i (.map es'))
    | none=>none
    else none
   | _=>none
  | _=>none):=rfl
theorem AaZ {d:Nat}{m:O}:Ay B (.rg d m) t H=(match ev t m with
  | .map i=>match H[i]? with
   | some (.map es)=>some ((d,.it H.length)::t,H++[.iter (some i) es.length []])
   | _=>none
  | _=>none):=rfl
theorem Aa4 {d:Nat}{x:O}:Ay B (.en d x) t H=AV d (enV H (ev t x)) t H:=rfl
theorem uo {d:Nat}{e:Nat}{sz:Nat}:Ay B (.rnon d e sz) t H=(match lk t d with
  | .nil=>some ((d,.rw H.length sz 0)::t,H++[.row e sz []])
  | _=>none):=rfl
theorem tZ {e:Nat}{sz:Nat}{k:Nat}{a:O}:Ay B (.rono e sz k a) t H=(match ev t a with
  | .ptr i off=>match H[i]? with
   | some (.cells e' cs)=>match cs[off+k]? with
    | some .nil=>some (t,H.set i (.cells e' (put (off+k) [.rw H.length sz 0] cs))++[.row e sz []])
    | _=>none
   | _=>none
  | _=>none):=rfl
theorem yK {d:Nat}:Ay B (.frz d) t H=(match lk t d with
  | .rw i z n=>match H[i]? with
   | some (.row e sz els)=>if els.length=n then some ((d,.sl sz (els.map (AP fun _=>none)))::t,H.set i .dead) else none
   | _=>none
  | _=>none):=rfl
theorem xY {d:Nat}:Ay B (.e2r d) t H=(match lk t d with
  | .own i z []=>match H[i]? with
   | some (.arr e sz 0)=>if z=sz then some ((d,.rw H.length sz 0)::t,H.set i .dead++[.row e sz []]) else none
   | _=>none
  | _=>none):=rfl
theorem zz {k:Nat}{a:O}:Ay B (.frc k a) t H=(match ev t a with
  | .ptr i off=>match H[i]? with
   | some (.cells e cs)=>match cs[off+k]? with
    | some (.rw j z n)=>match H[j]? with
     | some (.row e' sz els)=>if els.length=n then some (t,(H.set j .dead).set i (.cells e (put (off+k) [.sl sz (els.map (AP fun _=>none))] cs))) else none
     | _=>none
    | some (.sl _ _)=>some (t,H)
    | _=>none
   | _=>none
  | _=>none):=rfl
theorem AaY {m:Nat}{l:List Nat}:Ay B (.ks m l) t H=some (l.map fun n=>(n,ren (AK (B+m)) (lk t n)),(H.take (B+m)).map (A5 (AK (B+m)))):=rfl
end
attribute [push_cast] qr nz vE tc ye zI oB uk Aax pS vA nQ qf qN JJ qF oQ wB zG tV tI Aao nk rb uY rM pN vU oa tM yX yP rn sy yt lX yL fZ Ack AbW Ab2 xJ vJ Abn ua Abh AaM Aa6 AaO zk zP zD AaK Aba AbP Abe Abc AaP AaT Abj Aa2 xN AaL Abl Aa3 zc Aai zL xM Abd yI tE Abi Abw yC Abv yl AaG xK Aaa Abr AaU Aac Aau AaI yE za xR zy xZ rv Aas yz yq AaF AaH Aad zR AaZ Aa4 uo tZ yK xY zz AaY ck yM tl zN ww yr ub zX ux pA pC xA vn vr tD nU nr kr xL wA uV qo rD ra pI qx rj pm oK pi po rT fI fJ gI gA ul uU ut wF sV ry nt wu bdV bsV AK Ez oY nV rE vT qC qt wq kT Aag sk wx ny zY rc nq pW tx vK uZ mh yH zh yp zr wb zW Aat zZ ze xw eL lV lG hX gn KE rX uE pD tp xU yv uh oi ow ov uJ Gi tf zo uG uM pG lA tT np wg Aaz vY ug uX zq uC zd tC rd rW ql vN yh List.map_cons List.map_nil List.cons_append List.nil_append List.append_nil rvs rvV Sh ini List.length_nil List.length_cons List.getElem?_nil List.getElem?_cons_zero List.getElem?_cons_succ List.set_cons_zero List.set_cons_succ List.take_zero List.take_nil List.take_succ_cons Nat.le_refl true_and and_true and_self Nat.zero_add Nat.add_zero decide_eq_true_eq decide_eq_false_iff_not if_true if_false Bool.not_true Bool.not_false Int.toNat_natCast decide_true decide_false Bool.true_and Bool.and_true Bool.false_and Bool.and_false forall_const not_true_eq_false not_false_eq_true true_implies false_implies
end Go.Dw
end
section
namespace Go.Dw
noncomputable abbrev prog:Program:=Go.Proofs.Tryz.prog
theorem mixed:prog.follows .mixedOrders=true:=by kernel_rfl
def II:Nat:=4
def Do:Nat:=11
def PS:Nat:=12
def Hd:Nat:=13
def J6:Nat:=14
def KS:Nat:=15
def P1:Nat:=16
def OZ:Nat:=18
def GW:Nat:=31
def LP:Nat:=32
def Bn:Nat:=33
def Kt:Nat:=34
def BJ:Nat:=35
def GP:Nat:=36
def NA:Nat:=37
def EQ:Nat:=38
def Mg:Nat:=39
def Ls:Nat:=40
def LD:Nat:=41
def Jr:Nat:=42
def J5:Nat:=43
def Ia:Nat:=46
def HU:Nat:=49
def J2:Nat:=52
def Og:Nat:=54
def PA:Nat:=57
def Ca:Nat:=63
def GR:Nat:=71
def Ig:Nat:=72
def GE:Nat:=73
def Me:Nat:=74
def EB:Nat:=75
def If:Nat:=76
def Db:Nat:=77
def Ku:Nat:=78
def D2:Nat:=79
def DI:Nat:=80
def Jd:Nat:=81
def DJ:Nat:=82
def PC:Nat:=83
def EO:Nat:=84
def Oa:Nat:=85
def M7:Nat:=86
def Gt:Nat:=87
def Gk:Nat:=88
def CT:Nat:=89
def E8:Nat:=90
def Ge:Nat:=91
def Bx:Nat:=92
def Ja:Nat:=94
def Jw:Nat:=95
def LT:Nat:=96
def Ji:Nat:=97
def LU:Nat:=98
def HD:Nat:=99
def Kj:Nat:=105
def Jf:Nat:=106
def Hu:Nat:=107
def CA:Nat:=115
def DH:Nat:=118
def Fa:Nat:=122
def Jc:Nat:=123
def AT:Nat:=124
def n_slices_Sort_s_string_string:Nat:=125
def Ix:Nat:=126
def Oe:Nat:=127
def FU:Nat:=128
def Fe:Nat:=129
def J8:Nat:=130
def LM:Nat:=131
def Mz:Nat:=132
def Ki:Nat:=133
def Mx:Nat:=134
def O5:Nat:=135
def Hh:Nat:=136
def Lm:Nat:=137
def Lh:Nat:=138
def E6:Nat:=139
def Rj:Nat:=140
def IX:Nat:=141
def Kl:Nat:=142
def NQ:Nat:=143
def CG:Nat:=144
def Du:Nat:=145
def AL:Nat:=146
def JZ:Nat:=147
def JK:Nat:=148
def Iu:Nat:=149
def D3:Nat:=150
def Gb:Nat:=151
def BI:Nat:=153
def E5:Nat:=160
def GS:Nat:=161
def So:Nat:=162
def Il:Nat:=169
def I3:Nat:=170
def Mr:Nat:=171
def BE:Nat:=172
def Km:Nat:=173
def PE:Nat:=183
def KY:Nat:=184
def M5:Nat:=185
def JA:Nat:=186
def JT:Nat:=187
def K2:Nat:=188
def LI:Nat:=189
def Kp:Nat:=190
def Dg:Nat:=191
def Mu:Nat:=192
def IQ:Nat:=193
def IZ:Nat:=194
def OT:Nat:=195
def MC:Nat:=196
def NW:Nat:=197
def Wy:Nat:=198
def Nv:Nat:=199
def Hz:Nat:=200
def FT:Nat:=201
def BH:Nat:=202
def GQ:Nat:=203
def Ms:Nat:=204
def B8:Nat:=205
def Kf:Nat:=209
def Js:Nat:=210
def M1:Nat:=211
def RH:Nat:=212
def Fj:Nat:=214
def O7:Nat:=215
def LY:Nat:=217
def Q4:Nat:=219
def Rd:Nat:=223
def Gx:Nat:=224
def CW:Nat:=225
def Bk:Nat:=226
def Po:Nat:=227
def Cr:Nat:=228
def Kh:Nat:=245
def Kw:Nat:=246
def Jp:Nat:=247
def Mw:Nat:=248
def Fh:Nat:=249
def Mk:Nat:=250
def JS:Nat:=251
def Hm:Nat:=252
def Ko:Nat:=253
def LF:Nat:=254
def Jk:Nat:=255
def JN:Nat:=256
def Jm:Nat:=257
def I4:Nat:=258
def LG:Nat:=259
def OV:Nat:=260
def I0:Nat:=261
def Jy:Nat:=262
def El:Nat:=263
def CX:Nat:=264
def Kk:Nat:=265
def NX:Nat:=266
def Ns:Nat:=267
def Iz:Nat:=268
def HT:Nat:=269
def Da:Nat:=271
def Cg:Nat:=272
def Kg:Nat:=279
def Dd:Nat:=280
def D5:Nat:=281
def Es:Nat:=282
def FS:Nat:=283
def Jo:Nat:=284
def Cv:Nat:=285
def Pf:Nat:=286
def F0:Nat:=287
def PV:Nat:=288
def Jl:Nat:=289
def Np:Nat:=290
def Iv:Nat:=291
def MU:Nat:=292
def AI:Nat:=293
def Ld:Nat:=294
def FB:Nat:=295
def KP:Nat:=296
def Fz:Nat:=297
def JW:Nat:=299
def DN:Nat:=300
def Ch:Nat:=301
def BM:Nat:=302
def Ha:Nat:=303
def Lq:Nat:=304
def FE:Nat:=305
def Jv:Nat:=306
def EC:Nat:=307
def Nx:Nat:=308
def n_strconv_FormatInt:Nat:=310
def Cn:Nat:=311
def Eu:Nat:=312
def JP:Nat:=313
def Ce:Nat:=314
def BZ:Nat:=320
def D0:Nat:=326
noncomputable abbrev ML:Func:=Go.Proofs.Tryz.f308
theorem Zh:prog.funcs[Nx]?=some ML:=Go.Proofs.Tryz.func308
noncomputable abbrev GM:Func:=Go.Proofs.Tryz.f314
theorem GL:prog.funcs[Ce]?=some GM:=Go.Proofs.Tryz.func314
def EA:Nat:=3
def fX:Nat:=4
def C1:Nat:=9
def Pn:Nat:=22
def Qm:Nat:=23
def A7:Nat:=25
def Vu:Nat:=26
def A3:Nat:=35
def Sp:Nat:=67
def BN:Nat:=107
def VH:Nat:=108
def Ax:Nat:=112
def Gh:Nat:=127
def Vq:Nat:=130
def BX:Nat:=148
def Dh:Nat:=158
def ET:Nat:=169
def HN:Nat:=192
def Dy:Nat:=215
def Gn:Nat:=270
def B9:Nat:=281
def Sz:Nat:=286
def CR:Nat:=290
def Ih:Nat:=298
def B3:Nat:=302
def Dv:Nat:=305
def ER:Nat:=307
end Go.Dw
end
section
namespace Go.Dw
abbrev Str:=List UInt8
inductive Term where
 | mk (name:Str) (var:Bool) (args:List Term)
deriving Inhabited
namespace Term
def name:Term->Str | mk n _ _=>n
def var:Term->Bool | mk _ v _=>v
def args:Term->List Term | mk _ _ a=>a
end Term
def Dz {α:Type}(f:α->List V)(z:Nat)(l:List α):V:=.sl z (l.map f)
def Bc {α:Type}(f:α->List V)(i z:Nat)(l:List α):V:=.own i z (l.map f)
section
variable {α:Type} {f:α->List V} {z:Nat}
theorem oG {l:List α}:sto (Dz f z l)=some [Dz f z l]:=rfl
theorem rx {σ:Nat->Option Nat}{l:List α}:ren σ (Dz f z l)=Dz f z l:=rfl
theorem lJ {l:List α}:V8 (Dz f z l)=some (.int .i64 l.length):=by simp[Dz,V8]
theorem nW {l:List α}:elV (Dz f z l)=some (l.map f):=rfl
theorem qZ [Inhabited α]{l:List α}{k:IntKind}{n:Int}{y:Nat}:iaV y (Dz f z l) (.int k n)=if z=y/\0<=n/\n<l.length then some (.ro (f (l.getD n.toNat default)) 0) else none:=by
 simp only[Dz,iaV,List.length_map]
 split
 ·rename_i h
  have hlt:n.toNat<l.length:=by omega
  simp[List.getD_eq_getElem?_getD,hlt]
 ·rfl
theorem nw {l:List α}{lo hi:Option V}{y:Nat}:sxV y (Dz f z l) lo hi=match bnd lo 0,bnd hi l.length with
  | some a,some b=>if z=y/\a<=b/\b<=l.length then some (Dz f z ((l.drop a).take (b-a))) else none
  | _,_=>none:=by
 simp only[Dz,sxV,List.length_map,<-List.map_drop,<-List.map_take]
 rfl
theorem qM {i:Nat}{l:List α}:sto (Bc f i z l)=some [Bc f i z l]:=rfl
theorem rR {σ:Nat->Option Nat}{i:Nat}{l:List α}:ren σ (Bc f i z l)=match σ i with | some j=>Bc f j z l | none=>Dz f z l:=by simp only[Bc,Dz,ren];rfl
theorem mP {i:Nat}{l:List α}:V8 (Bc f i z l)=some (.int .i64 l.length):=by simp[Bc,V8]
theorem ri {i:Nat}{l:List α}:elV (Bc f i z l)=some (l.map f):=rfl
theorem qm [Inhabited α]{i:Nat}{l:List α}{k:IntKind}{n:Int}{y:Nat}:iaV y (Bc f i z l) (.int k n)=if z=y/\0<=n/\n<l.length then some (.ro (f (l.getD n.toNat default)) 0) else none:=by
 simp only[Bc,iaV,List.length_map]
 split
 ·rename_i h
  have hlt:n.toNat<l.length:=by omega
  simp[List.getD_eq_getElem?_getD,hlt]
 ·rfl
def oo (o:Option Ob)(K:Nat->Nat->Nat->Option (V×List Ob)):Option (V×List Ob):=match o with
 | some (.arr e z n)=>K e z n
 | _=>none
theorem lK {e y n:Nat}{K:Nat->Nat->Nat->Option (V×List Ob)}:oo (some (.arr e y n)) K=K e y n:=rfl
def gt (o:Option (List (List V)))(K:List (List V)->Option (V×List Ob)):Option (V×List Ob):=match o with
 | some l=>K l
 | none=>none
theorem lf {l:List (List V)}{K:List (List V)->Option (V×List Ob)}:gt (some l) K=K l:=rfl
theorem mT {H:List Ob}{e y bytes i:Nat}{l:List α}{v:V}:OM H e y bytes (Bc f i z l) v=gt (elV v) fun new=>oo H[i]? fun e' z' n=>if z=y/\z'=y/\e'=e/\n=l.length/\(∀ x∈new,x.length=y)/\(l.length+new.length)*bytes<=Ag then some (.own i y (l.map f++new),H.set i (.arr e y (l.length+new.length))) else none:=by
 unfold OM Bc gt oo
 cases elV v with
 | none=>rfl
 | some new =>
  simp only[List.length_map]
  rfl
theorem sn {H:List Ob}{e y bytes i:Nat}{l:List (List V)}{v:V}:OM H e y bytes (.own i z l) v=gt (elV v) fun new=>oo H[i]? fun e' z' n=>if z=y/\z'=y/\e'=e/\n=l.length/\(∀ x∈new,x.length=y)/\(l.length+new.length)*bytes<=Ag then some (.own i y (l++new),H.set i (.arr e y (l.length+new.length))) else none:=by
 unfold OM gt oo
 cases elV v with
 | none=>rfl
 | some new=>rfl
def yJ (o:Option Ob)(K:Nat->Nat->List (List V)->Option (V×List Ob)):Option (V×List Ob):=match o with
 | some (.row e z els)=>K e z els
 | _=>none
theorem kK {e y:Nat}{els:List (List V)}{K:Nat->Nat->List (List V)->Option (V×List Ob)}:yJ (some (.row e y els)) K=K e y els:=rfl
theorem tg {H:List Ob}{e y bytes i n:Nat}{v:V}:eu H e y bytes (.rw i z n) v=gt (elV v) fun new=>yJ H[i]? fun e' z' els=>if z'=y/\e'=e/\els.length=n/\(∀ x∈new,x.length=y)/\(n+new.length)*bytes<=Ag then some (.rw i y (n+new.length),H.set i (.row e y (els++new))) else none:=by
 unfold eu gt yJ
 cases elV v with
 | none=>rfl
 | some new=>rfl
theorem oN {i:Nat}{l:List α}{x:α}:(.own i z (l.map f++[f x]):V)=Bc f i z (l++[x]):=by simp[Bc]
theorem ue {i:Nat}{l m:List α}:(.own i z (l.map f++m.map f):V)=Bc f i z (l++m):=by simp[Bc]
end
attribute [push_cast] oG rx lJ nW qZ nw qM rR mP ri qm lK lf mT sn kK tg oN ue eq_self
mutual
def fy:Term->List (List V)
 | .mk _ _ ts=>YZ ts
def YZ:List Term->List (List V)
 | []=>[]
 | a::ts=>[.str a.name,.bool a.var,.sl 3 (fy a)]::YZ ts
end
def cT (t:Term):List V:=[.str t.name,.bool t.var,.sl 3 (fy t)]
theorem qB (ts:List Term):YZ ts=ts.map cT:=by
 induction ts with
 | nil=>simp[YZ]
 | cons a ts ih=>simp[YZ,ih,cT]
theorem aL (t:Term):fy t=t.args.map cT:=by cases t;simp[fy,qB,Term.args]
abbrev Bd (l:List Term):V:=Dz cT 3 l
theorem Oq (t:Term):cT t=[.str t.name,.bool t.var,Bd t.args]:=by rw[cT,aL];rfl
def Ao (t:Term):V:=.agg (cT t)
theorem oZ (t:Term):sto (Ao t)=some (cT t):=rfl
theorem ZJ (t:Term):(cT t).length=3:=rfl
theorem Acq (t:Term):(cT t)[0]?=some (.str t.name):=rfl
theorem Acs (t:Term):(cT t)[1]?=some (.bool t.var):=rfl
theorem AbR (t:Term):(cT t)[2]?=some (Bd t.args):=by rw[Oq];rfl
theorem xG (t:Term):sub 0 3 (cT t)=cT t:=rfl
theorem kq (t:Term):V.agg (cT t)=Ao t:=rfl
theorem jr {σ:Nat->Option Nat}(t:Term):AP σ (cT t)=cT t:=rfl
theorem eJ {σ:Nat->Option Nat}(t:Term):ren σ (Ao t)=Ao t:=by unfold Ao;rw[Gi,jr]
theorem xr (n:Str)(v:Bool)(l:List Term):[V.str n,.bool v,Bd l]=cT (.mk n v l):=by rw[Oq];rfl
theorem Yg (t:Term)(k:Nat):fdV k none (Ao t)=(cT t)[k]?:=rfl
theorem iI (x:List V)(a b c:V)(h:x.length=3):put 0 x [a,b,c]=x:=by
 simp only[put,h];simp
theorem Aaq (t:Term)(a b c:V):put 0 (cT t) [a,b,c]=cT t:=iI _ _ _ _ rfl
theorem iJ (t u:Term):put 0 (cT t) (cT u)=cT t:=iI _ _ _ _ rfl
attribute [push_cast] oZ ZJ Acq Acs AbR xG kq eJ jr Yg Aaq iJ
end Go.Dw
end
section
namespace Go.Dw
abbrev PF (f:Nat)(args:List V)(x:V):Prop:=Spec prog f args [] fun x' H'=>x'=x/\H'=[]
theorem Aa {f:Nat}{nd:Nat->C}{c:C}{n:Nat}{rs:List RV}(hok:okF prog f nd c n rs=true){args:List V}{x:V}(hn:args.length=n)
  (hrun:Run prog nd 0 [.c c] (ini 0 args) [] (Bv 0 rs fun x' H'=>x'=x/\H'=[])):PF f args x:=AJ mixed hok hn hrun
theorem A1 {rs:List RV}{t:T}{H:List Ob}{v:V}{e:X}(h:oP (Sh rs t H) fun x=>ren (fun _=>none) x=v)(he:e=.ret\/e=.fall:=by first | exact .inl rfl | exact .inr rfl):Bv 0 rs (fun x' H'=>x'=v/\H'=[]) e t H:=by
 cases hr:Sh rs t H with
 | none=>rw[hr]at h;exact h.elim
 | some x=>rw[hr]at h;exact cm he hr ⟨h,rfl⟩
attribute [push_cast] List.forall_mem_singleton List.forall_mem_map Option.map_some Option.map_none Option.bind_some Option.bind_none ne_eq Bool.false_eq_true Bool.true_eq_false and_true true_and implies_true Int.natCast_nonneg implies_true not_true_eq_false not_false_eq_true true_implies false_implies forall_const V.int.injEq V.bool.injEq V.str.injEq V.tup.injEq V.agg.injEq List.cons.injEq
theorem AaW {l:List V}:sub 0 0 l=[]:=rfl
theorem AaQ {k:Nat}{x:V}{l:List V}:sub 0 (k+1) (x::l)=x::sub 0 k l:=rfl
theorem AbG {o k:Nat}{x:V}{l:List V}:sub (o+1) k (x::l)=sub o k l:=rfl
theorem Aa1 {l:List V}:put 0 [] l=l:=by simp[put]
theorem AaN {x y:V}{n l:List V}:put 0 (x::n) (y::l)=x::put 0 n l:=by simp[put]
theorem AaR {o:Nat}{y:V}{n l:List V}:put (o+1) n (y::l)=y::put o n l:=by
 simp only[put,List.take_succ_cons,List.cons_append]
 rw[show o+1+n.length=(o+n.length)+1 by omega,List.drop_succ_cons]
theorem sX (t:Term)(a b c:V)(l:List V):put 0 (cT t) (a::b::c::l)=cT t++l:=by simp[put,ZJ]
theorem tP (t:Term)(n l:List V)(k:Nat):put (k+3) n (cT t++l)=cT t++put k n l:=by
 simp only[put]
 have h:(cT t).length=3:=rfl
 rw[List.take_append,List.drop_append,List.take_of_length_le (by omega),List.drop_of_length_le (by omega)]
 simp only[h,List.nil_append,List.append_assoc]
 rw[show k+3-3=k by omega,show k+3+n.length-3=k+n.length by omega]
theorem ga (t:Term)(l:List V)(k:Nat):(cT t++l)[k+3]?=l[k]?:=by
 rw[List.getElem?_append_right (by simp[ZJ])];simp[ZJ]
theorem gW (t:Term)(l:List V):sub 0 3 (cT t++l)=cT t:=by
 simp only[sub,List.drop_zero]
 exact List.take_left' rfl
attribute [push_cast] AaW AaQ AbG Aa1 AaN AaR sX tP ga gW List.length_append List.append_assoc
theorem A4 {α:Type}[Inhabited α]{l:List α}{k:Nat}(h:k<l.length):l.getD k default∈l:=by simp[List.getD_eq_getElem?_getD,h]
theorem A9 {α:Type}[Inhabited α]{l:List α}{k:Nat}(h:k<l.length):l.take (k+1)=l.take k++[l.getD k default]:=by
 rw[List.take_succ_eq_append_getElem h];simp[List.getD_eq_getElem?_getD,h]
theorem Ak {α:Type}[Inhabited α]{l:List α}{k:Nat}(h:k<l.length):l.drop k=l.getD k default::l.drop (k+1):=by
 rw[List.drop_eq_getElem_cons h];simp[List.getD_eq_getElem?_getD,h]
theorem ilt {k n:Nat}(h:k<n):((k:Int)<(n:Int))=True:=eq_true (by omega)
theorem B6 {k n:Nat}(h:n<=k):((k:Int)<(n:Int))=False:=eq_false (by omega)
theorem w64 {k:Nat}(h:k<2^62):IntKind.i64.wrap ((k:Int)+1)=(k:Int)+1:=Bq (by omega) (by omega)
theorem vg:Aw []=fun _=>none:=by funext i;rfl
theorem lQ (H H':List Ob):PN [] H H'=H:=by
 unfold PN
 apply List.ext_getElem (by simp)
 intro i h1 h2
 simp[Aw,h2]
theorem gB (H H':List Ob):takeB [] H H'=H++H'.map (A5 fun i=>some (H.length+i)):=by
 unfold takeB
 rw[lQ]
 have:BT [] H.length=fun i=>some (H.length+i):=by funext i;simp[BT]
 rw[this];simp
section
variable {N:Nat->C} {B:Nat} {s:List K} {t:T} {H:List Ob} {Q:X->T->List Ob->Prop}
theorem Za {d:Option Nat}{l:List S}{f:Nat}{vs:List V}{x:V}{H1:List Ob}(h:Spec prog f (AP (fun _=>none) vs) [] fun x' H'=>x'=x/\H'=H1)
  (k:Run prog N B (.r l::s) (Ez d (ren (fun i=>some (H.length+i)) x) t) (H++H1.map (A5 fun i=>some (H.length+i))) Q):Bt prog N B d l s t Q (.func f) vs H:=by
 refine Bt.some [] List.nodup_nil (fun i hi=>by cases hi) (R:=fun x' H'=>x'=x/\H'=H1) (by rw[vg];exact h) ?_
 rintro x' H' ⟨rfl,rfl⟩ _
 rw[gB]
 have:BT [] H.length=fun i=>some (H.length+i):=by funext i;simp[BT]
 rw[this];exact k
end
end Go.Dw
end
section
namespace Go.Dw
mutual
def size:Term->Nat
 | .mk _ _ l=>1+Ab l
def Ab:List Term->Nat
 | []=>0
 | a::l=>size a+Ab l
end
theorem Cb (a b:List Term):Ab (a++b)=Ab a+Ab b:=by
 induction a with
 | nil=>simp[Ab]
 | cons x xs ih=>simp[Ab,ih];omega
theorem AH (t:Term):size t=1+Ab t.args:=by cases t;simp[size,Term.args]
theorem Fg (l:List Term)(k:Nat)(h:k<l.length):Ab (l.take (k+1))=Ab (l.take k)+size (l.getD k default):=by
 rw[A9 h,Cb];simp[Ab]
theorem Ek (l:List Term)(k:Nat):Ab (l.take k)<=Ab l:=by
 conv=>rhs;rw[<-List.take_append_drop k l]
 rw[Cb];omega
theorem Bp {l:List Term}{a:Term}(h:a∈l):size a<=Ab l:=by
 induction l with
 | nil=>cases h
 | cons x xs ih=>rcases List.mem_cons.1 h with rfl | h <;> simp[Ab];have:=ih h;omega
theorem Ai (l:List Term):l.length<=Ab l:=by
 induction l with
 | nil=>simp
 | cons x xs ih=>simp only[Ab,List.length_cons];have:=AH x;omega
theorem Af {p:Term->Prop}(h:∀ t,(∀ a∈t.args,p a)->p t)(t:Term):p t:=by
 have:∀ n t,size t<=n->p t:=by
  intro n
  induction n with
  | zero=>intro t ht;have:=AH t;omega
  | succ n ih =>
   intro t ht
   refine h t fun a ha=>ih a ?_
   have:=AH t
   have:=Bp ha
   omega
 exact this (size t) t (Nat.le_refl _)
def eqf {α β:Type}(f:α->β->Bool):List α->List β->Bool
 | [],[]=>true
 | a::l,b::m=>f a b && eqf f l m
 | _,_=>false
theorem jK {α β:Type}{f:α->β->Bool}:∀ {l:List α} {m:List β},eqf f l m=true->l.length=m.length
 | [],[],_=>rfl
 | a::l,b::m,h=>by simp only[eqf,Bool.and_eq_true]at h;simp[jK h.2]
 | [],_::_,h=>by cases h
 | _::_,[],h=>by cases h
mutual
def teq:Term->Term->Bool
 | .mk n v l,.mk n' v' l'=>n == n' && v == v' && gR l l'
def gR:List Term->List Term->Bool
 | [],[]=>true
 | a::l,b::m=>teq a b && gR l m
 | _,_=>false
end
mutual
theorem bh:∀ a b:Term,teq a b=true↔a=b
 | .mk n v l,.mk n' v' l'=>by simp[teq,eY l l',and_assoc]
theorem eY:∀ a b:List Term,gR a b=true↔a=b
 | [],[]=>by simp[gR]
 | a::l,b::m=>by simp[gR,bh a b,eY l m]
 | [],_::_=>by simp[gR]
 | _::_,[]=>by simp[gR]
end
instance:DecidableEq Term:=fun a b=>if h:teq a b=true then .isTrue ((bh a b).1 h) else .isFalse fun e=>h ((bh a b).2 e)
theorem qQ {f:Term->Term->Bool}:∀ {l m:List Term},(∀ a∈l,∀ b,f a b=decide (a=b))->eqf f l m=decide (l=m)
 | [],[],_=>rfl
 | a::l,b::m,h=>by
  simp only[eqf,h a (by simp) b,qQ (l:=l) (m:=m) fun x hx=>h x (by simp[hx])]
  simp
 | [],_::_,_=>rfl
 | _::_,[],_=>rfl
theorem UT (a b:Term):a=b↔a.name=b.name/\a.var=b.var/\a.args=b.args:=by cases a;cases b;simp[Term.name,Term.var,Term.args]
end Go.Dw
end
section
namespace Go.Dw
def cU8 (c:UInt8):List V:=[.int .u8 c.toNat]
def cS (s:Str):List V:=[.str s]
def cI (n:Int):List V:=[.int .i64 n]
theorem qI (s:Str):(.sl 1 (s.map fun c=>[V.int .u8 c.toNat]):V)=Dz cU8 1 s:=rfl
theorem YL (c:UInt8):(cU8 c)[0]?=some (.int .u8 c.toNat):=rfl
theorem lZ (s:Str):(cS s)[0]?=some (.str s):=rfl
theorem Acp (n:Int):(cI n)[0]?=some (.int .i64 n):=rfl
theorem vX (s:UInt8):(cU8 s).length=1:=rfl
theorem yD (s:Str):(cS s).length=1:=rfl
theorem xE (s:Int):(cI s).length=1:=rfl
abbrev Bl (l:List Str):V:=Dz cS 1 l
abbrev Hk (l:List Int):V:=Dz cI 1 l
structure A2 where
 left:Term
 right:Term
 deriving Inhabited,DecidableEq
def cR (r:A2):List V:=cT r.left++cT r.right
def JL (r:A2):V:=.agg (cR r)
abbrev Aj (l:List A2):V:=Dz cR 6 l
structure A6 where
 name:Str
 term:Term
 deriving Inhabited,DecidableEq
def cB (b:A6):List V:=.str b.name::cT b.term
def Wh (b:A6):V:=.agg (cB b)
abbrev Bf (l:List A6):V:=Dz cB 4 l
structure Xt where
 rule:Int
 pos:List Int
 deriving Inhabited,DecidableEq
def cSt (s:Xt):List V:=[.int .i64 s.rule,Hk s.pos]
def ez (s:Xt):V:=.agg (cSt s)
abbrev fS (l:List Xt):V:=Dz cSt 2 l
structure ax where
 start:Term
 steps:List Xt
 deriving Inhabited,DecidableEq
def cC (c:ax):List V:=cT c.start++[fS c.steps]
def nn (c:ax):V:=.agg (cC c)
structure cq where
 src:Int
 dst:Int
 step:Xt
 deriving Inhabited,DecidableEq
def cEd (e:cq):List V:=.int .i64 e.src::.int .i64 e.dst::cSt e.step
def cY (e:cq):V:=.agg (cEd e)
abbrev py (l:List cq):V:=Dz cEd 4 l
structure gg where
 terms:List Term
 edges:List cq
 whole:Bool
 deriving Inhabited,DecidableEq
def cG (g:gg):List V:=[Bd g.terms,py g.edges,.bool g.whole]
def nu (g:gg):V:=.agg (cG g)
structure qJ where
 chain:ax
 pos:List Int
 subst:List A6
 deriving Inhabited,DecidableEq
def cL (l:qJ):List V:=cC l.chain++[Hk l.pos,Bf l.subst]
def co (l:qJ):V:=.agg (cL l)
section
variable (r:A2) (b:A6) (s:Xt) (c:ax) (e:cq) (g:gg) (l:qJ) {σ:Nat->Option Nat}
theorem yi:(cR r).length=6:=rfl
theorem yB:(cB b).length=4:=rfl
theorem tF:(cSt s).length=2:=rfl
theorem zT:(cC c).length=4:=rfl
theorem vW:(cEd e).length=4:=rfl
theorem Aaf:(cG g).length=3:=rfl
theorem yg:(cL l).length=6:=rfl
theorem qu:sto (JL r)=some (cR r):=rfl
theorem pP:sto (Wh b)=some (cB b):=rfl
theorem li:sto (ez s)=some (cSt s):=rfl
theorem si:sto (nn c)=some (cC c):=rfl
theorem kp:sto (cY e)=some (cEd e):=rfl
theorem pT:sto (nu g)=some (cG g):=rfl
theorem ku:sto (co l)=some (cL l):=rfl
theorem jP:AP σ (cR r)=cR r:=rfl
theorem iH:AP σ (cB b)=cB b:=rfl
theorem bP:AP σ (cSt s)=cSt s:=rfl
theorem kg:AP σ (cC c)=cC c:=rfl
theorem cW:AP σ (cEd e)=cEd e:=rfl
theorem jh:AP σ (cG g)=cG g:=rfl
theorem ja:AP σ (cL l)=cL l:=rfl
theorem sq:ren σ (JL r)=JL r:=by unfold JL;rw[Gi,jP]
theorem su:ren σ (Wh b)=Wh b:=by unfold Wh;rw[Gi,iH]
theorem mK:ren σ (ez s)=ez s:=by unfold ez;rw[Gi,bP]
theorem nM:ren σ (nn c)=nn c:=by unfold nn;rw[Gi,kg]
theorem mt:ren σ (cY e)=cY e:=by unfold cY;rw[Gi,cW]
theorem qY:ren σ (nu g)=nu g:=by unfold nu;rw[Gi,jh]
theorem kX:ren σ (co l)=co l:=by unfold co;rw[Gi,ja]
theorem mB:V.agg (cR r)=JL r:=rfl
theorem ky:V.agg (cB b)=Wh b:=rfl
theorem fQ:V.agg (cSt s)=ez s:=rfl
theorem lu:V.agg (cC c)=nn c:=rfl
theorem ig:V.agg (cEd e)=cY e:=rfl
theorem kw:V.agg (cG g)=nu g:=rfl
theorem gl:V.agg (cL l)=co l:=rfl
theorem vj:sub 0 3 (cR r)=cT r.left:=rfl
theorem vP:sub 3 3 (cR r)=cT r.right:=rfl
theorem vR:sub 0 6 (cR r)=cR r:=rfl
theorem Ab9:(cB b)[0]?=some (.str b.name):=rfl
theorem wm:sub 1 3 (cB b)=cT b.term:=rfl
theorem tJ:sub 0 4 (cB b)=cB b:=rfl
theorem Abb:(cSt s)[0]?=some (.int .i64 s.rule):=rfl
theorem Aby:(cSt s)[1]?=some (Hk s.pos):=rfl
theorem rS:sub 0 2 (cSt s)=cSt s:=rfl
theorem ur:sub 0 3 (cC c)=cT c.start:=rfl
theorem Acc:(cC c)[3]?=some (fS c.steps):=rfl
theorem wt:sub 0 4 (cC c)=cC c:=rfl
theorem AbN:(cEd e)[0]?=some (.int .i64 e.src):=rfl
theorem AbB:(cEd e)[1]?=some (.int .i64 e.dst):=rfl
theorem oy:sub 2 2 (cEd e)=cSt e.step:=rfl
theorem pn:sub 0 4 (cEd e)=cEd e:=rfl
theorem Ach:(cG g)[0]?=some (Bd g.terms):=rfl
theorem Acr:(cG g)[1]?=some (py g.edges):=rfl
theorem Ab6:(cG g)[2]?=some (.bool g.whole):=rfl
theorem vo:sub 0 3 (cG g)=cG g:=rfl
theorem ti:sub 0 4 (cL l)=cC l.chain:=rfl
theorem uO:sub 0 3 (cL l)=cT l.chain.start:=rfl
theorem Ab4:(cL l)[3]?=some (fS l.chain.steps):=rfl
theorem AbY:(cL l)[4]?=some (Hk l.pos):=rfl
theorem Aco:(cL l)[5]?=some (Bf l.subst):=rfl
theorem uT:sub 0 6 (cL l)=cL l:=rfl
theorem AbV:fdV 0 none (Wh b)=some (.str b.name):=rfl
theorem Aca:fdV 1 (some 3) (Wh b)=some (Ao b.term):=rfl
end
attribute [push_cast] qI YL lZ Acp vX yD xE yi yB tF zT vW Aaf yg qu pP li si kp pT ku jP iH bP kg cW jh ja sq su mK nM mt qY kX mB ky fQ lu ig kw gl vj vP vR Ab9 wm tJ Abb Aby rS ur Acc wt AbN AbB oy pn Ach Acr Ab6 vo ti uO Ab4 AbY Aco uT AbV Aca
def Kd {α:Type}(p:α->Bool):List α->Int
 | []=>-1
 | a::l=>if p a then 0 else if Kd p l<0 then -1 else Kd p l+1
theorem XJ {α:Type}(p:α->Bool):∀ l:List α,(Kd p l=-1/\l.any p=false)\/(0<=Kd p l/\Kd p l<l.length/\l.any p=true)
 | []=>.inl ⟨rfl,rfl⟩
 | a::l=>by
  simp only[Kd,List.any_cons,List.length_cons]
  cases hp:p a with
  | true=>right;simp
  | false =>
   rcases XJ p l with ⟨h1,h2⟩ | ⟨h1,h2,h3⟩
   ·left;simp[h1,h2]
   ·right;simp only[Bool.false_eq_true,if_false,h3];rw[if_neg (by omega)];simp;omega
theorem Nh {α:Type}(p:α->Bool)(l:List α):decide (0<=Kd p l)=l.any p:=by
 rcases XJ p l with ⟨h1,h2⟩ | ⟨h1,h2,h3⟩
 ·rw[h1,h2];rfl
 ·rw[h3];simp[h1]
theorem Gj {α:Type}[Inhabited α]{p:α->Bool}:∀ {l:List α} {k:Nat},k<l.length->p (l.getD k default)=true->(∀ j,j<k->p (l.getD j default)=false)->Kd p l=k
 | [],k,hk,_,_=>by simp at hk
 | a::l,0,hk,hp,_=>by simp only[Kd];rw[if_pos (by simpa using hp)];rfl
 | a::l,k+1,hk,hp,hq=>by
  have h0:p a=false:=hq 0 (by omega)
  have:=Gj (l:=l) (k:=k) (by simpa using hk) (by simpa using hp) fun j hj=>by have:=hq (j+1) (by omega);simpa using this
  simp only[Kd,h0,Bool.false_eq_true,if_false,this]
  rw[if_neg (by omega)];omega
theorem HC {α:Type}[Inhabited α]{p:α->Bool}:∀ {l:List α},(∀ j,j<l.length->p (l.getD j default)=false)->Kd p l=-1
 | [],_=>rfl
 | a::l,hq=>by
  have h0:p a=false:=hq 0 (by simp)
  have:=HC (l:=l) fun j hj=>by have:=hq (j+1) (by simpa using hj);simpa using this
  simp[Kd,h0,this]
end Go.Dw
end
section
namespace Go.Dw
variable {s:List K} {B:Nat} {t:T} {H:List Ob} {Q:X->T->List Ob->Prop}
namespace Gz
def nd (_:Nat):C:=.skip
def body:C:=.R [.Z 4 A7 1,.Z 5 A7 2,.mv 6 (.c (.bool false))] (.R [.A 16 0,.E 17 4 4,.E 18 4 5,.U 19 Do [.s 16,.s 17,.s 18],.A 15 19,.F 20 15 0,.F 21 15 1,.al 7 A7 [.int .i64 0,.str [],.bool false,.sl 4 []],.L 7 4 20,.A 8 21] (.R [.A 23 0,.E 24 4 4,.E 25 4 5,.U 26 J6 [.s 23,.s 24,.s 25],.A 22 26,.F 27 22 0,.F 28 22 1,.al 9 A7 [.int .i64 0,.str [],.bool false,.sl 4 []],.L 9 4 27,.A 10 28] (.R [.A 30 0,.E 31 4 4,.E 32 4 5,.U 33 KS [.s 30,.s 31,.s 32],.A 29 33,.F 34 29 0,.F 35 29 1,.al 11 A7 [.int .i64 0,.str [],.bool false,.sl 4 []],.L 11 4 34,.A 12 35] (.R [.A 37 0,.E 38 4 4,.E 39 4 5,.U 40 P1 [.s 37,.s 38,.s 39],.A 36 40,.F 41 36 0,.F 42 36 1,.al 13 A7 [.int .i64 0,.str [],.bool false,.sl 4 []],.L 13 4 41,.A 14 42] (.R [.A 43 8,.A 44 12,.V 45 .eql 43 44,.A 46 45,.P 46 true [47,48,49] [.A 47 10,.A 48 14,.V 49 .eql 47 48],.N 50 46 49,.A 51 50,.P 51 true [52,53,54] [.E 52 4 7,.E 53 4 11,.U 54 Hd [.s 52,.s 53]],.N 55 51 54,.A 56 55,.P 56 true [57,58,59] [.E 57 4 9,.E 58 4 13,.U 59 Hd [.s 57,.s 58]],.N 60 56 59,.A 61 60,.P 61 true [62] [.U 62 PS []],.N 63 61 62,.A 6 63] (.ret))))))
def rs:List RV:=[.t 6]
attribute [push_cast] nd body
theorem ok:okF prog II nd body 3 rs=true:=by kernel_rfl
end Gz
namespace E2
def nd:Nat->C
 | 0=>.R [.A 17 0,.E 18 4 4,.E 19 4 5,.U 20 Bn [.s 17,.s 18,.s 19],.U 21 LP [.s 20],.F 22 21 0,.F 23 21 1,.K 4 6 22,.A 7 23] (.ret)
 | _=>.skip
def body:C:=.R [.Z 4 A7 1,.Z 5 A7 2,.al 6 A7 [.int .i64 0,.str [],.bool false,.sl 4 []],.mv 7 (.i 0)] (.seq (.R [.A 9 0,.E 10 4 4,.E 11 4 5,.U 12 GW [.s 9,.s 10,.s 11],.A 8 12] (.R [.A 13 8,.J 14 13] (.W 14 (.R [.bd 15 [.int .i64 0,.str [],.bool false,.sl 4 []] [],.A 16 8,.K 4 6 15,.A 7 16] (.ret)) (.skip)))) (.n 0))
def rs:List RV:=[.a 6 4,.t 7]
attribute [push_cast] nd body
theorem ok:okF prog Do nd body 3 rs=true:=by kernel_rfl
end E2
namespace TA
def nd (_:Nat):C:=.skip
def body:C:=.R [.mv 0 (.c (.bool false))] (.R [.bd 7 [.int .i64 0,.str [],.bool false,.sl 4 []] [(1,1,(.c (.str [97])))],.bs 8 4 [.s 7],.bd 9 [.int .i64 0,.str [],.bool false,.sl 4 []] [(0,1,(.i 1)),(3,1,(.s 8))],.al 1 A7 [.int .i64 0,.str [],.bool false,.sl 4 []],.L 1 4 9] (.R [.bd 10 [.int .i64 0,.str [],.bool false,.sl 4 []] [(0,1,(.i 2))],.bs 11 4 [.s 10],.bd 12 [.int .i64 0,.str [],.bool false,.sl 4 []] [(1,1,(.c (.str [102]))),(3,1,(.s 11))],.al 2 A7 [.int .i64 0,.str [],.bool false,.sl 4 []],.L 2 4 12] (.seq (.dr [0,1,2,3,4,5,6,7,8,9] [.U 14 Kt [],.E 15 4 1,.E 16 4 2,.U 17 Do [.s 14,.s 15,.s 16],.A 13 17,.F 18 13 0,.F 19 13 1,.al 3 A7 [.int .i64 0,.str [],.bool false,.sl 4 []],.L 3 4 18,.A 4 19]) (.seq (.dr [0,1,2,3,4,5,6,7,8,9] [.U 21 Kt [],.E 22 4 2,.E 23 4 1,.U 24 Do [.s 21,.s 22,.s 23],.A 20 24,.F 25 20 0,.F 26 20 1,.al 5 A7 [.int .i64 0,.str [],.bool false,.sl 4 []],.L 5 4 25,.A 6 26]) (.R [.A 27 4,.X 28 .eql 27 0,.A 29 28,.P 29 true [30,31] [.A 30 6,.X 31 .eql 30 0],.N 32 29 31,.A 33 32,.P 33 true [34,35,36,37,38] [.E 34 4 3,.bd 35 [.int .i64 0,.str [],.bool false,.sl 4 []] [(1,1,(.c (.str [98])))],.bs 36 4 [.s 35],.bd 37 [.int .i64 0,.str [],.bool false,.sl 4 []] [(0,1,(.i 1)),(3,1,(.s 36))],.U 38 Hd [.s 34,.s 37]],.N 39 33 38,.A 40 39,.P 40 true [41,42,43,44,45,46] [.E 41 4 5,.bd 42 [.int .i64 0,.str [],.bool false,.sl 4 []] [(0,1,(.i 2))],.bd 43 [.int .i64 0,.str [],.bool false,.sl 4 []] [(0,1,(.i 2))],.bs 44 4 [.s 42,.s 43],.bd 45 [.int .i64 0,.str [],.bool false,.sl 4 []] [(1,1,(.c (.str [103]))),(3,1,(.s 44))],.U 46 Hd [.s 41,.s 45]],.N 47 40 46,.A 0 47] (.ret))))))
def rs:List RV:=[.t 0]
attribute [push_cast] nd body
theorem ok:okF prog PS nd body 0 rs=true:=by kernel_rfl
end TA
namespace OX
def nd:Nat->C
 | 0=>.R [.mv 4 (.c (.bool true))] (.ret)
 | 1=>.gh [.ks 0 [2,3,36,37]] (.m 3)
 | 2=>.seq (.blk 1 (.R [.A 39 37,.A 5 39] (.seq (.dr [0,1,2,3,4,5,6,7,8,9,10,11] [.D 40 3 2,.B 41 40,.A 42 5,.G 43 4 41 42,.E 44 4 43,.D 45 3 3,.B 46 45,.A 47 5,.G 48 4 46 47,.E 49 4 48,.U 50 Hd [.s 44,.s 49],.Q 51 50]) (.W 51 (.R [.mv 4 (.c (.bool false))] (.ret)) (.skip))))) (.reg [.X 52 .add 37 1,.A 37 52])
 | 3=>.R [.V 38 .lss 37 36] (.seq (.W 38 (.skip) (.exit 0)) (.n 2))
 | 4=>.seq (.R [.D 34 3 2,.B 35 34,.Y 36 35,.mv 37 (.i 0)] (.blk 0 (.loop (.n 1)))) (.n 0)
 | _=>.skip
def body:C:=.R [.Z 2 A7 0,.Z 3 A7 1,.mv 4 (.c (.bool false))] (.seq (.R [.D 6 0 2,.B 7 6,.D 8 0 3,.B 9 8,.V 10 .neq 7 9,.A 11 10,.P 11 false [12,13,14,15,16] [.D 12 1 2,.B 13 12,.D 14 1 3,.B 15 14,.V 16 .neq 13 15],.M 17 11 16,.A 18 17,.P 18 false [19,20,21,22,23] [.D 19 2 2,.B 20 19,.D 21 2 3,.B 22 21,.bb 23 .neq (.s 20) (.s 22)],.M 24 18 23,.A 25 24,.P 25 false [26,27,28,29,30,31,32] [.D 26 3 2,.B 27 26,.Y 28 27,.D 29 3 3,.B 30 29,.Y 31 30,.V 32 .neq 28 31],.M 33 25 32] (.W 33 (.R [.mv 4 (.c (.bool false))] (.ret)) (.skip))) (.n 4))
def rs:List RV:=[.t 4]
attribute [push_cast] nd body
theorem ok:okF prog Hd nd body 2 rs=true:=by kernel_rfl
abbrev L3 (a b c d:V)(B:Nat)(H:LOb)(Q:QX):Prop:=Run prog nd B [.c (.m 3),.c (.loop (.n 1)),.mk 0,.c (.n 0)] [(2,a),(3,b),(36,c),(37,d)] H Q
end OX
namespace FQ
def nd:Nat->C
 | 0=>.R [.A 17 0,.E 18 4 4,.E 19 4 5,.U 20 BJ [.s 17,.s 18,.s 19],.U 21 LP [.s 20],.F 22 21 0,.F 23 21 1,.K 4 6 22,.A 7 23] (.ret)
 | _=>.skip
def body:C:=.R [.Z 4 A7 1,.Z 5 A7 2,.al 6 A7 [.int .i64 0,.str [],.bool false,.sl 4 []],.mv 7 (.i 0)] (.seq (.R [.A 9 0,.E 10 4 4,.E 11 4 5,.U 12 GW [.s 9,.s 10,.s 11],.A 8 12] (.R [.A 13 8,.J 14 13] (.W 14 (.R [.bd 15 [.int .i64 0,.str [],.bool false,.sl 4 []] [],.A 16 8,.K 4 6 15,.A 7 16] (.ret)) (.skip)))) (.n 0))
def rs:List RV:=[.a 6 4,.t 7]
attribute [push_cast] nd body
theorem ok:okF prog J6 nd body 3 rs=true:=by kernel_rfl
end FQ
namespace Io
def nd:Nat->C
 | 0=>.R [.E 29 4 9,.K 4 6 29,.mv 7 (.i 0)] (.ret)
 | 1=>.R [.A 20 0,.E 21 4 4,.E 22 4 5,.U 23 NA [.s 20,.s 21,.s 22],.A 19 23,.F 24 19 0,.F 25 19 1,.al 9 A7 [.int .i64 0,.str [],.bool false,.sl 4 []],.L 9 4 24,.A 10 25] (.seq (.R [.A 26 10,.Q 27 26] (.W 27 (.R [.bd 28 [.int .i64 0,.str [],.bool false,.sl 4 []] [],.K 4 6 28,.mv 7 (.i 3)] (.ret)) (.skip))) (.n 0))
 | _=>.skip
def body:C:=.R [.Z 4 A7 1,.Z 5 A7 2,.al 6 A7 [.int .i64 0,.str [],.bool false,.sl 4 []],.mv 7 (.i 0)] (.seq (.R [.A 11 0,.E 12 4 4,.E 13 4 5,.U 14 GP [.s 11,.s 12,.s 13],.A 8 14] (.R [.A 15 8,.J 16 15] (.W 16 (.R [.bd 17 [.int .i64 0,.str [],.bool false,.sl 4 []] [],.A 18 8,.K 4 6 17,.A 7 18] (.ret)) (.skip)))) (.n 1))
def rs:List RV:=[.a 6 4,.t 7]
attribute [push_cast] nd body
theorem ok:okF prog KS nd body 3 rs=true:=by kernel_rfl
end Io
namespace N8
def nd:Nat->C
 | 0=>.R [.E 26 4 9,.K 4 6 26,.mv 7 (.i 0)] (.ret)
 | 1=>.R [.A 18 0,.E 19 4 4,.E 20 4 5,.U 21 EQ [.s 18,.s 19,.s 20],.al 9 A7 [.int .i64 0,.str [],.bool false,.sl 4 []],.L 9 4 21] (.seq (.R [.E 22 4 9,.U 23 Mg [.s 22],.Q 24 23] (.W 24 (.R [.bd 25 [.int .i64 0,.str [],.bool false,.sl 4 []] [],.K 4 6 25,.mv 7 (.i 3)] (.ret)) (.skip))) (.n 0))
 | _=>.skip
def body:C:=.R [.Z 4 A7 1,.Z 5 A7 2,.al 6 A7 [.int .i64 0,.str [],.bool false,.sl 4 []],.mv 7 (.i 0)] (.seq (.R [.A 10 0,.E 11 4 4,.E 12 4 5,.U 13 GP [.s 10,.s 11,.s 12],.A 8 13] (.R [.A 14 8,.J 15 14] (.W 15 (.R [.bd 16 [.int .i64 0,.str [],.bool false,.sl 4 []] [],.A 17 8,.K 4 6 16,.A 7 17] (.ret)) (.skip)))) (.n 1))
def rs:List RV:=[.a 6 4,.t 7]
attribute [push_cast] nd body
theorem ok:okF prog P1 nd body 3 rs=true:=by kernel_rfl
end N8
namespace TR
def nd (_:Nat):C:=.skip
def body:C:=.R [.Z 2 A3 0,.Z 3 A3 1,.mv 4 (.c (.bool false))] (.R [.E 5 3 2,.E 6 3 3,.U 7 Jr [.s 5,.s 6],.X 8 .eql 7 0,.A 4 8] (.ret))
def rs:List RV:=[.t 4]
attribute [push_cast] nd body
theorem ok:okF prog OZ nd body 2 rs=true:=by kernel_rfl
end TR
namespace En
def nd:Nat->C
 | 0=>.R [.A 43 10,.A 6 43] (.ret)
 | 1=>.R [.A 29 0,.E 30 4 5,.U 31 GR [.s 29,.s 30],.A 28 31,.F 32 28 0,.F 33 28 1,.F 34 28 2,.al 11 A3 [.str [],.bool false,.sl 3 []],.al 12 A3 [.str [],.bool false,.sl 3 []],.L 11 3 32,.L 12 3 33,.A 10 34] (.seq (.R [.A 35 10,.X 36 .eql 35 0,.A 37 36,.P 37 true [38,39,40,41] [.E 38 3 8,.E 39 3 11,.U 40 Ia [.s 38,.s 39],.Q 41 40],.N 42 37 41] (.W 42 (.R [.mv 6 (.i 9)] (.ret)) (.skip))) (.n 0))
 | 2=>.R [.A 19 0,.E 20 4 4,.U 21 GR [.s 19,.s 20],.A 18 21,.F 22 18 0,.F 23 18 1,.F 24 18 2,.al 8 A3 [.str [],.bool false,.sl 3 []],.al 9 A3 [.str [],.bool false,.sl 3 []],.L 8 3 22,.L 9 3 23,.A 10 24] (.seq (.R [.A 25 10,.J 26 25] (.W 26 (.R [.A 27 10,.A 6 27] (.ret)) (.skip))) (.n 1))
 | _=>.skip
def body:C:=.R [.Z 4 A7 1,.Z 5 A7 2,.mv 6 (.i 0)] (.seq (.R [.A 13 0,.U 14 J5 [.s 13],.A 7 14] (.R [.A 15 7,.J 16 15] (.W 16 (.R [.A 17 7,.A 6 17] (.ret)) (.skip)))) (.n 2))
def rs:List RV:=[.t 6]
attribute [push_cast] nd body
theorem ok:okF prog GW nd body 3 rs=true:=by kernel_rfl
end En
namespace N5
def nd:Nat->C
 | 0=>.R [.E 13 4 1,.U 14 Me [.s 13],.K 4 2 14,.mv 3 (.i 0)] (.ret)
 | _=>.skip
def body:C:=.R [.Z 1 A7 0,.al 2 A7 [.int .i64 0,.str [],.bool false,.sl 4 []],.mv 3 (.i 0)] (.seq (.R [.E 4 4 1,.U 5 Ig [.s 4],.X 6 .gtr 5 4000,.A 7 6,.P 7 false [8,9,10] [.E 8 4 1,.U 9 GE [.s 8],.X 10 .gtr 9 200],.M 11 7 10] (.W 11 (.R [.bd 12 [.int .i64 0,.str [],.bool false,.sl 4 []] [],.K 4 2 12,.mv 3 (.i 3)] (.ret)) (.skip))) (.n 0))
def rs:List RV:=[.a 2 4,.t 3]
attribute [push_cast] nd body
theorem ok:okF prog LP nd body 1 rs=true:=by kernel_rfl
end N5
namespace Eg
def nd:Nat->C
 | 0=>.seq (.dr [0,1,2,3,4,5,6,7,8,9,10,11,12,13,14,15,16] [.B 39 3,.A 40 7,.X 41 .sub 40 1,.G 42 6 39 41,.D 43 3 42,.E 44 3 43,.B 45 3,.A 46 7,.X 47 .sub 46 1,.G 48 6 45 47,.D 49 0 48,.E 50 3 49,.bs 51 3 [.s 50],.U 52 D2 [.s 51],.A 53 10,.U 54 Ku [.s 44,.s 52,.s 53],.K 4 6 54]) (.ret)
 | _=>.skip
def body:C:=.R [.Z 3 Pn 0,.Z 4 A7 1,.Z 5 A7 2,.al 6 A7 [.int .i64 0,.str [],.bool false,.sl 4 []]] (.R [.B 12 3,.E 13 4 4,.E 14 4 5,.U 15 EB [.s 12,.s 13,.s 14],.A 11 15,.F 16 11 0,.F 17 11 1,.F 18 11 2,.A 7 16,.A 8 17,.A 9 18] (.R [.A 19 8,.A 20 9,.mf 21 Db [] [.s 3],.U 22 If [.s 19,.s 20,.s 21],.A 10 22] (.seq (.blk 0 (.R [.A 24 7,.X 25 .eql 24 0,.A 23 25] (.W 23 (.R [.D 26 1 4,.B 27 26,.D 28 2 4,.B 29 28,.A 30 10,.bd 31 [.int .i64 0,.str [],.bool false,.sl 4 []] [(1,1,(.s 27)),(2,1,(.s 29)),(3,1,(.s 30))],.K 4 6 31] (.ret)) (.R [.D 33 0 5,.B 34 33,.X 35 .eql 34 0,.A 32 35] (.W 32 (.R [.A 36 7,.A 37 10,.bd 38 [.int .i64 0,.str [],.bool false,.sl 4 []] [(0,1,(.s 36)),(3,1,(.s 37))],.K 4 6 38] (.ret)) (.skip)))))) (.n 0))))
def rs:List RV:=[.a 6 4]
attribute [push_cast] nd body
theorem ok:okF prog Bn nd body 3 rs=true:=by kernel_rfl
end Eg
namespace Rm
def nd (_:Nat):C:=.skip
def body:C:=.R [.mv 0 (.c (.sl 6 []))] (.R [.bd 2 [.str [],.bool false,.sl 3 []] [(0,1,(.c (.str [120]))),(1,1,(.c (.bool true)))],.al 1 A3 [.str [],.bool false,.sl 3 []],.L 1 3 2] (.R [.E 3 3 1,.bs 4 3 [.s 3],.bd 5 [.str [],.bool false,.sl 3 []] [(0,1,(.c (.str [102]))),(2,1,(.s 4))],.E 6 3 1,.E 7 3 1,.bs 8 3 [.s 6,.s 7],.bd 9 [.str [],.bool false,.sl 3 []] [(0,1,(.c (.str [103]))),(2,1,(.s 8))],.bd 10 [.str [],.bool false,.sl 3 [],.str [],.bool false,.sl 3 []] [(0,3,(.s 5)),(3,3,(.s 9))],.bd 11 [.str [],.bool false,.sl 3 []] [(0,1,(.c (.str [97])))],.bd 12 [.str [],.bool false,.sl 3 []] [(0,1,(.c (.str [98])))],.bd 13 [.str [],.bool false,.sl 3 [],.str [],.bool false,.sl 3 []] [(0,3,(.s 11)),(3,3,(.s 12))],.bs 14 6 [.s 10,.s 13],.A 0 14] (.ret)))
def rs:List RV:=[.t 0]
attribute [push_cast] nd body
theorem ok:okF prog Kt nd body 0 rs=true:=by kernel_rfl
end Rm
namespace Gd
def nd:Nat->C
 | 0=>.R [.A 31 7,.A 32 10,.bd 33 [.int .i64 0,.str [],.bool false,.sl 4 []] [(0,1,(.s 31)),(3,1,(.s 32))],.K 4 6 33] (.ret)
 | _=>.skip
def body:C:=.R [.Z 3 Pn 0,.Z 4 A7 1,.Z 5 A7 2,.al 6 A7 [.int .i64 0,.str [],.bool false,.sl 4 []]] (.R [.B 12 3,.E 13 4 4,.E 14 4 5,.U 15 EB [.s 12,.s 13,.s 14],.A 11 15,.F 16 11 0,.F 17 11 1,.F 18 11 2,.A 7 16,.A 8 17,.A 9 18] (.R [.A 19 8,.A 20 9,.mf 21 DI [] [.s 3],.U 22 If [.s 19,.s 20,.s 21],.A 10 22] (.seq (.R [.A 23 7,.X 24 .eql 23 0] (.W 24 (.R [.D 25 1 4,.B 26 25,.D 27 2 4,.B 28 27,.A 29 10,.bd 30 [.int .i64 0,.str [],.bool false,.sl 4 []] [(1,1,(.s 26)),(2,1,(.s 28)),(3,1,(.s 29))],.K 4 6 30] (.ret)) (.skip))) (.n 0))))
def rs:List RV:=[.a 6 4]
attribute [push_cast] nd body
theorem ok:okF prog BJ nd body 3 rs=true:=by kernel_rfl
end Gd
namespace Em
def nd:Nat->C
 | 0=>.R [.mv 6 (.i 0)] (.ret)
 | 1=>.R [.A 36 0,.E 37 4 4,.U 38 J2 [.s 36,.s 37,(.c (.bool false))],.A 35 38,.F 39 35 0,.F 40 35 1,.al 11 A3 [.str [],.bool false,.sl 3 []],.L 11 3 39,.A 12 40] (.R [.A 42 0,.E 43 4 5,.U 44 J2 [.s 42,.s 43,(.c (.bool false))],.A 41 44,.F 45 41 0,.F 46 41 1,.al 13 A3 [.str [],.bool false,.sl 3 []],.L 13 3 45,.A 14 46] (.seq (.R [.E 47 3 11,.E 48 3 13,.U 49 OZ [.s 47,.s 48],.Q 50 49] (.W 50 (.R [.mv 6 (.i 9)] (.ret)) (.skip))) (.n 0)))
 | 2=>.gh [.ks 0 [0,4,5,22,23,24]] (.m 4)
 | 3=>.seq (.blk 1 (.R [.G 26 4 22 24,.E 27 4 26,.al 9 A7 [.int .i64 0,.str [],.bool false,.sl 4 []],.L 9 4 27] (.R [.A 28 0,.E 29 4 9,.U 30 Jd [.s 28,.s 29],.A 10 30] (.R [.A 31 10,.J 32 31] (.W 32 (.R [.A 33 10,.A 6 33] (.ret)) (.skip)))))) (.reg [.X 34 .add 24 1,.A 24 34])
 | 4=>.R [.V 25 .lss 24 23] (.seq (.W 25 (.skip) (.exit 0)) (.n 3))
 | 5=>.seq (.R [.E 20 4 4,.E 21 4 5,.bs 22 4 [.s 20,.s 21],.Y 23 22,.mv 24 (.i 0)] (.blk 0 (.loop (.n 2)))) (.n 1)
 | _=>.skip
def body:C:=.R [.Z 4 A7 1,.Z 5 A7 2,.mv 6 (.i 0)] (.seq (.R [.A 15 0,.U 16 HU [.s 15],.A 7 16] (.R [.A 17 7,.J 18 17] (.W 18 (.R [.A 19 7,.A 6 19] (.ret)) (.skip)))) (.n 5))
def rs:List RV:=[.t 6]
attribute [push_cast] nd body
theorem ok:okF prog GP nd body 3 rs=true:=by kernel_rfl
abbrev L4 (a b c d e f:V)(B:Nat)(H:LOb)(Q:QX):Prop:=Run prog nd B [.c (.m 4),.c (.loop (.n 2)),.mk 0,.c (.n 1)] [(0,a),(4,b),(5,c),(22,d),(23,e),(24,f)] H Q
end Em
namespace No
def nd:Nat->C
 | 0=>.R [.D 17 0 8,.E 18 4 17,.K 4 6 18,.mv 7 (.c (.bool true))] (.ret)
 | _=>.skip
def body:C:=.R [.Z 4 A7 1,.Z 5 A7 2,.al 6 A7 [.int .i64 0,.str [],.bool false,.sl 4 []],.mv 7 (.c (.bool false))] (.R [.A 9 0,.E 10 4 4,.E 11 4 5,.U 12 DJ [.s 9,.s 10,.s 11],.al 8 Ax [.int .i64 0,.str [],.bool false,.sl 4 [],.int .i64 0,.int .i64 0],.L 8 6 12] (.seq (.R [.E 13 6 8,.U 14 PC [.s 13],.Q 15 14] (.W 15 (.R [.bd 16 [.int .i64 0,.str [],.bool false,.sl 4 []] [],.K 4 6 16,.mv 7 (.c (.bool false))] (.ret)) (.skip))) (.n 0)))
def rs:List RV:=[.a 6 4,.t 7]
attribute [push_cast] nd body
theorem ok:okF prog NA nd body 3 rs=true:=by kernel_rfl
end No
namespace DX
def nd:Nat->C
 | 0=>.R [.E 71 4 8,.K 4 6 71] (.ret)
 | 1=>.gh [.ks 5 [0,4,6,7,8,50,51]] (.m 3)
 | 2=>.seq (.blk 1 (.R [.A 53 51,.A 9 53] (.dr [0,1,2,3,4,5,6,7,8,9,10,11,12,13,14,15,16] [.D 54 3 8,.B 55 54,.A 56 0,.D 57 3 4,.B 58 57,.A 59 9,.G 60 4 58 59,.E 61 4 60,.A 62 7,.A 63 9,.G 64 4 62 63,.E 65 4 64,.U 66 EQ [.s 56,.s 61,.s 65],.bs 67 4 [.s 66],.app 68 A7 4 56 (.s 55) (.s 67),.D 69 3 8,.K 1 69 68]))) (.reg [.X 70 .add 51 1,.A 51 70])
 | 3=>.R [.V 52 .lss 51 50] (.seq (.W 52 (.skip) (.exit 0)) (.n 2))
 | 4=>.R [.D 41 0 4,.B 42 41,.D 43 1 4,.B 44 43,.D 45 2 4,.B 46 45,.bd 47 [.int .i64 0,.str [],.bool false,.nil] [(0,1,(.s 42)),(1,1,(.s 44)),(2,1,(.s 46))],.al 8 A7 [.int .i64 0,.str [],.bool false,.nil],.K 4 8 47,.ono A7 4 3 (.s 8)] (.seq (.R [.D 48 3 4,.B 49 48,.Y 50 49,.mv 51 (.i 0)] (.blk 0 (.loop (.n 1)))) (.n 0))
 | 5=>.R [.D 20 3 5,.B 21 20,.A 7 21] (.seq (.R [.D 22 0 4,.B 23 22,.X 24 .gtr 23 0,.A 25 24,.P 25 true [26,27,28] [.D 26 0 5,.B 27 26,.X 28 .eql 27 0],.N 29 25 28] (.W 29 (.dr [0,1,2,3,4,5,6,7,8,9,10,11] [.A 31 0,.D 32 0 4,.B 33 32,.X 34 .sub 33 1,.G 35 6 31 34,.E 36 6 35,.E 37 4 5,.U 38 EO [.s 36,.s 37],.A 30 38,.F 39 30 0,.F 40 30 1,.A 7 39]) (.skip))) (.n 4))
 | _=>.skip
def body:C:=.R [.bx 4 A7 (.s 1),.bx 5 A7 (.s 2),.al 6 A7 [.int .i64 0,.str [],.bool false,.sl 4 []]] (.seq (.R [.D 10 0 4,.B 11 10,.X 12 .eql 11 0,.A 13 12,.P 13 true [14,15,16] [.D 14 0 5,.B 15 14,.X 16 .gtr 15 0],.N 17 13 16] (.W 17 (.reg [.E 18 4 5,.E 19 4 4,.K 4 4 18,.K 4 5 19]) (.skip))) (.n 5))
def rs:List RV:=[.a 6 4]
attribute [push_cast] nd body
theorem ok:okF prog EQ nd body 3 rs=true:=by kernel_rfl
abbrev L3 (a b c d e f g:V)(B:Nat)(H:LOb)(Q:QX):Prop:=Run prog nd B [.c (.m 3),.c (.loop (.n 1)),.mk 0,.c (.n 0)] [(0,a),(4,b),(6,c),(7,d),(8,e),(50,f),(51,g)] H Q
end DX
namespace Qd
def nd (_:Nat):C:=.skip
def body:C:=.R [.Z 1 A7 0,.mv 2 (.c (.bool false))] (.R [.E 6 4 1,.U 7 Oa [.s 6],.A 5 7,.F 8 5 0,.F 9 5 1,.A 3 8,.A 4 9] (.R [.A 10 3,.X 11 .leq 10 4000,.A 12 11,.P 12 true [13,14] [.A 13 4,.X 14 .leq 13 200],.N 15 12 14,.A 2 15] (.ret)))
def rs:List RV:=[.t 2]
attribute [push_cast] nd body
theorem ok:okF prog Mg nd body 1 rs=true:=by kernel_rfl
end Qd
namespace NK
def nd (_:Nat):C:=.skip
def body:C:=.R [.Z 3 A7 1,.al 4 A3 [.str [],.bool false,.sl 3 []],.mv 5 (.i 0)] (.R [.A 6 0,.E 7 4 3,.U 8 M7 [.s 6,.s 7,(.f Gt)],.F 9 8 0,.F 10 8 1,.K 3 4 9,.A 5 10] (.ret))
def rs:List RV:=[.a 4 3,.t 5]
attribute [push_cast] nd body
theorem ok:okF prog Ls nd body 2 rs=true:=by kernel_rfl
end NK
namespace Nm
def nd (_:Nat):C:=.skip
def body:C:=.R [.Z 3 A7 1,.al 4 A3 [.str [],.bool false,.sl 3 []],.mv 5 (.i 0)] (.R [.A 6 0,.E 7 4 3,.U 8 M7 [.s 6,.s 7,(.f Gk)],.F 9 8 0,.F 10 8 1,.K 3 4 9,.A 5 10] (.ret))
def rs:List RV:=[.a 4 3,.t 5]
attribute [push_cast] nd body
theorem ok:okF prog LD nd body 2 rs=true:=by kernel_rfl
end Nm
namespace E7
def nd:Nat->C
 | 0=>.R [.mv 4 (.i 0)] (.ret)
 | 1=>.gh [.ks 0 [2,3,36,37]] (.m 3)
 | 2=>.seq (.blk 1 (.R [.A 39 37,.A 7 39] (.seq (.dr [0,1,2,3,4,5,6,7,8,9,10,11] [.D 40 2 2,.B 41 40,.A 42 7,.G 43 3 41 42,.E 44 3 43,.D 45 2 3,.B 46 45,.A 47 7,.G 48 3 46 47,.E 49 3 48,.U 50 Jr [.s 44,.s 49],.A 8 50]) (.R [.A 51 8,.J 52 51] (.W 52 (.R [.A 53 8,.A 4 53] (.ret)) (.skip)))))) (.reg [.X 54 .add 37 1,.A 37 54])
 | 3=>.R [.V 38 .lss 37 36] (.seq (.W 38 (.skip) (.exit 0)) (.n 2))
 | 4=>.seq (.R [.D 34 2 2,.B 35 34,.Y 36 35,.mv 37 (.i 0)] (.blk 0 (.loop (.n 1)))) (.n 0)
 | 5=>.seq (.R [.D 24 2 2,.B 25 24,.Y 26 25,.D 27 2 3,.B 28 27,.Y 29 28,.U 30 E8 [.s 26,.s 29],.A 6 30] (.R [.A 31 6,.J 32 31] (.W 32 (.R [.A 33 6,.A 4 33] (.ret)) (.skip)))) (.n 4)
 | 6=>.seq (.R [.D 16 0 2,.B 17 16,.D 18 0 3,.B 19 18,.U 20 CT [.s 17,.s 19],.A 5 20] (.R [.A 21 5,.J 22 21] (.W 22 (.R [.A 23 5,.A 4 23] (.ret)) (.skip)))) (.n 5)
 | 7=>.R [.mv 4 (.i 1)] (.ret)
 | _=>.skip
def body:C:=.R [.Z 2 A3 0,.Z 3 A3 1,.mv 4 (.i 0)] (.seq (.R [.D 9 1 2,.B 10 9,.D 11 1 3,.B 12 11,.bb 13 .neq (.s 10) (.s 12)] (.W 13 (.seq (.R [.D 14 1 2,.B 15 14] (.W 15 (.R [.mv 4 (.i (-1))] (.ret)) (.skip))) (.n 7)) (.skip))) (.n 6))
def rs:List RV:=[.t 4]
attribute [push_cast] nd body
theorem ok:okF prog Jr nd body 2 rs=true:=by kernel_rfl
abbrev L3 (a b c d:V)(B:Nat)(H:LOb)(Q:QX):Prop:=Run prog nd B [.c (.m 3),.c (.loop (.n 1)),.mk 0,.c (.n 0)] [(2,a),(3,b),(36,c),(37,d)] H Q
end E7
namespace Gc
def nd:Nat->C
 | 0=>.R [.A 16 4,.A 2 16] (.ret)
 | _=>.skip
def body:C:=.R [.mv 2 (.i 0)] (.R [.A 6 0,.U 7 Ge [.s 6],.A 5 7,.F 8 5 0,.F 9 5 1,.A 3 8,.A 4 9] (.seq (.R [.A 10 4,.X 11 .eql 10 0,.A 12 11,.P 12 true [13,14] [.A 13 3,.Q 14 13],.N 15 12 14] (.W 15 (.R [.mv 2 (.i 2)] (.ret)) (.skip))) (.n 0)))
def rs:List RV:=[.t 2]
attribute [push_cast] nd body
theorem ok:okF prog J5 nd body 1 rs=true:=by kernel_rfl
end Gc
namespace O3
def nd (_:Nat):C:=.skip
def body:C:=.R [.Z 2 A3 0,.Z 3 A3 1,.mv 4 (.c (.bool false))] (.R [.D 5 0 2,.B 6 5,.D 7 0 3,.B 8 7,.V 9 .eql 6 8,.A 10 9,.P 10 true [11,12,13,14,15] [.D 11 1 2,.B 12 11,.D 13 1 3,.B 14 13,.bb 15 .eql (.s 12) (.s 14)],.N 16 10 15,.A 17 16,.P 17 true [18,19,20,21,22] [.D 18 2 2,.B 19 18,.D 20 2 3,.B 21 20,.U 22 Bx [.s 19,.s 21,(.f Ia)]],.N 23 17 22,.A 4 23] (.ret))
def rs:List RV:=[.t 4]
attribute [push_cast] nd body
theorem ok:okF prog Ia nd body 2 rs=true:=by kernel_rfl
end O3
namespace Fk
def nd:Nat->C
 | 0=>.R [.A 16 4,.A 2 16] (.ret)
 | _=>.skip
def body:C:=.R [.mv 2 (.i 0)] (.R [.A 6 0,.U 7 Ja [.s 6],.A 5 7,.F 8 5 0,.F 9 5 1,.A 3 8,.A 4 9] (.seq (.R [.A 10 4,.X 11 .eql 10 0,.A 12 11,.P 12 true [13,14] [.A 13 3,.Q 14 13],.N 15 12 14] (.W 15 (.R [.mv 2 (.i 2)] (.ret)) (.skip))) (.n 0)))
def rs:List RV:=[.t 2]
attribute [push_cast] nd body
theorem ok:okF prog HU nd body 1 rs=true:=by kernel_rfl
end Fk
namespace Pj
def nd:Nat->C
 | 0=>.R [.A 24 0,.E 25 4 4,.A 26 2,.U 27 LT [.s 24,.s 25,.s 26],.K 3 6 27,.mv 7 (.i 0)] (.ret)
 | _=>.skip
def body:C:=.R [.Z 4 A7 1,.al 6 A3 [.str [],.bool false,.sl 3 []],.mv 7 (.i 0)] (.R [.A 11 0,.E 12 4 4,.A 13 2,.U 14 Jw [.s 11,.s 12,.s 13],.A 10 14,.F 15 10 0,.F 16 10 1,.A 8 15,.A 9 16] (.seq (.R [.A 17 8,.X 18 .gtr 17 4000,.A 19 18,.P 19 false [20,21] [.A 20 9,.X 21 .gtr 20 200],.M 22 19 21] (.W 22 (.R [.bd 23 [.str [],.bool false,.sl 3 []] [],.K 3 6 23,.mv 7 (.i 3)] (.ret)) (.skip))) (.n 0)))
def rs:List RV:=[.a 6 3,.t 7]
attribute [push_cast] nd body
theorem ok:okF prog J2 nd body 3 rs=true:=by kernel_rfl
end Pj
namespace NJ
def nd:Nat->C
 | 0=>.R [.mv 2 (.i 0)] (.ret)
 | _=>.skip
def body:C:=.R [.Z 1 A3 0,.mv 2 (.i 0)] (.seq (.blk 0 (.R [.E 4 3 1,.U 5 Ji [.s 4],.Q 6 5,.A 3 6] (.W 3 (.R [.mv 2 (.i 4)] (.ret)) (.R [.E 8 3 1,.U 9 LU [.s 8],.Q 10 9,.A 7 10] (.W 7 (.R [.mv 2 (.i 3)] (.ret)) (.skip)))))) (.n 0))
def rs:List RV:=[.t 2]
attribute [push_cast] nd body
theorem ok:okF prog Og nd body 1 rs=true:=by kernel_rfl
end NJ
namespace Kx
def nd:Nat->C
 | 0=>.R [.mv 2 (.i 0)] (.ret)
 | 1=>.seq (.R [.E 6 3 1,.U 7 Jf [.s 6],.X 8 .gtr 7 4000,.A 9 8,.P 9 false [10,11,12] [.E 10 3 1,.U 11 Hu [.s 10],.X 12 .gtr 11 200],.M 13 9 12] (.W 13 (.R [.mv 2 (.i 3)] (.ret)) (.skip))) (.n 0)
 | _=>.skip
def body:C:=.R [.Z 1 A3 0,.mv 2 (.i 0)] (.seq (.R [.E 3 3 1,.U 4 Kj [.s 3],.Q 5 4] (.W 5 (.R [.mv 2 (.i 4)] (.ret)) (.skip))) (.n 1))
def rs:List RV:=[.t 2]
attribute [push_cast] nd body
theorem ok:okF prog PA nd body 1 rs=true:=by kernel_rfl
end Kx
end Go.Dw
end
section
namespace Go.Dw
variable {s:List K} {B:Nat} {t:T} {H:List Ob} {Q:X->T->List Ob->Prop}
namespace Cs
def nd (_:Nat):C:=.skip
def body:C:=.R [.mv 4 (.c (.bool false))] (.R [.A 5 0,.A 6 1,.U 7 CA [.s 5,.s 6],.X 8 .geq 7 0,.A 4 8] (.ret))
def rs:List RV:=[.t 4]
attribute [push_cast] nd body
theorem ok:okF prog Ca nd body 2 rs=true:=by kernel_rfl
end Cs
namespace Jg
def nd:Nat->C
 | 0=>.R [.A 22 0,.E 23 4 3,.U 24 LD [.s 22,.s 23],.A 21 24,.F 25 21 0,.F 26 21 1,.al 9 A3 [.str [],.bool false,.sl 3 []],.L 9 3 25,.A 8 26] (.seq (.dr [0,1,2,3,4,5] [.lar 27 3 (.s 7),.lar 28 3 (.s 9),.A 29 8,.K 3 4 27,.K 3 5 28,.A 6 29]) (.ret))
 | _=>.skip
def body:C:=.R [.Z 3 A7 1,.al 4 A3 [.str [],.bool false,.sl 3 []],.al 5 A3 [.str [],.bool false,.sl 3 []],.mv 6 (.i 0)] (.R [.A 11 0,.E 12 4 3,.U 13 Ls [.s 11,.s 12],.A 10 13,.F 14 10 0,.F 15 10 1,.al 7 A3 [.str [],.bool false,.sl 3 []],.L 7 3 14,.A 8 15] (.seq (.R [.A 16 8,.J 17 16] (.W 17 (.seq (.dr [0,1,2,3,4,5] [.lar 18 3 (.s 7),.lar 19 3 (.s 7),.A 20 8,.K 3 4 18,.K 3 5 19,.A 6 20]) (.ret)) (.skip))) (.n 0)))
def rs:List RV:=[.a 4 3,.a 5 3,.t 6]
attribute [push_cast] nd body
theorem ok:okF prog GR nd body 2 rs=true:=by kernel_rfl
end Jg
namespace IR
def nd:Nat->C
 | 0=>.R [.A 20 3,.A 2 20] (.ret)
 | 1=>.gh [.ks 0 [3,7,8,9]] (.m 3)
 | 2=>.seq (.blk 1 (.R [.G 11 4 7 9,.E 12 4 11,.al 5 A7 [.int .i64 0,.str [],.bool false,.sl 4 []],.L 5 4 12] (.R [.A 13 3,.E 14 4 5,.U 15 Ig [.s 14],.V 16 .add 13 15,.A 3 16] (.R [.A 17 3,.X 18 .gtr 17 4000] (.W 18 (.exit 0) (.skip)))))) (.reg [.X 19 .add 9 1,.A 9 19])
 | 3=>.R [.V 10 .lss 9 8] (.seq (.W 10 (.skip) (.exit 0)) (.n 2))
 | _=>.skip
def body:C:=.R [.Z 1 A7 0,.mv 2 (.i 0)] (.R [.mv 3 (.i 1)] (.seq (.R [.D 6 3 1,.B 7 6,.Y 8 7,.mv 9 (.i 0)] (.blk 0 (.loop (.n 1)))) (.n 0)))
def rs:List RV:=[.t 2]
attribute [push_cast] nd body
theorem ok:okF prog Ig nd body 1 rs=true:=by kernel_rfl
abbrev L3 (a b c d:V)(B:Nat)(H:LOb)(Q:QX):Prop:=Run prog nd B [.c (.m 3),.c (.loop (.n 1)),.mk 0,.c (.n 0)] [(3,a),(7,b),(8,c),(9,d)] H Q
end IR
namespace Ma
def nd:Nat->C
 | 0=>.R [.A 18 3,.X 19 .add 18 1,.A 2 19] (.ret)
 | 1=>.gh [.ks 0 [3,7,8,9]] (.m 3)
 | 2=>.seq (.blk 1 (.R [.G 11 4 7 9,.E 12 4 11,.al 5 A7 [.int .i64 0,.str [],.bool false,.sl 4 []],.L 5 4 12] (.reg [.A 13 3,.E 14 4 5,.U 15 GE [.s 14],.mx 16 (.s 13) (.s 15),.A 3 16]))) (.reg [.X 17 .add 9 1,.A 9 17])
 | 3=>.R [.V 10 .lss 9 8] (.seq (.W 10 (.skip) (.exit 0)) (.n 2))
 | _=>.skip
def body:C:=.R [.Z 1 A7 0,.mv 2 (.i 0)] (.R [.mv 3 (.i 0)] (.seq (.R [.D 6 3 1,.B 7 6,.Y 8 7,.mv 9 (.i 0)] (.blk 0 (.loop (.n 1)))) (.n 0)))
def rs:List RV:=[.t 2]
attribute [push_cast] nd body
theorem ok:okF prog GE nd body 1 rs=true:=by kernel_rfl
abbrev L3 (a b c d:V)(B:Nat)(H:LOb)(Q:QX):Prop:=Run prog nd B [.c (.m 3),.c (.loop (.n 1)),.mk 0,.c (.n 0)] [(3,a),(7,b),(8,c),(9,d)] H Q
end Ma
namespace Q9
def nd:Nat->C
 | 0=>.R [.E 23 4 1,.K 4 2 23] (.ret)
 | 1=>.gh [.ks 3 [1,2,9,10,11]] (.m 3)
 | 2=>.seq (.blk 1 (.R [.G 13 4 9 11,.E 14 4 13,.al 5 A7 [.int .i64 0,.str [],.bool false,.sl 4 []],.L 5 4 14] (.dr [0,1,2,3,4,5,6,7] [.D 15 3 1,.B 16 15,.E 17 4 5,.U 18 Me [.s 17],.bs 19 4 [.s 18],.app 20 A7 4 56 (.s 16) (.s 19),.D 21 3 1,.K 1 21 20]))) (.reg [.X 22 .add 11 1,.A 11 22])
 | 3=>.R [.V 12 .lss 11 10] (.seq (.W 12 (.skip) (.exit 0)) (.n 2))
 | _=>.skip
def body:C:=.R [.bx 1 A7 (.s 0),.al 2 A7 [.int .i64 0,.str [],.bool false,.sl 4 []]] (.R [.D 6 3 1,.B 7 6,.A 3 7] (.R [.D 8 3 1,.st 1 (.s 8) (.c .nil),.ono A7 4 0 (.s 8)] (.seq (.R [.A 9 3,.Y 10 9,.mv 11 (.i 0)] (.blk 0 (.loop (.n 1)))) (.n 0))))
def rs:List RV:=[.a 2 4]
attribute [push_cast] nd body
theorem ok:okF prog Me nd body 1 rs=true:=by kernel_rfl
abbrev L3 (a b c d e:V)(B:Nat)(H:LOb)(Q:QX):Prop:=Run prog nd B [.c (.m 3),.c (.loop (.n 1)),.mk 0,.c (.n 0)] [(1,a),(2,b),(9,c),(10,d),(11,e)] H Q
end Q9
namespace FP
def nd (_:Nat):C:=.skip
def body:C:=.R [.Z 3 Pn 0,.Z 4 A7 1,.Z 5 A7 2,.mv 6 (.i 0),.mv 7 (.c (.sl 4 [])),.mv 8 (.c (.sl 4 []))] (.R [.D 11 0 4,.B 12 11,.D 13 0 5,.B 14 13,.mx 15 (.s 12) (.s 14),.al 9 EA [.int .i64 0],.L 9 1 15] (.R [.mf 16 Fa [] [.s 9,.s 3],.A 10 16] (.seq (.dr [0,1,2,3,4,5,6,7,8,9] [.B 17 9,.A 18 10,.E 19 4 4,.callvp (some 20) (.s 18) [.s 19],.A 21 10,.E 22 4 5,.callvp (some 23) (.s 21) [.s 22],.A 6 17,.A 7 20,.A 8 23]) (.ret))))
def rs:List RV:=[.t 6,.t 7,.t 8]
attribute [push_cast] nd body
theorem ok:okF prog EB nd body 3 rs=true:=by kernel_rfl
end FP
namespace HO
def nd:Nat->C
 | 0=>.R [.frz 7,.A 31 7,.A 6 31] (.ret)
 | 1=>.gh [.ks 1 [0,1,2,7,13,14]] (.m 3)
 | 2=>.seq (.blk 1 (.R [.A 16 14,.A 8 16] (.dr [0,1,2,3,4,5,6,7,8,9,10,11,12,13] [.A 17 7,.A 18 8,.A 19 2,.A 20 0,.A 21 8,.G 22 4 20 21,.E 23 4 22,.A 24 1,.A 25 8,.G 26 4 24 25,.E 27 4 26,.callvp (some 28) (.s 19) [.s 23,.s 27],.G 29 4 17 18,.K 4 29 28]))) (.reg [.X 30 .add 14 1,.A 14 30])
 | 3=>.R [.V 15 .lss 14 13] (.seq (.W 15 (.skip) (.exit 0)) (.n 2))
 | _=>.skip
def body:C:=.R [.mv 6 (.c (.sl 4 []))] (.R [.A 9 0,.Y 10 9,.mk 11 A7 4 56 [.int .i64 0,.str [],.bool false,.sl 4 []] (.s 10),.A 7 11] (.seq (.R [.A 12 0,.Y 13 12,.mv 14 (.i 0)] (.blk 0 (.loop (.n 1)))) (.n 0)))
def rs:List RV:=[.t 6]
attribute [push_cast] nd body
theorem ok:okF prog If nd body 3 rs=true:=by kernel_rfl
abbrev L3 (a b c d e f:V)(B:Nat)(H:LOb)(Q:QX):Prop:=Run prog nd B [.c (.m 3),.c (.loop (.n 1)),.mk 0,.c (.n 0)] [(0,a),(1,b),(2,c),(7,d),(13,e),(14,f)] H Q
end HO
namespace K1
def nd (_:Nat):C:=.skip
def body:C:=.R [.Z 3 A7 0,.Z 4 A7 1,.al 5 A7 [.int .i64 0,.str [],.bool false,.sl 4 []]] (.R [.B 6 2,.E 7 4 3,.E 8 4 4,.U 9 Bn [.s 6,.s 7,.s 8],.K 4 5 9] (.ret))
def rs:List RV:=[.a 5 4]
attribute [push_cast] nd body
theorem ok:okF prog Db nd body 3 rs=true:=by kernel_rfl
end K1
namespace KU
def nd:Nat->C
 | 0=>.R [.E 39 4 7,.K 4 6 39] (.ret)
 | 1=>.gh [.ks 3 [1,2,6,7,23,24,25]] (.m 3)
 | 2=>.seq (.blk 1 (.R [.G 27 3 23 25,.E 28 3 27,.al 9 A3 [.str [],.bool false,.sl 3 []],.L 9 3 28] (.dr [0,1,2,3,4,5,6,7,8,9] [.D 29 3 7,.B 30 29,.E 31 3 9,.A 32 1,.A 33 2,.U 34 Ku [.s 31,.s 32,.s 33],.bs 35 4 [.s 34],.app 36 A7 4 56 (.s 30) (.s 35),.D 37 3 7,.K 1 37 36]))) (.reg [.X 38 .add 25 1,.A 25 38])
 | 3=>.R [.V 26 .lss 25 24] (.seq (.W 26 (.skip) (.exit 0)) (.n 2))
 | 4=>.R [.D 19 0 3,.B 20 19,.bd 21 [.int .i64 0,.str [],.bool false,.nil] [(1,1,(.s 20))],.al 7 A7 [.int .i64 0,.str [],.bool false,.nil],.K 4 7 21,.ono A7 4 3 (.s 7)] (.seq (.R [.D 22 2 3,.B 23 22,.Y 24 23,.mv 25 (.i 0)] (.blk 0 (.loop (.n 1)))) (.n 0))
 | _=>.skip
def body:C:=.R [.Z 3 A3 0,.al 6 A7 [.int .i64 0,.str [],.bool false,.sl 4 []]] (.seq (.R [.D 10 1 3,.B 11 10] (.W 11 (.R [.A 12 2,.A 13 1,.D 14 0 3,.B 15 14,.U 16 AT [.s 13,.s 15],.G 17 4 12 16,.E 18 4 17,.K 4 6 18] (.ret)) (.skip))) (.n 4))
def rs:List RV:=[.a 6 4]
attribute [push_cast] nd body
theorem ok:okF prog Ku nd body 3 rs=true:=by kernel_rfl
abbrev L3 (a b c d e f g:V)(B:Nat)(H:LOb)(Q:QX):Prop:=Run prog nd B [.c (.m 3),.c (.loop (.n 1)),.mk 0,.c (.n 0)] [(1,a),(2,b),(6,c),(7,d),(23,e),(24,f),(25,g)] H Q
end KU
namespace Gf
def nd:Nat->C
 | 0=>.R [.A 37 8,.call (some 38) n_slices_Sort_s_string_string [.s 37],.frz 8] (.R [.A 39 8,.A 2 39] (.ret))
 | 1=>.gh [.ks 4 [8,28]] (.m 3)
 | 2=>.blk 5 (.R [.en 31 (.s 28),.F 32 31 0,.A 9 32] (.reg [.A 33 8,.A 34 9,.bs 35 1 [.s 34],.apr 36 C1 1 16 (.s 33) (.s 35),.A 8 36]))
 | 3=>.R [.nx 29 (.s 28),.F 30 29 0] (.seq (.W 30 (.skip) (.exit 4)) (.n 2))
 | 4=>.R [.mv 8 (.c .nil),.rnon 8 C1 1] (.seq (.R [.B 27 3,.rg 28 (.s 27)] (.blk 4 (.loop (.n 1)))) (.n 0))
 | 5=>.gh [.ks 2 [3,7,11,12,13]] (.m 8)
 | 6=>.blk 3 (.R [.D 21 1 7,.B 22 21] (.W 22 (.reg [.B 23 3,.D 24 0 7,.B 25 24,.mup true (.s 23) (.s 25) (.c (.bool true))]) (.skip)))
 | 7=>.seq (.blk 1 (.R [.G 15 3 11 13,.E 16 3 15,.al 5 A3 [.str [],.bool false,.sl 3 []],.L 5 3 16] (.R [.E 17 3 5,.U 18 HD [.s 17]] (.blk 2 (.rf (.s 18) [19,20] (.reg [.al 7 A3 [.str [],.bool false,.sl 3 []],.L 7 3 20]) (.m 6)))))) (.reg [.X 26 .add 13 1,.A 13 26])
 | 8=>.R [.V 14 .lss 13 12] (.seq (.W 14 (.skip) (.exit 0)) (.n 7))
 | _=>.skip
def body:C:=.R [.mv 2 (.c (.sl 1 []))] (.R [.mkm 10,.al 3 Dh [.nilm],.K 1 3 10] (.seq (.R [.A 11 0,.Y 12 11,.mv 13 (.i 0)] (.blk 0 (.loop (.n 5)))) (.n 4)))
def rs:List RV:=[.t 2]
attribute [push_cast] nd body
theorem ok:okF prog D2 nd body 1 rs=true:=by kernel_rfl
abbrev L3 (a b:V)(B:Nat)(H:LOb)(Q:QX):Prop:=Run prog nd B [.c (.m 3),.c (.loop (.n 1)),.mk 4,.c (.n 0)] [(8,a),(28,b)] H Q
abbrev L8 (a b c d e:V)(B:Nat)(H:LOb)(Q:QX):Prop:=Run prog nd B [.c (.m 8),.c (.loop (.n 5)),.mk 0,.c (.n 4)] [(3,a),(7,b),(11,c),(12,d),(13,e)] H Q
end Gf
namespace J9
def nd (_:Nat):C:=.skip
def body:C:=.R [.Z 3 A7 0,.Z 4 A7 1,.al 5 A7 [.int .i64 0,.str [],.bool false,.sl 4 []]] (.R [.B 6 2,.E 7 4 3,.E 8 4 4,.U 9 BJ [.s 6,.s 7,.s 8],.K 4 5 9] (.ret))
def rs:List RV:=[.a 5 4]
attribute [push_cast] nd body
theorem ok:okF prog DI nd body 3 rs=true:=by kernel_rfl
end J9
namespace Is
def nd:Nat->C
 | 0=>.R [.A 15 0,.E 16 4 3,.U 17 J2 [.s 15,.s 16,(.c (.bool true))],.A 14 17,.F 18 14 0,.F 19 14 1,.al 6 A3 [.str [],.bool false,.sl 3 []],.L 6 3 18,.A 7 19] (.R [.A 20 7,.A 4 20] (.ret))
 | _=>.skip
def body:C:=.R [.Z 3 A7 1,.mv 4 (.i 0)] (.seq (.R [.A 8 0,.E 9 4 3,.U 10 Ix [.s 8,.s 9],.A 5 10] (.R [.A 11 5,.J 12 11] (.W 12 (.R [.A 13 5,.A 4 13] (.ret)) (.skip)))) (.n 0))
def rs:List RV:=[.t 4]
attribute [push_cast] nd body
theorem ok:okF prog Jd nd body 2 rs=true:=by kernel_rfl
end Is
namespace Ef
def nd:Nat->C
 | 0=>.seq (.dr [0,1,2,3,4,5,6,7,8] [.E 62 4 4,.A 63 0,.D 64 3 4,.B 65 64,.D 66 3 5,.B 67 66,.U 68 Fe [.s 63,.s 65,.s 67],.U 69 J8 [.s 62,.s 68],.K 6 6 69]) (.ret)
 | 1=>.seq (.R [.D 41 0 4,.B 42 41,.X 43 .gtr 42 0] (.W 43 (.seq (.dr [0,1,2,3,4,5,6,7,8,9,10,11,12] [.A 45 0,.D 46 0 4,.B 47 46,.X 48 .sub 47 1,.G 49 6 45 48,.E 50 6 49,.E 51 4 5,.U 52 EO [.s 50,.s 51],.A 44 52,.F 53 44 0,.F 54 44 1,.A 9 53,.A 10 54]) (.seq (.dr [0,1,2,3,4,5,6,7] [.E 55 4 4,.A 56 0,.D 57 3 4,.B 58 57,.A 59 9,.U 60 Fe [.s 56,.s 58,.s 59],.U 61 J8 [.s 55,.s 60],.K 6 6 61]) (.ret))) (.skip))) (.n 0)
 | 2=>.seq (.dr [0,1,2,3,4,5,6,7,8,9,10] [.D 31 3 7,.E 32 3 31,.E 33 6 7,.U 34 FU [.s 33],.A 35 0,.A 36 8,.D 37 3 5,.B 38 37,.U 39 Fe [.s 35,.s 36,.s 38],.U 40 Oe [.s 32,.s 34,.s 39],.K 6 6 40]) (.ret)
 | _=>.skip
def body:C:=.R [.Z 4 A7 1,.Z 5 A7 2,.al 6 Ax [.int .i64 0,.str [],.bool false,.sl 4 [],.int .i64 0,.int .i64 0]] (.seq (.R [.D 11 0 5,.B 12 11,.X 13 .gtr 12 0] (.W 13 (.R [.A 14 0,.D 15 0 5,.B 16 15,.X 17 .sub 16 1,.G 18 6 14 17,.E 19 6 18,.al 7 BN [.str [],.bool false,.sl 3 [],.str [],.bool false,.sl 3 []],.L 7 6 19] (.R [.D 20 3 4,.B 21 20,.A 8 21] (.seq (.R [.D 22 0 4,.B 23 22,.X 24 .eql 23 0] (.W 24 (.reg [.E 26 6 7,.E 27 4 4,.U 28 EO [.s 26,.s 27],.A 25 28,.F 29 25 0,.F 30 25 1,.A 8 29]) (.skip))) (.n 2)))) (.skip))) (.n 1))
def rs:List RV:=[.a 6 6]
attribute [push_cast] nd body
theorem ok:okF prog DJ nd body 3 rs=true:=by kernel_rfl
end Ef
namespace Qj
def nd (_:Nat):C:=.skip
def body:C:=.R [.Z 1 Ax 0,.mv 2 (.c (.bool false))] (.R [.D 3 4 1,.B 4 3,.X 5 .leq 4 4000,.A 6 5,.P 6 true [7,8,9] [.D 7 5 1,.B 8 7,.X 9 .leq 8 200],.N 10 6 9,.A 2 10] (.ret))
def rs:List RV:=[.t 2]
attribute [push_cast] nd body
theorem ok:okF prog PC nd body 1 rs=true:=by kernel_rfl
end Qj
namespace Tu
def nd (_:Nat):C:=.skip
def body:C:=.R [.Z 2 BN 0,.Z 3 A7 1,.mv 4 (.c (.sl 4 [])),.mv 5 (.c (.bool false))] (.R [.E 8 6 2,.U 9 FU [.s 8],.A 6 9] (.R [.A 10 6,.Y 11 10,.mk 12 A7 4 56 [.int .i64 0,.str [],.bool false,.sl 4 []] (.s 11),.A 7 12] (.R [.A 13 7,.D 14 0 2,.E 15 3 14,.E 16 4 3,.A 17 6,.A 18 7,.call (some 19) LM [.s 15,.s 16,.s 17,.s 18],.frz 13,.A 4 13,.A 5 19] (.ret))))
def rs:List RV:=[.t 4,.t 5]
attribute [push_cast] nd body
theorem ok:okF prog EO nd body 2 rs=true:=by kernel_rfl
end Tu
namespace ST
def nd:Nat->C
 | 0=>.R [.A 29 4,.A 30 5,.X 31 .add 30 1,.A 2 29,.A 3 31] (.ret)
 | 1=>.gh [.ks 0 [4,5,11,12,13]] (.m 3)
 | 2=>.seq (.blk 1 (.R [.G 15 4 11 13,.E 16 4 15,.al 7 A7 [.int .i64 0,.str [],.bool false,.sl 4 []],.L 7 4 16] (.R [.E 18 4 7,.U 19 Oa [.s 18],.A 17 19,.F 20 17 0,.F 21 17 1,.A 8 20,.A 9 21] (.R [.A 22 4,.A 23 8,.V 24 .add 22 23,.A 4 24] (.reg [.A 25 5,.A 26 9,.mx 27 (.s 25) (.s 26),.A 5 27]))))) (.reg [.X 28 .add 13 1,.A 13 28])
 | 3=>.R [.V 14 .lss 13 12] (.seq (.W 14 (.skip) (.exit 0)) (.n 2))
 | _=>.skip
def body:C:=.R [.Z 1 A7 0,.mv 2 (.i 0),.mv 3 (.i 0)] (.R [.mv 4 (.i 1),.mv 5 (.i 0)] (.seq (.R [.D 10 3 1,.B 11 10,.Y 12 11,.mv 13 (.i 0)] (.blk 0 (.loop (.n 1)))) (.n 0)))
def rs:List RV:=[.t 2,.t 3]
attribute [push_cast] nd body
theorem ok:okF prog Oa nd body 1 rs=true:=by kernel_rfl
abbrev L3 (a b c d e:V)(B:Nat)(H:LOb)(Q:QX):Prop:=Run prog nd B [.c (.m 3),.c (.loop (.n 1)),.mk 0,.c (.n 0)] [(4,a),(5,b),(11,c),(12,d),(13,e)] H Q
end ST
namespace KH
def nd:Nat->C
 | 0=>.R [.E 24 3 9,.U 25 Hh [.s 24],.U 26 O5 [.s 25],.F 27 26 0,.F 28 26 1,.K 3 6 27,.A 7 28] (.ret)
 | 1=>.R [.A 17 0,.E 18 4 4,.A 19 2,.U 20 Ki [.s 17,.s 18,.s 19],.al 9 A3 [.str [],.bool false,.sl 3 []],.L 9 3 20] (.seq (.R [.E 21 3 9,.U 22 Mx [.s 21]] (.W 22 (.R [.bd 23 [.str [],.bool false,.sl 3 []] [],.K 3 6 23,.mv 7 (.i 3)] (.ret)) (.skip))) (.n 0))
 | _=>.skip
def body:C:=.R [.Z 4 A7 1,.al 6 A3 [.str [],.bool false,.sl 3 []],.mv 7 (.i 0)] (.seq (.R [.A 10 0,.E 11 4 4,.U 12 Mz [.s 10,.s 11],.A 8 12] (.R [.A 13 8,.J 14 13] (.W 14 (.R [.bd 15 [.str [],.bool false,.sl 3 []] [],.A 16 8,.K 3 6 15,.A 7 16] (.ret)) (.skip)))) (.n 1))
def rs:List RV:=[.a 6 3,.t 7]
attribute [push_cast] nd body
theorem ok:okF prog M7 nd body 3 rs=true:=by kernel_rfl
end KH
namespace Lc
def nd (_:Nat):C:=.skip
def body:C:=.R [.Z 1 BN 0,.al 2 A3 [.str [],.bool false,.sl 3 []]] (.R [.D 3 0 1,.E 4 3 3,.K 3 2 4] (.ret))
def rs:List RV:=[.a 2 3]
attribute [push_cast] nd body
theorem ok:okF prog Gt nd body 1 rs=true:=by kernel_rfl
end Lc
namespace Lw
def nd (_:Nat):C:=.skip
def body:C:=.R [.Z 1 BN 0,.al 2 A3 [.str [],.bool false,.sl 3 []]] (.R [.D 3 3 1,.E 4 3 3,.K 3 2 4] (.ret))
def rs:List RV:=[.a 2 3]
attribute [push_cast] nd body
theorem ok:okF prog Gk nd body 1 rs=true:=by kernel_rfl
end Lw
namespace Ev
def nd:Nat->C
 | 0=>.R [.A 31 0,.lens 32 (.s 31),.A 33 1,.lens 34 (.s 33),.U 35 E8 [.s 32,.s 34],.A 4 35] (.ret)
 | 1=>.gh [.ks 0 [0,1,10,11]] (.m 3)
 | 2=>.seq (.blk 1 (.R [.A 13 11,.A 5 13] (.seq (.dr [0,1,2,3,4,5,6] [.A 14 0,.A 15 5,.ix 16 (.s 14) (.s 15),.A 17 1,.A 18 5,.ix 19 (.s 17) (.s 18),.V 20 .neq 16 19]) (.W 20 (.seq (.dr [0,1,2,3,4,5,6,7,8,9] [.A 21 0,.A 22 5,.ix 23 (.s 21) (.s 22),.cvi 24 .i64 (.s 23),.A 25 1,.A 26 5,.ix 27 (.s 25) (.s 26),.cvi 28 .i64 (.s 27),.U 29 E8 [.s 24,.s 28],.A 4 29]) (.ret)) (.skip))))) (.reg [.X 30 .add 11 1,.A 11 30])
 | 3=>.R [.V 12 .lss 11 10] (.seq (.W 12 (.skip) (.exit 0)) (.n 2))
 | _=>.skip
def body:C:=.R [.mv 4 (.i 0)] (.seq (.R [.A 6 0,.lens 7 (.s 6),.A 8 1,.lens 9 (.s 8),.mn 10 (.s 7) (.s 9),.mv 11 (.i 0)] (.blk 0 (.loop (.n 1)))) (.n 0))
def rs:List RV:=[.t 4]
attribute [push_cast] nd body
theorem ok:okF prog CT nd body 2 rs=true:=by kernel_rfl
abbrev L3 (a b c d:V)(B:Nat)(H:LOb)(Q:QX):Prop:=Run prog nd B [.c (.m 3),.c (.loop (.n 1)),.mk 0,.c (.n 0)] [(0,a),(1,b),(10,c),(11,d)] H Q
end Ev
namespace JU
def nd:Nat->C
 | 0=>.R [.mv 4 (.i 0)] (.ret)
 | 1=>.seq (.R [.A 8 0,.A 9 1,.V 10 .gtr 8 9] (.W 10 (.R [.mv 4 (.i 1)] (.ret)) (.skip))) (.n 0)
 | _=>.skip
def body:C:=.R [.mv 4 (.i 0)] (.seq (.R [.A 5 0,.A 6 1,.V 7 .lss 5 6] (.W 7 (.R [.mv 4 (.i (-1))] (.ret)) (.skip))) (.n 1))
def rs:List RV:=[.t 4]
attribute [push_cast] nd body
theorem ok:okF prog E8 nd body 2 rs=true:=by kernel_rfl
end JU
namespace CV
def nd:Nat->C
 | 0=>.R [.A 14 4,.Y 15 14,.X 16 .eql 15 0,.A 17 16,.P 17 true [18,19] [.A 18 0,.U 19 Lh [.s 18]],.N 20 17 19,.A 2 20,.mv 3 (.i 0)] (.ret)
 | _=>.skip
def body:C:=.R [.mv 2 (.c (.bool false)),.mv 3 (.i 0)] (.R [.A 7 0,.U 8 Lm [.s 7],.A 6 8,.F 9 6 0,.F 10 6 1,.A 4 9,.A 5 10] (.seq (.R [.A 11 5,.J 12 11] (.W 12 (.R [.A 13 5,.mv 2 (.c (.bool false)),.A 3 13] (.ret)) (.skip))) (.n 0)))
def rs:List RV:=[.t 2,.t 3]
attribute [push_cast] nd body
theorem ok:okF prog Ge nd body 1 rs=true:=by kernel_rfl
end CV
namespace AG
def nd:Nat->C
 | 0=>.R [.mv 6 (.c (.bool true))] (.ret)
 | 1=>.gh [.ks 0 [1,2,15,16,17]] (.m 3)
 | 2=>.seq (.blk 1 (.R [.A 19 17,.G 20 3 15 17,.E 21 3 20,.al 8 A3 [.str [],.bool false,.sl 3 []],.A 7 19,.L 8 3 21] (.R [.A 22 1,.A 23 7,.G 24 3 22 23,.E 25 3 24,.al 9 A3 [.str [],.bool false,.sl 3 []],.L 9 3 25] (.R [.A 26 2,.E 27 3 8,.E 28 3 9,.callvp (some 29) (.s 26) [.s 27,.s 28],.Q 30 29] (.W 30 (.R [.mv 6 (.c (.bool false))] (.ret)) (.skip)))))) (.reg [.X 31 .add 17 1,.A 17 31])
 | 3=>.R [.V 18 .lss 17 16] (.seq (.W 18 (.skip) (.exit 0)) (.n 2))
 | 4=>.seq (.R [.A 15 0,.Y 16 15,.mv 17 (.i 0)] (.blk 0 (.loop (.n 1)))) (.n 0)
 | _=>.skip
def body:C:=.R [.mv 6 (.c (.bool false))] (.seq (.R [.A 10 0,.Y 11 10,.A 12 1,.Y 13 12,.V 14 .neq 11 13] (.W 14 (.R [.mv 6 (.c (.bool false))] (.ret)) (.skip))) (.n 4))
def rs:List RV:=[.t 6]
attribute [push_cast] nd body
theorem ok:okF prog Bx nd body 3 rs=true:=by kernel_rfl
abbrev L3 (a b c d e:V)(B:Nat)(H:LOb)(Q:QX):Prop:=Run prog nd B [.c (.m 3),.c (.loop (.n 1)),.mk 0,.c (.n 0)] [(1,a),(2,b),(15,c),(16,d),(17,e)] H Q
end AG
namespace Ey
def nd:Nat->C
 | 0=>.R [.A 20 5,.Y 21 20,.X 22 .eql 21 0,.A 23 22,.P 23 true [24,25] [.A 24 0,.U 25 IX [.s 24]],.N 26 23 25,.A 2 26,.mv 3 (.i 0)] (.ret)
 | 1=>.R [.A 13 0,.U 14 Rj [.s 13],.A 12 14,.F 15 12 0,.F 16 12 1,.A 5 15,.A 6 16] (.seq (.R [.A 17 6,.J 18 17] (.W 18 (.R [.A 19 6,.mv 2 (.c (.bool false)),.A 3 19] (.ret)) (.skip))) (.n 0))
 | _=>.skip
def body:C:=.R [.mv 2 (.c (.bool false)),.mv 3 (.i 0)] (.seq (.R [.A 7 0,.U 8 E6 [.s 7],.A 4 8] (.R [.A 9 4,.J 10 9] (.W 10 (.R [.A 11 4,.mv 2 (.c (.bool false)),.A 3 11] (.ret)) (.skip)))) (.n 1))
def rs:List RV:=[.t 2,.t 3]
attribute [push_cast] nd body
theorem ok:okF prog Ja nd body 1 rs=true:=by kernel_rfl
end Ey
namespace Ht
def nd:Nat->C
 | 0=>.R [.A 69 10,.A 70 11,.X 71 .add 70 1,.A 6 69,.A 7 71] (.ret)
 | 1=>.seq (.R [.D 46 0 4,.B 47 46,.X 48 .gtr 47 0] (.W 48 (.seq (.dr [0,1,2,3,4,5,6,7,8,9,10,11,12,13,14,15,16,17,18,19,20,21] [.A 49 0,.D 50 0 4,.B 51 50,.X 52 .sub 51 1,.G 53 6 49 52,.E 54 6 53,.A 55 2,.U 56 NQ [.s 54,.s 55],.A 57 0,.D 58 0 4,.B 59 58,.X 60 .sub 59 1,.G 61 6 57 60,.E 62 6 61,.U 63 FU [.s 62],.A 64 8,.A 65 9,.U 66 Kl [.s 56,.s 63,.s 64,.s 65],.F 67 66 0,.F 68 66 1,.A 6 67,.A 7 68]) (.ret)) (.skip))) (.n 0)
 | 2=>.gh [.ks 2 [0,2,4,8,9,10,11,17,18,19]] (.m 4)
 | 3=>.seq (.blk 1 (.R [.G 21 4 17 19,.E 22 4 21,.al 13 A7 [.int .i64 0,.str [],.bool false,.sl 4 []],.L 13 4 22] (.R [.A 24 0,.E 25 4 13,.A 26 2,.U 27 Jw [.s 24,.s 25,.s 26],.A 23 27,.F 28 23 0,.F 29 23 1,.A 14 28,.A 15 29] (.R [.A 30 8,.A 31 14,.bs 32 1 [.s 31],.app 33 EA 1 8 (.s 30) (.s 32),.A 8 33] (.R [.A 34 9,.A 35 15,.bs 36 1 [.s 35],.app 37 EA 1 8 (.s 34) (.s 36),.A 9 37] (.R [.A 38 10,.A 39 14,.V 40 .add 38 39,.mn 41 (.i 1099511627776) (.s 40),.A 10 41] (.reg [.A 42 11,.A 43 15,.mx 44 (.s 42) (.s 43),.A 11 44]))))))) (.reg [.X 45 .add 19 1,.A 19 45])
 | 4=>.R [.V 20 .lss 19 18] (.seq (.W 20 (.skip) (.exit 0)) (.n 3))
 | _=>.skip
def body:C:=.R [.Z 4 A7 1,.mv 6 (.i 0),.mv 7 (.i 0)] (.R [.mv 8 (.c .nil),.non 8 EA 1,.mv 9 (.c .nil),.non 9 EA 1] (.R [.mv 10 (.i 1),.mv 11 (.i 0)] (.seq (.R [.D 16 3 4,.B 17 16,.Y 18 17,.mv 19 (.i 0)] (.blk 0 (.loop (.n 2)))) (.n 1))))
def rs:List RV:=[.t 6,.t 7]
attribute [push_cast] nd body
theorem ok:okF prog Jw nd body 3 rs=true:=by kernel_rfl
abbrev L4 (a b c d e f g h i j:V)(B:Nat)(H:LOb)(Q:QX):Prop:=Run prog nd B [.c (.m 4),.c (.loop (.n 2)),.mk 0,.c (.n 1)] [(0,a),(2,b),(4,c),(8,d),(9,e),(10,f),(11,g),(17,h),(18,i),(19,j)] H Q
end Ht
namespace IK
def nd:Nat->C
 | 0=>.R [.A 62 11,.E 63 6 10,.A 64 2,.U 65 NQ [.s 63,.s 64],.U 66 CG [.s 62,.s 65],.K 3 6 66] (.ret)
 | 1=>.gh [.ks 4 [2,6,7,10,11,45,46,47]] (.m 3)
 | 2=>.seq (.blk 3 (.R [.A 49 47,.G 50 1 45 47,.B 51 50,.A 12 49,.A 13 51] (.reg [.A 52 11,.A 53 13,.A 54 7,.A 55 12,.G 56 3 54 55,.E 57 3 56,.bd 58 [.str [],.str [],.bool false,.sl 3 []] [(0,1,(.s 53)),(1,3,(.s 57))],.bs 59 4 [.s 58],.app 60 BX 4 64 (.s 52) (.s 59),.A 11 60]))) (.reg [.X 61 .add 47 1,.A 47 61])
 | 3=>.R [.V 48 .lss 47 46] (.seq (.W 48 (.skip) (.exit 2)) (.n 2))
 | 4=>.R [.A 38 0,.D 39 0 4,.B 40 39,.X 41 .sub 40 1,.G 42 6 38 41,.E 43 6 42,.al 10 BN [.str [],.bool false,.sl 3 [],.str [],.bool false,.sl 3 []],.L 10 6 43] (.R [.mv 11 (.c .nil),.non 11 BX 4] (.seq (.R [.E 44 6 10,.U 45 FU [.s 44],.Y 46 45,.mv 47 (.i 0)] (.blk 2 (.loop (.n 1)))) (.n 0)))
 | 5=>.seq (.R [.D 29 0 4,.B 30 29,.X 31 .eql 30 0] (.W 31 (.R [.D 32 1 4,.B 33 32,.D 34 2 4,.B 35 34,.A 36 7,.bd 37 [.str [],.bool false,.sl 3 []] [(0,1,(.s 33)),(1,1,(.s 35)),(2,1,(.s 36))],.K 3 6 37] (.ret)) (.skip))) (.n 4)
 | 6=>.gh [.ks 2 [0,2,4,6,7,15,16,17]] (.m 8)
 | 7=>.seq (.blk 1 (.R [.G 19 4 15 17,.E 20 4 19,.al 9 A7 [.int .i64 0,.str [],.bool false,.sl 4 []],.L 9 4 20] (.reg [.A 21 7,.A 22 0,.E 23 4 9,.A 24 2,.U 25 LT [.s 22,.s 23,.s 24],.bs 26 3 [.s 25],.app 27 A3 3 48 (.s 21) (.s 26),.A 7 27]))) (.reg [.X 28 .add 17 1,.A 17 28])
 | 8=>.R [.V 18 .lss 17 16] (.seq (.W 18 (.skip) (.exit 0)) (.n 7))
 | _=>.skip
def body:C:=.R [.Z 4 A7 1,.al 6 A3 [.str [],.bool false,.sl 3 []]] (.R [.mv 7 (.c .nil),.non 7 A3 3] (.seq (.R [.D 14 3 4,.B 15 14,.Y 16 15,.mv 17 (.i 0)] (.blk 0 (.loop (.n 6)))) (.n 5)))
def rs:List RV:=[.a 6 3]
attribute [push_cast] nd body
theorem ok:okF prog LT nd body 3 rs=true:=by kernel_rfl
abbrev L3 (a b c d e f g h:V)(B:Nat)(H:LOb)(Q:QX):Prop:=Run prog nd B [.c (.m 3),.c (.loop (.n 1)),.mk 2,.c (.n 0)] [(2,a),(6,b),(7,c),(10,d),(11,e),(45,f),(46,g),(47,h)] H Q
abbrev L8 (a b c d e f g h:V)(B:Nat)(H:LOb)(Q:QX):Prop:=Run prog nd B [.c (.m 8),.c (.loop (.n 6)),.mk 0,.c (.n 5)] [(0,a),(2,b),(4,c),(6,d),(7,e),(15,f),(16,g),(17,h)] H Q
end IK
namespace FN
def nd:Nat->C
 | 0=>.R [.D 14 2 1,.B 15 14,.Y 16 15,.X 17 .leq 16 8,.A 18 17,.P 18 true [19,20,21] [.D 19 0 1,.B 20 19,.U 21 Du [.s 20,(.c (.bool true))]],.N 22 18 21,.A 23 22,.P 23 true [24,25,26,27] [.D 24 2 1,.B 25 24,.U 26 AL [.s 25,(.f JZ)],.Q 27 26],.N 28 23 27,.A 2 28] (.ret)
 | _=>.skip
def body:C:=.R [.Z 1 A3 0,.mv 2 (.c (.bool false))] (.seq (.R [.D 3 1 1,.B 4 3] (.W 4 (.R [.D 5 2 1,.B 6 5,.Y 7 6,.X 8 .eql 7 0,.A 9 8,.P 9 true [10,11,12] [.D 10 0 1,.B 11 10,.U 12 Du [.s 11,(.c (.bool false))]],.N 13 9 12,.A 2 13] (.ret)) (.skip))) (.n 0))
def rs:List RV:=[.t 2]
attribute [push_cast] nd body
theorem ok:okF prog Ji nd body 1 rs=true:=by kernel_rfl
end FN
namespace Qi
def nd (_:Nat):C:=.skip
def body:C:=.R [.Z 1 A3 0,.mv 2 (.c (.bool false))] (.R [.E 3 3 1,.U 4 JK [.s 3],.X 5 .leq 4 4000,.A 6 5,.P 6 true [7,8,9] [.E 7 3 1,.U 8 Iu [.s 7],.X 9 .leq 8 200],.N 10 6 9,.A 2 10] (.ret))
def rs:List RV:=[.t 2]
attribute [push_cast] nd body
theorem ok:okF prog LU nd body 1 rs=true:=by kernel_rfl
end Qi
namespace Tl
def nd (_:Nat):C:=.skip
def body:C:=.R [.Z 1 A3 0,.mv 2 (.c .nilf)] (.R [.mf 3 D3 [] [.s 1],.A 2 3] (.ret))
def rs:List RV:=[.t 2]
attribute [push_cast] nd body
theorem ok:okF prog HD nd body 1 rs=true:=by kernel_rfl
end Tl
namespace EX
def nd:Nat->C
 | 0=>.R [.mv 2 (.c (.bool true))] (.ret)
 | 1=>.gh [.ks 0 [27,28,29]] (.m 3)
 | 2=>.seq (.blk 1 (.R [.G 31 3 27 29,.E 32 3 31,.al 4 A3 [.str [],.bool false,.sl 3 []],.L 4 3 32] (.R [.E 33 3 4,.U 34 Kj [.s 33],.Q 35 34] (.W 35 (.R [.mv 2 (.c (.bool false))] (.ret)) (.skip))))) (.reg [.X 36 .add 29 1,.A 29 36])
 | 3=>.R [.V 30 .lss 29 28] (.seq (.W 30 (.skip) (.exit 0)) (.n 2))
 | 4=>.seq (.R [.D 26 2 1,.B 27 26,.Y 28 27,.mv 29 (.i 0)] (.blk 0 (.loop (.n 1)))) (.n 0)
 | 5=>.seq (.R [.D 16 0 1,.B 17 16,.U 18 E5 [.s 17,(.c (.bool true))],.Q 19 18,.A 20 19,.P 20 false [21,22,23,24] [.D 21 2 1,.B 22 21,.Y 23 22,.X 24 .gtr 23 8],.M 25 20 24] (.W 25 (.R [.mv 2 (.c (.bool false))] (.ret)) (.skip))) (.n 4)
 | _=>.skip
def body:C:=.R [.Z 1 A3 0,.mv 2 (.c (.bool false))] (.seq (.R [.D 5 1 1,.B 6 5] (.W 6 (.R [.D 7 0 1,.B 8 7,.U 9 E5 [.s 8,(.c (.bool false))],.A 10 9,.P 10 true [11,12,13,14] [.D 11 2 1,.B 12 11,.Y 13 12,.X 14 .eql 13 0],.N 15 10 14,.A 2 15] (.ret)) (.skip))) (.n 5))
def rs:List RV:=[.t 2]
attribute [push_cast] nd body
theorem ok:okF prog Kj nd body 1 rs=true:=by kernel_rfl
abbrev L3 (a b c:V)(B:Nat)(H:LOb)(Q:QX):Prop:=Run prog nd B [.c (.m 3),.c (.loop (.n 1)),.mk 0,.c (.n 0)] [(27,a),(28,b),(29,c)] H Q
end EX
namespace S7
def nd:Nat->C
 | 0=>.R [.A 18 3,.A 2 18] (.ret)
 | 1=>.gh [.ks 0 [3,7,8,9]] (.m 3)
 | 2=>.seq (.blk 1 (.R [.G 11 3 7 9,.E 12 3 11,.al 5 A3 [.str [],.bool false,.sl 3 []],.L 5 3 12] (.reg [.A 13 3,.E 14 3 5,.U 15 Jf [.s 14],.V 16 .add 13 15,.A 3 16]))) (.reg [.X 17 .add 9 1,.A 9 17])
 | 3=>.R [.V 10 .lss 9 8] (.seq (.W 10 (.skip) (.exit 0)) (.n 2))
 | _=>.skip
def body:C:=.R [.Z 1 A3 0,.mv 2 (.i 0)] (.R [.mv 3 (.i 1)] (.seq (.R [.D 6 2 1,.B 7 6,.Y 8 7,.mv 9 (.i 0)] (.blk 0 (.loop (.n 1)))) (.n 0)))
def rs:List RV:=[.t 2]
attribute [push_cast] nd body
theorem ok:okF prog Jf nd body 1 rs=true:=by kernel_rfl
abbrev L3 (a b c d:V)(B:Nat)(H:LOb)(Q:QX):Prop:=Run prog nd B [.c (.m 3),.c (.loop (.n 1)),.mk 0,.c (.n 0)] [(3,a),(7,b),(8,c),(9,d)] H Q
end S7
namespace Qr
def nd:Nat->C
 | 0=>.R [.A 18 3,.X 19 .add 18 1,.A 2 19] (.ret)
 | 1=>.gh [.ks 0 [3,7,8,9]] (.m 3)
 | 2=>.seq (.blk 1 (.R [.G 11 3 7 9,.E 12 3 11,.al 5 A3 [.str [],.bool false,.sl 3 []],.L 5 3 12] (.reg [.A 13 3,.E 14 3 5,.U 15 Hu [.s 14],.mx 16 (.s 13) (.s 15),.A 3 16]))) (.reg [.X 17 .add 9 1,.A 9 17])
 | 3=>.R [.V 10 .lss 9 8] (.seq (.W 10 (.skip) (.exit 0)) (.n 2))
 | _=>.skip
def body:C:=.R [.Z 1 A3 0,.mv 2 (.i 0)] (.R [.mv 3 (.i 0)] (.seq (.R [.D 6 2 1,.B 7 6,.Y 8 7,.mv 9 (.i 0)] (.blk 0 (.loop (.n 1)))) (.n 0)))
def rs:List RV:=[.t 2]
attribute [push_cast] nd body
theorem ok:okF prog Hu nd body 1 rs=true:=by kernel_rfl
abbrev L3 (a b c d:V)(B:Nat)(H:LOb)(Q:QX):Prop:=Run prog nd B [.c (.m 3),.c (.loop (.n 1)),.mk 0,.c (.n 0)] [(3,a),(7,b),(8,c),(9,d)] H Q
end Qr
namespace Bo
def nd:Nat->C
 | 0=>.R [.mv 4 (.i (-1))] (.ret)
 | 1=>.gh [.ks 0 [0,1,7,8]] (.m 3)
 | 2=>.seq (.blk 1 (.R [.A 10 8,.A 5 10] (.R [.A 11 1,.A 12 0,.A 13 5,.G 14 4 12 13,.E 15 4 14,.callvp (some 16) (.s 11) [.s 15]] (.W 16 (.R [.A 17 5,.A 4 17] (.ret)) (.skip))))) (.reg [.X 18 .add 8 1,.A 8 18])
 | 3=>.R [.V 9 .lss 8 7] (.seq (.W 9 (.skip) (.exit 0)) (.n 2))
 | _=>.skip
def body:C:=.R [.mv 4 (.i 0)] (.seq (.R [.A 6 0,.Y 7 6,.mv 8 (.i 0)] (.blk 0 (.loop (.n 1)))) (.n 0))
def rs:List RV:=[.t 4]
attribute [push_cast] nd body
theorem ok:okF prog CA nd body 2 rs=true:=by kernel_rfl
abbrev L3 (a b c d:V)(B:Nat)(H:LOb)(Q:QX):Prop:=Run prog nd B [.c (.m 3),.c (.loop (.n 1)),.mk 0,.c (.n 0)] [(0,a),(1,b),(7,c),(8,d)] H Q
end Bo
namespace Cm
def nd:Nat->C
 | 0=>.R [.mv 2 (.i 0)] (.ret)
 | 1=>.seq (.R [.A 27 0,.U 28 BE [.s 27,(.f Km)]] (.W 28 (.R [.mv 2 (.i 7)] (.ret)) (.skip))) (.n 0)
 | 2=>.gh [.ks 2 [0,20]] (.m 4)
 | 3=>.blk 1 (.R [.en 23 (.s 20),.F 24 23 0,.A 6 24] (.R [.A 25 6,.U 26 Mr [.s 25]] (.W 26 (.R [.mv 2 (.i 6)] (.ret)) (.skip))))
 | 4=>.R [.nx 21 (.s 20),.F 22 21 0] (.seq (.W 22 (.skip) (.exit 0)) (.n 3))
 | 5=>.seq (.R [.A 19 4,.rg 20 (.s 19)] (.blk 0 (.loop (.n 2)))) (.n 1)
 | 6=>.R [.A 13 0,.call (some 14) I3 [.s 13],.A 12 14,.F 15 12 0,.F 16 12 1,.A 4 15,.A 5 16] (.seq (.R [.A 17 5,.Q 18 17] (.W 18 (.R [.mv 2 (.i 6)] (.ret)) (.skip))) (.n 5))
 | _=>.skip
def body:C:=.R [.mv 2 (.i 0)] (.seq (.R [.A 7 0,.U 8 Il [.s 7],.A 3 8] (.R [.A 9 3,.J 10 9] (.W 10 (.R [.A 11 3,.A 2 11] (.ret)) (.skip)))) (.n 6))
def rs:List RV:=[.t 2]
attribute [push_cast] nd body
theorem ok:okF prog DH nd body 1 rs=true:=by kernel_rfl
abbrev L4 (a b:V)(B:Nat)(H:LOb)(Q:QX):Prop:=Run prog nd B [.c (.m 4),.c (.loop (.n 2)),.mk 0,.c (.n 1)] [(0,a),(20,b)] H Q
end Cm
namespace Dx
def nd:Nat->C
 | 0=>.seq (.dr [0,1,2,3,4,5,6,7,8] [.B 14 2,.B 15 1,.X 16 .sub 15 1,.G 17 6 14 16,.D 18 0 17,.E 19 3 18,.E 20 4 3,.U 21 Jc [.s 19,.s 20],.A 4 21]) (.ret)
 | _=>.skip
def body:C:=.R [.Z 3 A7 0,.mv 4 (.c (.sl 4 []))] (.seq (.R [.D 5 0 3,.B 6 5,.X 7 .gtr 6 0,.A 8 7,.P 8 false [9,10] [.B 9 1,.X 10 .eql 9 0],.M 11 8 10] (.W 11 (.R [.D 12 3 3,.B 13 12,.A 4 13] (.ret)) (.skip))) (.n 0))
def rs:List RV:=[.t 4]
attribute [push_cast] nd body
theorem ok:okF prog Fa nd body 3 rs=true:=by kernel_rfl
end Dx
namespace FX
def nd:Nat->C
 | 0=>.R [.frc 0 (.s 6),.B 44 6,.A 4 44] (.ret)
 | 1=>.gh [.ks 2 [5,6,8,9,25,26,27]] (.m 3)
 | 2=>.seq (.blk 3 (.R [.G 29 1 25 27,.B 30 29,.A 11 30] (.reg [.D 31 3 9,.B 32 31,.A 33 11,.G 34 4 32 33,.E 35 4 34,.K 4 9 35]))) (.reg [.X 36 .add 27 1,.A 27 36])
 | 3=>.R [.V 28 .lss 27 26] (.seq (.W 28 (.skip) (.exit 2)) (.n 2))
 | 4=>.blk 1 (.R [.D 22 1 8,.B 23 22] (.W 23 (.R [.E 24 4 3,.al 9 A7 [.int .i64 0,.str [],.bool false,.sl 4 []],.K 4 9 24] (.seq (.R [.A 25 7,.Y 26 25,.mv 27 (.i 0)] (.blk 2 (.loop (.n 1)))) (.dr [0,1,2,3,4,5,6,7] [.B 37 6,.B 38 5,.D 39 0 8,.B 40 39,.U 41 AT [.s 38,.s 40],.E 42 4 9,.G 43 4 37 41,.K 4 43 42]))) (.skip)))
 | _=>.skip
def body:C:=.R [.Z 2 A3 0,.Z 3 A7 1,.mv 4 (.c (.sl 4 []))] (.R [.E 12 3 2,.bs 13 3 [.s 12],.U 14 D2 [.s 13],.al 5 VH [.sl 1 []],.L 5 1 14] (.R [.B 15 5,.Y 16 15,.mk 17 A7 4 56 [.int .i64 0,.str [],.bool false,.sl 4 []] (.s 16),.al 6 Qm [.nil],.K 1 6 17] (.seq (.R [.E 18 3 2,.U 19 HD [.s 18]] (.blk 0 (.rf (.s 19) [20,21] (.R [.A 7 20] (.reg [.al 8 A3 [.str [],.bool false,.sl 3 []],.L 8 3 21])) (.m 4)))) (.n 0))))
def rs:List RV:=[.t 4]
attribute [push_cast] nd body
theorem ok:okF prog Jc nd body 2 rs=true:=by kernel_rfl
abbrev L3 (a b c d e f g:V)(B:Nat)(H:LOb)(Q:QX):Prop:=Run prog nd B [.c (.m 3),.c (.loop (.n 1)),.mk 2,.c (.dr [0,1,2,3,4,5,6,7] [.B 37 6,.B 38 5,.D 39 0 8,.B 40 39,.U 41 AT [.s 38,.s 40],.E 42 4 9,.G 43 4 37 41,.K 4 43 42]),.mk 1] [(5,a),(6,b),(8,c),(9,d),(25,e),(26,f),(27,g)] H Q
end FX
end Go.Dw
end
section
namespace Go.Dw
variable {s:List K} {B:Nat} {t:T} {H:List Ob} {Q:X->T->List Ob->Prop}
namespace BC
def nd:Nat->C
 | 0=>.R [.mv 4 (.i (-1))] (.ret)
 | 1=>.gh [.ks 0 [0,1,7,8]] (.m 3)
 | 2=>.seq (.blk 1 (.R [.A 10 8,.A 5 10] (.R [.A 11 1,.A 12 0,.A 13 5,.G 14 1 12 13,.B 15 14,.V 16 .eql 11 15] (.W 16 (.R [.A 17 5,.A 4 17] (.ret)) (.skip))))) (.reg [.X 18 .add 8 1,.A 8 18])
 | 3=>.R [.V 9 .lss 8 7] (.seq (.W 9 (.skip) (.exit 0)) (.n 2))
 | _=>.skip
def body:C:=.R [.mv 4 (.i 0)] (.seq (.R [.A 6 0,.Y 7 6,.mv 8 (.i 0)] (.blk 0 (.loop (.n 1)))) (.n 0))
def rs:List RV:=[.t 4]
attribute [push_cast] nd body
theorem ok:okF prog AT nd body 2 rs=true:=by kernel_rfl
abbrev L3 (a b c d:V)(B:Nat)(H:LOb)(Q:QX):Prop:=Run prog nd B [.c (.m 3),.c (.loop (.n 1)),.mk 0,.c (.n 0)] [(0,a),(1,b),(7,c),(8,d)] H Q
end BC
namespace GT
def nd:Nat->C
 | 0=>.R [.A 15 0,.E 16 4 3,.U 17 J2 [.s 15,.s 16,(.c (.bool false))],.A 14 17,.F 18 14 0,.F 19 14 1,.al 6 A3 [.str [],.bool false,.sl 3 []],.L 6 3 18,.A 7 19] (.R [.A 20 7,.A 4 20] (.ret))
 | _=>.skip
def body:C:=.R [.Z 3 A7 1,.mv 4 (.i 0)] (.seq (.R [.A 8 0,.E 9 4 3,.U 10 PE [.s 8,.s 9],.A 5 10] (.R [.A 11 5,.J 12 11] (.W 12 (.R [.A 13 5,.A 4 13] (.ret)) (.skip)))) (.n 0))
def rs:List RV:=[.t 4]
attribute [push_cast] nd body
theorem ok:okF prog Ix nd body 2 rs=true:=by kernel_rfl
end GT
namespace Jz
def nd:Nat->C
 | 0=>.R [.D 45 0 3,.B 46 45,.bd 47 [.int .i64 0,.str [],.bool false,.sl 4 []] [(1,1,(.s 46))],.A 48 9,.U 49 J8 [.s 47,.s 48],.K 6 6 49] (.ret)
 | 1=>.gh [.ks 2 [1,2,3,6,9,31,32,33]] (.m 3)
 | 2=>.seq (.blk 3 (.R [.G 35 3 31 33,.E 36 3 35,.al 11 A3 [.str [],.bool false,.sl 3 []],.L 11 3 36] (.reg [.A 37 9,.E 38 3 11,.A 39 1,.A 40 2,.U 41 Oe [.s 38,.s 39,.s 40],.bs 42 6 [.s 41],.app 43 Ax 6 72 (.s 37) (.s 42),.A 9 43]))) (.reg [.X 44 .add 33 1,.A 33 44])
 | 3=>.R [.V 34 .lss 33 32] (.seq (.W 34 (.skip) (.exit 2)) (.n 2))
 | 4=>.R [.mv 9 (.c .nil),.non 9 Ax 6] (.seq (.R [.D 30 2 3,.B 31 30,.Y 32 31,.mv 33 (.i 0)] (.blk 2 (.loop (.n 1)))) (.n 0))
 | 5=>.gh [.ks 1 [1,2,3,6,14,15,16]] (.m 7)
 | 6=>.seq (.blk 1 (.R [.A 18 16,.G 19 1 14 16,.B 20 19,.A 7 18,.A 8 20] (.R [.A 21 8,.D 22 0 3,.B 23 22,.V 24 .eql 21 23] (.W 24 (.R [.A 25 2,.A 26 7,.G 27 6 25 26,.E 28 6 27,.K 6 6 28] (.ret)) (.skip))))) (.reg [.X 29 .add 16 1,.A 16 29])
 | 7=>.R [.V 17 .lss 16 15] (.seq (.W 17 (.skip) (.exit 0)) (.n 6))
 | _=>.skip
def body:C:=.R [.Z 3 A3 0,.al 6 Ax [.int .i64 0,.str [],.bool false,.sl 4 [],.int .i64 0,.int .i64 0]] (.seq (.R [.D 12 1 3,.B 13 12] (.W 13 (.R [.A 14 1,.Y 15 14,.mv 16 (.i 0)] (.blk 0 (.loop (.n 5)))) (.skip))) (.n 4))
def rs:List RV:=[.a 6 6]
attribute [push_cast] nd body
theorem ok:okF prog Oe nd body 3 rs=true:=by kernel_rfl
abbrev L3 (a b c d e f g h:V)(B:Nat)(H:LOb)(Q:QX):Prop:=Run prog nd B [.c (.m 3),.c (.loop (.n 1)),.mk 2,.c (.n 0)] [(1,a),(2,b),(3,c),(6,d),(9,e),(31,f),(32,g),(33,h)] H Q
abbrev L7 (a b c d e f g:V)(B:Nat)(H:LOb)(Q:QX):Prop:=Run prog nd B [.c (.m 7),.c (.loop (.n 5)),.mk 0,.c (.n 4)] [(1,a),(2,b),(3,c),(6,d),(14,e),(15,f),(16,g)] H Q
end Jz
namespace VQ
def nd (_:Nat):C:=.skip
def body:C:=.R [.Z 1 BN 0,.mv 2 (.c (.sl 1 []))] (.R [.D 3 0 1,.E 4 3 3,.bs 5 3 [.s 4],.U 6 KY [.s 5],.A 2 6] (.ret))
def rs:List RV:=[.t 2]
attribute [push_cast] nd body
theorem ok:okF prog FU nd body 1 rs=true:=by kernel_rfl
end VQ
namespace GD
def nd:Nat->C
 | 0=>.R [.A 28 7,.A 6 28] (.ret)
 | 1=>.gh [.ks 1 [0,1,2,7,10,11]] (.m 3)
 | 2=>.seq (.blk 1 (.R [.A 13 11,.A 8 13] (.dr [0,1,2,3,4,5,6,7,8,9,10,11,12,13] [.A 14 7,.A 15 0,.A 16 1,.A 17 8,.G 18 4 16 17,.E 19 4 18,.A 20 2,.A 21 8,.G 22 4 20 21,.E 23 4 22,.U 24 DJ [.s 15,.s 19,.s 23],.bs 25 6 [.s 24],.app 26 Ax 6 72 (.s 14) (.s 25),.A 7 26]))) (.reg [.X 27 .add 11 1,.A 11 27])
 | 3=>.R [.V 12 .lss 11 10] (.seq (.W 12 (.skip) (.exit 0)) (.n 2))
 | _=>.skip
def body:C:=.R [.mv 6 (.c (.sl 6 []))] (.R [.mv 7 (.c .nil),.non 7 Ax 6] (.seq (.R [.A 9 1,.Y 10 9,.mv 11 (.i 0)] (.blk 0 (.loop (.n 1)))) (.n 0)))
def rs:List RV:=[.t 6]
attribute [push_cast] nd body
theorem ok:okF prog Fe nd body 3 rs=true:=by kernel_rfl
abbrev L3 (a b c d e f:V)(B:Nat)(H:LOb)(Q:QX):Prop:=Run prog nd B [.c (.m 3),.c (.loop (.n 1)),.mk 0,.c (.n 0)] [(0,a),(1,b),(2,c),(7,d),(10,e),(11,f)] H Q
end GD
namespace PI
def nd:Nat->C
 | 0=>.R [.D 45 5 5,.B 46 45,.X 47 .add 46 1,.D 48 5 5,.K 1 48 47] (.R [.E 49 6 5,.K 6 4 49] (.ret))
 | 1=>.gh [.ks 3 [4,5,16,17,18]] (.m 3)
 | 2=>.seq (.blk 1 (.R [.G 20 6 16 18,.E 21 6 20,.al 7 Ax [.int .i64 0,.str [],.bool false,.sl 4 [],.int .i64 0,.int .i64 0],.L 7 6 21] (.R [.D 22 0 5,.D 23 3 22,.B 24 23,.D 25 0 7,.E 26 4 25,.bs 27 4 [.s 26],.app 28 A7 4 56 (.s 24) (.s 27),.D 29 0 5,.D 30 3 29,.K 1 30 28] (.R [.D 31 4 5,.B 32 31,.D 33 4 7,.B 34 33,.V 35 .add 32 34,.mn 36 (.i 1099511627776) (.s 35),.D 37 4 5,.K 1 37 36] (.reg [.D 38 5 5,.B 39 38,.D 40 5 7,.B 41 40,.mx 42 (.s 39) (.s 41),.D 43 5 5,.K 1 43 42]))))) (.reg [.X 44 .add 18 1,.A 18 44])
 | 3=>.R [.V 19 .lss 18 17] (.seq (.W 19 (.skip) (.exit 0)) (.n 2))
 | _=>.skip
def body:C:=.R [.Z 2 A7 0,.al 4 Ax [.int .i64 0,.str [],.bool false,.sl 4 [],.int .i64 0,.int .i64 0]] (.R [.D 8 0 2,.B 9 8,.D 10 1 2,.B 11 10,.D 12 2 2,.B 13 12,.bd 14 [.int .i64 0,.str [],.bool false,.nil] [(0,1,(.s 9)),(1,1,(.s 11)),(2,1,(.s 13))],.bd 15 [.int .i64 0,.str [],.bool false,.nil,.int .i64 0,.int .i64 0] [(0,4,(.s 14)),(4,1,(.i 1))],.al 5 Ax [.int .i64 0,.str [],.bool false,.nil,.int .i64 0,.int .i64 0],.K 6 5 15,.ono A7 4 3 (.s 5)] (.seq (.R [.A 16 1,.Y 17 16,.mv 18 (.i 0)] (.blk 0 (.loop (.n 1)))) (.n 0)))
def rs:List RV:=[.a 4 6]
attribute [push_cast] nd body
theorem ok:okF prog J8 nd body 2 rs=true:=by kernel_rfl
abbrev L3 (a b c d e:V)(B:Nat)(H:LOb)(Q:QX):Prop:=Run prog nd B [.c (.m 3),.c (.loop (.n 1)),.mk 0,.c (.n 0)] [(4,a),(5,b),(16,c),(17,d),(18,e)] H Q
end PI
namespace KI
def nd:Nat->C
 | 0=>.R [.mv 8 (.c (.bool true))] (.ret)
 | 1=>.gh [.ks 0 [2,3,4,5,44,45]] (.m 3)
 | 2=>.seq (.blk 1 (.R [.A 47 45,.A 9 47] (.seq (.dr [0,1,2,3,4,5,6,7,8,9,10,11,12,13] [.D 48 2 4,.B 49 48,.A 50 9,.G 51 3 49 50,.E 52 3 51,.D 53 3 5,.B 54 53,.A 55 9,.G 56 4 54 55,.E 57 4 56,.A 58 2,.A 59 3,.call (some 60) LM [.s 52,.s 57,.s 58,.s 59],.Q 61 60]) (.W 61 (.R [.mv 8 (.c (.bool false))] (.ret)) (.skip))))) (.reg [.X 62 .add 45 1,.A 45 62])
 | 3=>.R [.V 46 .lss 45 44] (.seq (.W 46 (.skip) (.exit 0)) (.n 2))
 | 4=>.seq (.R [.D 42 2 4,.B 43 42,.Y 44 43,.mv 45 (.i 0)] (.blk 0 (.loop (.n 1)))) (.n 0)
 | 5=>.seq (.R [.D 19 0 5,.B 20 19,.J 21 20,.A 22 21,.P 22 false [23,24] [.D 23 2 5,.B 24 23],.M 25 22 24,.A 26 25,.P 26 false [27,28,29,30,31] [.D 27 1 5,.B 28 27,.D 29 0 4,.B 30 29,.V 31 .neq 28 30],.M 32 26 31,.A 33 32,.P 33 false [34,35,36,37,38,39,40] [.D 34 3 5,.B 35 34,.Y 36 35,.D 37 2 4,.B 38 37,.Y 39 38,.V 40 .neq 36 39],.M 41 33 40] (.W 41 (.R [.mv 8 (.c (.bool false))] (.ret)) (.skip))) (.n 4)
 | _=>.skip
def body:C:=.R [.Z 4 A3 0,.Z 5 A7 1,.mv 8 (.c (.bool false))] (.seq (.R [.D 10 1 4,.B 11 10] (.W 11 (.seq (.dr [0,1,2,3,4,5,6,7] [.A 12 3,.A 13 2,.D 14 0 4,.B 15 14,.U 16 M5 [.s 13,.s 15],.E 17 4 5,.G 18 4 12 16,.K 4 18 17]) (.R [.mv 8 (.c (.bool true))] (.ret))) (.skip))) (.n 5))
def rs:List RV:=[.t 8]
attribute [push_cast] nd body
theorem ok:okF prog LM nd body 4 rs=true:=by kernel_rfl
abbrev L3 (a b c d e f:V)(B:Nat)(H:LOb)(Q:QX):Prop:=Run prog nd B [.c (.m 3),.c (.loop (.n 1)),.mk 0,.c (.n 0)] [(2,a),(3,b),(4,c),(5,d),(44,e),(45,f)] H Q
end KI
namespace EL
def nd:Nat->C
 | 0=>.R [.mv 4 (.i 0)] (.ret)
 | 1=>.seq (.blk 0 (.R [.E 12 4 3,.mf 13 JT [] [.s 2],.U 14 JA [.s 12,.s 13],.Q 15 14,.A 11 15] (.W 11 (.R [.mv 4 (.i 8)] (.ret)) (.R [.E 17 4 3,.mf 18 K2 [] [.s 2],.U 19 JA [.s 17,.s 18],.Q 20 19,.A 16 20] (.W 16 (.R [.mv 4 (.i 4)] (.ret)) (.R [.E 22 4 3,.U 23 Ig [.s 22],.X 24 .gtr 23 4000,.A 25 24,.P 25 false [26,27,28] [.E 26 4 3,.U 27 GE [.s 26],.X 28 .gtr 27 200],.M 29 25 28,.A 21 29] (.W 21 (.R [.mv 4 (.i 3)] (.ret)) (.skip)))))))) (.n 0)
 | _=>.skip
def body:C:=.R [.Z 2 Pn 0,.Z 3 A7 1,.mv 4 (.i 0)] (.seq (.R [.B 6 2,.U 7 DH [.s 6],.A 5 7] (.R [.A 8 5,.J 9 8] (.W 9 (.R [.A 10 5,.A 4 10] (.ret)) (.skip)))) (.n 1))
def rs:List RV:=[.t 4]
attribute [push_cast] nd body
theorem ok:okF prog Mz nd body 2 rs=true:=by kernel_rfl
end EL
namespace Le
def nd:Nat->C
 | 0=>.R [.A 35 0,.D 36 0 4,.B 37 36,.X 38 .sub 37 1,.G 39 6 35 38,.E 40 6 39,.al 10 BN [.str [],.bool false,.sl 3 [],.str [],.bool false,.sl 3 []],.L 10 6 40] (.seq (.dr [0,1,2,3,4,5,6,7,8,9] [.A 41 2,.E 42 6 10,.callvp (some 43) (.s 41) [.s 42],.D 44 0 10,.E 45 3 44,.bs 46 3 [.s 45],.U 47 D2 [.s 46],.A 48 7,.U 49 Kp [.s 43,.s 47,.s 48],.K 3 6 49]) (.ret))
 | 1=>.seq (.R [.D 26 0 4,.B 27 26,.X 28 .eql 27 0] (.W 28 (.R [.D 29 1 4,.B 30 29,.D 31 2 4,.B 32 31,.A 33 7,.bd 34 [.str [],.bool false,.sl 3 []] [(0,1,(.s 30)),(1,1,(.s 32)),(2,1,(.s 33))],.K 3 6 34] (.ret)) (.skip))) (.n 0)
 | 2=>.gh [.ks 2 [0,2,4,6,7,12,13,14]] (.m 4)
 | 3=>.seq (.blk 1 (.R [.G 16 4 12 14,.E 17 4 16,.al 9 A7 [.int .i64 0,.str [],.bool false,.sl 4 []],.L 9 4 17] (.reg [.A 18 7,.A 19 0,.E 20 4 9,.A 21 2,.U 22 Ki [.s 19,.s 20,.s 21],.bs 23 3 [.s 22],.app 24 A3 3 48 (.s 18) (.s 23),.A 7 24]))) (.reg [.X 25 .add 14 1,.A 14 25])
 | 4=>.R [.V 15 .lss 14 13] (.seq (.W 15 (.skip) (.exit 0)) (.n 3))
 | _=>.skip
def body:C:=.R [.Z 4 A7 1,.al 6 A3 [.str [],.bool false,.sl 3 []]] (.R [.mv 7 (.c .nil),.non 7 A3 3] (.seq (.R [.D 11 3 4,.B 12 11,.Y 13 12,.mv 14 (.i 0)] (.blk 0 (.loop (.n 2)))) (.n 1)))
def rs:List RV:=[.a 6 3]
attribute [push_cast] nd body
theorem ok:okF prog Ki nd body 3 rs=true:=by kernel_rfl
abbrev L4 (a b c d e f g h:V)(B:Nat)(H:LOb)(Q:QX):Prop:=Run prog nd B [.c (.m 4),.c (.loop (.n 2)),.mk 0,.c (.n 1)] [(0,a),(2,b),(4,c),(6,d),(7,e),(12,f),(13,g),(14,h)] H Q
end Le
namespace Pl
def nd (_:Nat):C:=.skip
def body:C:=.R [.Z 1 A3 0,.mv 2 (.c (.bool false))] (.R [.al 3 EA [.int .i64 0],.st 1 (.s 3) (.i 4000)] (.R [.al 4 Gh [.nilf]] (.R [.mf 5 Dg [] [.s 3,.s 4],.K 1 4 5] (.R [.B 6 4,.E 7 3 1,.callv (some 8) (.s 6) [.s 7],.A 2 8] (.ret)))))
def rs:List RV:=[.t 2]
attribute [push_cast] nd body
theorem ok:okF prog Mx nd body 1 rs=true:=by kernel_rfl
end Pl
namespace WK
def nd:Nat->C
 | 0=>.R [.E 8 3 1,.K 3 2 8,.mv 3 (.i 0)] (.ret)
 | _=>.skip
def body:C:=.R [.Z 1 A3 0,.al 2 A3 [.str [],.bool false,.sl 3 []],.mv 3 (.i 0)] (.seq (.R [.E 4 3 1,.U 5 LU [.s 4],.Q 6 5] (.W 6 (.R [.bd 7 [.str [],.bool false,.sl 3 []] [],.K 3 2 7,.mv 3 (.i 3)] (.ret)) (.skip))) (.n 0))
def rs:List RV:=[.a 2 3,.t 3]
attribute [push_cast] nd body
theorem ok:okF prog O5 nd body 1 rs=true:=by kernel_rfl
end WK
namespace SA
def nd:Nat->C
 | 0=>.R [.E 26 3 3,.K 3 2 26] (.ret)
 | 1=>.gh [.ks 3 [2,3,12,13,14]] (.m 3)
 | 2=>.seq (.blk 1 (.R [.G 16 3 12 14,.E 17 3 16,.al 5 A3 [.str [],.bool false,.sl 3 []],.L 5 3 17] (.dr [0,1,2,3,4,5,6,7] [.D 18 2 3,.B 19 18,.E 20 3 5,.U 21 Hh [.s 20],.bs 22 3 [.s 21],.app 23 A3 3 48 (.s 19) (.s 22),.D 24 2 3,.K 1 24 23]))) (.reg [.X 25 .add 14 1,.A 14 25])
 | 3=>.R [.V 15 .lss 14 13] (.seq (.W 15 (.skip) (.exit 0)) (.n 2))
 | _=>.skip
def body:C:=.R [.Z 1 A3 0,.al 2 A3 [.str [],.bool false,.sl 3 []]] (.R [.D 6 0 1,.B 7 6,.D 8 1 1,.B 9 8,.bd 10 [.str [],.bool false,.nil] [(0,1,(.s 7)),(1,1,(.s 9))],.al 3 A3 [.str [],.bool false,.nil],.K 3 3 10,.ono A3 3 2 (.s 3)] (.seq (.R [.D 11 2 1,.B 12 11,.Y 13 12,.mv 14 (.i 0)] (.blk 0 (.loop (.n 1)))) (.n 0)))
def rs:List RV:=[.a 2 3]
attribute [push_cast] nd body
theorem ok:okF prog Hh nd body 1 rs=true:=by kernel_rfl
abbrev L3 (a b c d e:V)(B:Nat)(H:LOb)(Q:QX):Prop:=Run prog nd B [.c (.m 3),.c (.loop (.n 1)),.mk 0,.c (.n 0)] [(2,a),(3,b),(12,c),(13,d),(14,e)] H Q
end SA
namespace Ka
def nd:Nat->C
 | 0=>.R [.A 10 0,.U 11 Mu [.s 10],.F 12 11 0,.F 13 11 1,.A 2 12,.A 3 13] (.ret)
 | _=>.skip
def body:C:=.R [.mv 2 (.c (.sl 12 [])),.mv 3 (.i 0)] (.seq (.R [.A 5 0,.U 6 DH [.s 5],.A 4 6] (.R [.A 7 4,.J 8 7] (.W 8 (.R [.A 9 4,.mv 2 (.c (.sl 12 [])),.A 3 9] (.ret)) (.skip)))) (.n 0))
def rs:List RV:=[.t 2,.t 3]
attribute [push_cast] nd body
theorem ok:okF prog Lm nd body 1 rs=true:=by kernel_rfl
end Ka
namespace Nt
def nd (_:Nat):C:=.skip
def body:C:=.R [.mv 2 (.c (.bool false))] (.R [.A 3 0,.U 4 BE [.s 3,(.f IQ)],.Q 5 4,.A 2 5] (.ret))
def rs:List RV:=[.t 2]
attribute [push_cast] nd body
theorem ok:okF prog Lh nd body 1 rs=true:=by kernel_rfl
end Nt
namespace CH
def nd:Nat->C
 | 0=>.R [.mv 2 (.i 0)] (.ret)
 | 1=>.gh [.ks 0 [20,21,22]] (.m 3)
 | 2=>.seq (.blk 1 (.R [.G 24 6 20 22,.E 25 6 24,.al 7 BN [.str [],.bool false,.sl 3 [],.str [],.bool false,.sl 3 []],.L 7 6 25] (.R [.D 26 0 7,.D 27 1 26,.B 28 27,.A 29 28,.P 29 false [30,31,32,33,34,35] [.D 30 3 7,.E 31 3 30,.D 32 0 7,.E 33 3 32,.U 34 NW [.s 31,.s 33],.Q 35 34],.M 36 29 35] (.W 36 (.R [.mv 2 (.i 7)] (.ret)) (.skip))))) (.reg [.X 37 .add 22 1,.A 22 37])
 | 3=>.R [.V 23 .lss 22 21] (.seq (.W 23 (.skip) (.exit 0)) (.n 2))
 | 4=>.seq (.R [.A 20 0,.Y 21 20,.mv 22 (.i 0)] (.blk 0 (.loop (.n 1)))) (.n 0)
 | 5=>.seq (.R [.A 14 0,.U 15 MC [.s 14],.A 13 15,.F 16 13 0,.F 17 13 1,.A 4 16,.A 5 17] (.R [.A 18 5,.Q 19 18] (.W 19 (.R [.mv 2 (.i 6)] (.ret)) (.skip)))) (.n 4)
 | _=>.skip
def body:C:=.R [.mv 2 (.i 0)] (.seq (.R [.A 8 0,.U 9 OT [.s 8],.A 3 9] (.R [.A 10 3,.J 11 10] (.W 11 (.R [.A 12 3,.A 2 12] (.ret)) (.skip)))) (.n 5))
def rs:List RV:=[.t 2]
attribute [push_cast] nd body
theorem ok:okF prog E6 nd body 1 rs=true:=by kernel_rfl
abbrev L3 (a b c:V)(B:Nat)(H:LOb)(Q:QX):Prop:=Run prog nd B [.c (.m 3),.c (.loop (.n 1)),.mk 0,.c (.n 0)] [(20,a),(21,b),(22,c)] H Q
end CH
namespace CS
def nd:Nat->C
 | 0=>.R [.A 80 4,.A 2 80,.mv 3 (.i 0)] (.ret)
 | 1=>.seq (.R [.A 77 4,.Y 78 77,.X 79 .gtr 78 4096] (.W 79 (.R [.mv 2 (.c (.sl 12 [])),.mv 3 (.i 3)] (.ret)) (.skip))) (.n 0)
 | 2=>.gh [.ks 1 [0,4,15,16]] (.m 12)
 | 3=>.gh [.ks 1 [0,4,5,15,16,24,25,26]] (.m 10)
 | 4=>.gh [.ks 2 [0,4,5,7,8,15,16,24,25,26,41,42]] (.m 8)
 | 5=>.R [.A 69 12] (.W 69 (.reg [.A 70 4,.E 71 12 11,.bs 72 12 [.s 71],.app 73 Dy 12 184 (.s 70) (.s 72),.A 4 73]) (.skip))
 | 6=>.R [.A 58 0,.A 59 5,.A 60 10,.A 61 7,.U 62 Wy [.s 58,.s 59,.s 60,.s 61],.A 57 62,.F 63 57 0,.F 64 57 1,.F 65 57 2,.al 11 Dy [.int .i64 0,.int .i64 0,.sl 1 [],.str [],.bool false,.sl 3 [],.str [],.bool false,.sl 3 [],.str [],.bool false,.sl 3 []],.L 11 12 63,.A 12 64,.A 13 65] (.seq (.R [.A 66 13,.J 67 66] (.W 67 (.R [.A 68 13,.mv 2 (.c (.sl 12 [])),.A 3 68] (.ret)) (.skip))) (.n 5))
 | 7=>.seq (.blk 5 (.R [.A 44 42,.A 10 44] (.seq (.R [.D 45 1 8,.B 46 45,.A 47 46,.P 47 false [48,49,50,51] [.A 48 5,.A 49 10,.V 50 .eql 48 49,.A 51 50],.P 51 true [52,53,54] [.A 52 7,.Y 53 52,.X 54 .eql 53 0],.P 47 false [55] [.N 55 51 54],.M 56 47 55] (.W 56 (.exit 5) (.skip))) (.n 6)))) (.reg [.X 74 .add 42 1,.A 42 74])
 | 8=>.R [.V 43 .lss 42 41] (.seq (.W 43 (.skip) (.exit 4)) (.n 7))
 | 9=>.seq (.blk 3 (.R [.G 28 1 24 26,.B 29 28,.A 7 29] (.R [.A 31 0,.A 32 5,.G 33 6 31 32,.D 34 0 33,.E 35 3 34,.A 36 7,.U 37 So [.s 35,.s 36],.A 30 37,.F 38 30 0,.F 39 30 1,.al 8 A3 [.str [],.bool false,.sl 3 []],.L 8 3 38,.A 9 39] (.R [.A 40 0,.Y 41 40,.mv 42 (.i 0)] (.blk 4 (.loop (.n 4))))))) (.reg [.X 75 .add 26 1,.A 26 75])
 | 10=>.R [.V 27 .lss 26 25] (.seq (.W 27 (.skip) (.exit 2)) (.n 9))
 | 11=>.seq (.blk 1 (.R [.A 18 16,.A 5 18] (.R [.A 19 0,.A 20 5,.G 21 6 19 20,.D 22 0 21,.E 23 3 22,.U 24 GS [.s 23],.Y 25 24,.mv 26 (.i 0)] (.blk 2 (.loop (.n 3)))))) (.reg [.X 76 .add 16 1,.A 16 76])
 | 12=>.R [.V 17 .lss 16 15] (.seq (.W 17 (.skip) (.exit 0)) (.n 11))
 | _=>.skip
def body:C:=.R [.mv 2 (.c (.sl 12 [])),.mv 3 (.i 0)] (.R [.mv 4 (.c .nil),.non 4 Dy 12] (.seq (.R [.A 14 0,.Y 15 14,.mv 16 (.i 0)] (.blk 0 (.loop (.n 2)))) (.n 1)))
def rs:List RV:=[.t 2,.t 3]
attribute [push_cast] nd body
theorem ok:okF prog Rj nd body 1 rs=true:=by kernel_rfl
abbrev L8 (a b c d e f g h i j k l:V)(B:Nat)(H:LOb)(Q:QX):Prop:=Run prog nd B [.c (.m 8),.c (.loop (.n 4)),.mk 4,.mk 3,.c (.reg [.X 75 .add 26 1,.A 26 75]),.c (.loop (.n 3)),.mk 2,.mk 1,.c (.reg [.X 76 .add 16 1,.A 16 76]),.c (.loop (.n 2)),.mk 0,.c (.n 1)] [(0,a),(4,b),(5,c),(7,d),(8,e),(15,f),(16,g),(24,h),(25,i),(26,j),(41,k),(42,l)] H Q
abbrev L10 (a b c d e f g h:V)(B:Nat)(H:LOb)(Q:QX):Prop:=Run prog nd B [.c (.m 10),.c (.loop (.n 3)),.mk 2,.mk 1,.c (.reg [.X 76 .add 16 1,.A 16 76]),.c (.loop (.n 2)),.mk 0,.c (.n 1)] [(0,a),(4,b),(5,c),(15,d),(16,e),(24,f),(25,g),(26,h)] H Q
abbrev L12 (a b c d:V)(B:Nat)(H:LOb)(Q:QX):Prop:=Run prog nd B [.c (.m 12),.c (.loop (.n 2)),.mk 0,.c (.n 1)] [(0,a),(4,b),(15,c),(16,d)] H Q
end CS
namespace EI
def nd:Nat->C
 | 0=>.R [.mv 2 (.c (.bool true))] (.ret)
 | 1=>.gh [.ks 0 [5,6,7]] (.m 3)
 | 2=>.seq (.blk 1 (.R [.G 9 6 5 7,.E 10 6 9,.al 4 BN [.str [],.bool false,.sl 3 [],.str [],.bool false,.sl 3 []],.L 4 6 10] (.R [.D 11 0 4,.E 12 3 11,.U 13 Nv [.s 12],.Q 14 13] (.W 14 (.R [.mv 2 (.c (.bool false))] (.ret)) (.skip))))) (.reg [.X 15 .add 7 1,.A 7 15])
 | 3=>.R [.V 8 .lss 7 6] (.seq (.W 8 (.skip) (.exit 0)) (.n 2))
 | _=>.skip
def body:C:=.R [.mv 2 (.c (.bool false))] (.seq (.R [.A 5 0,.Y 6 5,.mv 7 (.i 0)] (.blk 0 (.loop (.n 1)))) (.n 0))
def rs:List RV:=[.t 2]
attribute [push_cast] nd body
theorem ok:okF prog IX nd body 1 rs=true:=by kernel_rfl
abbrev L3 (a b c:V)(B:Nat)(H:LOb)(Q:QX):Prop:=Run prog nd B [.c (.m 3),.c (.loop (.n 1)),.mk 0,.c (.n 0)] [(5,a),(6,b),(7,c)] H Q
end EI
namespace Jb
def nd:Nat->C
 | 0=>.R [.A 54 11,.A 55 12,.X 56 .add 55 1,.A 8 54,.A 9 56] (.ret)
 | 1=>.gh [.ks 0 [1,2,3,11,12,32,33,34]] (.m 3)
 | 2=>.seq (.blk 1 (.R [.G 36 3 32 34,.E 37 3 36,.al 14 A3 [.str [],.bool false,.sl 3 []],.L 14 3 37] (.R [.E 39 3 14,.A 40 1,.A 41 2,.A 42 3,.U 43 Kl [.s 39,.s 40,.s 41,.s 42],.A 38 43,.F 44 38 0,.F 45 38 1,.A 15 44,.A 16 45] (.R [.A 46 11,.A 47 15,.V 48 .add 46 47,.mn 49 (.i 1099511627776) (.s 48),.A 11 49] (.reg [.A 50 12,.A 51 16,.mx 52 (.s 50) (.s 51),.A 12 52]))))) (.reg [.X 53 .add 34 1,.A 34 53])
 | 3=>.R [.V 35 .lss 34 33] (.seq (.W 35 (.skip) (.exit 0)) (.n 2))
 | 4=>.R [.mv 11 (.i 1),.mv 12 (.i 0)] (.seq (.R [.D 31 2 4,.B 32 31,.Y 33 32,.mv 34 (.i 0)] (.blk 0 (.loop (.n 1)))) (.n 0))
 | _=>.skip
def body:C:=.R [.Z 4 A3 0,.mv 8 (.i 0),.mv 9 (.i 0)] (.seq (.R [.D 17 1 4,.B 18 17] (.W 18 (.R [.A 19 1,.D 20 0 4,.B 21 20,.U 22 M5 [.s 19,.s 21],.A 10 22] (.seq (.dr [0,1,2,3,4,5,6,7,8,9] [.A 23 2,.A 24 10,.G 25 1 23 24,.B 26 25,.A 27 3,.A 28 10,.G 29 1 27 28,.B 30 29,.A 8 26,.A 9 30]) (.ret))) (.skip))) (.n 4))
def rs:List RV:=[.t 8,.t 9]
attribute [push_cast] nd body
theorem ok:okF prog Kl nd body 4 rs=true:=by kernel_rfl
abbrev L3 (a b c d e f g h:V)(B:Nat)(H:LOb)(Q:QX):Prop:=Run prog nd B [.c (.m 3),.c (.loop (.n 1)),.mk 0,.c (.n 0)] [(1,a),(2,b),(3,c),(11,d),(12,e),(32,f),(33,g),(34,h)] H Q
end Jb
namespace WF
def nd:Nat->C
 | 0=>.R [.D 8 0 2,.E 9 3 8,.K 3 4 9] (.ret)
 | _=>.skip
def body:C:=.R [.Z 2 BN 0,.al 4 A3 [.str [],.bool false,.sl 3 []]] (.seq (.R [.A 5 1] (.W 5 (.R [.D 6 3 2,.E 7 3 6,.K 3 4 7] (.ret)) (.skip))) (.n 0))
def rs:List RV:=[.a 4 3]
attribute [push_cast] nd body
theorem ok:okF prog NQ nd body 2 rs=true:=by kernel_rfl
end WF
namespace N6
def nd:Nat->C
 | 0=>.R [.E 33 3 5,.K 3 4 33] (.ret)
 | 1=>.gh [.ks 3 [0,4,5,18,19,20]] (.m 3)
 | 2=>.seq (.blk 1 (.R [.G 22 3 18 20,.E 23 3 22,.al 7 A3 [.str [],.bool false,.sl 3 []],.L 7 3 23] (.dr [0,1,2,3,4,5,6,7,8] [.D 24 2 5,.B 25 24,.A 26 0,.E 27 3 7,.U 28 CG [.s 26,.s 27],.bs 29 3 [.s 28],.app 30 A3 3 48 (.s 25) (.s 29),.D 31 2 5,.K 1 31 30]))) (.reg [.X 32 .add 20 1,.A 20 32])
 | 3=>.R [.V 21 .lss 20 19] (.seq (.W 21 (.skip) (.exit 0)) (.n 2))
 | 4=>.R [.D 14 0 3,.B 15 14,.bd 16 [.str [],.bool false,.nil] [(0,1,(.s 15))],.al 5 A3 [.str [],.bool false,.nil],.K 3 5 16,.ono A3 3 2 (.s 5)] (.seq (.R [.D 17 2 3,.B 18 17,.Y 19 18,.mv 20 (.i 0)] (.blk 0 (.loop (.n 1)))) (.n 0))
 | _=>.skip
def body:C:=.R [.Z 3 A3 1,.al 4 A3 [.str [],.bool false,.sl 3 []]] (.seq (.R [.D 8 1 3,.B 9 8] (.W 9 (.R [.A 10 0,.D 11 0 3,.B 12 11,.U 13 Hz [.s 10,.s 12],.K 3 4 13] (.ret)) (.skip))) (.n 4))
def rs:List RV:=[.a 4 3]
attribute [push_cast] nd body
theorem ok:okF prog CG nd body 2 rs=true:=by kernel_rfl
abbrev L3 (a b c d e f:V)(B:Nat)(H:LOb)(Q:QX):Prop:=Run prog nd B [.c (.m 3),.c (.loop (.n 1)),.mk 0,.c (.n 0)] [(0,a),(4,b),(5,c),(18,d),(19,e),(20,f)] H Q
end N6
namespace FV
def nd:Nat->C
 | 0=>.R [.A 11 0,.bin 12 .neq (.s 11) (.c (.str [])),.A 13 12,.P 13 true [14,15,16,17] [.A 14 0,.s2b 15 (.s 14),.U 16 BH [.s 15,(.f GQ)],.Q 17 16],.N 18 13 17,.A 4 18] (.ret)
 | 1=>.seq (.R [.A 8 1] (.W 8 (.reg [.A 9 0,.U 10 FT [.s 9,(.c (.str [35]))],.A 0 10]) (.skip))) (.n 0)
 | _=>.skip
def body:C:=.R [.mv 4 (.c (.bool false))] (.seq (.R [.A 5 0,.lens 6 (.s 5),.X 7 .gtr 6 24] (.W 7 (.R [.mv 4 (.c (.bool false))] (.ret)) (.skip))) (.n 1))
def rs:List RV:=[.t 4]
attribute [push_cast] nd body
theorem ok:okF prog Du nd body 2 rs=true:=by kernel_rfl
end FV
namespace CK
def nd (_:Nat):C:=.skip
def body:C:=.R [.mv 4 (.c (.bool false))] (.R [.A 5 0,.A 6 1,.U 7 B8 [.s 5,.s 6],.X 8 .geq 7 0,.A 4 8] (.ret))
def rs:List RV:=[.t 4]
attribute [push_cast] nd body
theorem ok:okF prog AL nd body 2 rs=true:=by kernel_rfl
end CK
namespace Mm
def nd (_:Nat):C:=.skip
def body:C:=.R [.Z 1 A3 0,.mv 2 (.c (.bool false))] (.R [.E 3 3 1,.U 4 Ji [.s 3],.Q 5 4,.A 2 5] (.ret))
def rs:List RV:=[.t 2]
attribute [push_cast] nd body
theorem ok:okF prog JZ nd body 1 rs=true:=by kernel_rfl
end Mm
namespace Qa
def nd:Nat->C
 | 0=>.R [.A 18 3,.A 2 18] (.ret)
 | 1=>.gh [.ks 0 [3,7,8,9]] (.m 3)
 | 2=>.seq (.blk 1 (.R [.G 11 3 7 9,.E 12 3 11,.al 5 A3 [.str [],.bool false,.sl 3 []],.L 5 3 12] (.reg [.A 13 3,.E 14 3 5,.U 15 JK [.s 14],.V 16 .add 13 15,.A 3 16]))) (.reg [.X 17 .add 9 1,.A 9 17])
 | 3=>.R [.V 10 .lss 9 8] (.seq (.W 10 (.skip) (.exit 0)) (.n 2))
 | _=>.skip
def body:C:=.R [.Z 1 A3 0,.mv 2 (.i 0)] (.R [.mv 3 (.i 1)] (.seq (.R [.D 6 2 1,.B 7 6,.Y 8 7,.mv 9 (.i 0)] (.blk 0 (.loop (.n 1)))) (.n 0)))
def rs:List RV:=[.t 2]
attribute [push_cast] nd body
theorem ok:okF prog JK nd body 1 rs=true:=by kernel_rfl
abbrev L3 (a b c d:V)(B:Nat)(H:LOb)(Q:QX):Prop:=Run prog nd B [.c (.m 3),.c (.loop (.n 1)),.mk 0,.c (.n 0)] [(3,a),(7,b),(8,c),(9,d)] H Q
end Qa
namespace Nl
def nd:Nat->C
 | 0=>.R [.A 18 3,.X 19 .add 18 1,.A 2 19] (.ret)
 | 1=>.gh [.ks 0 [3,7,8,9]] (.m 3)
 | 2=>.seq (.blk 1 (.R [.G 11 3 7 9,.E 12 3 11,.al 5 A3 [.str [],.bool false,.sl 3 []],.L 5 3 12] (.reg [.A 13 3,.E 14 3 5,.U 15 Iu [.s 14],.mx 16 (.s 13) (.s 15),.A 3 16]))) (.reg [.X 17 .add 9 1,.A 9 17])
 | 3=>.R [.V 10 .lss 9 8] (.seq (.W 10 (.skip) (.exit 0)) (.n 2))
 | _=>.skip
def body:C:=.R [.Z 1 A3 0,.mv 2 (.i 0)] (.R [.mv 3 (.i 0)] (.seq (.R [.D 6 2 1,.B 7 6,.Y 8 7,.mv 9 (.i 0)] (.blk 0 (.loop (.n 1)))) (.n 0)))
def rs:List RV:=[.t 2]
attribute [push_cast] nd body
theorem ok:okF prog Iu nd body 1 rs=true:=by kernel_rfl
abbrev L3 (a b c d:V)(B:Nat)(H:LOb)(Q:QX):Prop:=Run prog nd B [.c (.m 3),.c (.loop (.n 1)),.mk 0,.c (.n 0)] [(3,a),(7,b),(8,c),(9,d)] H Q
end Nl
namespace Us
def nd (_:Nat):C:=.skip
def body:C:=.reg [.E 3 3 1,.A 4 0,.call (some 5) Gb [.s 3,(.c (.sl 1 [])),.s 4]]
def rs:List RV:=[]
attribute [push_cast] nd body
theorem ok:okF prog D3 nd body 2 rs=true:=by kernel_rfl
end Us
namespace Tz
def nd:Nat->C
 | 0=>.R [.mv 6 (.c (.bool true))] (.ret)
 | 1=>.gh [.ks 0 [1,2,15,16,17]] (.m 3)
 | 2=>.seq (.blk 1 (.R [.A 19 17,.G 20 3 15 17,.E 21 3 20,.al 8 A3 [.str [],.bool false,.sl 3 []],.A 7 19,.L 8 3 21] (.seq (.dr [1,3,4,6] [.A 23 1,.A 25 7,.bs 26 1 [.s 25],.A 28 2,.alt [([0,2,5,7,8],[.E 22 3 8,.call (some 24) BI [.s 23],.app 27 EA 1 8 (.s 24) (.s 26),.call (some 29) Gb [.s 22,.s 27,.s 28],.Q 30 29]),([2,0,5,7,8],[.call (some 24) BI [.s 23],.E 22 3 8,.app 27 EA 1 8 (.s 24) (.s 26),.call (some 29) Gb [.s 22,.s 27,.s 28],.Q 30 29])]]) (.W 30 (.R [.mv 6 (.c (.bool false))] (.ret)) (.skip))))) (.reg [.X 31 .add 17 1,.A 17 31])
 | 3=>.R [.V 18 .lss 17 16] (.seq (.W 18 (.skip) (.exit 0)) (.n 2))
 | 4=>.seq (.R [.D 14 2 3,.B 15 14,.Y 16 15,.mv 17 (.i 0)] (.blk 0 (.loop (.n 1)))) (.n 0)
 | _=>.skip
def body:C:=.R [.Z 3 A3 0,.mv 6 (.c (.bool false))] (.seq (.R [.A 9 2,.A 10 1,.E 11 3 3,.callv (some 12) (.s 9) [.s 10,.s 11],.Q 13 12] (.W 13 (.R [.mv 6 (.c (.bool false))] (.ret)) (.skip))) (.n 4))
def rs:List RV:=[.t 6]
attribute [push_cast] nd body
theorem ok:okF prog Gb nd body 3 rs=true:=by kernel_rfl
abbrev L3 (a b c d e:V)(B:Nat)(H:LOb)(Q:QX):Prop:=Run prog nd B [.c (.m 3),.c (.loop (.n 1)),.mk 0,.c (.n 0)] [(1,a),(2,b),(15,c),(16,d),(17,e)] H Q
end Tz
namespace Cw
def nd:Nat->C
 | 0=>.R [.bo 5 EA 1 [],.A 6 0,.app 7 EA 1 8 (.s 5) (.s 6),.A 2 7] (.ret)
 | _=>.skip
def body:C:=.R [.mv 2 (.c .nil),.non 2 EA 1] (.seq (.R [.A 3 0,.nl 4 false (.s 3)] (.W 4 (.R [.mv 2 (.c .nil),.non 2 EA 1] (.ret)) (.skip))) (.n 0))
def rs:List RV:=[.t 2]
attribute [push_cast] nd body
theorem ok:okF prog BI nd body 1 rs=true:=by kernel_rfl
end Cw
namespace F7
def nd:Nat->C
 | 0=>.R [.A 18 0,.bin 19 .neq (.s 18) (.c (.str [])),.A 20 19,.P 20 true [21,22] [.A 21 0,.U 22 Js [.s 21]],.N 23 20 22,.A 4 23] (.ret)
 | 1=>.seq (.R [.A 8 1,.A 9 8,.P 9 true [10,11] [.A 10 0,.U 11 Kf [.s 10]],.N 12 9 11] (.W 12 (.reg [.A 13 0,.A 14 0,.lens 15 (.s 14),.X 16 .sub 15 1,.sxs 17 (.s 13) none (some (.s 16)),.A 0 17]) (.skip))) (.n 0)
 | _=>.skip
def body:C:=.R [.mv 4 (.c (.bool false))] (.seq (.R [.A 5 0,.lens 6 (.s 5),.X 7 .gtr 6 24] (.W 7 (.R [.mv 4 (.c (.bool false))] (.ret)) (.skip))) (.n 1))
def rs:List RV:=[.t 4]
attribute [push_cast] nd body
theorem ok:okF prog E5 nd body 2 rs=true:=by kernel_rfl
end F7
namespace Eh
def nd:Nat->C
 | 0=>.R [.A 34 3,.A 2 34] (.ret)
 | 1=>.gh [.ks 1 [3,11,12,13]] (.m 6)
 | 2=>.gh [.ks 2 [3,4,11,12,13,19,20,21]] (.m 4)
 | 3=>.seq (.blk 3 (.R [.G 23 1 19 21,.B 24 23,.A 7 24] (.reg [.A 25 3,.A 26 4,.bo 27 EA 1 [.s 26],.A 28 7,.app 29 EA 1 8 (.s 27) (.s 28),.bs 30 1 [.s 29],.app 31 Vq 1 24 (.s 25) (.s 30),.A 3 31]))) (.reg [.X 32 .add 21 1,.A 21 32])
 | 4=>.R [.V 22 .lss 21 20] (.seq (.W 22 (.skip) (.exit 2)) (.n 3))
 | 5=>.seq (.blk 1 (.R [.A 15 13,.G 16 3 11 13,.E 17 3 16,.al 5 A3 [.str [],.bool false,.sl 3 []],.A 4 15,.L 5 3 17] (.R [.E 18 3 5,.U 19 GS [.s 18],.Y 20 19,.mv 21 (.i 0)] (.blk 2 (.loop (.n 2)))))) (.reg [.X 33 .add 13 1,.A 13 33])
 | 6=>.R [.V 14 .lss 13 12] (.seq (.W 14 (.skip) (.exit 0)) (.n 5))
 | _=>.skip
def body:C:=.R [.Z 1 A3 0,.mv 2 (.c (.sl 1 []))] (.R [.bs 8 1 [],.bo 9 Vq 1 [.s 8],.A 3 9] (.seq (.R [.D 10 2 1,.B 11 10,.Y 12 11,.mv 13 (.i 0)] (.blk 0 (.loop (.n 1)))) (.n 0)))
def rs:List RV:=[.t 2]
attribute [push_cast] nd body
theorem ok:okF prog GS nd body 1 rs=true:=by kernel_rfl
abbrev L4 (a b c d e f g h:V)(B:Nat)(H:LOb)(Q:QX):Prop:=Run prog nd B [.c (.m 4),.c (.loop (.n 2)),.mk 2,.mk 1,.c (.reg [.X 33 .add 13 1,.A 13 33]),.c (.loop (.n 1)),.mk 0,.c (.n 0)] [(3,a),(4,b),(11,c),(12,d),(13,e),(19,f),(20,g),(21,h)] H Q
abbrev L6 (a b c d:V)(B:Nat)(H:LOb)(Q:QX):Prop:=Run prog nd B [.c (.m 6),.c (.loop (.n 1)),.mk 0,.c (.n 0)] [(3,a),(11,b),(12,c),(13,d)] H Q
end Eh
namespace U1
def nd:Nat->C
 | 0=>.R [.E 30 3 2,.K 3 4 30,.mv 5 (.c (.bool true))] (.ret)
 | 1=>.gh [.ks 2 [2,4,8,9,10]] (.m 3)
 | 2=>.seq (.blk 1 (.R [.G 12 1 8 10,.B 13 12,.A 7 13] (.seq (.R [.A 14 7,.X 15 .lss 14 0,.A 16 15,.P 16 false [17,18,19,20,21] [.A 17 7,.D 18 2 2,.B 19 18,.Y 20 19,.V 21 .geq 17 20],.M 22 16 21] (.W 22 (.R [.bd 23 [.str [],.bool false,.sl 3 []] [],.K 3 4 23,.mv 5 (.c (.bool false))] (.ret)) (.skip))) (.reg [.D 24 2 2,.B 25 24,.A 26 7,.G 27 3 25 26,.E 28 3 27,.K 3 2 28])))) (.reg [.X 29 .add 10 1,.A 10 29])
 | 3=>.R [.V 11 .lss 10 9] (.seq (.W 11 (.skip) (.exit 0)) (.n 2))
 | _=>.skip
def body:C:=.R [.bx 2 A3 (.s 0),.al 4 A3 [.str [],.bool false,.sl 3 []],.mv 5 (.c (.bool false))] (.seq (.R [.A 8 1,.Y 9 8,.mv 10 (.i 0)] (.blk 0 (.loop (.n 1)))) (.n 0))
def rs:List RV:=[.a 4 3,.t 5]
attribute [push_cast] nd body
theorem ok:okF prog So nd body 2 rs=true:=by kernel_rfl
abbrev L3 (a b c d e:V)(B:Nat)(H:LOb)(Q:QX):Prop:=Run prog nd B [.c (.m 3),.c (.loop (.n 1)),.mk 0,.c (.n 0)] [(2,a),(4,b),(8,c),(9,d),(10,e)] H Q
end U1
namespace DU
def nd:Nat->C
 | 0=>.R [.mv 2 (.i 0)] (.ret)
 | 1=>.gh [.ks 0 [9,10,11]] (.m 3)
 | 2=>.seq (.blk 1 (.R [.G 13 6 9 11,.E 14 6 13,.al 4 BN [.str [],.bool false,.sl 3 [],.str [],.bool false,.sl 3 []],.L 4 6 14] (.R [.D 15 0 4,.E 16 3 15,.D 17 3 4,.E 18 3 17,.bs 19 3 [.s 16,.s 18],.U 20 Rd [.s 19],.A 5 20] (.R [.A 21 5,.J 22 21] (.W 22 (.R [.A 23 5,.A 2 23] (.ret)) (.skip)))))) (.reg [.X 24 .add 11 1,.A 11 24])
 | 3=>.R [.V 12 .lss 11 10] (.seq (.W 12 (.skip) (.exit 0)) (.n 2))
 | 4=>.seq (.R [.A 9 0,.Y 10 9,.mv 11 (.i 0)] (.blk 0 (.loop (.n 1)))) (.n 0)
 | _=>.skip
def body:C:=.R [.mv 2 (.i 0)] (.seq (.R [.A 6 0,.Y 7 6,.X 8 .gtr 7 64] (.W 8 (.R [.mv 2 (.i 3)] (.ret)) (.skip))) (.n 4))
def rs:List RV:=[.t 2]
attribute [push_cast] nd body
theorem ok:okF prog Il nd body 1 rs=true:=by kernel_rfl
abbrev L3 (a b c:V)(B:Nat)(H:LOb)(Q:QX):Prop:=Run prog nd B [.c (.m 3),.c (.loop (.n 1)),.mk 0,.c (.n 0)] [(9,a),(10,b),(11,c)] H Q
end DU
namespace Ea
def nd:Nat->C
 | 0=>.R [.B 57 4,.K 1 2 57,.st 1 (.s 3) (.c (.bool true))] (.ret)
 | 1=>.gh [.ks 4 [2,3,4,10,14,15,16]] (.m 8)
 | 2=>.gh [.ks 5 [2,3,4,10,14,15,16,24,25]] (.m 6)
 | 3=>.seq (.R [.B 35 4,.D 36 0 10,.B 37 36,.lkp 38 true true (.int .i64 0) (.s 35) (.s 37),.A 34 38,.F 39 34 0,.F 40 34 1,.A 11 39,.A 12 40] (.R [.A 41 12,.A 42 41,.P 42 true [43,44,45,46,47] [.A 43 11,.D 44 2 10,.B 45 44,.Y 46 45,.V 47 .neq 43 46],.N 48 42 47] (.W 48 (.R [.st 1 (.s 2) (.c .nilm),.st 1 (.s 3) (.c (.bool false))] (.ret)) (.skip)))) (.reg [.B 49 4,.D 50 0 10,.B 51 50,.D 52 2 10,.B 53 52,.Y 54 53,.mup true (.s 49) (.s 51) (.s 54)])
 | 4=>.blk 5 (.seq (.R [.D 32 1 10,.B 33 32] (.W 33 (.exit 5) (.skip))) (.n 3))
 | 5=>.seq (.blk 3 (.R [.ixa 27 3 2 (some 3) (.s 24) (.s 25),.al 8 A3 [.str [],.bool false,.sl 3 []],.L 8 3 27] (.R [.E 28 3 8,.U 29 HD [.s 28]] (.blk 4 (.rf (.s 29) [30,31] (.reg [.al 10 A3 [.str [],.bool false,.sl 3 []],.L 10 3 31]) (.m 4)))))) (.reg [.X 55 .add 25 1,.A 25 55])
 | 6=>.R [.X 26 .lss 25 2] (.seq (.W 26 (.skip) (.exit 2)) (.n 5))
 | 7=>.seq (.blk 1 (.R [.G 18 6 14 16,.E 19 6 18,.al 6 BN [.str [],.bool false,.sl 3 [],.str [],.bool false,.sl 3 []],.L 6 6 19] (.R [.D 20 0 6,.E 21 3 20,.D 22 3 6,.E 23 3 22,.bd 24 [.str [],.bool false,.sl 3 [],.str [],.bool false,.sl 3 []] [(0,3,(.s 21)),(3,3,(.s 23))],.mv 25 (.i 0)] (.blk 2 (.loop (.n 2)))))) (.reg [.X 56 .add 16 1,.A 16 56])
 | 8=>.R [.V 17 .lss 16 15] (.seq (.W 17 (.skip) (.exit 0)) (.n 7))
 | _=>.skip
def body:C:=.R [.al 2 HN [.nilm],.al 3 fX [.bool false]] (.R [.mkm 13,.al 4 HN [.nilm],.K 1 4 13] (.seq (.R [.A 14 0,.Y 15 14,.mv 16 (.i 0)] (.blk 0 (.loop (.n 1)))) (.n 0)))
def rs:List RV:=[.c 2,.c 3]
attribute [push_cast] nd body
theorem ok:okF prog I3 nd body 1 rs=true:=by kernel_rfl
abbrev L6 (a b c d e f g h i:V)(B:Nat)(H:LOb)(Q:QX):Prop:=Run prog nd B [.c (.m 6),.c (.loop (.n 2)),.mk 2,.mk 1,.c (.reg [.X 56 .add 16 1,.A 16 56]),.c (.loop (.n 1)),.mk 0,.c (.n 0)] [(2,a),(3,b),(4,c),(10,d),(14,e),(15,f),(16,g),(24,h),(25,i)] H Q
abbrev L8 (a b c d e f g:V)(B:Nat)(H:LOb)(Q:QX):Prop:=Run prog nd B [.c (.m 8),.c (.loop (.n 1)),.mk 0,.c (.n 0)] [(2,a),(3,b),(4,c),(10,d),(14,e),(15,f),(16,g)] H Q
end Ea
namespace Pe
def nd (_:Nat):C:=.skip
def body:C:=.R [.mv 2 (.c (.bool false))] (.R [.A 3 0,.U 4 Gx [.s 3,(.c (.str [35]))],.A 2 4] (.ret))
def rs:List RV:=[.t 2]
attribute [push_cast] nd body
theorem ok:okF prog Mr nd body 1 rs=true:=by kernel_rfl
end Pe
namespace CI
def nd (_:Nat):C:=.skip
def body:C:=.R [.mv 4 (.c (.bool false))] (.R [.A 5 0,.A 6 1,.U 7 CW [.s 5,.s 6],.X 8 .geq 7 0,.A 4 8] (.ret))
def rs:List RV:=[.t 4]
attribute [push_cast] nd body
theorem ok:okF prog BE nd body 2 rs=true:=by kernel_rfl
end CI
namespace NG
def nd (_:Nat):C:=.skip
def body:C:=.R [.Z 1 BN 0,.mv 2 (.c (.bool false))] (.R [.D 4 0 1,.E 5 3 4,.bs 6 3 [.s 5],.U 7 D2 [.s 6],.al 3 VH [.sl 1 []],.L 3 1 7] (.R [.D 8 0 1,.D 9 1 8,.B 10 9,.A 11 10,.P 11 false [12,13,14,15,16,17] [.D 12 3 1,.E 13 3 12,.bs 14 3 [.s 13],.U 15 D2 [.s 14],.mf 16 Po [] [.s 3],.U 17 Bk [.s 15,.s 16]],.M 18 11 17,.A 2 18] (.ret)))
def rs:List RV:=[.t 2]
attribute [push_cast] nd body
theorem ok:okF prog Km nd body 1 rs=true:=by kernel_rfl
end NG
namespace J0
def nd:Nat->C
 | 0=>.R [.mv 4 (.i 0)] (.ret)
 | 1=>.seq (.R [.E 19 4 3,.U 20 Mg [.s 19],.Q 21 20] (.W 21 (.R [.mv 4 (.i 3)] (.ret)) (.skip))) (.n 0)
 | 2=>.seq (.R [.A 15 0,.E 16 4 3,.U 17 Kw [.s 15,.s 16],.Q 18 17] (.W 18 (.R [.mv 4 (.i 4)] (.ret)) (.skip))) (.n 1)
 | 3=>.seq (.R [.A 11 0,.E 12 4 3,.U 13 Kh [.s 11,.s 12],.Q 14 13] (.W 14 (.R [.mv 4 (.i 8)] (.ret)) (.skip))) (.n 2)
 | _=>.skip
def body:C:=.R [.Z 3 A7 1,.mv 4 (.i 0)] (.seq (.R [.A 6 0,.U 7 E6 [.s 6],.A 5 7] (.R [.A 8 5,.J 9 8] (.W 9 (.R [.A 10 5,.A 4 10] (.ret)) (.skip)))) (.n 3))
def rs:List RV:=[.t 4]
attribute [push_cast] nd body
theorem ok:okF prog PE nd body 2 rs=true:=by kernel_rfl
end J0
namespace SX
def nd:Nat->C
 | 0=>.R [.A 16 3,.A 2 16] (.ret)
 | 1=>.gh [.ks 0 [3,6,7,8]] (.m 3)
 | 2=>.seq (.blk 1 (.R [.G 10 3 6 8,.E 11 3 10,.al 5 A3 [.str [],.bool false,.sl 3 []],.L 5 3 11] (.reg [.E 12 3 5,.A 13 3,.U 14 Jp [.s 12,.s 13],.A 3 14]))) (.reg [.X 15 .add 8 1,.A 8 15])
 | 3=>.R [.V 9 .lss 8 7] (.seq (.W 9 (.skip) (.exit 0)) (.n 2))
 | _=>.skip
def body:C:=.R [.mv 2 (.c (.sl 1 []))] (.R [.mv 3 (.c (.sl 1 []))] (.seq (.R [.A 6 0,.Y 7 6,.mv 8 (.i 0)] (.blk 0 (.loop (.n 1)))) (.n 0)))
def rs:List RV:=[.t 2]
attribute [push_cast] nd body
theorem ok:okF prog KY nd body 1 rs=true:=by kernel_rfl
abbrev L3 (a b c d:V)(B:Nat)(H:LOb)(Q:QX):Prop:=Run prog nd B [.c (.m 3),.c (.loop (.n 1)),.mk 0,.c (.n 0)] [(3,a),(6,b),(7,c),(8,d)] H Q
end SX
end Go.Dw
end
