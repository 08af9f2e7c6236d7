/-
  Contracts and lemmas for ResidualDivides: part d of 10.
-/
import Derived.Test.YtkdcfkfdkimaeaaGreatDoorVac
import Derived.Test.YtkdcfkfdkimaeaaGreatDoorProg
set_option linter.unusedVariables false
set_option linter.unusedSimpArgs false
set_option maxRecDepth 100000
section
namespace Go.Dw
section
variable {P:Program} {N:Nat->C} {B:Nat} {s:List K} {t:T} {H:List Ob} {Q:X->T->List Ob->Prop}
theorem rX:AB P N B [] t H Q↔Q .fall t H:=⟨fun h=>by cases h;assumption,.done⟩
theorem tf:AB P N B (.c .skip::s) t H Q↔AB P N B s t H Q:=⟨fun h=>by cases h;assumption,.skip⟩
theorem xE {a b:C}:AB P N B (.c (.seq a b)::s) t H Q↔AB P N B (.c a::.c b::s) t H Q:=⟨fun h=>by cases h;assumption,.seq⟩
theorem wF {l:List S}:AB P N B (.c (.reg l)::s) t H Q↔AB P N B (.r l::s) t H Q:=⟨fun h=>by cases h;assumption,.reg⟩
theorem Aaj {π:List Nat}{l:List S}:AB P N B (.c (.dr π l)::s) t H Q↔AB P N B (.r l::s) t H Q:=⟨fun h=>by cases h;assumption,.dr⟩
theorem Aa0 {l:List I}{c:C}:AB P N B (.c (.gh l c)::s) t H Q↔AB P N B (.r (l.map .op)::.c c::s) t H Q:=⟨fun h=>by cases h;assumption,.gh⟩
theorem oQ:AB P N B (.r []::s) t H Q↔AB P N B s t H Q:=⟨fun h=>by cases h;assumption,.rend⟩
theorem ww {id:Nat}{a:C}:AB P N B (.c (.blk id a)::s) t H Q↔AB P N B (.c a::.mk id::s) t H Q:=⟨fun h=>by cases h;assumption,.blk⟩
theorem zr {id:Nat}:AB P N B (.mk id::s) t H Q↔AB P N B s t H Q:=⟨fun h=>by cases h;assumption,.mk⟩
theorem rC {a:C}:AB P N B (.c (.loop a)::s) t H Q↔AB P N B (.c a::.c (.loop a)::s) t H Q:=⟨fun h=>by cases h;assumption,.loop⟩
theorem xL:AB P N B (.c .ret::s) t H Q↔Q .ret t H:=⟨fun h=>by cases h;assumption,.ret⟩
abbrev DW (a b c d : Nat) : List K := [.c (.m a),.c (.loop (.n b)),.mk c,.c (.n d)]
abbrev Dh := List Ob
abbrev QX := X->T->List Ob->Prop
theorem A8 {k:Nat}:AB P N B (.c (.m k)::s) t H Q↔AB P N B (.c (N k)::s) t H Q:=⟨fun h=>by cases h;assumption,.m⟩
theorem yA:AB P N B (.c .bad::s) t H Q↔False:=⟨fun h=>(by cases h),False.elim⟩
/- The continuations are no functions: rewriting would run them ahead of time,with nothing known. -/
def nlP (P:Program)(N:Nat->C)(B:Nat)(l:List S)(s:List K)(t:T)(H:List Ob)(Q:X->T->List Ob->Prop)(d:Nat)(ne:Bool):Option (List (List V))->Prop
 | some els=>∀ c:Bool,(c=true->els=[])->AB P N B (.r l::s) ((d,.bool (c != ne))::t) H Q
 | none=>False
theorem tG {els:List (List V)}{d:Nat}{ne:Bool}{l:List S}:nlP P N B l s t H Q d ne (some els)=∀ c:Bool,(c=true->els=[])->AB P N B (.r l::s) ((d,.bool (c != ne))::t) H Q:=rfl
theorem zA {d:Nat}{ne:Bool}{x:O}{l:List S}:AB P N B (.r (.nl d ne x::l)::s) t H Q↔nlP P N B l s t H Q d ne (We (ev t x)):=by
 constructor
 ·intro h
  cases h with
  | nl els h1 h2=>rw[h1];exact h2
 ·intro h
  cases he:We (ev t x)with
  | none=>rw[he]at h;exact h.elim
  | some els=>rw[he]at h;exact .nl els he h
theorem qL {k:Nat}:AB P N B (.c (.n k)::s) t H Q↔AB P N B (.c (N k)::s) t H Q:=⟨fun h=>by cases h;assumption,.n⟩
def goP (P:Program)(N:Nat->C)(B:Nat)(id:Nat)(t:T)(H:List Ob)(Q:X->T->List Ob->Prop):Option (List K)->Prop
 | some s=>AB P N B s t H Q
 | none=>Q (.exit id) t H
theorem rq {id:Nat}:goP P N B id t H Q (some s)=AB P N B s t H Q:=rfl
theorem qB {id:Nat}:goP P N B id t H Q none=Q (.exit id) t H:=rfl
theorem qf {id:Nat}:AB P N B (.c (.exit id)::s) t H Q↔goP P N B id t H Q (Ko id s):=by
 constructor
 ·intro h
  cases h with
  | exit s' h1 h2=>rw[h1];exact h2
  | exitX h1 h2=>rw[h1];exact h2
 ·intro h
  cases hp:Ko id s with
  | some s'=>rw[hp]at h;exact .exit s' hp h
  | none=>rw[hp]at h;exact .exitX hp h
def yM (P:Program)(N:Nat->C)(B:Nat)(l:List S)(s:List K)(Q:X->T->List Ob->Prop):Option (T×List Ob)->Prop
 | some (t,H)=>AB P N B (.r l::s) t H Q
 | none=>False
theorem tC {l:List S}:yM P N B l s Q (some (t,H))=AB P N B (.r l::s) t H Q:=rfl
theorem sK {l:List S}:yM P N B l s Q none=False:=rfl
theorem wq {c:Prop}[Decidable c]{o:Option (T×List Ob)}{l:List S}:yM P N B l s Q (if c then o else none)↔c/\yM P N B l s Q o:=by by_cases h:c<;>simp[h,yM]
theorem Abv {i:I}{l:List S}:AB P N B (.r (.op i::l)::s) t H Q↔yM P N B l s Q (Az B i t H):=by
 constructor
 ·intro h
  cases h with
  | op t' H' h1 h2=>rw[h1];exact h2
 ·intro h
  cases he:Az B i t H with
  | none=>rw[he]at h;exact h.elim
  | some p=>rw[he]at h;exact .op p.1 p.2 he h
def uO (P:Program)(N:Nat->C)(B:Nat)(l:List S)(s:List K)(Q:X->T->List Ob->Prop)(d:Nat)(t:T)(H:List Ob):Option V->Prop
 | some v=>AB P N B (.r l::s) ((d,v)::t) H Q
 | none=>False
theorem pJ {l:List S}{d:Nat}{v:V}:uO P N B l s Q d t H (some v)=AB P N B (.r l::s) ((d,v)::t) H Q:=rfl
theorem tz {l:List S}{d:Nat}:uO P N B l s Q d t H none=False:=rfl
theorem uQ {l:List S}{d:Nat}{c:Prop}[Decidable c]{o:Option V}:uO P N B l s Q d t H (if c then o else none)↔c/\uO P N B l s Q d t H o:=by by_cases h:c<;>simp[h,uO]
theorem sV {l:List S}{d:Nat}{c:Prop}[Decidable c]{o:Option V}:uO P N B l s Q d t H (if c then none else o)↔¬ c/\uO P N B l s Q d t H o:=by by_cases h:c<;>simp[h,uO]
theorem sO {l:List S}{d:Nat}{o:Option V}:yM P N B l s Q (AX d o t H)=uO P N B l s Q d t H o:=by cases o<;>rfl
def o2P (P:Program)(N:Nat->C)(B:Nat)(l:List S)(s:List K)(Q:X->T->List Ob->Prop)(d:Nat)(t:T):Option (V×List Ob)->Prop
 | some p=>AB P N B (.r l::s) ((d,p.1)::t) p.2 Q
 | none=>False
theorem tV {l:List S}{d:Nat}{v:V}:o2P P N B l s Q d t (some (v,H))=AB P N B (.r l::s) ((d,v)::t) H Q:=rfl
theorem rE {l:List S}{d:Nat}:o2P P N B l s Q d t none=False:=rfl
theorem xf {l:List S}{d:Nat}{c:Prop}[Decidable c]{o:Option (V×List Ob)}:o2P P N B l s Q d t (if c then o else none)↔c/\o2P P N B l s Q d t o:=by by_cases h:c<;>simp[h,o2P]
theorem qP {l:List S}{d:Nat}{o:Option (V×List Ob)}:yM P N B l s Q (Qr d o t)=o2P P N B l s Q d t o:=by cases o<;>rfl
def oP (o:Option V)(K:V->Prop):Prop:=match o with
 | some v=>K v
 | none=>False
theorem vL {v:V}{K:V->Prop}:oP (some v) K=K v:=rfl
theorem yj {K:V->Prop}:oP none K=False:=rfl
theorem Aa8 {c:Prop}[Decidable c]{o:Option V}{K:V->Prop}:oP (if c then o else none) K↔c/\oP o K:=by by_cases h:c<;>simp[h,oP]
theorem yG {c:Prop}[Decidable c]{o:Option V}{K:V->Prop}:oP (if c then none else o) K↔¬ c/\oP o K:=by by_cases h:c<;>simp[h,oP]
def cP (P:Program)(N:Nat->C)(B:Nat)(a b:C)(s:List K)(t:T)(H:List Ob)(Q:X->T->List Ob->Prop):V->Prop
 | .bool c=>(c=true->AB P N B (.c a::s) t H Q)/\(c=false->AB P N B (.c b::s) t H Q)
 | _=>False
theorem uX {a b:C}{c:Bool}:cP P N B a b s t H Q (.bool c)=((c=true->AB P N B (.c a::s) t H Q)/\(c=false->AB P N B (.c b::s) t H Q)):=rfl
theorem pq {x:O}{a b:C}:AB P N B (.c (.cond x a b)::s) t H Q↔cP P N B a b s t H Q (ev t x):=by
 constructor
 ·intro h
  cases h with
  | cond c h1 h2 =>
   rw[h1]
   refine⟨fun h=>?_,fun h=>?_⟩<;>subst h<;>exact h2
 ·intro h
  cases hv:ev t x with
  | bool c =>
   rw[hv]at h
   refine .cond c hv ?_
   cases c
   ·exact h.2 rfl
   ·exact h.1 rfl
  | _=>rw[hv]at h;exact h.elim
def gP (P:Program)(N:Nat->C)(B:Nat)(b:Bool)(ds:List Nat)(g l:List S)(s:List K)(t:T)(H:List Ob)(Q:X->T->List Ob->Prop):V->Prop
 | .bool c=>(c=b->AB P N B (.r (g++l)::s) t H Q)/\(c≠b->AB P N B (.r l::s) (ds.map (fun d=>(d,V.tup []))++t) H Q)
 | .tup []=>AB P N B (.r l::s) (ds.map (fun d=>(d,V.tup []))++t) H Q
 | _=>False
theorem xR {c b:Bool}{ds:List Nat}{g l:List S}:gP P N B b ds g l s t H Q (.bool c)=((c=b->AB P N B (.r (g++l)::s) t H Q)/\(c≠b->AB P N B (.r l::s) (ds.map (fun d=>(d,V.tup []))++t) H Q)):=rfl
theorem zx {b:Bool}{ds:List Nat}{g l:List S}:gP P N B b ds g l s t H Q (.tup [])=AB P N B (.r l::s) (ds.map (fun d=>(d,V.tup []))++t) H Q:=rfl
theorem Aa2 {x:O}{b:Bool}{ds:List Nat}{g l:List S}:AB P N B (.r (.gd x b ds g::l)::s) t H Q↔gP P N B b ds g l s t H Q (ev t x):=by
 constructor
 ·intro h
  cases h with
  | gd c h1 h2 =>
   rw[h1]
   refine⟨fun h=>?_,fun h=>?_⟩
   ·simpa[h]using h2
   ·simpa[h]using h2
  | gdU h1 h2=>rw[h1];exact h2
 ·intro h
  have key:∀ c,ev t x=.bool c->AB P N B (.r (.gd x b ds g::l)::s) t H Q:=fun c hv=>by
   rw[hv]at h
   refine .gd c hv ?_
   by_cases e:c=b
   ·simpa[e]using h.1 e
   ·simpa[e]using h.2 e
  cases hv:ev t x with
  | bool c=>exact key c hv
  | tup l =>
   cases l with
   | nil=>rw[hv]at h;exact .gdU hv h
   | cons y ys=>rw[hv]at h;exact h.elim
  | _=>rw[hv]at h;exact h.elim
theorem qO:AB P N B (.r [.alt []]::s) t H Q↔True:=⟨fun _=>trivial,fun _=>.alt fun p hp=>by cases hp⟩
theorem ss {p:List Nat×List S}{ls:List (List Nat×List S)}:AB P N B (.r [.alt (p::ls)]::s) t H Q↔AB P N B (.r p.2::s) t H Q/\AB P N B (.r [.alt ls]::s) t H Q:=by
 constructor
 ·intro h
  cases h with
  | alt h=>exact⟨h p (by simp),.alt fun q hq=>h q (List.mem_cons_of_mem _ hq)⟩
 ·rintro ⟨h1,h2⟩
  cases h2 with
  | alt h2 =>
   refine .alt fun q hq=>?_
   rcases List.mem_cons.1 hq with rfl | hq
   ·exact h1
   ·exact h2 q hq
def nxP (P:Program)(N:Nat->C)(B:Nat)(d:Nat)(l:List S)(s:List K)(t:T)(H:List Ob)(Q:X->T->List Ob->Prop):V->Prop
 | .it j=>∃ i n seen es,H[j]?=some (.iter (some i) n seen)/\H[i]?=some (.map es)/\n=es.length/\((∀ k,k<n->k∈seen)->AB P N B (.r l::s) ((d,.tup [.bool false])::t) H Q) /\
   ∀ k p,es[k]?=some p->k∉seen->AB P N B (.r l::s) ((d,.tup [.bool true,p.1,p.2])::t) (H.set j (.iter (some i) n (seen++[k]))) Q
 | _=>False
theorem be {d:Nat}{l:List S}{j:Nat}(i n:Nat)(seen:List Nat)(es:List (V×V))(h1:H[j]?=some (.iter (some i) n seen))(h2:H[i]?=some (.map es))(h3:n=es.length)
  (h4:(∀ k,k<n->k∈seen)->AB P N B (.r l::s) ((d,.tup [.bool false])::t) H Q)
  (h5:∀ k p,es[k]?=some p->k∉seen->AB P N B (.r l::s) ((d,.tup [.bool true,p.1,p.2])::t) (H.set j (.iter (some i) n (seen++[k]))) Q):nxP P N B d l s t H Q (.it j):=⟨i,n,seen,es,h1,h2,h3,h4,h5⟩
theorem AbG {d:Nat}{x:O}{l:List S}:AB P N B (.r (.nx d x::l)::s) t H Q↔nxP P N B d l s t H Q (ev t x):=by
 constructor
 ·intro h
  cases h with
  | nx j i n seen es h1 h2 h3 h4 h5 h6 =>
   rw[h1]
   exact⟨i,n,seen,es,h2,h3,h4,h5,h6⟩
 ·intro h
  cases hv:ev t x with
  | it j =>
   rw[hv]at h
   obtain⟨i,n,seen,es,h1,h2,h3,h4,h5⟩:=h
   exact .nx j i n seen es hv h1 h2 h3 h4 h5
  | _=>rw[hv]at h;exact h.elim
def di (P:Program)(N:Nat->C)(B:Nat)(d:Option Nat)(l:List S)(s:List K)(t:T)(H:List Ob)(Q:X->T->List Ob->Prop)(f:Nat)(vs:List V):Prop :=
 ∃ x,Spec P f vs [] (fun x' H'=>x'=x/\H'=[])/\AB P N B (.r l::s) (FK d (ren (fun _=>none) x) t) H Q
theorem nG {d:Option Nat}{f:Nat}{args:List O}{l:List S}:AB P N B (.r (.callp d f args::l)::s) t H Q↔di P N B d l s t H Q f (AR (fun _=>none) (args.map (ev t))):=by
 constructor
 ·intro h
  cases h with
  | callp x h1 h2=>exact⟨x,h1,h2⟩
 ·rintro ⟨x,h1,h2⟩
  exact .callp x h1 h2
def fnP (P:Program)(N:Nat->C)(B:Nat)(d:Option Nat)(args:List O)(l:List S)(s:List K)(t:T)(H:List Ob)(Q:X->T->List Ob->Prop):V->Prop
 | .fn (.func f) fst caps=>di P N B d l s t H Q f (AR (fun _=>none) (fst++args.map (ev t)++caps))
 | _=>False
theorem AaU {d:Option Nat}{args:List O}{l:List S}{f:Nat}{fst caps:List V}:fnP P N B d args l s t H Q (.fn (.func f) fst caps)=di P N B d l s t H Q f (AR (fun _=>none) (fst++args.map (ev t)++caps)):=rfl
theorem iM {d:Option Nat}{g:O}{args:List O}{l:List S}:AB P N B (.r (.callvp d g args::l)::s) t H Q↔fnP P N B d args l s t H Q (ev t g):=by
 constructor
 ·intro h
  cases h with
  | callvp f fst caps x h0 h1 h2=>rw[h0];exact⟨x,h1,h2⟩
 ·intro h
  unfold fnP at h
  split at h
  ·rename_i f a c hv
   obtain⟨x,h1,h2⟩:=h
   exact .callvp f a c x hv h1 h2
  ·exact h.elim
theorem di.of {d:Option Nat}{l:List S}{f:Nat}{vs:List V}{x:V}(h:Spec P f vs [] (fun x' H'=>x'=x/\H'=[]))(k:AB P N B (.r l::s) (FK d (ren (fun _=>none) x) t) H Q):di P N B d l s t H Q f vs:=⟨x,h,k⟩
theorem AdT {n:Nat}:ev t (.s n)=lk t n:=rfl
theorem Ad7 {v:V}:ev t (.c v)=v:=rfl
theorem AdX {f:Nat}:ev t (.f f)=.fn (.func f) [] []:=rfl
theorem Aae {n:Nat}:lk [] n=.any:=rfl
theorem xw {m n:Nat}{v:V}:lk ((m,v)::t) n=if m=n then v else lk t n:=by
 unfold lk;simp only[find];split<;>rfl
theorem fW {rs:List RV}{Q:V->List Ob->Prop}{e:X}(he:e=.ret\/e=.fall){x:V}(h:UG rs t H=some x)(hq:Q (ren (fun _=>none) x) []):Bx 0 rs Q e t H :=
 ⟨he,.inr ⟨[],x,by simp,by simp,h,hq⟩⟩
theorem Dy {rs:List RV}{Q:V->List Ob->Prop}{e:X}(he:e=.ret\/e=.fall){x:V}(h:UG rs t H=some x)(hq:Q x H):Bx B rs Q e t H :=
 ⟨he,.inl ⟨x,h,hq⟩⟩
theorem bH {rs:List RV}{Q:V->List Ob->Prop}{e:X}(he:e=.ret\/e=.fall)(ex:List Nat){x:V}(hnd:(List.range B++ex).Nodup)(hlt:∀ i∈ex,i<H.length)(h:UG rs t H=some x)
  (hq:Q (ren (Ay (List.range B++ex)) x) (give (List.range B++ex) H)):Bx B rs Q e t H:=⟨he,.inr ⟨ex,x,hnd,hlt,h,hq⟩⟩
def By (P:Program)(N:Nat->C)(B:Nat)(d:Option Nat)(l:List S)(s:List K)(t:T)(Q:X->T->List Ob->Prop)(F:Fn)(vs:List V)(H:List Ob):Prop :=
 (∃ R,GP P F vs H R/\∀ x H',R x H'->AB P N B (.r l::s) (FK d x t) H' Q) \/
  ∃ idx R,idx.Nodup/\(∀ i∈idx,i<H.length)/\GP P F (AR (Ay idx) vs) (give idx H) R/\∀ x H',R x H'->idx.length<=H'.length->AB P N B (.r l::s) (FK d (ren (BY idx H.length) x) t) (takeB idx H H') Q
theorem By.all {d:Option Nat}{l:List S}{F:Fn}{vs:List V}{R:V->List Ob->Prop}(h:GP P F vs H R)(k:∀ x H',R x H'->AB P N B (.r l::s) (FK d x t) H' Q):By P N B d l s t Q F vs H:=.inl ⟨R,h,k⟩
theorem By.some {d:Option Nat}{l:List S}{F:Fn}{vs:List V}(idx:List Nat){R:V->List Ob->Prop}(h1:idx.Nodup)(h2:∀ i∈idx,i<H.length)(h:GP P F (AR (Ay idx) vs) (give idx H) R)
  (k:∀ x H',R x H'->idx.length<=H'.length->AB P N B (.r l::s) (FK d (ren (BY idx H.length) x) t) (takeB idx H H') Q):By P N B d l s t Q F vs H:=.inr ⟨idx,R,h1,h2,h,k⟩
theorem tW {d:Option Nat}{f:Nat}{args:List O}{l:List S}:AB P N B (.r (.call d f args::l)::s) t H Q↔By P N B d l s t Q (.func f) (args.map (ev t)) H:=by
 constructor
 ·intro h
  cases h with
  | callA R h1 h2=>exact .inl ⟨R,h1,h2⟩
  | call idx R h1 h2 h3 h4=>exact .inr ⟨idx,R,h1,h2,h3,h4⟩
 ·rintro (⟨R,h1,h2⟩|⟨idx,R,h1,h2,h3,h4⟩)
  ·exact .callA R h1 h2
  ·exact .call idx R h1 h2 h3 h4
def fnG (P:Program)(N:Nat->C)(B:Nat)(d:Option Nat)(args:List O)(l:List S)(s:List K)(t:T)(H:List Ob)(Q:X->T->List Ob->Prop):V->Prop
 | .fn F fst caps=>((∃ f,F=.func f)\/caps=[])/\By P N B d l s t Q F (fst++args.map (ev t)++caps) H
 | _=>False
theorem qT {d:Option Nat}{args:List O}{l:List S}{f:Nat}{a c:List V}:fnG P N B d args l s t H Q (.fn (.func f) a c)=By P N B d l s t Q (.func f) (a++args.map (ev t)++c) H:=by simp[fnG]
theorem wE {d:Option Nat}{args:List O}{l:List S}{F:Fn}{a:List V}:fnG P N B d args l s t H Q (.fn F a [])=By P N B d l s t Q F (a++args.map (ev t)++[]) H:=by simp[fnG]
theorem oc {d:Option Nat}{g:O}{args:List O}{l:List S}:AB P N B (.r (.callv d g args::l)::s) t H Q↔fnG P N B d args l s t H Q (ev t g):=by
 constructor
 ·intro h
  cases h with
  | callvA F fst caps R h0 hF h1 h2=>rw[h0];exact⟨hF,.inl ⟨R,h1,h2⟩⟩
  | callv F fst caps idx R h0 hF h1 h2 h3 h4=>rw[h0];exact⟨hF,.inr ⟨idx,R,h1,h2,h3,h4⟩⟩
 ·intro h
  unfold fnG at h
  split at h
  ·rename_i F fst caps hv
   obtain⟨hF,h⟩:=h
   rcases h with ⟨R,h1,h2⟩|⟨idx,R,h1,h2,h3,h4⟩
   ·exact .callvA F fst caps R hv hF h1 h2
   ·exact .callv F fst caps idx R hv hF h1 h2 h3 h4
  ·exact h.elim
def brP (o:Option Ob)(l:Nat)(K:Loop->T->Prop):Prop:=match o with
 | some (.lp l' .ready r ts)=>l'=l/\K r ts
 | _=>False
theorem tj {l l':Nat}{r:Loop}{ts:T}{K:Loop->T->Prop}:brP (some (.lp l' .ready r ts)) l K=(l'=l/\K r ts):=rfl
theorem Abw {l n:Nat}:AB P N B (.br l n::s) t H Q↔brP H[n]? l fun r ts=>AB P N B s t (H.set n (.lp l .busy r ts)) Q:=by
 constructor
 ·intro h
  cases h with
  | br h1 h2=>rw[h1];exact⟨rfl,h2⟩
 ·intro h
  unfold brP at h
  split at h
  ·rename_i l' r ts hh
   obtain⟨rfl,h⟩:=h
   exact .br hh h
  ·exact h.elim
end
theorem Ad {n:Nat}{R:Nat->Prop}(hstep:∀ k,k<n->R (k+1)->R k)(hend:R n):∀ k,k<=n->R k:=by
 intro k hk
 obtain⟨m,rfl⟩:∃ m,n=k+m:=⟨n-k,by omega⟩
 induction m generalizing k with
 | zero=>exact hend
 | succ m ih=>exact hstep k (by omega) (ih (k+1) (fun j hj=>hstep j (by omega)) (by rw[show k+1+m=k+(m+1) by omega];exact hend) (by omega))
theorem vl {σ:Nat->Option Nat}{k:IntKind}{n:Int}:ren σ (.int k n)=.int k n:=rfl
theorem rI {σ:Nat->Option Nat}{b:Bool}:ren σ (.bool b)=.bool b:=rfl
theorem xV {σ:Nat->Option Nat}{s:List UInt8}:ren σ (.str s)=.str s:=rfl
theorem Aag {σ:Nat->Option Nat}{z:Nat}{l:List (List V)}:ren σ (.sl z l)=.sl z l:=rfl
theorem Aam {σ:Nat->Option Nat}{l:List V}{k:Nat}:ren σ (.ro l k)=.ro l k:=rfl
theorem vq {σ:Nat->Option Nat}:ren σ .nil=.nil:=rfl
theorem pe {σ:Nat->Option Nat}:ren σ .nilp=.nilp:=rfl
theorem tO {σ:Nat->Option Nat}:ren σ .nilm=.nilm:=rfl
theorem rn {σ:Nat->Option Nat}:ren σ .nilf=.nilf:=rfl
theorem vX {σ:Nat->Option Nat}:ren σ .any=.any:=rfl
theorem Gz {σ:Nat->Option Nat}{l:List V}:ren σ (.agg l)=.agg (AR σ l):=by simp only[ren]
theorem wV {σ:Nat->Option Nat}{l:List V}:ren σ (.tup l)=.tup (AR σ l):=by simp only[ren]
theorem zE {σ:Nat->Option Nat}{f:Fn}{a l:List V}:ren σ (.fn f a l)=.fn f (AR σ a) (AR σ l):=by simp only[ren]
theorem wD {σ:Nat->Option Nat}{i z:Nat}{l:List (List V)}:ren σ (.own i z l)=match σ i with | some j=>.own j z l | none=>.sl z l:=by simp only[ren];rfl
theorem vi {σ:Nat->Option Nat}{i o:Nat}:ren σ (.ptr i o)=match σ i with | some j=>.ptr j o | none=>.any:=by simp only[ren];rfl
theorem pA {σ:Nat->Option Nat}:AR σ []=[]:=by simp only[AR]
theorem nr {σ:Nat->Option Nat}{x:V}{l:List V}:AR σ (x::l)=ren σ x::AR σ l:=by simp only[AR]
theorem wy {k:IntKind}{n:Int}:Kt (.int k n)=some [.int k n]:=rfl
theorem rZ {b:Bool}:Kt (.bool b)=some [.bool b]:=rfl
theorem xF {s:List UInt8}:Kt (.str s)=some [.str s]:=rfl
theorem Aac {z:Nat}{l:List (List V)}:Kt (.sl z l)=some [.sl z l]:=rfl
theorem wH {i z:Nat}{l:List (List V)}:Kt (.own i z l)=some [.own i z l]:=rfl
theorem xh {l:List V}:Kt (.agg l)=some l:=rfl
theorem wZ {i:Nat}:Kt (.map i)=some [.map i]:=rfl
theorem su:Kt .nilm=some [.nilm]:=rfl
theorem qu:Kt .nilf=some [.nilf]:=rfl
theorem tQ:Kt .nilp=some [.nilp]:=rfl
theorem wU {σ:Nat->Option Nat}{i:Nat}:ren σ (.map i)=match σ i with | some j=>.map j | none=>.any:=by simp only[ren];rfl
theorem Aaz {σ:Nat->Option Nat}{i:Nat}:ren σ (.it i)=match σ i with | some j=>.it j | none=>.any:=by simp only[ren];rfl
theorem wR:Kt .nil=some [.nil]:=rfl
theorem Abf {f:Fn}{a l:List V}:Kt (.fn f a l)=some [.fn f a l]:=rfl
theorem wf {i o:Nat}:Kt (.ptr i o)=some [.ptr i o]:=rfl
theorem zF {σ:Nat->Option Nat}{i z n:Nat}:ren σ (.rw i z n)=match σ i with | some j=>.rw j z n | none=>.any:=by simp only[ren];rfl
theorem AbP {σ:Nat->Option Nat}{i n k o:Nat}:ren σ (.rp i n k o)=match σ i with | some j=>.rp j n k o | none=>.any:=by simp only[ren];rfl
theorem Abs {i z n:Nat}:Kt (.rw i z n)=some [.rw i z n]:=rfl
theorem zu {i n k o:Nat}:Kt (.rp i n k o)=some [.rp i n k o]:=rfl
theorem dD {σ:Nat->Option Nat}{e:Nat}{cs:List V}:A5 σ (.cells e cs)=.cells e (AR σ cs):=rfl
theorem oq {σ:Nat->Option Nat}{e z n:Nat}:A5 σ (.arr e z n)=.arr e z n:=rfl
theorem nR {σ:Nat->Option Nat}{es:List (V×V)}:A5 σ (.map es)=.map (es.map fun p=>(ren σ p.1,ren σ p.2)):=rfl
theorem gT {σ:Nat->Option Nat}{m:Option Nat}{n:Nat}{s:List Nat}:A5 σ (.iter m n s)=.iter (m.bind σ) n s:=rfl
theorem gR {σ:Nat->Option Nat}:A5 σ .dead=.dead:=rfl
theorem Lj {σ:Nat->Option Nat}{e z:Nat}{els:List (List V)}:A5 σ (.row e z els)=.row e z (els.map (AR σ)):=rfl
theorem qH {σ:Nat->Option Nat}{l:Nat}{st:LS}{r:Loop}{ts:T}:A5 σ (.lp l st r ts)=.lp l st r (ts.map fun p=>(p.1,ren σ p.2)):=rfl
theorem AaE {l:List V}{o:Nat}:Kt (.ro l o)=some [.ro l o]:=rfl
theorem Bs {x:Int}(h1:-9223372036854775808<=x)(h2:x<=9223372036854775807):IntKind.i64.wrap x=x:=by
 unfold IntKind.wrap IntKind.bits IntKind.signed;simp;omega
def Oo (o:Option Ob)(f:List V->Option V):Option V:=match o with
 | some (.cells _ cs)=>f cs
 | _=>none
theorem gw {e:Nat}{cs:List V}{f:List V->Option V}:Oo (some (.cells e cs)) f=f cs:=rfl
theorem zT {H:List Ob}{cs:List V}{k:Nat}:ZO H (.ro cs k)=cs[k]?:=rfl
theorem xn {H:List Ob}{i k:Nat}:ZO H (.ptr i k)=Oo H[i]? fun cs=>cs[k]?:=by unfold ZO Oo;rfl
theorem AbS {H:List Ob}{cs:List V}{k n:Nat}:Zc n H (.ro cs k)=if k+n<=cs.length then some (.agg (sub k n cs)) else none:=rfl
theorem wB {H:List Ob}{i k n:Nat}:Zc n H (.ptr i k)=Oo H[i]? fun cs=>if k+n<=cs.length then some (.agg (sub k n cs)) else none:=by unfold Zc Oo;rfl
def te (o:Option Ob)(f:List (List V)->Option V):Option V:=match o with
 | some (.row _ _ els)=>f els
 | _=>none
theorem nt {e z:Nat}{els:List (List V)}{f:List (List V)->Option V}:te (some (.row e z els)) f=f els:=rfl
theorem AbQ {H:List Ob}{i n k o:Nat}:ZO H (.rp i n k o)=te H[i]? fun els=>if els.length=n then (els[k]?).bind fun el=>el[o]? else none:=by unfold ZO te;rfl
theorem Aax {H:List Ob}{i n j o k:Nat}:Zc k H (.rp i n j o)=te H[i]? fun els=>if els.length=n then (els[j]?).bind fun el=>if o+k<=el.length then some (.agg (sub o k el)) else none else none:=by unfold Zc te;rfl
theorem zH {H:List Ob}{i n j o k:Nat}:TL k H (.rp i n j o)=some (.rp i n j (o+k)):=rfl
theorem Abt {H:List Ob}{i n j o:Nat}:lf H (.rp i n j o)=some (.rp i n j o):=rfl
theorem uN {i z n:Nat}:VY (.rw i z n)=some (.int .i64 n):=rfl
theorem AbN {z y i m:Nat}{k:IntKind}{n:Int}:mK z (.rw i y m) (.int k n)=if y=z/\0<=n/\n<m then some (.rp i m n.toNat 0) else none:=rfl
theorem AaL {H:List Ob}{cs:List V}{k n:Nat}:TL n H (.ro cs k)=some (.ro cs (k+n)):=rfl
theorem wN {H:List Ob}{i k n:Nat}:TL n H (.ptr i k)=Oo H[i]? fun _=>some (.ptr i (k+n)):=by unfold TL Oo;rfl
theorem zp {H:List Ob}{cs:List V}{k:Nat}:lf H (.ro cs k)=some (.ro cs k):=rfl
theorem uY {H:List Ob}{i k:Nat}:lf H (.ptr i k)=Oo H[i]? fun _=>some (.ptr i k):=by unfold lf Oo;rfl
theorem sr {cs:List V}{k:Nat}:mN k none (.agg cs)=cs[k]?:=rfl
theorem pF {cs:List V}{k n:Nat}:mN k (some n) (.agg cs)=if k+n<=cs.length then some (.agg (sub k n cs)) else none:=rfl
theorem AbB {z:Nat}{l:List (List V)}:We (.sl z l)=some l:=rfl
theorem vm {i z:Nat}{l:List (List V)}:We (.own i z l)=some l:=rfl
theorem vM:We .nil=some []:=rfl
theorem vZ {z:Nat}{l:List (List V)}:VY (.sl z l)=some (.int .i64 l.length):=rfl
theorem sD {i z:Nat}{l:List (List V)}:VY (.own i z l)=some (.int .i64 l.length):=rfl
theorem pO:VY .nil=some (.int .i64 0):=rfl
theorem lN {l:List UInt8}:fk (.str l)=some (.int .i64 l.length):=rfl
theorem zC {z y:Nat}{l:List (List V)}{k:IntKind}{n:Int}:mK z (.sl y l) (.int k n)=if y=z/\0<=n/\n<l.length then some (.ro (l.getD n.toNat []) 0) else none:=rfl
theorem uZ {i z y:Nat}{l:List (List V)}{k:IntKind}{n:Int}:mK z (.own i y l) (.int k n)=if y=z/\0<=n/\n<l.length then some (.ro (l.getD n.toNat []) 0) else none:=rfl
theorem xk {l:List UInt8}{k:IntKind}{n:Int}:ixV (.str l) (.int k n)=if 0<=n/\n<l.length then some (.int .u8 (uF l n.toNat)) else none:=rfl
theorem tZ {z L:Nat}{o:Option Nat}{x:V}{k:IntKind}{n:Int}:mP z L o x (.int k n)=if 0<=n/\n<L then mN (n.toNat*z) o x else none:=rfl
section
variable {k:IntKind} {a b:Int}
theorem tu:IZ .add (.int k a) (.int k b)=some (.int k (k.wrap (a+b))):=by simp[IZ]
theorem sH:IZ .sub (.int k a) (.int k b)=some (.int k (k.wrap (a-b))):=by simp[IZ]
theorem pS:IZ .mul (.int k a) (.int k b)=some (.int k (k.wrap (a*b))):=by simp[IZ]
theorem sA:IZ .quo (.int k a) (.int k b)=if b=0 then none else some (.int k (k.wrap (a.tdiv b))):=by simp[IZ]
theorem sC:IZ .rem (.int k a) (.int k b)=if b=0 then none else some (.int k (a.tmod b)):=by simp[IZ]
theorem xz {j:IntKind}:shV .shl (.int k a) (.int j b)=if b<0 then none else some (.int k (k.wrap (a*2^(min b.toNat k.bits)))):=rfl
theorem wI {j:IntKind}:shV .shr (.int k a) (.int j b)=if b<0 then none else some (.int k (a.fdiv (2^(min b.toNat k.bits)))):=rfl
theorem sR:IZ .eql (.int k a) (.int k b)=some (.bool (decide (a=b))):=by simp[IZ,Mr,BEq.beq]
theorem qp:IZ .neq (.int k a) (.int k b)=some (.bool (decide (a≠b))):=by simp[IZ,Mr,BEq.beq,bne]
theorem ua:IZ .lss (.int k a) (.int k b)=some (.bool (decide (a<b))):=by simp[IZ,Mr]
theorem ql:IZ .leq (.int k a) (.int k b)=some (.bool (decide (a<=b))):=by simp[IZ,Mr]
theorem pN:IZ .gtr (.int k a) (.int k b)=some (.bool (decide (b<a))):=by simp[IZ,Mr]
theorem uj:IZ .geq (.int k a) (.int k b)=some (.bool (decide (b<=a))):=by simp[IZ,Mr]
end
theorem pk {op:BinOp}{a b:List UInt8}:IZ op (.str a) (.str b)=Hy op a b:=rfl
theorem iK {a b:List UInt8}:Hy .add a b=if a.length+b.length<=C0 then some (.str (a++b)) else none:=rfl
theorem gH {a b:List UInt8}:Hy .eql a b=some (.bool (decide (a=b))):=by by_cases h:a=b<;>simp[Hy,h]
theorem ib {a b:List UInt8}:Hy .neq a b=some (.bool (decide (a≠b))):=by by_cases h:a=b<;>simp[Hy,h]
theorem iN {a b:List UInt8}:Hy .lss a b=some (.bool (Op.bytesLess a b)):=rfl
theorem wi {a b:Bool}:bbV .eql (.bool a) (.bool b)=some (.bool (a==b)):=rfl
theorem xM {a b:Bool}:bbV .neq (.bool a) (.bool b)=some (.bool (a != b)):=rfl
theorem vN {b:Bool}:unV .not (.bool b)=some (.bool !b):=rfl
theorem vo {k:IntKind}{n:Int}:unV .neg (.int k n)=some (.int k (k.wrap (0-n))):=rfl
theorem wo {l:List V}{i:Nat}:exV i (.tup l)=l[i]?:=rfl
theorem oX {l:List UInt8}{lo hi:Option V}:qW (.str l) lo hi=match dK lo 0,dK hi l.length with
  | some a,some b=>if a<=b/\b<=l.length then some (.str ((l.drop a).take (b-a))) else none
  | _,_=>none:=rfl
theorem tT {n:Nat}:dK none n=some n:=rfl
theorem yl {k:IntKind}{m:Int}{n:Nat}:dK (some (.int k m)) n=if 0<=m then some m.toNat else none:=rfl
section
variable {B:Nat} {t:T} {H:List Ob}
theorem Adm {d:Nat}{x:O}:Az B (.mv d x) t H=some ((d,ev t x)::t,H):=rfl
theorem xK {d:Nat}{c:O}{a:O}{b:O}:Az B (.pick d c a b) t H=(match ev t c with
  | .bool c=>some ((d,if c then ev t a else ev t b)::t,H)
  | _=>none):=rfl
theorem AcZ {d:Nat}{e:Nat}{z:List V}:Az B (.al d e z) t H=some ((d,.ptr H.length 0)::t,H++[.cells e z]):=rfl
theorem Ac0 {d:Nat}{e:Nat}{x:O}:Az B (.bx d e x) t H=(match Kt (ev t x)with
  | some cs=>some ((d,.ptr H.length 0)::t,H++[.cells e cs])
  | none=>none):=rfl
theorem Ac7 {d:Nat}{e:Nat}{x:O}:Az B (.br d e x) t H=(match Kt (ev t x)with
  | some cs=>some ((d,.ro (AR (fun _=>none) cs) 0)::t,H)
  | none=>none):=rfl
theorem Acy {d:Nat}{k:Nat}{x:O}:Az B (.sf d k x) t H=(match lk t d with
  | .ptr i 0=>match H[i]? with
   | some (.cells e cs)=>match Kt (ev t x)with
    | some new=>if new.length=k/\cs.length=k then some ((d,.ro (AR (fun _=>none) new) 0)::t,H.set i .dead) else none
    | none=>none
   | _=>none
  | _=>none):=rfl
theorem AbA {d:Nat}{x:O}:Az B (.ldr d x) t H=AX d (ZO [] (ev t x)) t H:=rfl
theorem AaN {d:Nat}{k:Nat}{x:O}:Az B (.lar d k x) t H=AX d (Zc k [] (ev t x)) t H:=rfl
theorem Aby {d:Nat}{off:Nat}{x:O}:Az B (.far d off x) t H=AX d (TL off [] (ev t x)) t H:=rfl
theorem AcK {d:Nat}{x:O}:Az B (.ld d x) t H=AX d (ZO H (ev t x)) t H:=rfl
theorem Ac5 {d:Nat}{k:Nat}{x:O}:Az B (.la d k x) t H=AX d (Zc k H (ev t x)) t H:=rfl
theorem AcT {k:Nat}{a:O}{x:O}:Az B (.st k a x) t H=(match ev t a with
  | .ptr i off=>match H[i]? with
   | some (.cells e cs)=>match Kt (ev t x)with
    | some new=>if new.length=k/\off+k<=cs.length then some (t,H.set i (.cells e (put off new cs))) else none
    | none=>none
   | _=>none
  | .rp i n j off=>match H[i]? with
   | some (.row e sz els)=>match Kt (ev t x)with
    | some new=>if els.length=n/\j<n/\new.length=k/\off+k<=sz then some (t,H.set i (.row e sz (els.set j (put off new (els.getD j []))))) else none
    | none=>none
   | _=>none
  | _=>none):=rfl
theorem Ac4 {d:Nat}{off:Nat}{x:O}:Az B (.fa d off x) t H=AX d (TL off H (ev t x)) t H:=rfl
theorem Adh {d:Nat}{x:O}:Az B (.nc d x) t H=AX d (lf H (ev t x)) t H:=rfl
theorem AcH {d:Nat}{off:Nat}{k:Option Nat}{x:O}:Az B (.fd d off k x) t H=AX d (mN off k (ev t x)) t H:=rfl
theorem Ads {d:Nat}{z:List V}{ps:List (Nat×Nat×O)}:Az B (.bd d z ps) t H=AX d ((tP t ps z).map .agg) t H:=rfl
theorem Adn {d:Nat}{sz:Nat}{xs:List O}:Az B (.bs d sz xs) t H=AX d ((gF t sz xs).map (.sl sz)) t H:=rfl
theorem Adl {d:Nat}{e:Nat}{sz:Nat}{xs:List O}:Az B (.bo d e sz xs) t H=(match gF t sz xs with
  | some els=>some ((d,.own H.length sz els)::t,H++[.arr e sz els.length])
  | none=>none):=rfl
theorem AaH {d:Nat}{op:BinOp}{x:O}{y:O}:Az B (.bin d op x y) t H=AX d (IZ op (ev t x) (ev t y)) t H:=rfl
theorem Ady {d:Nat}{op:BinOp}{x:O}{y:O}:Az B (.bb d op x y) t H=AX d (bbV op (ev t x) (ev t y)) t H:=rfl
theorem Acr {d:Nat}{op:BinOp}{x:O}{y:O}:Az B (.sh d op x y) t H=AX d (shV op (ev t x) (ev t y)) t H:=rfl
theorem Adu {d:Nat}{op:UnOp}{x:O}:Az B (.un d op x) t H=AX d (unV op (ev t x)) t H:=rfl
theorem Aat {d:Nat}{k:IntKind}{x:O}:Az B (.cvi d k x) t H=(match ev t x with
  | .int _ n=>some ((d,.int k (k.wrap n))::t,H)
  | _=>none):=rfl
theorem zz {d:Nat}{x:O}:Az B (.cvs d x) t H=(match ev t x with
  | .str s=>some ((d,.str s)::t,H)
  | _=>none):=rfl
theorem zG {d:Nat}{x:O}:Az B (.s2b d x) t H=(match ev t x with
  | .str s=>if s.length<=Ah then some ((d,.sl 1 (s.map fun c=>[.int .u8 c.toNat]))::t,H) else none
  | _=>none):=rfl
theorem AbE {d:Nat}{x:O}:Az B (.b2s d x) t H=(match We (ev t x)with
  | some els=>match gY els with
   | some l=>some ((d,.str l)::t,H)
   | none=>none
  | none=>none):=rfl
theorem Acm {d:Nat}{g:Nat}{fst:List O}{caps:List O}:Az B (.mf d g fst caps) t H=some ((d,.fn (.func g) (fst.map (ev t)) (caps.map (ev t)))::t,H):=rfl
theorem zS {d:Nat}{x:O}:Az B (.len d x) t H=AX d (VY (ev t x)) t H:=rfl
theorem wG {d:Nat}{x:O}:Az B (.lens d x) t H=AX d (fk (ev t x)) t H:=rfl
theorem AcY {d:Nat}{sz:Nat}{x:O}{i:O}:Az B (.ia d sz x i) t H=AX d (mK sz (ev t x) (ev t i)) t H:=rfl
theorem Ade {d:Nat}{x:O}{i:O}:Az B (.ix d x i) t H=AX d (ixV (ev t x) (ev t i)) t H:=rfl
theorem zI {d:Nat}{sz n:Nat}{k:Option Nat}{x:O}{i:O}:Az B (.ixa d sz n k x i) t H=AX d (mP sz n k (ev t x) (ev t i)) t H:=rfl
theorem Acz {d:Nat}{sz:Nat}{x:O}{lo:Option O}{hi:Option O}:Az B (.sx d sz x lo hi) t H=AX d (sxV sz (ev t x) (lo.map (ev t)) (hi.map (ev t))) t H:=rfl
theorem AaD {d:Nat}{x:O}{lo:Option O}{hi:Option O}:Az B (.sxs d x lo hi) t H=AX d (qW (ev t x) (lo.map (ev t)) (hi.map (ev t))) t H:=rfl
theorem Ac1 {d:Nat}{x:O}{i:Nat}:Az B (.ex d x i) t H=AX d (exV i (ev t x)) t H:=rfl
theorem Aaw {d:Nat}{e:Nat}{sz:Nat}{bytes:Nat}{x:O}{y:O}:Az B (.app d e sz bytes x y) t H=Qr d (Pb H e sz bytes (ev t x) (ev t y)) t:=rfl
theorem Aao {d:Nat}{e:Nat}{sz:Nat}{bytes:Nat}{x:O}{y:O}:Az B (.apr d e sz bytes x y) t H=Qr d (ez H e sz bytes (ev t x) (ev t y)) t:=rfl
theorem Adg {d:Nat}{x:O}{y:O}:Az B (.mx d x y) t H=(match ev t x,ev t y with
  | .int k a,.int k' b=>if k=k' then some ((d,.int k (if b > a then b else a))::t,H) else none
  | _,_=>none):=rfl
theorem AcC {d:Nat}{x:O}{y:O}:Az B (.mn d x y) t H=(match ev t x,ev t y with
  | .int k a,.int k' b=>if k=k' then some ((d,.int k (if b<a then b else a))::t,H) else none
  | _,_=>none):=rfl
theorem AbZ {d:Nat}{e:Nat}{sz:Nat}:Az B (.non d e sz) t H=(match lk t d with
  | .nil=>some ((d,.own H.length sz [])::t,H++[.arr e sz 0])
  | _=>none):=rfl
theorem Abg {e:Nat}{sz:Nat}{k:Nat}{a:O}:Az B (.ono e sz k a) t H=(match ev t a with
  | .ptr i off=>match H[i]? with
   | some (.cells e' cs)=>match cs[off+k]? with
    | some .nil=>some (t,H.set i (.cells e' (put (off+k) [.own H.length sz []] cs))++[.arr e sz 0])
    | _=>none
   | _=>none
  | _=>none):=rfl
theorem Adj {d e sz bytes:Nat}{z:List V}{x:O}:Az B (.mk d e sz bytes z x) t H=(match ev t x with
  | .int _ n=>if 0<=n/\n.toNat<=Ah/\n.toNat*bytes<=Ah then some ((d,.rw H.length sz n.toNat)::t,H++[.row e sz (List.replicate n.toNat z)]) else none
  | _=>none):=rfl
theorem AaI {d:Nat}:Az B (.mkm d) t H=some ((d,.map H.length)::t,H++[.map []]):=rfl
theorem zL {d:Nat}{ks:Bool}{ok:Bool}{z:V}{m:O}{k:O}:Az B (.lkp d ks ok z m k) t H=AX d (Lq H ks ok z (ev t m) (ev t k)) t H:=rfl
theorem Abk {d:Nat}{m:O}:Az B (.lnm d m) t H=AX d (VF H (ev t m)) t H:=rfl
theorem Aaq {d:Nat}{sh:List Bool}{ok:Bool}{z:V}{m:O}{k:O}:Az B (.lkq d sh ok z m k) t H=AX d (Rp H sh ok z (ev t m) (ev t k)) t H:=rfl
theorem Aab {d sz n:Nat}{x:O}{i:O}:Az B (.iaa d sz n x i) t H=AX d (bA H sz n (ev t x) (ev t i)) t H:=rfl
theorem rL {sz n:Nat}{x:V}{k:IntKind}{m:Int}:bA H sz n x (.int k m)=if 0<=m/\m<n then TL (m.toNat*sz) H x else none:=rfl
theorem Abr {sh:List Bool}{m:O}{k:O}{x:O}:Az B (.muq sh m k x) t H=(match ev t m with
  | .map i=>match H[i]? with
   | some (.map es)=>if uy sh (ev t k) then match nu (ev t k) (ev t x) es with
    | some es'=>some (t,H.set i (.map es'))
    | none=>none
    else none
   | _=>none
  | _=>none):=rfl
theorem AaO {d:Nat}{neg:Bool}{sh:List Bool}{x y:O}:Az B (.eqs d neg sh x y) t H=AX d (hX neg sh (ev t x) (ev t y)) t H:=rfl
theorem AbK {d e sz bytes k:Nat}{y:O}:Az B (.apz d e sz bytes k y) t H=(match lk t k with
  | .nil=>Qr d (Pb (H++[.arr e sz 0]) e sz bytes (.own H.length sz []) (ev t y)) t
  | .own _ _ _=>Qr d (Pb H e sz bytes (lk t k) (ev t y)) t
  | _=>none):=rfl
theorem Adt {l:List Nat}:Az B (.kt l) t H=some (l.map fun n=>(n,lk t n),H):=rfl
theorem Adr {rs l:List Nat}:Az B (.kk rs l) t H=(match tH t rs with
  | some js=>if kkB B H.length js then some (l.map fun n=>(n,ren (Ay (List.range B++js)) (lk t n)),give (List.range B++js) H) else none
  | none=>none):=rfl
theorem Aa7 {d e sz:Nat}:Az B (.noz d e sz) t H=(match lk t d with
  | .nil=>some ((d,.own H.length sz [])::t,H++[.arr e sz 0])
  | .own _ _ _=>some (t,H)
  | _=>none):=rfl
theorem AaV {ks:Bool}{m:O}{k:O}{x:O}:Az B (.mup ks m k x) t H=(match ev t m with
  | .map i=>match H[i]? with
   | some (.map es)=>if lv ks (ev t k) then match WK (ev t k) (ev t x) es with
    | some es'=>some (t,H.set i (.map es'))
    | none=>none
    else none
   | _=>none
  | _=>none):=rfl
theorem Adq {d:Nat}{m:O}:Az B (.rg d m) t H=(match ev t m with
  | .map i=>match H[i]? with
   | some (.map es)=>some ((d,.it H.length)::t,H++[.iter (some i) es.length []])
   | _=>none
  | _=>none):=rfl
theorem Acv {d:Nat}{x:O}:Az B (.en d x) t H=AX d (vy H (ev t x)) t H:=rfl
theorem uW {d:Nat}{e:Nat}{sz:Nat}:Az B (.rnon d e sz) t H=(match lk t d with
  | .nil=>some ((d,.rw H.length sz 0)::t,H++[.row e sz []])
  | _=>none):=rfl
theorem yy {e:Nat}{sz:Nat}{k:Nat}{a:O}:Az B (.rono e sz k a) t H=(match ev t a with
  | .ptr i off=>match H[i]? with
   | some (.cells e' cs)=>match cs[off+k]? with
    | some .nil=>some (t,H.set i (.cells e' (put (off+k) [.rw H.length sz 0] cs))++[.row e sz []])
    | _=>none
   | _=>none
  | _=>none):=rfl
theorem zW {d:Nat}:Az B (.frz d) t H=(match lk t d with
  | .rw i z n=>match H[i]? with
   | some (.row e sz els)=>if els.length=n then some ((d,.sl sz (els.map (AR fun _=>none)))::t,H.set i .dead) else none
   | _=>none
  | _=>none):=rfl
theorem Abe {d:Nat}:Az B (.e2r d) t H=(match lk t d with
  | .own i z []=>match H[i]? with
   | some (.arr e sz 0)=>if z=sz then some ((d,.rw H.length sz 0)::t,H.set i .dead++[.row e sz []]) else none
   | _=>none
  | _=>none):=rfl
theorem Abj {k:Nat}{a:O}:Az B (.frc k a) t H=(match ev t a with
  | .ptr i off=>match H[i]? with
   | some (.cells e cs)=>match cs[off+k]? with
    | some (.rw j z n)=>match H[j]? with
     | some (.row e' sz els)=>if els.length=n then some (t,(H.set j .dead).set i (.cells e (put (off+k) [.sl sz (els.map (AR fun _=>none))] cs))) else none
     | _=>none
    | some (.sl _ _)=>some (t,H)
    | _=>none
   | _=>none
  | _=>none):=rfl
theorem Adb {m:Nat}{l:List Nat}:Az B (.ks m l) t H=some (l.map fun n=>(n,ren (AM (B+m)) (lk t n)),(H.take (B+m)).map (A5 (AM (B+m)))):=rfl
end
attribute [push_cast] rX tf xE wF Aaj Aa0 oQ ww zr rC xL rq qB qf Ko tC sK wq Abv vL yj Aa8 pJ tz uQ sV sO uX pq xR zx Aa2 qO ss AbG nG AaU iM AdT Ad7 AdX Aae xw Adm xK AcZ Ac0 Ac7 Acy AbA AaN Aby AcK Ac5 AcT Ac4 Adh AcH Ads Adn Adl AaH Ady Acr Adu Aat zz zG AbE Acm zS wG AcY Ade zI Acz AaD Ac1 Aaw Aao Adg AcC AbZ Abg Adj AaI zL Abk Aaq Aab rL AaV Abr AaO Adt Adr Aa7 AbK Adq Acv uW yy zW Abe Abj Adb gw zT xn AbS wB AaL wN zp uY sr pF AbB vm vM vZ sD pO lN zC uZ xk tZ tu sH pS sR qp ua ql pN uj pk iK gH ib iN wi xM vN vo wo oX tT yl tP gF AM FK qP tV rE xf tW qT wE oc Abw tj yA tG zA qL sA sC xz wI yG nt AbQ Aax zH Abt uN AbN zF AbP Abs zu dD oq nR gT gR Lj qH vl rI xV Aag Aam vq pe tO rn vX Gz wV zE wD vi pA nr wy rZ xF Aac wH xh wR Abf wf AaE wZ su qu tQ wU Aaz List.map_cons List.map_nil List.cons_append List.nil_append List.append_nil rvs rvV UG uk List.length_nil List.length_cons List.getElem?_nil List.getElem?_cons_zero List.getElem?_cons_succ List.set_cons_zero List.set_cons_succ List.take_zero List.take_nil List.take_succ_cons Nat.le_refl true_and and_true and_self Nat.zero_add Nat.add_zero decide_eq_true_eq decide_eq_false_iff_not if_true if_false Bool.not_true Bool.not_false Int.toNat_natCast decide_true decide_false Bool.true_and Bool.and_true Bool.false_and Bool.and_false forall_const not_true_eq_false not_false_eq_true true_implies false_implies
end Go.Dw
end
namespace Go.Dw
noncomputable abbrev prog:Program:=Go.Proofs.Tryz.prog
theorem mixed:prog.follows .mixedOrders=true:=by kernel_rfl
def J0:Nat:=4
def Dv:Nat:=11
def PR:Nat:=12
def HD:Nat:=13
def J5:Nat:=14
def LF:Nat:=15
def PM:Nat:=16
def Ps:Nat:=18
def Hj:Nat:=31
def Md:Nat:=32
def Bq:Nat:=33
def Kv:Nat:=34
def BP:Nat:=35
def Hk:Nat:=36
def Ov:Nat:=37
def F4:Nat:=38
def Mg:Nat:=39
def LH:Nat:=40
def LJ:Nat:=41
def JG:Nat:=42
def Jv:Nat:=43
def If:Nat:=46
def Ic:Nat:=49
def Jd:Nat:=52
def Oe:Nat:=54
def Pn:Nat:=57
def Cf:Nat:=63
def Hi:Nat:=71
def I4:Nat:=72
def GZ:Nat:=73
def Mm:Nat:=74
def EM:Nat:=75
def I3:Nat:=76
def Dm:Nat:=77
def KB:Nat:=78
def Dc:Nat:=79
def DT:Nat:=80
def Jp:Nat:=81
def DU:Nat:=82
def Q3:Nat:=83
def EW:Nat:=84
def NW:Nat:=85
def MD:Nat:=86
def GJ:Nat:=87
def Gx:Nat:=88
def D7:Nat:=89
def Eo:Nat:=90
def Gl:Nat:=91
def BB:Nat:=92
def Jk:Nat:=94
def JB:Nat:=95
def Mh:Nat:=96
def JP:Nat:=97
def Mi:Nat:=98
def HS:Nat:=99
def KJ:Nat:=105
def Jo:Nat:=106
def I0:Nat:=107
def CG:Nat:=115
def DX:Nat:=118
def Fb:Nat:=122
def J9:Nat:=123
def AU:Nat:=124
def n_slices_Sort_s_string_string:Nat:=125
def I6:Nat:=126
def OJ:Nat:=127
def Gb:Nat:=128
def Fs:Nat:=129
def J6:Nat:=130
def MF:Nat:=131
def N0:Nat:=132
def KC:Nat:=133
def MQ:Nat:=134
def OM:Nat:=135
def Hw:Nat:=136
def Lm:Nat:=137
def LK:Nat:=138
def Ek:Nat:=139
def RY:Nat:=140
def Jt:Nat:=141
def KG:Nat:=142
def On:Nat:=143
def CP:Nat:=144
def DF:Nat:=145
def AN:Nat:=146
def Kh:Nat:=147
def K5:Nat:=148
def IR:Nat:=149
def Dd:Nat:=150
def Gg:Nat:=151
def BQ:Nat:=153
def Ee:Nat:=160
def Hg:Nat:=161
def T0:Nat:=162
def Ip:Nat:=169
def Is:Nat:=170
def MK:Nat:=171
def BK:Nat:=172
def Kw:Nat:=173
def Q5:Nat:=183
def M1:Nat:=184
def MI:Nat:=185
def K6:Nat:=186
def Kb:Nat:=187
def Km:Nat:=188
def Lz:Nat:=189
def KL:Nat:=190
def Dq:Nat:=191
def N5:Nat:=192
def Jc:Nat:=193
def Jx:Nat:=194
def Qa:Nat:=195
def MV:Nat:=196
def NO:Nat:=197
def Xv:Nat:=198
def OB:Nat:=199
def HR:Nat:=200
def Gc:Nat:=201
def BL:Nat:=202
def Hm:Nat:=203
def MT:Nat:=204
def Bb:Nat:=205
def KK:Nat:=209
def JF:Nat:=210
def Me:Nat:=211
def RN:Nat:=212
def FA:Nat:=214
def OG:Nat:=215
def MC:Nat:=217
def QP:Nat:=219
def Sd:Nat:=223
def GN:Nat:=224
def D3:Nat:=225
def Bm:Nat:=226
def Qe:Nat:=227
def Cy:Nat:=228
def KO:Nat:=245
def KH:Nat:=246
def JO:Nat:=247
def N2:Nat:=248
def Fv:Nat:=249
def ML:Nat:=250
def Kl:Nat:=251
def Hr:Nat:=252
def KI:Nat:=253
def LL:Nat:=254
def JL:Nat:=255
def K9:Nat:=256
def JM:Nat:=257
def Iu:Nat:=258
def M5:Nat:=259
def Qh:Nat:=260
def IK:Nat:=261
def JX:Nat:=262
def EB:Nat:=263
def D4:Nat:=264
def Ky:Nat:=265
def Og:Nat:=266
def O3:Nat:=267
def Iq:Nat:=268
def IP:Nat:=269
def Dj:Nat:=271
def Cj:Nat:=272
def KF:Nat:=279
def Dn:Nat:=280
def Df:Nat:=281
def EH:Nat:=282
def Gm:Nat:=283
def JI:Nat:=284
def CH:Nat:=285
def PW:Nat:=286
def Fd:Nat:=287
def Pj:Nat:=288
def JN:Nat:=289
def O8:Nat:=290
def I8:Nat:=291
def NA:Nat:=292
def AL:Nat:=293
def LZ:Nat:=294
def FP:Nat:=295
def Lp:Nat:=296
def FM:Nat:=297
def Kf:Nat:=299
def E0:Nat:=300
def Cv:Nat:=301
def BR:Nat:=302
def Hx:Nat:=303
def LT:Nat:=304
def FR:Nat:=305
def JE:Nat:=306
def EO:Nat:=307
def Oy:Nat:=308
def n_strconv_FormatInt:Nat:=310
def Cs:Nat:=311
def EF:Nat:=312
def JY:Nat:=313
def Cm:Nat:=314
def C3:Nat:=320
def Db:Nat:=326
noncomputable abbrev Nc:Func:=Go.Proofs.Tryz.f308
theorem Zk:prog.funcs[Oy]?=some Nc:=Go.Proofs.Tryz.func308
noncomputable abbrev GS:Func:=Go.Proofs.Tryz.f314
theorem GU:prog.funcs[Cm]?=some GS:=Go.Proofs.Tryz.func314
def EN:Nat:=3
def jg:Nat:=4
def C7:Nat:=9
def Pw:Nat:=22
def QC:Nat:=23
def A7:Nat:=25
def VZ:Nat:=26
def A3:Nat:=35
def SU:Nat:=67
def BS:Nat:=107
def Xz:Nat:=108
def Ax:Nat:=112
def GD:Nat:=127
def Wb:Nat:=130
def C4:Nat:=148
def Dt:Nat:=158
def F5:Nat:=169
def Ih:Nat:=192
def DO:Nat:=215
def Gy:Nat:=270
def Bc:Nat:=281
def Sv:Nat:=286
def CZ:Nat:=290
def ID:Nat:=298
def B4:Nat:=302
def DG:Nat:=305
def F6:Nat:=307
end Go.Dw
section
namespace Go.Dw
abbrev A9:=List UInt8
inductive Term where
 | mk (name:A9) (var:Bool) (args:List Term)
deriving Inhabited
namespace Term
def name:Term->A9 | mk n _ _=>n
def var:Term->Bool | mk _ v _=>v
def args:Term->List Term | mk _ _ a=>a
end Term
def DI {α:Type}(f:α->List V)(z:Nat)(l:List α):V:=.sl z (l.map f)
def Bf {α:Type}(f:α->List V)(i z:Nat)(l:List α):V:=.own i z (l.map f)
section
variable {α:Type} {f:α->List V} {z:Nat}
theorem pL {l:List α}:Kt (DI f z l)=some [DI f z l]:=rfl
theorem uf {σ:Nat->Option Nat}{l:List α}:ren σ (DI f z l)=DI f z l:=rfl
theorem nb {l:List α}:VY (DI f z l)=some (.int .i64 l.length):=by simp[DI,VY]
theorem rd {l:List α}:We (DI f z l)=some (l.map f):=rfl
theorem qt [Inhabited α]{l:List α}{k:IntKind}{n:Int}{y:Nat}:mK y (DI f z l) (.int k n)=if z=y/\0<=n/\n<l.length then some (.ro (f (l.getD n.toNat default)) 0) else none:=by
 simp only[DI,mK,List.length_map]
 split
 ·rename_i h
  have hlt:n.toNat<l.length:=by omega
  simp[List.getD_eq_getElem?_getD,hlt]
 ·rfl
theorem qZ {l:List α}{lo hi:Option V}{y:Nat}:sxV y (DI f z l) lo hi=match dK lo 0,dK hi l.length with
  | some a,some b=>if z=y/\a<=b/\b<=l.length then some (DI f z ((l.drop a).take (b-a))) else none
  | _,_=>none:=by
 simp only[DI,sxV,List.length_map,<-List.map_drop,<-List.map_take]
 rfl
theorem tR {i:Nat}{l:List α}:Kt (Bf f i z l)=some [Bf f i z l]:=rfl
theorem qb {σ:Nat->Option Nat}{i:Nat}{l:List α}:ren σ (Bf f i z l)=match σ i with | some j=>Bf f j z l | none=>DI f z l:=by simp only[Bf,DI,ren];rfl
theorem ng {i:Nat}{l:List α}:VY (Bf f i z l)=some (.int .i64 l.length):=by simp[Bf,VY]
theorem qV {i:Nat}{l:List α}:We (Bf f i z l)=some (l.map f):=rfl
theorem pI [Inhabited α]{i:Nat}{l:List α}{k:IntKind}{n:Int}{y:Nat}:mK y (Bf f i z l) (.int k n)=if z=y/\0<=n/\n<l.length then some (.ro (f (l.getD n.toNat default)) 0) else none:=by
 simp only[Bf,mK,List.length_map]
 split
 ·rename_i h
  have hlt:n.toNat<l.length:=by omega
  simp[List.getD_eq_getElem?_getD,hlt]
 ·rfl
def sv (o:Option Ob)(K:Nat->Nat->Nat->Option (V×List Ob)):Option (V×List Ob):=match o with
 | some (.arr e z n)=>K e z n
 | _=>none
theorem mQ {e y n:Nat}{K:Nat->Nat->Nat->Option (V×List Ob)}:sv (some (.arr e y n)) K=K e y n:=rfl
def iA (o:Option (List (List V)))(K:List (List V)->Option (V×List Ob)):Option (V×List Ob):=match o with
 | some l=>K l
 | none=>none
theorem nW {l:List (List V)}{K:List (List V)->Option (V×List Ob)}:iA (some l) K=K l:=rfl
theorem mO {H:List Ob}{e y bytes i:Nat}{l:List α}{v:V}:Pb H e y bytes (Bf f i z l) v=iA (We v) fun new=>sv H[i]? fun e' z' n=>if z=y/\z'=y/\e'=e/\n=l.length/\(∀ x∈new,x.length=y)/\(l.length+new.length)*bytes<=Ah then some (.own i y (l.map f++new),H.set i (.arr e y (l.length+new.length))) else none:=by
 unfold Pb Bf iA sv
 cases We v with
 | none=>rfl
 | some new =>
  simp only[List.length_map]
  rfl
theorem sU {H:List Ob}{e y bytes i:Nat}{l:List (List V)}{v:V}:Pb H e y bytes (.own i z l) v=iA (We v) fun new=>sv H[i]? fun e' z' n=>if z=y/\z'=y/\e'=e/\n=l.length/\(∀ x∈new,x.length=y)/\(l.length+new.length)*bytes<=Ah then some (.own i y (l++new),H.set i (.arr e y (l.length+new.length))) else none:=by
 unfold Pb iA sv
 cases We v with
 | none=>rfl
 | some new=>rfl
def AbL (o:Option Ob)(K:Nat->Nat->List (List V)->Option (V×List Ob)):Option (V×List Ob):=match o with
 | some (.row e z els)=>K e z els
 | _=>none
theorem nU {e y:Nat}{els:List (List V)}{K:Nat->Nat->List (List V)->Option (V×List Ob)}:AbL (some (.row e y els)) K=K e y els:=rfl
theorem xp {H:List Ob}{e y bytes i n:Nat}{v:V}:ez H e y bytes (.rw i z n) v=iA (We v) fun new=>AbL H[i]? fun e' z' els=>if z'=y/\e'=e/\els.length=n/\(∀ x∈new,x.length=y)/\(n+new.length)*bytes<=Ah then some (.rw i y (n+new.length),H.set i (.row e y (els++new))) else none:=by
 unfold ez iA AbL
 cases We v with
 | none=>rfl
 | some new=>rfl
theorem ry {i:Nat}{l:List α}{x:α}:(.own i z (l.map f++[f x]):V)=Bf f i z (l++[x]):=by simp[Bf]
theorem vB {i:Nat}{l m:List α}:(.own i z (l.map f++m.map f):V)=Bf f i z (l++m):=by simp[Bf]
end
attribute [push_cast] pL uf nb rd qt qZ tR qb ng qV pI mQ nW mO sU nU xp ry vB eq_self
mutual
def jc:Term->List (List V)
 | .mk _ _ ts=>Zn ts
def Zn:List Term->List (List V)
 | []=>[]
 | a::ts=>[.str a.name,.bool a.var,.sl 3 (jc a)]::Zn ts
end
def cT (t:Term):List V:=[.str t.name,.bool t.var,.sl 3 (jc t)]
theorem qo (ts:List Term):Zn ts=ts.map cT:=by
 induction ts with
 | nil=>simp[Zn]
 | cons a ts ih=>simp[Zn,ih,cT]
theorem cg (t:Term):jc t=t.args.map cT:=by cases t;simp[jc,qo,Term.args]
abbrev Bg (l:List Term):V:=DI cT 3 l
theorem OV (t:Term):cT t=[.str t.name,.bool t.var,Bg t.args]:=by rw[cT,cg];rfl
def Ap (t:Term):V:=.agg (cT t)
theorem uh (t:Term):Kt (Ap t)=some (cT t):=rfl
theorem cQ (t:Term):(cT t).length=3:=rfl
theorem Aee (t:Term):(cT t)[0]?=some (.str t.name):=rfl
theorem Ad1 (t:Term):(cT t)[1]?=some (.bool t.var):=rfl
theorem AdY (t:Term):(cT t)[2]?=some (Bg t.args):=by rw[OV];rfl
theorem AbY (t:Term):sub 0 3 (cT t)=cT t:=rfl
theorem lT (t:Term):V.agg (cT t)=Ap t:=rfl
theorem kg {σ:Nat->Option Nat}(t:Term):AR σ (cT t)=cT t:=rfl
theorem ed {σ:Nat->Option Nat}(t:Term):ren σ (Ap t)=Ap t:=by unfold Ap;rw[Gz,kg]
theorem zf (n:A9)(v:Bool)(l:List Term):[V.str n,.bool v,Bg l]=cT (.mk n v l):=by rw[OV];rfl
theorem YX (t:Term)(k:Nat):mN k none (Ap t)=(cT t)[k]?:=rfl
theorem ln (x:List V)(a b c:V)(h:x.length=3):put 0 x [a,b,c]=x:=by
 simp only[put,h];simp
theorem AbI (t:Term)(a b c:V):put 0 (cT t) [a,b,c]=cT t:=ln _ _ _ _ rfl
theorem lw (t u:Term):put 0 (cT t) (cT u)=cT t:=ln _ _ _ _ rfl
attribute [push_cast] uh cQ Aee Ad1 AdY AbY lT ed kg YX AbI lw
end Go.Dw
end
section
namespace Go.Dw
abbrev PF (f:Nat)(args:List V)(x:V):Prop:=Spec prog f args [] fun x' H'=>x'=x/\H'=[]
theorem Ab {f:Nat}{nd:Nat->C}{c:C}{n:Nat}{rs:List RV}(hok:B9 prog f nd c n rs=true){args:List V}{x:V}(hn:args.length=n)
  (hrun:AB prog nd 0 [.c c] (uk 0 args) [] (Bx 0 rs fun x' H'=>x'=x/\H'=[])):PF f args x:=AK mixed hok hn hrun
theorem A1 {rs:List RV}{t:T}{H:List Ob}{v:V}{e:X}(h:oP (UG rs t H) fun x=>ren (fun _=>none) x=v)(he:e=.ret\/e=.fall:=by first | exact .inl rfl | exact .inr rfl):Bx 0 rs (fun x' H'=>x'=v/\H'=[]) e t H:=by
 cases hr:UG rs t H with
 | none=>rw[hr]at h;exact h.elim
 | some x=>rw[hr]at h;exact fW he hr ⟨h,rfl⟩
attribute [push_cast] List.forall_mem_singleton List.forall_mem_map Option.map_some Option.map_none Option.bind_some Option.bind_none ne_eq Bool.false_eq_true Bool.true_eq_false and_true true_and implies_true Int.natCast_nonneg implies_true not_true_eq_false not_false_eq_true true_implies false_implies forall_const V.int.injEq V.bool.injEq V.str.injEq V.tup.injEq V.agg.injEq List.cons.injEq
theorem Acq {l:List V}:sub 0 0 l=[]:=rfl
theorem Adk {k:Nat}{x:V}{l:List V}:sub 0 (k+1) (x::l)=x::sub 0 k l:=rfl
theorem Ado {o k:Nat}{x:V}{l:List V}:sub (o+1) k (x::l)=sub o k l:=rfl
theorem AcJ {l:List V}:put 0 [] l=l:=by simp[put]
theorem Adc {x y:V}{n l:List V}:put 0 (x::n) (y::l)=x::put 0 n l:=by simp[put]
theorem Acx {o:Nat}{y:V}{n l:List V}:put (o+1) n (y::l)=y::put o n l:=by
 simp only[put,List.take_succ_cons,List.cons_append]
 rw[show o+1+n.length=(o+n.length)+1 by omega,List.drop_succ_cons]
theorem vu (t:Term)(a b c:V)(l:List V):put 0 (cT t) (a::b::c::l)=cT t++l:=by simp[put,cQ]
theorem vK (t:Term)(n l:List V)(k:Nat):put (k+3) n (cT t++l)=cT t++put k n l:=by
 simp only[put]
 have h:(cT t).length=3:=rfl
 rw[List.take_append,List.drop_append,List.take_of_length_le (by omega),List.drop_of_length_le (by omega)]
 simp only[h,List.nil_append,List.append_assoc]
 rw[show k+3-3=k by omega,show k+3+n.length-3=k+n.length by omega]
theorem iP (t:Term)(l:List V)(k:Nat):(cT t++l)[k+3]?=l[k]?:=by
 rw[List.getElem?_append_right (by simp[cQ])];simp[cQ]
theorem iF (t:Term)(l:List V):sub 0 3 (cT t++l)=cT t:=by
 simp only[sub,List.drop_zero]
 exact List.take_left' rfl
attribute [push_cast] Acq Adk Ado AcJ Adc Acx vu vK iP iF List.length_append List.append_assoc
theorem A4 {α:Type}[Inhabited α]{l:List α}{k:Nat}(h:k<l.length):l.getD k default∈l:=by simp[List.getD_eq_getElem?_getD,h]
theorem Aa {α:Type}[Inhabited α]{l:List α}{k:Nat}(h:k<l.length):l.take (k+1)=l.take k++[l.getD k default]:=by
 rw[List.take_succ_eq_append_getElem h];simp[List.getD_eq_getElem?_getD,h]
theorem Al {α:Type}[Inhabited α]{l:List α}{k:Nat}(h:k<l.length):l.drop k=l.getD k default::l.drop (k+1):=by
 rw[List.drop_eq_getElem_cons h];simp[List.getD_eq_getElem?_getD,h]
theorem BT {k n:Nat}(h:k<n):((k:Int)<(n:Int))=True:=eq_true (by omega)
theorem B8 {k n:Nat}(h:n<=k):((k:Int)<(n:Int))=False:=eq_false (by omega)
theorem CV {k:Nat}(h:k<2^62):IntKind.i64.wrap ((k:Int)+1)=(k:Int)+1:=Bs (by omega) (by omega)
theorem wS:Ay []=fun _=>none:=by funext i;rfl
theorem nf (H H':List Ob):Pq [] H H'=H:=by
 unfold Pq
 apply List.ext_getElem (by simp)
 intro i h1 h2
 simp[Ay,h2]
theorem ii (H H':List Ob):takeB [] H H'=H++H'.map (A5 fun i=>some (H.length+i)):=by
 unfold takeB
 rw[nf]
 have:BY [] H.length=fun i=>some (H.length+i):=by funext i;simp[BY]
 rw[this];simp
section
variable {N:Nat->C} {B:Nat} {s:List K} {t:T} {H:List Ob} {Q:X->T->List Ob->Prop}
theorem ZY {d:Option Nat}{l:List S}{f:Nat}{vs:List V}{x:V}{H1:List Ob}(h:Spec prog f (AR (fun _=>none) vs) [] fun x' H'=>x'=x/\H'=H1)
  (k:AB prog N B (.r l::s) (FK d (ren (fun i=>some (H.length+i)) x) t) (H++H1.map (A5 fun i=>some (H.length+i))) Q):By prog N B d l s t Q (.func f) vs H:=by
 refine By.some [] List.nodup_nil (fun i hi=>by cases hi) (R:=fun x' H'=>x'=x/\H'=H1) (by rw[wS];exact h) ?_
 rintro x' H' ⟨rfl,rfl⟩ _
 rw[ii]
 have:BY [] H.length=fun i=>some (H.length+i):=by funext i;simp[BY]
 rw[this];exact k
end
end Go.Dw
end
namespace Go.Dw
mutual
def size:Term->Nat
 | .mk _ _ l=>1+Ac l
def Ac:List Term->Nat
 | []=>0
 | a::l=>size a+Ac l
end
theorem Ci (a b:List Term):Ac (a++b)=Ac a+Ac b:=by
 induction a with
 | nil=>simp[Ac]
 | cons x xs ih=>simp[Ac,ih];omega
theorem AJ (t:Term):size t=1+Ac t.args:=by cases t;simp[size,Term.args]
theorem Ft (l:List Term)(k:Nat)(h:k<l.length):Ac (l.take (k+1))=Ac (l.take k)+size (l.getD k default):=by
 rw[Aa h,Ci];simp[Ac]
theorem Ez (l:List Term)(k:Nat):Ac (l.take k)<=Ac l:=by
 conv=>rhs;rw[<-List.take_append_drop k l]
 rw[Ci];omega
theorem Bt {l:List Term}{a:Term}(h:a∈l):size a<=Ac l:=by
 induction l with
 | nil=>cases h
 | cons x xs ih=>rcases List.mem_cons.1 h with rfl | h<;>simp[Ac];have:=ih h;omega
theorem Aj (l:List Term):l.length<=Ac l:=by
 induction l with
 | nil=>simp
 | cons x xs ih=>simp only[Ac,List.length_cons];have:=AJ x;omega
theorem Ag {p:Term->Prop}(h:∀ t,(∀ a∈t.args,p a)->p t)(t:Term):p t:=by
 have:∀ n t,size t<=n->p t:=by
  intro n
  induction n with
  | zero=>intro t ht;have:=AJ t;omega
  | succ n ih =>
   intro t ht
   refine h t fun a ha=>ih a ?_
   have:=AJ t
   have:=Bt ha
   omega
 exact this (size t) t (Nat.le_refl _)
def qR {α β:Type}(f:α->β->Bool):List α->List β->Bool
 | [],[]=>true
 | a::l,b::m=>f a b&&qR f l m
 | _,_=>false
theorem lc {α β:Type}{f:α->β->Bool}:∀ {l:List α} {m:List β},qR f l m=true->l.length=m.length
 | [],[],_=>rfl
 | a::l,b::m,h=>by simp only[qR,Bool.and_eq_true]at h;simp[lc h.2]
 | [],_::_,h=>by cases h
 | _::_,[],h=>by cases h
mutual
def teq:Term->Term->Bool
 | .mk n v l,.mk n' v' l'=>n==n'&&v==v'&&iq l l'
def iq:List Term->List Term->Bool
 | [],[]=>true
 | a::l,b::m=>teq a b&&iq l m
 | _,_=>false
end
mutual
theorem co:∀ a b:Term,teq a b=true↔a=b
 | .mk n v l,.mk n' v' l'=>by simp[teq,gb l l',and_assoc]
theorem gb:∀ a b:List Term,iq a b=true↔a=b
 | [],[]=>by simp[iq]
 | a::l,b::m=>by simp[iq,co a b,gb l m]
 | [],_::_=>by simp[iq]
 | _::_,[]=>by simp[iq]
end
instance:DecidableEq Term:=fun a b=>if h:teq a b=true then .isTrue ((co a b).1 h) else .isFalse fun e=>h ((co a b).2 e)
theorem pK {f:Term->Term->Bool}:∀ {l m:List Term},(∀ a∈l,∀ b,f a b=decide (a=b))->qR f l m=decide (l=m)
 | [],[],_=>rfl
 | a::l,b::m,h=>by
  simp only[qR,h a (by simp) b,pK (l:=l) (m:=m) fun x hx=>h x (by simp[hx])]
  simp
 | [],_::_,_=>rfl
 | _::_,[],_=>rfl
theorem UW (a b:Term):a=b↔a.name=b.name/\a.var=b.var/\a.args=b.args:=by cases a;cases b;simp[Term.name,Term.var,Term.args]
end Go.Dw
section
namespace Go.Dw
def zY (c:UInt8):List V:=[.int .u8 c.toNat]
def cS (s:A9):List V:=[.str s]
def cI (n:Int):List V:=[.int .i64 n]
theorem oS (s:A9):(.sl 1 (s.map fun c=>[V.int .u8 c.toNat]):V)=DI zY 1 s:=rfl
theorem ZE (c:UInt8):(zY c)[0]?=some (.int .u8 c.toNat):=rfl
theorem nF (s:A9):(cS s)[0]?=some (.str s):=rfl
theorem Ad9 (n:Int):(cI n)[0]?=some (.int .i64 n):=rfl
theorem xG (s:UInt8):(zY s).length=1:=rfl
theorem AaC (s:A9):(cS s).length=1:=rfl
theorem Aa9 (s:Int):(cI s).length=1:=rfl
abbrev Bo (l:List A9):V:=DI cS 1 l
abbrev Ht (l:List Int):V:=DI cI 1 l
structure A2 where
 left:Term
 right:Term
 deriving Inhabited,DecidableEq
def cR (r:A2):List V:=cT r.left++cT r.right
def JW (r:A2):V:=.agg (cR r)
abbrev Ak (l:List A2):V:=DI cR 6 l
structure A6 where
 name:A9
 term:Term
 deriving Inhabited,DecidableEq
def cB (b:A6):List V:=.str b.name::cT b.term
def Y7 (b:A6):V:=.agg (cB b)
abbrev Bi (l:List A6):V:=DI cB 4 l
structure Yy where
 rule:Int
 pos:List Int
 deriving Inhabited,DecidableEq
def gK (s:Yy):List V:=[.int .i64 s.rule,Ht s.pos]
def er (s:Yy):V:=.agg (gK s)
abbrev iE (l:List Yy):V:=DI gK 2 l
structure bB where
 start:Term
 steps:List Yy
 deriving Inhabited,DecidableEq
def cC (c:bB):List V:=cT c.start++[iE c.steps]
def qU (c:bB):V:=.agg (cC c)
structure dQ where
 src:Int
 dst:Int
 step:Yy
 deriving Inhabited,DecidableEq
def oy (e:dQ):List V:=.int .i64 e.src::.int .i64 e.dst::gK e.step
def eI (e:dQ):V:=.agg (oy e)
abbrev sN (l:List dQ):V:=DI oy 4 l
structure jl where
 terms:List Term
 edges:List dQ
 whole:Bool
 deriving Inhabited,DecidableEq
def cG (g:jl):List V:=[Bg g.terms,sN g.edges,.bool g.whole]
def qi (g:jl):V:=.agg (cG g)
structure tK where
 chain:bB
 pos:List Int
 subst:List A6
 deriving Inhabited,DecidableEq
def cL (l:tK):List V:=cC l.chain++[Ht l.pos,Bi l.subst]
def fG (l:tK):V:=.agg (cL l)
section
variable (r:A2) (b:A6) (s:Yy) (c:bB) (e:dQ) (g:jl) (l:tK) {σ:Nat->Option Nat}
theorem AbR:(cR r).length=6:=rfl
theorem Aav:(cB b).length=4:=rfl
theorem wT:(gK s).length=2:=rfl
theorem Aaf:(cC c).length=4:=rfl
theorem yB:(oy e).length=4:=rfl
theorem AaM:(cG g).length=3:=rfl
theorem Abq:(cL l).length=6:=rfl
theorem sy:Kt (JW r)=some (cR r):=rfl
theorem pn:Kt (Y7 b)=some (cB b):=rfl
theorem ni:Kt (er s)=some (gK s):=rfl
theorem sJ:Kt (qU c)=some (cC c):=rfl
theorem np:Kt (eI e)=some (oy e):=rfl
theorem ui:Kt (qi g)=some (cG g):=rfl
theorem nD:Kt (fG l)=some (cL l):=rfl
theorem kp:AR σ (cR r)=cR r:=rfl
theorem kh:AR σ (cB b)=cB b:=rfl
theorem fx:AR σ (gK s)=gK s:=rfl
theorem kx:AR σ (cC c)=cC c:=rfl
theorem eR:AR σ (oy e)=oy e:=rfl
theorem kO:AR σ (cG g)=cG g:=rfl
theorem kY:AR σ (cL l)=cL l:=rfl
theorem qd:ren σ (JW r)=JW r:=by unfold JW;rw[Gz,kp]
theorem pf:ren σ (Y7 b)=Y7 b:=by unfold Y7;rw[Gz,kh]
theorem nA:ren σ (er s)=er s:=by unfold er;rw[Gz,fx]
theorem pU:ren σ (qU c)=qU c:=by unfold qU;rw[Gz,kx]
theorem mp:ren σ (eI e)=eI e:=by unfold eI;rw[Gz,eR]
theorem rM:ren σ (qi g)=qi g:=by unfold qi;rw[Gz,kO]
theorem mC:ren σ (fG l)=fG l:=by unfold fG;rw[Gz,kY]
theorem mz:V.agg (cR r)=JW r:=rfl
theorem nh:V.agg (cB b)=Y7 b:=rfl
theorem gM:V.agg (gK s)=er s:=rfl
theorem mg:V.agg (cC c)=qU c:=rfl
theorem iz:V.agg (oy e)=eI e:=rfl
theorem nN:V.agg (cG g)=qi g:=rfl
theorem ic:V.agg (cL l)=fG l:=rfl
theorem uU:sub 0 3 (cR r)=cT r.left:=rfl
theorem wA:sub 3 3 (cR r)=cT r.right:=rfl
theorem wY:sub 0 6 (cR r)=cR r:=rfl
theorem Aed:(cB b)[0]?=some (.str b.name):=rfl
theorem uR:sub 1 3 (cB b)=cT b.term:=rfl
theorem vz:sub 0 4 (cB b)=cB b:=rfl
theorem Ack:(gK s)[0]?=some (.int .i64 s.rule):=rfl
theorem AcN:(gK s)[1]?=some (Ht s.pos):=rfl
theorem tk:sub 0 2 (gK s)=gK s:=rfl
theorem uP:sub 0 3 (cC c)=cT c.start:=rfl
theorem Aef:(cC c)[3]?=some (iE c.steps):=rfl
theorem vS:sub 0 4 (cC c)=cC c:=rfl
theorem Ada:(oy e)[0]?=some (.int .i64 e.src):=rfl
theorem AcB:(oy e)[1]?=some (.int .i64 e.dst):=rfl
theorem pj:sub 2 2 (oy e)=gK e.step:=rfl
theorem tD:sub 0 4 (oy e)=oy e:=rfl
theorem Ad5:(cG g)[0]?=some (Bg g.terms):=rfl
theorem Aej:(cG g)[1]?=some (sN g.edges):=rfl
theorem Ad8:(cG g)[2]?=some (.bool g.whole):=rfl
theorem yD:sub 0 3 (cG g)=cG g:=rfl
theorem yF:sub 0 4 (cL l)=cC l.chain:=rfl
theorem vH:sub 0 3 (cL l)=cT l.chain.start:=rfl
theorem Aek:(cL l)[3]?=some (iE l.chain.steps):=rfl
theorem Ad6:(cL l)[4]?=some (Ht l.pos):=rfl
theorem AdQ:(cL l)[5]?=some (Bi l.subst):=rfl
theorem vx:sub 0 6 (cL l)=cL l:=rfl
theorem Aea:mN 0 none (Y7 b)=some (.str b.name):=rfl
theorem AdZ:mN 1 (some 3) (Y7 b)=some (Ap b.term):=rfl
end
attribute [push_cast] oS ZE nF Ad9 xG AaC Aa9 AbR Aav wT Aaf yB AaM Abq sy pn ni sJ np ui nD kp kh fx kx eR kO kY qd pf nA pU mp rM mC mz nh gM mg iz nN ic uU wA wY Aed uR vz Ack AcN tk uP Aef vS Ada AcB pj tD Ad5 Aej Ad8 yD yF vH Aek Ad6 AdQ vx Aea AdZ
def KM {α:Type}(p:α->Bool):List α->Int
 | []=>-1
 | a::l=>if p a then 0 else if KM p l<0 then -1 else KM p l+1
theorem Xt {α:Type}(p:α->Bool):∀ l:List α,(KM p l=-1/\l.any p=false)\/(0<=KM p l/\KM p l<l.length/\l.any p=true)
 | []=>.inl ⟨rfl,rfl⟩
 | a::l=>by
  simp only[KM,List.any_cons,List.length_cons]
  cases hp:p a with
  | true=>right;simp
  | false =>
   rcases Xt p l with ⟨h1,h2⟩|⟨h1,h2,h3⟩
   ·left;simp[h1,h2]
   ·right;simp only[Bool.false_eq_true,if_false,h3];rw[if_neg (by omega)];simp;omega
theorem Ng {α:Type}(p:α->Bool)(l:List α):decide (0<=KM p l)=l.any p:=by
 rcases Xt p l with ⟨h1,h2⟩|⟨h1,h2,h3⟩
 ·rw[h1,h2];rfl
 ·rw[h3];simp[h1]
theorem GF {α:Type}[Inhabited α]{p:α->Bool}:∀ {l:List α} {k:Nat},k<l.length->p (l.getD k default)=true->(∀ j,j<k->p (l.getD j default)=false)->KM p l=k
 | [],k,hk,_,_=>by simp at hk
 | a::l,0,hk,hp,_=>by simp only[KM];rw[if_pos (by simpa using hp)];rfl
 | a::l,k+1,hk,hp,hq=>by
  have h0:p a=false:=hq 0 (by omega)
  have:=GF (l:=l) (k:=k) (by simpa using hk) (by simpa using hp) fun j hj=>by have:=hq (j+1) (by omega);simpa using this
  simp only[KM,h0,Bool.false_eq_true,if_false,this]
  rw[if_neg (by omega)];omega
theorem HT {α:Type}[Inhabited α]{p:α->Bool}:∀ {l:List α},(∀ j,j<l.length->p (l.getD j default)=false)->KM p l=-1
 | [],_=>rfl
 | a::l,hq=>by
  have h0:p a=false:=hq 0 (by simp)
  have:=HT (l:=l) fun j hj=>by have:=hq (j+1) (by simpa using hj);simpa using this
  simp[KM,h0,this]
end Go.Dw
end
section
namespace Go.Dw
variable {s:List K} {B:Nat} {t:T} {H:List Ob} {Q:X->T->List Ob->Prop}
namespace GL
def nd (_:Nat):C:=.skip
def body:C:=.R [.Z 4 A7 1,.Z 5 A7 2,.mv 6 (.c (.bool false))] (.R [.A 16 0,.E 17 4 4,.E 18 4 5,.U 19 Dv [.s 16,.s 17,.s 18],.A 15 19,.F 20 15 0,.F 21 15 1,.al 7 A7 J2,.L 7 4 20,.A 8 21] (.R [.A 23 0,.E 24 4 4,.E 25 4 5,.U 26 J5 [.s 23,.s 24,.s 25],.A 22 26,.F 27 22 0,.F 28 22 1,.al 9 A7 J2,.L 9 4 27,.A 10 28] (.R [.A 30 0,.E 31 4 4,.E 32 4 5,.U 33 LF [.s 30,.s 31,.s 32],.A 29 33,.F 34 29 0,.F 35 29 1,.al 11 A7 J2,.L 11 4 34,.A 12 35] (.R [.A 37 0,.E 38 4 4,.E 39 4 5,.U 40 PM [.s 37,.s 38,.s 39],.A 36 40,.F 41 36 0,.F 42 36 1,.al 13 A7 J2,.L 13 4 41,.A 14 42] (.R [.A 43 8,.A 44 12,.V 45 .eql 43 44,.A 46 45,.P 46 true [47,48,49] [.A 47 10,.A 48 14,.V 49 .eql 47 48],.N 50 46 49,.A 51 50,.P 51 true [52,53,54] [.E 52 4 7,.E 53 4 11,.U 54 HD [.s 52,.s 53]],.N 55 51 54,.A 56 55,.P 56 true [57,58,59] [.E 57 4 9,.E 58 4 13,.U 59 HD [.s 57,.s 58]],.N 60 56 59,.A 61 60,.P 61 true [62] [.U 62 PR []],.N 63 61 62,.A 6 63] (.ret))))))
def rs:List RV:=[.t 6]
attribute [push_cast] nd body
theorem ok:B9 prog J0 nd body 3 rs=true:=by kernel_rfl
end GL
namespace Ec
def nd:Nat->C
 | 0=>.R [.A 17 0,.E 18 4 4,.E 19 4 5,.U 20 Bq [.s 17,.s 18,.s 19],.U 21 Md [.s 20],.F 22 21 0,.F 23 21 1,.K 4 6 22,.A 7 23] (.ret)
 | _=>.skip
def body:C:=.R [.Z 4 A7 1,.Z 5 A7 2,.al 6 A7 J2,.mv 7 (.i 0)] (.seq (.R [.A 9 0,.E 10 4 4,.E 11 4 5,.U 12 Hj [.s 9,.s 10,.s 11],.A 8 12] (.R [.A 13 8,.J 14 13] (.W 14 (.R [.bd 15 J2 [],.A 16 8,.K 4 6 15,.A 7 16] (.ret)) (.skip)))) (.n 0))
def rs:List RV:=[.a 6 4,.t 7]
attribute [push_cast] nd body
theorem ok:B9 prog Dv nd body 3 rs=true:=by kernel_rfl
end Ec
namespace UM
def nd (_:Nat):C:=.skip
def body:C:=.R [.mv 0 (.c (.bool false))] (.R [.bd 7 J2 [(1,1,(.c (.str [97])))],.bs 8 4 [.s 7],.bd 9 J2 [(0,1,(.i 1)),(3,1,(.s 8))],.al 1 A7 J2,.L 1 4 9] (.R [.bd 10 J2 [(0,1,(.i 2))],.bs 11 4 [.s 10],.bd 12 J2 [(1,1,(.c (.str [102]))),(3,1,(.s 11))],.al 2 A7 J2,.L 2 4 12] (.seq (.dr [0,1,2,3,4,5,6,7,8,9] [.U 14 Kv [],.E 15 4 1,.E 16 4 2,.U 17 Dv [.s 14,.s 15,.s 16],.A 13 17,.F 18 13 0,.F 19 13 1,.al 3 A7 J2,.L 3 4 18,.A 4 19]) (.seq (.dr [0,1,2,3,4,5,6,7,8,9] [.U 21 Kv [],.E 22 4 2,.E 23 4 1,.U 24 Dv [.s 21,.s 22,.s 23],.A 20 24,.F 25 20 0,.F 26 20 1,.al 5 A7 J2,.L 5 4 25,.A 6 26]) (.R [.A 27 4,.X 28 .eql 27 0,.A 29 28,.P 29 true [30,31] [.A 30 6,.X 31 .eql 30 0],.N 32 29 31,.A 33 32,.P 33 true [34,35,36,37,38] [.E 34 4 3,.bd 35 J2 [(1,1,(.c (.str [98])))],.bs 36 4 [.s 35],.bd 37 J2 [(0,1,(.i 1)),(3,1,(.s 36))],.U 38 HD [.s 34,.s 37]],.N 39 33 38,.A 40 39,.P 40 true [41,42,43,44,45,46] [.E 41 4 5,.bd 42 J2 [(0,1,(.i 2))],.bd 43 J2 [(0,1,(.i 2))],.bs 44 4 [.s 42,.s 43],.bd 45 J2 [(1,1,(.c (.str [103]))),(3,1,(.s 44))],.U 46 HD [.s 41,.s 45]],.N 47 40 46,.A 0 47] (.ret))))))
def rs:List RV:=[.t 0]
attribute [push_cast] nd body
theorem ok:B9 prog PR nd body 0 rs=true:=by kernel_rfl
end UM
namespace Qm
def nd:Nat->C
 | 0=>.R [.mv 4 (.c (.bool true))] (.ret)
 | 1=>.gh [.ks 0 [2,3,36,37]] (.m 3)
 | 2=>.seq (.blk 1 (.R [.A 39 37,.A 5 39] (.seq (.dr [0,1,2,3,4,5,6,7,8,9,10,11] [.D 40 3 2,.B 41 40,.A 42 5,.G 43 4 41 42,.E 44 4 43,.D 45 3 3,.B 46 45,.A 47 5,.G 48 4 46 47,.E 49 4 48,.U 50 HD [.s 44,.s 49],.Q 51 50]) (.W 51 (.R [.mv 4 (.c (.bool false))] (.ret)) (.skip))))) (.reg [.X 52 .add 37 1,.A 37 52])
 | 3=>.R [.V 38 .lss 37 36] (.seq (.W 38 (.skip) (.exit 0)) (.n 2))
 | 4=>.seq (.R [.D 34 3 2,.B 35 34,.Y 36 35,.mv 37 (.i 0)] (.J 0 1)) (.n 0)
 | _=>.skip
def body:C:=.R [.Z 2 A7 0,.Z 3 A7 1,.mv 4 (.c (.bool false))] (.seq (.R [.D 6 0 2,.B 7 6,.D 8 0 3,.B 9 8,.V 10 .neq 7 9,.A 11 10,.P 11 false [12,13,14,15,16] [.D 12 1 2,.B 13 12,.D 14 1 3,.B 15 14,.V 16 .neq 13 15],.M 17 11 16,.A 18 17,.P 18 false [19,20,21,22,23] [.D 19 2 2,.B 20 19,.D 21 2 3,.B 22 21,.bb 23 .neq (.s 20) (.s 22)],.M 24 18 23,.A 25 24,.P 25 false [26,27,28,29,30,31,32] [.D 26 3 2,.B 27 26,.Y 28 27,.D 29 3 3,.B 30 29,.Y 31 30,.V 32 .neq 28 31],.M 33 25 32] (.W 33 (.R [.mv 4 (.c (.bool false))] (.ret)) (.skip))) (.n 4))
def rs:List RV:=[.t 4]
attribute [push_cast] nd body
theorem ok:B9 prog HD nd body 2 rs=true:=by kernel_rfl
abbrev L3 (a b c d:V)(B:Nat)(H:Dh)(Q:QX):Prop:=AB prog nd B (DW 3 1 0 0) [(2,a),(3,b),(36,c),(37,d)] H Q
end Qm
namespace Gw
def nd:Nat->C
 | 0=>.R [.A 17 0,.E 18 4 4,.E 19 4 5,.U 20 BP [.s 17,.s 18,.s 19],.U 21 Md [.s 20],.F 22 21 0,.F 23 21 1,.K 4 6 22,.A 7 23] (.ret)
 | _=>.skip
def body:C:=.R [.Z 4 A7 1,.Z 5 A7 2,.al 6 A7 J2,.mv 7 (.i 0)] (.seq (.R [.A 9 0,.E 10 4 4,.E 11 4 5,.U 12 Hj [.s 9,.s 10,.s 11],.A 8 12] (.R [.A 13 8,.J 14 13] (.W 14 (.R [.bd 15 J2 [],.A 16 8,.K 4 6 15,.A 7 16] (.ret)) (.skip)))) (.n 0))
def rs:List RV:=[.a 6 4,.t 7]
attribute [push_cast] nd body
theorem ok:B9 prog J5 nd body 3 rs=true:=by kernel_rfl
end Gw
namespace Ii
def nd:Nat->C
 | 0=>.R [.E 29 4 9,.K 4 6 29,.mv 7 (.i 0)] (.ret)
 | 1=>.R [.A 20 0,.E 21 4 4,.E 22 4 5,.U 23 Ov [.s 20,.s 21,.s 22],.A 19 23,.F 24 19 0,.F 25 19 1,.al 9 A7 J2,.L 9 4 24,.A 10 25] (.seq (.R [.A 26 10,.Q 27 26] (.W 27 (.R [.bd 28 J2 [],.K 4 6 28,.mv 7 (.i 3)] (.ret)) (.skip))) (.n 0))
 | _=>.skip
def body:C:=.R [.Z 4 A7 1,.Z 5 A7 2,.al 6 A7 J2,.mv 7 (.i 0)] (.seq (.R [.A 11 0,.E 12 4 4,.E 13 4 5,.U 14 Hk [.s 11,.s 12,.s 13],.A 8 14] (.R [.A 15 8,.J 16 15] (.W 16 (.R [.bd 17 J2 [],.A 18 8,.K 4 6 17,.A 7 18] (.ret)) (.skip)))) (.n 1))
def rs:List RV:=[.a 6 4,.t 7]
attribute [push_cast] nd body
theorem ok:B9 prog LF nd body 3 rs=true:=by kernel_rfl
end Ii
namespace ND
def nd:Nat->C
 | 0=>.R [.E 26 4 9,.K 4 6 26,.mv 7 (.i 0)] (.ret)
 | 1=>.R [.A 18 0,.E 19 4 4,.E 20 4 5,.U 21 F4 [.s 18,.s 19,.s 20],.al 9 A7 J2,.L 9 4 21] (.seq (.R [.E 22 4 9,.U 23 Mg [.s 22],.Q 24 23] (.W 24 (.R [.bd 25 J2 [],.K 4 6 25,.mv 7 (.i 3)] (.ret)) (.skip))) (.n 0))
 | _=>.skip
def body:C:=.R [.Z 4 A7 1,.Z 5 A7 2,.al 6 A7 J2,.mv 7 (.i 0)] (.seq (.R [.A 10 0,.E 11 4 4,.E 12 4 5,.U 13 Hk [.s 10,.s 11,.s 12],.A 8 13] (.R [.A 14 8,.J 15 14] (.W 15 (.R [.bd 16 J2 [],.A 17 8,.K 4 6 16,.A 7 17] (.ret)) (.skip)))) (.n 1))
def rs:List RV:=[.a 6 4,.t 7]
attribute [push_cast] nd body
theorem ok:B9 prog PM nd body 3 rs=true:=by kernel_rfl
end ND
namespace UK
def nd (_:Nat):C:=.skip
def body:C:=.R [.Z 2 A3 0,.Z 3 A3 1,.mv 4 (.c (.bool false))] (.R [.E 5 3 2,.E 6 3 3,.U 7 JG [.s 5,.s 6],.X 8 .eql 7 0,.A 4 8] (.ret))
def rs:List RV:=[.t 4]
attribute [push_cast] nd body
theorem ok:B9 prog Ps nd body 2 rs=true:=by kernel_rfl
end UK
namespace EC
def nd:Nat->C
 | 0=>.R [.A 43 10,.A 6 43] (.ret)
 | 1=>.R [.A 29 0,.E 30 4 5,.U 31 Hi [.s 29,.s 30],.A 28 31,.F 32 28 0,.F 33 28 1,.F 34 28 2,.al 11 A3 CM,.al 12 A3 CM,.L 11 3 32,.L 12 3 33,.A 10 34] (.seq (.R [.A 35 10,.X 36 .eql 35 0,.A 37 36,.P 37 true [38,39,40,41] [.E 38 3 8,.E 39 3 11,.U 40 If [.s 38,.s 39],.Q 41 40],.N 42 37 41] (.W 42 (.R [.mv 6 (.i 9)] (.ret)) (.skip))) (.n 0))
 | 2=>.R [.A 19 0,.E 20 4 4,.U 21 Hi [.s 19,.s 20],.A 18 21,.F 22 18 0,.F 23 18 1,.F 24 18 2,.al 8 A3 CM,.al 9 A3 CM,.L 8 3 22,.L 9 3 23,.A 10 24] (.seq (.R [.A 25 10,.J 26 25] (.W 26 (.R [.A 27 10,.A 6 27] (.ret)) (.skip))) (.n 1))
 | _=>.skip
def body:C:=.R [.Z 4 A7 1,.Z 5 A7 2,.mv 6 (.i 0)] (.seq (.R [.A 13 0,.U 14 Jv [.s 13],.A 7 14] (.R [.A 15 7,.J 16 15] (.W 16 (.R [.A 17 7,.A 6 17] (.ret)) (.skip)))) (.n 2))
def rs:List RV:=[.t 6]
attribute [push_cast] nd body
theorem ok:B9 prog Hj nd body 3 rs=true:=by kernel_rfl
end EC
namespace NI
def nd:Nat->C
 | 0=>.R [.E 13 4 1,.U 14 Mm [.s 13],.K 4 2 14,.mv 3 (.i 0)] (.ret)
 | _=>.skip
def body:C:=.R [.Z 1 A7 0,.al 2 A7 J2,.mv 3 (.i 0)] (.seq (.R [.E 4 4 1,.U 5 I4 [.s 4],.X 6 .gtr 5 4000,.A 7 6,.P 7 false [8,9,10] [.E 8 4 1,.U 9 GZ [.s 8],.X 10 .gtr 9 200],.M 11 7 10] (.W 11 (.R [.bd 12 J2 [],.K 4 2 12,.mv 3 (.i 3)] (.ret)) (.skip))) (.n 0))
def rs:List RV:=[.a 2 4,.t 3]
attribute [push_cast] nd body
theorem ok:B9 prog Md nd body 1 rs=true:=by kernel_rfl
end NI
namespace Ev
def nd:Nat->C
 | 0=>.seq (.dr [0,1,2,3,4,5,6,7,8,9,10,11,12,13,14,15,16] [.B 39 3,.A 40 7,.X 41 .sub 40 1,.G 42 6 39 41,.D 43 3 42,.E 44 3 43,.B 45 3,.A 46 7,.X 47 .sub 46 1,.G 48 6 45 47,.D 49 0 48,.E 50 3 49,.bs 51 3 [.s 50],.U 52 Dc [.s 51],.A 53 10,.U 54 KB [.s 44,.s 52,.s 53],.K 4 6 54]) (.ret)
 | _=>.skip
def body:C:=.R [.Z 3 Pw 0,.Z 4 A7 1,.Z 5 A7 2,.al 6 A7 J2] (.R [.B 12 3,.E 13 4 4,.E 14 4 5,.U 15 EM [.s 12,.s 13,.s 14],.A 11 15,.F 16 11 0,.F 17 11 1,.F 18 11 2,.A 7 16,.A 8 17,.A 9 18] (.R [.A 19 8,.A 20 9,.mf 21 Dm [] [.s 3],.U 22 I3 [.s 19,.s 20,.s 21],.A 10 22] (.seq (.blk 0 (.R [.A 24 7,.X 25 .eql 24 0,.A 23 25] (.W 23 (.R [.D 26 1 4,.B 27 26,.D 28 2 4,.B 29 28,.A 30 10,.bd 31 J2 [(1,1,(.s 27)),(2,1,(.s 29)),(3,1,(.s 30))],.K 4 6 31] (.ret)) (.R [.D 33 0 5,.B 34 33,.X 35 .eql 34 0,.A 32 35] (.W 32 (.R [.A 36 7,.A 37 10,.bd 38 J2 [(0,1,(.s 36)),(3,1,(.s 37))],.K 4 6 38] (.ret)) (.skip)))))) (.n 0))))
def rs:List RV:=[.a 6 4]
attribute [push_cast] nd body
theorem ok:B9 prog Bq nd body 3 rs=true:=by kernel_rfl
end Ev
namespace RI
def nd (_:Nat):C:=.skip
def body:C:=.R [.mv 0 (.c (.sl 6 []))] (.R [.bd 2 CM [(0,1,(.c (.str [120]))),(1,1,(.c (.bool true)))],.al 1 A3 CM,.L 1 3 2] (.R [.E 3 3 1,.bs 4 3 [.s 3],.bd 5 CM [(0,1,(.c (.str [102]))),(2,1,(.s 4))],.E 6 3 1,.E 7 3 1,.bs 8 3 [.s 6,.s 7],.bd 9 CM [(0,1,(.c (.str [103]))),(2,1,(.s 8))],.bd 10 [.str [],.bool false,.sl 3 [],.str [],.bool false,.sl 3 []] [(0,3,(.s 5)),(3,3,(.s 9))],.bd 11 CM [(0,1,(.c (.str [97])))],.bd 12 CM [(0,1,(.c (.str [98])))],.bd 13 [.str [],.bool false,.sl 3 [],.str [],.bool false,.sl 3 []] [(0,3,(.s 11)),(3,3,(.s 12))],.bs 14 6 [.s 10,.s 13],.A 0 14] (.ret)))
def rs:List RV:=[.t 0]
attribute [push_cast] nd body
theorem ok:B9 prog Kv nd body 0 rs=true:=by kernel_rfl
end RI
namespace Gr
def nd:Nat->C
 | 0=>.R [.A 31 7,.A 32 10,.bd 33 J2 [(0,1,(.s 31)),(3,1,(.s 32))],.K 4 6 33] (.ret)
 | _=>.skip
def body:C:=.R [.Z 3 Pw 0,.Z 4 A7 1,.Z 5 A7 2,.al 6 A7 J2] (.R [.B 12 3,.E 13 4 4,.E 14 4 5,.U 15 EM [.s 12,.s 13,.s 14],.A 11 15,.F 16 11 0,.F 17 11 1,.F 18 11 2,.A 7 16,.A 8 17,.A 9 18] (.R [.A 19 8,.A 20 9,.mf 21 DT [] [.s 3],.U 22 I3 [.s 19,.s 20,.s 21],.A 10 22] (.seq (.R [.A 23 7,.X 24 .eql 23 0] (.W 24 (.R [.D 25 1 4,.B 26 25,.D 27 2 4,.B 28 27,.A 29 10,.bd 30 J2 [(1,1,(.s 26)),(2,1,(.s 28)),(3,1,(.s 29))],.K 4 6 30] (.ret)) (.skip))) (.n 0))))
def rs:List RV:=[.a 6 4]
attribute [push_cast] nd body
theorem ok:B9 prog BP nd body 3 rs=true:=by kernel_rfl
end Gr
namespace Ex
def nd:Nat->C
 | 0=>.R [.mv 6 (.i 0)] (.ret)
 | 1=>.R [.A 36 0,.E 37 4 4,.U 38 Jd [.s 36,.s 37,(.c (.bool false))],.A 35 38,.F 39 35 0,.F 40 35 1,.al 11 A3 CM,.L 11 3 39,.A 12 40] (.R [.A 42 0,.E 43 4 5,.U 44 Jd [.s 42,.s 43,(.c (.bool false))],.A 41 44,.F 45 41 0,.F 46 41 1,.al 13 A3 CM,.L 13 3 45,.A 14 46] (.seq (.R [.E 47 3 11,.E 48 3 13,.U 49 Ps [.s 47,.s 48],.Q 50 49] (.W 50 (.R [.mv 6 (.i 9)] (.ret)) (.skip))) (.n 0)))
 | 2=>.gh [.ks 0 [0,4,5,22,23,24]] (.m 4)
 | 3=>.seq (.blk 1 (.R [.G 26 4 22 24,.E 27 4 26,.al 9 A7 J2,.L 9 4 27] (.R [.A 28 0,.E 29 4 9,.U 30 Jp [.s 28,.s 29],.A 10 30] (.R [.A 31 10,.J 32 31] (.W 32 (.R [.A 33 10,.A 6 33] (.ret)) (.skip)))))) (.reg [.X 34 .add 24 1,.A 24 34])
 | 4=>.R [.V 25 .lss 24 23] (.seq (.W 25 (.skip) (.exit 0)) (.n 3))
 | 5=>.seq (.R [.E 20 4 4,.E 21 4 5,.bs 22 4 [.s 20,.s 21],.Y 23 22,.mv 24 (.i 0)] (.J 0 2)) (.n 1)
 | _=>.skip
def body:C:=.R [.Z 4 A7 1,.Z 5 A7 2,.mv 6 (.i 0)] (.seq (.R [.A 15 0,.U 16 Ic [.s 15],.A 7 16] (.R [.A 17 7,.J 18 17] (.W 18 (.R [.A 19 7,.A 6 19] (.ret)) (.skip)))) (.n 5))
def rs:List RV:=[.t 6]
attribute [push_cast] nd body
theorem ok:B9 prog Hk nd body 3 rs=true:=by kernel_rfl
abbrev L4 (a b c d e f:V)(B:Nat)(H:Dh)(Q:QX):Prop:=AB prog nd B (DW 4 2 0 1) [(0,a),(4,b),(5,c),(22,d),(23,e),(24,f)] H Q
end Ex
namespace Oi
def nd:Nat->C
 | 0=>.R [.D 17 0 8,.E 18 4 17,.K 4 6 18,.mv 7 (.c (.bool true))] (.ret)
 | _=>.skip
def body:C:=.R [.Z 4 A7 1,.Z 5 A7 2,.al 6 A7 J2,.mv 7 (.c (.bool false))] (.R [.A 9 0,.E 10 4 4,.E 11 4 5,.U 12 DU [.s 9,.s 10,.s 11],.al 8 Ax [.int .i64 0,.str [],.bool false,.sl 4 [],.int .i64 0,.int .i64 0],.L 8 6 12] (.seq (.R [.E 13 6 8,.U 14 Q3 [.s 13],.Q 15 14] (.W 15 (.R [.bd 16 J2 [],.K 4 6 16,.mv 7 (.c (.bool false))] (.ret)) (.skip))) (.n 0)))
def rs:List RV:=[.a 6 4,.t 7]
attribute [push_cast] nd body
theorem ok:B9 prog Ov nd body 3 rs=true:=by kernel_rfl
end Oi
namespace E7
def nd:Nat->C
 | 0=>.R [.E 71 4 8,.K 4 6 71] (.ret)
 | 1=>.gh [.ks 5 [0,4,6,7,8,50,51]] (.m 3)
 | 2=>.seq (.blk 1 (.R [.A 53 51,.A 9 53] (.dr [0,1,2,3,4,5,6,7,8,9,10,11,12,13,14,15,16] [.D 54 3 8,.B 55 54,.A 56 0,.D 57 3 4,.B 58 57,.A 59 9,.G 60 4 58 59,.E 61 4 60,.A 62 7,.A 63 9,.G 64 4 62 63,.E 65 4 64,.U 66 F4 [.s 56,.s 61,.s 65],.bs 67 4 [.s 66],.app 68 A7 4 56 (.s 55) (.s 67),.D 69 3 8,.K 1 69 68]))) (.reg [.X 70 .add 51 1,.A 51 70])
 | 3=>.R [.V 52 .lss 51 50] (.seq (.W 52 (.skip) (.exit 0)) (.n 2))
 | 4=>.R [.D 41 0 4,.B 42 41,.D 43 1 4,.B 44 43,.D 45 2 4,.B 46 45,.bd 47 [.int .i64 0,.str [],.bool false,.nil] [(0,1,(.s 42)),(1,1,(.s 44)),(2,1,(.s 46))],.al 8 A7 [.int .i64 0,.str [],.bool false,.nil],.K 4 8 47,.ono A7 4 3 (.s 8)] (.seq (.R [.D 48 3 4,.B 49 48,.Y 50 49,.mv 51 (.i 0)] (.J 0 1)) (.n 0))
 | 5=>.R [.D 20 3 5,.B 21 20,.A 7 21] (.seq (.R [.D 22 0 4,.B 23 22,.X 24 .gtr 23 0,.A 25 24,.P 25 true [26,27,28] [.D 26 0 5,.B 27 26,.X 28 .eql 27 0],.N 29 25 28] (.W 29 (.dr [0,1,2,3,4,5,6,7,8,9,10,11] [.A 31 0,.D 32 0 4,.B 33 32,.X 34 .sub 33 1,.G 35 6 31 34,.E 36 6 35,.E 37 4 5,.U 38 EW [.s 36,.s 37],.A 30 38,.F 39 30 0,.F 40 30 1,.A 7 39]) (.skip))) (.n 4))
 | _=>.skip
def body:C:=.R [.bx 4 A7 (.s 1),.bx 5 A7 (.s 2),.al 6 A7 J2] (.seq (.R [.D 10 0 4,.B 11 10,.X 12 .eql 11 0,.A 13 12,.P 13 true [14,15,16] [.D 14 0 5,.B 15 14,.X 16 .gtr 15 0],.N 17 13 16] (.W 17 (.reg [.E 18 4 5,.E 19 4 4,.K 4 4 18,.K 4 5 19]) (.skip))) (.n 5))
def rs:List RV:=[.a 6 4]
attribute [push_cast] nd body
theorem ok:B9 prog F4 nd body 3 rs=true:=by kernel_rfl
abbrev L3 (a b c d e f g:V)(B:Nat)(H:Dh)(Q:QX):Prop:=AB prog nd B (DW 3 1 0 0) [(0,a),(4,b),(6,c),(7,d),(8,e),(50,f),(51,g)] H Q
end E7
namespace Qz
def nd (_:Nat):C:=.skip
def body:C:=.R [.Z 1 A7 0,.mv 2 (.c (.bool false))] (.R [.E 6 4 1,.U 7 NW [.s 6],.A 5 7,.F 8 5 0,.F 9 5 1,.A 3 8,.A 4 9] (.R [.A 10 3,.X 11 .leq 10 4000,.A 12 11,.P 12 true [13,14] [.A 13 4,.X 14 .leq 13 200],.N 15 12 14,.A 2 15] (.ret)))
def rs:List RV:=[.t 2]
attribute [push_cast] nd body
theorem ok:B9 prog Mg nd body 1 rs=true:=by kernel_rfl
end Qz
namespace OC
def nd (_:Nat):C:=.skip
def body:C:=.R [.Z 3 A7 1,.al 4 A3 CM,.mv 5 (.i 0)] (.R [.A 6 0,.E 7 4 3,.U 8 MD [.s 6,.s 7,(.f GJ)],.F 9 8 0,.F 10 8 1,.K 3 4 9,.A 5 10] (.ret))
def rs:List RV:=[.a 4 3,.t 5]
attribute [push_cast] nd body
theorem ok:B9 prog LH nd body 2 rs=true:=by kernel_rfl
end OC
namespace O5
def nd (_:Nat):C:=.skip
def body:C:=.R [.Z 3 A7 1,.al 4 A3 CM,.mv 5 (.i 0)] (.R [.A 6 0,.E 7 4 3,.U 8 MD [.s 6,.s 7,(.f Gx)],.F 9 8 0,.F 10 8 1,.K 3 4 9,.A 5 10] (.ret))
def rs:List RV:=[.a 4 3,.t 5]
attribute [push_cast] nd body
theorem ok:B9 prog LJ nd body 2 rs=true:=by kernel_rfl
end O5
namespace Er
def nd:Nat->C
 | 0=>.R [.mv 4 (.i 0)] (.ret)
 | 1=>.gh [.ks 0 [2,3,36,37]] (.m 3)
 | 2=>.seq (.blk 1 (.R [.A 39 37,.A 7 39] (.seq (.dr [0,1,2,3,4,5,6,7,8,9,10,11] [.D 40 2 2,.B 41 40,.A 42 7,.G 43 3 41 42,.E 44 3 43,.D 45 2 3,.B 46 45,.A 47 7,.G 48 3 46 47,.E 49 3 48,.U 50 JG [.s 44,.s 49],.A 8 50]) (.R [.A 51 8,.J 52 51] (.W 52 (.R [.A 53 8,.A 4 53] (.ret)) (.skip)))))) (.reg [.X 54 .add 37 1,.A 37 54])
 | 3=>.R [.V 38 .lss 37 36] (.seq (.W 38 (.skip) (.exit 0)) (.n 2))
 | 4=>.seq (.R [.D 34 2 2,.B 35 34,.Y 36 35,.mv 37 (.i 0)] (.J 0 1)) (.n 0)
 | 5=>.seq (.R [.D 24 2 2,.B 25 24,.Y 26 25,.D 27 2 3,.B 28 27,.Y 29 28,.U 30 Eo [.s 26,.s 29],.A 6 30] (.R [.A 31 6,.J 32 31] (.W 32 (.R [.A 33 6,.A 4 33] (.ret)) (.skip)))) (.n 4)
 | 6=>.seq (.R [.D 16 0 2,.B 17 16,.D 18 0 3,.B 19 18,.U 20 D7 [.s 17,.s 19],.A 5 20] (.R [.A 21 5,.J 22 21] (.W 22 (.R [.A 23 5,.A 4 23] (.ret)) (.skip)))) (.n 5)
 | 7=>.R [.mv 4 (.i 1)] (.ret)
 | _=>.skip
def body:C:=.R [.Z 2 A3 0,.Z 3 A3 1,.mv 4 (.i 0)] (.seq (.R [.D 9 1 2,.B 10 9,.D 11 1 3,.B 12 11,.bb 13 .neq (.s 10) (.s 12)] (.W 13 (.seq (.R [.D 14 1 2,.B 15 14] (.W 15 (.R [.mv 4 (.i (-1))] (.ret)) (.skip))) (.n 7)) (.skip))) (.n 6))
def rs:List RV:=[.t 4]
attribute [push_cast] nd body
theorem ok:B9 prog JG nd body 2 rs=true:=by kernel_rfl
abbrev L3 (a b c d:V)(B:Nat)(H:Dh)(Q:QX):Prop:=AB prog nd B (DW 3 1 0 0) [(2,a),(3,b),(36,c),(37,d)] H Q
end Er
namespace Gj
def nd:Nat->C
 | 0=>.R [.A 16 4,.A 2 16] (.ret)
 | _=>.skip
def body:C:=.R [.mv 2 (.i 0)] (.R [.A 6 0,.U 7 Gl [.s 6],.A 5 7,.F 8 5 0,.F 9 5 1,.A 3 8,.A 4 9] (.seq (.R [.A 10 4,.X 11 .eql 10 0,.A 12 11,.P 12 true [13,14] [.A 13 3,.Q 14 13],.N 15 12 14] (.W 15 (.R [.mv 2 (.i 2)] (.ret)) (.skip))) (.n 0)))
def rs:List RV:=[.t 2]
attribute [push_cast] nd body
theorem ok:B9 prog Jv nd body 1 rs=true:=by kernel_rfl
end Gj
namespace Oj
def nd (_:Nat):C:=.skip
def body:C:=.R [.Z 2 A3 0,.Z 3 A3 1,.mv 4 (.c (.bool false))] (.R [.D 5 0 2,.B 6 5,.D 7 0 3,.B 8 7,.V 9 .eql 6 8,.A 10 9,.P 10 true [11,12,13,14,15] [.D 11 1 2,.B 12 11,.D 13 1 3,.B 14 13,.bb 15 .eql (.s 12) (.s 14)],.N 16 10 15,.A 17 16,.P 17 true [18,19,20,21,22] [.D 18 2 2,.B 19 18,.D 20 2 3,.B 21 20,.U 22 BB [.s 19,.s 21,(.f If)]],.N 23 17 22,.A 4 23] (.ret))
def rs:List RV:=[.t 4]
attribute [push_cast] nd body
theorem ok:B9 prog If nd body 2 rs=true:=by kernel_rfl
end Oj
namespace Fu
def nd:Nat->C
 | 0=>.R [.A 16 4,.A 2 16] (.ret)
 | _=>.skip
def body:C:=.R [.mv 2 (.i 0)] (.R [.A 6 0,.U 7 Jk [.s 6],.A 5 7,.F 8 5 0,.F 9 5 1,.A 3 8,.A 4 9] (.seq (.R [.A 10 4,.X 11 .eql 10 0,.A 12 11,.P 12 true [13,14] [.A 13 3,.Q 14 13],.N 15 12 14] (.W 15 (.R [.mv 2 (.i 2)] (.ret)) (.skip))) (.n 0)))
def rs:List RV:=[.t 2]
attribute [push_cast] nd body
theorem ok:B9 prog Ic nd body 1 rs=true:=by kernel_rfl
end Fu
namespace Qq
def nd:Nat->C
 | 0=>.R [.A 24 0,.E 25 4 4,.A 26 2,.U 27 Mh [.s 24,.s 25,.s 26],.K 3 6 27,.mv 7 (.i 0)] (.ret)
 | _=>.skip
def body:C:=.R [.Z 4 A7 1,.al 6 A3 CM,.mv 7 (.i 0)] (.R [.A 11 0,.E 12 4 4,.A 13 2,.U 14 JB [.s 11,.s 12,.s 13],.A 10 14,.F 15 10 0,.F 16 10 1,.A 8 15,.A 9 16] (.seq (.R [.A 17 8,.X 18 .gtr 17 4000,.A 19 18,.P 19 false [20,21] [.A 20 9,.X 21 .gtr 20 200],.M 22 19 21] (.W 22 (.R [.bd 23 CM [],.K 3 6 23,.mv 7 (.i 3)] (.ret)) (.skip))) (.n 0)))
def rs:List RV:=[.a 6 3,.t 7]
attribute [push_cast] nd body
theorem ok:B9 prog Jd nd body 3 rs=true:=by kernel_rfl
end Qq
namespace NX
def nd:Nat->C
 | 0=>.R [.mv 2 (.i 0)] (.ret)
 | _=>.skip
def body:C:=.R [.Z 1 A3 0,.mv 2 (.i 0)] (.seq (.blk 0 (.R [.E 4 3 1,.U 5 JP [.s 4],.Q 6 5,.A 3 6] (.W 3 (.R [.mv 2 (.i 4)] (.ret)) (.R [.E 8 3 1,.U 9 Mi [.s 8],.Q 10 9,.A 7 10] (.W 7 (.R [.mv 2 (.i 3)] (.ret)) (.skip)))))) (.n 0))
def rs:List RV:=[.t 2]
attribute [push_cast] nd body
theorem ok:B9 prog Oe nd body 1 rs=true:=by kernel_rfl
end NX
namespace Lk
def nd:Nat->C
 | 0=>.R [.mv 2 (.i 0)] (.ret)
 | 1=>.seq (.R [.E 6 3 1,.U 7 Jo [.s 6],.X 8 .gtr 7 4000,.A 9 8,.P 9 false [10,11,12] [.E 10 3 1,.U 11 I0 [.s 10],.X 12 .gtr 11 200],.M 13 9 12] (.W 13 (.R [.mv 2 (.i 3)] (.ret)) (.skip))) (.n 0)
 | _=>.skip
def body:C:=.R [.Z 1 A3 0,.mv 2 (.i 0)] (.seq (.R [.E 3 3 1,.U 4 KJ [.s 3],.Q 5 4] (.W 5 (.R [.mv 2 (.i 4)] (.ret)) (.skip))) (.n 1))
def rs:List RV:=[.t 2]
attribute [push_cast] nd body
theorem ok:B9 prog Pn nd body 1 rs=true:=by kernel_rfl
end Lk
end Go.Dw
end
section
namespace Go.Dw
variable {s:List K} {B:Nat} {t:T} {H:List Ob} {Q:X->T->List Ob->Prop}
namespace CA
def nd (_:Nat):C:=.skip
def body:C:=.R [.mv 4 (.c (.bool false))] (.R [.A 5 0,.A 6 1,.U 7 CG [.s 5,.s 6],.X 8 .geq 7 0,.A 4 8] (.ret))
def rs:List RV:=[.t 4]
attribute [push_cast] nd body
theorem ok:B9 prog Cf nd body 2 rs=true:=by kernel_rfl
end CA
namespace JH
def nd:Nat->C
 | 0=>.R [.A 22 0,.E 23 4 3,.U 24 LJ [.s 22,.s 23],.A 21 24,.F 25 21 0,.F 26 21 1,.al 9 A3 CM,.L 9 3 25,.A 8 26] (.seq (.dr [0,1,2,3,4,5] [.lar 27 3 (.s 7),.lar 28 3 (.s 9),.A 29 8,.K 3 4 27,.K 3 5 28,.A 6 29]) (.ret))
 | _=>.skip
def body:C:=.R [.Z 3 A7 1,.al 4 A3 CM,.al 5 A3 CM,.mv 6 (.i 0)] (.R [.A 11 0,.E 12 4 3,.U 13 LH [.s 11,.s 12],.A 10 13,.F 14 10 0,.F 15 10 1,.al 7 A3 CM,.L 7 3 14,.A 8 15] (.seq (.R [.A 16 8,.J 17 16] (.W 17 (.seq (.dr [0,1,2,3,4,5] [.lar 18 3 (.s 7),.lar 19 3 (.s 7),.A 20 8,.K 3 4 18,.K 3 5 19,.A 6 20]) (.ret)) (.skip))) (.n 0)))
def rs:List RV:=[.a 4 3,.a 5 3,.t 6]
attribute [push_cast] nd body
theorem ok:B9 prog Hi nd body 2 rs=true:=by kernel_rfl
end JH
namespace Jl
def nd:Nat->C
 | 0=>.R [.A 20 3,.A 2 20] (.ret)
 | 1=>.gh [.ks 0 [3,7,8,9]] (.m 3)
 | 2=>.seq (.blk 1 (.R [.G 11 4 7 9,.E 12 4 11,.al 5 A7 J2,.L 5 4 12] (.R [.A 13 3,.E 14 4 5,.U 15 I4 [.s 14],.V 16 .add 13 15,.A 3 16] (.R [.A 17 3,.X 18 .gtr 17 4000] (.W 18 (.exit 0) (.skip)))))) (.reg [.X 19 .add 9 1,.A 9 19])
 | 3=>.R [.V 10 .lss 9 8] (.seq (.W 10 (.skip) (.exit 0)) (.n 2))
 | _=>.skip
def body:C:=.R [.Z 1 A7 0,.mv 2 (.i 0)] (.R [.mv 3 (.i 1)] (.seq (.R [.D 6 3 1,.B 7 6,.Y 8 7,.mv 9 (.i 0)] (.J 0 1)) (.n 0)))
def rs:List RV:=[.t 2]
attribute [push_cast] nd body
theorem ok:B9 prog I4 nd body 1 rs=true:=by kernel_rfl
abbrev L3 (a b c d:V)(B:Nat)(H:Dh)(Q:QX):Prop:=AB prog nd B (DW 3 1 0 0) [(3,a),(7,b),(8,c),(9,d)] H Q
end Jl
namespace Ma
def nd:Nat->C
 | 0=>.R [.A 18 3,.X 19 .add 18 1,.A 2 19] (.ret)
 | 1=>.gh [.ks 0 [3,7,8,9]] (.m 3)
 | 2=>.seq (.blk 1 (.R [.G 11 4 7 9,.E 12 4 11,.al 5 A7 J2,.L 5 4 12] (.reg [.A 13 3,.E 14 4 5,.U 15 GZ [.s 14],.mx 16 (.s 13) (.s 15),.A 3 16]))) (.reg [.X 17 .add 9 1,.A 9 17])
 | 3=>.R [.V 10 .lss 9 8] (.seq (.W 10 (.skip) (.exit 0)) (.n 2))
 | _=>.skip
def body:C:=.R [.Z 1 A7 0,.mv 2 (.i 0)] (.R [.mv 3 (.i 0)] (.seq (.R [.D 6 3 1,.B 7 6,.Y 8 7,.mv 9 (.i 0)] (.J 0 1)) (.n 0)))
def rs:List RV:=[.t 2]
attribute [push_cast] nd body
theorem ok:B9 prog GZ nd body 1 rs=true:=by kernel_rfl
abbrev L3 (a b c d:V)(B:Nat)(H:Dh)(Q:QX):Prop:=AB prog nd B (DW 3 1 0 0) [(3,a),(7,b),(8,c),(9,d)] H Q
end Ma
namespace QA
def nd:Nat->C
 | 0=>.R [.E 23 4 1,.K 4 2 23] (.ret)
 | 1=>.gh [.ks 3 [1,2,9,10,11]] (.m 3)
 | 2=>.seq (.blk 1 (.R [.G 13 4 9 11,.E 14 4 13,.al 5 A7 J2,.L 5 4 14] (.dr [0,1,2,3,4,5,6,7] [.D 15 3 1,.B 16 15,.E 17 4 5,.U 18 Mm [.s 17],.bs 19 4 [.s 18],.app 20 A7 4 56 (.s 16) (.s 19),.D 21 3 1,.K 1 21 20]))) (.reg [.X 22 .add 11 1,.A 11 22])
 | 3=>.R [.V 12 .lss 11 10] (.seq (.W 12 (.skip) (.exit 0)) (.n 2))
 | _=>.skip
def body:C:=.R [.bx 1 A7 (.s 0),.al 2 A7 J2] (.R [.D 6 3 1,.B 7 6,.A 3 7] (.R [.D 8 3 1,.st 1 (.s 8) (.c .nil),.ono A7 4 0 (.s 8)] (.seq (.R [.A 9 3,.Y 10 9,.mv 11 (.i 0)] (.J 0 1)) (.n 0))))
def rs:List RV:=[.a 2 4]
attribute [push_cast] nd body
theorem ok:B9 prog Mm nd body 1 rs=true:=by kernel_rfl
abbrev L3 (a b c d e:V)(B:Nat)(H:Dh)(Q:QX):Prop:=AB prog nd B (DW 3 1 0 0) [(1,a),(2,b),(9,c),(10,d),(11,e)] H Q
end QA
namespace FX
def nd (_:Nat):C:=.skip
def body:C:=.R [.Z 3 Pw 0,.Z 4 A7 1,.Z 5 A7 2,.mv 6 (.i 0),.mv 7 (.c (.sl 4 [])),.mv 8 (.c (.sl 4 []))] (.R [.D 11 0 4,.B 12 11,.D 13 0 5,.B 14 13,.mx 15 (.s 12) (.s 14),.al 9 EN [.int .i64 0],.L 9 1 15] (.R [.mf 16 Fb [] [.s 9,.s 3],.A 10 16] (.seq (.dr [0,1,2,3,4,5,6,7,8,9] [.B 17 9,.A 18 10,.E 19 4 4,.callvp (some 20) (.s 18) [.s 19],.A 21 10,.E 22 4 5,.callvp (some 23) (.s 21) [.s 22],.A 6 17,.A 7 20,.A 8 23]) (.ret))))
def rs:List RV:=[.t 6,.t 7,.t 8]
attribute [push_cast] nd body
theorem ok:B9 prog EM nd body 3 rs=true:=by kernel_rfl
end FX
namespace I7
def nd:Nat->C
 | 0=>.R [.frz 7,.A 31 7,.A 6 31] (.ret)
 | 1=>.gh [.ks 1 [0,1,2,7,13,14]] (.m 3)
 | 2=>.seq (.blk 1 (.R [.A 16 14,.A 8 16] (.dr [0,1,2,3,4,5,6,7,8,9,10,11,12,13] [.A 17 7,.A 18 8,.A 19 2,.A 20 0,.A 21 8,.G 22 4 20 21,.E 23 4 22,.A 24 1,.A 25 8,.G 26 4 24 25,.E 27 4 26,.callvp (some 28) (.s 19) [.s 23,.s 27],.G 29 4 17 18,.K 4 29 28]))) (.reg [.X 30 .add 14 1,.A 14 30])
 | 3=>.R [.V 15 .lss 14 13] (.seq (.W 15 (.skip) (.exit 0)) (.n 2))
 | _=>.skip
def body:C:=.R [.mv 6 (.c (.sl 4 []))] (.R [.A 9 0,.Y 10 9,.mk 11 A7 4 56 [.int .i64 0,.str [],.bool false,.sl 4 []] (.s 10),.A 7 11] (.seq (.R [.A 12 0,.Y 13 12,.mv 14 (.i 0)] (.J 0 1)) (.n 0)))
def rs:List RV:=[.t 6]
attribute [push_cast] nd body
theorem ok:B9 prog I3 nd body 3 rs=true:=by kernel_rfl
abbrev L3 (a b c d e f:V)(B:Nat)(H:Dh)(Q:QX):Prop:=AB prog nd B (DW 3 1 0 0) [(0,a),(1,b),(2,c),(7,d),(13,e),(14,f)] H Q
end I7
namespace Kg
def nd (_:Nat):C:=.skip
def body:C:=.R [.Z 3 A7 0,.Z 4 A7 1,.al 5 A7 J2] (.R [.B 6 2,.E 7 4 3,.E 8 4 4,.U 9 Bq [.s 6,.s 7,.s 8],.K 4 5 9] (.ret))
def rs:List RV:=[.a 5 4]
attribute [push_cast] nd body
theorem ok:B9 prog Dm nd body 3 rs=true:=by kernel_rfl
end Kg
namespace LD
def nd:Nat->C
 | 0=>.R [.E 39 4 7,.K 4 6 39] (.ret)
 | 1=>.gh [.ks 3 [1,2,6,7,23,24,25]] (.m 3)
 | 2=>.seq (.blk 1 (.R [.G 27 3 23 25,.E 28 3 27,.al 9 A3 CM,.L 9 3 28] (.dr [0,1,2,3,4,5,6,7,8,9] [.D 29 3 7,.B 30 29,.E 31 3 9,.A 32 1,.A 33 2,.U 34 KB [.s 31,.s 32,.s 33],.bs 35 4 [.s 34],.app 36 A7 4 56 (.s 30) (.s 35),.D 37 3 7,.K 1 37 36]))) (.reg [.X 38 .add 25 1,.A 25 38])
 | 3=>.R [.V 26 .lss 25 24] (.seq (.W 26 (.skip) (.exit 0)) (.n 2))
 | 4=>.R [.D 19 0 3,.B 20 19,.bd 21 [.int .i64 0,.str [],.bool false,.nil] [(1,1,(.s 20))],.al 7 A7 [.int .i64 0,.str [],.bool false,.nil],.K 4 7 21,.ono A7 4 3 (.s 7)] (.seq (.R [.D 22 2 3,.B 23 22,.Y 24 23,.mv 25 (.i 0)] (.J 0 1)) (.n 0))
 | _=>.skip
def body:C:=.R [.Z 3 A3 0,.al 6 A7 J2] (.seq (.R [.D 10 1 3,.B 11 10] (.W 11 (.R [.A 12 2,.A 13 1,.D 14 0 3,.B 15 14,.U 16 AU [.s 13,.s 15],.G 17 4 12 16,.E 18 4 17,.K 4 6 18] (.ret)) (.skip))) (.n 4))
def rs:List RV:=[.a 6 4]
attribute [push_cast] nd body
theorem ok:B9 prog KB nd body 3 rs=true:=by kernel_rfl
abbrev L3 (a b c d e f g:V)(B:Nat)(H:Dh)(Q:QX):Prop:=AB prog nd B (DW 3 1 0 0) [(1,a),(2,b),(6,c),(7,d),(23,e),(24,f),(25,g)] H Q
end LD
namespace Gi
def nd:Nat->C
 | 0=>.R [.A 37 8,.call (some 38) n_slices_Sort_s_string_string [.s 37],.frz 8] (.R [.A 39 8,.A 2 39] (.ret))
 | 1=>.gh [.ks 4 [8,28]] (.m 3)
 | 2=>.blk 5 (.R [.en 31 (.s 28),.F 32 31 0,.A 9 32] (.reg [.A 33 8,.A 34 9,.bs 35 1 [.s 34],.apr 36 C7 1 16 (.s 33) (.s 35),.A 8 36]))
 | 3=>.R [.nx 29 (.s 28),.F 30 29 0] (.seq (.W 30 (.skip) (.exit 4)) (.n 2))
 | 4=>.R [.mv 8 (.c .nil),.rnon 8 C7 1] (.seq (.R [.B 27 3,.rg 28 (.s 27)] (.J 4 1)) (.n 0))
 | 5=>.gh [.ks 2 [3,7,11,12,13]] (.m 8)
 | 6=>.blk 3 (.R [.D 21 1 7,.B 22 21] (.W 22 (.reg [.B 23 3,.D 24 0 7,.B 25 24,.mup true (.s 23) (.s 25) (.c (.bool true))]) (.skip)))
 | 7=>.seq (.blk 1 (.R [.G 15 3 11 13,.E 16 3 15,.al 5 A3 CM,.L 5 3 16] (.R [.E 17 3 5,.U 18 HS [.s 17]] (.blk 2 (.rf (.s 18) [19,20] (.reg [.al 7 A3 CM,.L 7 3 20]) (.m 6)))))) (.reg [.X 26 .add 13 1,.A 13 26])
 | 8=>.R [.V 14 .lss 13 12] (.seq (.W 14 (.skip) (.exit 0)) (.n 7))
 | _=>.skip
def body:C:=.R [.mv 2 (.c (.sl 1 []))] (.R [.mkm 10,.al 3 Dt [.nilm],.K 1 3 10] (.seq (.R [.A 11 0,.Y 12 11,.mv 13 (.i 0)] (.J 0 5)) (.n 4)))
def rs:List RV:=[.t 2]
attribute [push_cast] nd body
theorem ok:B9 prog Dc nd body 1 rs=true:=by kernel_rfl
abbrev L3 (a b:V)(B:Nat)(H:Dh)(Q:QX):Prop:=AB prog nd B (DW 3 1 4 0) [(8,a),(28,b)] H Q
abbrev L8 (a b c d e:V)(B:Nat)(H:Dh)(Q:QX):Prop:=AB prog nd B (DW 8 5 0 4) [(3,a),(7,b),(11,c),(12,d),(13,e)] H Q
end Gi
namespace Jr
def nd (_:Nat):C:=.skip
def body:C:=.R [.Z 3 A7 0,.Z 4 A7 1,.al 5 A7 J2] (.R [.B 6 2,.E 7 4 3,.E 8 4 4,.U 9 BP [.s 6,.s 7,.s 8],.K 4 5 9] (.ret))
def rs:List RV:=[.a 5 4]
attribute [push_cast] nd body
theorem ok:B9 prog DT nd body 3 rs=true:=by kernel_rfl
end Jr
namespace IJ
def nd:Nat->C
 | 0=>.R [.A 15 0,.E 16 4 3,.U 17 Jd [.s 15,.s 16,(.c (.bool true))],.A 14 17,.F 18 14 0,.F 19 14 1,.al 6 A3 CM,.L 6 3 18,.A 7 19] (.R [.A 20 7,.A 4 20] (.ret))
 | _=>.skip
def body:C:=.R [.Z 3 A7 1,.mv 4 (.i 0)] (.seq (.R [.A 8 0,.E 9 4 3,.U 10 I6 [.s 8,.s 9],.A 5 10] (.R [.A 11 5,.J 12 11] (.W 12 (.R [.A 13 5,.A 4 13] (.ret)) (.skip)))) (.n 0))
def rs:List RV:=[.t 4]
attribute [push_cast] nd body
theorem ok:B9 prog Jp nd body 2 rs=true:=by kernel_rfl
end IJ
namespace Ed
def nd:Nat->C
 | 0=>.seq (.dr [0,1,2,3,4,5,6,7,8] [.E 62 4 4,.A 63 0,.D 64 3 4,.B 65 64,.D 66 3 5,.B 67 66,.U 68 Fs [.s 63,.s 65,.s 67],.U 69 J6 [.s 62,.s 68],.K 6 6 69]) (.ret)
 | 1=>.seq (.R [.D 41 0 4,.B 42 41,.X 43 .gtr 42 0] (.W 43 (.seq (.dr [0,1,2,3,4,5,6,7,8,9,10,11,12] [.A 45 0,.D 46 0 4,.B 47 46,.X 48 .sub 47 1,.G 49 6 45 48,.E 50 6 49,.E 51 4 5,.U 52 EW [.s 50,.s 51],.A 44 52,.F 53 44 0,.F 54 44 1,.A 9 53,.A 10 54]) (.seq (.dr [0,1,2,3,4,5,6,7] [.E 55 4 4,.A 56 0,.D 57 3 4,.B 58 57,.A 59 9,.U 60 Fs [.s 56,.s 58,.s 59],.U 61 J6 [.s 55,.s 60],.K 6 6 61]) (.ret))) (.skip))) (.n 0)
 | 2=>.seq (.dr [0,1,2,3,4,5,6,7,8,9,10] [.D 31 3 7,.E 32 3 31,.E 33 6 7,.U 34 Gb [.s 33],.A 35 0,.A 36 8,.D 37 3 5,.B 38 37,.U 39 Fs [.s 35,.s 36,.s 38],.U 40 OJ [.s 32,.s 34,.s 39],.K 6 6 40]) (.ret)
 | _=>.skip
def body:C:=.R [.Z 4 A7 1,.Z 5 A7 2,.al 6 Ax [.int .i64 0,.str [],.bool false,.sl 4 [],.int .i64 0,.int .i64 0]] (.seq (.R [.D 11 0 5,.B 12 11,.X 13 .gtr 12 0] (.W 13 (.R [.A 14 0,.D 15 0 5,.B 16 15,.X 17 .sub 16 1,.G 18 6 14 17,.E 19 6 18,.al 7 BS [.str [],.bool false,.sl 3 [],.str [],.bool false,.sl 3 []],.L 7 6 19] (.R [.D 20 3 4,.B 21 20,.A 8 21] (.seq (.R [.D 22 0 4,.B 23 22,.X 24 .eql 23 0] (.W 24 (.reg [.E 26 6 7,.E 27 4 4,.U 28 EW [.s 26,.s 27],.A 25 28,.F 29 25 0,.F 30 25 1,.A 8 29]) (.skip))) (.n 2)))) (.skip))) (.n 1))
def rs:List RV:=[.a 6 6]
attribute [push_cast] nd body
theorem ok:B9 prog DU nd body 3 rs=true:=by kernel_rfl
end Ed
namespace QU
def nd (_:Nat):C:=.skip
def body:C:=.R [.Z 1 Ax 0,.mv 2 (.c (.bool false))] (.R [.D 3 4 1,.B 4 3,.X 5 .leq 4 4000,.A 6 5,.P 6 true [7,8,9] [.D 7 5 1,.B 8 7,.X 9 .leq 8 200],.N 10 6 9,.A 2 10] (.ret))
def rs:List RV:=[.t 2]
attribute [push_cast] nd body
theorem ok:B9 prog Q3 nd body 1 rs=true:=by kernel_rfl
end QU
namespace Ul
def nd (_:Nat):C:=.skip
def body:C:=.R [.Z 2 BS 0,.Z 3 A7 1,.mv 4 (.c (.sl 4 [])),.mv 5 (.c (.bool false))] (.R [.E 8 6 2,.U 9 Gb [.s 8],.A 6 9] (.R [.A 10 6,.Y 11 10,.mk 12 A7 4 56 [.int .i64 0,.str [],.bool false,.sl 4 []] (.s 11),.A 7 12] (.R [.A 13 7,.D 14 0 2,.E 15 3 14,.E 16 4 3,.A 17 6,.A 18 7,.call (some 19) MF [.s 15,.s 16,.s 17,.s 18],.frz 13,.A 4 13,.A 5 19] (.ret))))
def rs:List RV:=[.t 4,.t 5]
attribute [push_cast] nd body
theorem ok:B9 prog EW nd body 2 rs=true:=by kernel_rfl
end Ul
namespace TG
def nd:Nat->C
 | 0=>.R [.A 29 4,.A 30 5,.X 31 .add 30 1,.A 2 29,.A 3 31] (.ret)
 | 1=>.gh [.ks 0 [4,5,11,12,13]] (.m 3)
 | 2=>.seq (.blk 1 (.R [.G 15 4 11 13,.E 16 4 15,.al 7 A7 J2,.L 7 4 16] (.R [.E 18 4 7,.U 19 NW [.s 18],.A 17 19,.F 20 17 0,.F 21 17 1,.A 8 20,.A 9 21] (.R [.A 22 4,.A 23 8,.V 24 .add 22 23,.A 4 24] (.reg [.A 25 5,.A 26 9,.mx 27 (.s 25) (.s 26),.A 5 27]))))) (.reg [.X 28 .add 13 1,.A 13 28])
 | 3=>.R [.V 14 .lss 13 12] (.seq (.W 14 (.skip) (.exit 0)) (.n 2))
 | _=>.skip
def body:C:=.R [.Z 1 A7 0,.mv 2 (.i 0),.mv 3 (.i 0)] (.R [.mv 4 (.i 1),.mv 5 (.i 0)] (.seq (.R [.D 10 3 1,.B 11 10,.Y 12 11,.mv 13 (.i 0)] (.J 0 1)) (.n 0)))
def rs:List RV:=[.t 2,.t 3]
attribute [push_cast] nd body
theorem ok:B9 prog NW nd body 1 rs=true:=by kernel_rfl
abbrev L3 (a b c d e:V)(B:Nat)(H:Dh)(Q:QX):Prop:=AB prog nd B (DW 3 1 0 0) [(4,a),(5,b),(11,c),(12,d),(13,e)] H Q
end TG
namespace Lb
def nd:Nat->C
 | 0=>.R [.E 24 3 9,.U 25 Hw [.s 24],.U 26 OM [.s 25],.F 27 26 0,.F 28 26 1,.K 3 6 27,.A 7 28] (.ret)
 | 1=>.R [.A 17 0,.E 18 4 4,.A 19 2,.U 20 KC [.s 17,.s 18,.s 19],.al 9 A3 CM,.L 9 3 20] (.seq (.R [.E 21 3 9,.U 22 MQ [.s 21]] (.W 22 (.R [.bd 23 CM [],.K 3 6 23,.mv 7 (.i 3)] (.ret)) (.skip))) (.n 0))
 | _=>.skip
def body:C:=.R [.Z 4 A7 1,.al 6 A3 CM,.mv 7 (.i 0)] (.seq (.R [.A 10 0,.E 11 4 4,.U 12 N0 [.s 10,.s 11],.A 8 12] (.R [.A 13 8,.J 14 13] (.W 14 (.R [.bd 15 CM [],.A 16 8,.K 3 6 15,.A 7 16] (.ret)) (.skip)))) (.n 1))
def rs:List RV:=[.a 6 3,.t 7]
attribute [push_cast] nd body
theorem ok:B9 prog MD nd body 3 rs=true:=by kernel_rfl
end Lb
namespace Lw
def nd (_:Nat):C:=.skip
def body:C:=.R [.Z 1 BS 0,.al 2 A3 CM] (.R [.D 3 0 1,.E 4 3 3,.K 3 2 4] (.ret))
def rs:List RV:=[.a 2 3]
attribute [push_cast] nd body
theorem ok:B9 prog GJ nd body 1 rs=true:=by kernel_rfl
end Lw
namespace LW
def nd (_:Nat):C:=.skip
def body:C:=.R [.Z 1 BS 0,.al 2 A3 CM] (.R [.D 3 3 1,.E 4 3 3,.K 3 2 4] (.ret))
def rs:List RV:=[.a 2 3]
attribute [push_cast] nd body
theorem ok:B9 prog Gx nd body 1 rs=true:=by kernel_rfl
end LW
namespace EL
def nd:Nat->C
 | 0=>.R [.A 31 0,.lens 32 (.s 31),.A 33 1,.lens 34 (.s 33),.U 35 Eo [.s 32,.s 34],.A 4 35] (.ret)
 | 1=>.gh [.ks 0 [0,1,10,11]] (.m 3)
 | 2=>.seq (.blk 1 (.R [.A 13 11,.A 5 13] (.seq (.dr [0,1,2,3,4,5,6] [.A 14 0,.A 15 5,.ix 16 (.s 14) (.s 15),.A 17 1,.A 18 5,.ix 19 (.s 17) (.s 18),.V 20 .neq 16 19]) (.W 20 (.seq (.dr [0,1,2,3,4,5,6,7,8,9] [.A 21 0,.A 22 5,.ix 23 (.s 21) (.s 22),.cvi 24 .i64 (.s 23),.A 25 1,.A 26 5,.ix 27 (.s 25) (.s 26),.cvi 28 .i64 (.s 27),.U 29 Eo [.s 24,.s 28],.A 4 29]) (.ret)) (.skip))))) (.reg [.X 30 .add 11 1,.A 11 30])
 | 3=>.R [.V 12 .lss 11 10] (.seq (.W 12 (.skip) (.exit 0)) (.n 2))
 | _=>.skip
def body:C:=.R [.mv 4 (.i 0)] (.seq (.R [.A 6 0,.lens 7 (.s 6),.A 8 1,.lens 9 (.s 8),.mn 10 (.s 7) (.s 9),.mv 11 (.i 0)] (.J 0 1)) (.n 0))
def rs:List RV:=[.t 4]
attribute [push_cast] nd body
theorem ok:B9 prog D7 nd body 2 rs=true:=by kernel_rfl
abbrev L3 (a b c d:V)(B:Nat)(H:Dh)(Q:QX):Prop:=AB prog nd B (DW 3 1 0 0) [(0,a),(1,b),(10,c),(11,d)] H Q
end EL
namespace Kk
def nd:Nat->C
 | 0=>.R [.mv 4 (.i 0)] (.ret)
 | 1=>.seq (.R [.A 8 0,.A 9 1,.V 10 .gtr 8 9] (.W 10 (.R [.mv 4 (.i 1)] (.ret)) (.skip))) (.n 0)
 | _=>.skip
def body:C:=.R [.mv 4 (.i 0)] (.seq (.R [.A 5 0,.A 6 1,.V 7 .lss 5 6] (.W 7 (.R [.mv 4 (.i (-1))] (.ret)) (.skip))) (.n 1))
def rs:List RV:=[.t 4]
attribute [push_cast] nd body
theorem ok:B9 prog Eo nd body 2 rs=true:=by kernel_rfl
end Kk
namespace D6
def nd:Nat->C
 | 0=>.R [.A 14 4,.Y 15 14,.X 16 .eql 15 0,.A 17 16,.P 17 true [18,19] [.A 18 0,.U 19 LK [.s 18]],.N 20 17 19,.A 2 20,.mv 3 (.i 0)] (.ret)
 | _=>.skip
def body:C:=.R [.mv 2 (.c (.bool false)),.mv 3 (.i 0)] (.R [.A 7 0,.U 8 Lm [.s 7],.A 6 8,.F 9 6 0,.F 10 6 1,.A 4 9,.A 5 10] (.seq (.R [.A 11 5,.J 12 11] (.W 12 (.R [.A 13 5,.mv 2 (.c (.bool false)),.A 3 13] (.ret)) (.skip))) (.n 0)))
def rs:List RV:=[.t 2,.t 3]
attribute [push_cast] nd body
theorem ok:B9 prog Gl nd body 1 rs=true:=by kernel_rfl
end D6
namespace AI
def nd:Nat->C
 | 0=>.R [.mv 6 (.c (.bool true))] (.ret)
 | 1=>.gh [.ks 0 [1,2,15,16,17]] (.m 3)
 | 2=>.seq (.blk 1 (.R [.A 19 17,.G 20 3 15 17,.E 21 3 20,.al 8 A3 CM,.A 7 19,.L 8 3 21] (.R [.A 22 1,.A 23 7,.G 24 3 22 23,.E 25 3 24,.al 9 A3 CM,.L 9 3 25] (.R [.A 26 2,.E 27 3 8,.E 28 3 9,.callvp (some 29) (.s 26) [.s 27,.s 28],.Q 30 29] (.W 30 (.R [.mv 6 (.c (.bool false))] (.ret)) (.skip)))))) (.reg [.X 31 .add 17 1,.A 17 31])
 | 3=>.R [.V 18 .lss 17 16] (.seq (.W 18 (.skip) (.exit 0)) (.n 2))
 | 4=>.seq (.R [.A 15 0,.Y 16 15,.mv 17 (.i 0)] (.J 0 1)) (.n 0)
 | _=>.skip
def body:C:=.R [.mv 6 (.c (.bool false))] (.seq (.R [.A 10 0,.Y 11 10,.A 12 1,.Y 13 12,.V 14 .neq 11 13] (.W 14 (.R [.mv 6 (.c (.bool false))] (.ret)) (.skip))) (.n 4))
def rs:List RV:=[.t 6]
attribute [push_cast] nd body
theorem ok:B9 prog BB nd body 3 rs=true:=by kernel_rfl
abbrev L3 (a b c d e:V)(B:Nat)(H:Dh)(Q:QX):Prop:=AB prog nd B (DW 3 1 0 0) [(1,a),(2,b),(15,c),(16,d),(17,e)] H Q
end AI
namespace EJ
def nd:Nat->C
 | 0=>.R [.A 20 5,.Y 21 20,.X 22 .eql 21 0,.A 23 22,.P 23 true [24,25] [.A 24 0,.U 25 Jt [.s 24]],.N 26 23 25,.A 2 26,.mv 3 (.i 0)] (.ret)
 | 1=>.R [.A 13 0,.U 14 RY [.s 13],.A 12 14,.F 15 12 0,.F 16 12 1,.A 5 15,.A 6 16] (.seq (.R [.A 17 6,.J 18 17] (.W 18 (.R [.A 19 6,.mv 2 (.c (.bool false)),.A 3 19] (.ret)) (.skip))) (.n 0))
 | _=>.skip
def body:C:=.R [.mv 2 (.c (.bool false)),.mv 3 (.i 0)] (.seq (.R [.A 7 0,.U 8 Ek [.s 7],.A 4 8] (.R [.A 9 4,.J 10 9] (.W 10 (.R [.A 11 4,.mv 2 (.c (.bool false)),.A 3 11] (.ret)) (.skip)))) (.n 1))
def rs:List RV:=[.t 2,.t 3]
attribute [push_cast] nd body
theorem ok:B9 prog Jk nd body 1 rs=true:=by kernel_rfl
end EJ
namespace HM
def nd:Nat->C
 | 0=>.R [.A 69 10,.A 70 11,.X 71 .add 70 1,.A 6 69,.A 7 71] (.ret)
 | 1=>.seq (.R [.D 46 0 4,.B 47 46,.X 48 .gtr 47 0] (.W 48 (.seq (.dr [0,1,2,3,4,5,6,7,8,9,10,11,12,13,14,15,16,17,18,19,20,21] [.A 49 0,.D 50 0 4,.B 51 50,.X 52 .sub 51 1,.G 53 6 49 52,.E 54 6 53,.A 55 2,.U 56 On [.s 54,.s 55],.A 57 0,.D 58 0 4,.B 59 58,.X 60 .sub 59 1,.G 61 6 57 60,.E 62 6 61,.U 63 Gb [.s 62],.A 64 8,.A 65 9,.U 66 KG [.s 56,.s 63,.s 64,.s 65],.F 67 66 0,.F 68 66 1,.A 6 67,.A 7 68]) (.ret)) (.skip))) (.n 0)
 | 2=>.gh [.ks 2 [0,2,4,8,9,10,11,17,18,19]] (.m 4)
 | 3=>.seq (.blk 1 (.R [.G 21 4 17 19,.E 22 4 21,.al 13 A7 J2,.L 13 4 22] (.R [.A 24 0,.E 25 4 13,.A 26 2,.U 27 JB [.s 24,.s 25,.s 26],.A 23 27,.F 28 23 0,.F 29 23 1,.A 14 28,.A 15 29] (.R [.A 30 8,.A 31 14,.bs 32 1 [.s 31],.app 33 EN 1 8 (.s 30) (.s 32),.A 8 33] (.R [.A 34 9,.A 35 15,.bs 36 1 [.s 35],.app 37 EN 1 8 (.s 34) (.s 36),.A 9 37] (.R [.A 38 10,.A 39 14,.V 40 .add 38 39,.mn 41 (.i 1099511627776) (.s 40),.A 10 41] (.reg [.A 42 11,.A 43 15,.mx 44 (.s 42) (.s 43),.A 11 44]))))))) (.reg [.X 45 .add 19 1,.A 19 45])
 | 4=>.R [.V 20 .lss 19 18] (.seq (.W 20 (.skip) (.exit 0)) (.n 3))
 | _=>.skip
def body:C:=.R [.Z 4 A7 1,.mv 6 (.i 0),.mv 7 (.i 0)] (.R [.mv 8 (.c .nil),.non 8 EN 1,.mv 9 (.c .nil),.non 9 EN 1] (.R [.mv 10 (.i 1),.mv 11 (.i 0)] (.seq (.R [.D 16 3 4,.B 17 16,.Y 18 17,.mv 19 (.i 0)] (.J 0 2)) (.n 1))))
def rs:List RV:=[.t 6,.t 7]
attribute [push_cast] nd body
theorem ok:B9 prog JB nd body 3 rs=true:=by kernel_rfl
abbrev L4 (a b c d e f g h i j:V)(B:Nat)(H:Dh)(Q:QX):Prop:=AB prog nd B (DW 4 2 0 1) [(0,a),(2,b),(4,c),(8,d),(9,e),(10,f),(11,g),(17,h),(18,i),(19,j)] H Q
end HM
namespace Js
def nd:Nat->C
 | 0=>.R [.A 62 11,.E 63 6 10,.A 64 2,.U 65 On [.s 63,.s 64],.U 66 CP [.s 62,.s 65],.K 3 6 66] (.ret)
 | 1=>.gh [.ks 4 [2,6,7,10,11,45,46,47]] (.m 3)
 | 2=>.seq (.blk 3 (.R [.A 49 47,.G 50 1 45 47,.B 51 50,.A 12 49,.A 13 51] (.reg [.A 52 11,.A 53 13,.A 54 7,.A 55 12,.G 56 3 54 55,.E 57 3 56,.bd 58 [.str [],.str [],.bool false,.sl 3 []] [(0,1,(.s 53)),(1,3,(.s 57))],.bs 59 4 [.s 58],.app 60 C4 4 64 (.s 52) (.s 59),.A 11 60]))) (.reg [.X 61 .add 47 1,.A 47 61])
 | 3=>.R [.V 48 .lss 47 46] (.seq (.W 48 (.skip) (.exit 2)) (.n 2))
 | 4=>.R [.A 38 0,.D 39 0 4,.B 40 39,.X 41 .sub 40 1,.G 42 6 38 41,.E 43 6 42,.al 10 BS [.str [],.bool false,.sl 3 [],.str [],.bool false,.sl 3 []],.L 10 6 43] (.R [.mv 11 (.c .nil),.non 11 C4 4] (.seq (.R [.E 44 6 10,.U 45 Gb [.s 44],.Y 46 45,.mv 47 (.i 0)] (.J 2 1)) (.n 0)))
 | 5=>.seq (.R [.D 29 0 4,.B 30 29,.X 31 .eql 30 0] (.W 31 (.R [.D 32 1 4,.B 33 32,.D 34 2 4,.B 35 34,.A 36 7,.bd 37 CM [(0,1,(.s 33)),(1,1,(.s 35)),(2,1,(.s 36))],.K 3 6 37] (.ret)) (.skip))) (.n 4)
 | 6=>.gh [.ks 2 [0,2,4,6,7,15,16,17]] (.m 8)
 | 7=>.seq (.blk 1 (.R [.G 19 4 15 17,.E 20 4 19,.al 9 A7 J2,.L 9 4 20] (.reg [.A 21 7,.A 22 0,.E 23 4 9,.A 24 2,.U 25 Mh [.s 22,.s 23,.s 24],.bs 26 3 [.s 25],.app 27 A3 3 48 (.s 21) (.s 26),.A 7 27]))) (.reg [.X 28 .add 17 1,.A 17 28])
 | 8=>.R [.V 18 .lss 17 16] (.seq (.W 18 (.skip) (.exit 0)) (.n 7))
 | _=>.skip
def body:C:=.R [.Z 4 A7 1,.al 6 A3 CM] (.R [.mv 7 (.c .nil),.non 7 A3 3] (.seq (.R [.D 14 3 4,.B 15 14,.Y 16 15,.mv 17 (.i 0)] (.J 0 6)) (.n 5)))
def rs:List RV:=[.a 6 3]
attribute [push_cast] nd body
theorem ok:B9 prog Mh nd body 3 rs=true:=by kernel_rfl
abbrev L3 (a b c d e f g h:V)(B:Nat)(H:Dh)(Q:QX):Prop:=AB prog nd B (DW 3 1 2 0) [(2,a),(6,b),(7,c),(10,d),(11,e),(45,f),(46,g),(47,h)] H Q
abbrev L8 (a b c d e f g h:V)(B:Nat)(H:Dh)(Q:QX):Prop:=AB prog nd B (DW 8 6 0 5) [(0,a),(2,b),(4,c),(6,d),(7,e),(15,f),(16,g),(17,h)] H Q
end Js
namespace Ge
def nd:Nat->C
 | 0=>.R [.D 14 2 1,.B 15 14,.Y 16 15,.X 17 .leq 16 8,.A 18 17,.P 18 true [19,20,21] [.D 19 0 1,.B 20 19,.U 21 DF [.s 20,(.c (.bool true))]],.N 22 18 21,.A 23 22,.P 23 true [24,25,26,27] [.D 24 2 1,.B 25 24,.U 26 AN [.s 25,(.f Kh)],.Q 27 26],.N 28 23 27,.A 2 28] (.ret)
 | _=>.skip
def body:C:=.R [.Z 1 A3 0,.mv 2 (.c (.bool false))] (.seq (.R [.D 3 1 1,.B 4 3] (.W 4 (.R [.D 5 2 1,.B 6 5,.Y 7 6,.X 8 .eql 7 0,.A 9 8,.P 9 true [10,11,12] [.D 10 0 1,.B 11 10,.U 12 DF [.s 11,(.c (.bool false))]],.N 13 9 12,.A 2 13] (.ret)) (.skip))) (.n 0))
def rs:List RV:=[.t 2]
attribute [push_cast] nd body
theorem ok:B9 prog JP nd body 1 rs=true:=by kernel_rfl
end Ge
namespace QL
def nd (_:Nat):C:=.skip
def body:C:=.R [.Z 1 A3 0,.mv 2 (.c (.bool false))] (.R [.E 3 3 1,.U 4 K5 [.s 3],.X 5 .leq 4 4000,.A 6 5,.P 6 true [7,8,9] [.E 7 3 1,.U 8 IR [.s 7],.X 9 .leq 8 200],.N 10 6 9,.A 2 10] (.ret))
def rs:List RV:=[.t 2]
attribute [push_cast] nd body
theorem ok:B9 prog Mi nd body 1 rs=true:=by kernel_rfl
end QL
namespace TQ
def nd (_:Nat):C:=.skip
def body:C:=.R [.Z 1 A3 0,.mv 2 (.c .nilf)] (.R [.mf 3 Dd [] [.s 1],.A 2 3] (.ret))
def rs:List RV:=[.t 2]
attribute [push_cast] nd body
theorem ok:B9 prog HS nd body 1 rs=true:=by kernel_rfl
end TQ
namespace Fc
def nd:Nat->C
 | 0=>.R [.mv 2 (.c (.bool true))] (.ret)
 | 1=>.gh [.ks 0 [27,28,29]] (.m 3)
 | 2=>.seq (.blk 1 (.R [.G 31 3 27 29,.E 32 3 31,.al 4 A3 CM,.L 4 3 32] (.R [.E 33 3 4,.U 34 KJ [.s 33],.Q 35 34] (.W 35 (.R [.mv 2 (.c (.bool false))] (.ret)) (.skip))))) (.reg [.X 36 .add 29 1,.A 29 36])
 | 3=>.R [.V 30 .lss 29 28] (.seq (.W 30 (.skip) (.exit 0)) (.n 2))
 | 4=>.seq (.R [.D 26 2 1,.B 27 26,.Y 28 27,.mv 29 (.i 0)] (.J 0 1)) (.n 0)
 | 5=>.seq (.R [.D 16 0 1,.B 17 16,.U 18 Ee [.s 17,(.c (.bool true))],.Q 19 18,.A 20 19,.P 20 false [21,22,23,24] [.D 21 2 1,.B 22 21,.Y 23 22,.X 24 .gtr 23 8],.M 25 20 24] (.W 25 (.R [.mv 2 (.c (.bool false))] (.ret)) (.skip))) (.n 4)
 | _=>.skip
def body:C:=.R [.Z 1 A3 0,.mv 2 (.c (.bool false))] (.seq (.R [.D 5 1 1,.B 6 5] (.W 6 (.R [.D 7 0 1,.B 8 7,.U 9 Ee [.s 8,(.c (.bool false))],.A 10 9,.P 10 true [11,12,13,14] [.D 11 2 1,.B 12 11,.Y 13 12,.X 14 .eql 13 0],.N 15 10 14,.A 2 15] (.ret)) (.skip))) (.n 5))
def rs:List RV:=[.t 2]
attribute [push_cast] nd body
theorem ok:B9 prog KJ nd body 1 rs=true:=by kernel_rfl
abbrev L3 (a b c:V)(B:Nat)(H:Dh)(Q:QX):Prop:=AB prog nd B (DW 3 1 0 0) [(27,a),(28,b),(29,c)] H Q
end Fc
namespace Sz
def nd:Nat->C
 | 0=>.R [.A 18 3,.A 2 18] (.ret)
 | 1=>.gh [.ks 0 [3,7,8,9]] (.m 3)
 | 2=>.seq (.blk 1 (.R [.G 11 3 7 9,.E 12 3 11,.al 5 A3 CM,.L 5 3 12] (.reg [.A 13 3,.E 14 3 5,.U 15 Jo [.s 14],.V 16 .add 13 15,.A 3 16]))) (.reg [.X 17 .add 9 1,.A 9 17])
 | 3=>.R [.V 10 .lss 9 8] (.seq (.W 10 (.skip) (.exit 0)) (.n 2))
 | _=>.skip
def body:C:=.R [.Z 1 A3 0,.mv 2 (.i 0)] (.R [.mv 3 (.i 1)] (.seq (.R [.D 6 2 1,.B 7 6,.Y 8 7,.mv 9 (.i 0)] (.J 0 1)) (.n 0)))
def rs:List RV:=[.t 2]
attribute [push_cast] nd body
theorem ok:B9 prog Jo nd body 1 rs=true:=by kernel_rfl
abbrev L3 (a b c d:V)(B:Nat)(H:Dh)(Q:QX):Prop:=AB prog nd B (DW 3 1 0 0) [(3,a),(7,b),(8,c),(9,d)] H Q
end Sz
namespace QB
def nd:Nat->C
 | 0=>.R [.A 18 3,.X 19 .add 18 1,.A 2 19] (.ret)
 | 1=>.gh [.ks 0 [3,7,8,9]] (.m 3)
 | 2=>.seq (.blk 1 (.R [.G 11 3 7 9,.E 12 3 11,.al 5 A3 CM,.L 5 3 12] (.reg [.A 13 3,.E 14 3 5,.U 15 I0 [.s 14],.mx 16 (.s 13) (.s 15),.A 3 16]))) (.reg [.X 17 .add 9 1,.A 9 17])
 | 3=>.R [.V 10 .lss 9 8] (.seq (.W 10 (.skip) (.exit 0)) (.n 2))
 | _=>.skip
def body:C:=.R [.Z 1 A3 0,.mv 2 (.i 0)] (.R [.mv 3 (.i 0)] (.seq (.R [.D 6 2 1,.B 7 6,.Y 8 7,.mv 9 (.i 0)] (.J 0 1)) (.n 0)))
def rs:List RV:=[.t 2]
attribute [push_cast] nd body
theorem ok:B9 prog I0 nd body 1 rs=true:=by kernel_rfl
abbrev L3 (a b c d:V)(B:Nat)(H:Dh)(Q:QX):Prop:=AB prog nd B (DW 3 1 0 0) [(3,a),(7,b),(8,c),(9,d)] H Q
end QB
namespace Bu
def nd:Nat->C
 | 0=>.R [.mv 4 (.i (-1))] (.ret)
 | 1=>.gh [.ks 0 [0,1,7,8]] (.m 3)
 | 2=>.seq (.blk 1 (.R [.A 10 8,.A 5 10] (.R [.A 11 1,.A 12 0,.A 13 5,.G 14 4 12 13,.E 15 4 14,.callvp (some 16) (.s 11) [.s 15]] (.W 16 (.R [.A 17 5,.A 4 17] (.ret)) (.skip))))) (.reg [.X 18 .add 8 1,.A 8 18])
 | 3=>.R [.V 9 .lss 8 7] (.seq (.W 9 (.skip) (.exit 0)) (.n 2))
 | _=>.skip
def body:C:=.R [.mv 4 (.i 0)] (.seq (.R [.A 6 0,.Y 7 6,.mv 8 (.i 0)] (.J 0 1)) (.n 0))
def rs:List RV:=[.t 4]
attribute [push_cast] nd body
theorem ok:B9 prog CG nd body 2 rs=true:=by kernel_rfl
abbrev L3 (a b c d:V)(B:Nat)(H:Dh)(Q:QX):Prop:=AB prog nd B (DW 3 1 0 0) [(0,a),(1,b),(7,c),(8,d)] H Q
end Bu
namespace Ct
def nd:Nat->C
 | 0=>.R [.mv 2 (.i 0)] (.ret)
 | 1=>.seq (.R [.A 27 0,.U 28 BK [.s 27,(.f Kw)]] (.W 28 (.R [.mv 2 (.i 7)] (.ret)) (.skip))) (.n 0)
 | 2=>.gh [.ks 2 [0,20]] (.m 4)
 | 3=>.blk 1 (.R [.en 23 (.s 20),.F 24 23 0,.A 6 24] (.R [.A 25 6,.U 26 MK [.s 25]] (.W 26 (.R [.mv 2 (.i 6)] (.ret)) (.skip))))
 | 4=>.R [.nx 21 (.s 20),.F 22 21 0] (.seq (.W 22 (.skip) (.exit 0)) (.n 3))
 | 5=>.seq (.R [.A 19 4,.rg 20 (.s 19)] (.J 0 2)) (.n 1)
 | 6=>.R [.A 13 0,.call (some 14) Is [.s 13],.A 12 14,.F 15 12 0,.F 16 12 1,.A 4 15,.A 5 16] (.seq (.R [.A 17 5,.Q 18 17] (.W 18 (.R [.mv 2 (.i 6)] (.ret)) (.skip))) (.n 5))
 | _=>.skip
def body:C:=.R [.mv 2 (.i 0)] (.seq (.R [.A 7 0,.U 8 Ip [.s 7],.A 3 8] (.R [.A 9 3,.J 10 9] (.W 10 (.R [.A 11 3,.A 2 11] (.ret)) (.skip)))) (.n 6))
def rs:List RV:=[.t 2]
attribute [push_cast] nd body
theorem ok:B9 prog DX nd body 1 rs=true:=by kernel_rfl
abbrev L4 (a b:V)(B:Nat)(H:Dh)(Q:QX):Prop:=AB prog nd B (DW 4 2 0 1) [(0,a),(20,b)] H Q
end Ct
namespace DN
def nd:Nat->C
 | 0=>.seq (.dr [0,1,2,3,4,5,6,7,8] [.B 14 2,.B 15 1,.X 16 .sub 15 1,.G 17 6 14 16,.D 18 0 17,.E 19 3 18,.E 20 4 3,.U 21 J9 [.s 19,.s 20],.A 4 21]) (.ret)
 | _=>.skip
def body:C:=.R [.Z 3 A7 0,.mv 4 (.c (.sl 4 []))] (.seq (.R [.D 5 0 3,.B 6 5,.X 7 .gtr 6 0,.A 8 7,.P 8 false [9,10] [.B 9 1,.X 10 .eql 9 0],.M 11 8 10] (.W 11 (.R [.D 12 3 3,.B 13 12,.A 4 13] (.ret)) (.skip))) (.n 0))
def rs:List RV:=[.t 4]
attribute [push_cast] nd body
theorem ok:B9 prog Fb nd body 3 rs=true:=by kernel_rfl
end DN
namespace Ga
def nd:Nat->C
 | 0=>.R [.frc 0 (.s 6),.B 44 6,.A 4 44] (.ret)
 | 1=>.gh [.ks 2 [5,6,8,9,25,26,27]] (.m 3)
 | 2=>.seq (.blk 3 (.R [.G 29 1 25 27,.B 30 29,.A 11 30] (.reg [.D 31 3 9,.B 32 31,.A 33 11,.G 34 4 32 33,.E 35 4 34,.K 4 9 35]))) (.reg [.X 36 .add 27 1,.A 27 36])
 | 3=>.R [.V 28 .lss 27 26] (.seq (.W 28 (.skip) (.exit 2)) (.n 2))
 | 4=>.blk 1 (.R [.D 22 1 8,.B 23 22] (.W 23 (.R [.E 24 4 3,.al 9 A7 J2,.K 4 9 24] (.seq (.R [.A 25 7,.Y 26 25,.mv 27 (.i 0)] (.J 2 1)) (.dr [0,1,2,3,4,5,6,7] [.B 37 6,.B 38 5,.D 39 0 8,.B 40 39,.U 41 AU [.s 38,.s 40],.E 42 4 9,.G 43 4 37 41,.K 4 43 42]))) (.skip)))
 | _=>.skip
def body:C:=.R [.Z 2 A3 0,.Z 3 A7 1,.mv 4 (.c (.sl 4 []))] (.R [.E 12 3 2,.bs 13 3 [.s 12],.U 14 Dc [.s 13],.al 5 Xz [.sl 1 []],.L 5 1 14] (.R [.B 15 5,.Y 16 15,.mk 17 A7 4 56 [.int .i64 0,.str [],.bool false,.sl 4 []] (.s 16),.al 6 QC [.nil],.K 1 6 17] (.seq (.R [.E 18 3 2,.U 19 HS [.s 18]] (.blk 0 (.rf (.s 19) [20,21] (.R [.A 7 20] (.reg [.al 8 A3 CM,.L 8 3 21])) (.m 4)))) (.n 0))))
def rs:List RV:=[.t 4]
attribute [push_cast] nd body
theorem ok:B9 prog J9 nd body 2 rs=true:=by kernel_rfl
abbrev L3 (a b c d e f g:V)(B:Nat)(H:Dh)(Q:QX):Prop:=AB prog nd B [.c (.m 3),.c (.loop (.n 1)),.mk 2,.c (.dr [0,1,2,3,4,5,6,7] [.B 37 6,.B 38 5,.D 39 0 8,.B 40 39,.U 41 AU [.s 38,.s 40],.E 42 4 9,.G 43 4 37 41,.K 4 43 42]),.mk 1] [(5,a),(6,b),(8,c),(9,d),(25,e),(26,f),(27,g)] H Q
end Ga
end Go.Dw
end
section
namespace Go.Dw
variable {s:List K} {B:Nat} {t:T} {H:List Ob} {Q:X->T->List Ob->Prop}
namespace BH
def nd:Nat->C
 | 0=>.R [.mv 4 (.i (-1))] (.ret)
 | 1=>.gh [.ks 0 [0,1,7,8]] (.m 3)
 | 2=>.seq (.blk 1 (.R [.A 10 8,.A 5 10] (.R [.A 11 1,.A 12 0,.A 13 5,.G 14 1 12 13,.B 15 14,.V 16 .eql 11 15] (.W 16 (.R [.A 17 5,.A 4 17] (.ret)) (.skip))))) (.reg [.X 18 .add 8 1,.A 8 18])
 | 3=>.R [.V 9 .lss 8 7] (.seq (.W 9 (.skip) (.exit 0)) (.n 2))
 | _=>.skip
def body:C:=.R [.mv 4 (.i 0)] (.seq (.R [.A 6 0,.Y 7 6,.mv 8 (.i 0)] (.J 0 1)) (.n 0))
def rs:List RV:=[.t 4]
attribute [push_cast] nd body
theorem ok:B9 prog AU nd body 2 rs=true:=by kernel_rfl
abbrev L3 (a b c d:V)(B:Nat)(H:Dh)(Q:QX):Prop:=AB prog nd B (DW 3 1 0 0) [(0,a),(1,b),(7,c),(8,d)] H Q
end BH
namespace Hn
def nd:Nat->C
 | 0=>.R [.A 15 0,.E 16 4 3,.U 17 Jd [.s 15,.s 16,(.c (.bool false))],.A 14 17,.F 18 14 0,.F 19 14 1,.al 6 A3 CM,.L 6 3 18,.A 7 19] (.R [.A 20 7,.A 4 20] (.ret))
 | _=>.skip
def body:C:=.R [.Z 3 A7 1,.mv 4 (.i 0)] (.seq (.R [.A 8 0,.E 9 4 3,.U 10 Q5 [.s 8,.s 9],.A 5 10] (.R [.A 11 5,.J 12 11] (.W 12 (.R [.A 13 5,.A 4 13] (.ret)) (.skip)))) (.n 0))
def rs:List RV:=[.t 4]
attribute [push_cast] nd body
theorem ok:B9 prog I6 nd body 2 rs=true:=by kernel_rfl
end Hn
namespace K8
def nd:Nat->C
 | 0=>.R [.D 45 0 3,.B 46 45,.bd 47 J2 [(1,1,(.s 46))],.A 48 9,.U 49 J6 [.s 47,.s 48],.K 6 6 49] (.ret)
 | 1=>.gh [.ks 2 [1,2,3,6,9,31,32,33]] (.m 3)
 | 2=>.seq (.blk 3 (.R [.G 35 3 31 33,.E 36 3 35,.al 11 A3 CM,.L 11 3 36] (.reg [.A 37 9,.E 38 3 11,.A 39 1,.A 40 2,.U 41 OJ [.s 38,.s 39,.s 40],.bs 42 6 [.s 41],.app 43 Ax 6 72 (.s 37) (.s 42),.A 9 43]))) (.reg [.X 44 .add 33 1,.A 33 44])
 | 3=>.R [.V 34 .lss 33 32] (.seq (.W 34 (.skip) (.exit 2)) (.n 2))
 | 4=>.R [.mv 9 (.c .nil),.non 9 Ax 6] (.seq (.R [.D 30 2 3,.B 31 30,.Y 32 31,.mv 33 (.i 0)] (.J 2 1)) (.n 0))
 | 5=>.gh [.ks 1 [1,2,3,6,14,15,16]] (.m 7)
 | 6=>.seq (.blk 1 (.R [.A 18 16,.G 19 1 14 16,.B 20 19,.A 7 18,.A 8 20] (.R [.A 21 8,.D 22 0 3,.B 23 22,.V 24 .eql 21 23] (.W 24 (.R [.A 25 2,.A 26 7,.G 27 6 25 26,.E 28 6 27,.K 6 6 28] (.ret)) (.skip))))) (.reg [.X 29 .add 16 1,.A 16 29])
 | 7=>.R [.V 17 .lss 16 15] (.seq (.W 17 (.skip) (.exit 0)) (.n 6))
 | _=>.skip
def body:C:=.R [.Z 3 A3 0,.al 6 Ax [.int .i64 0,.str [],.bool false,.sl 4 [],.int .i64 0,.int .i64 0]] (.seq (.R [.D 12 1 3,.B 13 12] (.W 13 (.R [.A 14 1,.Y 15 14,.mv 16 (.i 0)] (.J 0 5)) (.skip))) (.n 4))
def rs:List RV:=[.a 6 6]
attribute [push_cast] nd body
theorem ok:B9 prog OJ nd body 3 rs=true:=by kernel_rfl
abbrev L3 (a b c d e f g h:V)(B:Nat)(H:Dh)(Q:QX):Prop:=AB prog nd B (DW 3 1 2 0) [(1,a),(2,b),(3,c),(6,d),(9,e),(31,f),(32,g),(33,h)] H Q
abbrev L7 (a b c d e f g:V)(B:Nat)(H:Dh)(Q:QX):Prop:=AB prog nd B (DW 7 5 0 4) [(1,a),(2,b),(3,c),(6,d),(14,e),(15,f),(16,g)] H Q
end K8
namespace Xh
def nd (_:Nat):C:=.skip
def body:C:=.R [.Z 1 BS 0,.mv 2 (.c (.sl 1 []))] (.R [.D 3 0 1,.E 4 3 3,.bs 5 3 [.s 4],.U 6 M1 [.s 5],.A 2 6] (.ret))
def rs:List RV:=[.t 2]
attribute [push_cast] nd body
theorem ok:B9 prog Gb nd body 1 rs=true:=by kernel_rfl
end Xh
namespace GR
def nd:Nat->C
 | 0=>.R [.A 28 7,.A 6 28] (.ret)
 | 1=>.gh [.ks 1 [0,1,2,7,10,11]] (.m 3)
 | 2=>.seq (.blk 1 (.R [.A 13 11,.A 8 13] (.dr [0,1,2,3,4,5,6,7,8,9,10,11,12,13] [.A 14 7,.A 15 0,.A 16 1,.A 17 8,.G 18 4 16 17,.E 19 4 18,.A 20 2,.A 21 8,.G 22 4 20 21,.E 23 4 22,.U 24 DU [.s 15,.s 19,.s 23],.bs 25 6 [.s 24],.app 26 Ax 6 72 (.s 14) (.s 25),.A 7 26]))) (.reg [.X 27 .add 11 1,.A 11 27])
 | 3=>.R [.V 12 .lss 11 10] (.seq (.W 12 (.skip) (.exit 0)) (.n 2))
 | _=>.skip
def body:C:=.R [.mv 6 (.c (.sl 6 []))] (.R [.mv 7 (.c .nil),.non 7 Ax 6] (.seq (.R [.A 9 1,.Y 10 9,.mv 11 (.i 0)] (.J 0 1)) (.n 0)))
def rs:List RV:=[.t 6]
attribute [push_cast] nd body
theorem ok:B9 prog Fs nd body 3 rs=true:=by kernel_rfl
abbrev L3 (a b c d e f:V)(B:Nat)(H:Dh)(Q:QX):Prop:=AB prog nd B (DW 3 1 0 0) [(0,a),(1,b),(2,c),(7,d),(10,e),(11,f)] H Q
end GR
namespace Pi
def nd:Nat->C
 | 0=>.R [.D 45 5 5,.B 46 45,.X 47 .add 46 1,.D 48 5 5,.K 1 48 47] (.R [.E 49 6 5,.K 6 4 49] (.ret))
 | 1=>.gh [.ks 3 [4,5,16,17,18]] (.m 3)
 | 2=>.seq (.blk 1 (.R [.G 20 6 16 18,.E 21 6 20,.al 7 Ax [.int .i64 0,.str [],.bool false,.sl 4 [],.int .i64 0,.int .i64 0],.L 7 6 21] (.R [.D 22 0 5,.D 23 3 22,.B 24 23,.D 25 0 7,.E 26 4 25,.bs 27 4 [.s 26],.app 28 A7 4 56 (.s 24) (.s 27),.D 29 0 5,.D 30 3 29,.K 1 30 28] (.R [.D 31 4 5,.B 32 31,.D 33 4 7,.B 34 33,.V 35 .add 32 34,.mn 36 (.i 1099511627776) (.s 35),.D 37 4 5,.K 1 37 36] (.reg [.D 38 5 5,.B 39 38,.D 40 5 7,.B 41 40,.mx 42 (.s 39) (.s 41),.D 43 5 5,.K 1 43 42]))))) (.reg [.X 44 .add 18 1,.A 18 44])
 | 3=>.R [.V 19 .lss 18 17] (.seq (.W 19 (.skip) (.exit 0)) (.n 2))
 | _=>.skip
def body:C:=.R [.Z 2 A7 0,.al 4 Ax [.int .i64 0,.str [],.bool false,.sl 4 [],.int .i64 0,.int .i64 0]] (.R [.D 8 0 2,.B 9 8,.D 10 1 2,.B 11 10,.D 12 2 2,.B 13 12,.bd 14 [.int .i64 0,.str [],.bool false,.nil] [(0,1,(.s 9)),(1,1,(.s 11)),(2,1,(.s 13))],.bd 15 [.int .i64 0,.str [],.bool false,.nil,.int .i64 0,.int .i64 0] [(0,4,(.s 14)),(4,1,(.i 1))],.al 5 Ax [.int .i64 0,.str [],.bool false,.nil,.int .i64 0,.int .i64 0],.K 6 5 15,.ono A7 4 3 (.s 5)] (.seq (.R [.A 16 1,.Y 17 16,.mv 18 (.i 0)] (.J 0 1)) (.n 0)))
def rs:List RV:=[.a 4 6]
attribute [push_cast] nd body
theorem ok:B9 prog J6 nd body 2 rs=true:=by kernel_rfl
abbrev L3 (a b c d e:V)(B:Nat)(H:Dh)(Q:QX):Prop:=AB prog nd B (DW 3 1 0 0) [(4,a),(5,b),(16,c),(17,d),(18,e)] H Q
end Pi
namespace KT
def nd:Nat->C
 | 0=>.R [.mv 8 (.c (.bool true))] (.ret)
 | 1=>.gh [.ks 0 [2,3,4,5,44,45]] (.m 3)
 | 2=>.seq (.blk 1 (.R [.A 47 45,.A 9 47] (.seq (.dr [0,1,2,3,4,5,6,7,8,9,10,11,12,13] [.D 48 2 4,.B 49 48,.A 50 9,.G 51 3 49 50,.E 52 3 51,.D 53 3 5,.B 54 53,.A 55 9,.G 56 4 54 55,.E 57 4 56,.A 58 2,.A 59 3,.call (some 60) MF [.s 52,.s 57,.s 58,.s 59],.Q 61 60]) (.W 61 (.R [.mv 8 (.c (.bool false))] (.ret)) (.skip))))) (.reg [.X 62 .add 45 1,.A 45 62])
 | 3=>.R [.V 46 .lss 45 44] (.seq (.W 46 (.skip) (.exit 0)) (.n 2))
 | 4=>.seq (.R [.D 42 2 4,.B 43 42,.Y 44 43,.mv 45 (.i 0)] (.J 0 1)) (.n 0)
 | 5=>.seq (.R [.D 19 0 5,.B 20 19,.J 21 20,.A 22 21,.P 22 false [23,24] [.D 23 2 5,.B 24 23],.M 25 22 24,.A 26 25,.P 26 false [27,28,29,30,31] [.D 27 1 5,.B 28 27,.D 29 0 4,.B 30 29,.V 31 .neq 28 30],.M 32 26 31,.A 33 32,.P 33 false [34,35,36,37,38,39,40] [.D 34 3 5,.B 35 34,.Y 36 35,.D 37 2 4,.B 38 37,.Y 39 38,.V 40 .neq 36 39],.M 41 33 40] (.W 41 (.R [.mv 8 (.c (.bool false))] (.ret)) (.skip))) (.n 4)
 | _=>.skip
def body:C:=.R [.Z 4 A3 0,.Z 5 A7 1,.mv 8 (.c (.bool false))] (.seq (.R [.D 10 1 4,.B 11 10] (.W 11 (.seq (.dr [0,1,2,3,4,5,6,7] [.A 12 3,.A 13 2,.D 14 0 4,.B 15 14,.U 16 MI [.s 13,.s 15],.E 17 4 5,.G 18 4 12 16,.K 4 18 17]) (.R [.mv 8 (.c (.bool true))] (.ret))) (.skip))) (.n 5))
def rs:List RV:=[.t 8]
attribute [push_cast] nd body
theorem ok:B9 prog MF nd body 4 rs=true:=by kernel_rfl
abbrev L3 (a b c d e f:V)(B:Nat)(H:Dh)(Q:QX):Prop:=AB prog nd B (DW 3 1 0 0) [(2,a),(3,b),(4,c),(5,d),(44,e),(45,f)] H Q
end KT
namespace F7
def nd:Nat->C
 | 0=>.R [.mv 4 (.i 0)] (.ret)
 | 1=>.seq (.blk 0 (.R [.E 12 4 3,.mf 13 Kb [] [.s 2],.U 14 K6 [.s 12,.s 13],.Q 15 14,.A 11 15] (.W 11 (.R [.mv 4 (.i 8)] (.ret)) (.R [.E 17 4 3,.mf 18 Km [] [.s 2],.U 19 K6 [.s 17,.s 18],.Q 20 19,.A 16 20] (.W 16 (.R [.mv 4 (.i 4)] (.ret)) (.R [.E 22 4 3,.U 23 I4 [.s 22],.X 24 .gtr 23 4000,.A 25 24,.P 25 false [26,27,28] [.E 26 4 3,.U 27 GZ [.s 26],.X 28 .gtr 27 200],.M 29 25 28,.A 21 29] (.W 21 (.R [.mv 4 (.i 3)] (.ret)) (.skip)))))))) (.n 0)
 | _=>.skip
def body:C:=.R [.Z 2 Pw 0,.Z 3 A7 1,.mv 4 (.i 0)] (.seq (.R [.B 6 2,.U 7 DX [.s 6],.A 5 7] (.R [.A 8 5,.J 9 8] (.W 9 (.R [.A 10 5,.A 4 10] (.ret)) (.skip)))) (.n 1))
def rs:List RV:=[.t 4]
attribute [push_cast] nd body
theorem ok:B9 prog N0 nd body 2 rs=true:=by kernel_rfl
end F7
namespace M6
def nd:Nat->C
 | 0=>.R [.A 35 0,.D 36 0 4,.B 37 36,.X 38 .sub 37 1,.G 39 6 35 38,.E 40 6 39,.al 10 BS [.str [],.bool false,.sl 3 [],.str [],.bool false,.sl 3 []],.L 10 6 40] (.seq (.dr [0,1,2,3,4,5,6,7,8,9] [.A 41 2,.E 42 6 10,.callvp (some 43) (.s 41) [.s 42],.D 44 0 10,.E 45 3 44,.bs 46 3 [.s 45],.U 47 Dc [.s 46],.A 48 7,.U 49 KL [.s 43,.s 47,.s 48],.K 3 6 49]) (.ret))
 | 1=>.seq (.R [.D 26 0 4,.B 27 26,.X 28 .eql 27 0] (.W 28 (.R [.D 29 1 4,.B 30 29,.D 31 2 4,.B 32 31,.A 33 7,.bd 34 CM [(0,1,(.s 30)),(1,1,(.s 32)),(2,1,(.s 33))],.K 3 6 34] (.ret)) (.skip))) (.n 0)
 | 2=>.gh [.ks 2 [0,2,4,6,7,12,13,14]] (.m 4)
 | 3=>.seq (.blk 1 (.R [.G 16 4 12 14,.E 17 4 16,.al 9 A7 J2,.L 9 4 17] (.reg [.A 18 7,.A 19 0,.E 20 4 9,.A 21 2,.U 22 KC [.s 19,.s 20,.s 21],.bs 23 3 [.s 22],.app 24 A3 3 48 (.s 18) (.s 23),.A 7 24]))) (.reg [.X 25 .add 14 1,.A 14 25])
 | 4=>.R [.V 15 .lss 14 13] (.seq (.W 15 (.skip) (.exit 0)) (.n 3))
 | _=>.skip
def body:C:=.R [.Z 4 A7 1,.al 6 A3 CM] (.R [.mv 7 (.c .nil),.non 7 A3 3] (.seq (.R [.D 11 3 4,.B 12 11,.Y 13 12,.mv 14 (.i 0)] (.J 0 2)) (.n 1)))
def rs:List RV:=[.a 6 3]
attribute [push_cast] nd body
theorem ok:B9 prog KC nd body 3 rs=true:=by kernel_rfl
abbrev L4 (a b c d e f g h:V)(B:Nat)(H:Dh)(Q:QX):Prop:=AB prog nd B (DW 4 2 0 1) [(0,a),(2,b),(4,c),(6,d),(7,e),(12,f),(13,g),(14,h)] H Q
end M6
namespace Qs
def nd (_:Nat):C:=.skip
def body:C:=.R [.Z 1 A3 0,.mv 2 (.c (.bool false))] (.R [.al 3 EN [.int .i64 0],.st 1 (.s 3) (.i 4000)] (.R [.al 4 GD [.nilf]] (.R [.mf 5 Dq [] [.s 3,.s 4],.K 1 4 5] (.R [.B 6 4,.E 7 3 1,.callv (some 8) (.s 6) [.s 7],.A 2 8] (.ret)))))
def rs:List RV:=[.t 2]
attribute [push_cast] nd body
theorem ok:B9 prog MQ nd body 1 rs=true:=by kernel_rfl
end Qs
namespace Xm
def nd:Nat->C
 | 0=>.R [.E 8 3 1,.K 3 2 8,.mv 3 (.i 0)] (.ret)
 | _=>.skip
def body:C:=.R [.Z 1 A3 0,.al 2 A3 CM,.mv 3 (.i 0)] (.seq (.R [.E 4 3 1,.U 5 Mi [.s 4],.Q 6 5] (.W 6 (.R [.bd 7 CM [],.K 3 2 7,.mv 3 (.i 3)] (.ret)) (.skip))) (.n 0))
def rs:List RV:=[.a 2 3,.t 3]
attribute [push_cast] nd body
theorem ok:B9 prog OM nd body 1 rs=true:=by kernel_rfl
end Xm
namespace Tk
def nd:Nat->C
 | 0=>.R [.E 26 3 3,.K 3 2 26] (.ret)
 | 1=>.gh [.ks 3 [2,3,12,13,14]] (.m 3)
 | 2=>.seq (.blk 1 (.R [.G 16 3 12 14,.E 17 3 16,.al 5 A3 CM,.L 5 3 17] (.dr [0,1,2,3,4,5,6,7] [.D 18 2 3,.B 19 18,.E 20 3 5,.U 21 Hw [.s 20],.bs 22 3 [.s 21],.app 23 A3 3 48 (.s 19) (.s 22),.D 24 2 3,.K 1 24 23]))) (.reg [.X 25 .add 14 1,.A 14 25])
 | 3=>.R [.V 15 .lss 14 13] (.seq (.W 15 (.skip) (.exit 0)) (.n 2))
 | _=>.skip
def body:C:=.R [.Z 1 A3 0,.al 2 A3 CM] (.R [.D 6 0 1,.B 7 6,.D 8 1 1,.B 9 8,.bd 10 [.str [],.bool false,.nil] [(0,1,(.s 7)),(1,1,(.s 9))],.al 3 A3 [.str [],.bool false,.nil],.K 3 3 10,.ono A3 3 2 (.s 3)] (.seq (.R [.D 11 2 1,.B 12 11,.Y 13 12,.mv 14 (.i 0)] (.J 0 1)) (.n 0)))
def rs:List RV:=[.a 2 3]
attribute [push_cast] nd body
theorem ok:B9 prog Hw nd body 1 rs=true:=by kernel_rfl
abbrev L3 (a b c d e:V)(B:Nat)(H:Dh)(Q:QX):Prop:=AB prog nd B (DW 3 1 0 0) [(2,a),(3,b),(12,c),(13,d),(14,e)] H Q
end Tk
namespace KR
def nd:Nat->C
 | 0=>.R [.A 10 0,.U 11 N5 [.s 10],.F 12 11 0,.F 13 11 1,.A 2 12,.A 3 13] (.ret)
 | _=>.skip
def body:C:=.R [.mv 2 (.c (.sl 12 [])),.mv 3 (.i 0)] (.seq (.R [.A 5 0,.U 6 DX [.s 5],.A 4 6] (.R [.A 7 4,.J 8 7] (.W 8 (.R [.A 9 4,.mv 2 (.c (.sl 12 [])),.A 3 9] (.ret)) (.skip)))) (.n 0))
def rs:List RV:=[.t 2,.t 3]
attribute [push_cast] nd body
theorem ok:B9 prog Lm nd body 1 rs=true:=by kernel_rfl
end KR
namespace NP
def nd (_:Nat):C:=.skip
def body:C:=.R [.mv 2 (.c (.bool false))] (.R [.A 3 0,.U 4 BK [.s 3,(.f Jc)],.Q 5 4,.A 2 5] (.ret))
def rs:List RV:=[.t 2]
attribute [push_cast] nd body
theorem ok:B9 prog LK nd body 1 rs=true:=by kernel_rfl
end NP
namespace CN
def nd:Nat->C
 | 0=>.R [.mv 2 (.i 0)] (.ret)
 | 1=>.gh [.ks 0 [20,21,22]] (.m 3)
 | 2=>.seq (.blk 1 (.R [.G 24 6 20 22,.E 25 6 24,.al 7 BS [.str [],.bool false,.sl 3 [],.str [],.bool false,.sl 3 []],.L 7 6 25] (.R [.D 26 0 7,.D 27 1 26,.B 28 27,.A 29 28,.P 29 false [30,31,32,33,34,35] [.D 30 3 7,.E 31 3 30,.D 32 0 7,.E 33 3 32,.U 34 NO [.s 31,.s 33],.Q 35 34],.M 36 29 35] (.W 36 (.R [.mv 2 (.i 7)] (.ret)) (.skip))))) (.reg [.X 37 .add 22 1,.A 22 37])
 | 3=>.R [.V 23 .lss 22 21] (.seq (.W 23 (.skip) (.exit 0)) (.n 2))
 | 4=>.seq (.R [.A 20 0,.Y 21 20,.mv 22 (.i 0)] (.J 0 1)) (.n 0)
 | 5=>.seq (.R [.A 14 0,.U 15 MV [.s 14],.A 13 15,.F 16 13 0,.F 17 13 1,.A 4 16,.A 5 17] (.R [.A 18 5,.Q 19 18] (.W 19 (.R [.mv 2 (.i 6)] (.ret)) (.skip)))) (.n 4)
 | _=>.skip
def body:C:=.R [.mv 2 (.i 0)] (.seq (.R [.A 8 0,.U 9 Qa [.s 8],.A 3 9] (.R [.A 10 3,.J 11 10] (.W 11 (.R [.A 12 3,.A 2 12] (.ret)) (.skip)))) (.n 5))
def rs:List RV:=[.t 2]
attribute [push_cast] nd body
theorem ok:B9 prog Ek nd body 1 rs=true:=by kernel_rfl
abbrev L3 (a b c:V)(B:Nat)(H:Dh)(Q:QX):Prop:=AB prog nd B (DW 3 1 0 0) [(20,a),(21,b),(22,c)] H Q
end CN
namespace CX
def nd:Nat->C
 | 0=>.R [.A 80 4,.A 2 80,.mv 3 (.i 0)] (.ret)
 | 1=>.seq (.R [.A 77 4,.Y 78 77,.X 79 .gtr 78 4096] (.W 79 (.R [.mv 2 (.c (.sl 12 [])),.mv 3 (.i 3)] (.ret)) (.skip))) (.n 0)
 | 2=>.gh [.ks 1 [0,4,15,16]] (.m 12)
 | 3=>.gh [.ks 1 [0,4,5,15,16,24,25,26]] (.m 10)
 | 4=>.gh [.ks 2 [0,4,5,7,8,15,16,24,25,26,41,42]] (.m 8)
 | 5=>.R [.A 69 12] (.W 69 (.reg [.A 70 4,.E 71 12 11,.bs 72 12 [.s 71],.app 73 DO 12 184 (.s 70) (.s 72),.A 4 73]) (.skip))
 | 6=>.R [.A 58 0,.A 59 5,.A 60 10,.A 61 7,.U 62 Xv [.s 58,.s 59,.s 60,.s 61],.A 57 62,.F 63 57 0,.F 64 57 1,.F 65 57 2,.al 11 DO [.int .i64 0,.int .i64 0,.sl 1 [],.str [],.bool false,.sl 3 [],.str [],.bool false,.sl 3 [],.str [],.bool false,.sl 3 []],.L 11 12 63,.A 12 64,.A 13 65] (.seq (.R [.A 66 13,.J 67 66] (.W 67 (.R [.A 68 13,.mv 2 (.c (.sl 12 [])),.A 3 68] (.ret)) (.skip))) (.n 5))
 | 7=>.seq (.blk 5 (.R [.A 44 42,.A 10 44] (.seq (.R [.D 45 1 8,.B 46 45,.A 47 46,.P 47 false [48,49,50,51] [.A 48 5,.A 49 10,.V 50 .eql 48 49,.A 51 50],.P 51 true [52,53,54] [.A 52 7,.Y 53 52,.X 54 .eql 53 0],.P 47 false [55] [.N 55 51 54],.M 56 47 55] (.W 56 (.exit 5) (.skip))) (.n 6)))) (.reg [.X 74 .add 42 1,.A 42 74])
 | 8=>.R [.V 43 .lss 42 41] (.seq (.W 43 (.skip) (.exit 4)) (.n 7))
 | 9=>.seq (.blk 3 (.R [.G 28 1 24 26,.B 29 28,.A 7 29] (.R [.A 31 0,.A 32 5,.G 33 6 31 32,.D 34 0 33,.E 35 3 34,.A 36 7,.U 37 T0 [.s 35,.s 36],.A 30 37,.F 38 30 0,.F 39 30 1,.al 8 A3 CM,.L 8 3 38,.A 9 39] (.R [.A 40 0,.Y 41 40,.mv 42 (.i 0)] (.J 4 4))))) (.reg [.X 75 .add 26 1,.A 26 75])
 | 10=>.R [.V 27 .lss 26 25] (.seq (.W 27 (.skip) (.exit 2)) (.n 9))
 | 11=>.seq (.blk 1 (.R [.A 18 16,.A 5 18] (.R [.A 19 0,.A 20 5,.G 21 6 19 20,.D 22 0 21,.E 23 3 22,.U 24 Hg [.s 23],.Y 25 24,.mv 26 (.i 0)] (.J 2 3)))) (.reg [.X 76 .add 16 1,.A 16 76])
 | 12=>.R [.V 17 .lss 16 15] (.seq (.W 17 (.skip) (.exit 0)) (.n 11))
 | _=>.skip
def body:C:=.R [.mv 2 (.c (.sl 12 [])),.mv 3 (.i 0)] (.R [.mv 4 (.c .nil),.non 4 DO 12] (.seq (.R [.A 14 0,.Y 15 14,.mv 16 (.i 0)] (.J 0 2)) (.n 1)))
def rs:List RV:=[.t 2,.t 3]
attribute [push_cast] nd body
theorem ok:B9 prog RY nd body 1 rs=true:=by kernel_rfl
abbrev L8 (a b c d e f g h i j k l:V)(B:Nat)(H:Dh)(Q:QX):Prop:=AB prog nd B [.c (.m 8),.c (.loop (.n 4)),.mk 4,.mk 3,.c (.reg [.X 75 .add 26 1,.A 26 75]),.c (.loop (.n 3)),.mk 2,.mk 1,.c (.reg [.X 76 .add 16 1,.A 16 76]),.c (.loop (.n 2)),.mk 0,.c (.n 1)] [(0,a),(4,b),(5,c),(7,d),(8,e),(15,f),(16,g),(24,h),(25,i),(26,j),(41,k),(42,l)] H Q
abbrev L10 (a b c d e f g h:V)(B:Nat)(H:Dh)(Q:QX):Prop:=AB prog nd B [.c (.m 10),.c (.loop (.n 3)),.mk 2,.mk 1,.c (.reg [.X 76 .add 16 1,.A 16 76]),.c (.loop (.n 2)),.mk 0,.c (.n 1)] [(0,a),(4,b),(5,c),(15,d),(16,e),(24,f),(25,g),(26,h)] H Q
abbrev L12 (a b c d:V)(B:Nat)(H:Dh)(Q:QX):Prop:=AB prog nd B (DW 12 2 0 1) [(0,a),(4,b),(15,c),(16,d)] H Q
end CX
namespace EI
def nd:Nat->C
 | 0=>.R [.mv 2 (.c (.bool true))] (.ret)
 | 1=>.gh [.ks 0 [5,6,7]] (.m 3)
 | 2=>.seq (.blk 1 (.R [.G 9 6 5 7,.E 10 6 9,.al 4 BS [.str [],.bool false,.sl 3 [],.str [],.bool false,.sl 3 []],.L 4 6 10] (.R [.D 11 0 4,.E 12 3 11,.U 13 OB [.s 12],.Q 14 13] (.W 14 (.R [.mv 2 (.c (.bool false))] (.ret)) (.skip))))) (.reg [.X 15 .add 7 1,.A 7 15])
 | 3=>.R [.V 8 .lss 7 6] (.seq (.W 8 (.skip) (.exit 0)) (.n 2))
 | _=>.skip
def body:C:=.R [.mv 2 (.c (.bool false))] (.seq (.R [.A 5 0,.Y 6 5,.mv 7 (.i 0)] (.J 0 1)) (.n 0))
def rs:List RV:=[.t 2]
attribute [push_cast] nd body
theorem ok:B9 prog Jt nd body 1 rs=true:=by kernel_rfl
abbrev L3 (a b c:V)(B:Nat)(H:Dh)(Q:QX):Prop:=AB prog nd B (DW 3 1 0 0) [(5,a),(6,b),(7,c)] H Q
end EI
namespace Ju
def nd:Nat->C
 | 0=>.R [.A 54 11,.A 55 12,.X 56 .add 55 1,.A 8 54,.A 9 56] (.ret)
 | 1=>.gh [.ks 0 [1,2,3,11,12,32,33,34]] (.m 3)
 | 2=>.seq (.blk 1 (.R [.G 36 3 32 34,.E 37 3 36,.al 14 A3 CM,.L 14 3 37] (.R [.E 39 3 14,.A 40 1,.A 41 2,.A 42 3,.U 43 KG [.s 39,.s 40,.s 41,.s 42],.A 38 43,.F 44 38 0,.F 45 38 1,.A 15 44,.A 16 45] (.R [.A 46 11,.A 47 15,.V 48 .add 46 47,.mn 49 (.i 1099511627776) (.s 48),.A 11 49] (.reg [.A 50 12,.A 51 16,.mx 52 (.s 50) (.s 51),.A 12 52]))))) (.reg [.X 53 .add 34 1,.A 34 53])
 | 3=>.R [.V 35 .lss 34 33] (.seq (.W 35 (.skip) (.exit 0)) (.n 2))
 | 4=>.R [.mv 11 (.i 1),.mv 12 (.i 0)] (.seq (.R [.D 31 2 4,.B 32 31,.Y 33 32,.mv 34 (.i 0)] (.J 0 1)) (.n 0))
 | _=>.skip
def body:C:=.R [.Z 4 A3 0,.mv 8 (.i 0),.mv 9 (.i 0)] (.seq (.R [.D 17 1 4,.B 18 17] (.W 18 (.R [.A 19 1,.D 20 0 4,.B 21 20,.U 22 MI [.s 19,.s 21],.A 10 22] (.seq (.dr [0,1,2,3,4,5,6,7,8,9] [.A 23 2,.A 24 10,.G 25 1 23 24,.B 26 25,.A 27 3,.A 28 10,.G 29 1 27 28,.B 30 29,.A 8 26,.A 9 30]) (.ret))) (.skip))) (.n 4))
def rs:List RV:=[.t 8,.t 9]
attribute [push_cast] nd body
theorem ok:B9 prog KG nd body 4 rs=true:=by kernel_rfl
abbrev L3 (a b c d e f g h:V)(B:Nat)(H:Dh)(Q:QX):Prop:=AB prog nd B (DW 3 1 0 0) [(1,a),(2,b),(3,c),(11,d),(12,e),(32,f),(33,g),(34,h)] H Q
end Ju
namespace XY
def nd:Nat->C
 | 0=>.R [.D 8 0 2,.E 9 3 8,.K 3 4 9] (.ret)
 | _=>.skip
def body:C:=.R [.Z 2 BS 0,.al 4 A3 CM] (.seq (.R [.A 5 1] (.W 5 (.R [.D 6 3 2,.E 7 3 6,.K 3 4 7] (.ret)) (.skip))) (.n 0))
def rs:List RV:=[.a 4 3]
attribute [push_cast] nd body
theorem ok:B9 prog On nd body 2 rs=true:=by kernel_rfl
end XY
namespace Nv
def nd:Nat->C
 | 0=>.R [.E 33 3 5,.K 3 4 33] (.ret)
 | 1=>.gh [.ks 3 [0,4,5,18,19,20]] (.m 3)
 | 2=>.seq (.blk 1 (.R [.G 22 3 18 20,.E 23 3 22,.al 7 A3 CM,.L 7 3 23] (.dr [0,1,2,3,4,5,6,7,8] [.D 24 2 5,.B 25 24,.A 26 0,.E 27 3 7,.U 28 CP [.s 26,.s 27],.bs 29 3 [.s 28],.app 30 A3 3 48 (.s 25) (.s 29),.D 31 2 5,.K 1 31 30]))) (.reg [.X 32 .add 20 1,.A 20 32])
 | 3=>.R [.V 21 .lss 20 19] (.seq (.W 21 (.skip) (.exit 0)) (.n 2))
 | 4=>.R [.D 14 0 3,.B 15 14,.bd 16 [.str [],.bool false,.nil] [(0,1,(.s 15))],.al 5 A3 [.str [],.bool false,.nil],.K 3 5 16,.ono A3 3 2 (.s 5)] (.seq (.R [.D 17 2 3,.B 18 17,.Y 19 18,.mv 20 (.i 0)] (.J 0 1)) (.n 0))
 | _=>.skip
def body:C:=.R [.Z 3 A3 1,.al 4 A3 CM] (.seq (.R [.D 8 1 3,.B 9 8] (.W 9 (.R [.A 10 0,.D 11 0 3,.B 12 11,.U 13 HR [.s 10,.s 12],.K 3 4 13] (.ret)) (.skip))) (.n 4))
def rs:List RV:=[.a 4 3]
attribute [push_cast] nd body
theorem ok:B9 prog CP nd body 2 rs=true:=by kernel_rfl
abbrev L3 (a b c d e f:V)(B:Nat)(H:Dh)(Q:QX):Prop:=AB prog nd B (DW 3 1 0 0) [(0,a),(4,b),(5,c),(18,d),(19,e),(20,f)] H Q
end Nv
namespace FY
def nd:Nat->C
 | 0=>.R [.A 11 0,.bin 12 .neq (.s 11) (.c (.str [])),.A 13 12,.P 13 true [14,15,16,17] [.A 14 0,.s2b 15 (.s 14),.U 16 BL [.s 15,(.f Hm)],.Q 17 16],.N 18 13 17,.A 4 18] (.ret)
 | 1=>.seq (.R [.A 8 1] (.W 8 (.reg [.A 9 0,.U 10 Gc [.s 9,(.c (.str [35]))],.A 0 10]) (.skip))) (.n 0)
 | _=>.skip
def body:C:=.R [.mv 4 (.c (.bool false))] (.seq (.R [.A 5 0,.lens 6 (.s 5),.X 7 .gtr 6 24] (.W 7 (.R [.mv 4 (.c (.bool false))] (.ret)) (.skip))) (.n 1))
def rs:List RV:=[.t 4]
attribute [push_cast] nd body
theorem ok:B9 prog DF nd body 2 rs=true:=by kernel_rfl
end FY
namespace CT
def nd (_:Nat):C:=.skip
def body:C:=.R [.mv 4 (.c (.bool false))] (.R [.A 5 0,.A 6 1,.U 7 Bb [.s 5,.s 6],.X 8 .geq 7 0,.A 4 8] (.ret))
def rs:List RV:=[.t 4]
attribute [push_cast] nd body
theorem ok:B9 prog AN nd body 2 rs=true:=by kernel_rfl
end CT
namespace N8
def nd (_:Nat):C:=.skip
def body:C:=.R [.Z 1 A3 0,.mv 2 (.c (.bool false))] (.R [.E 3 3 1,.U 4 JP [.s 3],.Q 5 4,.A 2 5] (.ret))
def rs:List RV:=[.t 2]
attribute [push_cast] nd body
theorem ok:B9 prog Kh nd body 1 rs=true:=by kernel_rfl
end N8
namespace Qv
def nd:Nat->C
 | 0=>.R [.A 18 3,.A 2 18] (.ret)
 | 1=>.gh [.ks 0 [3,7,8,9]] (.m 3)
 | 2=>.seq (.blk 1 (.R [.G 11 3 7 9,.E 12 3 11,.al 5 A3 CM,.L 5 3 12] (.reg [.A 13 3,.E 14 3 5,.U 15 K5 [.s 14],.V 16 .add 13 15,.A 3 16]))) (.reg [.X 17 .add 9 1,.A 9 17])
 | 3=>.R [.V 10 .lss 9 8] (.seq (.W 10 (.skip) (.exit 0)) (.n 2))
 | _=>.skip
def body:C:=.R [.Z 1 A3 0,.mv 2 (.i 0)] (.R [.mv 3 (.i 1)] (.seq (.R [.D 6 2 1,.B 7 6,.Y 8 7,.mv 9 (.i 0)] (.J 0 1)) (.n 0)))
def rs:List RV:=[.t 2]
attribute [push_cast] nd body
theorem ok:B9 prog K5 nd body 1 rs=true:=by kernel_rfl
abbrev L3 (a b c d:V)(B:Nat)(H:Dh)(Q:QX):Prop:=AB prog nd B (DW 3 1 0 0) [(3,a),(7,b),(8,c),(9,d)] H Q
end Qv
namespace O4
def nd:Nat->C
 | 0=>.R [.A 18 3,.X 19 .add 18 1,.A 2 19] (.ret)
 | 1=>.gh [.ks 0 [3,7,8,9]] (.m 3)
 | 2=>.seq (.blk 1 (.R [.G 11 3 7 9,.E 12 3 11,.al 5 A3 CM,.L 5 3 12] (.reg [.A 13 3,.E 14 3 5,.U 15 IR [.s 14],.mx 16 (.s 13) (.s 15),.A 3 16]))) (.reg [.X 17 .add 9 1,.A 9 17])
 | 3=>.R [.V 10 .lss 9 8] (.seq (.W 10 (.skip) (.exit 0)) (.n 2))
 | _=>.skip
def body:C:=.R [.Z 1 A3 0,.mv 2 (.i 0)] (.R [.mv 3 (.i 0)] (.seq (.R [.D 6 2 1,.B 7 6,.Y 8 7,.mv 9 (.i 0)] (.J 0 1)) (.n 0)))
def rs:List RV:=[.t 2]
attribute [push_cast] nd body
theorem ok:B9 prog IR nd body 1 rs=true:=by kernel_rfl
abbrev L3 (a b c d:V)(B:Nat)(H:Dh)(Q:QX):Prop:=AB prog nd B (DW 3 1 0 0) [(3,a),(7,b),(8,c),(9,d)] H Q
end O4
namespace Vz
def nd (_:Nat):C:=.skip
def body:C:=.reg [.E 3 3 1,.A 4 0,.call (some 5) Gg [.s 3,(.c (.sl 1 [])),.s 4]]
def rs:List RV:=[]
attribute [push_cast] nd body
theorem ok:B9 prog Dd nd body 2 rs=true:=by kernel_rfl
end Vz
namespace UL
def nd:Nat->C
 | 0=>.R [.mv 6 (.c (.bool true))] (.ret)
 | 1=>.gh [.ks 0 [1,2,15,16,17]] (.m 3)
 | 2=>.seq (.blk 1 (.R [.A 19 17,.G 20 3 15 17,.E 21 3 20,.al 8 A3 CM,.A 7 19,.L 8 3 21] (.seq (.dr [1,3,4,6] [.A 23 1,.A 25 7,.bs 26 1 [.s 25],.A 28 2,.alt [([0,2,5,7,8],[.E 22 3 8,.call (some 24) BQ [.s 23],.app 27 EN 1 8 (.s 24) (.s 26),.call (some 29) Gg [.s 22,.s 27,.s 28],.Q 30 29]),([2,0,5,7,8],[.call (some 24) BQ [.s 23],.E 22 3 8,.app 27 EN 1 8 (.s 24) (.s 26),.call (some 29) Gg [.s 22,.s 27,.s 28],.Q 30 29])]]) (.W 30 (.R [.mv 6 (.c (.bool false))] (.ret)) (.skip))))) (.reg [.X 31 .add 17 1,.A 17 31])
 | 3=>.R [.V 18 .lss 17 16] (.seq (.W 18 (.skip) (.exit 0)) (.n 2))
 | 4=>.seq (.R [.D 14 2 3,.B 15 14,.Y 16 15,.mv 17 (.i 0)] (.J 0 1)) (.n 0)
 | _=>.skip
def body:C:=.R [.Z 3 A3 0,.mv 6 (.c (.bool false))] (.seq (.R [.A 9 2,.A 10 1,.E 11 3 3,.callv (some 12) (.s 9) [.s 10,.s 11],.Q 13 12] (.W 13 (.R [.mv 6 (.c (.bool false))] (.ret)) (.skip))) (.n 4))
def rs:List RV:=[.t 6]
attribute [push_cast] nd body
theorem ok:B9 prog Gg nd body 3 rs=true:=by kernel_rfl
abbrev L3 (a b c d e:V)(B:Nat)(H:Dh)(Q:QX):Prop:=AB prog nd B (DW 3 1 0 0) [(1,a),(2,b),(15,c),(16,d),(17,e)] H Q
end UL
namespace CD
def nd:Nat->C
 | 0=>.R [.bo 5 EN 1 [],.A 6 0,.app 7 EN 1 8 (.s 5) (.s 6),.A 2 7] (.ret)
 | _=>.skip
def body:C:=.R [.mv 2 (.c .nil),.non 2 EN 1] (.seq (.R [.A 3 0,.nl 4 false (.s 3)] (.W 4 (.R [.mv 2 (.c .nil),.non 2 EN 1] (.ret)) (.skip))) (.n 0))
def rs:List RV:=[.t 2]
attribute [push_cast] nd body
theorem ok:B9 prog BQ nd body 1 rs=true:=by kernel_rfl
end CD
namespace F8
def nd:Nat->C
 | 0=>.R [.A 18 0,.bin 19 .neq (.s 18) (.c (.str [])),.A 20 19,.P 20 true [21,22] [.A 21 0,.U 22 JF [.s 21]],.N 23 20 22,.A 4 23] (.ret)
 | 1=>.seq (.R [.A 8 1,.A 9 8,.P 9 true [10,11] [.A 10 0,.U 11 KK [.s 10]],.N 12 9 11] (.W 12 (.reg [.A 13 0,.A 14 0,.lens 15 (.s 14),.X 16 .sub 15 1,.sxs 17 (.s 13) none (some (.s 16)),.A 0 17]) (.skip))) (.n 0)
 | _=>.skip
def body:C:=.R [.mv 4 (.c (.bool false))] (.seq (.R [.A 5 0,.lens 6 (.s 5),.X 7 .gtr 6 24] (.W 7 (.R [.mv 4 (.c (.bool false))] (.ret)) (.skip))) (.n 1))
def rs:List RV:=[.t 4]
attribute [push_cast] nd body
theorem ok:B9 prog Ee nd body 2 rs=true:=by kernel_rfl
end F8
namespace Eu
def nd:Nat->C
 | 0=>.R [.A 34 3,.A 2 34] (.ret)
 | 1=>.gh [.ks 1 [3,11,12,13]] (.m 6)
 | 2=>.gh [.ks 2 [3,4,11,12,13,19,20,21]] (.m 4)
 | 3=>.seq (.blk 3 (.R [.G 23 1 19 21,.B 24 23,.A 7 24] (.reg [.A 25 3,.A 26 4,.bo 27 EN 1 [.s 26],.A 28 7,.app 29 EN 1 8 (.s 27) (.s 28),.bs 30 1 [.s 29],.app 31 Wb 1 24 (.s 25) (.s 30),.A 3 31]))) (.reg [.X 32 .add 21 1,.A 21 32])
 | 4=>.R [.V 22 .lss 21 20] (.seq (.W 22 (.skip) (.exit 2)) (.n 3))
 | 5=>.seq (.blk 1 (.R [.A 15 13,.G 16 3 11 13,.E 17 3 16,.al 5 A3 CM,.A 4 15,.L 5 3 17] (.R [.E 18 3 5,.U 19 Hg [.s 18],.Y 20 19,.mv 21 (.i 0)] (.J 2 2)))) (.reg [.X 33 .add 13 1,.A 13 33])
 | 6=>.R [.V 14 .lss 13 12] (.seq (.W 14 (.skip) (.exit 0)) (.n 5))
 | _=>.skip
def body:C:=.R [.Z 1 A3 0,.mv 2 (.c (.sl 1 []))] (.R [.bs 8 1 [],.bo 9 Wb 1 [.s 8],.A 3 9] (.seq (.R [.D 10 2 1,.B 11 10,.Y 12 11,.mv 13 (.i 0)] (.J 0 1)) (.n 0)))
def rs:List RV:=[.t 2]
attribute [push_cast] nd body
theorem ok:B9 prog Hg nd body 1 rs=true:=by kernel_rfl
abbrev L4 (a b c d e f g h:V)(B:Nat)(H:Dh)(Q:QX):Prop:=AB prog nd B [.c (.m 4),.c (.loop (.n 2)),.mk 2,.mk 1,.c (.reg [.X 33 .add 13 1,.A 13 33]),.c (.loop (.n 1)),.mk 0,.c (.n 0)] [(3,a),(4,b),(11,c),(12,d),(13,e),(19,f),(20,g),(21,h)] H Q
abbrev L6 (a b c d:V)(B:Nat)(H:Dh)(Q:QX):Prop:=AB prog nd B (DW 6 1 0 0) [(3,a),(11,b),(12,c),(13,d)] H Q
end Eu
namespace UE
def nd:Nat->C
 | 0=>.R [.E 30 3 2,.K 3 4 30,.mv 5 (.c (.bool true))] (.ret)
 | 1=>.gh [.ks 2 [2,4,8,9,10]] (.m 3)
 | 2=>.seq (.blk 1 (.R [.G 12 1 8 10,.B 13 12,.A 7 13] (.seq (.R [.A 14 7,.X 15 .lss 14 0,.A 16 15,.P 16 false [17,18,19,20,21] [.A 17 7,.D 18 2 2,.B 19 18,.Y 20 19,.V 21 .geq 17 20],.M 22 16 21] (.W 22 (.R [.bd 23 CM [],.K 3 4 23,.mv 5 (.c (.bool false))] (.ret)) (.skip))) (.reg [.D 24 2 2,.B 25 24,.A 26 7,.G 27 3 25 26,.E 28 3 27,.K 3 2 28])))) (.reg [.X 29 .add 10 1,.A 10 29])
 | 3=>.R [.V 11 .lss 10 9] (.seq (.W 11 (.skip) (.exit 0)) (.n 2))
 | _=>.skip
def body:C:=.R [.bx 2 A3 (.s 0),.al 4 A3 CM,.mv 5 (.c (.bool false))] (.seq (.R [.A 8 1,.Y 9 8,.mv 10 (.i 0)] (.J 0 1)) (.n 0))
def rs:List RV:=[.a 4 3,.t 5]
attribute [push_cast] nd body
theorem ok:B9 prog T0 nd body 2 rs=true:=by kernel_rfl
abbrev L3 (a b c d e:V)(B:Nat)(H:Dh)(Q:QX):Prop:=AB prog nd B (DW 3 1 0 0) [(2,a),(4,b),(8,c),(9,d),(10,e)] H Q
end UE
namespace Ea
def nd:Nat->C
 | 0=>.R [.mv 2 (.i 0)] (.ret)
 | 1=>.gh [.ks 0 [9,10,11]] (.m 3)
 | 2=>.seq (.blk 1 (.R [.G 13 6 9 11,.E 14 6 13,.al 4 BS [.str [],.bool false,.sl 3 [],.str [],.bool false,.sl 3 []],.L 4 6 14] (.R [.D 15 0 4,.E 16 3 15,.D 17 3 4,.E 18 3 17,.bs 19 3 [.s 16,.s 18],.U 20 Sd [.s 19],.A 5 20] (.R [.A 21 5,.J 22 21] (.W 22 (.R [.A 23 5,.A 2 23] (.ret)) (.skip)))))) (.reg [.X 24 .add 11 1,.A 11 24])
 | 3=>.R [.V 12 .lss 11 10] (.seq (.W 12 (.skip) (.exit 0)) (.n 2))
 | 4=>.seq (.R [.A 9 0,.Y 10 9,.mv 11 (.i 0)] (.J 0 1)) (.n 0)
 | _=>.skip
def body:C:=.R [.mv 2 (.i 0)] (.seq (.R [.A 6 0,.Y 7 6,.X 8 .gtr 7 64] (.W 8 (.R [.mv 2 (.i 3)] (.ret)) (.skip))) (.n 4))
def rs:List RV:=[.t 2]
attribute [push_cast] nd body
theorem ok:B9 prog Ip nd body 1 rs=true:=by kernel_rfl
abbrev L3 (a b c:V)(B:Nat)(H:Dh)(Q:QX):Prop:=AB prog nd B (DW 3 1 0 0) [(9,a),(10,b),(11,c)] H Q
end Ea
namespace Eg
def nd:Nat->C
 | 0=>.R [.B 57 4,.K 1 2 57,.st 1 (.s 3) (.c (.bool true))] (.ret)
 | 1=>.gh [.ks 4 [2,3,4,10,14,15,16]] (.m 8)
 | 2=>.gh [.ks 5 [2,3,4,10,14,15,16,24,25]] (.m 6)
 | 3=>.seq (.R [.B 35 4,.D 36 0 10,.B 37 36,.lkp 38 true true (.int .i64 0) (.s 35) (.s 37),.A 34 38,.F 39 34 0,.F 40 34 1,.A 11 39,.A 12 40] (.R [.A 41 12,.A 42 41,.P 42 true [43,44,45,46,47] [.A 43 11,.D 44 2 10,.B 45 44,.Y 46 45,.V 47 .neq 43 46],.N 48 42 47] (.W 48 (.R [.st 1 (.s 2) (.c .nilm),.st 1 (.s 3) (.c (.bool false))] (.ret)) (.skip)))) (.reg [.B 49 4,.D 50 0 10,.B 51 50,.D 52 2 10,.B 53 52,.Y 54 53,.mup true (.s 49) (.s 51) (.s 54)])
 | 4=>.blk 5 (.seq (.R [.D 32 1 10,.B 33 32] (.W 33 (.exit 5) (.skip))) (.n 3))
 | 5=>.seq (.blk 3 (.R [.ixa 27 3 2 (some 3) (.s 24) (.s 25),.al 8 A3 CM,.L 8 3 27] (.R [.E 28 3 8,.U 29 HS [.s 28]] (.blk 4 (.rf (.s 29) [30,31] (.reg [.al 10 A3 CM,.L 10 3 31]) (.m 4)))))) (.reg [.X 55 .add 25 1,.A 25 55])
 | 6=>.R [.X 26 .lss 25 2] (.seq (.W 26 (.skip) (.exit 2)) (.n 5))
 | 7=>.seq (.blk 1 (.R [.G 18 6 14 16,.E 19 6 18,.al 6 BS [.str [],.bool false,.sl 3 [],.str [],.bool false,.sl 3 []],.L 6 6 19] (.R [.D 20 0 6,.E 21 3 20,.D 22 3 6,.E 23 3 22,.bd 24 [.str [],.bool false,.sl 3 [],.str [],.bool false,.sl 3 []] [(0,3,(.s 21)),(3,3,(.s 23))],.mv 25 (.i 0)] (.J 2 2)))) (.reg [.X 56 .add 16 1,.A 16 56])
 | 8=>.R [.V 17 .lss 16 15] (.seq (.W 17 (.skip) (.exit 0)) (.n 7))
 | _=>.skip
def body:C:=.R [.al 2 Ih [.nilm],.al 3 jg [.bool false]] (.R [.mkm 13,.al 4 Ih [.nilm],.K 1 4 13] (.seq (.R [.A 14 0,.Y 15 14,.mv 16 (.i 0)] (.J 0 1)) (.n 0)))
def rs:List RV:=[.c 2,.c 3]
attribute [push_cast] nd body
theorem ok:B9 prog Is nd body 1 rs=true:=by kernel_rfl
abbrev L6 (a b c d e f g h i:V)(B:Nat)(H:Dh)(Q:QX):Prop:=AB prog nd B [.c (.m 6),.c (.loop (.n 2)),.mk 2,.mk 1,.c (.reg [.X 56 .add 16 1,.A 16 56]),.c (.loop (.n 1)),.mk 0,.c (.n 0)] [(2,a),(3,b),(4,c),(10,d),(14,e),(15,f),(16,g),(24,h),(25,i)] H Q
abbrev L8 (a b c d e f g:V)(B:Nat)(H:Dh)(Q:QX):Prop:=AB prog nd B (DW 8 1 0 0) [(2,a),(3,b),(4,c),(10,d),(14,e),(15,f),(16,g)] H Q
end Eg
namespace PG
def nd (_:Nat):C:=.skip
def body:C:=.R [.mv 2 (.c (.bool false))] (.R [.A 3 0,.U 4 GN [.s 3,(.c (.str [35]))],.A 2 4] (.ret))
def rs:List RV:=[.t 2]
attribute [push_cast] nd body
theorem ok:B9 prog MK nd body 1 rs=true:=by kernel_rfl
end PG
namespace CR
def nd (_:Nat):C:=.skip
def body:C:=.R [.mv 4 (.c (.bool false))] (.R [.A 5 0,.A 6 1,.U 7 D3 [.s 5,.s 6],.X 8 .geq 7 0,.A 4 8] (.ret))
def rs:List RV:=[.t 4]
attribute [push_cast] nd body
theorem ok:B9 prog BK nd body 2 rs=true:=by kernel_rfl
end CR
namespace O7
def nd (_:Nat):C:=.skip
def body:C:=.R [.Z 1 BS 0,.mv 2 (.c (.bool false))] (.R [.D 4 0 1,.E 5 3 4,.bs 6 3 [.s 5],.U 7 Dc [.s 6],.al 3 Xz [.sl 1 []],.L 3 1 7] (.R [.D 8 0 1,.D 9 1 8,.B 10 9,.A 11 10,.P 11 false [12,13,14,15,16,17] [.D 12 3 1,.E 13 3 12,.bs 14 3 [.s 13],.U 15 Dc [.s 14],.mf 16 Qe [] [.s 3],.U 17 Bm [.s 15,.s 16]],.M 18 11 17,.A 2 18] (.ret)))
def rs:List RV:=[.t 2]
attribute [push_cast] nd body
theorem ok:B9 prog Kw nd body 1 rs=true:=by kernel_rfl
end O7
namespace Jf
def nd:Nat->C
 | 0=>.R [.mv 4 (.i 0)] (.ret)
 | 1=>.seq (.R [.E 19 4 3,.U 20 Mg [.s 19],.Q 21 20] (.W 21 (.R [.mv 4 (.i 3)] (.ret)) (.skip))) (.n 0)
 | 2=>.seq (.R [.A 15 0,.E 16 4 3,.U 17 KH [.s 15,.s 16],.Q 18 17] (.W 18 (.R [.mv 4 (.i 4)] (.ret)) (.skip))) (.n 1)
 | 3=>.seq (.R [.A 11 0,.E 12 4 3,.U 13 KO [.s 11,.s 12],.Q 14 13] (.W 14 (.R [.mv 4 (.i 8)] (.ret)) (.skip))) (.n 2)
 | _=>.skip
def body:C:=.R [.Z 3 A7 1,.mv 4 (.i 0)] (.seq (.R [.A 6 0,.U 7 Ek [.s 6],.A 5 7] (.R [.A 8 5,.J 9 8] (.W 9 (.R [.A 10 5,.A 4 10] (.ret)) (.skip)))) (.n 3))
def rs:List RV:=[.t 4]
attribute [push_cast] nd body
theorem ok:B9 prog Q5 nd body 2 rs=true:=by kernel_rfl
end Jf
namespace T9
def nd:Nat->C
 | 0=>.R [.A 16 3,.A 2 16] (.ret)
 | 1=>.gh [.ks 0 [3,6,7,8]] (.m 3)
 | 2=>.seq (.blk 1 (.R [.G 10 3 6 8,.E 11 3 10,.al 5 A3 CM,.L 5 3 11] (.reg [.E 12 3 5,.A 13 3,.U 14 JO [.s 12,.s 13],.A 3 14]))) (.reg [.X 15 .add 8 1,.A 8 15])
 | 3=>.R [.V 9 .lss 8 7] (.seq (.W 9 (.skip) (.exit 0)) (.n 2))
 | _=>.skip
def body:C:=.R [.mv 2 (.c (.sl 1 []))] (.R [.mv 3 (.c (.sl 1 []))] (.seq (.R [.A 6 0,.Y 7 6,.mv 8 (.i 0)] (.J 0 1)) (.n 0)))
def rs:List RV:=[.t 2]
attribute [push_cast] nd body
theorem ok:B9 prog M1 nd body 1 rs=true:=by kernel_rfl
abbrev L3 (a b c d:V)(B:Nat)(H:Dh)(Q:QX):Prop:=AB prog nd B (DW 3 1 0 0) [(3,a),(6,b),(7,c),(8,d)] H Q
end T9
end Go.Dw
end
