/-
  Contracts and lemmas for ResidualDivides: part a of 10.
-/
import Derived.Orders
import Derived.AtR
import Derived.Calls
import Derived.Laws.AppendOwn
import Derived.Laws.Build
import Derived.Laws.Strings
import Derived.Laws.Pointers
import Derived.KernelRfl
import Derived.Laws.Slices
set_option linter.unusedVariables false
set_option linter.unusedSimpArgs false
namespace Go.Dw
def zb (P:Program)(l:Nat)(f:Nat)(tmps:Array Value)(assign body:Code)(w:World)(R:Value->World->Prop):Prop :=
 ∀ (c:Frame)(cs:List Frame),∃ v w',R v w'/\Steps P (lone (Frame.round l f tmps assign body .normal) (c::cs) w) (lone (c.finish v) cs w')
def aq (P:Program)(o:Oper)(a:Act)(next:Act->World->Prop):Result Next->Prop
 | .ok (.value v) w'=>next (a.put o.dst v) w'
 | .ok .skip w'=>next (a.put o.dst undef) w'
 | .ok (.enter f args) w'=>Calls P f args w' fun e w''=>∃ v,e=.returned v/\next (a.put o.dst v) w''
 | .ok (.round l f tmps assign body) w'=>zb P l f tmps assign body w' fun v w''=>next (a.put o.dst v) w''
 | _=>False
def cW (P:Program)(o:Oper)(a:Act)(w:World)(next:Act->World->Prop):Prop:=aq P o a next ((execOp a.eval o).run P w)
theorem gS {P:Program}{o:Oper}{a:Act}{r:Result Next}{K K':Act->World->Prop}(h:∀ a w,K a w->K' a w)(hh:aq P o a K r):aq P o a K' r:=by
 cases r with
 | ok n w' =>
  cases n<;>simp only[aq]at hh ⊢
  case value=>exact h _ _ hh
  case skip=>exact h _ _ hh
  case enter=>exact hh.mono fun e w'' ⟨v,h1,h2⟩=>⟨v,h1,h _ _ h2⟩
  case round=>exact fun c cs=>let ⟨v,w',h1,h2⟩:=hh c cs;⟨v,w',h _ _ h1,h2⟩
 | halt x w'=>exact hh.elim
theorem rO {P:Program}{o:Oper}{a:Act}{w:World}{K K':Act->World->Prop}(h:∀ a w,K a w->K' a w)(hh:cW P o a w K):cW P o a w K':=gS h hh
def P6 (P:Program)(ops:Array Oper)(i:Nat)(K:Act->World->Prop)(a:Act)(w:World):Prop :=
 match ops[i]? with
 | none=>K a w
 | some o=>if Region.wanted o (yielded ops a.tmps) then cW P o a w K else K (a.put o.dst undef) w
theorem iy {P:Program}{ops:Array Oper}{i:Nat}{a:Act}{w:World}{K K':Act->World->Prop}(h:∀ a w,K a w->K' a w)(hh:P6 P ops i K a w):P6 P ops i K' a w:=by
 unfold P6 at *
 split
 ·exact h _ _ (by simpa[*]using hh)
 ·rename_i o ho
  simp only[ho]at hh
  split
  ·rename_i hw;simp only[hw,if_true]at hh;exact rO h hh
  ·rename_i hw;simp only[hw]at hh;exact h _ _ hh
def Gf (P:Program)(ops:Array Oper)(K:Act->World->Prop):List Nat->Act->World->Prop
 | [],a,w=>K a w
 | i::rest,a,w=>P6 P ops i (Gf P ops K rest) a w
theorem mB {P:Program}{o:Oper}{a:Act}{w:World}{K:Act->World->Prop}(h:cW P o a w K):∀ c,o.op≠.defer c:=by
 intro c hc
 unfold cW at h
 have:∀ r:Result Deferred,aq P o a K (r.andThen fun d w'=>.ok (.defer d) w')->False:=by
  intro r hr
  cases r with
  | ok d w'=>exact hr
  | halt x w'=>exact hr
 apply this ((resolve a.eval c o.type).run P w)
 have e:(execOp a.eval o).run P w=((resolve a.eval c o.type).run P w).andThen fun d w'=>.ok (.defer d) w':=by
  simp[execOp,hc]
 rw[<-e];exact h
theorem nQ {P:Program}{ops:Array Oper}{i:Nat}{rest:List Nat}{K:Act->World->Prop}{a:Act}{w:World}(h:P6 P ops i K a w)(b:Frame)(k:List Item)(cs:List Frame) :
  ∃ a' w',K a' w'/\Steps P (lone (b.atR a (.inRegion ops (i::rest)::k)) cs w) (lone (b.atR a' (.inRegion ops rest::k)) cs w'):=by
 unfold P6 at h
 cases ho:ops[i]? with
 | none =>
  simp only[ho]at h
  have hs:=stepR_op_skip (P:=P) (b:=b) (a:=a) (k:=k) (cs:=cs) (w:=w) (ops:=ops) (i:=i) (rest:=rest) (by simp[ho])
  simp only[ho,Option.bind_none,Act.put]at hs
  exact⟨a,w,h,.one hs⟩
 | some o =>
  simp only[ho]at h
  by_cases hw:Region.wanted o (yielded ops a.tmps)=true
  ·simp only[hw,if_true]at h
   have hnd:=mB h
   have hg:=stepGR_op (P:=P) (b:=b) (k:=k) (cs:=cs) (w:=w) (rest:=rest) ho hw
   rw[Oper.semAt_eq _ _ _ hnd]at hg
   have hfin:∀ v,(b.atR a (.inRegion ops (i::rest)::k)).finish v=b.atR (a.put o.dst v) (.inRegion ops rest::k):=by
    intro v;rw[Frame.finish_atR,ho];rfl
   unfold cW at h
   cases hr:(execOp a.eval o).run P w with
   | halt x w'=>rw[hr]at h;exact h.elim
   | ok n w' =>
    rw[hr]at h
    cases n<;>simp only[aq]at h
    case value v =>
     refine⟨_,w',h,.one (step_lone_go ?_)⟩
     rw[hg,<-hfin];simp[stepG.apply,hr]
    case skip =>
     refine⟨_,w',h,.one (step_lone_go ?_)⟩
     rw[hg,<-hfin];simp[stepG.apply,hr]
    case enter f args =>
     obtain⟨e,w'',fr,⟨v,rfl,hK⟩,hsteps,_,hleave⟩:=h (b.atR a (.inRegion ops (i::rest)::k)::cs)
     have henter:step P (lone (b.atR a (.inRegion ops (i::rest)::k)) cs w)=.next (lone (Frame.enter P f args .normal) (b.atR a (.inRegion ops (i::rest)::k)::cs) w') :=
      step_lone_go (by rw[hg];simp[stepG.apply,hr,Frame.atR])
     refine⟨_,w'',hK,.head henter (Steps.trans hsteps (.one ?_))⟩
     rw[<-hfin];exact step_leave_returned hleave
    case round l f tmps assign body =>
     obtain⟨v,w'',hK,hsteps⟩:=h (b.atR a (.inRegion ops (i::rest)::k)) cs
     have henter:step P (lone (b.atR a (.inRegion ops (i::rest)::k)) cs w)=.next (lone (Frame.round l f tmps assign body .normal) (b.atR a (.inRegion ops (i::rest)::k)::cs) w') :=
      step_lone_go (by rw[hg];simp[stepG.apply,hr,Frame.atR])
     exact⟨_,w'',hK,.head henter (by rw[<-hfin];exact hsteps)⟩
  ·simp only[hw]at h
   have hs:=stepR_op_skip (P:=P) (b:=b) (a:=a) (k:=k) (cs:=cs) (w:=w) (ops:=ops) (i:=i) (rest:=rest) (by simp[ho];simpa using hw)
   simp only[ho,Option.bind_some]at hs
   exact⟨_,w,h,.one hs⟩
theorem Sa {P:Program}{ops:Array Oper}{K:Act->World->Prop}:∀ (l:List Nat)(a:Act)(w:World),Gf P ops K l a w->∀ (b:Frame)(k:List Item)(cs:List Frame),
  ∃ a' w',K a' w'/\Steps P (lone (b.atR a (.inRegion ops l::k)) cs w) (lone (b.atR a' k) cs w')
 | [],a,w,h,b,k,cs=>⟨a,w,h,.one stepR_region_end⟩
 | i::rest,a,w,h,b,k,cs=>by
  obtain⟨a1,w1,h1,s1⟩:=nQ (rest:=rest) h b k cs
  obtain⟨a2,w2,h2,s2⟩:=Sa rest a1 w1 h1 b k cs
  exact⟨a2,w2,h2,s1.trans s2⟩
def WX (P:Program)(md:Region.Mode)(ops:Array Oper)(K:Act->World->Prop):Nat->Array Bool->Act->World->Prop
 | 0,listed,a,w=>Region.ready md ops listed=[]/\K a w
 | fuel+1,listed,a,w=>(Region.ready md ops listed=[]->K a w)/\∀ i∈Region.ready md ops listed,P6 P ops i (WX P md ops K fuel (listed.setIfInBounds i true)) a w
theorem bJ {P:Program}{md:Region.Mode}{ops:Array Oper}{K:Act->World->Prop}:∀ (fuel t:Nat)(listed:Array Bool)(a:Act)(w:World),WX P md ops K fuel listed a w->Gf P ops K (Region.linearise.go md ops fuel t listed []) a w:=by
 intro fuel
 induction fuel with
 | zero=>intro t listed a w h;simpa[Region.linearise.go,Gf]using h.2
 | succ fuel ih =>
  intro t listed a w h
  obtain⟨h0,h1⟩:=h
  simp only[Region.linearise.go]
  change Gf P ops K (match (Region.ready md ops listed)[t % (Region.ready md ops listed).length]? with
   | some i=>Region.linearise.go md ops fuel (t / (Region.ready md ops listed).length) (listed.setIfInBounds i true) [i]
   | none=>[].reverse) a w
  cases hi:(Region.ready md ops listed)[t % (Region.ready md ops listed).length]? with
  | none =>
   have hnil:Region.ready md ops listed=[]:=by
    cases hr:Region.ready md ops listed with
    | nil=>rfl
    | cons x xs =>
     exfalso
     rw[hr]at hi
     have hlt:t % (x::xs).length<(x::xs).length:=Nat.mod_lt _ (by simp)
     rw[List.getElem?_eq_none_iff]at hi
     omega
   simpa[Gf]using h0 hnil
  | some i =>
   simp only[]
   rw[linearise_go_acc,List.reverse_singleton,List.singleton_append]
   exact iy (fun a w=>ih _ _ a w) (h1 i (List.mem_of_getElem? hi))
theorem cj {P:Program}{id:Nat}{ops:Array Oper}{K:Act->World->Prop}{a:Act}{w:World}(h:Gf P ops K (List.range ops.size) a w)(b:Frame)(k:List Item)(cs:List Frame) :
  ∃ a' w',K a' w'/\Steps P (lone (b.atR a (.code (.region id ops false)::k)) cs w) (lone (b.atR a' k) cs w'):=by
 obtain⟨a',w',h1,h2⟩:=Sa _ a w h b k cs
 exact⟨a',w',h1,.head stepR_region h2⟩
theorem Ts {P:Program}(hm:P.follows .mixedOrders=true){id:Nat}{ops:Array Oper}{K:Act->World->Prop}{a:Act}{w:World}(h:WX P .any ops K ops.size (Array.replicate ops.size false) a { w with drawn:=w.drawn+1 })(b:Frame)(k:List Item)(cs:List Frame) :
  ∃ a' w',K a' w'/\Steps P (lone (b.atR a (.code (.region id ops true)::k)) cs w) (lone (b.atR a' k) cs w'):=by
 have hd:=stepR_region_draw (P:=P) (b:=b) (a:=a) (k:=k) (cs:=cs) (w:=w) (ops:=ops) (id:=id)
 simp only[Region.schedule,hm,Bool.true_or,if_true]at hd
 obtain⟨a',w',h1,h2⟩:=Sa _ a _ (bJ ops.size (w.tape w.drawn (.order b.fn id)) _ a _ h) b k cs
 exact⟨a',w',h1,.head hd h2⟩
def Abu:List (Nat×List Value):=[(1,(List.range 20).map fun i=>Value.int .u64 ((10^i:Nat):Int))]
inductive V where
 | any
 | int (k:IntKind) (n:Int)
 | bool (b:Bool)
 | str (s:List UInt8)
 | agg (cs:List V)
 | tup (vs:List V)
 | nil
 | sl (sz:Nat) (els:List (List V))
 | ro (cs:List V) (off:Nat)
 | nilp
 | nilm
 | nilf
 | fn (f:Fn) (fst caps:List V)
 | own (i sz:Nat) (els:List (List V))
 | ptr (i off:Nat)
 | map (i:Nat)
 | it (i:Nat)
 | rw (i sz n:Nat)
 | rp (i n k off:Nat)
 deriving Inhabited
abbrev T:=List (Nat×V)
def find:T->Nat->Option V
 | [],_=>none
 | (m,v)::t,n=>if m=n then some v else find t n
inductive LS where
 | ready
 | busy
 | done (c:Code)
 deriving Inhabited
def IV (st:LS)(r:Loop):Loop:=match st with
 | .ready=>{ r with state:=.ready,pending:=none }
 | .busy=>{ r with state:=.busy,pending:=none }
 | .done c=>{ r with state:=.done,pending:=some c }
inductive Ob where
 | cells (e:Nat) (cs:List V)
 | arr (e sz n:Nat)
 | map (es:List (V×V))
 | iter (m:Option Nat) (n:Nat) (seen:List Nat)
 | dead
 | row (e sz:Nat) (els:List (List V))
 | lp (l:Nat) (st:LS) (r:Loop) (ts:T)
 deriving Inhabited
def Co:Value->Bool
 | .agg _ | .tuple _=>false
 | _=>true
def Ah:Nat:=140737488355328
def C0:Nat:=9223372036854775807
mutual
def Gv (w:World)(ok:Nat->Nat->Prop):V->Value->Prop
 | .any,_=>True
 | .int k n,v=>v=.int k n
 | .bool b,v=>v=.bool b
 | .str s,v=>v=.string ⟨⟨s⟩⟩
 | .agg cs,v=>∃ vs,v=.agg vs/\MA w ok cs vs.toList/\∀ u∈vs.toList,Co u=true
 | .tup cs,v=>∃ vs,v=.tuple vs/\MA w ok cs vs.toList
 | .nil,v=>v=.slice none 0 0
 | .sl sz els,v=>∃ a c b o,v=.slice a els.length c/\els.length<=c/\c<=C0/\els.length<=Ah/\(els=[]\/a=some ⟨b,o,none⟩)/\Ro w ok b o sz els 0
 | .own ..,_=>False
 | .ro cs off,v=>∃ b o,v=.pointer (some ⟨b,o+off,none⟩)/\Pm w ok b o cs 0
 | .nilp,v=>v=.pointer none
 | .nilm,v=>v=.map none
 | .nilf,v=>v=.nilFunc
 | .fn f a c,v=>∃ va vc,v=.func f va vc/\MA w ok a va.toList/\MA w ok c vc.toList
 | .ptr ..,_=>False
 | .map ..,_=>False
 | .it ..,_=>False
 | .rw ..,_=>False
 | .rp ..,_=>False
def MA (w:World)(ok:Nat->Nat->Prop):List V->List Value->Prop
 | [],vs=>vs=[]
 | x::xs,vs=>∃ v vs',vs=v::vs'/\Gv w ok x v/\MA w ok xs vs'
def Pm (w:World)(ok:Nat->Nat->Prop)(b o:Nat):List V->Nat->Prop
 | [],_=>True
 | x::xs,k=>(∃ v,w.cell? ⟨b,o+k,none⟩=some v/\ok b (o+k)/\Co v=true/\Gv w ok x v)/\Pm w ok b o xs (k+1)
def Ro (w:World)(ok:Nat->Nat->Prop)(b o sz:Nat):List (List V)->Nat->Prop
 | [],_=>True
 | e::es,i=>e.length=sz/\Pm w ok b (o+i*sz) e 0/\Ro w ok b o sz es (i+1)
end
structure Cx where
 w:World
 ok:Nat->Nat->Prop
 ρ:Nat->Option (Nat×Nat)
 H:List Ob
def dw (r:Option (Nat×Nat))(n:Nat)(v:Value):Prop :=
 match r with
 | none=>v=.slice none 0 0
 | some (b,c)=>v=.slice (some ⟨b,0,none⟩) n c
mutual
def BD (c:Cx):V->Value->Prop
 | .agg cs,v=>∃ vs,v=.agg vs/\D2 c cs vs.toList/\∀ u∈vs.toList,Co u=true
 | .tup cs,v=>∃ vs,v=.tuple vs/\D2 c cs vs.toList
 | .fn f a l,v=>∃ va vc,v=.func f va vc/\D2 c a va.toList/\D2 c l vc.toList
 | .own i sz els,v=>Gv c.w c.ok (.sl sz els) v/\i<c.H.length/\∀ e sz' n,c.H[i]?=some (.arr e sz' n)->sz'=sz/\els.length<=n/\(els.length=n->dw (c.ρ i) n v)
 | .ptr i off,v=>i<c.H.length/\(∃ a,v=.pointer a)/\∀ e cs,c.H[i]?=some (.cells e cs)->∃ b k,c.ρ i=some (b,k)/\v=.pointer (some ⟨b,off,none⟩)
 | .map i,v=>i<c.H.length/\(∃ a,v=.map a)/\∀ es,c.H[i]?=some (.map es)->∃ b k,c.ρ i=some (b,k)/\v=.map (some b)
 | .it i,v=>i<c.H.length/\(∃ a,v=.pointer a)/\∀ m n s,c.H[i]?=some (.iter m n s)->∃ b k,c.ρ i=some (b,k)/\v=.pointer (some ⟨b,0,none⟩)
 | .rw i z n,v=>i<c.H.length/\(∃ a k,v=.slice a n k/\n<=Ah/\(n=0\/∃ b o,a=some ⟨b,o,none⟩))/\∀ e sz els,c.H[i]?=some (.row e sz els)->sz=z/\n<=els.length/\(els.length=n->dw (c.ρ i) n v)
 | .rp i n k off,v=>i<c.H.length/\(∃ b o,v=.pointer (some ⟨b,o,none⟩))/\∀ e sz els,c.H[i]?=some (.row e sz els)->n<=els.length/\(els.length=n->∃ b m,c.ρ i=some (b,m)/\v=.pointer (some ⟨b,k*sz+off,none⟩))
 | .any,_=>True
 | .int k n,v=>v=.int k n
 | .bool b,v=>v=.bool b
 | .str s,v=>v=.string ⟨⟨s⟩⟩
 | .nil,v=>v=.slice none 0 0
 | .sl sz els,v=>Gv c.w c.ok (.sl sz els) v
 | .ro cs off,v=>Gv c.w c.ok (.ro cs off) v
 | .nilp,v=>v=.pointer none
 | .nilm,v=>v=.map none
 | .nilf,v=>v=.nilFunc
def D2 (c:Cx):List V->List Value->Prop
 | [],vs=>vs=[]
 | x::xs,vs=>∃ v vs',vs=v::vs'/\BD c x v/\D2 c xs vs'
end
theorem Z1 {w w':World}{ok ok':Nat->Nat->Prop}(hc:∀ b o,ok b o->w'.cell? ⟨b,o,none⟩=w.cell? ⟨b,o,none⟩)(hk:∀ b o,ok b o->ok' b o) :
  (∀ x v,Gv w ok x v->Gv w' ok' x v):=by
 refine fun x=>V.rec (motive_1:=fun x=>∀ v,Gv w ok x v->Gv w' ok' x v)
  (motive_2:=fun xs=>(∀ vs,MA w ok xs vs->MA w' ok' xs vs)/\(∀ b o k,Pm w ok b o xs k->Pm w' ok' b o xs k))
  (motive_3:=fun es=>∀ b o sz i,Ro w ok b o sz es i->Ro w' ok' b o sz es i)
  ?_ ?_ ?_ ?_ ?_ ?_ ?_ ?_ ?_ ?_ ?_ ?_ ?_ ?_ ?_ ?_ ?_ ?_ ?_ ?_ ?_ ?_ ?_ x
 case refine_1=>intro v h;trivial
 case refine_2=>intro k n v h;exact h
 case refine_3=>intro b v h;exact h
 case refine_4=>intro s v h;exact h
 case refine_5=>rintro cs ih v ⟨vs,h1,h2,h3⟩;exact⟨vs,h1,ih.1 _ h2,h3⟩
 case refine_6=>rintro cs ih v ⟨vs,h1,h2⟩;exact⟨vs,h1,ih.1 _ h2⟩
 case refine_7=>intro v h;exact h
 case refine_8=>rintro sz els ih v ⟨a,c,b,o,h1,h2,h3,h4,h5,h6⟩;exact⟨a,c,b,o,h1,h2,h3,h4,h5,ih _ _ _ _ h6⟩
 case refine_9=>rintro cs off ih v ⟨b,o,h1,h2⟩;exact⟨b,o,h1,ih.2 _ _ _ h2⟩
 case refine_10=>intro v h;exact h
 case refine_11=>intro v h;exact h
 case refine_12=>intro v h;exact h
 case refine_13=>rintro f a l iha ihl v ⟨va,vc,h1,h2,h3⟩;exact⟨va,vc,h1,iha.1 _ h2,ihl.1 _ h3⟩
 case refine_14=>intro i sz els _ v h;exact h.elim
 case refine_15=>intro i off v h;exact h.elim
 case refine_16=>intro i v h;exact h.elim
 case refine_17=>intro i v h;exact h.elim
 case refine_18=>intro i z n v h;exact h.elim
 case refine_19=>intro i n k off v h;exact h.elim
 case refine_20=>exact⟨fun vs h=>h,fun _ _ _ _=>trivial⟩
 case refine_21 =>
  intro x xs ih ihs
  refine⟨?_,?_⟩
  ·rintro vs ⟨v,vs',h1,h2,h3⟩;exact⟨v,vs',h1,ih _ h2,ihs.1 _ h3⟩
  ·rintro b o k ⟨⟨v,h1,h2,h3,h4⟩,h5⟩;exact⟨⟨v,(hc _ _ h2).trans h1,hk _ _ h2,h3,ih _ h4⟩,ihs.2 _ _ _ h5⟩
 case refine_22=>intro b o sz i h;trivial
 case refine_23=>rintro e es ih ihs b o sz i ⟨h1,h2,h3⟩;exact⟨h1,ih.2 _ _ _ h2,ihs _ _ _ _ h3⟩
theorem Eb {w w':World}{ok ok':Nat->Nat->Prop}(hc:∀ b o,ok b o->w'.cell? ⟨b,o,none⟩=w.cell? ⟨b,o,none⟩)(hk:∀ b o,ok b o->ok' b o){x:V}{v:Value}(h:Gv w ok x v):Gv w' ok' x v :=
 Z1 hc hk x v h
def CC (o o':Ob)(r r':Option (Nat×Nat)):Prop :=
 match o,o' with
 | .cells e _,.cells e' _=>e=e'/\r'=r
 | .arr e sz n,.arr e' sz' n'=>e=e'/\sz=sz'/\n<=n'/\(n=n'->r'=r)
 | .map _,.map _=>r'=r
 | .iter _ n _,.iter _ n' _=>n=n'/\r'=r
 | .row e sz els,.row e' sz' els'=>e=e'/\sz=sz'/\els.length<=els'.length/\(els.length=els'.length->r'=r)
 | .lp l _ _ _,.lp l' _ _ _=>l=l'/\r'=r
 | _,.dead=>True
 | _,_=>False
def oD (c c':Cx):Prop:=∀ i o,c.H[i]?=some o->∃ o',c'.H[i]?=some o'/\CC o o' (c.ρ i) (c'.ρ i)
theorem oD.lt {c c':Cx}(h:oD c c'){i:Nat}(hi:i<c.H.length):i<c'.H.length:=by
 obtain⟨o',h1,_⟩:=h i _ (List.getElem?_eq_getElem hi)
 exact (List.getElem?_eq_some_iff.1 h1).1
theorem oD.refl (c:Cx):oD c c:=fun i o h=>⟨o,h,by cases o<;>simp[CC]⟩
theorem oD.trans {c c' c'':Cx}(h:oD c c')(h':oD c' c''):oD c c'':=by
 intro i o ho
 obtain⟨o',h1,h2⟩:=h i o ho
 obtain⟨o'',h3,h4⟩:=h' i o' h1
 refine⟨o'',h3,?_⟩
 cases o<;>cases o'<;>cases o''<;>simp only[CC]at h2 h4 ⊢
 ·exact⟨h2.1.trans h4.1,h4.2.trans h2.2⟩
 ·obtain⟨a1,a2,a3,a4⟩:=h2
  obtain⟨b1,b2,b3,b4⟩:=h4
  exact⟨a1.trans b1,a2.trans b2,by omega,fun e=>(b4 (by omega)).trans (a4 (by omega))⟩
 ·exact h4.trans h2
 ·exact⟨h2.1.trans h4.1,h4.2.trans h2.2⟩
 ·obtain⟨a1,a2,a3,a4⟩:=h2
  obtain⟨b1,b2,b3,b4⟩:=h4
  exact⟨a1.trans b1,a2.trans b2,by omega,fun e=>(b4 (by omega)).trans (a4 (by omega))⟩
 ·exact⟨h2.1.trans h4.1,h4.2.trans h2.2⟩
theorem Tv {c c':Cx}(hc:∀ b o,c.ok b o->c'.w.cell? ⟨b,o,none⟩=c.w.cell? ⟨b,o,none⟩)(hk:∀ b o,c.ok b o->c'.ok b o)(he:oD c c') :
  (∀ x v,BD c x v->BD c' x v):=by
 refine fun x=>V.rec (motive_1:=fun x=>∀ v,BD c x v->BD c' x v) (motive_2:=fun xs=>∀ vs,D2 c xs vs->D2 c' xs vs) (motive_3:=fun _=>True)
  ?_ ?_ ?_ ?_ ?_ ?_ ?_ ?_ ?_ ?_ ?_ ?_ ?_ ?_ ?_ ?_ ?_ ?_ ?_ ?_ ?_ ?_ ?_ x
 case refine_1=>intro v h;trivial
 case refine_2=>intro k n v h;exact h
 case refine_3=>intro b v h;exact h
 case refine_4=>intro s v h;exact h
 case refine_5=>rintro cs ih v ⟨vs,h1,h2,h3⟩;exact⟨vs,h1,ih _ h2,h3⟩
 case refine_6=>rintro cs ih v ⟨vs,h1,h2⟩;exact⟨vs,h1,ih _ h2⟩
 case refine_7=>intro v h;exact h
 case refine_8=>intro sz els _ v h;exact Eb hc hk h
 case refine_9=>intro cs off _ v h;exact Eb hc hk h
 case refine_10=>intro v h;exact h
 case refine_11=>intro v h;exact h
 case refine_12=>intro v h;exact h
 case refine_13=>rintro f a l iha ihl v ⟨va,vc,h1,h2,h3⟩;exact⟨va,vc,h1,iha _ h2,ihl _ h3⟩
 case refine_14 =>
  rintro i sz els _ v ⟨h1,h2,h3⟩
  refine⟨Eb hc hk h1,he.lt h2,fun e sz' n hn=>?_⟩
  have h6:=List.getElem?_eq_getElem h2
  obtain⟨o',h4,h5⟩:=he i _ h6
  rw[hn]at h4
  cases h4
  cases ho:c.H[i]with
  | arr e2 sz2 n2 =>
   rw[ho]at h5 h6
   obtain⟨q1,q2,q3,q4⟩:=h5
   obtain⟨p1,p2,p3⟩:=h3 _ _ _ h6
   refine⟨q2.symm.trans p1,by omega,fun hl=>?_⟩
   obtain rfl:n2=n:=by omega
   rw[q4 rfl]
   exact p3 hl
  | cells e cs=>rw[ho]at h5;exact h5.elim
  | map es=>rw[ho]at h5;exact h5.elim
  | iter=>rw[ho]at h5;exact h5.elim
  | dead=>rw[ho]at h5;exact h5.elim
  | row=>rw[ho]at h5;exact h5.elim
  | lp=>rw[ho]at h5;exact h5.elim
 case refine_15 =>
  rintro i off v ⟨h2,hs,h3⟩
  refine⟨he.lt h2,hs,fun e cs hn=>?_⟩
  have h6:=List.getElem?_eq_getElem h2
  obtain⟨o',h4,h5⟩:=he i _ h6
  rw[hn]at h4
  cases h4
  cases ho:c.H[i]with
  | cells e2 cs2 =>
   rw[ho]at h5 h6
   obtain⟨b,k,q1,q2⟩:=h3 _ _ h6
   exact⟨b,k,h5.2.trans q1,q2⟩
  | arr=>rw[ho]at h5;exact h5.elim
  | map es=>rw[ho]at h5;exact h5.elim
  | iter=>rw[ho]at h5;exact h5.elim
  | dead=>rw[ho]at h5;exact h5.elim
  | row=>rw[ho]at h5;exact h5.elim
  | lp=>rw[ho]at h5;exact h5.elim
 case refine_16 =>
  rintro i v ⟨h2,hs,h3⟩
  refine⟨he.lt h2,hs,fun es hn=>?_⟩
  have h6:=List.getElem?_eq_getElem h2
  obtain⟨o',h4,h5⟩:=he i _ h6
  rw[hn]at h4
  cases h4
  cases ho:c.H[i]with
  | map es2 =>
   rw[ho]at h5 h6
   obtain⟨b,k,q1,q2⟩:=h3 _ h6
   exact⟨b,k,Eq.trans h5 q1,q2⟩
  | arr=>rw[ho]at h5;exact h5.elim
  | cells=>rw[ho]at h5;exact h5.elim
  | iter=>rw[ho]at h5;exact h5.elim
  | dead=>rw[ho]at h5;exact h5.elim
  | row=>rw[ho]at h5;exact h5.elim
  | lp=>rw[ho]at h5;exact h5.elim
 case refine_17 =>
  rintro i v ⟨h2,hs,h3⟩
  refine⟨he.lt h2,hs,fun m n s hn=>?_⟩
  have h6:=List.getElem?_eq_getElem h2
  obtain⟨o',h4,h5⟩:=he i _ h6
  rw[hn]at h4
  cases h4
  cases ho:c.H[i]with
  | iter m2 n2 s2 =>
   rw[ho]at h5 h6
   obtain⟨b,k,q1,q2⟩:=h3 _ _ _ h6
   exact⟨b,k,Eq.trans h5.2 q1,q2⟩
  | arr=>rw[ho]at h5;exact h5.elim
  | cells=>rw[ho]at h5;exact h5.elim
  | map=>rw[ho]at h5;exact h5.elim
  | dead=>rw[ho]at h5;exact h5.elim
  | row=>rw[ho]at h5;exact h5.elim
  | lp=>rw[ho]at h5;exact h5.elim
 case refine_18 =>
  rintro i z n v ⟨h2,hs,h3⟩
  refine⟨he.lt h2,hs,fun e sz els hn=>?_⟩
  have h6:=List.getElem?_eq_getElem h2
  obtain⟨o',h4,h5⟩:=he i _ h6
  rw[hn]at h4
  cases h4
  cases ho:c.H[i]with
  | row e2 sz2 els2 =>
   rw[ho]at h5 h6
   obtain⟨q1,q2,q3,q4⟩:=h5
   obtain⟨p0,p1,p2⟩:=h3 _ _ _ h6
   refine⟨by omega,by omega,fun hl=>?_⟩
   rw[q4 (by omega)]
   exact p2 (by omega)
  | arr=>rw[ho]at h5;exact h5.elim
  | cells=>rw[ho]at h5;exact h5.elim
  | map=>rw[ho]at h5;exact h5.elim
  | iter=>rw[ho]at h5;exact h5.elim
  | dead=>rw[ho]at h5;exact h5.elim
  | lp=>rw[ho]at h5;exact h5.elim
 case refine_19 =>
  rintro i n k off v ⟨h2,hs,h3⟩
  refine⟨he.lt h2,hs,fun e sz els hn=>?_⟩
  have h6:=List.getElem?_eq_getElem h2
  obtain⟨o',h4,h5⟩:=he i _ h6
  rw[hn]at h4
  cases h4
  cases ho:c.H[i]with
  | row e2 sz2 els2 =>
   rw[ho]at h5 h6
   obtain⟨q1,q2,q3,q4⟩:=h5
   obtain⟨p1,p2⟩:=h3 _ _ _ h6
   refine⟨by omega,fun hl=>?_⟩
   rw[q4 (by omega),<-q2]
   exact p2 (by omega)
  | arr=>rw[ho]at h5;exact h5.elim
  | cells=>rw[ho]at h5;exact h5.elim
  | map=>rw[ho]at h5;exact h5.elim
  | iter=>rw[ho]at h5;exact h5.elim
  | dead=>rw[ho]at h5;exact h5.elim
  | lp=>rw[ho]at h5;exact h5.elim
 case refine_20=>exact fun vs h=>h
 case refine_21=>rintro x xs ih ihs vs ⟨v,vs',h1,h2,h3⟩;exact⟨v,vs',h1,ih _ h2,ihs _ h3⟩
 case refine_22=>trivial
 case refine_23=>intros;trivial
theorem VQ (c:Cx):(∀ x v,Gv c.w c.ok x v->BD c x v):=by
 refine fun x=>V.rec (motive_1:=fun x=>∀ v,Gv c.w c.ok x v->BD c x v) (motive_2:=fun xs=>∀ vs,MA c.w c.ok xs vs->D2 c xs vs) (motive_3:=fun _=>True)
  ?_ ?_ ?_ ?_ ?_ ?_ ?_ ?_ ?_ ?_ ?_ ?_ ?_ ?_ ?_ ?_ ?_ ?_ ?_ ?_ ?_ ?_ ?_ x
 case refine_1=>intro v h;trivial
 case refine_2=>intro k n v h;exact h
 case refine_3=>intro b v h;exact h
 case refine_4=>intro s v h;exact h
 case refine_5=>rintro cs ih v ⟨vs,h1,h2,h3⟩;exact⟨vs,h1,ih _ h2,h3⟩
 case refine_6=>rintro cs ih v ⟨vs,h1,h2⟩;exact⟨vs,h1,ih _ h2⟩
 case refine_7=>intro v h;exact h
 case refine_8=>intro sz els _ v h;exact h
 case refine_9=>intro cs off _ v h;exact h
 case refine_10=>intro v h;exact h
 case refine_11=>intro v h;exact h
 case refine_12=>intro v h;exact h
 case refine_13=>rintro f a l iha ihl v ⟨va,vc,h1,h2,h3⟩;exact⟨va,vc,h1,iha _ h2,ihl _ h3⟩
 case refine_14=>intro i sz els _ v h;exact h.elim
 case refine_15=>intro i off v h;exact h.elim
 case refine_16=>intro i v h;exact h.elim
 case refine_17=>intro i v h;exact h.elim
 case refine_18=>intro i z n v h;exact h.elim
 case refine_19=>intro i n k off v h;exact h.elim
 case refine_20=>exact fun vs h=>h
 case refine_21=>rintro x xs ih ihs vs ⟨v,vs',h1,h2,h3⟩;exact⟨v,vs',h1,ih _ h2,ihs _ h3⟩
 case refine_22=>trivial
 case refine_23=>intros;trivial
theorem EY {c:Cx}{x:V}{v:Value}(h:Gv c.w c.ok x v):BD c x v:=VQ c x v h
mutual
def ren (σ:Nat->Option Nat):V->V
 | .agg cs=>.agg (AR σ cs)
 | .tup cs=>.tup (AR σ cs)
 | .fn f a l=>.fn f (AR σ a) (AR σ l)
 | .own i sz els=>match σ i with | some j=>.own j sz els | none=>.sl sz els
 | .ptr i off=>match σ i with | some j=>.ptr j off | none=>.any
 | .map i=>match σ i with | some j=>.map j | none=>.any
 | .it i=>match σ i with | some j=>.it j | none=>.any
 | .rw i z n=>match σ i with | some j=>.rw j z n | none=>.any
 | .rp i n k off=>match σ i with | some j=>.rp j n k off | none=>.any
 | x=>x
def AR (σ:Nat->Option Nat):List V->List V
 | []=>[]
 | x::xs=>ren σ x::AR σ xs
end
def A5 (σ:Nat->Option Nat):Ob->Ob
 | .cells e cs=>.cells e (AR σ cs)
 | .map es=>.map (es.map fun p=>(ren σ p.1,ren σ p.2))
 | .iter m n s=>.iter (m.bind σ) n s
 | .row e sz els=>.row e sz (els.map (AR σ))
 | .lp l st r ts=>.lp l st r (ts.map fun p=>(p.1,ren σ p.2))
 | o=>o
theorem fS {c c':Cx}{σ:Nat->Option Nat}(hc:∀ b o,c.ok b o->c'.w.cell? ⟨b,o,none⟩=c.w.cell? ⟨b,o,none⟩)(hk:∀ b o,c.ok b o->c'.ok b o)
  (hσ:∀ i j o,σ i=some j->c.H[i]?=some o->c'.H[j]?=some (A5 σ o)/\c'.ρ j=c.ρ i) :
  (∀ x v,BD c x v->BD c' (ren σ x) v):=by
 refine fun x=>V.rec (motive_1:=fun x=>∀ v,BD c x v->BD c' (ren σ x) v) (motive_2:=fun xs=>∀ vs,D2 c xs vs->D2 c' (AR σ xs) vs) (motive_3:=fun _=>True)
  ?_ ?_ ?_ ?_ ?_ ?_ ?_ ?_ ?_ ?_ ?_ ?_ ?_ ?_ ?_ ?_ ?_ ?_ ?_ ?_ ?_ ?_ ?_ x
 case refine_1=>intro v h;trivial
 case refine_2=>intro k n v h;exact h
 case refine_3=>intro b v h;exact h
 case refine_4=>intro s v h;exact h
 case refine_5=>rintro cs ih v ⟨vs,h1,h2,h3⟩;exact⟨vs,h1,ih _ h2,h3⟩
 case refine_6=>rintro cs ih v ⟨vs,h1,h2⟩;exact⟨vs,h1,ih _ h2⟩
 case refine_7=>intro v h;exact h
 case refine_8=>intro sz els _ v h;exact Eb hc hk h
 case refine_9=>intro cs off _ v h;exact Eb hc hk h
 case refine_10=>intro v h;exact h
 case refine_11=>intro v h;exact h
 case refine_12=>intro v h;exact h
 case refine_13=>rintro f a l iha ihl v ⟨va,vc,h1,h2,h3⟩;exact⟨va,vc,h1,iha _ h2,ihl _ h3⟩
 case refine_14 =>
  rintro i sz els _ v ⟨h1,h2,h3⟩
  simp only[ren]
  cases hi:σ i with
  | none=>exact Eb hc hk h1
  | some j =>
   obtain⟨h5,h6⟩:=hσ i j _ hi (List.getElem?_eq_getElem h2)
   refine⟨Eb hc hk h1,(List.getElem?_eq_some_iff.1 h5).1,fun e sz' n hn=>?_⟩
   rw[h6]
   rw[h5]at hn
   cases ho:c.H[i]with
   | arr e2 sz2 n2 =>
    rw[ho]at hn
    simp only[A5,Option.some.injEq,Ob.arr.injEq]at hn
    obtain⟨rfl,rfl,rfl⟩:=hn
    exact h3 _ _ _ (by rw[List.getElem?_eq_getElem h2,ho])
   | cells=>rw[ho]at hn;simp[A5]at hn
   | map=>rw[ho]at hn;simp[A5]at hn
   | iter=>rw[ho]at hn;simp[A5]at hn
   | dead=>rw[ho]at hn;simp[A5]at hn
   | row=>rw[ho]at hn;simp[A5]at hn
   | lp=>rw[ho]at hn;simp[A5]at hn
 case refine_15 =>
  rintro i off v ⟨h2,hs,h3⟩
  simp only[ren]
  cases hi:σ i with
  | none=>trivial
  | some j =>
   obtain⟨h5,h6⟩:=hσ i j _ hi (List.getElem?_eq_getElem h2)
   refine⟨(List.getElem?_eq_some_iff.1 h5).1,hs,fun e cs hn=>?_⟩
   rw[h6]
   rw[h5]at hn
   cases ho:c.H[i]with
   | cells e2 cs2=>exact h3 _ _ (by rw[List.getElem?_eq_getElem h2,ho])
   | arr=>rw[ho]at hn;simp[A5]at hn
   | map=>rw[ho]at hn;simp[A5]at hn
   | iter=>rw[ho]at hn;simp[A5]at hn
   | dead=>rw[ho]at hn;simp[A5]at hn
   | row=>rw[ho]at hn;simp[A5]at hn
   | lp=>rw[ho]at hn;simp[A5]at hn
 case refine_16 =>
  rintro i v ⟨h2,hs,h3⟩
  simp only[ren]
  cases hi:σ i with
  | none=>trivial
  | some j =>
   obtain⟨h5,h6⟩:=hσ i j _ hi (List.getElem?_eq_getElem h2)
   refine⟨(List.getElem?_eq_some_iff.1 h5).1,hs,fun es hn=>?_⟩
   rw[h6]
   rw[h5]at hn
   cases ho:c.H[i]with
   | map es2=>exact h3 _ (by rw[List.getElem?_eq_getElem h2,ho])
   | arr=>rw[ho]at hn;simp[A5]at hn
   | cells=>rw[ho]at hn;simp[A5]at hn
   | iter=>rw[ho]at hn;simp[A5]at hn
   | dead=>rw[ho]at hn;simp[A5]at hn
   | row=>rw[ho]at hn;simp[A5]at hn
   | lp=>rw[ho]at hn;simp[A5]at hn
 case refine_17 =>
  rintro i v ⟨h2,hs,h3⟩
  simp only[ren]
  cases hi:σ i with
  | none=>trivial
  | some j =>
   obtain⟨h5,h6⟩:=hσ i j _ hi (List.getElem?_eq_getElem h2)
   refine⟨(List.getElem?_eq_some_iff.1 h5).1,hs,fun m n s hn=>?_⟩
   rw[h6]
   rw[h5]at hn
   cases ho:c.H[i]with
   | iter m2 n2 s2=>exact h3 _ _ _ (by rw[List.getElem?_eq_getElem h2,ho])
   | arr=>rw[ho]at hn;simp[A5]at hn
   | cells=>rw[ho]at hn;simp[A5]at hn
   | map=>rw[ho]at hn;simp[A5]at hn
   | dead=>rw[ho]at hn;simp[A5]at hn
   | row=>rw[ho]at hn;simp[A5]at hn
   | lp=>rw[ho]at hn;simp[A5]at hn
 case refine_18 =>
  rintro i z n v ⟨h2,hs,h3⟩
  simp only[ren]
  cases hi:σ i with
  | none=>trivial
  | some j =>
   obtain⟨h5,h6⟩:=hσ i j _ hi (List.getElem?_eq_getElem h2)
   refine⟨(List.getElem?_eq_some_iff.1 h5).1,hs,fun e sz els hn=>?_⟩
   rw[h6]
   rw[h5]at hn
   cases ho:c.H[i]with
   | row e2 sz2 els2 =>
    rw[ho]at hn
    simp only[A5,Option.some.injEq,Ob.row.injEq]at hn
    obtain⟨rfl,rfl,rfl⟩:=hn
    simpa using h3 _ _ _ (by rw[List.getElem?_eq_getElem h2,ho])
   | arr=>rw[ho]at hn;simp[A5]at hn
   | cells=>rw[ho]at hn;simp[A5]at hn
   | map=>rw[ho]at hn;simp[A5]at hn
   | iter=>rw[ho]at hn;simp[A5]at hn
   | dead=>rw[ho]at hn;simp[A5]at hn
   | lp=>rw[ho]at hn;simp[A5]at hn
 case refine_19 =>
  rintro i n k off v ⟨h2,hs,h3⟩
  simp only[ren]
  cases hi:σ i with
  | none=>trivial
  | some j =>
   obtain⟨h5,h6⟩:=hσ i j _ hi (List.getElem?_eq_getElem h2)
   refine⟨(List.getElem?_eq_some_iff.1 h5).1,hs,fun e sz els hn=>?_⟩
   rw[h6]
   rw[h5]at hn
   cases ho:c.H[i]with
   | row e2 sz2 els2 =>
    rw[ho]at hn
    simp only[A5,Option.some.injEq,Ob.row.injEq]at hn
    obtain⟨rfl,rfl,rfl⟩:=hn
    simpa using h3 _ _ _ (by rw[List.getElem?_eq_getElem h2,ho])
   | arr=>rw[ho]at hn;simp[A5]at hn
   | cells=>rw[ho]at hn;simp[A5]at hn
   | map=>rw[ho]at hn;simp[A5]at hn
   | iter=>rw[ho]at hn;simp[A5]at hn
   | dead=>rw[ho]at hn;simp[A5]at hn
   | lp=>rw[ho]at hn;simp[A5]at hn
 case refine_20=>exact fun vs h=>h
 case refine_21=>rintro x xs ih ihs vs ⟨v,vs',h1,h2,h3⟩;exact⟨v,_,h1,ih _ h2,ihs _ h3⟩
 case refine_22=>trivial
 case refine_23=>intros;trivial
theorem Wl {c c':Cx}{σ:Nat->Option Nat}(hc:∀ b o,c.ok b o->c'.w.cell? ⟨b,o,none⟩=c.w.cell? ⟨b,o,none⟩)(hk:∀ b o,c.ok b o->c'.ok b o)
  (hσ:∀ i j o,σ i=some j->c.H[i]?=some o->c'.H[j]?=some (A5 σ o)/\c'.ρ j=c.ρ i) {x:V} {v:Value} (h:BD c x v):BD c' (ren σ x) v:=fS hc hk hσ x v h
abbrev vw (x:V):V:=ren (fun _=>none) x
theorem fU (c:Cx):(∀ x v,BD c x v->Gv c.w c.ok (vw x) v):=by
 refine fun x=>V.rec (motive_1:=fun x=>∀ v,BD c x v->Gv c.w c.ok (vw x) v) (motive_2:=fun xs=>∀ vs,D2 c xs vs->MA c.w c.ok (AR (fun _=>none) xs) vs) (motive_3:=fun _=>True)
  ?_ ?_ ?_ ?_ ?_ ?_ ?_ ?_ ?_ ?_ ?_ ?_ ?_ ?_ ?_ ?_ ?_ ?_ ?_ ?_ ?_ ?_ ?_ x
 case refine_1=>intro v h;trivial
 case refine_2=>intro k n v h;exact h
 case refine_3=>intro b v h;exact h
 case refine_4=>intro s v h;exact h
 case refine_5=>rintro cs ih v ⟨vs,h1,h2,h3⟩;exact⟨vs,h1,ih _ h2,h3⟩
 case refine_6=>rintro cs ih v ⟨vs,h1,h2⟩;exact⟨vs,h1,ih _ h2⟩
 case refine_7=>intro v h;exact h
 case refine_8=>intro sz els _ v h;exact h
 case refine_9=>intro cs off _ v h;exact h
 case refine_10=>intro v h;exact h
 case refine_11=>intro v h;exact h
 case refine_12=>intro v h;exact h
 case refine_13=>rintro f a l iha ihl v ⟨va,vc,h1,h2,h3⟩;exact⟨va,vc,h1,iha _ h2,ihl _ h3⟩
 case refine_14=>rintro i sz els _ v ⟨h1,_⟩;exact h1
 case refine_15=>intro i off v h;trivial
 case refine_16=>intro i v h;trivial
 case refine_17=>intro i v h;trivial
 case refine_18=>intro i z n v h;trivial
 case refine_19=>intro i n k off v h;trivial
 case refine_20=>exact fun vs h=>h
 case refine_21=>rintro x xs ih ihs vs ⟨v,vs',h1,h2,h3⟩;exact⟨v,vs',h1,ih _ h2,ihs _ h3⟩
 case refine_22=>trivial
 case refine_23=>intros;trivial
theorem W6 {c:Cx}{x:V}{v:Value}(h:BD c x v):Gv c.w c.ok (vw x) v:=fU c x v h
def Ix (c:Cx)(es:List (V×V))(ents:Array MapEntry):Prop:=ents.size=es.length/\∀ (i:Nat)(p:V×V),es[i]?=some p->∃ e,ents[i]?=some e/\e.born=i/\BD c p.1 e.key/\BD c p.2 e.val
theorem Ix.mono {c c':Cx}{es:List (V×V)}{ents:Array MapEntry}(h:Ix c es ents)(hr:∀ x v,BD c x v->BD c' x v):Ix c' es ents :=
 ⟨h.1,fun i p hp=>(h.2 i p hp).imp fun e he=>⟨he.1,he.2.1,hr _ _ he.2.2.1,hr _ _ he.2.2.2⟩⟩
theorem Ix.ren {c c':Cx}{es:List (V×V)}{ents:Array MapEntry}{σ:Nat->Option Nat}(h:Ix c es ents)(hr:∀ x v,BD c x v->BD c' (ren σ x) v):Ix c' (es.map fun p=>(ren σ p.1,ren σ p.2)) ents:=by
 refine⟨by simpa using h.1,fun i p hp=>?_⟩
 rw[List.getElem?_map]at hp
 cases hq:es[i]? with
 | none=>simp[hq]at hp
 | some q =>
  simp[hq]at hp
  subst hp
  exact (h.2 i q hq).imp fun e he=>⟨he.1,he.2.1,hr _ _ he.2.2.1,hr _ _ he.2.2.2⟩
def dg (c:Cx)(m:Option Nat)(bm:Nat):Prop:=∀ k,m=some k->k<c.H.length/\∀ es,c.H[k]?=some (.map es)->∃ j,c.ρ k=some (bm,j)
theorem dg.mono {c c':Cx}{m:Option Nat}{bm:Nat}(h:dg c m bm)(he:oD c c'):dg c' m bm:=by
 intro k hk
 obtain⟨h1,h2⟩:=h k hk
 refine⟨he.lt h1,fun es hes=>?_⟩
 obtain⟨o',q1,q2⟩:=he k _ (List.getElem?_eq_getElem h1)
 rw[hes]at q1
 cases q1
 cases ho:c.H[k]with
 | map es2 =>
  rw[ho]at q2
  obtain⟨j,hj⟩:=h2 es2 (by rw[List.getElem?_eq_getElem h1,ho])
  exact⟨j,Eq.trans q2 hj⟩
 | arr=>rw[ho]at q2;exact q2.elim
 | cells=>rw[ho]at q2;exact q2.elim
 | iter=>rw[ho]at q2;exact q2.elim
 | dead=>rw[ho]at q2;exact q2.elim
 | row=>rw[ho]at q2;exact q2.elim
 | lp=>rw[ho]at q2;exact q2.elim
theorem dg.ren {c c':Cx}{m:Option Nat}{bm:Nat}{σ:Nat->Option Nat}(h:dg c m bm)(hσ:∀ i j o,σ i=some j->c.H[i]?=some o->c'.H[j]?=some (A5 σ o)/\c'.ρ j=c.ρ i):dg c' (m.bind σ) bm:=by
 intro j hj
 obtain⟨k,rfl,hk⟩:=Option.bind_eq_some_iff.1 hj
 obtain⟨h1,h2⟩:=h k rfl
 obtain⟨q1,q2⟩:=hσ k j _ hk (List.getElem?_eq_getElem h1)
 refine⟨(List.getElem?_eq_some_iff.1 q1).1,fun es hes=>?_⟩
 rw[hes]at q1
 cases ho:c.H[k]with
 | map es2=>rw[q2];exact h2 es2 (by rw[List.getElem?_eq_getElem h1,ho])
 | arr=>rw[ho]at q1;simp[A5]at q1
 | cells=>rw[ho]at q1;simp[A5]at q1
 | iter=>rw[ho]at q1;simp[A5]at q1
 | dead=>rw[ho]at q1;simp[A5]at q1
 | row=>rw[ho]at q1;simp[A5]at q1
 | lp=>rw[ho]at q1;simp[A5]at q1
def LY (c:Cx)(sz:Nat)(els:List (List V))(vs:Array Value):Prop:=∀ (i:Nat)(el:List V),els[i]?=some el->el.length=sz/\∀ (j:Nat)(x:V),el[j]?=some x->∃ v,vs[i*sz+j]?=some v/\Co v=true/\BD c x v
def fe (c:Cx)(ts:T)(tmps:Array Value):Prop:=∀ (s:Nat)(x:V),find ts s=some x->s<tmps.size/\BD c x (tmps.getD s undef)
theorem LY.mono {c c':Cx}{sz:Nat}{els:List (List V)}{vs:Array Value}(h:LY c sz els vs)(hr:∀ x v,BD c x v->BD c' x v):LY c' sz els vs :=
 fun i el he=>⟨(h i el he).1,fun j x hx=>((h i el he).2 j x hx).imp fun v hv=>⟨hv.1,hv.2.1,hr _ _ hv.2.2⟩⟩
theorem fe.mono {c c':Cx}{ts:T}{tm:Array Value}(h:fe c ts tm)(hr:∀ x v,BD c x v->BD c' x v):fe c' ts tm:=fun s x hx=>⟨(h s x hx).1,hr _ _ (h s x hx).2⟩
theorem fH {σ:Nat->Option Nat}:∀ {ts:T} {s:Nat},find (ts.map fun p=>(p.1,ren σ p.2)) s=(find ts s).map (ren σ)
 | [],_=>rfl
 | (m,v)::ts,s=>by
  simp only[List.map_cons,find]
  split
  ·rfl
  ·exact fH
theorem ZF (σ:Nat->Option Nat):∀ (xs:List V)(i:Nat),(AR σ xs)[i]?=(xs[i]?).map (ren σ)
 | [],i=>by simp[AR]
 | x::xs,0=>by simp[AR]
 | x::xs,i+1=>by simp[AR,ZF σ xs i]
theorem SA (σ:Nat->Option Nat):∀ xs:List V,(AR σ xs).length=xs.length
 | []=>rfl
 | x::xs=>by simp[AR,SA σ xs]
theorem LY.ren {c c':Cx}{sz:Nat}{els:List (List V)}{vs:Array Value}{σ:Nat->Option Nat}(h:LY c sz els vs)(hr:∀ x v,BD c x v->BD c' (ren σ x) v):LY c' sz (els.map (AR σ)) vs:=by
 intro i el he
 rw[List.getElem?_map]at he
 cases hq:els[i]? with
 | none=>simp[hq]at he
 | some e0 =>
  simp[hq]at he;subst he
  obtain⟨q1,q2⟩:=h i e0 hq
  refine⟨by rw[SA];exact q1,fun j x hx=>?_⟩
  rw[ZF]at hx
  cases hy:e0[j]? with
  | none=>simp[hy]at hx
  | some y =>
   simp[hy]at hx;subst hx
   exact (q2 j y hy).imp fun v hv=>⟨hv.1,hv.2.1,hr _ _ hv.2.2⟩
theorem fe.ren {c c':Cx}{ts:T}{tm:Array Value}{σ:Nat->Option Nat}(h:fe c ts tm)(hr:∀ x v,BD c x v->BD c' (ren σ x) v):fe c' (ts.map fun p=>(p.1,ren σ p.2)) tm:=by
 intro s x hx
 rw[fH]at hx
 cases hy:find ts s with
 | none=>simp[hy]at hx
 | some y=>simp[hy]at hx;subst hx;exact⟨(h s y hy).1,hr _ _ (h s y hy).2⟩
def WM (c:Cx)(o:Ob)(r:Option (Nat×Nat)):Prop :=
 match o with
 | .cells e cs=>∃ b vs,r=some (b,0)/\c.w.heap[b]?=some (.cells vs e (0,0))/\vs.size=cs.length/\(∀ o,¬ c.ok b o)/\∀ (i:Nat)(x:V),cs[i]?=some x->∃ v,vs[i]?=some v/\Co v=true/\BD c x v
 | .arr e sz n=>(r=none->n=0)/\∀ b k,r=some (b,k)->∃ vs,c.w.heap[b]?=some (.cells vs e (0,0))/\vs.size=k*sz/\n<=k/\k<=C0/\∀ o,n*sz<=o->¬ c.ok b o
 | .map es=>∃ b ents,r=some (b,0)/\c.w.heap[b]?=some (.map ents es.length)/\(∀ o,¬ c.ok b o)/\Ix c es ents
 | .iter m n seen=>∃ b bm,r=some (b,bm)/\c.w.heap[b]?=some (.mapIter (some bm) n seen.toArray n)/\(∀ o,¬ c.ok b o)/\dg c m bm
 | .dead=>r=none
 | .row e sz els=>(r=none->els=[])/\∀ b k,r=some (b,k)->∃ vs,c.w.heap[b]?=some (.cells vs e (0,0))/\vs.size=k*sz/\els.length<=k/\k<=C0/\(∀ o,¬ c.ok b o)/\LY c sz els vs
 | .lp l st lr ts=>r=some (l,0)/\c.w.heap[l]?=some (.loop (IV st lr))/\(∀ o,¬ c.ok l o)/\fe c ts lr.tmps
def Cx.owns (c:Cx)(b:Nat):Prop:=∃ i k,i<c.H.length/\c.ρ i=some (b,k)
def jD (c:Cx):Prop:=∀ p∈Abu,(∃ e fz,c.w.heap[p.1]?=some (.cells p.2.toArray e fz))/\¬ c.owns p.1
structure B5 (c:Cx):Prop where
 inj:∀ i j b k k',i<c.H.length->j<c.H.length->c.ρ i=some (b,k)->c.ρ j=some (b,k')->i=j
 okLt:∀ b o,c.ok b o->b<c.w.heap.size
 obj:∀ i o,c.H[i]?=some o->WM c o (c.ρ i)
 glob:jD c
structure Fr (c c':Cx):Prop where
 okS:∀ b o,c.ok b o->c'.ok b o
 cell:∀ b o,c.ok b o->c'.w.cell? ⟨b,o,none⟩=c.w.cell? ⟨b,o,none⟩
 size:c.w.heap.size<=c'.w.heap.size
 okN:∀ b o,c'.ok b o->c.ok b o\/c.w.heap.size<=b\/c.owns b
 heap:∀ b,b<c.w.heap.size->¬ c.owns b->c'.w.heap[b]?=c.w.heap[b]?
 own:∀ b,c'.owns b->c.owns b\/c.w.heap.size<=b
 ext:oD c c'
 os:c'.w.os=c.w.os
 tape:c'.w.tape=c.w.tape
 output:c'.w.output=c.w.output
 drawn:c.w.drawn<=c'.w.drawn
theorem jD.keep {c c':Cx}(h:jD c)(hh:∀ b,b<c.w.heap.size->¬ c.owns b->c'.w.heap[b]?=c.w.heap[b]?)(ho:∀ b,c'.owns b->c.owns b\/c.w.heap.size<=b):jD c':=fun p hp=>by
 obtain⟨⟨e,fz,h1⟩,h2⟩:=h p hp
 have hlt:=(Array.getElem?_eq_some_iff.1 h1).1
 refine⟨⟨e,fz,(hh _ hlt h2).trans h1⟩,fun h3=>?_⟩
 rcases ho _ h3 with h3 | h3
 ·exact h2 h3
 ·omega
theorem B5.globFr {c c':Cx}(h:B5 c)(hf:Fr c c'):jD c':=h.glob.keep hf.heap hf.own
theorem Fr.refl (c:Cx):Fr c c:=⟨fun _ _ h=>h,fun _ _ _=>rfl,Nat.le_refl _,fun _ _ h=>.inl h,fun _ _ _=>rfl,fun _ h=>.inl h,.refl c,rfl,rfl,rfl,Nat.le_refl _⟩
theorem Fr.trans {c c' c'':Cx}(h:Fr c c')(h':Fr c' c''):Fr c c'' where
 okS b o q:=h'.okS _ _ (h.okS _ _ q)
 cell b o q:=(h'.cell _ _ (h.okS _ _ q)).trans (h.cell _ _ q)
 size:=Nat.le_trans h.size h'.size
 okN b o q:=by
  rcases h'.okN _ _ q with q | q | q
  ·exact h.okN _ _ q
  ·exact .inr (.inl (Nat.le_trans h.size q))
  ·rcases h.own _ q with q | q
   ·exact .inr (.inr q)
   ·exact .inr (.inl q)
 heap b hb q:=(h'.heap b (Nat.lt_of_lt_of_le hb h.size) (fun ho=>by
  rcases h.own _ ho with p | p
  ·exact q p
  ·omega)).trans (h.heap b hb q)
 own b q:=by
  rcases h'.own _ q with q | q
  ·exact h.own _ q
  ·exact .inr (Nat.le_trans h.size q)
 ext:=h.ext.trans h'.ext
 os:=h'.os.trans h.os
 tape:=h'.tape.trans h.tape
 output:=h'.output.trans h.output
 drawn:=Nat.le_trans h.drawn h'.drawn
theorem AW {c c':Cx}(h:Fr c c'){x:V}{v:Value}(hr:BD c x v):BD c' x v:=Tv h.cell h.okS h.ext x v hr
theorem SN {c c':Cx}(h:Fr c c'):∀ {xs:List V} {vs:List Value},D2 c xs vs->D2 c' xs vs
 | [],_,hr=>hr
 | _::_,_,⟨v,vs',h1,h2,h3⟩=>⟨v,vs',h1,AW h h2,SN h h3⟩
def eP (P:Program)(f:Nat)(args:Array Value)(w:World)(R:Ending->World->Prop):Prop :=
 ((callFunc f args).run P w=.ok (.enter f args) w/\Calls P f args w R)\/∃ v w',(callFunc f args).run P w=.ok (.value v) w'/\R (.returned v) w'
theorem eP.mono {P f args w}{R R':Ending->World->Prop}(h:eP P f args w R)(hr:∀ e w',R e w'->R' e w'):eP P f args w R':=by
 rcases h with ⟨h1,h2⟩|⟨v,w',h1,h2⟩
 ·exact .inl ⟨h1,h2.mono hr⟩
 ·exact .inr ⟨v,w',h1,hr _ _ h2⟩
def Spec (P:Program)(f:Nat)(args:List V)(H:List Ob)(Q:V->List Ob->Prop):Prop :=
 ∀ (c:Cx)(vs:List Value),c.H=H->B5 c->D2 c args vs ->
  eP P f vs.toArray c.w fun e w'=>∃ v x c',e=.returned v/\c'.w=w'/\Q x c'.H/\B5 c'/\BD c' x v/\Fr c c'
theorem Spec.mono {P f args H}{Q Q':V->List Ob->Prop}(h:Spec P f args H Q)(hq:∀ x H',Q x H'->Q' x H'):Spec P f args H Q' :=
 fun c vs h1 h2 h3=>(h c vs h1 h2 h3).mono fun e w' ⟨v,x,c',q1,q2,q3,q4⟩=>⟨v,x,c',q1,q2,hq _ _ q3,q4⟩
def Vj (P:Program)(F:Fn)(args:Array Value)(w:World)(R:Ending->World->Prop):Prop:=match F with
 | .func f=>eP P f args w R
 | .yield l=>∃ f tmps assign body,(Instr.yield l args).run P w=.ok (.round l f tmps assign body) w/\zb P l f tmps assign body w fun v w'=>R (.returned v) w'
 | _=>False
theorem Vj.mono {P F args w}{R R':Ending->World->Prop}(h:Vj P F args w R)(hr:∀ e w',R e w'->R' e w'):Vj P F args w R':=by
 cases F<;>simp only[Vj]at h ⊢
 case func=>exact h.mono hr
 case yield =>
  obtain⟨f,tmps,assign,body,h1,h2⟩:=h
  exact⟨f,tmps,assign,body,h1,fun c cs=>let ⟨v,w',q1,q2⟩:=h2 c cs;⟨v,w',hr _ _ q1,q2⟩⟩
def GP (P:Program)(F:Fn)(args:List V)(H:List Ob)(Q:V->List Ob->Prop):Prop :=
 ∀ (c:Cx)(vs:List Value),c.H=H->B5 c->D2 c args vs ->
  Vj P F vs.toArray c.w fun e w'=>∃ v x c',e=.returned v/\c'.w=w'/\Q x c'.H/\B5 c'/\BD c' x v/\Fr c c'
def ga (P:Program)(f:Nat)(args:List V)(H:List Ob)(Q:V->List Ob->Prop):Prop :=
 ∀ (c:Cx)(vs:List Value),c.H=H->B5 c->D2 c args vs->(callFunc f vs.toArray).run P c.w=.ok (.enter f vs.toArray) c.w /\
  Calls P f vs.toArray c.w fun e w'=>∃ v x c',e=.returned v/\c'.w=w'/\Q x c'.H/\B5 c'/\BD c' x v/\Fr c c'
theorem ga.spec {P f args H Q}(h:ga P f args H Q):Spec P f args H Q:=fun c vs h1 h2 h3=>.inl (h c vs h1 h2 h3)
def AM (m:Nat)(i:Nat):Option Nat:=if i<m then some i else none
mutual
theorem TD (σ τ:Nat->Option Nat):∀ x:V,ren τ (ren σ x)=ren (fun i=>(σ i).bind τ) x
 | .agg cs=>by simp only[ren,J7 σ τ cs]
 | .tup cs=>by simp only[ren,J7 σ τ cs]
 | .fn f a l=>by simp only[ren,J7 σ τ a,J7 σ τ l]
 | .own i sz els=>by simp only[ren];cases σ i<;>simp only[ren,Option.bind_none,Option.bind_some]
 | .ptr i off=>by simp only[ren];cases σ i<;>simp only[ren,Option.bind_none,Option.bind_some]
 | .map i=>by simp only[ren];cases σ i<;>simp only[ren,Option.bind_none,Option.bind_some]
 | .it i=>by simp only[ren];cases σ i<;>simp only[ren,Option.bind_none,Option.bind_some]
 | .rw i z n=>by simp only[ren];cases σ i<;>simp only[ren,Option.bind_none,Option.bind_some]
 | .rp i n k off=>by simp only[ren];cases σ i<;>simp only[ren,Option.bind_none,Option.bind_some]
 | .any=>by simp only[ren]
 | .int ..=>by simp only[ren]
 | .bool ..=>by simp only[ren]
 | .str ..=>by simp only[ren]
 | .sl ..=>by simp only[ren]
 | .ro ..=>by simp only[ren]
 | .nil=>by simp only[ren]
 | .nilp=>by simp only[ren]
 | .nilm=>by simp only[ren]
 | .nilf=>by simp only[ren]
theorem J7 (σ τ:Nat->Option Nat):∀ xs:List V,AR τ (AR σ xs)=AR (fun i=>(σ i).bind τ) xs
 | []=>by simp only[AR]
 | x::xs=>by simp only[AR,TD σ τ x,J7 σ τ xs]
end
theorem jJ (σ τ:Nat->Option Nat)(o:Ob):A5 τ (A5 σ o)=A5 (fun i=>(σ i).bind τ) o:=by
 cases o<;>simp only[A5,J7,List.map_map]
 case map es=>congr 1;refine List.map_congr_left fun p _=>?_;simp only[Function.comp_apply,TD]
 case iter m n s=>cases m<;>rfl
 case row e sz els=>congr 1;refine List.map_congr_left fun p _=>?_;simp only[Function.comp_apply,J7]
 case lp l st r ts=>congr 1;refine List.map_congr_left fun p _=>?_;simp only[Function.comp_apply,TD]
def IU (n:Nat)(H:List Ob):Prop:=H.length=n/\H.map (A5 (AM n))=H
theorem fR {n:Nat}{H:List Ob}(h:H.map (A5 (AM n))=H){σ:Nat->Option Nat}(hσ:∀ i,i<n->σ i=some i):H.map (A5 σ)=H:=by
 conv=>lhs;rw[<-h]
 rw[List.map_map]
 conv=>rhs;rw[<-h]
 refine List.map_congr_left fun o _=>?_
 rw[Function.comp_apply,jJ]
 congr 1
 funext i
 unfold AM
 by_cases hi:i<n
 ·simp[hi,hσ i hi]
 ·simp[hi]
theorem xd {n m:Nat}(h:n<=m):∀ i,i<n->AM m i=some i:=fun i hi=>by unfold AM;rw[if_pos (by omega)]
theorem Aer {n m:Nat}{t:List (Nat×V)}(h:(t.map fun p=>(p.1,ren (AM n) p.2))=t)(hm:n<=m):(t.map fun p=>(p.1,ren (AM m) p.2))=t:=by
 conv=>lhs;rw[<-h]
 rw[List.map_map]
 conv=>rhs;rw[<-h]
 refine List.map_congr_left fun p _=>?_
 rw[Function.comp_apply,TD]
 congr 2
 funext i
 unfold AM
 by_cases hi:i<n
 ·have:i<m:=by omega
  simp[hi,this]
 ·simp[hi]
def WJ (P:Program)(f:Nat)(fst caps:List V)(items:List (List V)):Prop:=∀ (F:Fn)(G:Nat->List Ob->Prop)(S:List Ob->Prop),
 ∀ n,(∀ k H,G k H->IU n H)->(∀ H,S H->IU n H)->(∀ k it H,items[k]?=some it->G k H->GP P F it H fun x H'=>x=.bool true/\G (k+1) H'\/x=.bool false/\S H') ->
  ∀ H,G 0 H->ga P f (fst++[.fn F [] []]++caps) H fun _ H'=>G items.length H'\/S H'
theorem Be {P:Program}{f:Nat}{args:List V}{H:List Ob}{Q:V->List Ob->Prop}:GP P (.func f) args H Q=Spec P f args H Q:=rfl
def P2 (ρ:Nat->Option (Nat×Nat))(i:Nat)(r:Option (Nat×Nat)):Nat->Option (Nat×Nat):=fun j=>if j=i then r else ρ j
theorem Av (ρ i r):P2 ρ i r i=r:=by simp[P2]
theorem AO {ρ:Nat->Option (Nat×Nat)}{i j r}(h:j≠i):P2 ρ i r j=ρ j:=by simp[P2,h]
theorem Nt {w:World}{o:Obj}{b k:Nat}(h:b<w.heap.size):World.cell? { w with heap:=w.heap.push o } ⟨b,k,none⟩=w.cell? ⟨b,k,none⟩:=by
 simp only[World.cell?]
 rw[Array.getElem?_push_lt h,Array.getElem?_eq_getElem h]
theorem BU {w:World}{o:Obj}{b:Nat}(h:b<w.heap.size):(w.heap.push o)[b]?=w.heap[b]?:=by
 rw[Array.getElem?_push_lt h,Array.getElem?_eq_getElem h]
theorem Qu {c:Cx}(hc:B5 c){w':World}(hh:w'.heap=c.w.heap)(h1:w'.os=c.w.os)(h2:w'.tape=c.w.tape)(h3:w'.output=c.w.output)(h4:c.w.drawn<=w'.drawn) :
  B5 { c with w:=w' }/\Fr c { c with w:=w' }:=by
 have hcell:∀ b o,w'.cell? ⟨b,o,none⟩=c.w.cell? ⟨b,o,none⟩:=fun b o=>by simp only[World.cell?,hh]
 have hf:Fr c { c with w:=w' }:=⟨fun _ _ h=>h,fun _ _ _=>hcell _ _,by simp[hh],fun _ _ h=>.inl h,fun _ _ _=>by simp[hh],fun _ h=>.inl h,fun i o h=>⟨o,h,by cases o<;>simp[CC]⟩,h1,h2,h3,h4⟩
 refine⟨⟨hc.inj,fun b o h=>by simpa[hh]using hc.okLt b o h,fun i o ho=>?_,hc.globFr hf⟩,hf⟩
 have:=hc.obj i o ho
 cases o with
 | cells e cs =>
  obtain⟨b,vs,q1,q2,q3,q4,q5⟩:=this
  exact⟨b,vs,q1,by simpa[hh]using q2,q3,q4,fun i x hx=>(q5 i x hx).imp fun v hv=>⟨hv.1,hv.2.1,AW hf hv.2.2⟩⟩
 | arr e sz n =>
  refine⟨this.1,fun b k hb=>?_⟩
  obtain⟨vs,q1,q2⟩:=this.2 b k hb
  exact⟨vs,by simpa[hh]using q1,q2⟩
 | map es =>
  obtain⟨b,ents,q1,q2,q3,q4⟩:=this
  exact⟨b,ents,q1,by simpa[hh]using q2,q3,q4.mono fun _ _=>AW hf⟩
 | iter m n seen =>
  obtain⟨b,bm,q1,q2,q3,q4⟩:=this
  exact⟨b,bm,q1,by simpa[hh]using q2,q3,q4.mono hf.ext⟩
 | dead=>exact this
 | row e sz els =>
  refine⟨this.1,fun b k hb=>?_⟩
  obtain⟨vs,q1,q2,q3,q4,q5,q6⟩:=this.2 b k hb
  exact⟨vs,by simpa[hh]using q1,q2,q3,q4,q5,q6.mono fun _ _=>AW hf⟩
 | lp l st r ts =>
  obtain⟨q1,q2,q3,q4⟩:=this
  exact⟨q1,by simpa[hh]using q2,q3,q4.mono fun _ _=>AW hf⟩
theorem Ns {c c':Cx}(hc:B5 c)(hf:Fr c c')(ob:Obj)(hw:c'.w={ c.w with heap:=c.w.heap.push ob })(hok:∀ b o,b<c.w.heap.size->c'.ok b o->c.ok b o)
  {i:Nat} {o:Ob} (ho:c.H[i]?=some o):WM c' o (c.ρ i):=by
 have h:=hc.obj i o ho
 cases o with
 | cells e cs =>
  obtain⟨b,vs,q1,q2,q3,q4,q5⟩:=h
  have hb:b<c.w.heap.size:=(Array.getElem?_eq_some_iff.1 q2).1
  exact⟨b,vs,q1,by rw[hw];simpa[BU hb]using q2,q3,fun o ho=>q4 o (hok _ _ hb ho),fun i x hx=>(q5 i x hx).imp fun v hv=>⟨hv.1,hv.2.1,AW hf hv.2.2⟩⟩
 | arr e sz n =>
  refine⟨h.1,fun b k hb=>?_⟩
  obtain⟨vs,q1,q2,q3,q4,q5⟩:=h.2 b k hb
  have hb':b<c.w.heap.size:=(Array.getElem?_eq_some_iff.1 q1).1
  exact⟨vs,by rw[hw];simpa[BU hb']using q1,q2,q3,q4,fun o ho hh=>q5 o ho (hok _ _ hb' hh)⟩
 | map es =>
  obtain⟨b,ents,q1,q2,q3,q4⟩:=h
  have hb:b<c.w.heap.size:=(Array.getElem?_eq_some_iff.1 q2).1
  exact⟨b,ents,q1,by rw[hw];simpa[BU hb]using q2,fun o ho=>q3 o (hok _ _ hb ho),q4.mono fun _ _=>AW hf⟩
 | iter m n seen =>
  obtain⟨b,bm,q1,q2,q3,q4⟩:=h
  have hb:b<c.w.heap.size:=(Array.getElem?_eq_some_iff.1 q2).1
  exact⟨b,bm,q1,by rw[hw];simpa[BU hb]using q2,fun o ho=>q3 o (hok _ _ hb ho),q4.mono hf.ext⟩
 | dead=>exact h
 | row e sz els =>
  refine⟨h.1,fun b k hb=>?_⟩
  obtain⟨vs,q1,q2,q3,q4,q5,q6⟩:=h.2 b k hb
  have hb':b<c.w.heap.size:=(Array.getElem?_eq_some_iff.1 q1).1
  exact⟨vs,by rw[hw];simpa[BU hb']using q1,q2,q3,q4,fun o ho=>q5 o (hok _ _ hb' ho),q6.mono fun _ _=>AW hf⟩
 | lp l st r ts =>
  obtain⟨q1,q2,q3,q4⟩:=h
  have hb:l<c.w.heap.size:=(Array.getElem?_eq_some_iff.1 q2).1
  exact⟨q1,by rw[hw];simpa[BU hb]using q2,fun o ho=>q3 o (hok _ _ hb ho),q4.mono fun _ _=>AW hf⟩
theorem Jh {c:Cx}(hc:B5 c){i:Nat}{b k:Nat}(hi:i<c.H.length)(hr:c.ρ i=some (b,k)):b<c.w.heap.size:=by
 have h:=hc.obj i _ (List.getElem?_eq_getElem hi)
 rw[hr]at h
 cases ho:c.H[i]with
 | cells e cs =>
  rw[ho]at h
  obtain⟨b',vs,q1,q2,_⟩:=h
  cases q1
  exact (Array.getElem?_eq_some_iff.1 q2).1
 | arr e sz n =>
  rw[ho]at h
  obtain⟨vs,q1,_⟩:=h.2 b k rfl
  exact (Array.getElem?_eq_some_iff.1 q1).1
 | map es =>
  rw[ho]at h
  obtain⟨b',ents,q1,q2,_⟩:=h
  cases q1
  exact (Array.getElem?_eq_some_iff.1 q2).1
 | iter m n seen =>
  rw[ho]at h
  obtain⟨b',bm,q1,q2,_⟩:=h
  cases q1
  exact (Array.getElem?_eq_some_iff.1 q2).1
 | dead=>rw[ho]at h;cases h
 | row e sz els =>
  rw[ho]at h
  obtain⟨vs,q1,_⟩:=h.2 b k rfl
  exact (Array.getElem?_eq_some_iff.1 q1).1
 | lp l st r ts =>
  rw[ho]at h
  obtain⟨q1,q2,_⟩:=h
  cases q1
  exact (Array.getElem?_eq_some_iff.1 q2).1
def Cx.addOwn (c:Cx)(ob:Obj)(o:Ob)(k:Nat)(m:Nat->Prop):Cx:=⟨{ c.w with heap:=c.w.heap.push ob },fun b o=>c.ok b o\/b=c.w.heap.size/\m o,P2 c.ρ c.H.length (some (c.w.heap.size,k)),c.H++[o]⟩
theorem HQ {c:Cx}(hc:B5 c)(ob:Obj)(o:Ob)(k:Nat)(m:Nat->Prop):Fr c (c.addOwn ob o k m) where
 okS _ _ h:=.inl h
 cell b o h:=Nt (hc.okLt _ _ h)
 size:=by simp[Cx.addOwn]
 okN b _ h:=by
  rcases h with h | h
  ·exact .inl h
  ·exact .inr (.inl (by omega))
 heap b hb _:=BU hb
 own b:=by
  rintro ⟨i,k',hi,hr⟩
  simp only[Cx.addOwn,List.length_append,List.length_cons,List.length_nil]at hi hr
  by_cases e:i=c.H.length
  ·subst e;rw[Av]at hr;cases hr;exact .inr (Nat.le_refl _)
  ·rw[AO e]at hr;exact .inl ⟨i,k',by omega,hr⟩
 ext i o' h:=by
  have hi:i<c.H.length:=(List.getElem?_eq_some_iff.1 h).1
  refine⟨o',by simpa[Cx.addOwn,List.getElem?_append_left hi]using h,?_⟩
  have:(c.addOwn ob o k m).ρ i=c.ρ i:=AO (by omega)
  rw[this];cases o'<;>simp[CC]
 os:=rfl
 tape:=rfl
 output:=rfl
 drawn:=Nat.le_refl _
theorem HI {c:Cx}(hc:B5 c)(ob:Obj)(o:Ob)(k:Nat)(m:Nat->Prop)(ho:WM (c.addOwn ob o k m) o (some (c.w.heap.size,k))):B5 (c.addOwn ob o k m) where
 inj i j b k1 k2 hi hj h1 h2:=by
  simp only[Cx.addOwn,List.length_append,List.length_cons,List.length_nil]at hi hj h1 h2
  by_cases e1:i=c.H.length<;>by_cases e2:j=c.H.length
  ·omega
  ·subst e1
   rw[Av]at h1;rw[AO e2]at h2;cases h1
   have:=Jh hc (by omega) h2;omega
  ·subst e2
   rw[Av]at h2;rw[AO e1]at h1;cases h2
   have:=Jh hc (by omega) h1;omega
  ·rw[AO e1]at h1;rw[AO e2]at h2
   exact hc.inj i j b k1 k2 (by omega) (by omega) h1 h2
 okLt b o' h:=by
  rcases h with h | h
  ·have:=hc.okLt _ _ h;simp[Cx.addOwn];omega
  ·simp[Cx.addOwn];omega
 obj i o' h:=by
  by_cases e:i<c.H.length
  ·have h':c.H[i]?=some o':=by simpa[Cx.addOwn,List.getElem?_append_left e]using h
   have:(c.addOwn ob o k m).ρ i=c.ρ i:=AO (by omega)
   rw[this]
   exact Ns hc (HQ hc ob o k m) ob rfl (fun _ _ hb h=>h.resolve_right (by omega)) h'
  ·have hi:=(List.getElem?_eq_some_iff.1 h).1
   simp only[Cx.addOwn,List.length_append,List.length_cons,List.length_nil]at hi
   have e':i=c.H.length:=by omega
   subst e'
   have:o'=o:=by simpa[Cx.addOwn]using h.symm
   subst this
   have:(c.addOwn ob o' k m).ρ c.H.length=some (c.w.heap.size,k):=Av _ _ _
   rw[this];exact ho
 glob:=hc.globFr (HQ hc ob o k m)
def Cx.addRo (c:Cx)(ob:Obj):Cx:=⟨{ c.w with heap:=c.w.heap.push ob },fun b o=>c.ok b o\/b=c.w.heap.size,c.ρ,c.H⟩
theorem PI {c:Cx}(hc:B5 c)(ob:Obj):Fr c (c.addRo ob) where
 okS _ _ h:=.inl h
 cell b o h:=Nt (hc.okLt _ _ h)
 size:=by simp[Cx.addRo]
 okN b _ h:=by
  rcases h with h | h
  ·exact .inl h
  ·exact .inr (.inl (by omega))
 heap b hb _:=BU hb
 own b:=.inl
 ext i o' h:=⟨o',h,by cases o'<;>simp[CC,Cx.addRo]⟩
 os:=rfl
 tape:=rfl
 output:=rfl
 drawn:=Nat.le_refl _
theorem RR {c:Cx}(hc:B5 c)(ob:Obj):B5 (c.addRo ob) where
 inj:=hc.inj
 okLt b o h:=by
  rcases h with h | h
  ·have:=hc.okLt _ _ h;simp[Cx.addRo];omega
  ·simp[Cx.addRo];omega
 obj i o h:=Ns hc (PI hc ob) ob rfl (fun b o hb h=>h.resolve_right (by omega)) h
 glob:=hc.globFr (PI hc ob)
def lk (t:T)(n:Nat):V:=(find t n).getD .any
inductive O where
 | s (n:Nat)
 | c (v:V)
 | f (g:Nat)
def ev (t:T):O->V
 | .s n=>lk t n
 | .c v=>v
 | .f g=>.fn (.func g) [] []
def Kt:V->Option (List V)
 | .agg cs=>some cs
 | .any | .tup _=>none
 | v=>some [v]
def sub (off k:Nat)(cs:List V):List V:=(cs.drop off).take k
def put (off:Nat)(new cs:List V):List V:=cs.take off++new++cs.drop (off+new.length)
inductive I where
 | mv (d:Nat) (x:O)
 | pick (d:Nat) (c a b:O)
 | al (d e:Nat) (z:List V)
 | bx (d e:Nat) (x:O)
 | br (d e:Nat) (x:O)
 | sf (d k:Nat) (x:O)
 | ld (d:Nat) (x:O)
 | ldr (d:Nat) (x:O)
 | lar (d k:Nat) (x:O)
 | far (d off:Nat) (x:O)
 | la (d k:Nat) (x:O)
 | st (k:Nat) (a x:O)
 | fa (d off:Nat) (x:O)
 | nc (d:Nat) (x:O)
 | fd (d off:Nat) (k:Option Nat) (x:O)
 | bd (d:Nat) (z:List V) (ps:List (Nat×Nat×O))
 | bs (d sz:Nat) (xs:List O)
 | bo (d e sz:Nat) (xs:List O)
 | bin (d:Nat) (op:BinOp) (x y:O)
 | bb (d:Nat) (op:BinOp) (x y:O)
 | sh (d:Nat) (op:BinOp) (x y:O)
 | un (d:Nat) (op:UnOp) (x:O)
 | cvi (d:Nat) (k:IntKind) (x:O)
 | cvs (d:Nat) (x:O)
 | s2b (d:Nat) (x:O)
 | b2s (d:Nat) (x:O)
 | mf (d g:Nat) (fst caps:List O)
 | len (d:Nat) (x:O)
 | lens (d:Nat) (x:O)
 | ia (d sz:Nat) (x i:O)
 | ix (d:Nat) (x i:O)
 | ixa (d sz n:Nat) (k:Option Nat) (x i:O)
 | sx (d sz:Nat) (x:O) (lo hi:Option O)
 | sxs (d:Nat) (x:O) (lo hi:Option O)
 | ex (d:Nat) (x:O) (i:Nat)
 | app (d e sz bytes:Nat) (x y:O)
 | apr (d e sz bytes:Nat) (x y:O)
 | mx (d:Nat) (x y:O)
 | mn (d:Nat) (x y:O)
 | non (d e sz:Nat)
 | ono (e sz k:Nat) (a:O)
 | ks (m:Nat) (l:List Nat)
 | mkm (d:Nat)
 | mk (d e sz bytes:Nat) (z:List V) (x:O)
 | lkp (d:Nat) (ks ok:Bool) (z:V) (m k:O)
 | mup (ks:Bool) (m k x:O)
 | lnm (d:Nat) (m:O)
 | lkq (d:Nat) (sh:List Bool) (ok:Bool) (z:V) (m k:O)
 | iaa (d sz n:Nat) (x i:O)
 | muq (sh:List Bool) (m k x:O)
 | eqs (d:Nat) (neg:Bool) (sh:List Bool) (x y:O)
 | noz (d e sz:Nat)
 | kt (l:List Nat)
 | kk (rs l:List Nat)
 | apz (d e sz bytes k:Nat) (y:O)
 | rg (d:Nat) (m:O)
 | en (d:Nat) (x:O)
 | rnon (d e sz:Nat)
 | rono (e sz k:Nat) (a:O)
 | frz (d:Nat)
 | e2r (d:Nat)
 | frc (k:Nat) (a:O)
def ZO (H:List Ob):V->Option V
 | .ro cs off=>cs[off]?
 | .ptr i off=>match H[i]? with
  | some (.cells _ cs)=>cs[off]?
  | _=>none
 | .rp i n k off=>match H[i]? with
  | some (.row _ _ els)=>if els.length=n then (els[k]?).bind fun el=>el[off]? else none
  | _=>none
 | _=>none
def Zc (k:Nat)(H:List Ob):V->Option V
 | .ro cs off=>if off+k<=cs.length then some (.agg (sub off k cs)) else none
 | .ptr i off=>match H[i]? with
  | some (.cells _ cs)=>if off+k<=cs.length then some (.agg (sub off k cs)) else none
  | _=>none
 | .rp i n j off=>match H[i]? with
  | some (.row _ _ els)=>if els.length=n then (els[j]?).bind fun el=>if off+k<=el.length then some (.agg (sub off k el)) else none else none
  | _=>none
 | _=>none
def TL (d:Nat)(H:List Ob):V->Option V
 | .ro cs off=>some (.ro cs (off+d))
 | .ptr i off=>match H[i]? with
  | some (.cells _ _)=>some (.ptr i (off+d))
  | _=>none
 | .rp i n k off=>some (.rp i n k (off+d))
 | _=>none
def lf (H:List Ob):V->Option V
 | .ro cs off=>some (.ro cs off)
 | .ptr i off=>match H[i]? with
  | some (.cells _ _)=>some (.ptr i off)
  | _=>none
 | .rp i n k off=>some (.rp i n k off)
 | _=>none
def mN (off:Nat)(k:Option Nat):V->Option V
 | .agg cs=>match k with
  | none=>cs[off]?
  | some k=>if off+k<=cs.length then some (.agg (sub off k cs)) else none
 | _=>none
def We:V->Option (List (List V))
 | .sl _ els | .own _ _ els=>some els
 | .nil=>some []
 | _=>none
def mK (sz:Nat)(x i:V):Option V :=
 match i with
 | .int _ n=>match x with
  | .sl z els | .own _ z els=>if z=sz/\0<=n/\n<els.length then some (.ro (els.getD n.toNat []) 0) else none
  | .rw j z m=>if z=sz/\0<=n/\n<m then some (.rp j m n.toNat 0) else none
  | _=>none
 | _=>none
def uF (s:List UInt8)(n:Nat):Int:=(s.getD n 0).toNat
def ixV (x i:V):Option V :=
 match x,i with
 | .str s,.int _ n=>if 0<=n/\n<s.length then some (.int .u8 (uF s n.toNat)) else none
 | _,_=>none
def mP (sz L:Nat)(k:Option Nat)(x i:V):Option V :=
 match i with
 | .int _ n=>if 0<=n/\n<L then mN (n.toNat*sz) k x else none
 | _=>none
def VY:V->Option V
 | .sl _ els | .own _ _ els=>some (.int .i64 els.length)
 | .nil=>some (.int .i64 0)
 | .rw _ _ n=>some (.int .i64 n)
 | _=>none
def fk:V->Option V
 | .str s=>some (.int .i64 s.length)
 | _=>none
def Mr (op:BinOp)(a b:Int):Option V :=
 match op with
 | .eql=>some (.bool (a==b))
 | .neq=>some (.bool (a != b))
 | .lss=>some (.bool (decide (a<b)))
 | .leq=>some (.bool (decide (a<=b)))
 | .gtr=>some (.bool (decide (b<a)))
 | .geq=>some (.bool (decide (b<=a)))
 | _=>none
def Hy (op:BinOp)(a b:List UInt8):Option V :=
 match op with
 | .add=>if a.length+b.length<=C0 then some (.str (a++b)) else none
 | .eql=>some (.bool (a==b))
 | .neq=>some (.bool (a != b))
 | .lss=>some (.bool (Op.bytesLess a b))
 | .leq=>some (.bool (Op.bytesLess a b||a==b))
 | .gtr=>some (.bool !(Op.bytesLess a b||a==b))
 | .geq=>some (.bool !(Op.bytesLess a b))
 | _=>none
def IZ (op:BinOp)(x y:V):Option V :=
 match x,y with
 | .int k a,.int k' b=>if k=k' then
   match op with
   | .add=>some (.int k (k.wrap (a+b)))
   | .sub=>some (.int k (k.wrap (a-b)))
   | .mul=>some (.int k (k.wrap (a*b)))
   | .quo=>if b=0 then none else some (.int k (k.wrap (a.tdiv b)))
   | .rem=>if b=0 then none else some (.int k (a.tmod b))
   | .shl | .shr=>none
   | op=>Mr op a b
  else none
 | .str a,.str b=>Hy op a b
 | _,_=>none
def shV (op:BinOp)(x y:V):Option V :=
 match x,y with
 | .int k a,.int _ b=>if b<0 then none else match op with
  | .shl=>some (.int k (k.wrap (a*2^(min b.toNat k.bits))))
  | .shr=>some (.int k (a.fdiv (2^(min b.toNat k.bits))))
  | _=>none
 | _,_=>none
def bbV (op:BinOp)(x y:V):Option V :=
 match x,y with
 | .bool a,.bool b=>match op with
  | .eql=>some (.bool (a==b))
  | .neq=>some (.bool (a != b))
  | _=>none
 | _,_=>none
def unV (op:UnOp)(x:V):Option V :=
 match op,x with
 | .not,.bool b=>some (.bool !b)
 | .neg,.int k n=>some (.int k (k.wrap (0-n)))
 | _,_=>none
def exV (i:Nat):V->Option V
 | .tup vs=>vs[i]?
 | _=>none
def tP (t:T):List (Nat×Nat×O)->List V->Option (List V)
 | [],z=>some z
 | (off,k,x)::ps,z=>match Kt (ev t x)with
  | some cs=>if cs.length=k/\off+k<=z.length then tP t ps (put off cs z) else none
  | none=>none
def gF (t:T)(sz:Nat):List O->Option (List (List V))
 | []=>some []
 | x::xs=>match Kt (ev t x)with
  | some cs=>if cs.length=sz then (gF t sz xs).map (AR (fun _=>none) cs::·) else none
  | none=>none
def dK (x:Option V)(n:Nat):Option Nat:=match x with
 | none=>some n
 | some (.int _ n)=>if 0<=n then some n.toNat else none
 | _=>none
def qW (x:V)(lo hi:Option V):Option V:=match x with
 | .str s=>match dK lo 0,dK hi s.length with
  | some l,some h=>if l<=h/\h<=s.length then some (.str ((s.drop l).take (h-l))) else none
  | _,_=>none
 | _=>none
def sxV (sz:Nat)(x:V)(lo hi:Option V):Option V:=match x with
 | .sl z els | .own _ z els=>match dK lo 0,dK hi els.length with
  | some l,some h=>if z=sz/\l<=h/\h<=els.length then some (.sl z ((els.drop l).take (h-l))) else none
  | _,_=>none
 | _=>none
def gY:List (List V)->Option (List UInt8)
 | []=>some []
 | [.int .u8 n]::r=>match gY r with
  | some l=>some (UInt8.ofNat n.toNat::l)
  | none=>none
 | _::_=>none
def Pb (H:List Ob)(e sz bytes:Nat)(x y:V):Option (V×List Ob) :=
 match x,We y with
 | .own i sz1 els,some new=>match H[i]? with
  | some (.arr e' sz' n)=>if sz1=sz/\sz'=sz/\e'=e/\n=els.length/\(∀ z∈new,z.length=sz)/\(els.length+new.length)*bytes<=Ah then some (.own i sz (els++new),H.set i (.arr e sz (els.length+new.length))) else none
  | _=>none
 | _,_=>none
def ez (H:List Ob)(e sz bytes:Nat)(x y:V):Option (V×List Ob) :=
 match x,We y with
 | .rw i z n,some new=>match H[i]? with
  | some (.row e' sz' els)=>if sz'=sz/\e'=e/\els.length=n/\(∀ z∈new,z.length=sz)/\(n+new.length)*bytes<=Ah then some (.rw i sz (n+new.length),H.set i (.row e sz (els++new))) else none
  | _=>none
 | _,_=>none
def HP:V->V->Option Bool
 | .int k a,.int k' b=>if k=k' then some (a==b) else none
 | .str a,.str b=>some (a==b)
 | _,_=>none
def FV (k:V):List (V×V)->Nat->Option (Option (Nat×V))
 | [],_=>some none
 | p::es,i=>match HP k p.1 with
  | some true=>some (some (i,p.2))
  | some false=>FV k es (i+1)
  | none=>none
def WK (k x:V)(es:List (V×V)):Option (List (V×V)):=match FV k es 0 with
 | some (some (i,_))=>some (es.set i (k,x))
 | some none=>some (es++[(k,x)])
 | none=>none
def Tp:List V->List V->Option Bool
 | [],[]=>some true
 | x::xs,y::ys=>match HP x y with
  | some true=>Tp xs ys
  | some false=>some false
  | none=>none
 | _,_=>none
def OU:V->V->Option Bool
 | .agg a,.agg b=>Tp a b
 | _,_=>none
def Ny (k:V):List (V×V)->Nat->Option (Option (Nat×V))
 | [],_=>some none
 | p::es,i=>match OU k p.1 with
  | some true=>some (some (i,p.2))
  | some false=>Ny k es (i+1)
  | none=>none
def ud (b:Bool):V->Bool
 | .str _=>b
 | .int ..=>!b
 | _=>false
def RD:List Bool->List V->Bool
 | [],[]=>true
 | b::sh,v::vs=>ud b v&&RD sh vs
 | _,_=>false
def uy (sh:List Bool):V->Bool
 | .agg cs=>RD sh cs
 | _=>false
def nu (k x:V)(es:List (V×V)):Option (List (V×V)):=match Ny k es 0 with
 | some (some (i,_))=>some (es.set i (k,x))
 | some none=>some (es++[(k,x)])
 | none=>none
def hX (neg:Bool)(sh:List Bool)(p q:V):Option V:=if uy sh p then match OU p q with
 | some b=>some (.bool (if neg then !b else b))
 | none=>none
 else none
def lv (ks:Bool):V->Bool
 | .str _=>ks
 | .int ..=>!ks
 | _=>false
def DA (H:List Ob):V->Option (List (V×V))
 | .nilm=>some []
 | .map i=>match H[i]? with
  | some (.map es)=>some es
  | _=>none
 | _=>none
def N4 (z:V)(ok:Bool)(f:Option (Nat×V)):V:=if ok then .tup [(match f with | some p=>p.2 | none=>z),.bool f.isSome] else (match f with | some p=>p.2 | none=>z)
def Lq (H:List Ob)(ks ok:Bool)(z m k:V):Option V :=
 if lv ks k then match DA H m with
  | some es=>match FV k es 0 with
   | some r=>some (N4 z ok r)
   | none=>none
  | none=>none
 else none
def VF (H:List Ob)(m:V):Option V:=(DA H m).map fun es=>.int .i64 es.length
def Rp (H:List Ob)(sh:List Bool)(ok:Bool)(z m k:V):Option V :=
 if uy sh k then match DA H m with
  | some es=>match Ny k es 0 with
   | some r=>some (N4 z ok r)
   | none=>none
  | none=>none
 else none
def bA (H:List Ob)(sz n:Nat)(x i:V):Option V:=match i with
 | .int _ m=>if 0<=m/\m<n then TL (m.toNat*sz) H x else none
 | _=>none
def vy (H:List Ob):V->Option V
 | .it j=>match H[j]? with
  | some (.iter (some i) n seen)=>match H[i]? with
   | some (.map es)=>if n=es.length then match seen.getLast? with
    | some k=>match es[k]? with
     | some p=>some (.tup [p.1,p.2])
     | none=>none
    | none=>none
    else none
   | _=>none
  | _=>none
 | _=>none
def AX (d:Nat)(o:Option V)(t:T)(H:List Ob):Option (T×List Ob):=match o with | some v=>some ((d,v)::t,H) | none=>none
def Qr (d:Nat)(o:Option (V×List Ob))(t:T):Option (T×List Ob):=match o with | some p=>some ((d,p.1)::t,p.2) | none=>none
def Ay (idx:List Nat)(i:Nat):Option Nat:=idx.findIdx? (·==i)
def give (idx:List Nat)(H:List Ob):List Ob:=idx.map fun i=>A5 (Ay idx) (H.getD i .dead)
def Aes:V->Option Nat
 | .own i _ _ | .ptr i _ | .map i | .it i | .rw i _ _ | .rp i _ _ _=>some i
 | _=>none
def tH (t:T):List Nat->Option (List Nat)
 | []=>some []
 | r::rs=>match Aes (lk t r)with
  | some i=>match tH t rs with
   | some l=>some (i::l)
   | none=>none
  | none=>none
def kkB (B n:Nat)(js:List Nat):Bool:=decide ((List.range B++js).Nodup)&&(List.range B++js).all fun i=>decide (i<n)
def Az (B:Nat)(i:I)(t:T)(H:List Ob):Option (T×List Ob) :=
 match i with
 | .mv d x=>some ((d,ev t x)::t,H)
 | .pick d c a b=>match ev t c with
  | .bool c=>some ((d,if c then ev t a else ev t b)::t,H)
  | _=>none
 | .al d e z=>some ((d,.ptr H.length 0)::t,H++[.cells e z])
 | .bx d e x=>match Kt (ev t x)with
  | some cs=>some ((d,.ptr H.length 0)::t,H++[.cells e cs])
  | none=>none
 | .br d e x=>match Kt (ev t x)with
  | some cs=>some ((d,.ro (AR (fun _=>none) cs) 0)::t,H)
  | none=>none
 | .sf d k x=>match lk t d with
  | .ptr i 0=>match H[i]? with
   | some (.cells e cs)=>match Kt (ev t x)with
    | some new=>if new.length=k/\cs.length=k then some ((d,.ro (AR (fun _=>none) new) 0)::t,H.set i .dead) else none
    | none=>none
   | _=>none
  | _=>none
 | .ld d x=>AX d (ZO H (ev t x)) t H
 | .ldr d x=>AX d (ZO [] (ev t x)) t H
 | .lar d k x=>AX d (Zc k [] (ev t x)) t H
 | .far d off x=>AX d (TL off [] (ev t x)) t H
 | .la d k x=>AX d (Zc k H (ev t x)) t H
 | .st k a x=>match ev t a with
  | .ptr i off=>match H[i]? with
   | some (.cells e cs)=>match Kt (ev t x)with
    | some new=>if new.length=k/\off+k<=cs.length then some (t,H.set i (.cells e (put off new cs))) else none
    | none=>none
   | _=>none
  | .rp i n j off=>match H[i]? with
   | some (.row e sz els)=>match Kt (ev t x)with
    | some new=>if els.length=n/\j<n/\new.length=k/\off+k<=sz then some (t,H.set i (.row e sz (els.set j (put off new (els.getD j []))))) else none
    | none=>none
   | _=>none
  | _=>none
 | .fa d off x=>AX d (TL off H (ev t x)) t H
 | .nc d x=>AX d (lf H (ev t x)) t H
 | .fd d off k x=>AX d (mN off k (ev t x)) t H
 | .bd d z ps=>AX d ((tP t ps z).map .agg) t H
 | .bs d sz xs=>AX d ((gF t sz xs).map (.sl sz)) t H
 | .bo d e sz xs=>match gF t sz xs with
  | some els=>some ((d,.own H.length sz els)::t,H++[.arr e sz els.length])
  | none=>none
 | .bin d op x y=>AX d (IZ op (ev t x) (ev t y)) t H
 | .bb d op x y=>AX d (bbV op (ev t x) (ev t y)) t H
 | .sh d op x y=>AX d (shV op (ev t x) (ev t y)) t H
 | .un d op x=>AX d (unV op (ev t x)) t H
 | .cvi d k x=>match ev t x with
  | .int _ n=>some ((d,.int k (k.wrap n))::t,H)
  | _=>none
 | .cvs d x=>match ev t x with
  | .str s=>some ((d,.str s)::t,H)
  | _=>none
 | .s2b d x=>match ev t x with
  | .str s=>if s.length<=Ah then some ((d,.sl 1 (s.map fun c=>[.int .u8 c.toNat]))::t,H) else none
  | _=>none
 | .b2s d x=>match We (ev t x)with
  | some els=>match gY els with
   | some l=>some ((d,.str l)::t,H)
   | none=>none
  | none=>none
 | .mf d g fst caps=>some ((d,.fn (.func g) (fst.map (ev t)) (caps.map (ev t)))::t,H)
 | .len d x=>AX d (VY (ev t x)) t H
 | .lens d x=>AX d (fk (ev t x)) t H
 | .ia d sz x i=>AX d (mK sz (ev t x) (ev t i)) t H
 | .ix d x i=>AX d (ixV (ev t x) (ev t i)) t H
 | .ixa d sz n k x i=>AX d (mP sz n k (ev t x) (ev t i)) t H
 | .sx d sz x lo hi=>AX d (sxV sz (ev t x) (lo.map (ev t)) (hi.map (ev t))) t H
 | .sxs d x lo hi=>AX d (qW (ev t x) (lo.map (ev t)) (hi.map (ev t))) t H
 | .ex d x i=>AX d (exV i (ev t x)) t H
 | .app d e sz bytes x y=>Qr d (Pb H e sz bytes (ev t x) (ev t y)) t
 | .apr d e sz bytes x y=>Qr d (ez H e sz bytes (ev t x) (ev t y)) t
 | .mx d x y=>match ev t x,ev t y with
  | .int k a,.int k' b=>if k=k' then some ((d,.int k (if b > a then b else a))::t,H) else none
  | _,_=>none
 | .mn d x y=>match ev t x,ev t y with
  | .int k a,.int k' b=>if k=k' then some ((d,.int k (if b<a then b else a))::t,H) else none
  | _,_=>none
 | .non d e sz=>match lk t d with
  | .nil=>some ((d,.own H.length sz [])::t,H++[.arr e sz 0])
  | _=>none
 | .ono e sz k a=>match ev t a with
  | .ptr i off=>match H[i]? with
   | some (.cells e' cs)=>match cs[off+k]? with
    | some .nil=>some (t,H.set i (.cells e' (put (off+k) [.own H.length sz []] cs))++[.arr e sz 0])
    | _=>none
   | _=>none
  | _=>none
 | .mkm d=>some ((d,.map H.length)::t,H++[.map []])
 | .mk d e sz bytes z x=>match ev t x with
  | .int _ n=>if 0<=n/\n.toNat<=Ah/\n.toNat*bytes<=Ah then some ((d,.rw H.length sz n.toNat)::t,H++[.row e sz (List.replicate n.toNat z)]) else none
  | _=>none
 | .lkp d ks ok z m k=>AX d (Lq H ks ok z (ev t m) (ev t k)) t H
 | .lnm d m=>AX d (VF H (ev t m)) t H
 | .lkq d sh ok z m k=>AX d (Rp H sh ok z (ev t m) (ev t k)) t H
 | .iaa d sz n x i=>AX d (bA H sz n (ev t x) (ev t i)) t H
 | .mup ks m k x=>match ev t m with
  | .map i=>match H[i]? with
   | some (.map es)=>if lv ks (ev t k) then match WK (ev t k) (ev t x) es with
    | some es'=>some (t,H.set i (.map es'))
    | none=>none
    else none
   | _=>none
  | _=>none
 | .muq sh m k x=>match ev t m with
  | .map i=>match H[i]? with
   | some (.map es)=>if uy sh (ev t k) then match nu (ev t k) (ev t x) es with
    | some es'=>some (t,H.set i (.map es'))
    | none=>none
    else none
   | _=>none
  | _=>none
 | .eqs d neg sh x y=>AX d (hX neg sh (ev t x) (ev t y)) t H
 | .apz d e sz bytes k y=>match lk t k with
  | .nil=>Qr d (Pb (H++[.arr e sz 0]) e sz bytes (.own H.length sz []) (ev t y)) t
  | .own _ _ _=>Qr d (Pb H e sz bytes (lk t k) (ev t y)) t
  | _=>none
 | .noz d e sz=>match lk t d with
  | .nil=>some ((d,.own H.length sz [])::t,H++[.arr e sz 0])
  | .own _ _ _=>some (t,H)
  | _=>none
 | .rg d m=>match ev t m with
  | .map i=>match H[i]? with
   | some (.map es)=>some ((d,.it H.length)::t,H++[.iter (some i) es.length []])
   | _=>none
  | _=>none
 | .en d x=>AX d (vy H (ev t x)) t H
 | .rnon d e sz=>match lk t d with
  | .nil=>some ((d,.rw H.length sz 0)::t,H++[.row e sz []])
  | _=>none
 | .rono e sz k a=>match ev t a with
  | .ptr i off=>match H[i]? with
   | some (.cells e' cs)=>match cs[off+k]? with
    | some .nil=>some (t,H.set i (.cells e' (put (off+k) [.rw H.length sz 0] cs))++[.row e sz []])
    | _=>none
   | _=>none
  | _=>none
 | .frz d=>match lk t d with
  | .rw i z n=>match H[i]? with
   | some (.row e sz els)=>if els.length=n then some ((d,.sl sz (els.map (AR fun _=>none)))::t,H.set i .dead) else none
   | _=>none
  | _=>none
 | .e2r d=>match lk t d with
  | .own i z []=>match H[i]? with
   | some (.arr e sz 0)=>if z=sz then some ((d,.rw H.length sz 0)::t,H.set i .dead++[.row e sz []]) else none
   | _=>none
  | _=>none
 | .frc k a=>match ev t a with
  | .ptr i off=>match H[i]? with
   | some (.cells e cs)=>match cs[off+k]? with
    | some (.rw j z n)=>match H[j]? with
     | some (.row e' sz els)=>if els.length=n then some (t,(H.set j .dead).set i (.cells e (put (off+k) [.sl sz (els.map (AR fun _=>none))] cs))) else none
     | _=>none
    | some (.sl _ _)=>some (t,H)
    | _=>none
   | _=>none
  | _=>none
 | .kt l=>some (l.map fun n=>(n,lk t n),H)
 | .kk rs l=>match tH t rs with
  | some js=>if kkB B H.length js then some (l.map fun n=>(n,ren (Ay (List.range B++js)) (lk t n)),give (List.range B++js) H) else none
  | none=>none
 | .ks m l=>some (l.map fun n=>(n,ren (AM (B+m)) (lk t n)),(H.take (B+m)).map (A5 (AM (B+m))))
inductive S where
 | op (i:I)
 | call (d:Option Nat) (f:Nat) (args:List O)
 | callv (d:Option Nat) (g:O) (args:List O)
 | gd (x:O) (b:Bool) (ds:List Nat) (l:List S)
 | callp (d:Option Nat) (f:Nat) (args:List O)
 | callvp (d:Option Nat) (g:O) (args:List O)
 | alt (ls:List (List Nat×List S))
 | nx (d:Nat) (x:O)
 | nl (d:Nat) (ne:Bool) (x:O)
namespace S
abbrev mv (d:Nat)(x:O):S:=.op (.mv d x)
abbrev pick (d:Nat)(c a b:O):S:=.op (.pick d c a b)
abbrev al (d e:Nat)(z:List V):S:=.op (.al d e z)
abbrev bx (d e:Nat)(x:O):S:=.op (.bx d e x)
abbrev br (d e:Nat)(x:O):S:=.op (.br d e x)
abbrev sf (d k:Nat)(x:O):S:=.op (.sf d k x)
abbrev ld (d:Nat)(x:O):S:=.op (.ld d x)
abbrev lar (d k:Nat)(x:O):S:=.op (.lar d k x)
abbrev far (d off:Nat)(x:O):S:=.op (.far d off x)
abbrev la (d k:Nat)(x:O):S:=.op (.la d k x)
abbrev st (k:Nat)(a x:O):S:=.op (.st k a x)
abbrev fa (d off:Nat)(x:O):S:=.op (.fa d off x)
abbrev nc (d:Nat)(x:O):S:=.op (.nc d x)
abbrev bd (d:Nat)(z:List V)(ps:List (Nat×Nat×O)):S:=.op (.bd d z ps)
abbrev bs (d sz:Nat)(xs:List O):S:=.op (.bs d sz xs)
abbrev bo (d e sz:Nat)(xs:List O):S:=.op (.bo d e sz xs)
abbrev bin (d:Nat)(op:BinOp)(x y:O):S:=.op (.bin d op x y)
abbrev bb (d:Nat)(op:BinOp)(x y:O):S:=.op (.bb d op x y)
abbrev sh (d:Nat)(op:BinOp)(x y:O):S:=.op (.sh d op x y)
abbrev un (d:Nat)(op:UnOp)(x:O):S:=.op (.un d op x)
abbrev cvi (d:Nat)(k:IntKind)(x:O):S:=.op (.cvi d k x)
abbrev s2b (d:Nat)(x:O):S:=.op (.s2b d x)
abbrev b2s (d:Nat)(x:O):S:=.op (.b2s d x)
abbrev mf (d g:Nat)(fst caps:List O):S:=.op (.mf d g fst caps)
abbrev len (d:Nat)(x:O):S:=.op (.len d x)
abbrev lens (d:Nat)(x:O):S:=.op (.lens d x)
abbrev ia (d sz:Nat)(x i:O):S:=.op (.ia d sz x i)
abbrev ix (d:Nat)(x i:O):S:=.op (.ix d x i)
abbrev ixa (d sz n:Nat)(k:Option Nat)(x i:O):S:=.op (.ixa d sz n k x i)
abbrev sx (d sz:Nat)(x:O)(lo hi:Option O):S:=.op (.sx d sz x lo hi)
abbrev sxs (d:Nat)(x:O)(lo hi:Option O):S:=.op (.sxs d x lo hi)
abbrev ex (d:Nat)(x:O)(i:Nat):S:=.op (.ex d x i)
abbrev app (d e sz bytes:Nat)(x y:O):S:=.op (.app d e sz bytes x y)
abbrev apr (d e sz bytes:Nat)(x y:O):S:=.op (.apr d e sz bytes x y)
abbrev mx (d:Nat)(x y:O):S:=.op (.mx d x y)
abbrev mn (d:Nat)(x y:O):S:=.op (.mn d x y)
abbrev non (d e sz:Nat):S:=.op (.non d e sz)
abbrev ono (e sz k:Nat)(a:O):S:=.op (.ono e sz k a)
abbrev mkm (d:Nat):S:=.op (.mkm d)
abbrev mk (d e sz bytes:Nat)(z:List V)(x:O):S:=.op (.mk d e sz bytes z x)
abbrev lkp (d:Nat)(ks ok:Bool)(z:V)(m k:O):S:=.op (.lkp d ks ok z m k)
abbrev lnm (d:Nat)(m:O):S:=.op (.lnm d m)
abbrev lkq (d:Nat)(sh:List Bool)(ok:Bool)(z:V)(m k:O):S:=.op (.lkq d sh ok z m k)
abbrev mup (ks:Bool)(m k x:O):S:=.op (.mup ks m k x)
abbrev muq (sh:List Bool)(m k x:O):S:=.op (.muq sh m k x)
abbrev eqs (d:Nat)(neg:Bool)(sh:List Bool)(x y:O):S:=.op (.eqs d neg sh x y)
abbrev noz (d e sz:Nat):S:=.op (.noz d e sz)
abbrev rg (d:Nat)(m:O):S:=.op (.rg d m)
abbrev en (d:Nat)(x:O):S:=.op (.en d x)
abbrev rnon (d e sz:Nat):S:=.op (.rnon d e sz)
abbrev frz (d:Nat):S:=.op (.frz d)
abbrev frc (k:Nat)(a:O):S:=.op (.frc k a)
end S
abbrev O.i (n:Int):O:=.c (.int .i64 n)
inductive C where
 | skip
 | reg (l:List S)
 | dr (π:List Nat) (l:List S)
 | gh (l:List I) (c:C)
 | seq (a b:C)
 | cond (x:O) (a b:C)
 | blk (id:Nat) (a:C)
 | loop (a:C)
 | exit (id:Nat)
 | ret
 | n (k:Nat)
 | rf (x:O) (ps:List Nat) (a b:C)
 | m (k:Nat)
 | bad
abbrev S.A (d a : Nat) : S := .mv d (.s a)
abbrev S.B (d a : Nat) : S := .ld d (.s a)
abbrev S.D (d k a : Nat) : S := .fa d k (.s a)
abbrev S.E (d k a : Nat) : S := .la d k (.s a)
abbrev S.F (d a i : Nat) : S := .ex d (.s a) i
abbrev S.G (d k a b : Nat) : S := .ia d k (.s a) (.s b)
abbrev S.J (d a : Nat) : S := .bin d .neq (.s a) (.i 0)
abbrev S.K (k a b : Nat) : S := .st k (.s a) (.s b)
abbrev S.L (d k a : Nat) : S := .sf d k (.s a)
abbrev S.M (d a b : Nat) : S := .pick d (.s a) (.c (.bool true)) (.s b)
abbrev S.N (d a b : Nat) : S := .pick d (.s a) (.s b) (.c (.bool false))
abbrev S.P (a : Nat)(b : Bool)(ds : List Nat)(l : List S) : S := .gd (.s a) b ds l
abbrev S.Q (d a : Nat) : S := .un d .not (.s a)
abbrev S.U (d f : Nat)(l : List O) : S := .callp (some d) f l
abbrev S.V (d : Nat)(o : BinOp)(a b : Nat) : S := .bin d o (.s a) (.s b)
abbrev S.X (d : Nat)(o : BinOp)(a : Nat)(i : Int) : S := .bin d o (.s a) (.i i)
abbrev S.Y (d a : Nat) : S := .len d (.s a)
abbrev S.Z (d e a : Nat) : S := .br d e (.s a)
abbrev C.R (l : List S)(c : C) : C := .seq (.reg l) c
abbrev C.J (a b : Nat) : C := .blk a (.loop (.n b))
abbrev CM : List V := [.str [],.bool false,.sl 3 []]
abbrev J2 : List V := [.int .i64 0,.str [],.bool false,.sl 4 []]
abbrev C.W (a : Nat)(c d : C) : C := .cond (.s a) c d
inductive K where
 | c (c:C)
 | r (l:List S)
 | mk (id:Nat)
 | br (l n:Nat)
def Ko (id:Nat):List K->Option (List K)
 | []=>none
 | .mk j::s=>if j=id then some s else Ko id s
 | _::s=>Ko id s
inductive X where
 | ret
 | fall
 | exit (id:Nat)
def Pq (idx:List Nat)(H H':List Ob):List Ob:=(List.range H.length).map fun i=>match Ay idx i with
 | some k=>H'.getD k .dead
 | none=>H.getD i .dead
def BY (idx:List Nat)(n:Nat)(k:Nat):Option Nat:=if k<idx.length then idx[k]? else some (n+(k-idx.length))
def takeB (idx:List Nat)(H H':List Ob):List Ob:=Pq idx H (H'.map (A5 (BY idx H.length)))++(H'.drop idx.length).map (A5 (BY idx H.length))
def FK (d:Option Nat)(v:V)(t:T):T:=match d with | some d=>(d,v)::t | none=>t
def Q4:List Nat->List V->T->T
 | p::ps,x::xs,t=>Q4 ps xs ((p,x)::t)
 | _,_,t=>t
def cut (n:Nat)(H:List Ob):List Ob:=(H.take n).map (A5 (AM (n+1)))
def eB:X->C
 | .ret=>.ret
 | .exit id=>.exit id
 | .fall=>.skip
def Yx (l n:Nat)(r:Loop)(ts:T)(next:List Ob->Prop)(stop:X->List Ob->Prop)(e:X)(t:T)(H:List Ob):Prop :=
 H[n]?=some (.lp l .busy r ts)/\match e with
  | .fall=>next (cut n H)
  | e=>stop e (cut n H)
inductive AB (P:Program) (N:Nat->C):Nat->List K->T->List Ob->(X->T->List Ob->Prop)->Prop
 | done {B t H Q}:Q .fall t H->AB P N B [] t H Q
 | skip {B s t H Q}:AB P N B s t H Q->AB P N B (.c .skip::s) t H Q
 | seq {B a b s t H Q}:AB P N B (.c a::.c b::s) t H Q->AB P N B (.c (.seq a b)::s) t H Q
 | reg {B l s t H Q}:AB P N B (.r l::s) t H Q->AB P N B (.c (.reg l)::s) t H Q
 | dr {B π l s t H Q}:AB P N B (.r l::s) t H Q->AB P N B (.c (.dr π l)::s) t H Q
 | gh {B l c s t H Q}:AB P N B (.r (l.map .op)::.c c::s) t H Q->AB P N B (.c (.gh l c)::s) t H Q
 | rend {B s t H Q}:AB P N B s t H Q->AB P N B (.r []::s) t H Q
 | op {B i l s t H Q} (t' H'):Az B i t H=some (t',H')->AB P N B (.r l::s) t' H' Q->AB P N B (.r (.op i::l)::s) t H Q
 | call {B d f args l s t H Q} (idx:List Nat) (R):idx.Nodup->(∀ i∈idx,i<H.length)->Spec P f (AR (Ay idx) (args.map (ev t))) (give idx H) R ->
   (∀ x H',R x H'->idx.length<=H'.length->AB P N B (.r l::s) (FK d (ren (BY idx H.length) x) t) (takeB idx H H') Q)->AB P N B (.r (.call d f args::l)::s) t H Q
 | callv {B d g args l s t H Q} (F:Fn) (fst caps:List V) (idx:List Nat) (R):ev t g=.fn F fst caps->((∃ f,F=.func f)\/caps=[])->idx.Nodup->(∀ i∈idx,i<H.length) ->
   GP P F (AR (Ay idx) (fst++args.map (ev t)++caps)) (give idx H) R ->
   (∀ x H',R x H'->idx.length<=H'.length->AB P N B (.r l::s) (FK d (ren (BY idx H.length) x) t) (takeB idx H H') Q)->AB P N B (.r (.callv d g args::l)::s) t H Q
 | callA {B d f args l s t H Q} (R):Spec P f (args.map (ev t)) H R->(∀ x H',R x H'->AB P N B (.r l::s) (FK d x t) H' Q)->AB P N B (.r (.call d f args::l)::s) t H Q
 | callvA {B d g args l s t H Q} (F:Fn) (fst caps:List V) (R):ev t g=.fn F fst caps->((∃ f,F=.func f)\/caps=[])->GP P F (fst++args.map (ev t)++caps) H R ->
   (∀ x H',R x H'->AB P N B (.r l::s) (FK d x t) H' Q)->AB P N B (.r (.callv d g args::l)::s) t H Q
 | callp {B d f args l s t H Q} (x:V):Spec P f (AR (fun _=>none) (args.map (ev t))) [] (fun x' H'=>x'=x/\H'=[])->AB P N B (.r l::s) (FK d (ren (fun _=>none) x) t) H Q->AB P N B (.r (.callp d f args::l)::s) t H Q
 | callvp {B d g args l s t H Q} (f:Nat) (fst caps:List V) (x:V):ev t g=.fn (.func f) fst caps->Spec P f (AR (fun _=>none) (fst++args.map (ev t)++caps)) [] (fun x' H'=>x'=x/\H'=[]) ->
   AB P N B (.r l::s) (FK d (ren (fun _=>none) x) t) H Q->AB P N B (.r (.callvp d g args::l)::s) t H Q
 | alt {B ls s t H Q}:(∀ p∈ls,AB P N B (.r p.2::s) t H Q)->AB P N B (.r [.alt ls]::s) t H Q
 | nx {B d x l s t H Q} (j i n:Nat) (seen:List Nat) (es:List (V×V)):ev t x=.it j->H[j]?=some (.iter (some i) n seen)->H[i]?=some (.map es)->n=es.length ->
   ((∀ k,k<n->k∈seen)->AB P N B (.r l::s) ((d,.tup [.bool false])::t) H Q) ->
   (∀ k p,es[k]?=some p->k∉seen->AB P N B (.r l::s) ((d,.tup [.bool true,p.1,p.2])::t) (H.set j (.iter (some i) n (seen++[k]))) Q)->AB P N B (.r (.nx d x::l)::s) t H Q
 | gd {B x b ds g l s t H Q} (c:Bool):ev t x=.bool c->AB P N B (.r ((if c=b then g else [])++l)::s) (if c=b then t else ds.map (fun d=>(d,V.tup []))++t) H Q->AB P N B (.r (.gd x b ds g::l)::s) t H Q
 | gdU {B x b ds g l s t H Q}:ev t x=.tup []->AB P N B (.r l::s) (ds.map (fun d=>(d,V.tup []))++t) H Q->AB P N B (.r (.gd x b ds g::l)::s) t H Q
 | cond {B x a b s t H Q} (c:Bool):ev t x=.bool c->AB P N B (.c (if c then a else b)::s) t H Q->AB P N B (.c (.cond x a b)::s) t H Q
 | blk {B id a s t H Q}:AB P N B (.c a::.mk id::s) t H Q->AB P N B (.c (.blk id a)::s) t H Q
 | mk {B id s t H Q}:AB P N B s t H Q->AB P N B (.mk id::s) t H Q
 | loop {B a s t H Q}:AB P N B (.c a::.c (.loop a)::s) t H Q->AB P N B (.c (.loop a)::s) t H Q
 | exit {B id s t H Q} (s'):Ko id s=some s'->AB P N B s' t H Q->AB P N B (.c (.exit id)::s) t H Q
 | exitX {B id s t H Q}:Ko id s=none->Q (.exit id) t H->AB P N B (.c (.exit id)::s) t H Q
 | ret {B s t H Q}:Q .ret t H->AB P N B (.c .ret::s) t H Q
 | n {B k s t H Q}:AB P N B (.c (N k)::s) t H Q->AB P N B (.c (.n k)::s) t H Q
 | m {B k s t H Q}:AB P N B (.c (N k)::s) t H Q->AB P N B (.c (.m k)::s) t H Q
 | nl {B d ne x l s t H Q} (els:List (List V)):We (ev t x)=some els->(∀ c:Bool,(c=true->els=[])->AB P N B (.r l::s) ((d,.bool (c != ne))::t) H Q)->AB P N B (.r (.nl d ne x::l)::s) t H Q
 | br {B l n r ts s t H Q}:H[n]?=some (.lp l .ready r ts)->AB P N B s t (H.set n (.lp l .busy r ts)) Q->AB P N B (.br l n::s) t H Q
 | rf {B x ps a b s t H Q} (f:Nat) (fst caps:List V) (items:List (List V)) (Good:Nat->List Ob->Prop) (Stop:X->List Ob->Prop):ev t x=.fn (.func f) fst caps->WJ P f fst caps items->(∀ it∈items,it.length=ps.length) ->
   Good 0 H->(t.map fun p=>(p.1,ren (AM H.length) p.2))=t->(∀ k H1,Good k H1->IU H.length H1)->(∀ e H1,Stop e H1->IU H.length H1) ->
   (∀ l r k it H1,items[k]?=some it->Good k H1->AB P N (H.length+1) [.c a,.br l H.length,.c b] (Q4 ps it t) (H1++[.lp l .ready r t]) (Yx l H.length r t (Good (k+1)) Stop)) ->
   (∀ H1,Good items.length H1->AB P N B s t (H1++[.dead]) Q)->(∀ e H1,Stop e H1->AB P N B (.c (eB e)::s) t (H1++[.dead]) Q)->AB P N B (.c (.rf x ps a b)::s) t H Q
inductive RV where
 | t (n:Nat)
 | c (n:Nat)
 | a (n k:Nat)
def rvV (t:T)(H:List Ob):RV->Option V
 | .t n=>some (lk t n)
 | .c n=>ZO H (lk t n)
 | .a n k=>Zc k H (lk t n)
def rvs (t:T)(H:List Ob):List RV->Option (List V)
 | []=>some []
 | r::rs=>match rvV t H r,rvs t H rs with
  | some x,some xs=>some (x::xs)
  | _,_=>none
def UG (rs:List RV)(t:T)(H:List Ob):Option V:=match rvs t H rs with
 | some [x]=>some x
 | some xs=>some (.tup xs)
 | none=>none
def Bx (B:Nat)(rs:List RV)(Q:V->List Ob->Prop)(e:X)(t:T)(H:List Ob):Prop :=
 (e=.ret\/e=.fall)/\((∃ x,UG rs t H=some x/\Q x H)\/∃ ex x,(List.range B++ex).Nodup/\(∀ i∈ex,i<H.length)/\UG rs t H=some x/\Q (ren (Ay (List.range B++ex)) x) (give (List.range B++ex) H))
end Go.Dw
section
namespace Go.Dw
def Oa (b:Nat):Deferred:={ target:=.collected b,args:=#[] }
def DOk (c0:Cx)(D:List Deferred)(c:Cx):Prop:=∀ d∈D,∃ b,d=Oa b/\c0.w.heap.size<=b/\c.w.heap[b]?=some (.deferred (some []))/\¬ c.owns b/\∀ o,¬ c.ok b o
structure rA (c0:Cx) (D:List Deferred) (c:Cx):Prop where
 fr:Fr c0 c
 marks:DOk c0 D c
 nodup:D.Nodup
theorem rA.trans {c0 c c':Cx}{D:List Deferred}(h:rA c0 D c)(hf:Fr c c'):rA c0 D c':=by
 refine⟨h.fr.trans hf,fun d hd=>?_,h.nodup⟩
 obtain⟨b,q1,q2,q3,q4,q5⟩:=h.marks d hd
 have hlt:=(Array.getElem?_eq_some_iff.1 q3).1
 refine⟨b,q1,q2,(hf.heap b hlt q4).trans q3,fun ho=>?_,fun o ho=>?_⟩
 ·rcases hf.own b ho with h | h
  ·exact q4 h
  ·omega
 ·rcases hf.okN b o ho with h | h | h
  ·exact q5 o h
  ·omega
  ·exact q4 h
def Sm (c0:Cx)(N:Nat)(D:List Deferred)(t:T)(H:List Ob)(a:Act)(w:World):Prop :=
 a.tmps.size=N/\a.defers=D/\∃ c,c.w=w/\c.H=H/\B5 c/\rA c0 D c/\∀ s x,find t s=some x->s<N/\BD c x (a.tmps.getD s undef)
def K4 (N:Nat)(c:Cx)(t:T)(a:Act):Prop:=∀ s x,find t s=some x->s<N/\BD c x (a.tmps.getD s undef)
theorem Ef {N c c' t a}(hf:Fr c c')(h:K4 N c t a):K4 N c' t a:=fun s x hs=>⟨(h s x hs).1,AW hf (h s x hs).2⟩
theorem Ke {N c t a}(h:K4 N c t a)(s:Nat):BD c (lk t s) (a.tmps.getD s undef):=by
 unfold lk
 cases hs:find t s with
 | none=>simp only[Option.getD_none,BD]
 | some x=>exact (h s x hs).2
theorem IA (a:Act)(d:Option Tmp)(v:Value):(a.put d v).tmps.size=a.tmps.size:=by cases d<;>simp[Act.put]
theorem Fj (a:Act)(d:Option Tmp)(v:Value):(a.put d v).defers=a.defers:=by cases d<;>simp[Act.put]
theorem oU (a:Act)(d s:Nat)(v:Value)(h:d<a.tmps.size):(a.put (some d) v).tmps.getD s undef=if d=s then v else a.tmps.getD s undef:=by
 simp only[Act.put,Array.getD_eq_getD_getElem?,Array.getElem?_setIfInBounds]
 by_cases e:d=s
 ·subst e;simp[h]
 ·simp[e]
theorem GT {N c t}{a:Act}(hN:a.tmps.size=N){d:Nat}(hd:d<N){x:V}{v:Value}(hx:BD c x v)(h:K4 N c t a):K4 N c ((d,x)::t) (a.put (some d) v):=by
 intro s y hs
 simp only[find]at hs
 rw[oU _ _ _ _ (by omega)]
 by_cases e:d=s
 ·subst e
  simp only[if_true]at hs ⊢
  cases hs
  exact⟨hd,hx⟩
 ·simp only[if_neg e]at hs ⊢
  exact h s y hs
theorem Xf {c0 N D t H a w}(h:Sm c0 N D t H a w){d:Nat}(hd:d<N){x:V}{v:Value}(hx:∀ c,c.w=w->c.H=H->K4 N c t a->B5 c->BD c x v):Sm c0 N D ((d,x)::t) H (a.put (some d) v) w:=by
 obtain⟨h1,h2,c,h3,h4,h5,h6,h7⟩:=h
 exact⟨by rw[IA];exact h1,by rw[Fj];exact h2,c,h3,h4,h5,h6,GT h1 hd (hx c h3 h4 h7 h5) h7⟩
def okC:Value->V->Bool
 | .int k n,.int k' n'=>k==k'&&n==n'
 | .bool b,.bool b'=>b==b'
 | .string s,.str s'=>s.data.toList==s'
 | .slice none 0 0,.nil=>true
 | .slice none 0 0,.sl _ []=>true
 | .pointer none,.nilp=>true
 | .map none,.nilm=>true
 | .nilFunc,.nilf=>true
 | _,_=>false
theorem cq {v:Value}{x:V}(h:okC v x=true)(c:Cx):BD c x v/\Co v=true:=by
 unfold okC at h
 split at h
 case h_5=>exact⟨by simp only[BD,Gv];exact⟨none,0,0,0,by simp,by simp,by simp,by simp,by simp,by simp[Ro]⟩,rfl⟩
 all_goals simp_all [BD,Co]
 subst h;rfl
def okZ:List Value->List V->Bool
 | [],[]=>true
 | v::vs,x::xs=>okC v x&&okZ vs xs
 | _,_=>false
theorem NV {c:Cx}:∀ {vs:List Value} {xs:List V},okZ vs xs=true->D2 c xs vs/\(∀ v∈vs,Co v=true)
 | [],[],_=>⟨rfl,by simp⟩
 | v::vs,x::xs,h=>by
  simp only[okZ,Bool.and_eq_true]at h
  obtain⟨h1,h2⟩:=cq h.1 c
  obtain⟨h3,h4⟩:=NV h.2 (c:=c)
  exact⟨⟨v,vs,rfl,h1,h3⟩,by simp;exact⟨h2,h4⟩⟩
def Bw:Operand->O->Bool
 | .tmp t,.s n=>t==n
 | .const (.agg vs),.c (.agg xs)=>okZ vs.toList xs
 | .const v,.c x=>okC v x
 | .func f,.f g=>f==g
 | _,_=>false
theorem At {N c t}{a:Act}(h:K4 N c t a){o:Operand}{y:O}(ho:Bw o y=true):BD c (ev t y) (a.eval o):=by
 unfold Bw at ho
 split at ho
 ·simp only[beq_iff_eq]at ho;subst ho;exact Ke h _
 ·obtain⟨h1,h2⟩:=NV ho (c:=c)
  exact⟨_,rfl,h1,h2⟩
 ·exact (cq ho c).1
 ·simp only[beq_iff_eq]at ho;subst ho
  exact⟨#[],#[],rfl,rfl,rfl⟩
 ·cases ho
def bV (P:Program)(t:TypeId):Bool:=match P.underlying t with
 | some (.struct _) | some (.array _ _)=>true
 | _=>false
def Ki (P:Program)(t:TypeId):Bool:=match P.underlying t with
 | some (.struct _) | some (.array _ _) | none=>false
 | _=>true
def bM (P:Program)(t:TypeId)(f off:Nat):Bool:=match P.underlying t with
 | some (.struct fs)=>match fs[f]? with
  | some g=>g.offset==off&&(match P.info? g.type with | some i=>i.size != 0 | none=>false)
  | none=>false
 | _=>false
def Sy (P:Program)(t:TypeId)(z:List V):Bool:=match P.info? t with
 | some i=>match i.zero with
  | some v=>okZ v.cells.toList z&&i.size==z.length
  | none=>false
 | none=>false
def DH (P:Program)(t k:Nat):Bool:=match P.info? t with
 | some i=>i.size==k
 | none=>false
theorem Q7 {P:Program}{t:TypeId}(h:bV P t=true)(w:World):(isAgg t).run P w=.ok true w:=by
 unfold bV at h
 cases hu:P.underlying t with
 | none=>simp[hu]at h
 | some d=>cases d<;>simp[hu]at h<;>simp[isAgg,run_underlying hu]
theorem OT {P:Program}{t:TypeId}(h:Ki P t=true)(w:World):(isAgg t).run P w=.ok false w:=by
 unfold Ki at h
 cases hu:P.underlying t with
 | none=>simp[hu]at h
 | some d=>cases d<;>simp[hu]at h<;>simp[isAgg,run_underlying hu]
theorem En {P:Program}{t k:Nat}(h:DH P t k=true)(w:World):(sizeOf t).run P w=.ok k w:=by
 unfold DH at h
 cases hi:P.info? t with
 | none=>simp[hi]at h
 | some i=>simp[hi]at h;simp[sizeOf,typeInfo,hi,h]
theorem TA (v:Value):v.oneCell'=Co v:=by cases v<;>rfl
theorem C1 {c:Cx}:∀ {xs:List V} {vs:List Value},D2 c xs vs->xs.length=vs.length
 | [],_,h=>by cases h;rfl
 | _::_,_,⟨v,vs',h1,_,h3⟩=>by rw[h1];simp[C1 h3]
theorem Fx {c:Cx}:∀ {xs:List V} {vs:List Value} {i:Nat} {x:V},D2 c xs vs->xs[i]?=some x->∃ v,vs[i]?=some v/\BD c x v
 | [],_,_,_,_,h=>by simp at h
 | _::_,_,i,x,⟨v,vs',h1,h2,h3⟩,h=>by
  subst h1
  cases i with
  | zero=>simp at h;subst h;exact⟨v,rfl,h2⟩
  | succ i=>simp at h ⊢;exact Fx h3 h
theorem jM {c:Cx}:∀ {xs:List V} {vs:List Value},xs.length=vs.length->(∀ (i:Nat)(x:V),xs[i]?=some x->∃ v,vs[i]?=some v/\BD c x v)->D2 c xs vs
 | [],[],_,_=>rfl
 | x::xs,v::vs,hl,h=>by
  obtain⟨v',h1,h2⟩:=h 0 x rfl
  simp at h1;subst h1
  exact⟨v,vs,rfl,h2,jM (by simpa using hl) fun i y hy=>by have:=h (i+1) y (by simpa using hy);simpa using this⟩
theorem Ot {c:Cx}{x:V}{cs:List V}{v:Value}(h:Kt x=some cs)(hr:BD c x v):D2 c cs v.cells.toList/\∀ u∈v.cells.toList,Co u=true:=by
 cases x<;>simp only[Kt,Option.some.injEq,reduceCtorEq]at h
 case agg l=>subst h;obtain⟨vs,rfl,h2,h3⟩:=hr;exact⟨h2,h3⟩
 all_goals subst h
 case int=>cases hr;exact⟨⟨_,[],rfl,rfl,rfl⟩,by simp[Value.cells,Co]⟩
 case bool=>cases hr;exact⟨⟨_,[],rfl,rfl,rfl⟩,by simp[Value.cells,Co]⟩
 case str=>cases hr;exact⟨⟨_,[],rfl,rfl,rfl⟩,by simp[Value.cells,Co]⟩
 case nil=>cases hr;exact⟨⟨_,[],rfl,rfl,rfl⟩,by simp[Value.cells,Co]⟩
 case nilp=>cases hr;exact⟨⟨_,[],rfl,rfl,rfl⟩,by simp[Value.cells,Co]⟩
 case nilm=>cases hr;exact⟨⟨_,[],rfl,rfl,rfl⟩,by simp[Value.cells,Co]⟩
 case nilf=>cases hr;exact⟨⟨_,[],rfl,rfl,rfl⟩,by simp[Value.cells,Co]⟩
 case sl sz els=>have h0:=hr;obtain⟨a,cp,b,o,rfl,_⟩:=hr;exact⟨⟨_,[],rfl,h0,rfl⟩,by simp[Value.cells,Co]⟩
 case ro l off=>have h0:=hr;obtain⟨b,o,rfl,_⟩:=hr;exact⟨⟨_,[],rfl,h0,rfl⟩,by simp[Value.cells,Co]⟩
 case fn f a l=>have h0:=hr;obtain⟨va,vc,rfl,_⟩:=hr;exact⟨⟨_,[],rfl,h0,rfl⟩,by simp[Value.cells,Co]⟩
 case own i sz els=>have h0:=hr;obtain⟨⟨a,cp,b,o,rfl,_⟩,_⟩:=hr;exact⟨⟨_,[],rfl,h0,rfl⟩,by simp[Value.cells,Co]⟩
 case ptr i off=>have h0:=hr;obtain⟨_,⟨a,rfl⟩,_⟩:=hr;exact⟨⟨_,[],rfl,h0,rfl⟩,by simp[Value.cells,Co]⟩
 case map i=>have h0:=hr;obtain⟨_,⟨a,rfl⟩,_⟩:=hr;exact⟨⟨_,[],rfl,h0,rfl⟩,by simp[Value.cells,Co]⟩
 case it i=>have h0:=hr;obtain⟨_,⟨a,rfl⟩,_⟩:=hr;exact⟨⟨_,[],rfl,h0,rfl⟩,by simp[Value.cells,Co]⟩
 case rw i z n=>have h0:=hr;obtain⟨_,⟨a,k,rfl,_⟩,_⟩:=hr;exact⟨⟨_,[],rfl,h0,rfl⟩,by simp[Value.cells,Co]⟩
 case rp i n k off=>have h0:=hr;obtain⟨_,⟨a,a2,rfl⟩,_⟩:=hr;exact⟨⟨_,[],rfl,h0,rfl⟩,by simp[Value.cells,Co]⟩
theorem ZW {w:World}{ok:Nat->Nat->Prop}{b o:Nat}:∀ {xs:List V} {k i:Nat} {x:V},Pm w ok b o xs k->xs[i]?=some x ->
  ∃ v,w.cell? ⟨b,o+(k+i),none⟩=some v/\ok b (o+(k+i))/\Co v=true/\Gv w ok x v
 | [],_,_,_,_,h=>by simp at h
 | y::ys,k,i,x,⟨h1,h2⟩,h=>by
  cases i with
  | zero=>simp at h;subst h;exact h1
  | succ i =>
   simp at h
   have:=ZW h2 h
   rwa [show k+1+i=k+(i+1) by omega]at this
theorem IF {w:World}{ok:Nat->Nat->Prop}{b o:Nat}:∀ {xs:List V} {k:Nat},(∀ (i:Nat)(x:V),xs[i]?=some x->∃ v,w.cell? ⟨b,o+(k+i),none⟩=some v/\ok b (o+(k+i))/\Co v=true/\Gv w ok x v)->Pm w ok b o xs k
 | [],_,_=>trivial
 | y::ys,k,h=>⟨by have:=h 0 y rfl;simpa using this,IF fun i x hx=>by have:=h (i+1) x (by simpa using hx);rwa [show k+(i+1)=k+1+i by omega]at this⟩
theorem La {w:World}{ok:Nat->Nat->Prop}{b o sz:Nat}:∀ {es:List (List V)} {k i:Nat} {e:List V},Ro w ok b o sz es k->es[i]?=some e->e.length=sz/\Pm w ok b (o+(k+i)*sz) e 0
 | [],_,_,_,_,h=>by simp at h
 | y::ys,k,i,x,⟨h1,h2,h3⟩,h=>by
  cases i with
  | zero=>simp at h;subst h;exact⟨h1,h2⟩
  | succ i =>
   simp at h
   have:=La h3 h
   rwa [show k+1+i=k+(i+1) by omega]at this
theorem Ie {w:World}{ok:Nat->Nat->Prop}{b o sz:Nat}:∀ {es:List (List V)} {k:Nat},(∀ (i:Nat)(e:List V),es[i]?=some e->e.length=sz/\Pm w ok b (o+(k+i)*sz) e 0)->Ro w ok b o sz es k
 | [],_,_=>trivial
 | y::ys,k,h=>⟨(h 0 y rfl).1,by have:=(h 0 y rfl).2;simpa using this,Ie fun i x hx=>by have:=h (i+1) x (by simpa using hx);rwa [show k+(i+1)=k+1+i by omega]at this⟩
theorem JU (σ:Nat->Option Nat):∀ xs:List V,(AR σ xs).length=xs.length
 | []=>rfl
 | x::xs=>by simp[AR,JU σ xs]
theorem LX (σ:Nat->Option Nat):∀ (xs:List V)(i:Nat),(AR σ xs)[i]?=(xs[i]?).map (ren σ)
 | [],i=>by simp[AR]
 | x::xs,0=>by simp[AR]
 | x::xs,i+1=>by simp[AR,LX σ xs i]
theorem BV {w:World}{b:Nat}{vs:Array Value}{e:TypeId}{fz:Nat×Nat}(h:w.heap[b]?=some (.cells vs e fz))(o:Nat):w.cell? ⟨b,o,none⟩=vs[o]?:=by simp[World.cell?,h]
def lG (c:Cx)(b o:Nat)(cs:List V):Prop:=∀ (i:Nat)(x:V),cs[i]?=some x->∃ v,c.w.cell? ⟨b,o+i,none⟩=some v/\Co v=true/\BD c x v
theorem rU {c:Cx}{cs:List V}{off:Nat}{v:Value}(h:BD c (.ro cs off) v):∃ b o,v=.pointer (some ⟨b,o+off,none⟩)/\lG c b o cs:=by
 obtain⟨b,o,rfl,h2⟩:=h
 refine⟨b,o,rfl,fun i x hx=>?_⟩
 obtain⟨v,q1,q2,q3,q4⟩:=ZW h2 hx
 exact⟨v,by simpa using q1,q3,EY q4⟩
theorem SF {c:Cx}(hc:B5 c){i off:Nat}{e:Nat}{cs:List V}{v:Value}(h:BD c (.ptr i off) v)(hi:c.H[i]?=some (.cells e cs)) :
  ∃ b vs,v=.pointer (some ⟨b,off,none⟩)/\c.ρ i=some (b,0)/\c.w.heap[b]?=some (.cells vs e (0,0))/\vs.size=cs.length/\(∀ o,¬ c.ok b o)/\lG c b 0 cs:=by
 obtain⟨_,_,h3⟩:=h
 obtain⟨b,k,h4,h5⟩:=h3 _ _ hi
 have ho:=hc.obj i _ hi
 obtain⟨b',vs,q1,q2,q3,q4,q5⟩:=ho
 rw[h4]at q1;cases q1
 refine⟨b,vs,h5,h4,q2,q3,q4,fun j x hx=>?_⟩
 obtain⟨v',p1,p2,p3⟩:=q5 j x hx
 exact⟨v',by rw[BV q2];simpa using p1,p2,p3⟩
theorem P0 {P:Program}{t:TypeId}(hp:Ki P t=true){w:World}{a:Addr}{v:Value}(h:w.cell? a=some v):(loadVar t a).run P w=.ok v w:=by
 simp[loadVar,OT hp,h]
theorem P3 {P:Program}{t k:TypeId}(hp:bV P t=true)(hs:DH P t k=true){w:World}{b o:Nat}{vs:List Value}(hl:vs.length=k)(h:∀ (j:Nat)(v:Value),vs[j]?=some v->w.cell? ⟨b,o+j,none⟩=some v) :
  (loadVar t ⟨b,o,none⟩).run P w=.ok (.agg vs.toArray) w:=by
 have:=run_loadCells_list (P:=P) w ⟨b,o,none⟩ vs (fun j v hv=>by rw[Addr.add_lit];exact h j v hv)
 rw[hl]at this
 simp[loadVar,Q7 hp,En hs,this]
theorem US {c:Cx}{b o:Nat}{cs:List V}(h:lG c b o cs){off k:Nat}(hk:off+k<=cs.length) :
  ∃ vs:List Value,vs.length=k/\(∀ (j:Nat)(v:Value),vs[j]?=some v->c.w.cell? ⟨b,o+off+j,none⟩=some v)/\BD c (.agg (sub off k cs)) (.agg vs.toArray):=by
 induction k generalizing off with
 | zero=>exact⟨[],rfl,by simp,⟨#[],rfl,by simp[sub,D2],by simp⟩⟩
 | succ k ih =>
  obtain⟨vs,h1,h2,vs',h3,h4,h5⟩:=ih (off:=off+1) (by omega)
  have hx:cs[off]?=some cs[off]:=List.getElem?_eq_getElem (by omega)
  obtain⟨v,q1,q2,q3⟩:=h off _ hx
  cases h3
  refine⟨v::vs,by simp[h1],?_,⟨_,rfl,?_,?_⟩⟩
  ·intro j u hu
   cases j with
   | zero=>simp at hu;subst hu;simpa using q1
   | succ j =>
    simp at hu
    have:=h2 j u hu
    rwa [show o+(off+1)+j=o+off+(j+1) by omega]at this
  ·have:sub off (k+1) cs=cs[off]::sub (off+1) k cs:=by
    simp only[sub]
    rw[List.drop_eq_getElem_cons (by omega)]
    rfl
   rw[this]
   exact⟨v,vs,rfl,q3,h4⟩
  ·intro u hu
   rcases List.mem_cons.1 (by simpa using hu)with e | e
   ·subst e;exact q2
   ·exact h5 u (by simpa using e)
def D0 (P:Program)(c0:Cx)(N:Nat)(D:List Deferred)(o:Oper)(a:Act)(w:World)(t':T)(H':List Ob):Prop :=
 ∃ v w',((execOp a.eval o).run P w=.ok (.value v) w'\/(v=undef/\(execOp a.eval o).run P w=.ok .skip w'))/\Sm c0 N D t' H' (a.put o.dst v) w'
section
variable {P:Program} {c0:Cx} {N:Nat} {D:List Deferred} {o:Oper} {a:Act} {w:World} {t:T} {H:List Ob}
theorem AP {d:Nat}(hs:Sm c0 N D t H a w)(hd:o.dst=some d)(hn:d<N){x:V}{v:Value}(hr:(execOp a.eval o).run P w=.ok (.value v) w)(hx:∀ c,c.w=w->c.H=H->K4 N c t a->B5 c->BD c x v) :
  D0 P c0 N D o a w ((d,x)::t) H:=⟨v,w,.inl hr,by rw[hd];exact Xf hs hn hx⟩
theorem kQ {d:Nat}{x:O}{y:Operand}(hs:Sm c0 N D t H a w)(hd:o.dst=some d)(hn:d<N)(ho:o.op=.move y\/o.op=.assign y)(hx:Bw y x=true):D0 P c0 N D o a w ((d,ev t x)::t) H:=by
 refine AP hs hd hn (v:=a.eval y) ?_ (fun c _ _ ht _=>At ht hx)
 rcases ho with ho | ho<;>simp[execOp,ho]
theorem Jq {x:O}{y:Operand}(hs:Sm c0 N D t H a w)(hx:Bw y x=true):∃ c,c.w=w/\c.H=H/\B5 c/\K4 N c t a/\BD c (ev t x) (a.eval y):=by
 obtain⟨_,_,c,h3,h4,h5,_,h7⟩:=hs
 exact⟨c,h3,h4,h5,h7,At h7 hx⟩
theorem oe {d:Nat}{xc xa xb:O}{yc ya yb:Operand}(hs:Sm c0 N D t H a w)(hd:o.dst=some d)(hn:d<N)(ho:o.op=.pick yc ya yb)(h1:Bw yc xc=true)(h2:Bw ya xa=true)(h3:Bw yb xb=true)
  {cb:Bool} (hc:ev t xc=.bool cb):D0 P c0 N D o a w ((d,if cb then ev t xa else ev t xb)::t) H:=by
 obtain⟨c,_,_,_,_,hr⟩:=Jq hs h1
 rw[hc]at hr
 have hr':a.eval yc=.bool cb:=hr
 refine AP hs hd hn (v:=if cb then a.eval ya else a.eval yb) ?_ (fun c _ _ ht _=>?_)
 ·simp[execOp,ho,hr',asBool]
 ·cases cb
  ·exact At ht h3
  ·exact At ht h2
theorem O6 {d:Nat}(hs:Sm c0 N D t H a w)(hn:d<N){x:V}{v:Value}{w':World}{H':List Ob}
  (h:∀ c,c.w=w->c.H=H->B5 c->K4 N c t a->∃ c',c'.w=w'/\c'.H=H'/\B5 c'/\Fr c c'/\BD c' x v):Sm c0 N D ((d,x)::t) H' (a.put (some d) v) w':=by
 obtain⟨h1,h2,c,h3,h4,h5,h6,h7⟩:=hs
 obtain⟨c',q1,q2,q3,q4,q5⟩:=h c h3 h4 h5 h7
 exact⟨by rw[IA];exact h1,by rw[Fj];exact h2,c',q1,q2,q3,h6.trans q4,GT h1 hn q5 (Ef q4 h7)⟩
theorem kL {c:Cx}(hc:B5 c){e:Nat}{cs:List V}{vs:Array Value}(hr:D2 c cs vs.toList)(h1:∀ v∈vs.toList,Co v=true) :
  B5 (c.addOwn (.cells vs e (0,0)) (.cells e cs) 0 fun _=>False)/\Fr c (c.addOwn (.cells vs e (0,0)) (.cells e cs) 0 fun _=>False)/\BD (c.addOwn (.cells vs e (0,0)) (.cells e cs) 0 fun _=>False) (.ptr c.H.length 0) (.pointer (some ⟨c.w.heap.size,0,none⟩)):=by
 have hf:=HQ hc (.cells vs e (0,0)) (.cells e cs) 0 fun _=>False
 refine⟨HI hc _ _ _ _ ?_,hf,?_⟩
 ·refine⟨c.w.heap.size,vs,rfl,?_,?_,fun o ho=>?_,fun i x hx=>?_⟩
  ·exact heap_alloc_new _ _
  ·have:=C1 hr;simpa using this.symm
  ·exact absurd (hc.okLt _ _ (ho.resolve_right (by simp))) (Nat.lt_irrefl _)
  ·obtain⟨v,q1,q2⟩:=Fx hr hx
   exact⟨v,by simpa using q1,h1 v (List.mem_of_getElem? q1),AW hf q2⟩
 ·refine⟨by simp[Cx.addOwn],⟨_,rfl⟩,fun e' cs' h=>⟨c.w.heap.size,0,Av _ _ _,rfl⟩⟩
theorem wL {d e:Nat}{z:List V}(hs:Sm c0 N D t H a w)(hd:o.dst=some d)(hn:d<N)(ho:o.op=.alloc e)(hz:Sy P e z=true):D0 P c0 N D o a w ((d,.ptr H.length 0)::t) (H++[.cells e z]):=by
 unfold Sy at hz
 cases hi:P.info? e with
 | none=>simp[hi]at hz
 | some i =>
  cases hv:i.zero with
  | none=>simp[hi,hv]at hz
  | some v =>
   simp only[hi,hv,Bool.and_eq_true,beq_iff_eq]at hz
   refine⟨.pointer (some ⟨w.heap.size,0,none⟩),w.alloc (.cells v.cells e (0,0)),.inl ?_,?_⟩
   ·simp[execOp,ho,Instr.alloc,zeroValue,typeInfo,hi,hv,newVar,newRow]
   ·rw[hd]
    refine O6 hs hn fun c h3 h4 h5 _=>?_
    obtain⟨q1,q2⟩:=NV hz.1 (c:=c)
    obtain⟨p1,p2,p3⟩:=kL h5 (e:=e) q1 q2
    subst h3 h4
    exact⟨_,rfl,rfl,p1,p2,p3⟩
theorem wa {d e:Nat}{x:O}{y:Operand}{cs:List V}(hs:Sm c0 N D t H a w)(hd:o.dst=some d)(hn:d<N)(ho:o.op=.box e y)(hx:Bw y x=true)(hc:Kt (ev t x)=some cs) :
  D0 P c0 N D o a w ((d,.ptr H.length 0)::t) (H++[.cells e cs]):=by
 refine⟨.pointer (some ⟨w.heap.size,0,none⟩),w.alloc (.cells (a.eval y).cells e (0,0)),.inl ?_,?_⟩
 ·simp[execOp,ho,Instr.box,newVar,newRow]
 ·rw[hd]
  refine O6 hs hn fun c h3 h4 h5 ht=>?_
  obtain⟨q1,q2⟩:=Ot hc (At ht hx)
  obtain⟨p1,p2,p3⟩:=kL h5 (e:=e) q1 q2
  subst h3 h4
  exact⟨_,rfl,rfl,p1,p2,p3⟩
theorem Aa4 {c:Cx}(hc:B5 c){e:Nat}{cs:List V}{vs:Array Value}(fz:Nat×Nat)(hr:D2 c cs vs.toList)(h1:∀ v∈vs.toList,Co v=true) :
  B5 (c.addRo (.cells vs e fz))/\Fr c (c.addRo (.cells vs e fz))/\Pm (c.addRo (.cells vs e fz)).w (c.addRo (.cells vs e fz)).ok c.w.heap.size 0 (AR (fun _=>none) cs) 0:=by
 have hf:=PI hc (.cells vs e fz)
 refine⟨RR hc _,hf,IF fun i x hx=>?_⟩
 rw[LX]at hx
 cases hy:cs[i]? with
 | none=>simp[hy]at hx
 | some y =>
  simp[hy]at hx
  subst hx
  obtain⟨v,q1,q2⟩:=Fx hr hy
  refine⟨v,?_,.inr rfl,h1 v (List.mem_of_getElem? q1),W6 (AW hf q2)⟩
  simp only[Cx.addRo]
  rw[BV (vs:=vs) (e:=e) (fz:=fz) (by simp)]
  simpa using q1
theorem yv {d e:Nat}{x:O}{y:Operand}{cs:List V}(hs:Sm c0 N D t H a w)(hd:o.dst=some d)(hn:d<N)(ho:o.op=.box e y)(hx:Bw y x=true)(hc:Kt (ev t x)=some cs) :
  D0 P c0 N D o a w ((d,.ro (AR (fun _=>none) cs) 0)::t) H:=by
 refine⟨.pointer (some ⟨w.heap.size,0,none⟩),w.alloc (.cells (a.eval y).cells e (0,0)),.inl ?_,?_⟩
 ·simp[execOp,ho,Instr.box,newVar,newRow]
 ·rw[hd]
  refine O6 hs hn fun c h3 h4 h5 ht=>?_
  obtain⟨q1,q2⟩:=Ot hc (At ht hx)
  obtain⟨p1,p2,p3⟩:=Aa4 h5 (e:=e) (0,0) q1 q2
  subst h3 h4
  exact⟨c.addRo (.cells (a.eval y).cells e (0,0)),rfl,rfl,p1,p2,_,0,rfl,p3⟩
theorem tn {c:Cx}(hc:B5 c){i n k off e sz:Nat}{els:List (List V)}{v:Value}(h:BD c (.rp i n k off) v)(hi:c.H[i]?=some (.row e sz els))(hl:els.length=n) :
  ∃ b m vs,v=.pointer (some ⟨b,k*sz+off,none⟩)/\c.ρ i=some (b,m)/\c.w.heap[b]?=some (.cells vs e (0,0))/\vs.size=m*sz/\els.length<=m/\(∀ o,¬ c.ok b o)/\LY c sz els vs:=by
 obtain⟨_,_,h3⟩:=h
 obtain⟨b,m,h4,h5⟩:=(h3 _ _ _ hi).2 hl
 have ho:=hc.obj i _ hi
 obtain⟨vs,q1,q2,q3,q4,q5,q6⟩:=ho.2 b m h4
 exact⟨b,m,vs,h5,h4,q1,q2,q3,q5,q6⟩
theorem qm {c:Cx}(hc:B5 c){i n k off e sz:Nat}{els:List (List V)}{el:List V}{v:Value}(h:BD c (.rp i n k off) v)(hi:c.H[i]?=some (.row e sz els))(hl:els.length=n)(hk:els[k]?=some el) :
  ∃ b,v=.pointer (some ⟨b,k*sz+off,none⟩)/\lG c b (k*sz) el:=by
 obtain⟨b,m,vs,q1,q2,q3,q4,q5,q6,q7⟩:=tn hc h hi hl
 refine⟨b,q1,fun j x hx=>?_⟩
 obtain⟨u,r1,r2,r3⟩:=(q7 k el hk).2 j x hx
 exact⟨u,by rw[BV q3];exact r1,r2,r3⟩
theorem XR {c:Cx}(hc:B5 c){p x:V}{v:Value}(h:ZO c.H p=some x)(hr:BD c p v):∃ b o u,v=.pointer (some ⟨b,o,none⟩)/\c.w.cell? ⟨b,o,none⟩=some u/\BD c x u:=by
 unfold ZO at h
 split at h
 ·obtain⟨b,o,rfl,h2⟩:=rU hr
  obtain⟨u,q1,q2,q3⟩:=h2 _ _ h
  exact⟨b,_,u,rfl,q1,q3⟩
 ·split at h
  ·rename_i i off _ e cs hi
   obtain⟨b,vs,rfl,_,_,_,_,h2⟩:=SF hc hr hi
   obtain⟨u,q1,q2,q3⟩:=h2 _ _ h
   exact⟨b,_,u,rfl,by simpa using q1,q3⟩
  ·cases h
 ·split at h
  ·rename_i i n k off _ e sz els hi
   split at h
   ·rename_i hl
    cases hk:els[k]? with
    | none=>simp[hk]at h
    | some el =>
     simp only[hk,Option.bind_some]at h
     obtain⟨b,rfl,h2⟩:=qm hc hr hi hl hk
     obtain⟨u,q1,q2,q3⟩:=h2 _ _ h
     exact⟨b,_,u,rfl,q1,q3⟩
   ·cases h
  ·cases h
 ·cases h
theorem lD {d:Nat}{ty:TypeId}{x:O}{y:Operand}{r:V}(hs:Sm c0 N D t H a w)(hd:o.dst=some d)(hn:d<N)(ho:o.op=.load ty y)(hp:Ki P ty=true)(hx:Bw y x=true)(hr:ZO H (ev t x)=some r) :
  D0 P c0 N D o a w ((d,r)::t) H:=by
 obtain⟨_,_,c,h3,h4,h5,_,h7⟩:=id hs
 subst h3 h4
 obtain⟨b,off,u,q1,q2,q3⟩:=XR h5 hr (At h7 hx)
 refine AP hs hd hn (v:=u) ?_ (fun c' h3' h4' ht' hc'=>?_)
 ·simp[execOp,ho,Instr.loadAt,q1,Instr.sureAddr,P0 hp q2]
 ·rw[<-h4']at hr
  obtain⟨b',o',u',p1,p2,p3⟩:=XR hc' hr (At ht' hx)
  rw[q1]at p1;cases p1
  rw[h3',q2]at p2;cases p2
  exact p3
theorem Y3 {c:Cx}(hc:B5 c){k:Nat}{p x:V}{v:Value}(h:Zc k c.H p=some x)(hr:BD c p v) :
  ∃ (b o:Nat) (vs:List Value),v=.pointer (some ⟨b,o,none⟩)/\vs.length=k/\(∀ (j:Nat)(u:Value),vs[j]?=some u->c.w.cell? ⟨b,o+j,none⟩=some u)/\BD c x (.agg vs.toArray):=by
 cases p<;>simp only[Zc,reduceCtorEq]at h
 case ro cs off =>
  by_cases hk:off+k<=cs.length
  ·rw[if_pos hk]at h
   cases h
   obtain⟨b,o,rfl,h2⟩:=rU hr
   obtain⟨vs,q1,q2,q3⟩:=US h2 hk
   exact⟨b,_,vs,rfl,q1,q2,q3⟩
  ·rw[if_neg hk]at h;cases h
 case ptr i off =>
  split at h
  ·rename_i e cs hi
   by_cases hk:off+k<=cs.length
   ·rw[if_pos hk]at h
    cases h
    obtain⟨b,vs,rfl,_,_,_,_,h2⟩:=SF hc hr hi
    obtain⟨vs,q1,q2,q3⟩:=US h2 hk
    exact⟨b,_,vs,rfl,q1,by simpa using q2,q3⟩
   ·rw[if_neg hk]at h;cases h
  ·cases h
 case rp i n j off =>
  split at h
  ·rename_i e sz els hi
   split at h
   ·rename_i hl
    cases hj:els[j]? with
    | none=>simp[hj]at h
    | some el =>
     simp only[hj,Option.bind_some]at h
     by_cases hk:off+k<=el.length
     ·rw[if_pos hk]at h
      cases h
      obtain⟨b,rfl,h2⟩:=qm hc hr hi hl hj
      obtain⟨vs,q1,q2,q3⟩:=US h2 hk
      exact⟨b,_,vs,rfl,q1,q2,q3⟩
     ·rw[if_neg hk]at h;cases h
   ·cases h
  ·cases h
theorem kc {d k:Nat}{ty:TypeId}{x:O}{y:Operand}{r:V}(hs:Sm c0 N D t H a w)(hd:o.dst=some d)(hn:d<N)(ho:o.op=.load ty y)(hp:bV P ty=true)(hk:DH P ty k=true)(hx:Bw y x=true)(hr:Zc k H (ev t x)=some r) :
  D0 P c0 N D o a w ((d,r)::t) H:=by
 obtain⟨_,_,c,h3,h4,h5,_,h7⟩:=id hs
 subst h3 h4
 obtain⟨b,off,vs,q1,q2,q3,q4⟩:=Y3 h5 hr (At h7 hx)
 refine AP hs hd hn (v:=.agg vs.toArray) ?_ (fun c' h3' h4' ht' hc'=>?_)
 ·simp[execOp,ho,Instr.loadAt,q1,Instr.sureAddr,P3 hp hk q2 q3]
 ·rw[<-h4']at hr
  obtain⟨b',o',vs',p1,p2,p3,p4⟩:=Y3 hc' hr (At ht' hx)
  rw[q1]at p1;cases p1
  have:vs=vs':=by
   apply List.ext_getElem?
   intro j
   by_cases hj:j<k
   ·have a1:=q3 j _ (List.getElem?_eq_getElem (by omega))
    have a2:=p3 j _ (List.getElem?_eq_getElem (by omega))
    rw[h3',a1]at a2
    rw[List.getElem?_eq_getElem (by omega),List.getElem?_eq_getElem (by omega),a2]
   ·rw[List.getElem?_eq_none (by omega),List.getElem?_eq_none (by omega)]
  subst this
  exact p4
theorem XU {P:Program}{f:Field}{i:TypeInfo}(hi:P.info? f.type=some i)(hz:i.size≠0)(w:World)(b o:Nat):(fieldPlace ⟨b,o,none⟩ f).run P w=.ok ⟨b,o+f.offset,none⟩ w:=by
 simp[fieldPlace,sizeOf,typeInfo,hi,hz,Addr.add_lit]
theorem rc {off:Nat}{x:O}{y:Operand}{r:V}(hs:Sm c0 N D t H a w)(hx:Bw y x=true)(hr:TL off H (ev t x)=some r) :
  ∃ b o',a.eval y=.pointer (some ⟨b,o',none⟩)/\∀ c,c.w=w->c.H=H->K4 N c t a->B5 c->BD c r (.pointer (some ⟨b,o'+off,none⟩)):=by
 obtain⟨_,_,c,h3,h4,h5,_,h7⟩:=id hs
 have hrep:=At h7 hx
 cases hp:ev t x with
 | ro cs o1 =>
  rw[hp]at hr hrep;cases hr
  obtain⟨b,o2,q1,q2⟩:=hrep
  refine⟨b,o2+o1,q1,fun c' h3' h4' h7' h5'=>?_⟩
  have h:=At h7' hx
  rw[hp,q1]at h
  obtain⟨b',o',e1,e2⟩:=h
  simp only[Value.pointer.injEq,Option.some.injEq,Addr.mk.injEq,and_true]at e1
  obtain⟨rfl,e1⟩:=e1
  exact⟨b,o',by rw[e1,Nat.add_assoc],e2⟩
 | ptr j o1 =>
  rw[hp]at hr hrep
  simp only[TL]at hr
  split at hr
  case h_2=>cases hr
  rename_i e cs hj
  cases hr
  subst h4
  obtain⟨b,vs,q1,q2,_⟩:=SF h5 hrep hj
  refine⟨b,o1,q1,fun c' h3' h4' h7' h5'=>?_⟩
  have h:=At h7' hx
  rw[hp]at h
  obtain⟨e1,e2,e3⟩:=h
  refine⟨e1,⟨_,rfl⟩,fun e' cs' hh=>?_⟩
  obtain⟨b',k',p1,p2⟩:=e3 e' cs' hh
  rw[q1]at p2;cases p2
  exact⟨b,k',p1,rfl⟩
 | rp j n k o1 =>
  rw[hp]at hr hrep
  cases hr
  obtain⟨_,⟨b,o2,q1⟩,_⟩:=hrep
  refine⟨b,o2,q1,fun c' h3' h4' h7' h5'=>?_⟩
  have h:=At h7' hx
  rw[hp]at h
  obtain⟨e1,e2,e3⟩:=h
  refine⟨e1,⟨_,_,rfl⟩,fun e' sz' els' hh=>⟨(e3 _ _ _ hh).1,fun hl'=>?_⟩⟩
  obtain⟨b',k',p1,p2⟩:=(e3 _ _ _ hh).2 hl'
  rw[q1]at p2
  simp only[Value.pointer.injEq,Option.some.injEq,Addr.mk.injEq,and_true]at p2
  obtain⟨rfl,p2⟩:=p2
  exact⟨_,k',p1,by simp only[Value.pointer.injEq,Option.some.injEq,Addr.mk.injEq,and_true,true_and];omega⟩
 | _=>rw[hp]at hr;cases hr
theorem ku {d off ty f:Nat}{x:O}{y:Operand}{r:V}(hs:Sm c0 N D t H a w)(hd:o.dst=some d)(hn:d<N)(ho:o.op=.fieldAddr ty y f)(hf:bM P ty f off=true)(hx:Bw y x=true)(hr:TL off H (ev t x)=some r) :
  D0 P c0 N D o a w ((d,r)::t) H:=by
 unfold bM at hf
 cases hu:P.underlying ty with
 | none=>simp[hu]at hf
 | some ds =>
  cases ds<;>simp only[hu,Bool.false_eq_true]at hf
  rename_i fs
  cases hg:fs[f]? with
  | none=>simp[hg]at hf
  | some g =>
   cases hi:P.info? g.type with
   | none=>simp[hg,hi]at hf
   | some i =>
    simp only[hg,hi,Bool.and_eq_true,beq_iff_eq,bne_iff_ne]at hf
    obtain⟨hf1,hf2⟩:=hf
    obtain⟨b,o',q1,q2⟩:=rc hs hx hr
    refine AP hs hd hn (v:=.pointer (some ⟨b,o'+off,none⟩)) ?_ q2
    simp[execOp,ho,Instr.fieldAt,run_underlying hu,hg,q1,Instr.sureAddr,XU hi hf2,hf1]
theorem xT {d i:Nat}{x:O}{y:Operand}{r:V}(hs:Sm c0 N D t H a w)(hd:o.dst=some d)(hn:d<N)(ho:o.op=.extract y i)(hx:Bw y x=true)(hr:exV i (ev t x)=some r):D0 P c0 N D o a w ((d,r)::t) H:=by
 cases hp:ev t x<;>rw[hp]at hr<;>simp only[exV,reduceCtorEq]at hr
 rename_i vs
 obtain⟨c,_,_,_,_,hrep⟩:=Jq hs hx
 rw[hp]at hrep
 obtain⟨us,q1,q2⟩:=hrep
 obtain⟨u,q3,_⟩:=Fx q2 hr
 refine AP hs hd hn (v:=u) ?_ (fun c' _ _ h7 _=>?_)
 ·simp at q3;simp[execOp,ho,Instr.extract,q1,q3]
 ·have h:=At h7 hx
  rw[hp,q1]at h
  obtain⟨us',e1,e2⟩:=h
  cases e1
  obtain⟨u',p1,p2⟩:=Fx e2 hr
  rw[q3]at p1;cases p1;exact p2
theorem td {d ty e:Nat}{x:O}{y:Operand}{r:V}(hs:Sm c0 N D t H a w)(hd:o.dst=some d)(hn:d<N)(ho:o.op=.call { callee:=.builtin .len,args:=#[y],argTypes:=#[ty] })
  (hu:P.underlying ty=some (.slice e)) (hx:Bw y x=true) (hr:VY (ev t x)=some r):D0 P c0 N D o a w ((d,r)::t) H:=by
 obtain⟨c,_,_,_,_,hrep⟩:=Jq hs hx
 cases hp:ev t x<;>rw[hp]at hr hrep<;>simp only[VY,reduceCtorEq]at hr<;>cases hr
 ·have hv:a.eval y=.slice none 0 0:=hrep
  refine AP hs hd hn (v:=.int .i64 0) ?_ (fun _ _ _ _ _=>rfl)
  simp[execOp,ho,resolve,invoke,builtin,Builtin.len_,run_underlying hu,hv,goInt]
 ·obtain⟨ad,cp,b,o',hv,_⟩:=hrep
  refine AP hs hd hn (v:=.int .i64 _) ?_ (fun _ _ _ _ _=>rfl)
  simp[execOp,ho,resolve,invoke,builtin,Builtin.len_,run_underlying hu,hv,goInt]
 ·obtain⟨⟨ad,cp,b,o',hv,_⟩,_⟩:=hrep
  refine AP hs hd hn (v:=.int .i64 _) ?_ (fun _ _ _ _ _=>rfl)
  simp[execOp,ho,resolve,invoke,builtin,Builtin.len_,run_underlying hu,hv,goInt]
 ·obtain⟨_,⟨ad,cp,hv,_⟩,_⟩:=hrep
  refine AP hs hd hn (v:=.int .i64 _) ?_ (fun _ _ _ _ _=>rfl)
  simp[execOp,ho,resolve,invoke,builtin,Builtin.len_,run_underlying hu,hv,goInt]
theorem mr {d ty:Nat}{x:O}{y:Operand}{r:V}(hs:Sm c0 N D t H a w)(hd:o.dst=some d)(hn:d<N)(ho:o.op=.call { callee:=.builtin .len,args:=#[y],argTypes:=#[ty] })
  (hu:P.underlying ty=some .string) (hx:Bw y x=true) (hr:fk (ev t x)=some r):D0 P c0 N D o a w ((d,r)::t) H:=by
 obtain⟨c,_,_,_,_,hrep⟩:=Jq hs hx
 cases hp:ev t x<;>rw[hp]at hr hrep<;>simp only[fk,reduceCtorEq]at hr<;>cases hr
 have hv:a.eval y=.string ⟨⟨_⟩⟩:=hrep
 refine AP hs hd hn (v:=.int .i64 _) ?_ (fun _ _ _ _ _=>rfl)
 simp[execOp,ho,resolve,invoke,builtin,Builtin.len_,run_underlying hu,hv,goInt]
 rfl
theorem uT {d g:Nat}{fst caps:List O}{yf yc:Array Operand}(hs:Sm c0 N D t H a w)(hd:o.dst=some d)(hn:d<N)(ho:o.op=.makeFunc (.func g) yf yc)
  (h1:(yf.toList.zip fst).all (fun p=>Bw p.1 p.2)=true) (h1l:yf.size=fst.length) (h2:(yc.toList.zip caps).all (fun p=>Bw p.1 p.2)=true) (h2l:yc.size=caps.length) :
  D0 P c0 N D o a w ((d,.fn (.func g) (fst.map (ev t)) (caps.map (ev t)))::t) H:=by
 refine AP hs hd hn (v:=.func (.func g) (yf.map a.eval) (yc.map a.eval)) ?_ (fun c _ _ h7 _=>?_)
 ·simp[execOp,ho,Instr.makeFunc]
 ·have key:∀ (ys:List Operand)(xs:List O),(ys.zip xs).all (fun p=>Bw p.1 p.2)=true->ys.length=xs.length->D2 c (xs.map (ev t)) (ys.map a.eval):=by
   intro ys
   induction ys with
   | nil=>intro xs _ hl;cases xs with
    | nil=>rfl
    | cons=>simp at hl
   | cons y ys ih=>intro xs h hl;cases xs with
    | nil=>simp at hl
    | cons x xs =>
     simp only[List.zip_cons_cons,List.all_cons,Bool.and_eq_true]at h
     exact⟨_,_,rfl,At h7 h.1,ih xs h.2 (by simpa using hl)⟩
  exact⟨_,_,rfl,by simpa using key yf.toList fst h1 (by simpa using h1l),by simpa using key yc.toList caps h2 (by simpa using h2l)⟩
end
theorem uV {c:Cx}(hc:B5 c){e sz k:Nat}{els:List (List V)}{vs:Array Value}(hv:vs.size=k*sz)(hk:els.length<=k)(hm:k<=C0)(hm2:els.length<=Ah)(h1:∀ v∈vs.toList,Co v=true)
  (hr:∀ (i:Nat)(e:List V),els[i]?=some e->e.length=sz/\∀ (j:Nat)(y:V),e[j]?=some y->∃ v,vs[i*sz+j]?=some v/\Gv c.w c.ok y v) :
  let c':=c.addOwn (.cells vs e (0,0)) (.arr e sz els.length) k fun o=>o<els.length*sz
  B5 c'/\Fr c c'/\BD c' (.own c.H.length sz els) (.slice (some ⟨c.w.heap.size,0,none⟩) els.length k):=by
 have hf:=HQ hc (.cells vs e (0,0)) (.arr e sz els.length) k fun o=>o<els.length*sz
 refine⟨HI hc _ _ _ _ ⟨by simp,fun b k' hb=>?_⟩,hf,⟨⟨_,_,c.w.heap.size,0,rfl,hk,hm,hm2,.inr rfl,Ie fun i x hx=>?_⟩,by simp[Cx.addOwn],fun e' sz' n hn=>?_⟩⟩
 ·cases hb
  refine⟨vs,by exact heap_alloc_new _ _,hv,hk,hm,fun o ho h=>?_⟩
  rcases h with h | h
  ·exact absurd (hc.okLt _ _ h) (Nat.lt_irrefl _)
  ·omega
 ·obtain⟨p1,p2⟩:=hr i x hx
  refine⟨p1,IF fun j y hj=>?_⟩
  obtain⟨v,r1,r2⟩:=p2 j y hj
  have hi:i<els.length:=(List.getElem?_eq_some_iff.1 hx).1
  have hjl:j<sz:=by have:=(List.getElem?_eq_some_iff.1 hj).1;omega
  have hmul:(i+1)*sz<=els.length*sz:=Nat.mul_le_mul_right _ (by omega)
  rw[Nat.add_mul,Nat.one_mul]at hmul
  refine⟨v,?_,.inr ⟨rfl,by simp;omega⟩,h1 v (by simpa using List.mem_of_getElem? (l:=vs.toList) (by simpa using r1)),Eb hf.cell hf.okS r2⟩
  simp only[Cx.addOwn]
  rw[BV (vs:=vs) (e:=e) (fz:=(0,0)) (by simp)]
  simpa using r1
 ·simp[Cx.addOwn]at hn
  obtain⟨_,rfl,rfl⟩:=hn
  exact⟨rfl,Nat.le_refl _,fun _=>by simp[Cx.addOwn,dw,Av]⟩
theorem Zg (off:Nat):∀ (us:List Value)(j:Nat)(cs:Array Value),off+j+us.length<=cs.size ->
  ((us.zipIdx j).foldl (fun (cs:Array Value) (p:Value×Nat)=>cs.setIfInBounds (off+p.2) p.1) cs).toList=cs.toList.take (off+j)++us++cs.toList.drop (off+j+us.length)
 | [],j,cs,h=>by simp
 | u::us,j,cs,h=>by
  simp only[List.length_cons]at h
  simp only[List.zipIdx_cons,List.foldl_cons]
  rw[Zg off us (j+1) _ (by simp;omega)]
  simp only[Array.toList_setIfInBounds,List.length_cons]
  apply List.ext_getElem?
  intro i
  simp only[List.getElem?_append,List.length_append,List.length_take,List.length_set,Array.length_toList,List.getElem?_take,List.getElem?_drop,List.getElem?_set,List.length_cons]
  have e1:min (off+(j+1)) cs.size=off+j+1:=by omega
  have e2:min (off+j) cs.size=off+j:=by omega
  simp only[e1,e2]
  by_cases c1:i<off+j
  ·simp[show i<off+j+1 by omega,c1,show i<off+(j+1) by omega,show off+j≠i by omega,show i<off+j+1+us.length by omega,show i<off+j+(us.length+1) by omega]
  ·by_cases c2:i=off+j
   ·subst c2
    simp[show off+j<off+j+1+us.length by omega,show off+j<cs.size by omega,show off+j<off+(j+1) by omega]
   ·by_cases c3:i<off+j+1+us.length
    ·have e3:i-(off+j)=(i-(off+j+1))+1:=by omega
     simp[c3,show ¬ i<off+j+1 by omega,c1,show i<off+j+(us.length+1) by omega,e3]
    ·simp[c3,show ¬ i<off+j+(us.length+1) by omega]
     rw[if_neg (by omega)]
     congr 1
     omega
theorem Re (off:Nat)(us cs:Array Value)(h:off+us.size<=cs.size) :
  (us.zipIdx.foldl (fun (cs:Array Value) (p:Value×Nat)=>cs.setIfInBounds (off+p.2) p.1) cs).toList=cs.toList.take off++us.toList++cs.toList.drop (off+us.size):=by
 have:=Zg off us.toList 0 cs (by simpa using h)
 simp only[Nat.add_zero,Array.length_toList]at this
 rw[<-this,<-Array.foldl_toList,Array.toList_zipIdx]
theorem FZ {c:Cx}:∀ {xs ys:List V} {us vs:List Value},D2 c xs us->D2 c ys vs->D2 c (xs++ys) (us++vs)
 | [],_,_,_,h,h'=>by cases h;exact h'
 | x::xs,_,_,_,⟨v,vs',h1,h2,h3⟩,h'=>by subst h1;exact⟨v,_,rfl,h2,FZ h3 h'⟩
theorem Uo {c:Cx}:∀ {xs:List V} {us:List Value} (n:Nat),D2 c xs us->D2 c (xs.take n) (us.take n)
 | [],_,n,h=>by cases h;simp[D2]
 | x::xs,_,0,_=>by simp[D2]
 | x::xs,_,n+1,⟨v,vs',h1,h2,h3⟩=>by subst h1;exact⟨v,_,rfl,h2,Uo n h3⟩
theorem U4 {c:Cx}:∀ {xs:List V} {us:List Value} (n:Nat),D2 c xs us->D2 c (xs.drop n) (us.drop n)
 | [],_,n,h=>by cases h;simp[D2]
 | x::xs,us,0,h=>by simpa using h
 | x::xs,_,n+1,⟨v,vs',h1,h2,h3⟩=>by subst h1;exact U4 n h3
theorem eU {c:Cx}{off:Nat}{news zs:List V}{nl zl:List Value}(h1:D2 c news nl)(h2:D2 c zs zl):D2 c (put off news zs) (zl.take off++nl++zl.drop (off+nl.length)):=by
 have:=C1 h1
 unfold put
 rw[this]
 exact FZ (FZ (Uo _ h2) h1) (U4 _ h2)
theorem LV {off:Nat}{news zs:List V}(h:off+news.length<=zs.length):(put off news zs).length=zs.length:=by
 simp only[put,List.length_append,List.length_take,List.length_drop];omega
theorem kR {off:Nat}{nl zl:List Value}{v:Value}(h:v∈zl.take off++nl++zl.drop (off+nl.length)):v∈nl\/v∈zl:=by
 simp only[List.mem_append]at h
 rcases h with (h | h) | h
 ·exact .inr (List.mem_of_mem_take h)
 ·exact .inl h
 ·exact .inr (List.mem_of_mem_drop h)
def okP (place:Nat->Option (Nat×Nat)):List (Nat×Operand)->List (Nat×Nat×O)->Bool
 | [],[]=>true
 | (i,y)::ys,(off,k,x)::xs=>place i==some (off,k)&&Bw y x&&okP place ys xs
 | _,_=>false
theorem fZ {N:Nat}{a:Act}{t:T}{c:Cx}(ht:K4 N c t a)(place:Nat->Option (Nat×Nat)):∀ (ys:List (Nat×Operand)) (ps:List (Nat×Nat×O)) (zs:List V) (zl:Array Value) (r:List V),
  okP place ys ps=true->tP t ps zs=some r->D2 c zs zl.toList->(∀ v∈zl.toList,Co v=true) ->
  ∃ rl,Instr.fill place zl (ys.map fun p=>(p.1,a.eval p.2))=some rl/\D2 c r rl.toList/\(∀ v∈rl.toList,Co v=true)
 | [],[],zs,zl,r,_,hb,h1,h2=>by cases hb;exact⟨zl,rfl,h1,h2⟩
 | [],_::_,_,_,_,h,_,_,_=>by simp[okP]at h
 | _::_,[],_,_,_,h,_,_,_=>by simp[okP]at h
 | (i,y)::ys,(off,k,x)::ps,zs,zl,r,h,hb,h1,h2=>by
  simp only[okP,Bool.and_eq_true,beq_iff_eq]at h
  obtain⟨⟨hp,hx⟩,hrest⟩:=h
  simp only[tP]at hb
  cases hs:Kt (ev t x)with
  | none=>simp[hs]at hb
  | some cs =>
   simp only[hs]at hb
   split at hb
   ·rename_i hk
    obtain⟨q1,q2⟩:=Ot hs (At ht hx)
    have hl:=C1 q1
    have hz:=C1 h1
    simp only[Array.length_toList]at hl hz
    have hsz:(a.eval y).cells.size=k:=by omega
    have hfit:off+(a.eval y).cells.size<=zl.size:=by omega
    obtain⟨rl,p1,p2,p3⟩:=fZ ht place ys ps (put off cs zs) (zl.toList.take off++(a.eval y).cells.toList++zl.toList.drop (off+(a.eval y).cells.toList.length)).toArray r hrest hb
     (by simpa using eU (off:=off) q1 h1) (by
      intro v hv
      rcases kR (off:=off) (nl:=(a.eval y).cells.toList) (zl:=zl.toList) (v:=v) hv with e | e
      ·exact q2 v e
      ·exact h2 v e)
    refine⟨rl,?_,p2,p3⟩
    have hset:=Re off (a.eval y).cells zl hfit
    simp only[List.map_cons,Instr.fill,hp]
    rw[if_neg (by simp[hsz];omega)]
    have:(a.eval y).cells.zipIdx.foldl (fun (cs:Array Value) (p:Value×Nat)=>cs.setIfInBounds (off+p.2) p.1) zl=(zl.toList.take off++(a.eval y).cells.toList++zl.toList.drop (off+(a.eval y).cells.toList.length)).toArray:=by
     apply Array.ext'
     rw[hset]
     simp
    rw[<-p1,<-this]
   ·cases hb
def cd (P:Program)(t:TypeId):Option (Nat->Option (Nat×Nat)):=match P.underlying t with
 | some (.struct fs)=>(fs.toList.mapM fun f=>(P.info? f.type).map fun i=>(f.offset,i.size)).map fun l=>(l.toArray[·]?)
 | some (.array _ e)=>(P.info? e).map fun i=>fun k=>some (k*i.size,i.size)
 | _=>none
section
variable {P:Program} {c0:Cx} {N:Nat} {D:List Deferred} {o:Oper} {a:Act} {w:World} {t:T} {H:List Ob}
theorem ve {d ty:Nat}{z:List V}{ps:List (Nat×Nat×O)}{ys:Array (Nat×Operand)}{places:Nat->Option (Nat×Nat)}{r:List V}(hs:Sm c0 N D t H a w)(hd:o.dst=some d)(hn:d<N)(ho:o.op=.build ty ys)
  (hz:Sy P ty z=true) (hp:cd P ty=some places) (hy:okP places ys.toList ps=true) (hr:tP t ps z=some r):D0 P c0 N D o a w ((d,.agg r)::t) H:=by
 unfold Sy at hz
 cases hi:P.info? ty with
 | none=>simp[hi]at hz
 | some i =>
  cases hv:i.zero with
  | none=>simp[hi,hv]at hz
  | some zv =>
   simp only[hi,hv,Bool.and_eq_true,beq_iff_eq]at hz
   have key:∀ c,K4 N c t a->∃ rl,P.built ty (ys.toList.map fun p=>(p.1,a.eval p.2))=some rl/\BD c (.agg r) (.agg rl):=by
    intro c ht
    obtain⟨z1,z2⟩:=NV hz.1 (c:=c)
    obtain⟨rl,p1,p2,p3⟩:=fZ ht places ys.toList ps z zv.cells r hy hr z1 z2
    refine⟨rl,?_,⟨rl,rfl,p2,p3⟩⟩
    unfold cd at hp
    cases hu:P.underlying ty with
    | none=>simp[hu]at hp
    | some ds =>
     cases ds<;>simp only[hu,reduceCtorEq]at hp
     case struct fs =>
      cases hm:fs.toList.mapM fun f=>(P.info? f.type).map fun i=>(f.offset,i.size)with
      | none=>simp[hm]at hp
      | some l =>
       simp only[hm,Option.map_some,Option.some.injEq]at hp
       subst hp
       simp only[Program.built,hi,hu,hv,hm]
       exact p1
     case array n e =>
      cases he:P.info? e with
      | none=>simp[he]at hp
      | some ie =>
       simp only[he,Option.map_some,Option.some.injEq]at hp
       subst hp
       simp only[Program.built,hi,hu,hv,he]
       exact p1
   obtain⟨_,_,c,_,_,_,_,h7⟩:=id hs
   obtain⟨rl,p1,_⟩:=key c h7
   refine AP hs hd hn (v:=.agg rl) ?_ (fun c' _ _ h7' _=>?_)
   ·have:(ys.map fun (i,x)=>(i,a.eval x)).toList=ys.toList.map fun p=>(p.1,a.eval p.2):=by simp
    simp only[execOp,ho,Sem.run_bind]
    rw[run_build w ty _ rl (by rw[this];exact p1)]
    simp
   ·obtain⟨rl',p1',p2'⟩:=key c' h7'
    rw[p1]at p1';cases p1';exact p2'
def Ra (P:Program)(t e:Nat):Bool:=match P.underlying t with
 | some (.slice e')=>e'==e
 | _=>false
theorem O1 {t e:Nat}(h:Ra P t e=true):P.underlying t=some (.slice e):=by
 unfold Ra at h
 cases hu:P.underlying t with
 | none=>simp[hu]at h
 | some d=>cases d<;>simp[hu]at h;rw[h]
def sliceB (P:Program)(t e sz:Nat):Bool:=Ra P t e&&(match P.info? e with
 | some i=>i.size==sz&&(match i.zero with | some z=>z.cells.all Co&&z.cells.size==sz | none=>false)
 | none=>false)
def ut:List (Nat×Operand)->List O->Nat->Bool
 | [],[],_=>true
 | (i,y)::ys,x::xs,k=>i==k&&Bw y x&&ut ys xs (k+1)
 | _,_,_=>false
theorem aY {c:Cx}(ht:K4 N c t a)(sz:Nat):∀ (ys:List (Nat×Operand)) (xs:List O) (k L:Nat) (els:List (List V)) (cur:Array Value),ut ys xs k=true->gF t sz xs=some els ->
  cur.size=L*sz->k+xs.length<=L->(∀ v∈cur.toList,Co v=true) ->
  ∃ fin:Array Value,Instr.fill (fun i=>some (i*sz,sz)) cur (ys.map fun p=>(p.1,a.eval p.2))=some fin/\fin.size=L*sz/\(∀ v∈fin.toList,Co v=true)/\els.length=xs.length/\(∀ p,p<k*sz->fin[p]?=cur[p]?) /\
   (∀ (i:Nat)(e:List V),els[i]?=some e->e.length=sz/\∀ (j:Nat)(y:V),e[j]?=some y->∃ v,fin[(k+i)*sz+j]?=some v/\Gv c.w c.ok y v)
 | [],[],k,L,els,cur,_,hb,h1,h2,h3=>by cases hb;exact⟨cur,rfl,h1,h3,rfl,fun _ _=>rfl,fun i e h=>by simp at h⟩
 | [],_::_,_,_,_,_,h,_,_,_,_=>by simp[ut]at h
 | _::_,[],_,_,_,_,h,_,_,_,_=>by simp[ut]at h
 | (i,y)::ys,x::xs,k,L,els,cur,h,hb,h1,h2,h3=>by
  simp only[ut,Bool.and_eq_true,beq_iff_eq]at h
  obtain⟨⟨hi,hx⟩,hrest⟩:=h
  subst hi
  simp only[gF]at hb
  cases hs:Kt (ev t x)with
  | none=>simp[hs]at hb
  | some cs =>
   simp only[hs]at hb
   split at hb
   ·rename_i hk
    cases hbs:gF t sz xs with
    | none=>simp[hbs]at hb
    | some els' =>
     simp only[hbs,Option.map_some,Option.some.injEq]at hb
     subst hb
     simp only[List.length_cons]at h2
     obtain⟨q1,q2⟩:=Ot hs (At ht hx)
     have hl:=C1 q1
     simp only[Array.length_toList]at hl
     have hsz:(a.eval y).cells.size=sz:=by omega
     have hmul:(i+1)*sz<=L*sz:=Nat.mul_le_mul_right _ (by omega)
     rw[Nat.add_mul,Nat.one_mul]at hmul
     have hfit:i*sz+(a.eval y).cells.size<=cur.size:=by omega
     have hset:=Re (i*sz) (a.eval y).cells cur hfit
     have hlen:(cur.toList.take (i*sz)++(a.eval y).cells.toList++cur.toList.drop (i*sz+(a.eval y).cells.size)).length=cur.size:=by
      simp only[List.length_append,List.length_take,List.length_drop,Array.length_toList];omega
     obtain⟨fin,p1,p2,p3,p4,p5,p6⟩:=aY ht sz ys xs (i+1) L els' (cur.toList.take (i*sz)++(a.eval y).cells.toList++cur.toList.drop (i*sz+(a.eval y).cells.size)).toArray hrest hbs
      (by rw[<-h1,<-hlen];simp) (by omega) (by
       intro v hv
       rcases kR (off:=i*sz) (nl:=(a.eval y).cells.toList) (zl:=cur.toList) (v:=v) (by simpa using hv)with e | e
       ·exact q2 v e
       ·exact h3 v e)
     have hcur:∀ p,(cur.toList.take (i*sz)++(a.eval y).cells.toList++cur.toList.drop (i*sz+(a.eval y).cells.size)).toArray[p]?=if p<i*sz then cur[p]? else if p<i*sz+sz then (a.eval y).cells[p-i*sz]? else cur[p]?:=by
      intro p
      have e2:min (i*sz) cur.size=i*sz:=by omega
      simp only[List.getElem?_toArray,List.getElem?_append,List.length_append,List.length_take,Array.length_toList,List.getElem?_take,List.getElem?_drop,e2,hsz,Array.getElem?_toList]
      by_cases c1:p<i*sz
      ·simp[c1,show p<i*sz+sz by omega]
      ·by_cases c2:p<i*sz+sz
       ·simp[c1,c2]
       ·simp only[c1,c2,if_false]
        congr 1;omega
     refine⟨fin,?_,p2,p3,by simp[p4],?_,?_⟩
     ·simp only[List.map_cons,Instr.fill]
      rw[if_neg (by simp[hsz];omega)]
      rw[<-p1]
      congr 1
      apply Array.ext'
      rw[hset]
     ·intro p hp
      rw[p5 p (by rw[Nat.add_mul,Nat.one_mul];omega),hcur,if_pos hp]
     ·intro m e he
      cases m with
      | zero =>
       simp at he;subst he
       refine⟨by rw[JU];exact hk,fun j z hj=>?_⟩
       rw[LX]at hj
       cases hz:cs[j]? with
       | none=>simp[hz]at hj
       | some z' =>
        simp[hz]at hj;subst hj
        have hjl:j<sz:=by have:=(List.getElem?_eq_some_iff.1 hz).1;omega
        obtain⟨v,r1,r2⟩:=Fx q1 hz
        refine⟨v,?_,W6 r2⟩
        rw[Nat.add_zero,p5 _ (by rw[Nat.add_mul,Nat.one_mul];omega),hcur,if_neg (by omega),if_pos (by omega)]
        simpa using r1
      | succ m =>
       simp at he
       have:=p6 m e he
       rwa [show i+1+m=i+(m+1) by omega]at this
   ·cases hb
theorem Y0 {ty e sz L:Nat}(hb:sliceB P ty e sz=true)(hL:L*sz<=2^24)(ps:Array (Nat×Value)){fin:Array Value}
  (hf:∀ cur:Array Value,cur.size=L*sz->(∀ v∈cur.toList,Co v=true)->∃ fin,Instr.fill (fun i=>some (i*sz,sz)) cur ps.toList=some fin/\fin.size=L*sz) :
  ∃ cur fin:Array Value,cur.size=L*sz/\(∀ v∈cur.toList,Co v=true)/\Instr.fill (fun i=>some (i*sz,sz)) cur ps.toList=some fin/\(Instr.buildSlice ty L ps).run P w=.ok (.slice (some ⟨w.heap.size,0,none⟩) L L) (w.alloc (.cells fin e (0,0))):=by
 unfold sliceB at hb
 simp only[Bool.and_eq_true]at hb
 obtain⟨hu,hb⟩:=hb
 have hu:=O1 hu
 cases hi:P.info? e with
 | none=>simp[hi]at hb
 | some i =>
  cases hz:i.zero with
  | none=>simp[hi,hz]at hb
  | some z =>
   simp only[hi,hz,Bool.and_eq_true,beq_iff_eq]at hb
   obtain⟨hs,ha,hzs⟩:=hb
   have hnr:¬ (L*sz > 2^24):=by omega
   by_cases h0:L*sz=0
   ·obtain⟨fin,q1,q2⟩:=hf #[] (by simp[h0]) (by simp)
    refine⟨#[],fin,by simp[h0],by simp,q1,?_⟩
    have e0:Array.map (fun (_:Nat)=>(default:Value)) (Array.range 0)=#[]:=by simp
    simp[Instr.buildSlice,run_underlying hu,sizeOf,typeInfo,hi,hs,h0,e0,q1,newRow]
   ·have hcur:∀ v∈((Array.range (L*sz)).map (fun x=>z.cells[x % z.cells.size]!)).toList,Co v=true:=by
     intro v hv
     simp only[Array.toList_map,List.mem_map]at hv
     obtain⟨x,_,rfl⟩:=hv
     have hpos:0<sz:=by
      rcases Nat.eq_zero_or_pos sz with e | e
      ·subst e;simp at h0
      ·exact e
     have hlt:x % z.cells.size<z.cells.size:=Nat.mod_lt _ (by omega)
     rw[Array.all_eq_true]at ha
     rw[getElem!_pos z.cells _ hlt]
     exact ha _ hlt
    obtain⟨fin,q1,q2⟩:=hf _ (by simp) hcur
    refine⟨_,fin,by simp,hcur,q1,?_⟩
    simp[Instr.buildSlice,run_underlying hu,sizeOf,typeInfo,zeroValue,hi,hs,hz,h0,hnr,q1,newRow]
theorem Wi {c:Cx}(ht:K4 N c t a){ty e sz L d:Nat}{ys:Array (Nat×Operand)}{xs:List O}{els:List (List V)}(ho:o.op=.buildSlice ty L ys)(hb:sliceB P ty e sz=true)(hL:L*sz<=2^24)(hy:ut ys.toList xs 0=true)(hl:xs.length=L)(hr:gF t sz xs=some els) :
  ∃ fin:Array Value,(execOp a.eval o).run P w=.ok (.value (.slice (some ⟨w.heap.size,0,none⟩) L L)) (w.alloc (.cells fin e (0,0)))/\fin.size=L*sz/\els.length=L/\(∀ v∈fin.toList,Co v=true) /\
   ∀ (i:Nat)(e:List V),els[i]?=some e->e.length=sz/\∀ (j:Nat)(y:V),e[j]?=some y->∃ v,fin[i*sz+j]?=some v/\Gv c.w c.ok y v:=by
 have hys:(ys.map fun (i,x)=>(i,a.eval x)).toList=ys.toList.map fun p=>(p.1,a.eval p.2):=by simp
 obtain⟨cur,fin,q1,q2,q3,q4⟩:=Y0 (P:=P) (w:=w) hb hL (ys.map fun (i,x)=>(i,a.eval x)) (fin:=#[]) (fun cur h1 h2=>by
  obtain⟨fin,p1,p2,_⟩:=aY ht sz ys.toList xs 0 L els cur hy hr h1 (by omega) h2
  exact⟨fin,by rw[hys];exact p1,p2⟩)
 obtain⟨fin',p1,p2,p3,p4,_,p6⟩:=aY ht sz ys.toList xs 0 L els cur hy hr q1 (by omega) q2
 rw[hys]at q3
 rw[p1]at q3;cases q3
 refine⟨fin,?_,p2,by omega,p3,fun i e he=>?_⟩
 ·simp only[execOp,ho,Sem.run_bind,q4];simp
 ·have:=p6 i e he
  simpa using this
theorem xH {d ty e sz L:Nat}{ys:Array (Nat×Operand)}{xs:List O}{els:List (List V)}(hs:Sm c0 N D t H a w)(hd:o.dst=some d)(hn:d<N)(ho:o.op=.buildSlice ty L ys)
  (hb:sliceB P ty e sz=true) (hL:L*sz<=2^24/\L<=2^24) (hy:ut ys.toList xs 0=true) (hl:xs.length=L) (hr:gF t sz xs=some els):D0 P c0 N D o a w ((d,.sl sz els)::t) H:=by
 obtain⟨_,_,c,_,_,_,_,h7⟩:=id hs
 obtain⟨fin,q1,q2,q3,q4,_⟩:=Wi h7 (w:=w) (P:=P) (d:=d) ho hb hL.1 hy hl hr
 refine⟨_,_,.inl q1,?_⟩
 rw[hd]
 refine O6 hs hn fun c' h3 h4 h5 ht=>?_
 subst h3 h4
 obtain⟨fin',q1',_,_,_,q5'⟩:=Wi ht (w:=c'.w) (P:=P) (d:=d) ho hb hL.1 hy hl hr
 rw[q1]at q1'
 have hfin:fin=fin':=by
  injection q1' with _ hw
  have:=congrArg (fun w=>w.heap[c'.w.heap.size]?) hw
  simp only[heap_alloc_new]at this
  cases this;rfl
 subst hfin
 have hf:=PI h5 (.cells fin e (0,0))
 refine⟨c'.addRo (.cells fin e (0,0)),rfl,rfl,RR h5 _,hf,some ⟨c'.w.heap.size,0,none⟩,L,c'.w.heap.size,0,by rw[q3],by omega,by unfold C0;omega,by unfold Ah;omega,.inr rfl,Ie fun i e' he=>?_⟩
 obtain⟨p1,p2⟩:=q5' i e' he
 refine⟨p1,IF fun j y hj=>?_⟩
 obtain⟨v,r1,r2⟩:=p2 j y hj
 refine⟨v,?_,.inr rfl,q4 v (by simpa using List.mem_of_getElem? (l:=fin.toList) (by simpa using r1)),Eb hf.cell hf.okS r2⟩
 simp only[Cx.addRo]
 rw[BV (vs:=fin) (e:=e) (fz:=(0,0)) (by simp)]
 simpa using r1
theorem vW {d ty e sz L:Nat}{ys:Array (Nat×Operand)}{xs:List O}{els:List (List V)}(hs:Sm c0 N D t H a w)(hd:o.dst=some d)(hn:d<N)(ho:o.op=.buildSlice ty L ys)
  (hb:sliceB P ty e sz=true) (hL:L*sz<=2^24/\L<=2^24) (hy:ut ys.toList xs 0=true) (hl:xs.length=L) (hr:gF t sz xs=some els):D0 P c0 N D o a w ((d,.own H.length sz els)::t) (H++[.arr e sz els.length]):=by
 obtain⟨_,_,c,_,_,_,_,h7⟩:=id hs
 obtain⟨fin,q1,q2,q3,q4,_⟩:=Wi h7 (w:=w) (P:=P) (d:=d) ho hb hL.1 hy hl hr
 refine⟨_,_,.inl q1,?_⟩
 rw[hd]
 refine O6 hs hn fun c' h3 h4 h5 ht=>?_
 subst h3 h4
 obtain⟨fin',q1',_,_,_,q5'⟩:=Wi ht (w:=c'.w) (P:=P) (d:=d) ho hb hL.1 hy hl hr
 rw[q1]at q1'
 have hfin:fin=fin':=by
  injection q1' with _ hw
  have:=congrArg (fun w=>w.heap[c'.w.heap.size]?) hw
  simp only[heap_alloc_new]at this
  cases this;rfl
 subst hfin
 obtain⟨g1,g2,g3⟩:=uV h5 (e:=e) (sz:=sz) (els:=els) (vs:=fin) (k:=L) (by omega) (by omega) (by unfold C0;omega) (by unfold Ah;omega) q4 q5'
 refine⟨_,rfl,rfl,g1,g2,?_⟩
 rw[<-q3]
 rw[<-q3]at g3
 exact g3
end
end Go.Dw
end
section
namespace Go.Dw
section
variable {P:Program} {c0:Cx} {N:Nat} {D:List Deferred} {o:Oper} {a:Act} {w:World} {t:T} {H:List Ob}
theorem BI {ty off:Nat}(hp:Ki P ty=true){cs:Array Value}{v:Value}(h:cs[off]?=some v)(w:World):(part ty cs off).run P w=.ok v w:=by
 simp[part,OT hp,h]
theorem Z5 {ty off k:Nat}(hp:bV P ty=true)(hk:DH P ty k=true){cs:Array Value}(w:World):(part ty cs off).run P w=.ok (.agg (cs.extract off (off+k))) w:=by
 simp[part,Q7 hp,En hk]
def eu (P:Program)(ty:Nat):Option Nat->Bool
 | none=>Ki P ty
 | some k=>bV P ty&&DH P ty k
theorem So {c:Cx}{off:Nat}{k:Option Nat}{p r:V}{ty:Nat}(h:mN off k p=some r)(hk:eu P ty k=true){v:Value}(hr:BD c p v) :
  ∃ cs u,v=.agg cs/\(∀ w,(part ty cs off).run P w=.ok u w)/\BD c r u:=by
 cases p<;>simp only[mN,reduceCtorEq]at h
 obtain⟨vs,rfl,h2,h3⟩:=hr
 cases k with
 | none =>
  obtain⟨u,q1,q2⟩:=Fx h2 h
  exact⟨vs,u,rfl,BI hk (by simpa using q1),q2⟩
 | some k =>
  simp only[eu,Bool.and_eq_true]at hk
  simp only at h
  split at h
  ·rename_i hl
   cases h
   refine⟨vs,_,rfl,Z5 hk.1 hk.2,_,rfl,?_,?_⟩
   ·have:=Uo k (U4 off h2)
    simpa[sub]using this
   ·intro u hu
    apply h3
    have:u∈(vs.toList.drop off).take k:=by simpa using hu
    exact List.mem_of_mem_drop (List.mem_of_mem_take this)
  ·cases h
def zN (P:Program)(t f off:Nat)(k:Option Nat):Bool:=match P.underlying t with
 | some (.struct fs)=>match fs[f]? with
  | some g=>g.offset==off&&eu P g.type k
  | none=>false
 | _=>false
theorem xu {d off ty f:Nat}{k:Option Nat}{x:O}{y:Operand}{r:V}(hs:Sm c0 N D t H a w)(hd:o.dst=some d)(hn:d<N)(ho:o.op=.field ty y f)(hf:zN P ty f off k=true)(hx:Bw y x=true)(hr:mN off k (ev t x)=some r) :
  D0 P c0 N D o a w ((d,r)::t) H:=by
 unfold zN at hf
 cases hu:P.underlying ty with
 | none=>simp[hu]at hf
 | some ds =>
  cases ds<;>simp only[hu,Bool.false_eq_true]at hf
  rename_i fs
  cases hg:fs[f]? with
  | none=>simp[hg]at hf
  | some g =>
   simp only[hg,Bool.and_eq_true,beq_iff_eq]at hf
   obtain⟨hf1,hf2⟩:=hf
   obtain⟨c,_,_,_,_,hrep⟩:=Jq hs hx
   obtain⟨cs,u,q1,q2,q3⟩:=So (P:=P) hr hf2 hrep
   refine AP hs hd hn (v:=u) ?_ (fun c' _ _ h7 _=>?_)
   ·simp only[execOp,ho,Instr.field,Sem.run_bind,run_underlying hu,Result.andThen_ok,hg,q1,asAgg,Sem.run_pure,hf1,q2]
   ·obtain⟨cs',u',p1,p2,p3⟩:=So (P:=P) hr hf2 (At h7 hx)
    rw[q1]at p1;cases p1
    have:=(q2 w).symm.trans (p2 w)
    cases this;exact p3
theorem qC {d ty e sz n:Nat}{k:Option Nat}{x i:O}{xo io:Operand}{r:V}(hs:Sm c0 N D t H a w)(hd:o.dst=some d)(hn:d<N)(ho:o.op=.index ty xo io)(hu:P.underlying ty=some (.array n e))(hsz:DH P e sz=true)
  (hk':eu P e k=true) (hx:Bw xo x=true) (hi:Bw io i=true) (hr:mP sz n k (ev t x) (ev t i)=some r):D0 P c0 N D o a w ((d,r)::t) H:=by
 obtain⟨_,_,c,_,_,_,_,h7⟩:=id hs
 cases h1:ev t i<;>simp only[h1,mP,reduceCtorEq]at hr
 rename_i ki m
 split at hr
 ·rename_i h0
  have q1:=At h7 hi
  rw[h1]at q1
  have hv:a.eval io=.int ki m:=q1
  obtain⟨cs,u,q1,q2,q3⟩:=So (P:=P) hr hk' (At h7 hx)
  refine AP hs hd hn (v:=u) ?_ (fun c' _ _ h7' _=>?_)
  ·simp only[execOp,ho,Instr.index,hv,asIntOf,Sem.run_bind,Sem.run_pure,Result.andThen_ok,run_underlying hu,q1]
   rw[if_pos ⟨h0.1,by omega⟩]
   simp only[Sem.run_bind,En hsz,Result.andThen_ok,q2,Sem.run_pure]
  ·obtain⟨cs',u',p1,p2,p3⟩:=So (P:=P) hr hk' (At h7' hx)
   rw[q1]at p1;cases p1
   have:=(q2 w).symm.trans (p2 w)
   cases this;exact p3
 ·cases hr
theorem oV {d ty e sz n:Nat}{x i:O}{xo io:Operand}{r:V}(hs:Sm c0 N D t H a w)(hd:o.dst=some d)(hn:d<N)(ho:o.op=.indexAddr ty xo io)(hu:P.underlying ty=some (.array n e))(hsz:DH P e sz=true)
  (hx:Bw xo x=true) (hi:Bw io i=true) (hr:bA H sz n (ev t x) (ev t i)=some r):D0 P c0 N D o a w ((d,r)::t) H:=by
 obtain⟨_,_,c,_,_,_,_,h7⟩:=id hs
 cases h1:ev t i<;>simp only[h1,bA,reduceCtorEq]at hr
 rename_i ki m
 split at hr
 ·rename_i h0
  have q1:=At h7 hi
  rw[h1]at q1
  have hv:a.eval io=.int ki m:=q1
  obtain⟨b,o',q1,q2⟩:=rc hs hx hr
  refine AP hs hd hn (v:=.pointer (some ⟨b,o'+m.toNat*sz,none⟩)) ?_ q2
  simp only[execOp,ho,Instr.indexAt,hv,asIntOf,Sem.run_bind,Sem.run_pure,Result.andThen_ok,run_underlying hu,q1,Instr.sureAddr]
  rw[if_pos ⟨h0.1,by omega⟩]
  simp only[Sem.run_bind,En hsz,Result.andThen_ok,Sem.run_pure,Addr.add]
  by_cases hz:m.toNat*sz=0
  ·rw[if_pos hz,hz,Nat.add_zero]
  ·rw[if_neg hz]
 ·cases hr
def kG (P:Program)(ty n e:Nat):Bool:=match P.underlying ty with
 | some (.array n' e')=>n==n'&&e==e'
 | _=>false
theorem dV {P:Program}{ty n e:Nat}(h:kG P ty n e=true):P.underlying ty=some (.array n e):=by
 unfold kG at h
 cases hu:P.underlying ty with
 | none=>simp[hu]at h
 | some d=>cases d<;>simp[hu]at h;rw[h.1,h.2]
def sE (P:Program)(ty:Nat):Nat:=match P.underlying ty with
 | some (.array _ e)=>e
 | _=>0
theorem JA {op:BinOp}{ty:TypeId}{x y:Operand}{u v:Value}(h:(∃ k n,u=.int k n)\/(∃ s,u=.string s)\/(∃ b,u=.bool b)):(eqGuard op ty x y u v).run P w=.ok () w:=by
 unfold eqGuard
 rcases h with ⟨k,n,rfl⟩|⟨s,rfl⟩|⟨b,rfl⟩<;>cases op<;>simp
theorem Ve (s:ByteArray):s.toList=s.data.toList:=by
 have key:∀ (n i:Nat)(r:List UInt8),s.size-i=n->i<=s.size->ByteArray.toList.loop s i r=r.reverse++s.data.toList.drop i:=by
  intro n
  induction n with
  | zero =>
   intro i r h1 h2
   unfold ByteArray.toList.loop
   have:s.data.toList.length=s.size:=by simp
   rw[if_neg (by omega),List.drop_eq_nil_of_le (by omega),List.append_nil]
  | succ n ih =>
   intro i r h1 h2
   unfold ByteArray.toList.loop
   have hs:i<s.data.toList.length:=by
    have:s.data.toList.length=s.size:=by simp
    omega
   rw[if_pos (by omega),ih (i+1) _ (by omega) (by omega),List.drop_eq_getElem_cons hs]
   have:s.get! i=s.data.toList[i]:=by
    have h3:i<s.data.size:=by simpa using hs
    simp[ByteArray.get!,getElem!_pos s.data i h3]
   simp[this]
 have:=key s.size 0 [] (by omega) (by omega)
 simpa[ByteArray.toList]using this
theorem Up {ty:TypeId}(hu:P.underlying ty=some .bool)(b b':Bool)(w:World)(d:Nat):(Op.equalIn (d+1) ty (.bool b) (.bool b')).run P w=.ok (b==b') w:=by
 simp only[Op.equalIn,Sem.run_bind,run_underlying hu,Result.andThen_ok,Sem.run_pure]
theorem Qo {ty:TypeId}(hu:P.underlying ty=some .bool)(b b':Bool)(w:World):(Op.equal ty (.bool b) (.bool b')).run P w=.ok (b==b') w:=by
 exact Up hu b b' w 9999
theorem pr {op:BinOp}{ty:TypeId}{x y:Operand}{p q r:V}{u v:Value}{c:Cx}(h:IZ op p q=some r)(hp:BD c p u)(hq:BD c q v) :
  ∃ z,(do eqGuard op ty x y u v;binOp op ty u v:Sem Value).run P w=.ok z w/\∀ c',BD c' r z:=by
 unfold IZ at h
 split at h
 ·rename_i k n k' n'
  cases hp;cases hq
  split at h
  ·rename_i hk
   subst hk
   have hg:=JA (P:=P) (w:=w) (op:=op) (ty:=ty) (x:=x) (y:=y) (u:=.int k n) (v:=.int k n') (.inl ⟨_,_,rfl⟩)
   cases op<;>simp only[Mr,Option.some.injEq,reduceCtorEq]at h
   case quo =>
    split at h
    ·cases h
    ·rename_i hz
     cases h
     simp[hg,binOp,Op.intDiv,hz,BD]
   case rem =>
    split at h
    ·cases h
    ·rename_i hz
     cases h
     simp[hg,binOp,Op.intDiv,hz,BD]
   all_goals subst h<;>simp[hg,binOp,Op.intArith,Op.intCmp,BD]<;>(refine⟨_,rfl,?_⟩;intro c';first | rfl | simp[BD])
  ·cases h
 ·rename_i s s'
  cases hp;cases hq
  have hg:=JA (P:=P) (w:=w) (op:=op) (ty:=ty) (x:=x) (y:=y) (u:=.string ⟨⟨s⟩⟩) (v:=.string ⟨⟨s'⟩⟩) (.inr (.inl ⟨_,rfl⟩))
  have e1:(⟨⟨s⟩⟩:ByteArray).toList=s:=Ve _
  have e2:(⟨⟨s'⟩⟩:ByteArray).toList=s':=Ve _
  cases op<;>simp only[Hy,Option.some.injEq,reduceCtorEq]at h
  case add =>
   split at h
   ·rename_i hl
    cases h
    refine⟨.string (⟨⟨s⟩⟩++⟨⟨s'⟩⟩),?_,fun c'=>?_⟩
    ·have h63:¬ (((⟨⟨s⟩⟩:ByteArray).size+(⟨⟨s'⟩⟩:ByteArray).size:Nat):Int) > IntKind.i64.max:=by
      have h1:(⟨⟨s⟩⟩:ByteArray).size=s.length:=rfl
      have h2:(⟨⟨s'⟩⟩:ByteArray).size=s'.length:=rfl
      rw[h1,h2];unfold C0 at hl;simp[IntKind.max,IntKind.signed,IntKind.bits];omega
     simp only[Sem.run_bind,hg,Result.andThen_ok,binOp,Op.stringOp,if_neg h63,Sem.run_pure]
    ·show _=Value.string _
     congr 1
   ·cases h
  all_goals subst h;simp[hg,binOp,Op.stringOp,e1,e2,BD];(try (refine⟨_,rfl,?_⟩;intro c';rfl));(try (intro c';cases h:(s==s')<;>simp_all [bne]))
 ·cases h
theorem vn {op:BinOp}{ty:TypeId}{x y:Operand}{p q r:V}{u v:Value}{c:Cx}(h:bbV op p q=some r)(hp:BD c p u)(hq:BD c q v)(hu:P.underlying ty=some .bool) :
  ∃ z,(do eqGuard op ty x y u v;binOp op ty u v:Sem Value).run P w=.ok z w/\∀ c',BD c' r z:=by
 unfold bbV at h
 split at h
 ·rename_i b b'
  cases hp;cases hq
  have hg:=JA (P:=P) (w:=w) (op:=op) (ty:=ty) (x:=x) (y:=y) (u:=.bool b) (v:=.bool b') (.inr (.inr ⟨_,rfl⟩))
  cases op<;>simp only[Option.some.injEq,reduceCtorEq]at h<;>subst h
  ·exact⟨.bool (b==b'),by simp only[Sem.run_bind,hg,Result.andThen_ok,binOp,Qo hu,Sem.run_pure],fun c'=>rfl⟩
  ·exact⟨.bool (!(b==b')),by simp only[Sem.run_bind,hg,Result.andThen_ok,binOp,Qo hu,Sem.run_pure],fun c'=>rfl⟩
 ·cases h
theorem vO {d ty ty2:Nat}{op:BinOp}{x y:O}{xo yo:Operand}{r:V}(hs:Sm c0 N D t H a w)(hd:o.dst=some d)(hn:d<N)(ho:o.op=.binOp op ty xo yo ty2)(hx:Bw xo x=true)(hy:Bw yo y=true)
  (hr:bbV op (ev t x) (ev t y)=some r) (hu:P.underlying ty=some .bool):D0 P c0 N D o a w ((d,r)::t) H:=by
 obtain⟨_,_,c,_,_,_,_,h7⟩:=id hs
 obtain⟨z,h1,h2⟩:=vn (P:=P) (w:=w) (op:=op) (ty:=ty) (x:=xo) (y:=yo) hr (At h7 hx) (At h7 hy) hu
 refine AP hs hd hn (v:=z) ?_ (fun c' _ _ _ _=>h2 c')
 simp only[execOp,ho]
 rw[Sem.run_bind,h1]
 rfl
theorem rP {d ty ty2:Nat}{op:BinOp}{x y:O}{xo yo:Operand}{r:V}(hs:Sm c0 N D t H a w)(hd:o.dst=some d)(hn:d<N)(ho:o.op=.binOp op ty xo yo ty2)(hx:Bw xo x=true)(hy:Bw yo y=true)
  (hr:IZ op (ev t x) (ev t y)=some r):D0 P c0 N D o a w ((d,r)::t) H:=by
 obtain⟨_,_,c,_,_,_,_,h7⟩:=id hs
 obtain⟨z,h1,h2⟩:=pr (P:=P) (w:=w) (op:=op) (ty:=ty) (x:=xo) (y:=yo) hr (At h7 hx) (At h7 hy)
 refine AP hs hd hn (v:=z) ?_ (fun c' _ _ _ _=>h2 c')
 simp only[execOp,ho]
 rw[Sem.run_bind,h1]
 rfl
theorem wt {d ty ty2:Nat}{op:BinOp}{x y:O}{xo yo:Operand}{r:V}(hs:Sm c0 N D t H a w)(hd:o.dst=some d)(hn:d<N)(ho:o.op=.binOp op ty xo yo ty2)(hx:Bw xo x=true)(hy:Bw yo y=true)
  (hr:shV op (ev t x) (ev t y)=some r):D0 P c0 N D o a w ((d,r)::t) H:=by
 obtain⟨_,_,c,_,_,_,_,h7⟩:=id hs
 have q1:=At h7 hx
 have q2:=At h7 hy
 unfold shV at hr
 split at hr
 case h_2=>cases hr
 rename_i k n k' m h1 h2
 rw[h1]at q1
 rw[h2]at q2
 have hv1:a.eval xo=.int k n:=q1
 have hv2:a.eval yo=.int k' m:=q2
 split at hr
 case isTrue=>cases hr
 rename_i hm
 have hg:=JA (P:=P) (w:=w) (op:=op) (ty:=ty) (x:=xo) (y:=yo) (u:=.int k n) (v:=.int k' m) (.inl ⟨_,_,rfl⟩)
 split at hr
 ·cases hr
  exact AP hs hd hn (v:=.int k (k.wrap (n*2^(min m.toNat k.bits)))) (by simp only[execOp,ho,hv1,hv2];rw[Sem.run_bind,Sem.run_bind,hg];simp[binOp,Op.shift,hm]) (fun c' _ _ _ _=>rfl)
 ·cases hr
  exact AP hs hd hn (v:=.int k (n.fdiv (2^(min m.toNat k.bits)))) (by simp only[execOp,ho,hv1,hv2];rw[Sem.run_bind,Sem.run_bind,hg];simp[binOp,Op.shift,hm]) (fun c' _ _ _ _=>rfl)
 ·cases hr
theorem wg {d ty:Nat}{op:UnOp}{x:O}{xo:Operand}{r:V}(hs:Sm c0 N D t H a w)(hd:o.dst=some d)(hn:d<N)(ho:o.op=.unOp op ty xo)(hx:Bw xo x=true)
  (hr:unV op (ev t x)=some r):D0 P c0 N D o a w ((d,r)::t) H:=by
 obtain⟨c,_,_,_,_,hrep⟩:=Jq hs hx
 unfold unV at hr
 split at hr
 ·rename_i b hb
  cases hr
  rw[hb]at hrep
  have hv:a.eval xo=.bool b:=hrep
  exact AP hs hd hn (v:=.bool !b) (by simp[execOp,ho,Op.unary,hv]) (fun c' _ _ _ _=>rfl)
 ·rename_i k n hb
  cases hr
  rw[hb]at hrep
  have hv:a.eval xo=.int k n:=hrep
  exact AP hs hd hn (v:=.int k (k.wrap (0-n))) (by simp[execOp,ho,Op.unary,Op.intArith,hv]) (fun c' _ _ _ _=>rfl)
 ·cases hr
theorem pR {d ty ty2:Nat}{k k':IntKind}{n:Int}{x:O}{xo:Operand}{ds:TypeDesc}(hs:Sm c0 N D t H a w)(hd:o.dst=some d)(hn:d<N)(ho:o.op=.convert ty ty2 xo)(hx:Bw xo x=true)
  (hu:P.underlying ty=some ds) (hu2:P.underlying ty2=some (.int k)) (hr:ev t x=.int k' n):D0 P c0 N D o a w ((d,.int k (k.wrap n))::t) H:=by
 obtain⟨c,_,_,_,_,hrep⟩:=Jq hs hx
 rw[hr]at hrep
 have hv:a.eval xo=.int k' n:=hrep
 refine AP hs hd hn (v:=.int k (k.wrap n)) ?_ (fun c' _ _ _ _=>rfl)
 simp only[execOp,ho,convert,Sem.run_bind,run_underlying hu,run_underlying hu2,Result.andThen_ok,hv]
 cases ds<;>simp[Conv.intToInt]
theorem rN {d ty ty2:Nat}{s:List UInt8}{x:O}{xo:Operand}(hs:Sm c0 N D t H a w)(hd:o.dst=some d)(hn:d<N)(ho:o.op=.convert ty ty2 xo)(hx:Bw xo x=true)
  (hu:P.underlying ty=some .string) (hu2:P.underlying ty2=some .string) (hr:ev t x=.str s):D0 P c0 N D o a w ((d,.str s)::t) H:=by
 obtain⟨c,_,_,_,_,hrep⟩:=Jq hs hx
 rw[hr]at hrep
 have hv:a.eval xo=.string ⟨⟨s⟩⟩:=hrep
 refine AP hs hd hn (v:=.string ⟨⟨s⟩⟩) ?_ (fun c' _ _ _ _=>rfl)
 simp only[execOp,ho,convert,Sem.run_bind,run_underlying hu,run_underlying hu2,Result.andThen_ok,hv]
 simp
theorem ll {d ty1 ty2:Nat}{k:IntKind}{n m:Int}{x y:O}{xo yo:Operand}(mx:Bool)(hs:Sm c0 N D t H a w)(hd:o.dst=some d)(hn:d<N)
  (ho:o.op=.call { callee:=.builtin (if mx then .max else .min),args:=#[xo,yo],argTypes:=#[ty1,ty2] }) (hx:Bw xo x=true) (hy:Bw yo y=true) (h1:ev t x=.int k n) (h2:ev t y=.int k m) :
  D0 P c0 N D o a w ((d,.int k (if mx then (if m > n then m else n) else (if m<n then m else n)))::t) H:=by
 obtain⟨_,_,c,_,_,_,_,h7⟩:=id hs
 have q1:=At h7 hx
 have q2:=At h7 hy
 rw[h1]at q1;rw[h2]at q2
 have hv:a.eval xo=.int k n:=q1
 have hv2:a.eval yo=.int k m:=q2
 refine AP hs hd hn (v:=.int k (if mx then (if m > n then m else n) else (if m<n then m else n))) ?_ (fun c' _ _ _ _=>rfl)
 cases mx<;>simp[execOp,ho,resolve,invoke,builtin,Builtin.max_,Builtin.min_,Builtin.max2,Builtin.min2,hv,hv2]
theorem QG {c:Cx}{x:V}{els:List (List V)}{v:Value}(h:We x=some els)(hr:BD c x v):(x=.nil/\v=.slice none 0 0/\els=[])\/∃ sz,(x=.sl sz els\/∃ i,x=.own i sz els)/\Gv c.w c.ok (.sl sz els) v:=by
 cases x<;>simp only[We,Option.some.injEq,reduceCtorEq]at h
 ·subst h;exact .inl ⟨rfl,hr,rfl⟩
 ·subst h;exact .inr ⟨_,.inl rfl,hr⟩
 ·subst h;exact .inr ⟨_,.inr ⟨_,rfl⟩,hr.1⟩
theorem VO {ty e:Nat}(hu:P.underlying ty=some (.slice e)){ad:Option Addr}{n cp:Nat}(w:World)(d:Nat):(Op.equalIn (d+1) ty (.slice ad n cp) (.slice none 0 0)).run P w=.ok ad.isNone w:=by
 cases ad<;>simp only[Op.equalIn,Sem.run_bind,run_underlying hu,Result.andThen_ok,Sem.run_pure]<;>rfl
theorem zO {d ty e ty2:Nat}{ne:Bool}{x:O}{xo:Operand}{els:List (List V)}(hs:Sm c0 N D t H a w)(hd:o.dst=some d)(hn:d<N)(ho:o.op=.binOp (if ne then .neq else .eql) ty xo (.const (.slice none 0 0)) ty2)(hu:P.underlying ty=some (.slice e))(hx:Bw xo x=true)
  (hr:We (ev t x)=some els):∃ c:Bool,(c=true->els=[])/\D0 P c0 N D o a w ((d,.bool (c != ne))::t) H:=by
 obtain⟨_,_,c,_,_,_,_,h7⟩:=id hs
 have q1:=At h7 hx
 obtain⟨ad,n,cp,hv,hne⟩:∃ ad n cp,a.eval xo=.slice ad n cp/\(ad=none->els=[]):=by
  rcases QG hr q1 with ⟨_,h1,h2⟩|⟨sz,_,h2⟩
  ·exact⟨_,_,_,h1,fun _=>h2⟩
  ·obtain⟨ad,cp,b,off,p1,_,_,_,p5,_⟩:=h2
   exact⟨_,_,_,p1,fun h=>by rcases p5 with p5 | p5;exact p5;rw[h]at p5;cases p5⟩
 have hcst:a.eval (.const (.slice none 0 0))=.slice none 0 0:=rfl
 have heq:(Op.equal ty (.slice ad n cp) (.slice none 0 0)).run P w=.ok ad.isNone w:=by
  exact VO hu w 9999
 refine⟨ad.isNone,fun h=>hne (by simpa using h),?_⟩
 refine AP hs hd hn (v:=.bool (ad.isNone != ne)) ?_ (fun _ _ _ _ _=>rfl)
 cases ne
 ·have hg:(eqGuard .eql ty xo (.const (.slice none 0 0)) (.slice ad n cp) (.slice none 0 0)).run P w=.ok () w:=by simp[eqGuard]
  simp only[execOp,ho,hv,hcst,Bool.false_eq_true,if_false]
  rw[Sem.run_bind,Sem.run_bind,hg]
  simp[binOp,heq]
 ·have hg:(eqGuard .neq ty xo (.const (.slice none 0 0)) (.slice ad n cp) (.slice none 0 0)).run P w=.ok () w:=by simp[eqGuard]
  simp only[execOp,ho,hv,hcst,if_true]
  rw[Sem.run_bind,Sem.run_bind,hg]
  simp[binOp,heq]
theorem wk {d ty e sz:Nat}{x i:O}{xo io:Operand}{r:V}(hs:Sm c0 N D t H a w)(hd:o.dst=some d)(hn:d<N)(ho:o.op=.indexAddr ty xo io)(hsl:Ra P ty e=true)(hsz:DH P e sz=true)(hx:Bw xo x=true)(hi:Bw io i=true)
  (hr:mK sz (ev t x) (ev t i)=some r) (hnr:∀ j z n,ev t x≠.rw j z n):D0 P c0 N D o a w ((d,r)::t) H:=by
 have key:∃ k n els,ev t i=.int k n/\(∀ c v,BD c (ev t x) v->Gv c.w c.ok (.sl sz els) v)/\0<=n/\n<els.length/\r=.ro (els.getD n.toNat []) 0:=by
  cases h1:ev t i<;>simp only[h1,mK,reduceCtorEq]at hr
  rename_i k n
  cases h2:ev t x<;>simp only[h2,reduceCtorEq]at hr
  case rw=>exact absurd h2 (hnr _ _ _)
  all_goals
   split at hr
   ·rename_i hh
    obtain⟨rfl,hh1,hh2⟩:=hh
    cases hr
    refine⟨k,n,_,rfl,?_,hh1,hh2,rfl⟩
    intro c v hv
    first | exact hv | exact hv.1
   ·cases hr
 obtain⟨k,n,els,h1,h2,h3,h4,rfl⟩:=key
 obtain⟨_,_,c,_,_,_,_,h7⟩:=id hs
 have q1:=At h7 hi
 rw[h1]at q1
 have hv:a.eval io=.int k n:=q1
 have hlt:n.toNat<els.length:=by omega
 have hget:els[n.toNat]?=some (els.getD n.toNat []):=by simp[List.getD_eq_getElem?_getD,hlt]
 obtain⟨ad,cp,b,off,p1,p2,p3,p4,p5,p6⟩:=h2 c _ (At h7 hx)
 have hne:els≠[]:=by intro e;subst e;simp at hlt
 have had:=p5.resolve_left hne
 subst had
 refine AP hs hd hn (v:=.pointer (some ⟨b,off+n.toNat*sz,none⟩)) ?_ (fun c' _ _ h7' _=>?_)
 ·simp[execOp,ho,Instr.indexAt,hv,p1,asIntOf,run_underlying (O1 hsl),h3,h4,En hsz,Addr.add_lit]
 ·obtain⟨ad',cp',b',off',p1',_,_,_,p5',p6'⟩:=h2 c' _ (At h7' hx)
  rw[p1]at p1'
  have had':=p5'.resolve_left hne
  subst had'
  cases p1'
  obtain⟨g1,g2⟩:=La p6' hget
  exact⟨b,off+n.toNat*sz,rfl,by simpa using g2⟩
theorem wJ {d ty:Nat}{x i:O}{xo io:Operand}{r:V}(hs:Sm c0 N D t H a w)(hd:o.dst=some d)(hn:d<N)(ho:o.op=.index ty xo io)(hu:P.underlying ty=some .string)(hx:Bw xo x=true)(hi:Bw io i=true)
  (hr:ixV (ev t x) (ev t i)=some r):D0 P c0 N D o a w ((d,r)::t) H:=by
 obtain⟨_,_,c,_,_,_,_,h7⟩:=id hs
 have q1:=At h7 hx
 have q2:=At h7 hi
 unfold ixV at hr
 split at hr
 ·rename_i s k n h1 h2
  rw[h1]at q1;rw[h2]at q2
  have hv:a.eval xo=.string ⟨⟨s⟩⟩:=q1
  have hv2:a.eval io=.int k n:=q2
  split at hr
  ·rename_i hh
   cases hr
   have hlt:n.toNat<s.length:=by omega
   refine AP hs hd hn (v:=.int .u8 (uF s n.toNat)) ?_ (fun c' _ _ _ _=>rfl)
   have hg:(⟨⟨s⟩⟩:ByteArray)[n.toNat]?=some s[n.toNat]:=by
    rw[getElem?_pos (⟨⟨s⟩⟩:ByteArray) n.toNat hlt];rfl
   have hb:uF s n.toNat=(s[n.toNat].toNat:Int):=by simp[uF,List.getD_eq_getElem?_getD,hlt]
   simp[execOp,ho,Instr.index,hv,hv2,asIntOf,run_underlying hu,hh.1,hg,hb]
  ·cases hr
 ·cases hr
theorem lW {w:World}{ok:Nat->Nat->Prop}{b o sz l m:Nat}{els:List (List V)}(h:Ro w ok b o sz els 0):Ro w ok b (o+l*sz) sz ((els.drop l).take m) 0:=by
 refine Ie fun i e he=>?_
 rw[List.getElem?_take]at he
 split at he
 ·rw[List.getElem?_drop]at he
  obtain⟨h1,h2⟩:=La h he
  refine⟨h1,?_⟩
  have:o+l*sz+(0+i)*sz=o+(0+(l+i))*sz:=by simp only[Nat.zero_add,Nat.add_mul,Nat.add_assoc]
  rw[this];exact h2
 ·cases he
def Un:Option Operand->Option O->Bool
 | none,none=>true
 | some y,some x=>Bw y x
 | _,_=>false
theorem ZI {c:Cx}(h7:K4 N c t a){lo:Option Operand}{lx:Option O}(ho:Un lo lx=true){n l cap:Nat}{code:BoundsCode}(hb:dK (lx.map (ev t)) n=some l)(hl:l<=cap) :
  (match lo.map a.eval with | some v=>Instr.sliceBound v cap code | none=>pure n:Sem Nat).run P w=.ok l w:=by
 cases lo with
 | none =>
  cases lx with
  | none=>simp[dK]at hb;subst hb;simp
  | some x=>simp[Un]at ho
 | some y =>
  cases lx with
  | none=>simp[Un]at ho
  | some x =>
   have q:=At h7 (o:=y) (y:=x) ho
   simp only[Option.map_some,dK]at hb ⊢
   split at hb
   ·rename_i hh
    simp at hh
   ·rename_i k m hh
    simp at hh
    rw[hh]at q
    have hv:a.eval y=.int k m:=q
    split at hb
    ·rename_i h0
     cases hb
     rw[hv]
     exact run_sliceBound w k m cap code h0 (by omega)
    ·cases hb
   ·cases hb
theorem OS {c:Cx}(h7:K4 N c t a){lo hi:Option Operand}{lx hx:Option O}(ho1:Un lo lx=true)(ho2:Un hi hx=true){isS:Bool}{len cap l h:Nat}(h1:dK (lx.map (ev t)) 0=some l)(h2:dK (hx.map (ev t)) len=some h)(hl:l<=h)(hh:h<=cap) :
  (Instr.sliceBounds isS len cap (lo.map a.eval) (hi.map a.eval) none).run P w=.ok (l,h,cap) w:=by
 have e1:=ZI (P:=P) (w:=w) h7 ho2 (code:=if isS then .sliceAcap else .sliceAlen) h2 hh
 have e2:=ZI (P:=P) (w:=w) h7 ho1 (code:=.sliceB) h1 hl
 unfold Instr.sliceBounds
 simp only[Sem.run_bind,Sem.run_pure,Result.andThen_ok,Option.isSome_none,Bool.false_eq_true,if_false]
 cases hhi:hi.map a.eval with
 | none =>
  rw[hhi]at e1
  simp only[Sem.run_pure]at e1
  injection e1 with e1 _
  subst e1
  simp only[Sem.run_pure,Sem.run_bind,Result.andThen_ok]
  cases hlo:lo.map a.eval with
  | none=>rw[hlo]at e2;simp only[Sem.run_pure]at e2;injection e2 with e2 _;subst e2;simp
  | some u=>rw[hlo]at e2;simp only at e2;simp only[e2,Sem.run_pure,Sem.run_bind,Result.andThen_ok]
 | some v =>
  rw[hhi]at e1
  simp only at e1
  simp only[e1,Sem.run_bind,Result.andThen_ok]
  cases hlo:lo.map a.eval with
  | none=>rw[hlo]at e2;simp only[Sem.run_pure]at e2;injection e2 with e2 _;subst e2;simp[e1]
  | some u=>rw[hlo]at e2;simp only at e2;simp only[e1,e2,Sem.run_pure,Sem.run_bind,Result.andThen_ok]
theorem dx {d ty:Nat}{x:O}{xo:Operand}{lo hi:Option Operand}{lx hx:Option O}{r:V}(hs:Sm c0 N D t H a w)(hd:o.dst=some d)(hn:d<N)(ho:o.op=.slice ty xo lo hi none)(hu:P.underlying ty=some .string)(hxo:Bw xo x=true)
  (ho1:Un lo lx=true) (ho2:Un hi hx=true) (hr:qW (ev t x) (lx.map (ev t)) (hx.map (ev t))=some r):D0 P c0 N D o a w ((d,r)::t) H:=by
 obtain⟨_,_,c,_,_,_,_,h7⟩:=id hs
 have q1:=At h7 hxo
 cases hp:ev t x<;>rw[hp]at hr q1<;>simp only[qW,reduceCtorEq]at hr
 rename_i s
 have hv:a.eval xo=.string ⟨⟨s⟩⟩:=q1
 split at hr
 ·rename_i l h e1 e2
  split at hr
  ·rename_i hh
   cases hr
   have hsz:(⟨⟨s⟩⟩:ByteArray).size=s.length:=rfl
   have hb:=OS (P:=P) (w:=w) h7 ho1 ho2 (isS:=false) (cap:=s.length) e1 e2 hh.1 hh.2
   refine AP hs hd hn (v:=.string ⟨⟨(s.drop l).take (h-l)⟩⟩) ?_ (fun c' _ _ _ _=>rfl)
   have hext:(⟨⟨s⟩⟩:ByteArray).extract l h=⟨⟨(s.drop l).take (h-l)⟩⟩:=by
    apply ByteArray.ext
    apply Array.ext'
    simp[ByteArray.data_extract]
   simp only[execOp,ho,Sem.run_bind,Option.map_none,run_sliceAt_string _ _ _ _ _ _ hu,hv,Instr.slice,run_underlying hu,Result.andThen_ok,hsz,hb,Option.isSome_none,Bool.false_eq_true,if_false,Sem.run_pure,hext]
  ·cases hr
 ·cases hr
theorem jk {d ty e sz:Nat}{x:O}{xo:Operand}{lo hi:Option Operand}{lx hx:Option O}{r:V}(hs:Sm c0 N D t H a w)(hd:o.dst=some d)(hn:d<N)(ho:o.op=.slice ty xo lo hi none)(hsl:Ra P ty e=true)(hsz:DH P e sz=true)(hxo:Bw xo x=true)
  (ho1:Un lo lx=true) (ho2:Un hi hx=true) (hr:sxV sz (ev t x) (lx.map (ev t)) (hx.map (ev t))=some r):D0 P c0 N D o a w ((d,r)::t) H:=by
 have key:∃ els l h,(∀ c v,BD c (ev t x) v->Gv c.w c.ok (.sl sz els) v)/\dK (lx.map (ev t)) 0=some l/\dK (hx.map (ev t)) els.length=some h/\l<=h/\h<=els.length/\r=.sl sz ((els.drop l).take (h-l)):=by
  cases h2:ev t x<;>simp only[h2,sxV,reduceCtorEq]at hr
  all_goals
   split at hr
   ·rename_i l h e1 e2
    split at hr
    ·rename_i hh
     obtain⟨rfl,hh1,hh2⟩:=hh
     cases hr
     exact⟨_,l,h,fun c v hv=>by first | exact hv | exact hv.1,e1,e2,hh1,hh2,rfl⟩
    ·cases hr
   ·cases hr
 obtain⟨els,l,h,g1,g2,g3,g4,g5,rfl⟩:=key
 obtain⟨_,_,c,_,_,_,_,h7⟩:=id hs
 obtain⟨ad,cp,b,off,p1,p2,p3,p4,p5,p6⟩:=g1 c _ (At h7 hxo)
 have hb:=OS (P:=P) (w:=w) h7 ho1 ho2 (isS:=true) (cap:=cp) g2 g3 g4 (by omega)
 have hu:=O1 hsl
 refine AP hs hd hn (v:=.slice (if cp=l then ad else ad.map (·.add (l*sz))) (h-l) (cp-l)) ?_ (fun c' _ _ h7' _=>?_)
 ·simp only[execOp,ho,Sem.run_bind,Option.map_none,Instr.sliceAt,run_underlying hu,p1,Instr.slice,Result.andThen_ok,hb,En hsz,Sem.run_pure]
 ·obtain⟨ad',cp',b',off',p1',_,_,_,p5',p6'⟩:=g1 c' _ (At h7' hxo)
  rw[p1]at p1'
  cases p1'
  have hlen:((els.drop l).take (h-l)).length=h-l:=by simp;omega
  refine⟨_,_,b',off'+l*sz,by rw[hlen],by rw[hlen];omega,by omega,by rw[hlen];omega,?_,lW p6'⟩
  by_cases hz:h=l
  ·left;subst hz;simp
  ·right
   have hne:els≠[]:=by intro e;subst e;simp at g5;omega
   have had:=p5'.resolve_left hne
   subst had
   rw[if_neg (by omega)]
   simp[Addr.add_lit]
end
end Go.Dw
end
