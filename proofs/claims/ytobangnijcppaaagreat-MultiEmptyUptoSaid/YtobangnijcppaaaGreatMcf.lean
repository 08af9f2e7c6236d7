/-
  Contracts and lemmas for MultiEmpty: part f of 7.
-/
import Derived.Test.YtobangnijcppaaaGreatMcc
import Derived.Test.YtobangnijcppaaaGreatMcd
import Derived.WalkKit
import Derived.Laws.MathBits
import Derived.Test.YtobangnijcppaaaGreatMce
set_option linter.unusedVariables false
set_option linter.unusedSimpArgs false
set_option maxRecDepth 100000
section
namespace Go.Dw
mutual
def eqV:V→V→Bool
 | .any,.any=>true
 | .int k n,.int k' n'=>decide (k = k') && decide (n = n')
 | .bool a,.bool b=>a == b
 | .str a,.str b=>decide (a = b)
 | .agg a,.agg b=>eqL a b
 | .tup a,.tup b=>eqL a b
 | .nil,.nil=>true
 | .sl z a,.sl z' b=>decide (z = z') && eqE a b
 | .ro a o,.ro b o'=>decide (o = o') && eqL a b
 | .nilp,.nilp=>true
 | .nilm,.nilm=>true
 | .nilf,.nilf=>true
 | .own i z a,.own i' z' b=>decide (i = i') && decide (z = z') && eqE a b
 | .ptr i o,.ptr i' o'=>decide (i = i') && decide (o = o')
 | .map i,.map i'=>decide (i = i')
 | .it i,.it i'=>decide (i = i')
 | .rw i z n,.rw i' z' n'=>decide (i = i') && decide (z = z') && decide (n = n')
 | .rp i n k o,.rp i' n' k' o'=>decide (i = i') && decide (n = n') && decide (k = k') && decide (o = o')
 | _,_=>false
def eqL:List V→List V→Bool
 | [],[]=>true
 | a :: l,b :: m=>eqV a b && eqL l m
 | _,_=>false
def eqE:List (List V)→List (List V)→Bool
 | [],[]=>true
 | a :: l,b :: m=>eqL a b && eqE l m
 | _,_=>false
end
theorem eqV_all:(∀ x y,eqV x y = true→x = y):=by
 refine fun x=>V.rec (motive_1:=fun x=>∀ y,eqV x y = true→x = y) (motive_2:=fun xs=>∀ ys,eqL xs ys = true→xs = ys) (motive_3:=fun xs=>∀ ys,eqE xs ys = true→xs = ys)
  ?_ ?_ ?_ ?_ ?_ ?_ ?_ ?_ ?_ ?_ ?_ ?_ ?_ ?_ ?_ ?_ ?_ ?_ ?_ ?_ ?_ ?_ ?_ x
 case refine_5=>intro a ih y h;cases y <;> simp only [eqV,Bool.false_eq_true] at h;rw [ih _ h]
 case refine_6=>intro a ih y h;cases y <;> simp only [eqV,Bool.false_eq_true] at h;rw [ih _ h]
 case refine_8=>intro z a ih y h;cases y <;> simp only [eqV,Bool.false_eq_true,Bool.and_eq_true,decide_eq_true_eq] at h;rw [h.1,ih _ h.2]
 case refine_9=>intro z a ih y h;cases y <;> simp only [eqV,Bool.false_eq_true,Bool.and_eq_true,decide_eq_true_eq] at h;rw [h.1,ih _ h.2]
 case refine_13=>intro f a l iha ihl y h;cases y <;> simp only [eqV,Bool.false_eq_true] at h
 case refine_14=>intro i z a ih y h;cases y <;> simp only [eqV,Bool.false_eq_true,Bool.and_eq_true,decide_eq_true_eq] at h;rw [h.1.1,h.1.2,ih _ h.2]
 case refine_20=>intro ys h;cases ys <;> simp only [eqL,Bool.false_eq_true] at h;rfl
 case refine_21=>intro a l iha ihl ys h;cases ys <;> simp only [eqL,Bool.false_eq_true,Bool.and_eq_true] at h;rw [iha _ h.1,ihl _ h.2]
 case refine_22=>intro ys h;cases ys <;> simp only [eqE,Bool.false_eq_true] at h;rfl
 case refine_23=>intro a l iha ihl ys h;cases ys <;> simp only [eqE,Bool.false_eq_true,Bool.and_eq_true] at h;rw [iha _ h.1,ihl _ h.2]
 all_goals (intros;rename_i y h;cases y <;> simp_all [eqV])
theorem eqL_sound:∀ (xs ys:List V),eqL xs ys = true→xs = ys
 | [],[],_=>rfl
 | [],_ :: _,h=>by simp [eqL] at h
 | _ :: _,[],h=>by simp [eqL] at h
 | a :: l,b :: m,h=>by simp only [eqL,Bool.and_eq_true] at h;rw [eqV_all _ _ h.1,eqL_sound _ _ h.2]
theorem eqE_sound:∀ (xs ys:List (List V)),eqE xs ys = true→xs = ys
 | [],[],_=>rfl
 | [],_ :: _,h=>by simp [eqE] at h
 | _ :: _,[],h=>by simp [eqE] at h
 | a :: l,b :: m,h=>by simp only [eqE,Bool.and_eq_true] at h;rw [eqL_sound _ _ h.1,eqE_sound _ _ h.2]
def eqM:List (V × V)→List (V × V)→Bool
 | [],[]=>true
 | a :: l,b :: m=>eqV a.1 b.1 && eqV a.2 b.2 && eqM l m
 | _,_=>false
theorem eqM_sound:∀ (xs ys:List (V × V)),eqM xs ys = true→xs = ys
 | [],[],_=>rfl
 | [],_ :: _,h=>by simp [eqM] at h
 | _ :: _,[],h=>by simp [eqM] at h
 | (a,a') :: l,(b,b') :: m,h=>by simp only [eqM,Bool.and_eq_true] at h;rw [eqV_all _ _ h.1.1,eqV_all _ _ h.1.2,eqM_sound _ _ h.2]
def eqOb:Ob→Ob→Bool
 | .cells e a,.cells e' b=>decide (e = e') && eqL a b
 | .arr e z n,.arr e' z' n'=>decide (e = e') && decide (z = z') && decide (n = n')
 | .map a,.map b=>eqM a b
 | .dead,.dead=>true
 | .row e z a,.row e' z' b=>decide (e = e') && decide (z = z') && eqE a b
 | _,_=>false
theorem eqOb_sound:∀ (x y:Ob),eqOb x y = true→x = y:=by
 intro x y h
 cases x <;> cases y <;> simp only [eqOb,Bool.false_eq_true,Bool.and_eq_true,decide_eq_true_eq] at h
 ·rw [h.1,eqL_sound _ _ h.2]
 ·rw [h.1.1,h.1.2,h.2]
 ·rw [eqM_sound _ _ h]
 ·rfl
 ·rw [h.1.1,h.1.2,eqE_sound _ _ h.2]
def eqH:List Ob→List Ob→Bool
 | [],[]=>true
 | a :: l,b :: m=>eqOb a b && eqH l m
 | _,_=>false
theorem eqH_sound:∀ (xs ys:List Ob),eqH xs ys = true→xs = ys
 | [],[],_=>rfl
 | [],_ :: _,h=>by simp [eqH] at h
 | _ :: _,[],h=>by simp [eqH] at h
 | a :: l,b :: m,h=>by simp only [eqH,Bool.and_eq_true] at h;rw [eqOb_sound _ _ h.1,eqH_sound _ _ h.2]
abbrev Res:=Option (V × List Ob)
abbrev Go:=Bool→List RV→(Nat→C)→Nat→List K→T→List Ob→Res
def bothR (a b:Res):Res:=match a with
 | some a=>match b with
  | some b=>if eqV a.1 b.1 && eqH a.2 b.2 then some a else none
  | none=>none
 | none=>none
theorem bothR_sound {a b:Res} {p:V × List Ob} (h:bothR a b = some p):a = some p∧b = some p:=by
 cases a with
 | none=>cases h
 | some a =>
  cases b with
  | none=>cases h
  | some b =>
   simp only [bothR] at h
   split at h
   case isFalse=>cases h
   rename_i hq
   simp only [Option.some.injEq] at h
   subst h
   simp only [Bool.and_eq_true] at hq
   exact ⟨rfl,by rw [show a = b from Prod.ext (eqV_all _ _ hq.1) (eqH_sound _ _ hq.2)]⟩
def agree:List Res→Res
 | []=>none
 | [r]=>r
 | r :: r2 :: rs=>bothR r (agree (r2 :: rs))
theorem agree_sound:∀ (l:List Res) (p:V × List Ob),agree l = some p→∀ r∈l,r = some p
 | [],_,h,_,hr=>by cases hr
 | [r],p,h,r',hr=>by simp only [List.mem_singleton] at hr;rw [hr];exact h
 | r :: r2 :: rs,p,h,r',hr=>by
  have h':=bothR_sound (show bothR r (agree (r2 :: rs)) = some p from h)
  rcases List.mem_cons.1 hr with rfl | hr
  ·exact h'.1
  ·exact agree_sound (r2 :: rs) p h'.2 r' hr
mutual
def refs:V→List Nat
 | .agg cs | .tup cs=>refsL cs
 | .fn _ a l=>refsL a++refsL l
 | .own i _ _=>[i]
 | .ptr i _=>[i]
 | .map i=>[i]
 | .it i=>[i]
 | .rw i _ _=>[i]
 | .rp i _ _ _=>[i]
 | _=>[]
def refsL:List V→List Nat
 | []=>[]
 | x :: xs=>refs x++refsL xs
end
def refsM:List (V × V)→List Nat
 | []=>[]
 | p :: es=>refs p.2++refsM es
def refsE:List (List V)→List Nat
 | []=>[]
 | x :: xs=>refsL x++refsE xs
def refsO:Ob→List Nat
 | .cells _ cs=>refsL cs
 | .map es=>refsM es
 | .row _ _ els=>refsE els
 | .iter (some i) _ _=>[i]
 | _=>[]
def refsH:List Ob→List Nat
 | []=>[]
 | o :: H=>refsO o++refsH H
def memN (i:Nat):List Nat→Bool
 | []=>false
 | j :: l=>Nat.beq i j || memN i l
def reach (B:Nat) (H:List Ob):Nat→List Nat→List Nat→List Nat
 | 0,_,acc=>acc
 | _+1,[],acc=>acc
 | n+1,i :: l,acc=>bif Nat.blt i B || memN i acc then reach B H n l acc else reach B H n (refsO (H.getD i .dead)++l) (acc++[i])
def okEx (B n:Nat):List Nat→Bool
 | []=>true
 | i :: l=>Nat.ble B i && Nat.blt i n && !memN i l && okEx B n l
theorem memN_iff:∀ {l:List Nat} {i:Nat},memN i l = true ↔ i∈l
 | [],i=>by simp [memN]
 | j :: l,i=>by simp [memN,memN_iff,Nat.beq_eq]
theorem okEx_sound {B n:Nat}:∀ {ex:List Nat},okEx B n ex = true→(∀ i∈ex,B≤i∧i < n)∧ex.Nodup
 | [],_=>⟨fun _ h=>(by cases h),List.nodup_nil⟩
 | j :: l,h=>by
  simp only [okEx,Bool.and_eq_true,Bool.not_eq_true',Nat.ble_eq,Nat.blt_eq] at h
  obtain ⟨⟨⟨h1,h2⟩,h3⟩,h4⟩:=h
  obtain ⟨k1,k2⟩:=okEx_sound h4
  refine ⟨fun i hi=>?_,List.nodup_cons.2 ⟨fun hm=>?_,k2⟩⟩
  ·rcases List.mem_cons.1 hi with rfl | hi
   ·exact ⟨h1,h2⟩
   ·exact k1 i hi
  ·rw [← memN_iff,h3] at hm;cases hm
def fin (pure:Bool) (rs:List RV) (B:Nat) (t:T) (H:List Ob):Res :=
 match retV rs t H with
 | none=>none
 | some x=>bif pure then (match B with | 0=>some (ren (fun _=>none) x,[]) | _=>none) else
  match reach B H 1000 (refs x++refsH (H.take B)) [] with
  | ex=>bif okEx B H.length ex then some (ren (pos? (List.range B++ex)) x,give (List.range B++ex) H) else none
theorem fin_sound {pure:Bool} {rs:List RV} {B:Nat} {t:T} {H:List Ob} {x:V} {Hr:List Ob} (h:fin pure rs B t H = some (x,Hr)) {e:X} (he:e = .ret ∨ e = .fall):Ends B rs (fun x' H'=>x' = x∧H' = Hr) e t H:=by
 unfold fin at h
 split at h
 case h_1=>cases h
 rename_i y hy
 cases pure with
 | true =>
  simp only [cond_true] at h
  split at h
  case h_2=>cases h
  cases h
  exact ends_nil he hy ⟨rfl,rfl⟩
 | false =>
  simp only [cond_false] at h
  cases hk:okEx B H.length (reach B H 1000 (refs y++refsH (H.take B)) []) with
  | false=>rw [hk] at h;cases h
  | true =>
   rw [hk] at h
   cases h
   obtain ⟨k1,k2⟩:=okEx_sound hk
   refine ends_ex he _ ?_ (fun i hi=>(k1 i hi).2) hy ⟨rfl,rfl⟩
   rw [List.nodup_append]
   exact ⟨List.nodup_range,k2,fun a ha b hb e=>by subst e;have:=List.mem_range.1 ha;have:=(k1 _ hb).1;omega⟩
structure FD where
 nd:Nat→C
 c:C
 n:Nat
 rs:List RV
abbrev Code:=Nat→Option FD
abbrev Prims:=Nat→List V→List Ob→Res
def callI (code:Code) (prims:Prims) (ih:Go) (pure:Bool) (f:Nat) (args:List V) (H:List Ob):Res :=
 match prims f args H with
 | some r=>some r
 | none=>match code f with
  | some fd=>bif Nat.beq args.length fd.n then ih pure fd.rs fd.nd H.length [.c fd.c] (ini 0 args) H else none
  | none=>none
def nxK (seen:List Nat) (k:Nat):List (V × V)→List (Nat × V × V)
 | []=>[]
 | p :: es=>bif memN k seen then nxK seen (k+1) es else (k,p) :: nxK seen (k+1) es
def allSeen (seen:List Nat):Nat→Bool
 | 0=>true
 | n+1=>memN n seen && allSeen seen n
def step (code:Code) (prims:Prims) (ih:Go) (pure:Bool) (rs:List RV) (N:Nat→C) (B:Nat) (s:List K) (t:T) (H:List Ob):Res :=
 match s with
 | []=>fin pure rs B t H
 | .c c :: s=>match c with
  | .skip=>ih pure rs N B s t H
  | .seq a b=>ih pure rs N B (.c a :: .c b :: s) t H
  | .reg l=>ih pure rs N B (.r l :: s) t H
  | .dr _ l=>ih pure rs N B (.r l :: s) t H
  | .gh l c=>ih pure rs N B (.r (l.map .op) :: .c c :: s) t H
  | .cond x a b=>match ev t x with
   | .bool c=>ih pure rs N B (.c (if c then a else b) :: s) t H
   | _=>none
  | .blk id a=>ih pure rs N B (.c a :: .mk id :: s) t H
  | .loop a=>ih pure rs N B (.c a :: .c (.loop a) :: s) t H
  | .exit id=>match popTo id s with
   | some s'=>ih pure rs N B s' t H
   | none=>none
  | .ret=>fin pure rs B t H
  | .n k=>ih pure rs N B (.c (N k) :: s) t H
  | .m k=>ih pure rs N B (.c (N k) :: s) t H
  | _=>none
 | .mk _ :: s=>ih pure rs N B s t H
 | .br .. :: _=>none
 | .r l :: s=>match l with
  | []=>ih pure rs N B s t H
  | .op i :: l=>match exec B i t H with
   | some (t',H')=>ih pure rs N B (.r l :: s) t' H'
   | none=>none
  | .call d f args :: l=>match callI code prims ih false f (args.map (ev t)) H with
   | some (x,H')=>ih pure rs N B (.r l :: s) (setO d x t) H'
   | none=>none
  | .callv d g args :: l=>match ev t g with
   | .fn (.func f) fst caps=>match callI code prims ih false f (fst++args.map (ev t)++caps) H with
    | some (x,H')=>ih pure rs N B (.r l :: s) (setO d x t) H'
    | none=>none
   | _=>none
  | .callp d f args :: l=>match callI code prims ih true f (rens (fun _=>none) (args.map (ev t))) [] with
   | some (x,[])=>ih pure rs N B (.r l :: s) (setO d (ren (fun _=>none) x) t) H
   | _=>none
  | .callvp d g args :: l=>match ev t g with
   | .fn (.func f) fst caps=>match callI code prims ih true f (rens (fun _=>none) (fst++args.map (ev t)++caps)) [] with
    | some (x,[])=>ih pure rs N B (.r l :: s) (setO d (ren (fun _=>none) x) t) H
    | _=>none
   | _=>none
  | .gd x b ds g :: l=>match ev t x with
   | .bool c=>ih pure rs N B (.r ((if c = b then g else [])++l) :: s) (if c = b then t else ds.map (fun d=>(d,V.tup []))++t) H
   | .tup []=>ih pure rs N B (.r l :: s) (ds.map (fun d=>(d,V.tup []))++t) H
   | _=>none
  | .alt ls :: l=>match l with
   | []=>agree (ls.map fun p=>ih pure rs N B (.r p.2 :: s) t H)
   | _=>none
  | .nl d ne x :: l=>match elV (ev t x) with
   | some []=>agree [ih pure rs N B (.r l :: s) ((d,.bool (true != ne)) :: t) H,ih pure rs N B (.r l :: s) ((d,.bool (false != ne)) :: t) H]
   | some _=>ih pure rs N B (.r l :: s) ((d,.bool (false != ne)) :: t) H
   | none=>none
  | .nx d x :: l=>match ev t x with
   | .it j=>match H[j]? with
    | some (.iter (some i) n seen)=>match H[i]? with
     | some (.map es)=>if n = es.length then
       bif allSeen seen n then ih pure rs N B (.r l :: s) ((d,.tup [.bool false]) :: t) H
       else agree ((nxK seen 0 es).map fun p=>ih pure rs N B (.r l :: s) ((d,.tup [.bool true,p.2.1,p.2.2]) :: t) (H.set j (.iter (some i) n (seen++[p.1]))))
      else none
     | _=>none
    | _=>none
   | _=>none
def go (code:Code) (prims:Prims):Nat→Go
 | 0=>fun _ _ _ _ _ _ _=>none
 | n+1=>step code prims (go code prims n)
section
variable {P:Program} {code:Code} {prims:Prims}
def Snd (P:Program) (g:Go):Prop:=∀ pure rs N B s t H x Hr,g pure rs N B s t H = some (x,Hr)→Run P N B s t H (Ends B rs fun x' H'=>x' = x∧H' = Hr)
theorem callI_sound (hm:P.follows .mixedOrders = true) (hc:∀ f fd,code f = some fd→okF P f fd.nd fd.c fd.n fd.rs = true)
  (hp:∀ f args H x H',prims f args H = some (x,H')→Spec P f args H fun x' H''=>x' = x∧H'' = H') {ih:Go} (hi:Snd P ih) {pure:Bool} {f:Nat} {args:List V} {H:List Ob} {x:V} {H':List Ob}
  (h:callI code prims ih pure f args H = some (x,H')):Spec P f args H fun x' H''=>x' = x∧H'' = H':=by
 unfold callI at h
 split at h
 case h_1 r hr =>
  cases h
  exact hp _ _ _ _ _ hr
 split at h
 case h_2=>cases h
 rename_i fd hfd
 cases hl:Nat.beq args.length fd.n with
 | false=>rw [hl] at h;cases h
 | true =>
  rw [hl] at h
  exact spec_of_run hm (hc _ _ hfd) (Nat.eq_of_beq_eq_true hl) (hi _ _ _ _ _ _ _ _ _ h)
theorem allSeen_of:∀ {n:Nat} {seen:List Nat},(∀ k,k < n→k∈seen)→allSeen seen n = true
 | 0,_,_=>rfl
 | n+1,seen,h=>by simp only [allSeen,Bool.and_eq_true];exact ⟨memN_iff.2 (h n (by omega)),allSeen_of fun k hk=>h k (by omega)⟩
theorem allSeen_to:∀ {n:Nat} {seen:List Nat},allSeen seen n = true→∀ k,k < n→k∈seen
 | 0,_,_,k,hk=>by omega
 | n+1,seen,h,k,hk=>by
  simp only [allSeen,Bool.and_eq_true] at h
  rcases Nat.lt_succ_iff_lt_or_eq.1 hk with h1 | rfl
  ·exact allSeen_to h.2 k h1
  ·exact memN_iff.1 h.1
theorem nxK_mem {seen:List Nat}:∀ {es:List (V × V)} {j k:Nat} {p:V × V},es[k]? = some p→j+k ∉ seen→(j+k,p)∈nxK seen j es
 | [],j,k,p,h,_=>by simp at h
 | q :: es,j,0,p,h,hn=>by
  simp only [List.getElem?_cons_zero,Option.some.injEq] at h
  subst h
  cases hm:memN j seen with
  | true=>exact absurd (memN_iff.1 hm) hn
  | false=>simp only [nxK,hm,cond_false];exact List.mem_cons_self
 | q :: es,j,k+1,p,h,hn=>by
  simp only [List.getElem?_cons_succ] at h
  have:=nxK_mem (seen:=seen) (j:=j+1) h (by rw [show j+1+k = j+(k+1) by omega];exact hn)
  rw [show j+1+k = j+(k+1) by omega] at this
  cases hm:memN j seen with
  | true=>simp only [nxK,hm,cond_true];exact this
  | false=>simp only [nxK,hm,cond_false];exact List.mem_cons_of_mem _ this
theorem step_sound (hm:P.follows .mixedOrders = true) (hc:∀ f fd,code f = some fd→okF P f fd.nd fd.c fd.n fd.rs = true)
  (hp:∀ f args H x H',prims f args H = some (x,H')→Spec P f args H fun x' H''=>x' = x∧H'' = H') {ih:Go} (hi:Snd P ih):Snd P (step code prims ih):=by
 intro pure rs N B s t H x Hr h
 have hi':∀ {s t H},ih pure rs N B s t H = some (x,Hr)→Run P N B s t H (Ends B rs fun x' H'=>x' = x∧H' = Hr):=fun h=>hi _ _ _ _ _ _ _ _ _ h
 unfold step at h
 split at h
 ·exact .done (fin_sound h (.inr rfl))
 ·split at h
  ·exact .skip (hi' h)
  ·exact .seq (hi' h)
  ·exact .reg (hi' h)
  ·exact .dr (hi' h)
  ·exact .gh (hi' h)
  ·split at h
   case h_2=>cases h
   rename_i c hv
   exact .cond c hv (hi' h)
  ·exact .blk (hi' h)
  ·exact .loop (hi' h)
  ·split at h
   case h_2=>cases h
   rename_i s' hs
   exact .exit s' hs (hi' h)
  ·exact .ret (fin_sound h (.inl rfl))
  ·exact .n (hi' h)
  ·exact .m (hi' h)
  ·cases h
 ·exact .mk (hi' h)
 ·cases h
 ·split at h
  ·exact .rend (hi' h)
  ·split at h
   case h_2=>cases h
   rename_i t' H' he
   exact .op t' H' he (hi' h)
  ·split at h
   case h_2=>cases h
   rename_i y H' he
   exact .callA _ (callI_sound hm hc hp hi he) (by rintro _ _ ⟨rfl,rfl⟩;exact hi' h)
  ·split at h
   case h_2=>cases h
   rename_i f fst caps hv
   split at h
   case h_2=>cases h
   rename_i y H' he
   exact .callvA (.func f) fst caps (fun x' H''=>x' = y∧H'' = H') hv (.inl ⟨f,rfl⟩) (specF_func ▸ callI_sound hm hc hp hi he) (by rintro _ _ ⟨rfl,rfl⟩;exact hi' h)
  ·split at h
   case h_2=>cases h
   rename_i y he
   exact .callp y (callI_sound hm hc hp hi he) (hi' h)
  ·split at h
   case h_2=>cases h
   rename_i f fst caps hv
   split at h
   case h_2=>cases h
   rename_i y he
   exact .callvp f fst caps y hv (callI_sound hm hc hp hi he) (hi' h)
  ·split at h
   ·rename_i c hv
    exact .gd c hv (hi' h)
   ·rename_i hv
    exact .gdU hv (hi' h)
   ·cases h
  ·split at h
   case h_2=>cases h
   refine .alt fun p hp'=>hi' (agree_sound _ _ h _ (List.mem_map.2 ⟨p,hp',rfl⟩))
  ·split at h
   ·rename_i he
    refine .nl [] he fun c _=>?_
    have h2:=agree_sound _ _ h
    cases c with
    | true=>exact hi' (h2 _ (by simp))
    | false=>exact hi' (h2 _ (by simp))
   ·rename_i els hne he
    refine .nl els he fun c hcc=>?_
    cases c with
    | true=>exact absurd (hcc rfl) (fun e=>hne (by rw [← e]))
    | false=>exact hi' h
   ·cases h
  ·split at h
   case h_2=>cases h
   rename_i j hv
   split at h
   case h_2=>cases h
   rename_i i n seen h1
   split at h
   case h_2=>cases h
   rename_i es h2
   split at h
   case isFalse=>cases h
   rename_i hn
   refine .nx j i n seen es hv h1 h2 hn (fun hs=>?_) fun k p hk hk2=>?_
   ·rw [allSeen_of hs] at h
    exact hi' h
   ·cases hall:allSeen seen n with
    | true =>
     have hlt:=(List.getElem?_eq_some_iff.1 hk).1
     exact absurd (allSeen_to hall k (by omega)) hk2
    | false =>
     rw [hall] at h
     have:=agree_sound _ _ h _ (List.mem_map.2 ⟨(k,p),by simpa using nxK_mem (j:=0) hk (by simpa using hk2),rfl⟩)
     exact hi' this
theorem go_sound (hm:P.follows .mixedOrders = true) (hc:∀ f fd,code f = some fd→okF P f fd.nd fd.c fd.n fd.rs = true)
  (hp:∀ f args H x H',prims f args H = some (x,H')→Spec P f args H fun x' H''=>x' = x∧H'' = H'):∀ n,Snd P (go code prims n)
 | 0=>fun _ _ _ _ _ _ _ _ _ h=>by cases h
 | n+1=>step_sound hm hc hp (go_sound hm hc hp n)
theorem run_closed (hm:P.follows .mixedOrders = true) (hc:∀ f fd,code f = some fd→okF P f fd.nd fd.c fd.n fd.rs = true)
  (hp:∀ f args H x H',prims f args H = some (x,H')→Spec P f args H fun x' H''=>x' = x∧H'' = H') (n:Nat) {f:Nat} {args:List V} {x:V}
  (h:callI code prims (go code prims n) true f args [] = some (x,[])):Spec P f args [] fun x' H'=>x' = x∧H' = [] :=
 callI_sound hm hc hp (go_sound hm hc hp n) h
end
end Go.Dw
end
section
namespace Go.Dw
namespace sortStp
def nd (_:Nat):C:=.skip
def body:C:=.seq (.reg [.mv 5 (.s 0),.len 6 (.s 5),.mv 4 (.s 6)]) (.reg [.mv 7 (.s 0),.mv 8 (.s 4),.mv 9 (.s 4),.cvi 10 .u64 (.s 9),.callp (some 11) n_bits_Len [.s 10],.mv 12 (.s 1),.call (some 13) n_slices_pdqsortCmpFunc_Step [.s 7,(.i 0),.s 8,.s 11,.s 12]])
def rs:List RV:=[]
attribute [push_cast] nd body
theorem ok:okF prog n_slices_SortFunc_s_Step_Step nd body 2 rs = true:=by kernel_rfl
end sortStp
namespace pdqStp
def nd:Nat→C
 | 0=>.gh [.ks 0 [0,1,2,3,4,10,11]] (.m 7)
 | 1=>.seq (.reg [.mv 106 (.s 0),.mv 107 (.s 1),.mv 108 (.s 2),.mv 109 (.s 13),.mv 110 (.s 4),.callp (some 111) n_slices_partitionCmpFunc_Step [.s 106,.s 107,.s 108,.s 109,.s 110],.mv 105 (.s 111),.ex 112 (.s 105) 0,.ex 113 (.s 105) 1,.mv 16 (.s 112),.mv 17 (.s 113)]) (.seq (.reg [.mv 114 (.s 17),.mv 11 (.s 114)]) (.seq (.reg [.mv 115 (.s 16),.mv 116 (.s 1),.bin 117 .sub (.s 115) (.s 116),.mv 118 (.s 2),.mv 119 (.s 16),.bin 120 .sub (.s 118) (.s 119),.mv 18 (.s 117),.mv 19 (.s 120)]) (.seq (.reg [.mv 121 (.s 12),.bin 122 .quo (.s 121) (.i 8),.mv 20 (.s 122)]) (.seq (.reg [.mv 123 (.s 18),.mv 124 (.s 19),.bin 125 .lss (.s 123) (.s 124)]) (.cond (.s 125) (.seq (.reg [.mv 126 (.s 18),.mv 127 (.s 20),.bin 128 .geq (.s 126) (.s 127),.mv 10 (.s 128)]) (.seq (.reg [.mv 129 (.s 0),.mv 130 (.s 1),.mv 131 (.s 16),.mv 132 (.s 3),.mv 133 (.s 4),.callp (some 134) n_slices_pdqsortCmpFunc_Step [.s 129,.s 130,.s 131,.s 132,.s 133]]) (.reg [.mv 135 (.s 16),.bin 136 .add (.s 135) (.i 1),.mv 1 (.s 136)]))) (.seq (.reg [.mv 137 (.s 19),.mv 138 (.s 20),.bin 139 .geq (.s 137) (.s 138),.mv 10 (.s 139)]) (.seq (.reg [.mv 140 (.s 0),.mv 141 (.s 16),.bin 142 .add (.s 141) (.i 1),.mv 143 (.s 2),.mv 144 (.s 3),.mv 145 (.s 4),.callp (some 146) n_slices_pdqsortCmpFunc_Step [.s 140,.s 142,.s 143,.s 144,.s 145]]) (.reg [.mv 147 (.s 16),.mv 2 (.s 147)]))))))))
 | 2=>.seq (.seq (.dr [0,1,2,3,4,5,6,7,8,9,10,11,12,13,14,15,16] [.mv 81 (.s 1),.bin 82 .gtr (.s 81) (.i 0),.mv 83 (.s 82),.gd (.s 83) true [84] [.mv 84 (.s 4)],.gd (.s 83) true [85] [.mv 85 (.s 0)],.gd (.s 83) true [86] [.mv 86 (.s 1)],.gd (.s 83) true [87] [.bin 87 .sub (.s 86) (.i 1)],.gd (.s 83) true [88] [.ia 88 2 (.s 85) (.s 87)],.gd (.s 83) true [89] [.la 89 2 (.s 88)],.gd (.s 83) true [90] [.mv 90 (.s 0)],.gd (.s 83) true [91] [.mv 91 (.s 13)],.gd (.s 83) true [92] [.ia 92 2 (.s 90) (.s 91)],.gd (.s 83) true [93] [.la 93 2 (.s 92)],.gd (.s 83) true [94] [.callvp (some 94) (.s 84) [.s 89,.s 93]],.gd (.s 83) true [95] [.bin 95 .lss (.s 94) (.i 0)],.gd (.s 83) true [96] [.un 96 .not (.s 95)],.pick 97 (.s 83) (.s 96) (.c (.bool false))]) (.cond (.s 97) (.seq (.reg [.mv 98 (.s 0),.mv 99 (.s 1),.mv 100 (.s 2),.mv 101 (.s 13),.mv 102 (.s 4),.callp (some 103) n_slices_partitionEqualCmpFunc_Step [.s 98,.s 99,.s 100,.s 101,.s 102],.mv 15 (.s 103)]) (.seq (.reg [.mv 104 (.s 15),.mv 1 (.s 104)]) (.exit 1))) (.skip))) (.n 1)
 | 3=>.seq (.seq (.reg [.mv 68 (.s 10),.mv 69 (.s 68),.gd (.s 69) true [70] [.mv 70 (.s 11)],.pick 71 (.s 69) (.s 70) (.c (.bool false)),.mv 72 (.s 71),.gd (.s 72) true [73,74] [.mv 73 (.s 14),.bin 74 .eql (.s 73) (.i 1)],.pick 75 (.s 72) (.s 74) (.c (.bool false))]) (.cond (.s 75) (.seq (.reg [.mv 76 (.s 0),.mv 77 (.s 1),.mv 78 (.s 2),.mv 79 (.s 4),.callp (some 80) n_slices_partialInsertionSortCmpFunc_Step [.s 76,.s 77,.s 78,.s 79]]) (.cond (.s 80) (.ret) (.skip))) (.skip))) (.n 2)
 | 4=>.seq (.reg [.mv 48 (.s 0),.mv 49 (.s 1),.mv 50 (.s 2),.mv 51 (.s 4),.callp (some 52) n_slices_choosePivotCmpFunc_Step [.s 48,.s 49,.s 50,.s 51],.mv 47 (.s 52),.ex 53 (.s 47) 0,.ex 54 (.s 47) 1,.mv 13 (.s 53),.mv 14 (.s 54)]) (.seq (.seq (.reg [.mv 55 (.s 14),.bin 56 .eql (.s 55) (.i 2)]) (.cond (.s 56) (.seq (.reg [.mv 57 (.s 0),.mv 58 (.s 1),.mv 59 (.s 2),.mv 60 (.s 4),.callp (some 61) n_slices_reverseRangeCmpFunc_Step [.s 57,.s 58,.s 59,.s 60]]) (.seq (.reg [.mv 62 (.s 2),.bin 63 .sub (.s 62) (.i 1),.mv 64 (.s 13),.mv 65 (.s 1),.bin 66 .sub (.s 64) (.s 65),.bin 67 .sub (.s 63) (.s 66),.mv 13 (.s 67)]) (.reg [.mv 14 (.i 1)]))) (.skip))) (.n 3))
 | 5=>.seq (.seq (.reg [.mv 38 (.s 10),.un 39 .not (.s 38)]) (.cond (.s 39) (.seq (.reg [.mv 40 (.s 0),.mv 41 (.s 1),.mv 42 (.s 2),.mv 43 (.s 4),.callp (some 44) n_slices_breakPatternsCmpFunc_Step [.s 40,.s 41,.s 42,.s 43]]) (.reg [.mv 45 (.s 3),.bin 46 .sub (.s 45) (.i 1),.mv 3 (.s 46)])) (.skip))) (.n 4)
 | 6=>.seq (.seq (.reg [.mv 31 (.s 3),.bin 32 .eql (.s 31) (.i 0)]) (.cond (.s 32) (.seq (.reg [.mv 33 (.s 0),.mv 34 (.s 1),.mv 35 (.s 2),.mv 36 (.s 4),.callp (some 37) n_slices_heapSortCmpFunc_Step [.s 33,.s 34,.s 35,.s 36]]) (.ret)) (.skip))) (.n 5)
 | 7=>.blk 1 (.seq (.reg [.mv 21 (.s 2),.mv 22 (.s 1),.bin 23 .sub (.s 21) (.s 22),.mv 12 (.s 23)]) (.seq (.seq (.reg [.mv 24 (.s 12),.bin 25 .leq (.s 24) (.i 12)]) (.cond (.s 25) (.seq (.reg [.mv 26 (.s 0),.mv 27 (.s 1),.mv 28 (.s 2),.mv 29 (.s 4),.call (some 30) n_slices_insertionSortCmpFunc_Step [.s 26,.s 27,.s 28,.s 29]]) (.ret)) (.skip))) (.n 6)))
 | _=>.skip
def body:C:=.seq (.reg [.mv 10 (.c (.bool true))]) (.seq (.reg [.mv 11 (.c (.bool true))]) (.blk 0 (.loop (.n 0))))
def rs:List RV:=[]
attribute [push_cast] nd body
theorem ok:okF prog n_slices_pdqsortCmpFunc_Step nd body 5 rs = true:=by kernel_rfl
end pdqStp
namespace plcs
def nd:Nat→C
 | 0=>.seq (.reg [.mv 73 (.s 7),.mv 6 (.s 73)]) (.ret)
 | 1=>.gh [.ks 1 [0,4,7,18,19,20]] (.m 10)
 | 2=>.gh [.kt [0,4,9,10,12,18,19,20,45,46,47]] (.m 7)
 | 3=>.gh [.kt [0,4,9,10,12,14,18,19,20,45,46,47,51,52,53]] (.m 5)
 | 4=>.seq (.blk 5 (.seq (.reg [.ia 55 1 (.s 51) (.s 53),.ld 56 (.s 55),.mv 16 (.s 56)]) (.reg [.mv 57 (.s 12),.mv 58 (.s 14),.mv 59 (.s 16),.bs 60 1 [.s 58,.s 59],.callp (some 61) n_slices_Concat_s_int_int [.s 60],.bs 62 1 [.s 61],.app 63 t_s_int 1 24 (.s 57) (.s 62),.mv 12 (.s 63)]))) (.reg [.bin 64 .add (.s 53) (.i 1),.mv 53 (.s 64)])
 | 5=>.seq (.reg [.bin 54 .lss (.s 53) (.s 52)]) (.seq (.cond (.s 54) (.skip) (.exit 4)) (.n 4))
 | 6=>.seq (.blk 3 (.seq (.reg [.ia 49 1 (.s 45) (.s 47),.ld 50 (.s 49),.mv 14 (.s 50)]) (.seq (.reg [.mv 51 (.s 10),.len 52 (.s 51),.mv 53 (.i 0)]) (.blk 4 (.loop (.n 3)))))) (.reg [.bin 65 .add (.s 47) (.i 1),.mv 47 (.s 65)])
 | 7=>.seq (.reg [.bin 48 .lss (.s 47) (.s 46)]) (.seq (.cond (.s 48) (.skip) (.exit 2)) (.n 6))
 | 8=>.seq (.reg [.mv 12 (.c .nil),.non 12 t_s_int 1]) (.seq (.seq (.reg [.mv 45 (.s 7),.len 46 (.s 45),.mv 47 (.i 0)]) (.blk 2 (.loop (.n 2)))) (.dr [0,1,2,3,4,5,6,7] [.mv 66 (.s 12),.fa 67 3 (.s 4),.ld 68 (.s 67),.mv 69 (.s 9),.ia 70 4 (.s 68) (.s 69),.la 71 4 (.s 70),.mv 7 (.s 66),.st 4 (.s 4) (.s 71)]))
 | 9=>.seq (.blk 1 (.seq (.reg [.ia 22 1 (.s 18) (.s 20),.ld 23 (.s 22),.mv 9 (.s 23)]) (.seq (.reg [.mv 24 (.s 9),.bs 25 1 [.s 24],.bs 26 1 [.s 25],.mv 10 (.s 26)]) (.seq (.seq (.reg [.fa 27 0 (.s 4),.ld 28 (.s 27),.bin 29 .gtr (.s 28) (.i 0)]) (.cond (.s 29) (.seq (.reg [.mv 30 (.s 0),.fa 31 0 (.s 4),.ld 32 (.s 31),.bin 33 .sub (.s 32) (.i 1),.ia 34 6 (.s 30) (.s 33),.fa 35 0 (.s 34),.la 36 3 (.s 35),.al 11 t_Term [.str [],.bool false,.sl 3 []],.sf 11 3 (.s 36)]) (.dr [0,1,2,3,4,5,6,7,8] [.la 37 3 (.s 11),.la 38 3 (.s 11),.bs 39 3 [.s 38],.callp (some 40) n_term_VarsOf [.s 39],.mv 41 (.s 9),.ia 42 1 (.s 40) (.s 41),.ld 43 (.s 42),.callp (some 44) n_multi_occurrences [.s 37,.s 43],.mv 10 (.s 44)])) (.skip))) (.n 8))))) (.reg [.bin 72 .add (.s 20) (.i 1),.mv 20 (.s 72)])
 | 10=>.seq (.reg [.bin 21 .lss (.s 20) (.s 19)]) (.seq (.cond (.s 21) (.skip) (.exit 0)) (.n 9))
 | _=>.skip
def body:C:=.seq (.reg [.bx 4 t_Multi (.s 1),.mv 6 (.c (.sl 1 []))]) (.seq (.reg [.bs 17 1 [(.c (.sl 1 []))],.mv 7 (.s 17)]) (.seq (.seq (.reg [.mv 18 (.s 2),.len 19 (.s 18),.mv 20 (.i 0)]) (.blk 0 (.loop (.n 1)))) (.n 0)))
def rs:List RV:=[.t 6]
attribute [push_cast] nd body
theorem ok:okF prog n_multi_places nd body 3 rs = true:=by kernel_rfl
end plcs
structure FK where
 f:Nat
 fd:FD
 ok:okF prog f fd.nd fd.c fd.n fd.rs = true
def lookF (f:Nat):List FK→Option FD
 | []=>none
 | x :: l=>bif Nat.beq x.f f then some x.fd else lookF f l
theorem lookF_ok {f:Nat} {fd:FD}:∀ {l:List FK},lookF f l = some fd→okF prog f fd.nd fd.c fd.n fd.rs = true
 | [],h=>by cases h
 | x :: l,h=>by
  simp only [lookF] at h
  cases hb:Nat.beq x.f f with
  | true =>
   rw [hb] at h
   simp only [cond_true,Option.some.injEq] at h
   subst h
   rw [← Nat.eq_of_beq_eq_true hb]
   exact x.ok
  | false=>rw [hb] at h;exact lookF_ok h
def tab:List FK:=[
 ⟨n_multi_Chain,⟨multi_Chain.nd,multi_Chain.body,2,multi_Chain.rs⟩,multi_Chain.ok⟩,
 ⟨n_multi_Inner,⟨multi_Inner.nd,multi_Inner.body,2,multi_Inner.rs⟩,multi_Inner.ok⟩,
 ⟨n_multi_develop,⟨multi_develop.nd,multi_develop.body,3,multi_develop.rs⟩,multi_develop.ok⟩,
 ⟨n_multi_first,⟨multi_first.nd,multi_first.body,2,multi_first.rs⟩,multi_first.ok⟩,
 ⟨n_multi_deep,⟨multi_deep.nd,multi_deep.body,2,multi_deep.rs⟩,multi_deep.ok⟩,
 ⟨n_multi_node,⟨multi_node.nd,multi_node.body,2,multi_node.rs⟩,multi_node.ok⟩,
 ⟨n_multi_set,⟨multi_set.nd,multi_set.body,3,multi_set.rs⟩,multi_set.ok⟩,
 ⟨n_slices_Clone_s_Multi_Multi,⟨slices_Clone_s_Multi_Multi.nd,slices_Clone_s_Multi_Multi.body,1,slices_Clone_s_Multi_Multi.rs⟩,slices_Clone_s_Multi_Multi.ok⟩,
 ⟨n_multi_contract,⟨multi_contract.nd,multi_contract.body,2,multi_contract.rs⟩,multi_contract.ok⟩,
 ⟨n_multi_Plug,⟨multi_Plug.nd,multi_Plug.body,3,multi_Plug.rs⟩,multi_Plug.ok⟩,
 ⟨n_multi_Fit,⟨multi_Fit.nd,multi_Fit.body,1,multi_Fit.rs⟩,multi_Fit.ok⟩,
 ⟨n_multi_size,⟨multi_size.nd,multi_size.body,1,multi_size.rs⟩,multi_size.ok⟩,
 ⟨n_multi_depth,⟨multi_depth.nd,multi_depth.body,1,multi_depth.rs⟩,multi_depth.ok⟩,
 ⟨n_multi_own,⟨multi_own.nd,multi_own.body,1,multi_own.rs⟩,multi_own.ok⟩,
 ⟨n_slices_Clone_s_int_int,⟨slices_Clone_s_int_int.nd,slices_Clone_s_int_int.body,1,slices_Clone_s_int_int.rs⟩,slices_Clone_s_int_int.ok⟩,
 ⟨n_slices_Index_s_string_string,⟨slices_Index_s_string_string.nd,slices_Index_s_string_string.body,2,slices_Index_s_string_string.rs⟩,slices_Index_s_string_string.ok⟩,
 ⟨n_multi_Steps,⟨multi_Steps.nd,multi_Steps.body,2,multi_Steps.rs⟩,multi_Steps.ok⟩,
 ⟨n_multi_Steps_1,⟨multi_Steps_1.nd,multi_Steps_1.body,2,multi_Steps_1.rs⟩,multi_Steps_1.ok⟩,
 ⟨n_multi_Steps_2,⟨multi_Steps_2.nd,multi_Steps_2.body,2,multi_Steps_2.rs⟩,multi_Steps_2.ok⟩,
 ⟨n_multi_walk,⟨multi_walk.nd,multi_walk.body,4,multi_walk.rs⟩,multi_walk.ok⟩,
 ⟨n_slices_Compare_s_int_int,⟨slices_Compare_s_int_int.nd,slices_Compare_s_int_int.body,2,slices_Compare_s_int_int.rs⟩,slices_Compare_s_int_int.ok⟩,
 ⟨n_cmp_Compare_int,⟨cmp_Compare_int.nd,cmp_Compare_int.body,2,cmp_Compare_int.rs⟩,cmp_Compare_int.ok⟩,
 ⟨n_cmp_isNaN_int,⟨cmp_isNaN_int.nd,cmp_isNaN_int.body,1,cmp_isNaN_int.rs⟩,cmp_isNaN_int.ok⟩,
 ⟨n_slices_insertionSortCmpFunc_Step,⟨slices_insertionSortCmpFunc_Step.nd,slices_insertionSortCmpFunc_Step.body,4,slices_insertionSortCmpFunc_Step.rs⟩,slices_insertionSortCmpFunc_Step.ok⟩,
 ⟨n_multi_places,⟨plcs.nd,plcs.body,3,plcs.rs⟩,plcs.ok⟩,
 ⟨n_slices_SortFunc_s_Step_Step,⟨sortStp.nd,sortStp.body,2,sortStp.rs⟩,sortStp.ok⟩,
 ⟨n_slices_pdqsortCmpFunc_Step,⟨pdqStp.nd,pdqStp.body,5,pdqStp.rs⟩,pdqStp.ok⟩]
def code:Code:=fun f=>lookF f tab
theorem code_ok:∀ f fd,code f = some fd→okF prog f fd.nd fd.c fd.n fd.rs = true:=fun f fd h=>lookF_ok h
abbrev P1:=List V→Option V
def okPr (f:Nat) (p:P1):Prop:=∀ args x,p args = some x→PF f args x
structure PK where
 f:Nat
 p:P1
 ok:okPr f p
def lookP (f:Nat) (args:List V):List PK→Option V
 | []=>none
 | k :: l=>bif Nat.beq k.f f then (match k.p args with | some x=>some x | none=>lookP f args l) else lookP f args l
theorem lookP_ok {f:Nat} {args:List V} {x:V}:∀ {l:List PK},lookP f args l = some x→PF f args x
 | [],h=>by cases h
 | k :: l,h=>by
  simp only [lookP] at h
  cases hb:Nat.beq k.f f with
  | true =>
   rw [hb] at h
   simp only [cond_true] at h
   split at h
   ·rename_i y hy
    cases h
    rw [← Nat.eq_of_beq_eq_true hb]
    exact k.ok _ _ hy
   ·exact lookP_ok h
  | false=>rw [hb] at h;exact lookP_ok h
def primsOf (l:List PK):Prims:=fun f args H=>match H with
 | []=>match lookP f args l with
  | some x=>some (x,[])
  | none=>none
 | _=>none
theorem primsOf_ok {l:List PK}:∀ f args H x H',primsOf l f args H = some (x,H')→Spec prog f args H fun x' H''=>x' = x∧H'' = H':=by
 intro f args H x H' h
 unfold primsOf at h
 split at h
 case h_2=>cases h
 split at h
 case h_2=>cases h
 rename_i y hy
 cases h
 exact lookP_ok hy
def pOne (args0:List V) (x:V):P1:=fun args=>bif eqL args args0 then some x else none
theorem pOne_ok {f:Nat} {args0:List V} {x:V} (h:PF f args0 x):okPr f (pOne args0 x):=by
 intro args y hy
 unfold pOne at hy
 cases hb:eqL args args0 with
 | false=>rw [hb] at hy;cases hy
 | true=>rw [hb] at hy;cases hy;rw [eqL_sound _ _ hb];exact h
theorem closed (l:List PK) (n:Nat) {f:Nat} {args:List V} {x:V} (h:callI code (primsOf l) (go code (primsOf l) n) true f args [] = some (x,[])):PF f args x :=
 run_closed mixed code_ok primsOf_ok n h
def yields (r:Res) (x:V):Bool:=match r with
 | some (y,[])=>eqV y x
 | _=>false
theorem yields_sound {r:Res} {x:V} (h:yields r x = true):r = some (x,[]):=by
 unfold yields at h
 split at h
 ·rw [eqV_all _ _ h]
 ·cases h
end Go.Dw
end
section
namespace Go.Proofs
open Go.RowKit
set_option maxHeartbeats 4000000 in
set_option maxRecDepth 100000 in
theorem Tryz.len64_2 (w:World):Calls Tryz.prog 241 #[.int .u64 2] w fun e w'=>e = .returned (.int .i64 2)∧w' = w:=by
 go_enter Tryz.func241,Tryz.ntmps241
 go_wp2
 go_ret
 exact ⟨by kernel_rfl,rfl⟩
set_option maxHeartbeats 4000000 in
set_option maxRecDepth 100000 in
theorem Tryz.len_2 (w:World):Calls Tryz.prog 173 #[.int .u64 2] w fun e w'=>e = .returned (.int .i64 2)∧w' = w:=by
 have hm:=Tryz.len64_2
 go_enter Tryz.func173,Tryz.ntmps173
 go_wp2_with (go_at_call 241;refine (hm _).mono ?_;rintro e w' ⟨rfl,rfl⟩)
 go_ret
 exact ⟨rfl,rfl⟩
end Go.Proofs
namespace Go.Dw
open Go.Proofs
theorem len_in (args:Array Value) (w:World):(callFunc 173 args).run Tryz.prog w = .ok (.enter 173 args) w:=enters_of (P:=Tryz.prog) Tryz.func173 (by kernel_rfl) rfl args w
theorem bits_Len_2:PF n_bits_Len [.int .u64 2] (.int .i64 2):=by
 intro c vs hH hc hr
 obtain ⟨v,vs1,rfl,h1,h2⟩:=hr
 have h1:v = .int .u64 2:=h1
 have h2:vs1 = []:=h2
 subst h1;subst h2
 left
 refine ⟨len_in _ _,?_⟩
 refine (Tryz.len_2 c.w).mono ?_
 rintro e w' ⟨rfl,rfl⟩
 exact ⟨_,.int .i64 2,c,rfl,rfl,⟨rfl,hH⟩,hc,rfl,.refl c⟩
end Go.Dw
end
section
namespace Go.Dw
def vX:Term:=.mk [120] true []
def tA:Term:=.mk [97] false []
def fT (t:Term):Term:=.mk [102] false [t]
def gT (t u:Term):Term:=.mk [103] false [t,u]
def dbl:List ARule:=[⟨fT vX,gT vX vX⟩]
def mA:AMulti:=.mk 0 [97] false []
def mF (m:AMulti):AMulti:=.mk 1 [] false [m]
def m0:AMulti:=mF (mF mA)
theorem dbl_rbs:rbs dbl < 2^28:=by decide
theorem vars_f:varsOf [fT vX] = [[120]]:=by
 unfold varsOf
 have:vsetT [] [fT vX] = [[120]]:=by decide
 rw [this]
 unfold Proofs.sortS
 exact List.mergeSort_of_pairwise (by decide)
theorem run_vars:PF n_term_VarsOf [encTs [fT vX]] (encSs [[120]]):=by
 have:=term_VarsOf_s [fT vX] (by decide)
 rwa [vars_f] at this
theorem run_occ:PF n_multi_occurrences [encT (fT vX),.str [120]] (encPs [[0]]):=multi_occurrences_s (fT vX) [120] (by decide)
theorem run_cat (a b:List Int) (ha:a.length+b.length < 2^40):PF n_slices_Concat_s_int_int [encPs [a,b]] (encP (a++b)):=by
 have:=slices_Concat_s [a,b] (by simp) (by simpa using ha)
 simpa using this
theorem ok_m0:checkM dbl m0 = 0:=by decide +kernel
theorem end_l:endM dbl ARule.left m0 = (some (fT (fT tA)),0):=by decide +kernel
theorem end_r:endM dbl ARule.right m0 = (some (gT (gT tA tA) (gT tA tA)),0):=by decide +kernel
theorem run_src:PF n_multi_Source [encRs dbl,encM m0] (encTE (some (fT (fT tA))) 0):=by
 have:=multi_Source_s dbl m0 (by decide) (by decide)
 rwa [end_l] at this
theorem run_do (t u:Term) (s:AStep) (h:doE dbl t s = (some u,0)) (ht:tb t < 2^20) (hp:s.pos.length < 2^40):PF n_rewrite_Do [encRs dbl,encT t,encSt s] (encTE (some u) 0):=by
 have:=rewrite_Do_s dbl t s dbl_rbs (by omega) hp fun x hx=>by have:=setT_size s.pos t x;have:=fits_size hx;have:=size_le_tb t;omega
 rwa [h] at this
theorem do_1:doE dbl (fT (fT tA)) ⟨0,[]⟩ = (some (gT (fT tA) (fT tA)),0):=by decide +kernel
theorem do_2:doE dbl (gT (fT tA) (fT tA)) ⟨0,[0]⟩ = (some (gT (gT tA tA) (fT tA)),0):=by decide +kernel
theorem do_3:doE dbl (gT (gT tA tA) (fT tA)) ⟨0,[1]⟩ = (some (gT (gT tA tA) (gT tA tA)),0):=by decide +kernel
theorem do_4:doE dbl (fT (fT tA)) ⟨0,[0]⟩ = (some (fT (gT tA tA)),0):=by decide +kernel
theorem do_5:doE dbl (fT (gT tA tA)) ⟨0,[]⟩ = (some (gT (gT tA tA) (gT tA tA)),0):=by decide +kernel
def tab17:List PK:=[⟨_,_,pOne_ok run_vars⟩,⟨_,_,pOne_ok run_occ⟩,⟨_,_,pOne_ok (run_cat [] [0] (by decide))⟩,⟨_,_,pOne_ok (run_cat [] [1] (by decide))⟩,⟨_,_,pOne_ok (run_cat [0] [0] (by decide))⟩,⟨_,_,pOne_ok run_src⟩,
 ⟨_,_,pOne_ok (run_do _ _ _ do_1 (by decide) (by decide))⟩,⟨_,_,pOne_ok (run_do _ _ _ do_2 (by decide) (by decide))⟩,⟨_,_,pOne_ok (run_do _ _ _ do_3 (by decide) (by decide))⟩,⟨_,_,pOne_ok (run_do _ _ _ do_4 (by decide) (by decide))⟩,⟨_,_,pOne_ok (run_do _ _ _ do_5 (by decide) (by decide))⟩,⟨_,_,pOne_ok bits_Len_2⟩]
def chV:V:=.tup [encC ⟨fT (fT tA),[⟨0,[]⟩,⟨0,[0]⟩,⟨0,[1]⟩]⟩,.int .i64 0]
def inV:V:=.tup [encC ⟨fT (fT tA),[⟨0,[0]⟩,⟨0,[]⟩]⟩,.int .i64 0]
def stV:V:=.tup [encSts [⟨0,[]⟩,⟨0,[0]⟩],.int .i64 0]
theorem ch_run:yields (callI code (primsOf tab17) (go code (primsOf tab17) 100000) true n_multi_Chain [encRs dbl,encM m0] []) chV = true:=by kernel_rfl
theorem in_run:yields (callI code (primsOf tab17) (go code (primsOf tab17) 100000) true n_multi_Inner [encRs dbl,encM m0] []) inV = true:=by kernel_rfl
theorem st_run:yields (callI code (primsOf tab17) (go code (primsOf tab17) 100000) true n_multi_Steps [encRs dbl,encM m0] []) stV = true:=by kernel_rfl
end Go.Dw
end
section
namespace Go.Dw
theorem run_ch:PF n_multi_Chain [encRs dbl,encM m0] chV:=closed tab17 100000 (yields_sound ch_run)
theorem run_in:PF n_multi_Inner [encRs dbl,encM m0] inV:=closed tab17 100000 (yields_sound in_run)
theorem run_st:PF n_multi_Steps [encRs dbl,encM m0] stV:=closed tab17 100000 (yields_sound st_run)
theorem run_tg:PF n_multi_Target [encRs dbl,encM m0] (encTE (some (gT (gT tA tA) (gT tA tA))) 0):=by
 have:=multi_Target_s dbl m0 (by decide) (by decide)
 rwa [end_r] at this
theorem run_ck:PF n_multi_Check [encRs dbl,encM m0] (.int .i64 0):=by
 have:=multi_Check_s dbl m0 (by decide) (by decide)
 rwa [ok_m0] at this
theorem run_ct:PF n_multi_Count [encM m0] (.int .i64 2):=multi_Count_s m0 (by decide)
theorem run_sz:PF n_r01_Size [encT (gT (gT tA tA) (gT tA tA))] (.int .i64 7):=r01_Size_s _ (by decide)
theorem l17_double_s:PF n_l17_double [] (encRs dbl):=by
 refine pf_of l17_double.ok rfl ?_
 push_cast
 exact pf_ret (by push_cast [l17_double.rs];rfl)
set_option maxHeartbeats 4000000 in
theorem alive17:PF n_l17_alive [] (.bool true):=by
 refine pf_of l17_alive.ok rfl ?_
 push_cast
 refine .of l17_double_s ?_
 push_cast
 refine .of run_tg ?_
 unfold encTE
 push_cast
 refine .of l17_double_s ?_
 push_cast
 refine .of run_ch ?_
 unfold chV
 push_cast
 refine .of l17_double_s ?_
 push_cast
 refine .of run_in ?_
 unfold inV
 push_cast
 refine .of l17_double_s ?_
 push_cast
 refine .of run_st ?_
 unfold stV
 push_cast
 refine .of l17_double_s ?_
 push_cast
 refine .of run_ck ?_
 push_cast
 refine .of run_ct ?_
 push_cast
 refine .of run_sz ?_
 push_cast
 exact pf_ret (by push_cast [l17_alive.rs])
end Go.Dw
end
section
namespace Go.Dw
theorem r17_Same_self (m:AMulti) (hs:msize m < 2^40):PF n_r17_Same [encM m,encM m] (.bool true):=by
 induction m using multi_ind with
 | h m ih =>
 have hst:=msize_args m
 have hll:=length_le_msizes m.args
 refine pf_of r17_Same.ok rfl ?_
 have e:∀ x:Bool,(x != x) = false:=fun x=>by cases x <;> rfl
 push_cast [e]
 refine loop_up (n:=m.args.length) (R:=fun k=>r17_Same.L3 (.ro (cM m) 0) (.ro (cM m) 0) (.int .i64 m.args.length) (.int .i64 k) 0 [] (Ends 0 r17_Same.rs fun x' H'=>x' = .bool true∧H' = [])) ?_ ?_ 0 (by omega)
 ·intro k hk ih2
  have hmm:=getD_mem hk
  have hm2:=msize_mem hmm
  refine r17_Same.G3 ?_
  push_cast [ilt hk]
  refine .of (ih _ hmm (by omega)) ?_
  push_cast [ilt hk,w64 (show k < 2^62 by omega)]
  exact ih2
 ·refine r17_Same.G3 ?_
  push_cast [inlt (Nat.le_refl _)]
  exact pf_ret (by push_cast [r17_Same.rs])
theorem r17_Empty_s (t:Term) (ht:size t < 2^40):PF n_r17_Empty [encT t] (encM (plainM t)):=by
 induction t using term_ind with
 | h t ih =>
 have hst:=size_args t
 have hll:=length_le_sizes t.args
 refine pf_of r17_Empty.ok rfl ?_
 rw [plainM_eq]
 push_cast
 refine loop_up (n:=t.args.length) (R:=fun k=>r17_Empty.L3 (.ptr 0 0) (.ptr 1 0) (encTs t.args) (.int .i64 t.args.length) (.int .i64 k) 0 [.cells t_Multi [.int .i64 0,.str [],.bool false,.sl 4 []],.cells t_Multi [.int .i64 0,.str t.name,.bool t.var,ownL cM 2 4 ((t.args.take k).map plainM)],.arr t_Multi 4 k] _) ?_ ?_ 0 (by omega)
 ·intro k hk ih2
  have hm:=getD_mem hk
  have hm2:=size_mem hm
  have hlen:((t.args.take k).map plainM).length = k:=by simp;omega
  rw [take_succ_getD hk,List.map_append,List.map_singleton] at ih2
  refine r17_Empty.G3 ?_
  push_cast [ilt hk]
  refine .of (ih _ hm (by omega)) ?_
  push_cast [hlen,w64 (show k < 2^62 by omega)]
  exact ⟨by unfold maxEls;omega,ih2⟩
 ·refine r17_Empty.G3 ?_
  push_cast [inlt (Nat.le_refl _)]
  refine pf_ret ?_
  push_cast [r17_Empty.rs,List.take_length,cM_mk]
  try rfl
mutual
theorem plain_size:∀ t,msize (plainM t) = size t
 | .mk _ _ l=>by simp only [plainM,msize,size,plains_size l]
theorem plains_size:∀ l,msizes (plainMs l) = sizes l
 | []=>rfl
 | a :: l=>by simp only [plainMs,msizes,sizes,plain_size a,plains_size l]
end
mutual
theorem plain_depth:∀ t,mdepth (plainM t) = depth t
 | .mk _ _ l=>by simp only [plainM,mdepth,depth,plains_depth l]
theorem plains_depth:∀ l,mdepths (plainMs l) = depths l
 | []=>rfl
 | a :: l=>by simp only [plainMs,mdepths,depths,plain_depth a,plains_depth l]
end
mutual
theorem plain_mb:∀ t,mb (plainM t) = tb t
 | .mk _ _ l=>by simp only [plainM,mb,tb,plains_mb l]
theorem plains_mb:∀ l,mbs (plainMs l) = tbs l
 | []=>rfl
 | a :: l=>by simp only [plainMs,mbs,tbs,tb.tbs,plain_mb a,plains_mb l]
end
theorem plain_side (r:List ARule) (f:ARule→Term) (t:Term):sideM r f (plainM t) = t:=by
 induction t using term_ind with
 | h t ih =>
  rw [plainM_eq,sideM_eq]
  show (if (0:Int) = 0 then Term.mk t.name t.var ((t.args.map plainM).map (sideM r f)) else _) = t
  rw [if_pos rfl,List.map_map]
  have:t.args.map (sideM r f ∘ plainM) = t.args:=by
   conv=>rhs;rw [← List.map_id t.args]
   exact List.map_congr_left fun a ha=>ih a ha
  rw [this,Term.eta]
theorem plain_ok (t:Term) (hf:formed t = true):OkM [] (plainM t):=by
 induction t using term_ind with
 | h t ih =>
  rw [formed_eq] at hf
  have hr:(plainM t).rule = 0:=by rw [plainM_eq];rfl
  have hn:(plainM t).name = t.name:=by rw [plainM_eq];rfl
  have hv:(plainM t).var = t.var:=by rw [plainM_eq];rfl
  have ha:(plainM t).args = t.args.map plainM:=by rw [plainM_eq];rfl
  have harg:∀ a∈t.args,formed a = true:=fun a haa=>by
   cases hvv:t.var with
   | true =>
    rw [hvv,if_pos rfl,Bool.and_eq_true,decide_eq_true_eq] at hf
    rw [List.length_eq_zero_iff.1 hf.1] at haa;cases haa
   | false =>
    rw [hvv,if_neg (by simp),Bool.and_eq_true,Bool.and_eq_true] at hf
    exact List.all_eq_true.1 hf.2.2 a haa
  refine ⟨?_,?_⟩
  ·rw [allM_eq,Bool.and_eq_true]
   refine ⟨by unfold rangedM;rw [hr];rfl,?_⟩
   rw [ha,List.all_eq_true]
   intro x hx
   obtain ⟨a,haa,rfl⟩:=List.mem_map.1 hx
   exact (ih a haa (harg a haa)).rg
  ·rw [allM_eq,Bool.and_eq_true]
   refine ⟨?_,?_⟩
   ·unfold formedM
    rw [hr,hn,hv,ha,if_neg (by omega),List.length_map]
    cases hvv:t.var with
    | true =>
     rw [hvv,if_pos rfl] at hf
     rw [if_pos rfl];exact hf
    | false =>
     rw [hvv,if_neg (by simp),Bool.and_eq_true,Bool.and_eq_true] at hf
     rw [if_neg (by simp),Bool.and_eq_true]
     exact ⟨hf.1,hf.2.1⟩
   ·rw [ha,List.all_eq_true]
    intro x hx
    obtain ⟨a,haa,rfl⟩:=List.mem_map.1 hx
    exact (ih a haa (harg a haa)).fm
theorem plain_end (f:ARule→Term) {t:Term} (h:check t = 0):endM [] f (plainM t) = (some t,0):=by
 unfold check at h
 split at h
 ·rename_i hf
  split at h
  ·rename_i hft
   have hc:checkM [] (plainM t) = 0:=by
    refine checkM_iff.2 ⟨by decide +kernel,plain_ok t hf,?_,?_⟩
    ·rw [plain_size];exact fits_size hft
    ·rw [plain_depth];unfold fits at hft;rw [Bool.and_eq_true,decide_eq_true_eq,decide_eq_true_eq] at hft;exact hft.2
   unfold endM
   rw [if_neg (by simpa using hc),plain_side,if_pos hft]
  ·cases h
 ·cases h
set_option maxHeartbeats 2000000 in
theorem MultiEmpty_s (t:Term) (ht:tb t < 2^28):SpecE prog n_l17_MultiEmpty [encT t] [] (fun x' H'=>x' = .bool true∧H' = []):=by
 have hz:=size_le_tb t
 have hE:=multi_Empty_s t (by omega)
 unfold emptyE at hE
 refine spece_of_run mixed l17_MultiEmpty.ok rfl ?_
 by_cases h:check t = 0
 ·rw [if_neg (by simpa using h)] at hE
  have hS:=multi_Source_s [] (plainM t) (by decide) (by rw [plain_mb];omega)
  have hT:=multi_Target_s [] (plainM t) (by decide) (by rw [plain_mb];omega)
  rw [plain_end ARule.left h] at hS
  rw [plain_end ARule.right h] at hT
  unfold encTE at hS hT
  unfold encME at hE
  push_cast
  refine .of hE ?_
  push_cast
  refine .of (r01_Check_s t (by omega)) ?_
  push_cast [h]
  refine .of hS ?_
  push_cast
  refine .of hT ?_
  push_cast
  refine .of (r17_Empty_s t (by omega)) ?_
  push_cast
  refine .of (r17_Same_self (plainM t) (by rw [plain_size];omega)) ?_
  push_cast
  refine .of (r01_Equal_s t t (by omega) (by omega)) ?_
  push_cast
  refine .of (r01_Equal_s t t (by omega) (by omega)) ?_
  push_cast
  refine .of alive17 ?_
  push_cast
  exact pf_ret (by push_cast [l17_MultiEmpty.rs])
 ·rw [if_pos h] at hE
  unfold encME at hE
  push_cast
  refine .of hE ?_
  push_cast
  refine .of (r01_Check_s t (by omega)) ?_
  push_cast [eq_false h]
  refine .of (r17_Same_self zM (by decide)) ?_
  push_cast
  refine .of alive17 ?_
  push_cast
  exact pf_ret (by push_cast [l17_MultiEmpty.rs])
end Go.Dw
end
