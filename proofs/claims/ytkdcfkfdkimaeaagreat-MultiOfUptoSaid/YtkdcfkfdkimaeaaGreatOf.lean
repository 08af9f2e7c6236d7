/-
  Contracts and lemmas for MultiOf: part f of 9.
-/
import Derived.Test.YtkdcfkfdkimaeaaGreatOc
import Derived.Test.YtkdcfkfdkimaeaaGreatOd
import Derived.Test.YtkdcfkfdkimaeaaGreatOe
import Derived.WalkKit
import Derived.Laws.MathBits
set_option linter.unusedVariables false
set_option linter.unusedSimpArgs false
set_option maxRecDepth 100000
section
namespace Go.Dw
mutual
def eqV:V→V→Bool
 | .any,.any=>true
 | .int k n,.int k' n'=>decide (k = k') && decide (n = n')
 | .bool a,.bool b=>a == b
 | .str a,.str b=>decide (a = b)
 | .agg a,.agg b=>eqL a b
 | .tup a,.tup b=>eqL a b
 | .nil,.nil=>true
 | .sl z a,.sl z' b=>decide (z = z') && eqE a b
 | .ro a o,.ro b o'=>decide (o = o') && eqL a b
 | .nilp,.nilp=>true
 | .nilm,.nilm=>true
 | .nilf,.nilf=>true
 | .own i z a,.own i' z' b=>decide (i = i') && decide (z = z') && eqE a b
 | .ptr i o,.ptr i' o'=>decide (i = i') && decide (o = o')
 | .map i,.map i'=>decide (i = i')
 | .it i,.it i'=>decide (i = i')
 | .rw i z n,.rw i' z' n'=>decide (i = i') && decide (z = z') && decide (n = n')
 | .rp i n k o,.rp i' n' k' o'=>decide (i = i') && decide (n = n') && decide (k = k') && decide (o = o')
 | _,_=>false
def eqL:List V→List V→Bool
 | [],[]=>true
 | a :: l,b :: m=>eqV a b && eqL l m
 | _,_=>false
def eqE:List (List V)→List (List V)→Bool
 | [],[]=>true
 | a :: l,b :: m=>eqL a b && eqE l m
 | _,_=>false
end
theorem eqV_all:(∀ x y,eqV x y = true→x = y):=by
 refine fun x=>V.rec (motive_1:=fun x=>∀ y,eqV x y = true→x = y) (motive_2:=fun xs=>∀ ys,eqL xs ys = true→xs = ys) (motive_3:=fun xs=>∀ ys,eqE xs ys = true→xs = ys)
  ?_ ?_ ?_ ?_ ?_ ?_ ?_ ?_ ?_ ?_ ?_ ?_ ?_ ?_ ?_ ?_ ?_ ?_ ?_ ?_ ?_ ?_ ?_ x
 case refine_5=>intro a ih y h;cases y <;> simp only [eqV,Bool.false_eq_true] at h;rw [ih _ h]
 case refine_6=>intro a ih y h;cases y <;> simp only [eqV,Bool.false_eq_true] at h;rw [ih _ h]
 case refine_8=>intro z a ih y h;cases y <;> simp only [eqV,Bool.false_eq_true,Bool.and_eq_true,decide_eq_true_eq] at h;rw [h.1,ih _ h.2]
 case refine_9=>intro z a ih y h;cases y <;> simp only [eqV,Bool.false_eq_true,Bool.and_eq_true,decide_eq_true_eq] at h;rw [h.1,ih _ h.2]
 case refine_13=>intro f a l iha ihl y h;cases y <;> simp only [eqV,Bool.false_eq_true] at h
 case refine_14=>intro i z a ih y h;cases y <;> simp only [eqV,Bool.false_eq_true,Bool.and_eq_true,decide_eq_true_eq] at h;rw [h.1.1,h.1.2,ih _ h.2]
 case refine_20=>intro ys h;cases ys <;> simp only [eqL,Bool.false_eq_true] at h;rfl
 case refine_21=>intro a l iha ihl ys h;cases ys <;> simp only [eqL,Bool.false_eq_true,Bool.and_eq_true] at h;rw [iha _ h.1,ihl _ h.2]
 case refine_22=>intro ys h;cases ys <;> simp only [eqE,Bool.false_eq_true] at h;rfl
 case refine_23=>intro a l iha ihl ys h;cases ys <;> simp only [eqE,Bool.false_eq_true,Bool.and_eq_true] at h;rw [iha _ h.1,ihl _ h.2]
 all_goals (intros;rename_i y h;cases y <;> simp_all [eqV])
theorem eqL_sound:∀ (xs ys:List V),eqL xs ys = true→xs = ys
 | [],[],_=>rfl
 | [],_ :: _,h=>by simp [eqL] at h
 | _ :: _,[],h=>by simp [eqL] at h
 | a :: l,b :: m,h=>by simp only [eqL,Bool.and_eq_true] at h;rw [eqV_all _ _ h.1,eqL_sound _ _ h.2]
theorem eqE_sound:∀ (xs ys:List (List V)),eqE xs ys = true→xs = ys
 | [],[],_=>rfl
 | [],_ :: _,h=>by simp [eqE] at h
 | _ :: _,[],h=>by simp [eqE] at h
 | a :: l,b :: m,h=>by simp only [eqE,Bool.and_eq_true] at h;rw [eqL_sound _ _ h.1,eqE_sound _ _ h.2]
def eqM:List (V × V)→List (V × V)→Bool
 | [],[]=>true
 | a :: l,b :: m=>eqV a.1 b.1 && eqV a.2 b.2 && eqM l m
 | _,_=>false
theorem eqM_sound:∀ (xs ys:List (V × V)),eqM xs ys = true→xs = ys
 | [],[],_=>rfl
 | [],_ :: _,h=>by simp [eqM] at h
 | _ :: _,[],h=>by simp [eqM] at h
 | (a,a') :: l,(b,b') :: m,h=>by simp only [eqM,Bool.and_eq_true] at h;rw [eqV_all _ _ h.1.1,eqV_all _ _ h.1.2,eqM_sound _ _ h.2]
def eqOb:Ob→Ob→Bool
 | .cells e a,.cells e' b=>decide (e = e') && eqL a b
 | .arr e z n,.arr e' z' n'=>decide (e = e') && decide (z = z') && decide (n = n')
 | .map a,.map b=>eqM a b
 | .dead,.dead=>true
 | .row e z a,.row e' z' b=>decide (e = e') && decide (z = z') && eqE a b
 | _,_=>false
theorem eqOb_sound:∀ (x y:Ob),eqOb x y = true→x = y:=by
 intro x y h
 cases x <;> cases y <;> simp only [eqOb,Bool.false_eq_true,Bool.and_eq_true,decide_eq_true_eq] at h
 ·rw [h.1,eqL_sound _ _ h.2]
 ·rw [h.1.1,h.1.2,h.2]
 ·rw [eqM_sound _ _ h]
 ·rfl
 ·rw [h.1.1,h.1.2,eqE_sound _ _ h.2]
def eqH:List Ob→List Ob→Bool
 | [],[]=>true
 | a :: l,b :: m=>eqOb a b && eqH l m
 | _,_=>false
theorem eqH_sound:∀ (xs ys:List Ob),eqH xs ys = true→xs = ys
 | [],[],_=>rfl
 | [],_ :: _,h=>by simp [eqH] at h
 | _ :: _,[],h=>by simp [eqH] at h
 | a :: l,b :: m,h=>by simp only [eqH,Bool.and_eq_true] at h;rw [eqOb_sound _ _ h.1,eqH_sound _ _ h.2]
abbrev Res:=Option (V × List Ob)
abbrev Go:=Bool→List RV→(Nat→C)→Nat→List K→T→List Ob→Res
def bothR (a b:Res):Res:=match a with
 | some a=>match b with
  | some b=>if eqV a.1 b.1 && eqH a.2 b.2 then some a else none
  | none=>none
 | none=>none
theorem bothR_sound {a b:Res} {p:V × List Ob} (h:bothR a b = some p):a = some p∧b = some p:=by
 cases a with
 | none=>cases h
 | some a =>
  cases b with
  | none=>cases h
  | some b =>
   simp only [bothR] at h
   split at h
   case isFalse=>cases h
   rename_i hq
   simp only [Option.some.injEq] at h
   subst h
   simp only [Bool.and_eq_true] at hq
   exact ⟨rfl,by rw [show a = b from Prod.ext (eqV_all _ _ hq.1) (eqH_sound _ _ hq.2)]⟩
def agree:List Res→Res
 | []=>none
 | [r]=>r
 | r :: r2 :: rs=>bothR r (agree (r2 :: rs))
theorem agree_sound:∀ (l:List Res) (p:V × List Ob),agree l = some p→∀ r∈l,r = some p
 | [],_,h,_,hr=>by cases hr
 | [r],p,h,r',hr=>by simp only [List.mem_singleton] at hr;rw [hr];exact h
 | r :: r2 :: rs,p,h,r',hr=>by
  have h':=bothR_sound (show bothR r (agree (r2 :: rs)) = some p from h)
  rcases List.mem_cons.1 hr with rfl | hr
  ·exact h'.1
  ·exact agree_sound (r2 :: rs) p h'.2 r' hr
mutual
def refs:V→List Nat
 | .agg cs | .tup cs=>refsL cs
 | .fn _ a l=>refsL a++refsL l
 | .own i _ _=>[i]
 | .ptr i _=>[i]
 | .map i=>[i]
 | .it i=>[i]
 | .rw i _ _=>[i]
 | .rp i _ _ _=>[i]
 | _=>[]
def refsL:List V→List Nat
 | []=>[]
 | x :: xs=>refs x++refsL xs
end
def refsM:List (V × V)→List Nat
 | []=>[]
 | p :: es=>refs p.2++refsM es
def refsE:List (List V)→List Nat
 | []=>[]
 | x :: xs=>refsL x++refsE xs
def refsO:Ob→List Nat
 | .cells _ cs=>refsL cs
 | .map es=>refsM es
 | .row _ _ els=>refsE els
 | .iter (some i) _ _=>[i]
 | _=>[]
def refsH:List Ob→List Nat
 | []=>[]
 | o :: H=>refsO o++refsH H
def memN (i:Nat):List Nat→Bool
 | []=>false
 | j :: l=>Nat.beq i j || memN i l
def reach (B:Nat) (H:List Ob):Nat→List Nat→List Nat→List Nat
 | 0,_,acc=>acc
 | _+1,[],acc=>acc
 | n+1,i :: l,acc=>bif Nat.blt i B || memN i acc then reach B H n l acc else reach B H n (refsO (H.getD i .dead)++l) (acc++[i])
def okEx (B n:Nat):List Nat→Bool
 | []=>true
 | i :: l=>Nat.ble B i && Nat.blt i n && !memN i l && okEx B n l
theorem memN_iff:∀ {l:List Nat} {i:Nat},memN i l = true ↔ i∈l
 | [],i=>by simp [memN]
 | j :: l,i=>by simp [memN,memN_iff,Nat.beq_eq]
theorem okEx_sound {B n:Nat}:∀ {ex:List Nat},okEx B n ex = true→(∀ i∈ex,B≤i∧i < n)∧ex.Nodup
 | [],_=>⟨fun _ h=>(by cases h),List.nodup_nil⟩
 | j :: l,h=>by
  simp only [okEx,Bool.and_eq_true,Bool.not_eq_true',Nat.ble_eq,Nat.blt_eq] at h
  obtain ⟨⟨⟨h1,h2⟩,h3⟩,h4⟩:=h
  obtain ⟨k1,k2⟩:=okEx_sound h4
  refine ⟨fun i hi=>?_,List.nodup_cons.2 ⟨fun hm=>?_,k2⟩⟩
  ·rcases List.mem_cons.1 hi with rfl | hi
   ·exact ⟨h1,h2⟩
   ·exact k1 i hi
  ·rw [← memN_iff,h3] at hm;cases hm
def fin (pure:Bool) (rs:List RV) (B:Nat) (t:T) (H:List Ob):Res :=
 match retV rs t H with
 | none=>none
 | some x=>bif pure then (match B with | 0=>some (ren (fun _=>none) x,[]) | _=>none) else
  match reach B H 1000 (refs x++refsH (H.take B)) [] with
  | ex=>bif okEx B H.length ex then some (ren (pos? (List.range B++ex)) x,give (List.range B++ex) H) else none
theorem fin_sound {pure:Bool} {rs:List RV} {B:Nat} {t:T} {H:List Ob} {x:V} {Hr:List Ob} (h:fin pure rs B t H = some (x,Hr)) {e:X} (he:e = .ret ∨ e = .fall):Ends B rs (fun x' H'=>x' = x∧H' = Hr) e t H:=by
 unfold fin at h
 split at h
 case h_1=>cases h
 rename_i y hy
 cases pure with
 | true =>
  simp only [cond_true] at h
  split at h
  case h_2=>cases h
  cases h
  exact ends_nil he hy ⟨rfl,rfl⟩
 | false =>
  simp only [cond_false] at h
  cases hk:okEx B H.length (reach B H 1000 (refs y++refsH (H.take B)) []) with
  | false=>rw [hk] at h;cases h
  | true =>
   rw [hk] at h
   cases h
   obtain ⟨k1,k2⟩:=okEx_sound hk
   refine ends_ex he _ ?_ (fun i hi=>(k1 i hi).2) hy ⟨rfl,rfl⟩
   rw [List.nodup_append]
   exact ⟨List.nodup_range,k2,fun a ha b hb e=>by subst e;have:=List.mem_range.1 ha;have:=(k1 _ hb).1;omega⟩
structure FD where
 nd:Nat→C
 c:C
 n:Nat
 rs:List RV
abbrev Code:=Nat→Option FD
abbrev Prims:=Nat→List V→List Ob→Res
def callI (code:Code) (prims:Prims) (ih:Go) (pure:Bool) (f:Nat) (args:List V) (H:List Ob):Res :=
 match prims f args H with
 | some r=>some r
 | none=>match code f with
  | some fd=>bif Nat.beq args.length fd.n then ih pure fd.rs fd.nd H.length [.c fd.c] (ini 0 args) H else none
  | none=>none
def nxK (seen:List Nat) (k:Nat):List (V × V)→List (Nat × V × V)
 | []=>[]
 | p :: es=>bif memN k seen then nxK seen (k+1) es else (k,p) :: nxK seen (k+1) es
def allSeen (seen:List Nat):Nat→Bool
 | 0=>true
 | n+1=>memN n seen && allSeen seen n
def step (code:Code) (prims:Prims) (ih:Go) (pure:Bool) (rs:List RV) (N:Nat→C) (B:Nat) (s:List K) (t:T) (H:List Ob):Res :=
 match s with
 | []=>fin pure rs B t H
 | .c c :: s=>match c with
  | .skip=>ih pure rs N B s t H
  | .seq a b=>ih pure rs N B (.c a :: .c b :: s) t H
  | .reg l=>ih pure rs N B (.r l :: s) t H
  | .dr _ l=>ih pure rs N B (.r l :: s) t H
  | .gh l c=>ih pure rs N B (.r (l.map .op) :: .c c :: s) t H
  | .cond x a b=>match ev t x with
   | .bool c=>ih pure rs N B (.c (if c then a else b) :: s) t H
   | _=>none
  | .blk id a=>ih pure rs N B (.c a :: .mk id :: s) t H
  | .loop a=>ih pure rs N B (.c a :: .c (.loop a) :: s) t H
  | .exit id=>match popTo id s with
   | some s'=>ih pure rs N B s' t H
   | none=>none
  | .ret=>fin pure rs B t H
  | .n k=>ih pure rs N B (.c (N k) :: s) t H
  | .m k=>ih pure rs N B (.c (N k) :: s) t H
  | _=>none
 | .mk _ :: s=>ih pure rs N B s t H
 | .br .. :: _=>none
 | .r l :: s=>match l with
  | []=>ih pure rs N B s t H
  | .op i :: l=>match exec B i t H with
   | some (t',H')=>ih pure rs N B (.r l :: s) t' H'
   | none=>none
  | .call d f args :: l=>match callI code prims ih false f (args.map (ev t)) H with
   | some (x,H')=>ih pure rs N B (.r l :: s) (setO d x t) H'
   | none=>none
  | .callv d g args :: l=>match ev t g with
   | .fn (.func f) fst caps=>match callI code prims ih false f (fst++args.map (ev t)++caps) H with
    | some (x,H')=>ih pure rs N B (.r l :: s) (setO d x t) H'
    | none=>none
   | _=>none
  | .callp d f args :: l=>match callI code prims ih true f (rens (fun _=>none) (args.map (ev t))) [] with
   | some (x,[])=>ih pure rs N B (.r l :: s) (setO d (ren (fun _=>none) x) t) H
   | _=>none
  | .callvp d g args :: l=>match ev t g with
   | .fn (.func f) fst caps=>match callI code prims ih true f (rens (fun _=>none) (fst++args.map (ev t)++caps)) [] with
    | some (x,[])=>ih pure rs N B (.r l :: s) (setO d (ren (fun _=>none) x) t) H
    | _=>none
   | _=>none
  | .gd x b ds g :: l=>match ev t x with
   | .bool c=>ih pure rs N B (.r ((if c = b then g else [])++l) :: s) (if c = b then t else ds.map (fun d=>(d,V.tup []))++t) H
   | .tup []=>ih pure rs N B (.r l :: s) (ds.map (fun d=>(d,V.tup []))++t) H
   | _=>none
  | .alt ls :: l=>match l with
   | []=>agree (ls.map fun p=>ih pure rs N B (.r p.2 :: s) t H)
   | _=>none
  | .nl d ne x :: l=>match elV (ev t x) with
   | some []=>agree [ih pure rs N B (.r l :: s) ((d,.bool (true != ne)) :: t) H,ih pure rs N B (.r l :: s) ((d,.bool (false != ne)) :: t) H]
   | some _=>ih pure rs N B (.r l :: s) ((d,.bool (false != ne)) :: t) H
   | none=>none
  | .nx d x :: l=>match ev t x with
   | .it j=>match H[j]? with
    | some (.iter (some i) n seen)=>match H[i]? with
     | some (.map es)=>if n = es.length then
       bif allSeen seen n then ih pure rs N B (.r l :: s) ((d,.tup [.bool false]) :: t) H
       else agree ((nxK seen 0 es).map fun p=>ih pure rs N B (.r l :: s) ((d,.tup [.bool true,p.2.1,p.2.2]) :: t) (H.set j (.iter (some i) n (seen++[p.1]))))
      else none
     | _=>none
    | _=>none
   | _=>none
def go (code:Code) (prims:Prims):Nat→Go
 | 0=>fun _ _ _ _ _ _ _=>none
 | n+1=>step code prims (go code prims n)
section
variable {P:Program} {code:Code} {prims:Prims}
def Snd (P:Program) (g:Go):Prop:=∀ pure rs N B s t H x Hr,g pure rs N B s t H = some (x,Hr)→Run P N B s t H (Ends B rs fun x' H'=>x' = x∧H' = Hr)
theorem callI_sound (hm:P.follows .mixedOrders = true) (hc:∀ f fd,code f = some fd→okF P f fd.nd fd.c fd.n fd.rs = true)
  (hp:∀ f args H x H',prims f args H = some (x,H')→Spec P f args H fun x' H''=>x' = x∧H'' = H') {ih:Go} (hi:Snd P ih) {pure:Bool} {f:Nat} {args:List V} {H:List Ob} {x:V} {H':List Ob}
  (h:callI code prims ih pure f args H = some (x,H')):Spec P f args H fun x' H''=>x' = x∧H'' = H':=by
 unfold callI at h
 split at h
 case h_1 r hr =>
  cases h
  exact hp _ _ _ _ _ hr
 split at h
 case h_2=>cases h
 rename_i fd hfd
 cases hl:Nat.beq args.length fd.n with
 | false=>rw [hl] at h;cases h
 | true =>
  rw [hl] at h
  exact spec_of_run hm (hc _ _ hfd) (Nat.eq_of_beq_eq_true hl) (hi _ _ _ _ _ _ _ _ _ h)
theorem allSeen_of:∀ {n:Nat} {seen:List Nat},(∀ k,k < n→k∈seen)→allSeen seen n = true
 | 0,_,_=>rfl
 | n+1,seen,h=>by simp only [allSeen,Bool.and_eq_true];exact ⟨memN_iff.2 (h n (by omega)),allSeen_of fun k hk=>h k (by omega)⟩
theorem allSeen_to:∀ {n:Nat} {seen:List Nat},allSeen seen n = true→∀ k,k < n→k∈seen
 | 0,_,_,k,hk=>by omega
 | n+1,seen,h,k,hk=>by
  simp only [allSeen,Bool.and_eq_true] at h
  rcases Nat.lt_succ_iff_lt_or_eq.1 hk with h1 | rfl
  ·exact allSeen_to h.2 k h1
  ·exact memN_iff.1 h.1
theorem nxK_mem {seen:List Nat}:∀ {es:List (V × V)} {j k:Nat} {p:V × V},es[k]? = some p→j+k ∉ seen→(j+k,p)∈nxK seen j es
 | [],j,k,p,h,_=>by simp at h
 | q :: es,j,0,p,h,hn=>by
  simp only [List.getElem?_cons_zero,Option.some.injEq] at h
  subst h
  cases hm:memN j seen with
  | true=>exact absurd (memN_iff.1 hm) hn
  | false=>simp only [nxK,hm,cond_false];exact List.mem_cons_self
 | q :: es,j,k+1,p,h,hn=>by
  simp only [List.getElem?_cons_succ] at h
  have:=nxK_mem (seen:=seen) (j:=j+1) h (by rw [show j+1+k = j+(k+1) by omega];exact hn)
  rw [show j+1+k = j+(k+1) by omega] at this
  cases hm:memN j seen with
  | true=>simp only [nxK,hm,cond_true];exact this
  | false=>simp only [nxK,hm,cond_false];exact List.mem_cons_of_mem _ this
theorem step_sound (hm:P.follows .mixedOrders = true) (hc:∀ f fd,code f = some fd→okF P f fd.nd fd.c fd.n fd.rs = true)
  (hp:∀ f args H x H',prims f args H = some (x,H')→Spec P f args H fun x' H''=>x' = x∧H'' = H') {ih:Go} (hi:Snd P ih):Snd P (step code prims ih):=by
 intro pure rs N B s t H x Hr h
 have hi':∀ {s t H},ih pure rs N B s t H = some (x,Hr)→Run P N B s t H (Ends B rs fun x' H'=>x' = x∧H' = Hr):=fun h=>hi _ _ _ _ _ _ _ _ _ h
 unfold step at h
 split at h
 ·exact .done (fin_sound h (.inr rfl))
 ·split at h
  ·exact .skip (hi' h)
  ·exact .seq (hi' h)
  ·exact .reg (hi' h)
  ·exact .dr (hi' h)
  ·exact .gh (hi' h)
  ·split at h
   case h_2=>cases h
   rename_i c hv
   exact .cond c hv (hi' h)
  ·exact .blk (hi' h)
  ·exact .loop (hi' h)
  ·split at h
   case h_2=>cases h
   rename_i s' hs
   exact .exit s' hs (hi' h)
  ·exact .ret (fin_sound h (.inl rfl))
  ·exact .n (hi' h)
  ·exact .m (hi' h)
  ·cases h
 ·exact .mk (hi' h)
 ·cases h
 ·split at h
  ·exact .rend (hi' h)
  ·split at h
   case h_2=>cases h
   rename_i t' H' he
   exact .op t' H' he (hi' h)
  ·split at h
   case h_2=>cases h
   rename_i y H' he
   exact .callA _ (callI_sound hm hc hp hi he) (by rintro _ _ ⟨rfl,rfl⟩;exact hi' h)
  ·split at h
   case h_2=>cases h
   rename_i f fst caps hv
   split at h
   case h_2=>cases h
   rename_i y H' he
   exact .callvA (.func f) fst caps (fun x' H''=>x' = y∧H'' = H') hv (.inl ⟨f,rfl⟩) (specF_func ▸ callI_sound hm hc hp hi he) (by rintro _ _ ⟨rfl,rfl⟩;exact hi' h)
  ·split at h
   case h_2=>cases h
   rename_i y he
   exact .callp y (callI_sound hm hc hp hi he) (hi' h)
  ·split at h
   case h_2=>cases h
   rename_i f fst caps hv
   split at h
   case h_2=>cases h
   rename_i y he
   exact .callvp f fst caps y hv (callI_sound hm hc hp hi he) (hi' h)
  ·split at h
   ·rename_i c hv
    exact .gd c hv (hi' h)
   ·rename_i hv
    exact .gdU hv (hi' h)
   ·cases h
  ·split at h
   case h_2=>cases h
   refine .alt fun p hp'=>hi' (agree_sound _ _ h _ (List.mem_map.2 ⟨p,hp',rfl⟩))
  ·split at h
   ·rename_i he
    refine .nl [] he fun c _=>?_
    have h2:=agree_sound _ _ h
    cases c with
    | true=>exact hi' (h2 _ (by simp))
    | false=>exact hi' (h2 _ (by simp))
   ·rename_i els hne he
    refine .nl els he fun c hcc=>?_
    cases c with
    | true=>exact absurd (hcc rfl) (fun e=>hne (by rw [← e]))
    | false=>exact hi' h
   ·cases h
  ·split at h
   case h_2=>cases h
   rename_i j hv
   split at h
   case h_2=>cases h
   rename_i i n seen h1
   split at h
   case h_2=>cases h
   rename_i es h2
   split at h
   case isFalse=>cases h
   rename_i hn
   refine .nx j i n seen es hv h1 h2 hn (fun hs=>?_) fun k p hk hk2=>?_
   ·rw [allSeen_of hs] at h
    exact hi' h
   ·cases hall:allSeen seen n with
    | true =>
     have hlt:=(List.getElem?_eq_some_iff.1 hk).1
     exact absurd (allSeen_to hall k (by omega)) hk2
    | false =>
     rw [hall] at h
     have:=agree_sound _ _ h _ (List.mem_map.2 ⟨(k,p),by simpa using nxK_mem (j:=0) hk (by simpa using hk2),rfl⟩)
     exact hi' this
theorem go_sound (hm:P.follows .mixedOrders = true) (hc:∀ f fd,code f = some fd→okF P f fd.nd fd.c fd.n fd.rs = true)
  (hp:∀ f args H x H',prims f args H = some (x,H')→Spec P f args H fun x' H''=>x' = x∧H'' = H'):∀ n,Snd P (go code prims n)
 | 0=>fun _ _ _ _ _ _ _ _ _ h=>by cases h
 | n+1=>step_sound hm hc hp (go_sound hm hc hp n)
theorem run_closed (hm:P.follows .mixedOrders = true) (hc:∀ f fd,code f = some fd→okF P f fd.nd fd.c fd.n fd.rs = true)
  (hp:∀ f args H x H',prims f args H = some (x,H')→Spec P f args H fun x' H''=>x' = x∧H'' = H') (n:Nat) {f:Nat} {args:List V} {x:V}
  (h:callI code prims (go code prims n) true f args [] = some (x,[])):Spec P f args [] fun x' H'=>x' = x∧H' = [] :=
 callI_sound hm hc hp (go_sound hm hc hp n) h
end
end Go.Dw
end
section
namespace Go.Dw
namespace sortStp
def nd (_:Nat):C:=.skip
def body:C:=.seq (.reg [.mv 5 (.s 0),.len 6 (.s 5),.mv 4 (.s 6)]) (.reg [.mv 7 (.s 0),.mv 8 (.s 4),.mv 9 (.s 4),.cvi 10 .u64 (.s 9),.callp (some 11) n_bits_Len [.s 10],.mv 12 (.s 1),.call (some 13) n_slices_pdqsortCmpFunc_Step [.s 7,(.i 0),.s 8,.s 11,.s 12]])
def rs:List RV:=[]
attribute [push_cast] nd body
theorem ok:okF prog n_slices_SortFunc_s_Step_Step nd body 2 rs = true:=by kernel_rfl
end sortStp
namespace pdqStp
def nd:Nat→C
 | 0=>.gh [.ks 0 [0,1,2,3,4,10,11]] (.m 7)
 | 1=>.seq (.reg [.mv 106 (.s 0),.mv 107 (.s 1),.mv 108 (.s 2),.mv 109 (.s 13),.mv 110 (.s 4),.callp (some 111) n_slices_partitionCmpFunc_Step [.s 106,.s 107,.s 108,.s 109,.s 110],.mv 105 (.s 111),.ex 112 (.s 105) 0,.ex 113 (.s 105) 1,.mv 16 (.s 112),.mv 17 (.s 113)]) (.seq (.reg [.mv 114 (.s 17),.mv 11 (.s 114)]) (.seq (.reg [.mv 115 (.s 16),.mv 116 (.s 1),.bin 117 .sub (.s 115) (.s 116),.mv 118 (.s 2),.mv 119 (.s 16),.bin 120 .sub (.s 118) (.s 119),.mv 18 (.s 117),.mv 19 (.s 120)]) (.seq (.reg [.mv 121 (.s 12),.bin 122 .quo (.s 121) (.i 8),.mv 20 (.s 122)]) (.seq (.reg [.mv 123 (.s 18),.mv 124 (.s 19),.bin 125 .lss (.s 123) (.s 124)]) (.cond (.s 125) (.seq (.reg [.mv 126 (.s 18),.mv 127 (.s 20),.bin 128 .geq (.s 126) (.s 127),.mv 10 (.s 128)]) (.seq (.reg [.mv 129 (.s 0),.mv 130 (.s 1),.mv 131 (.s 16),.mv 132 (.s 3),.mv 133 (.s 4),.callp (some 134) n_slices_pdqsortCmpFunc_Step [.s 129,.s 130,.s 131,.s 132,.s 133]]) (.reg [.mv 135 (.s 16),.bin 136 .add (.s 135) (.i 1),.mv 1 (.s 136)]))) (.seq (.reg [.mv 137 (.s 19),.mv 138 (.s 20),.bin 139 .geq (.s 137) (.s 138),.mv 10 (.s 139)]) (.seq (.reg [.mv 140 (.s 0),.mv 141 (.s 16),.bin 142 .add (.s 141) (.i 1),.mv 143 (.s 2),.mv 144 (.s 3),.mv 145 (.s 4),.callp (some 146) n_slices_pdqsortCmpFunc_Step [.s 140,.s 142,.s 143,.s 144,.s 145]]) (.reg [.mv 147 (.s 16),.mv 2 (.s 147)]))))))))
 | 2=>.seq (.seq (.dr [0,1,2,3,4,5,6,7,8,9,10,11,12,13,14,15,16] [.mv 81 (.s 1),.bin 82 .gtr (.s 81) (.i 0),.mv 83 (.s 82),.gd (.s 83) true [84] [.mv 84 (.s 4)],.gd (.s 83) true [85] [.mv 85 (.s 0)],.gd (.s 83) true [86] [.mv 86 (.s 1)],.gd (.s 83) true [87] [.bin 87 .sub (.s 86) (.i 1)],.gd (.s 83) true [88] [.ia 88 2 (.s 85) (.s 87)],.gd (.s 83) true [89] [.la 89 2 (.s 88)],.gd (.s 83) true [90] [.mv 90 (.s 0)],.gd (.s 83) true [91] [.mv 91 (.s 13)],.gd (.s 83) true [92] [.ia 92 2 (.s 90) (.s 91)],.gd (.s 83) true [93] [.la 93 2 (.s 92)],.gd (.s 83) true [94] [.callvp (some 94) (.s 84) [.s 89,.s 93]],.gd (.s 83) true [95] [.bin 95 .lss (.s 94) (.i 0)],.gd (.s 83) true [96] [.un 96 .not (.s 95)],.pick 97 (.s 83) (.s 96) (.c (.bool false))]) (.cond (.s 97) (.seq (.reg [.mv 98 (.s 0),.mv 99 (.s 1),.mv 100 (.s 2),.mv 101 (.s 13),.mv 102 (.s 4),.callp (some 103) n_slices_partitionEqualCmpFunc_Step [.s 98,.s 99,.s 100,.s 101,.s 102],.mv 15 (.s 103)]) (.seq (.reg [.mv 104 (.s 15),.mv 1 (.s 104)]) (.exit 1))) (.skip))) (.n 1)
 | 3=>.seq (.seq (.reg [.mv 68 (.s 10),.mv 69 (.s 68),.gd (.s 69) true [70] [.mv 70 (.s 11)],.pick 71 (.s 69) (.s 70) (.c (.bool false)),.mv 72 (.s 71),.gd (.s 72) true [73,74] [.mv 73 (.s 14),.bin 74 .eql (.s 73) (.i 1)],.pick 75 (.s 72) (.s 74) (.c (.bool false))]) (.cond (.s 75) (.seq (.reg [.mv 76 (.s 0),.mv 77 (.s 1),.mv 78 (.s 2),.mv 79 (.s 4),.callp (some 80) n_slices_partialInsertionSortCmpFunc_Step [.s 76,.s 77,.s 78,.s 79]]) (.cond (.s 80) (.ret) (.skip))) (.skip))) (.n 2)
 | 4=>.seq (.reg [.mv 48 (.s 0),.mv 49 (.s 1),.mv 50 (.s 2),.mv 51 (.s 4),.callp (some 52) n_slices_choosePivotCmpFunc_Step [.s 48,.s 49,.s 50,.s 51],.mv 47 (.s 52),.ex 53 (.s 47) 0,.ex 54 (.s 47) 1,.mv 13 (.s 53),.mv 14 (.s 54)]) (.seq (.seq (.reg [.mv 55 (.s 14),.bin 56 .eql (.s 55) (.i 2)]) (.cond (.s 56) (.seq (.reg [.mv 57 (.s 0),.mv 58 (.s 1),.mv 59 (.s 2),.mv 60 (.s 4),.callp (some 61) n_slices_reverseRangeCmpFunc_Step [.s 57,.s 58,.s 59,.s 60]]) (.seq (.reg [.mv 62 (.s 2),.bin 63 .sub (.s 62) (.i 1),.mv 64 (.s 13),.mv 65 (.s 1),.bin 66 .sub (.s 64) (.s 65),.bin 67 .sub (.s 63) (.s 66),.mv 13 (.s 67)]) (.reg [.mv 14 (.i 1)]))) (.skip))) (.n 3))
 | 5=>.seq (.seq (.reg [.mv 38 (.s 10),.un 39 .not (.s 38)]) (.cond (.s 39) (.seq (.reg [.mv 40 (.s 0),.mv 41 (.s 1),.mv 42 (.s 2),.mv 43 (.s 4),.callp (some 44) n_slices_breakPatternsCmpFunc_Step [.s 40,.s 41,.s 42,.s 43]]) (.reg [.mv 45 (.s 3),.bin 46 .sub (.s 45) (.i 1),.mv 3 (.s 46)])) (.skip))) (.n 4)
 | 6=>.seq (.seq (.reg [.mv 31 (.s 3),.bin 32 .eql (.s 31) (.i 0)]) (.cond (.s 32) (.seq (.reg [.mv 33 (.s 0),.mv 34 (.s 1),.mv 35 (.s 2),.mv 36 (.s 4),.callp (some 37) n_slices_heapSortCmpFunc_Step [.s 33,.s 34,.s 35,.s 36]]) (.ret)) (.skip))) (.n 5)
 | 7=>.blk 1 (.seq (.reg [.mv 21 (.s 2),.mv 22 (.s 1),.bin 23 .sub (.s 21) (.s 22),.mv 12 (.s 23)]) (.seq (.seq (.reg [.mv 24 (.s 12),.bin 25 .leq (.s 24) (.i 12)]) (.cond (.s 25) (.seq (.reg [.mv 26 (.s 0),.mv 27 (.s 1),.mv 28 (.s 2),.mv 29 (.s 4),.call (some 30) n_slices_insertionSortCmpFunc_Step [.s 26,.s 27,.s 28,.s 29]]) (.ret)) (.skip))) (.n 6)))
 | _=>.skip
def body:C:=.seq (.reg [.mv 10 (.c (.bool true))]) (.seq (.reg [.mv 11 (.c (.bool true))]) (.blk 0 (.loop (.n 0))))
def rs:List RV:=[]
attribute [push_cast] nd body
theorem ok:okF prog n_slices_pdqsortCmpFunc_Step nd body 5 rs = true:=by kernel_rfl
end pdqStp
namespace plcs
def nd:Nat→C
 | 0=>.seq (.reg [.mv 73 (.s 7),.mv 6 (.s 73)]) (.ret)
 | 1=>.gh [.ks 1 [0,4,7,18,19,20]] (.m 10)
 | 2=>.gh [.kt [0,4,9,10,12,18,19,20,45,46,47]] (.m 7)
 | 3=>.gh [.kt [0,4,9,10,12,14,18,19,20,45,46,47,51,52,53]] (.m 5)
 | 4=>.seq (.blk 5 (.seq (.reg [.ia 55 1 (.s 51) (.s 53),.ld 56 (.s 55),.mv 16 (.s 56)]) (.reg [.mv 57 (.s 12),.mv 58 (.s 14),.mv 59 (.s 16),.bs 60 1 [.s 58,.s 59],.callp (some 61) n_slices_Concat_s_int_int [.s 60],.bs 62 1 [.s 61],.app 63 t_s_int 1 24 (.s 57) (.s 62),.mv 12 (.s 63)]))) (.reg [.bin 64 .add (.s 53) (.i 1),.mv 53 (.s 64)])
 | 5=>.seq (.reg [.bin 54 .lss (.s 53) (.s 52)]) (.seq (.cond (.s 54) (.skip) (.exit 4)) (.n 4))
 | 6=>.seq (.blk 3 (.seq (.reg [.ia 49 1 (.s 45) (.s 47),.ld 50 (.s 49),.mv 14 (.s 50)]) (.seq (.reg [.mv 51 (.s 10),.len 52 (.s 51),.mv 53 (.i 0)]) (.blk 4 (.loop (.n 3)))))) (.reg [.bin 65 .add (.s 47) (.i 1),.mv 47 (.s 65)])
 | 7=>.seq (.reg [.bin 48 .lss (.s 47) (.s 46)]) (.seq (.cond (.s 48) (.skip) (.exit 2)) (.n 6))
 | 8=>.seq (.reg [.mv 12 (.c .nil),.non 12 t_s_int 1]) (.seq (.seq (.reg [.mv 45 (.s 7),.len 46 (.s 45),.mv 47 (.i 0)]) (.blk 2 (.loop (.n 2)))) (.dr [0,1,2,3,4,5,6,7] [.mv 66 (.s 12),.fa 67 3 (.s 4),.ld 68 (.s 67),.mv 69 (.s 9),.ia 70 4 (.s 68) (.s 69),.la 71 4 (.s 70),.mv 7 (.s 66),.st 4 (.s 4) (.s 71)]))
 | 9=>.seq (.blk 1 (.seq (.reg [.ia 22 1 (.s 18) (.s 20),.ld 23 (.s 22),.mv 9 (.s 23)]) (.seq (.reg [.mv 24 (.s 9),.bs 25 1 [.s 24],.bs 26 1 [.s 25],.mv 10 (.s 26)]) (.seq (.seq (.reg [.fa 27 0 (.s 4),.ld 28 (.s 27),.bin 29 .gtr (.s 28) (.i 0)]) (.cond (.s 29) (.seq (.reg [.mv 30 (.s 0),.fa 31 0 (.s 4),.ld 32 (.s 31),.bin 33 .sub (.s 32) (.i 1),.ia 34 6 (.s 30) (.s 33),.fa 35 0 (.s 34),.la 36 3 (.s 35),.al 11 t_Term [.str [],.bool false,.sl 3 []],.sf 11 3 (.s 36)]) (.dr [0,1,2,3,4,5,6,7,8] [.la 37 3 (.s 11),.la 38 3 (.s 11),.bs 39 3 [.s 38],.callp (some 40) n_term_VarsOf [.s 39],.mv 41 (.s 9),.ia 42 1 (.s 40) (.s 41),.ld 43 (.s 42),.callp (some 44) n_multi_occurrences [.s 37,.s 43],.mv 10 (.s 44)])) (.skip))) (.n 8))))) (.reg [.bin 72 .add (.s 20) (.i 1),.mv 20 (.s 72)])
 | 10=>.seq (.reg [.bin 21 .lss (.s 20) (.s 19)]) (.seq (.cond (.s 21) (.skip) (.exit 0)) (.n 9))
 | _=>.skip
def body:C:=.seq (.reg [.bx 4 t_Multi (.s 1),.mv 6 (.c (.sl 1 []))]) (.seq (.reg [.bs 17 1 [(.c (.sl 1 []))],.mv 7 (.s 17)]) (.seq (.seq (.reg [.mv 18 (.s 2),.len 19 (.s 18),.mv 20 (.i 0)]) (.blk 0 (.loop (.n 1)))) (.n 0)))
def rs:List RV:=[.t 6]
attribute [push_cast] nd body
theorem ok:okF prog n_multi_places nd body 3 rs = true:=by kernel_rfl
end plcs
structure FK where
 f:Nat
 fd:FD
 ok:okF prog f fd.nd fd.c fd.n fd.rs = true
def lookF (f:Nat):List FK→Option FD
 | []=>none
 | x :: l=>bif Nat.beq x.f f then some x.fd else lookF f l
theorem lookF_ok {f:Nat} {fd:FD}:∀ {l:List FK},lookF f l = some fd→okF prog f fd.nd fd.c fd.n fd.rs = true
 | [],h=>by cases h
 | x :: l,h=>by
  simp only [lookF] at h
  cases hb:Nat.beq x.f f with
  | true =>
   rw [hb] at h
   simp only [cond_true,Option.some.injEq] at h
   subst h
   rw [← Nat.eq_of_beq_eq_true hb]
   exact x.ok
  | false=>rw [hb] at h;exact lookF_ok h
def tab:List FK:=[
 ⟨n_multi_Chain,⟨multi_Chain.nd,multi_Chain.body,2,multi_Chain.rs⟩,multi_Chain.ok⟩,
 ⟨n_multi_Inner,⟨multi_Inner.nd,multi_Inner.body,2,multi_Inner.rs⟩,multi_Inner.ok⟩,
 ⟨n_multi_develop,⟨multi_develop.nd,multi_develop.body,3,multi_develop.rs⟩,multi_develop.ok⟩,
 ⟨n_multi_first,⟨multi_first.nd,multi_first.body,2,multi_first.rs⟩,multi_first.ok⟩,
 ⟨n_multi_deep,⟨multi_deep.nd,multi_deep.body,2,multi_deep.rs⟩,multi_deep.ok⟩,
 ⟨n_multi_node,⟨multi_node.nd,multi_node.body,2,multi_node.rs⟩,multi_node.ok⟩,
 ⟨n_multi_set,⟨multi_set.nd,multi_set.body,3,multi_set.rs⟩,multi_set.ok⟩,
 ⟨n_slices_Clone_s_Multi_Multi,⟨slices_Clone_s_Multi_Multi.nd,slices_Clone_s_Multi_Multi.body,1,slices_Clone_s_Multi_Multi.rs⟩,slices_Clone_s_Multi_Multi.ok⟩,
 ⟨n_multi_contract,⟨multi_contract.nd,multi_contract.body,2,multi_contract.rs⟩,multi_contract.ok⟩,
 ⟨n_multi_Plug,⟨multi_Plug.nd,multi_Plug.body,3,multi_Plug.rs⟩,multi_Plug.ok⟩,
 ⟨n_multi_Fit,⟨multi_Fit.nd,multi_Fit.body,1,multi_Fit.rs⟩,multi_Fit.ok⟩,
 ⟨n_multi_size,⟨multi_size.nd,multi_size.body,1,multi_size.rs⟩,multi_size.ok⟩,
 ⟨n_multi_depth,⟨multi_depth.nd,multi_depth.body,1,multi_depth.rs⟩,multi_depth.ok⟩,
 ⟨n_multi_own,⟨multi_own.nd,multi_own.body,1,multi_own.rs⟩,multi_own.ok⟩,
 ⟨n_slices_Clone_s_int_int,⟨slices_Clone_s_int_int.nd,slices_Clone_s_int_int.body,1,slices_Clone_s_int_int.rs⟩,slices_Clone_s_int_int.ok⟩,
 ⟨n_slices_Index_s_string_string,⟨slices_Index_s_string_string.nd,slices_Index_s_string_string.body,2,slices_Index_s_string_string.rs⟩,slices_Index_s_string_string.ok⟩,
 ⟨n_multi_Steps,⟨multi_Steps.nd,multi_Steps.body,2,multi_Steps.rs⟩,multi_Steps.ok⟩,
 ⟨n_multi_Steps_1,⟨multi_Steps_1.nd,multi_Steps_1.body,2,multi_Steps_1.rs⟩,multi_Steps_1.ok⟩,
 ⟨n_multi_Steps_2,⟨multi_Steps_2.nd,multi_Steps_2.body,2,multi_Steps_2.rs⟩,multi_Steps_2.ok⟩,
 ⟨n_multi_walk,⟨multi_walk.nd,multi_walk.body,4,multi_walk.rs⟩,multi_walk.ok⟩,
 ⟨n_slices_Compare_s_int_int,⟨slices_Compare_s_int_int.nd,slices_Compare_s_int_int.body,2,slices_Compare_s_int_int.rs⟩,slices_Compare_s_int_int.ok⟩,
 ⟨n_cmp_Compare_int,⟨cmp_Compare_int.nd,cmp_Compare_int.body,2,cmp_Compare_int.rs⟩,cmp_Compare_int.ok⟩,
 ⟨n_cmp_isNaN_int,⟨cmp_isNaN_int.nd,cmp_isNaN_int.body,1,cmp_isNaN_int.rs⟩,cmp_isNaN_int.ok⟩,
 ⟨n_slices_insertionSortCmpFunc_Step,⟨slices_insertionSortCmpFunc_Step.nd,slices_insertionSortCmpFunc_Step.body,4,slices_insertionSortCmpFunc_Step.rs⟩,slices_insertionSortCmpFunc_Step.ok⟩,
 ⟨n_multi_places,⟨plcs.nd,plcs.body,3,plcs.rs⟩,plcs.ok⟩,
 ⟨n_slices_SortFunc_s_Step_Step,⟨sortStp.nd,sortStp.body,2,sortStp.rs⟩,sortStp.ok⟩,
 ⟨n_slices_pdqsortCmpFunc_Step,⟨pdqStp.nd,pdqStp.body,5,pdqStp.rs⟩,pdqStp.ok⟩]
def code:Code:=fun f=>lookF f tab
theorem code_ok:∀ f fd,code f = some fd→okF prog f fd.nd fd.c fd.n fd.rs = true:=fun f fd h=>lookF_ok h
abbrev P1:=List V→Option V
def okPr (f:Nat) (p:P1):Prop:=∀ args x,p args = some x→PF f args x
structure PK where
 f:Nat
 p:P1
 ok:okPr f p
def lookP (f:Nat) (args:List V):List PK→Option V
 | []=>none
 | k :: l=>bif Nat.beq k.f f then (match k.p args with | some x=>some x | none=>lookP f args l) else lookP f args l
theorem lookP_ok {f:Nat} {args:List V} {x:V}:∀ {l:List PK},lookP f args l = some x→PF f args x
 | [],h=>by cases h
 | k :: l,h=>by
  simp only [lookP] at h
  cases hb:Nat.beq k.f f with
  | true =>
   rw [hb] at h
   simp only [cond_true] at h
   split at h
   ·rename_i y hy
    cases h
    rw [← Nat.eq_of_beq_eq_true hb]
    exact k.ok _ _ hy
   ·exact lookP_ok h
  | false=>rw [hb] at h;exact lookP_ok h
def primsOf (l:List PK):Prims:=fun f args H=>match H with
 | []=>match lookP f args l with
  | some x=>some (x,[])
  | none=>none
 | _=>none
theorem primsOf_ok {l:List PK}:∀ f args H x H',primsOf l f args H = some (x,H')→Spec prog f args H fun x' H''=>x' = x∧H'' = H':=by
 intro f args H x H' h
 unfold primsOf at h
 split at h
 case h_2=>cases h
 split at h
 case h_2=>cases h
 rename_i y hy
 cases h
 exact lookP_ok hy
def pOne (args0:List V) (x:V):P1:=fun args=>bif eqL args args0 then some x else none
theorem pOne_ok {f:Nat} {args0:List V} {x:V} (h:PF f args0 x):okPr f (pOne args0 x):=by
 intro args y hy
 unfold pOne at hy
 cases hb:eqL args args0 with
 | false=>rw [hb] at hy;cases hy
 | true=>rw [hb] at hy;cases hy;rw [eqL_sound _ _ hb];exact h
theorem closed (l:List PK) (n:Nat) {f:Nat} {args:List V} {x:V} (h:callI code (primsOf l) (go code (primsOf l) n) true f args [] = some (x,[])):PF f args x :=
 run_closed mixed code_ok primsOf_ok n h
def yields (r:Res) (x:V):Bool:=match r with
 | some (y,[])=>eqV y x
 | _=>false
theorem yields_sound {r:Res} {x:V} (h:yields r x = true):r = some (x,[]):=by
 unfold yields at h
 split at h
 ·rw [eqV_all _ _ h]
 ·cases h
end Go.Dw
end
section
namespace Go.Dw
inductive AMulti where
 | mk (rule:Int) (name:Str) (var:Bool) (args:List AMulti)
deriving Inhabited
namespace AMulti
def rule:AMulti→Int | mk r _ _ _=>r
def name:AMulti→Str | mk _ n _ _=>n
def var:AMulti→Bool | mk _ _ v _=>v
def args:AMulti→List AMulti | mk _ _ _ a=>a
theorem eta (t:AMulti):mk t.rule t.name t.var t.args = t:=by cases t;rfl
end AMulti
mutual
def margC:AMulti→List (List V)
 | .mk _ _ _ ts=>margCs ts
def margCs:List AMulti→List (List V)
 | []=>[]
 | a :: ts=>[.int .i64 a.rule,.str a.name,.bool a.var,.sl 4 (margC a)] :: margCs ts
end
def cM (t:AMulti):List V:=[.int .i64 t.rule,.str t.name,.bool t.var,.sl 4 (margC t)]
theorem margCs_eq (ts:List AMulti):margCs ts = ts.map cM:=by
 induction ts with
 | nil=>simp [margCs]
 | cons a ts ih=>simp [margCs,ih,cM]
theorem margC_eq (t:AMulti):margC t = t.args.map cM:=by cases t;simp [margC,margCs_eq,AMulti.args]
abbrev encMs (l:List AMulti):V:=encL cM 4 l
theorem cM_eq (t:AMulti):cM t = [.int .i64 t.rule,.str t.name,.bool t.var,encMs t.args]:=by rw [cM,margC_eq];rfl
def encM (t:AMulti):V:=.agg (cM t)
theorem sto_encM (t:AMulti):sto (encM t) = some (cM t):=rfl
theorem cM_len (t:AMulti):(cM t).length = 4:=rfl
theorem cM_0 (t:AMulti):(cM t)[0]? = some (.int .i64 t.rule):=rfl
theorem cM_1 (t:AMulti):(cM t)[1]? = some (.str t.name):=rfl
theorem cM_2 (t:AMulti):(cM t)[2]? = some (.bool t.var):=rfl
theorem cM_3 (t:AMulti):(cM t)[3]? = some (encMs t.args):=by rw [cM_eq];rfl
theorem cM_sub (t:AMulti):sub 0 4 (cM t) = cM t:=rfl
theorem encM_fold (t:AMulti):V.agg (cM t) = encM t:=rfl
theorem rens_cM {σ:Nat→Option Nat} (t:AMulti):rens σ (cM t) = cM t:=rfl
theorem ren_encM {σ:Nat→Option Nat} (t:AMulti):ren σ (encM t) = encM t:=by unfold encM;rw [ren_agg,rens_cM]
theorem cM_mk (r:Int) (n:Str) (v:Bool) (l:List AMulti):[V.int .i64 r,V.str n,.bool v,encMs l] = cM (.mk r n v l):=by rw [cM_eq];rfl
theorem fdV_encM_none (t:AMulti) (k:Nat):fdV k none (encM t) = (cM t)[k]?:=rfl
theorem put_0_4 (x:List V) (a b c d:V) (h:x.length = 4):put 0 x [a,b,c,d] = x:=by
 simp only [put,h];simp
theorem put_cM (t:AMulti) (a b c d:V):put 0 (cM t) [a,b,c,d] = cM t:=put_0_4 _ _ _ _ _ rfl
theorem put_cM' (t u:AMulti):put 0 (cM t) (cM u) = cM t:=put_0_4 _ _ _ _ _ rfl
attribute [push_cast] sto_encM cM_len cM_0 cM_1 cM_2 cM_3 cM_sub encM_fold ren_encM rens_cM fdV_encM_none put_cM put_cM'
mutual
def msize:AMulti→Nat
 | .mk _ _ _ l=>1+msizes l
def msizes:List AMulti→Nat
 | []=>0
 | a :: l=>msize a+msizes l
end
mutual
def mdepth:AMulti→Nat
 | .mk _ _ _ l=>mdepths l+1
def mdepths:List AMulti→Nat
 | []=>0
 | a :: l=>max (mdepth a) (mdepths l)
end
mutual
def mb:AMulti→Nat
 | .mk _ n _ l=>1+n.length+mbs l
def mbs:List AMulti→Nat
 | []=>0
 | a :: l=>mb a+mbs l
end
theorem msizes_append (a b:List AMulti):msizes (a++b) = msizes a+msizes b:=by
 induction a with
 | nil=>simp [msizes]
 | cons x xs ih=>simp [msizes,ih];omega
theorem msize_args (t:AMulti):msize t = 1+msizes t.args:=by cases t;simp [msize,AMulti.args]
theorem mdepth_args (t:AMulti):mdepth t = mdepths t.args+1:=by cases t;simp [mdepth,AMulti.args]
theorem mb_args (t:AMulti):mb t = 1+t.name.length+mbs t.args:=by cases t;simp [mb,AMulti.args,AMulti.name]
theorem msizes_take_succ (l:List AMulti) (k:Nat) (h:k < l.length):msizes (l.take (k+1)) = msizes (l.take k)+msize (l.getD k default):=by
 rw [take_succ_getD h,msizes_append];simp [msizes]
theorem msizes_take_le (l:List AMulti) (k:Nat):msizes (l.take k)≤msizes l:=by
 conv=>rhs;rw [← List.take_append_drop k l]
 rw [msizes_append];omega
theorem msize_mem {l:List AMulti} {a:AMulti} (h:a∈l):msize a≤msizes l:=by
 induction l with
 | nil=>cases h
 | cons x xs ih=>rcases List.mem_cons.1 h with rfl | h <;> simp [msizes];have:=ih h;omega
theorem mb_mem {l:List AMulti} {a:AMulti} (h:a∈l):mb a≤mbs l:=by
 induction l with
 | nil=>cases h
 | cons x xs ih=>rcases List.mem_cons.1 h with rfl | h <;> simp [mbs];have:=ih h;omega
theorem length_le_msizes (l:List AMulti):l.length≤msizes l:=by
 induction l with
 | nil=>simp
 | cons x xs ih=>simp only [msizes,List.length_cons];have:=msize_args x;omega
theorem mdepths_append (a b:List AMulti):mdepths (a++b) = max (mdepths a) (mdepths b):=by
 induction a with
 | nil=>simp [mdepths]
 | cons x xs ih=>simp [mdepths,ih,Nat.max_assoc]
theorem multi_ind {p:AMulti→Prop} (h:∀ t,(∀ a∈t.args,p a)→p t) (t:AMulti):p t:=by
 have:∀ n t,msize t≤n→p t:=by
  intro n
  induction n with
  | zero=>intro t ht;have:=msize_args t;omega
  | succ n ih =>
   intro t ht
   refine h t fun a ha=>ih a ?_
   have:=msize_args t
   have:=msize_mem ha
   omega
 exact this (msize t) t (Nat.le_refl _)
theorem mdepth_le_msize (t:AMulti):mdepth t≤msize t:=by
 induction t using multi_ind with
 | h t ih =>
  rw [mdepth_args,msize_args]
  have:∀ l:List AMulti,(∀ a∈l,mdepth a≤msize a)→mdepths l≤msizes l:=by
   intro l
   induction l with
   | nil=>intro _;simp [mdepths]
   | cons x l ihl =>
    intro hl
    have h1:=hl x (by simp)
    have h2:=ihl fun a ha=>hl a (by simp [ha])
    simp only [mdepths,msizes];omega
  have:=this t.args ih
  omega
theorem msize_le_mb (t:AMulti):msize t≤mb t:=by
 induction t using multi_ind with
 | h t ih =>
  rw [mb_args,msize_args]
  have:∀ l:List AMulti,(∀ a∈l,msize a≤mb a)→msizes l≤mbs l:=by
   intro l
   induction l with
   | nil=>intro _;simp [mbs,msizes]
   | cons x l ihl =>
    intro hl
    have h1:=hl x (by simp)
    have h2:=ihl fun a ha=>hl a (by simp [ha])
    simp only [mbs,msizes];omega
  have:=this t.args ih
  omega
theorem mdepths_take_succ (l:List AMulti) (k:Nat) (h:k < l.length):mdepths (l.take (k+1)) = max (mdepths (l.take k)) (mdepth (l.getD k default)):=by
 rw [take_succ_getD h,mdepths_append];simp [mdepths]
theorem mdepths_le_msizes (l:List AMulti):mdepths l≤msizes l:=by
 induction l with
 | nil=>simp [mdepths]
 | cons x l ih=>have:=mdepth_le_msize x;simp only [mdepths,msizes];omega
mutual
def meq:AMulti→AMulti→Bool
 | .mk r n v l,.mk r' n' v' l'=>r == r' && n == n' && v == v' && meqs l l'
def meqs:List AMulti→List AMulti→Bool
 | [],[]=>true
 | a :: l,b :: m=>meq a b && meqs l m
 | _,_=>false
end
mutual
theorem meq_iff:∀ a b:AMulti,meq a b = true ↔ a = b
 | .mk r n v l,.mk r' n' v' l'=>by simp [meq,meqs_iff l l',and_assoc]
theorem meqs_iff:∀ a b:List AMulti,meqs a b = true ↔ a = b
 | [],[]=>by simp [meqs]
 | a :: l,b :: m=>by simp [meqs,meq_iff a b,meqs_iff l m]
 | [],_ :: _=>by simp [meqs]
 | _ :: _,[]=>by simp [meqs]
end
instance:DecidableEq AMulti:=fun a b=>if h:meq a b = true then .isTrue ((meq_iff a b).1 h) else .isFalse fun e=>h ((meq_iff a b).2 e)
theorem multi_eq_iff (a b:AMulti):a = b ↔ a.rule = b.rule∧a.name = b.name∧a.var = b.var∧a.args = b.args:=by cases a;cases b;simp [AMulti.rule,AMulti.name,AMulti.var,AMulti.args]
theorem eqf_eqM {f:AMulti→AMulti→Bool}:∀ {l m:List AMulti},(∀ a∈l,∀ b,f a b = decide (a = b))→eqf f l m = decide (l = m)
 | [],[],_=>rfl
 | a :: l,b :: m,h=>by
  simp only [eqf,h a (by simp) b,eqf_eqM (l:=l) (m:=m) fun x hx=>h x (by simp [hx])]
  simp
 | [],_ :: _,_=>rfl
 | _ :: _,[],_=>rfl
end Go.Dw
end
section
namespace Go.Dw
theorem r01_Letters_s (s:Str) (h1:s.length < 2^62):PF n_r01_Letters [.str s] (.bool (s.all letter)):=by
 refine pf_of r01_Letters.ok rfl ?_
 push_cast
 refine loop_up (n:=s.length) (R:=fun k=>(s.drop k).all letter = s.all letter→r01_Letters.L3 (.str s) (.int .i64 s.length) (.int .i64 k) 0 [] _) ?_ ?_ 0 (by omega) rfl
 ·intro k hk ih hq
  rw [drop_getD hk] at hq
  simp only [List.all_cons] at hq
  refine r01_Letters.G3 ?_
  have hb:btV s k = ((s.getD k default).toNat:Int):=rfl
  push_cast [ilt hk,hb]
  refine .of (r01_letter_s _) ?_
  push_cast [w64 (show k < 2^62 by omega)]
  refine ⟨fun h=>pf_ret ?_,fun h=>ih ?_⟩
  ·push_cast [r01_Letters.rs]
   rw [← hq];simp_all
  ·rw [← hq];simp_all
 ·intro hq
  refine r01_Letters.G3 ?_
  push_cast [inlt (Nat.le_refl _)]
  refine pf_ret ?_
  push_cast [r01_Letters.rs]
  rw [← hq,drop_map_none];rfl
theorem hasSuf_last {s:Str} (h:s ≠ []):hasSuf s [35] = decide (btV s (s.length - 1) = 35):=by
 have hl:0 < s.length:=List.length_pos_iff.2 h
 have e:s.drop (s.length - 1) = [s.getD (s.length - 1) default]:=by
  rw [drop_getD (show s.length - 1 < s.length by omega),show s.length - 1+1 = s.length by omega,drop_map_none]
 have e2:btV s (s.length - 1) = ((s.getD (s.length - 1) default).toNat:Int):=rfl
 unfold hasSuf
 rw [e2]
 simp only [List.length_singleton]
 rw [decide_eq_true (show 1≤s.length by omega),Bool.true_and,decide_eq_decide,e]
 generalize s.getD (s.length - 1) default = c
 constructor
 ·intro h;simp only [List.cons.injEq,and_true] at h;rw [h];rfl
 ·intro h;simp only [List.cons.injEq,and_true];exact UInt8.toNat_inj.1 (show c.toNat = 35 by omega)
theorem r01_Marked_s (s:Str) (h1:s.length < 2^62):PF n_r01_Marked [.str s] (.bool (hasSuf s [35])):=by
 refine pf_of r01_Marked.ok rfl ?_
 by_cases h:s = []
 ·subst h
  push_cast
  refine pf_ret ?_
  push_cast [r01_Marked.rs]
  rfl
 ·have hl:0 < s.length:=List.length_pos_iff.2 h
  have hlt:(((s.length - 1:Nat):Int) < (s.length:Int)) = True:=eq_true (by omega)
  push_cast [h,sub1 h1 hl,hlt]
  refine pf_ret ?_
  push_cast [r01_Marked.rs,hasSuf_last h]
theorem r01_IsName_s (s:Str) (m:Bool) (h1:s.length < 2^62):PF n_r01_IsName [.str s,.bool m] (.bool (isName s m)):=by
 refine pf_of r01_IsName.ok rfl ?_
 push_cast
 refine ⟨fun h=>pf_ret ?_,fun h=>?_⟩
 ·push_cast [r01_IsName.rs,isName]
  rw [show decide (s.length≤24) = false from decide_eq_false (by omega)];rfl
 ·have hlen:s.length≤24:=by omega
  have hu:isName s m = (!decide (nameOf s m = []) && (nameOf s m).all letter):=by simp [isName,hlen]
  rw [hu]
  have hnl:=nameOf_len s m
  have hL:=r01_Letters_s (nameOf s m) (by omega)
  have fin2:∀ u:Str,u = nameOf s m→PF n_r01_Letters [.str u] (.bool ((nameOf s m).all letter)):=fun u hu=>hu ▸ hL
  cases m with
  | false =>
   have hn:s = nameOf s false:=rfl
   push_cast
   rw [← hn]
   by_cases h0:s = []
   ·push_cast [h0]
    exact pf_ret (by push_cast [r01_IsName.rs])
   ·push_cast [h0]
    refine .of (fin2 s hn) ?_
    push_cast
    exact pf_ret (by push_cast [r01_IsName.rs];rw [← hn])
  | true =>
   push_cast
   refine .of (r01_Marked_s s h1) ?_
   cases hm:hasSuf s [35] with
   | false =>
    have hn:s = nameOf s true:=by simp [nameOf,trimSuf,hm]
    push_cast
    rw [← hn]
    by_cases h0:s = []
    ·push_cast [h0]
     exact pf_ret (by push_cast [r01_IsName.rs])
    ·push_cast [h0]
     refine .of (fin2 s hn) ?_
     push_cast
     exact pf_ret (by push_cast [r01_IsName.rs];rw [← hn])
   | true =>
    have hn:(s.drop 0).take (s.length - 1 - 0) = nameOf s true:=by simp [nameOf,trimSuf,hm]
    have hl:0 < s.length:=by
     unfold hasSuf at hm;simp only [Bool.and_eq_true,decide_eq_true_eq,List.length_singleton] at hm;omega
    have hle:s.length - 1≤s.length:=by omega
    by_cases h0:nameOf s true = []
    ·push_cast [sub1 h1 hl,hn,hle,h0]
     refine ⟨by omega,?_⟩
     exact pf_ret (by push_cast [r01_IsName.rs,h0])
    ·push_cast [sub1 h1 hl,hn,hle,h0]
     refine ⟨by omega,.of hL ?_⟩
     push_cast
     exact pf_ret (by push_cast [r01_IsName.rs,h0])
end Go.Dw
end
section
namespace Go.Dw
theorem r01_Size_s (t:Term) (hs:size t < 2^62):PF n_r01_Size [encT t] (.int .i64 (size t)):=by
 induction t using term_ind with
 | h t ih =>
 refine pf_of r01_Size.ok rfl ?_
 have hst:=size_args t
 have hl:=length_le_sizes t.args
 push_cast
 refine loop_up (n:=t.args.length) (R:=fun k=>r01_Size.L3 (.int .i64 ((1+sizes (t.args.take k):Nat):Int)) (encTs t.args) (.int .i64 t.args.length) (.int .i64 k) 0 [] _) ?_ ?_ 0 (by omega)
 ·intro k hk ih2
  have h1:=sizes_take_succ _ _ hk
  have h2:=sizes_take_le t.args (k+1)
  have hm:=getD_mem hk
  refine r01_Size.G3 ?_
  push_cast [ilt hk]
  refine .of (ih _ hm (by omega)) ?_
  push_cast [w64 (show k < 2^62 by omega)]
  rw [wrap64 (by omega) (by omega)]
  rw [h1] at ih2
  simpa [Int.add_assoc] using ih2
 ·refine r01_Size.G3 ?_
  push_cast [inlt (Nat.le_refl _)]
  refine pf_ret ?_
  push_cast [r01_Size.rs,List.take_length,hst]
theorem r01_Depth_s (t:Term) (hs:size t < 2^62):PF n_r01_Depth [encT t] (.int .i64 (depth t)):=by
 induction t using term_ind with
 | h t ih =>
 refine pf_of r01_Depth.ok rfl ?_
 have hst:=size_args t
 have hl:=length_le_sizes t.args
 have hd:=depths_le_sizes t.args
 push_cast
 refine loop_up (n:=t.args.length) (R:=fun k=>r01_Depth.L3 (.int .i64 (depths (t.args.take k):Nat)) (encTs t.args) (.int .i64 t.args.length) (.int .i64 k) 0 [] _) ?_ ?_ 0 (by omega)
 ·intro k hk ih2
  have h1:=depths_take_succ _ _ hk
  have hm:=getD_mem hk
  have:=size_mem hm
  refine r01_Depth.G3 ?_
  push_cast [ilt hk]
  refine .of (ih _ hm (by omega)) ?_
  push_cast [w64 (show k < 2^62 by omega)]
  rw [h1] at ih2
  exact ih2
 ·refine r01_Depth.G3 ?_
  push_cast [inlt (Nat.le_refl _)]
  rw [wrap64 (by have:=depths_take_le t.args t.args.length;omega) (by have:=depths_take_le t.args t.args.length;omega)]
  refine pf_ret ?_
  push_cast [r01_Depth.rs,List.take_length,depth_args t]
theorem r01_Formed_s (t:Term) (hs:tb t < 2^62):PF n_r01_Formed [encT t] (.bool (formed t)):=by
 induction t using term_ind with
 | h t ih =>
 have htb:=tb_args t
 have hl:=length_le_tbs t.args
 have hI:∀ m,PF n_r01_IsName [.str t.name,.bool m] (.bool (isName t.name m)):=fun m=>r01_IsName_s _ m (by omega)
 refine pf_of r01_Formed.ok rfl ?_
 cases hv:t.var with
 | true =>
  push_cast [hv]
  refine .of (hI false) ?_
  cases hn:isName t.name false
  ·push_cast
   exact pf_ret (by push_cast [r01_Formed.rs,formed_eq t,hv,hn])
  ·push_cast
   exact pf_ret (by push_cast [r01_Formed.rs,formed_eq t,hv,hn];simp)
 | false =>
  push_cast [hv]
  refine .of (hI true) ?_
  have hf:formed t = (decide (t.args.length≤8) && (isName t.name true && t.args.all formed)):=by rw [formed_eq,hv];rfl
  rw [hf]
  cases hn:isName t.name true
  ·push_cast
   exact pf_ret (by push_cast [r01_Formed.rs])
  ·by_cases h0:t.args.length≤8
   ·have hi:((8:Int) < (t.args.length:Int)) = False:=eq_false (by omega)
    push_cast [hi,h0]
    refine loop_up (n:=t.args.length) (R:=fun k=>(t.args.drop k).all formed = t.args.all formed→r01_Formed.L3 (encTs t.args) (.int .i64 t.args.length) (.int .i64 k) 0 [] _) ?_ ?_ 0 (by omega) rfl
    ·intro k hk ih2 hq
     rw [drop_getD hk] at hq
     simp only [List.all_cons] at hq
     have hm:=getD_mem hk
     refine r01_Formed.G3 ?_
     push_cast [ilt hk]
     refine .of (ih _ hm (by have:=tb_mem hm;omega)) ?_
     push_cast [w64 (show k < 2^62 by omega)]
     refine ⟨fun h=>pf_ret ?_,fun h=>ih2 ?_⟩
     ·push_cast [r01_Formed.rs]
      rw [← hq];simp_all
     ·rw [← hq];simp_all
    ·intro hq
     refine r01_Formed.G3 ?_
     push_cast [inlt (Nat.le_refl _)]
     refine pf_ret ?_
     push_cast [r01_Formed.rs]
     rw [← hq,drop_map_none];rfl
   ·have hi:((8:Int) < (t.args.length:Int)) = True:=eq_true (by omega)
    push_cast [hi,h0]
    exact pf_ret (by push_cast [r01_Formed.rs])
theorem r01_Check_s (t:Term) (hs:tb t < 2^62):PF n_r01_Check [encT t] (.int .i64 (check t)):=by
 have hst:=size_le_tb t
 refine pf_of r01_Check.ok rfl ?_
 push_cast
 refine .of (r01_Formed_s t hs) ?_
 cases hf:formed t
 ·push_cast
  exact pf_ret (by push_cast [r01_Check.rs,check,hf])
 ·push_cast
  refine .of (r01_Size_s t (by omega)) ?_
  by_cases h:size t≤4000
  ·have hi:((4000:Int) < (size t:Int)) = False:=eq_false (by omega)
   push_cast [hi]
   refine .of (r01_Depth_s t (by omega)) ?_
   by_cases hd:depth t≤200
   ·have hi2:((200:Int) < (depth t:Int)) = False:=eq_false (by omega)
    push_cast [hi2]
    exact pf_ret (by push_cast [r01_Check.rs,check,hf,fits,h,hd])
   ·have hi2:((200:Int) < (depth t:Int)) = True:=eq_true (by omega)
    push_cast [hi2]
    exact pf_ret (by push_cast [r01_Check.rs,check,hf,fits,h,hd])
  ·have hi:((4000:Int) < (size t:Int)) = True:=eq_true (by omega)
   push_cast [hi]
   exact pf_ret (by push_cast [r01_Check.rs,check,hf,fits,h])
theorem r01_CheckAll_s (l:List Term) (hl:l.length < 2^62) (hs:∀ t∈l,tb t < 2^62):PF n_r01_CheckAll [encTs l] (.int .i64 (checks l)):=by
 refine pf_of r01_CheckAll.ok rfl ?_
 push_cast
 refine loop_up (n:=l.length) (R:=fun k=>checks (l.drop k) = checks l→r01_CheckAll.L3 (encTs l) (.int .i64 l.length) (.int .i64 k) 0 [] _) ?_ ?_ 0 (by omega) rfl
 ·intro k hk ih hq
  rw [drop_getD hk] at hq
  simp only [checks] at hq
  refine r01_CheckAll.G3 ?_
  push_cast [ilt hk]
  refine .of (r01_Check_s _ (hs _ (getD_mem hk))) ?_
  push_cast [w64 (show k < 2^62 by omega)]
  refine ⟨fun h=>pf_ret ?_,fun h=>ih ?_⟩
  ·push_cast [r01_CheckAll.rs]
   rw [← hq,if_pos (by simpa using h)]
  ·rw [← hq,if_neg (by simpa using h)]
 ·intro hq
  refine r01_CheckAll.G3 ?_
  push_cast [inlt (Nat.le_refl _)]
  refine pf_ret ?_
  push_cast [r01_CheckAll.rs]
  rw [← hq,drop_map_none];rfl
def cmpI (a b:Int):Int:=if a < b then -1 else if b < a then 1 else 0
theorem r01_CompareInts_s (a b:Int):PF n_r01_CompareInts [.int .i64 a,.int .i64 b] (.int .i64 (cmpI a b)):=by
 refine pf_of r01_CompareInts.ok rfl ?_
 push_cast
 refine ⟨fun h=>pf_ret ?_,fun h=>⟨fun h2=>pf_ret ?_,fun h2=>pf_ret ?_⟩⟩ <;> push_cast [r01_CompareInts.rs,cmpI,h]
 ·simp_all
 ·simp_all
def cmpB:Str→Str→Int
 | [],[]=>0
 | [],_ :: _=>-1
 | _ :: _,[]=>1
 | a :: s,b :: u=>if a = b then cmpB s u else cmpI a.toNat b.toNat
theorem cmpB_eq:∀ a b:Str,cmpB a b = cmpS a b:=by
 intro a b
 rw [cmpS_eq]
 induction a generalizing b with
 | nil=>cases b <;> simp [cmpB]
 | cons x a ih =>
  cases b with
  | nil=>simp [cmpB]
  | cons y b =>
   simp only [cmpB,List.cons_lt_cons_iff]
   by_cases h:x = y
   ·subst h
    rw [if_pos rfl,ih]
    have:¬ x < x:=UInt8.lt_irrefl x
    simp [this]
   ·rw [if_neg h]
    have h':¬ y = x:=fun e=>h e.symm
    simp only [h,h',false_and,or_false,cmpI,UInt8.lt_iff_toNat_lt]
    norm_cast
theorem r01_CompareNames_s (a b:Str) (ha:a.length < 2^62) (hb:b.length < 2^62):PF n_r01_CompareNames [.str a,.str b] (.int .i64 (cmpS a b)):=by
 rw [← cmpB_eq]
 refine pf_of r01_CompareNames.ok rfl ?_
 have hmn:(if (b.length:Int) < (a.length:Int) then (b.length:Int) else (a.length:Int)) = ((min a.length b.length:Nat):Int):=by split <;> omega
 push_cast [hmn]
 refine loop_up (n:=min a.length b.length) (R:=fun k=>cmpB (a.drop k) (b.drop k) = cmpB a b→r01_CompareNames.L3 (.str a) (.str b) (.int .i64 (min a.length b.length:Nat)) (.int .i64 k) 0 [] _) ?_ ?_ 0 (by omega) rfl
 ·intro k hk ih hq
  have hka:k < a.length:=by omega
  have hkb:k < b.length:=by omega
  rw [drop_getD hka,drop_getD hkb] at hq
  simp only [cmpB] at hq
  have h1:btV a k = ((a.getD k default).toNat:Int):=rfl
  have h2:btV b k = ((b.getD k default).toNat:Int):=rfl
  have hr:∀ c:UInt8,IntKind.i64.wrap (c.toNat:Int) = c.toNat:=fun c=>wrap64 (by omega) (by have:=UInt8.toNat_lt c;omega)
  refine r01_CompareNames.G3 ?_
  push_cast [ilt hk,ilt hka,ilt hkb,h1,h2,hr,w64 (show k < 2^62 by omega)]
  refine ⟨fun h=>.of (r01_CompareInts_s _ _) ?_,fun h=>ih ?_⟩
  ·push_cast
   refine pf_ret ?_
   push_cast [r01_CompareNames.rs]
   rw [← hq,if_neg]
   intro e;rw [e] at h;exact h rfl
  ·rw [← hq,if_pos]
   exact UInt8.toNat_inj.1 (Int.ofNat.inj (by simpa using h))
 ·intro hq
  refine r01_CompareNames.G3 ?_
  push_cast [inlt (Nat.le_refl _)]
  refine .of (r01_CompareInts_s _ _) ?_
  push_cast
  refine pf_ret ?_
  push_cast [r01_CompareNames.rs]
  rw [← hq]
  rcases Nat.lt_or_ge a.length b.length with h | h
  ·rw [Nat.min_eq_left (by omega),drop_map_none,drop_getD h]
   simp [cmpB,cmpI];omega
  ·rw [Nat.min_eq_right (by omega),drop_map_none]
   rcases Nat.lt_or_ge b.length a.length with h2 | h2
   ·rw [drop_getD h2]
    simp [cmpB,cmpI];omega
   ·rw [show b.length = a.length by omega,drop_map_none]
    simp [cmpB,cmpI]
end Go.Dw
end
section
namespace Go.Dw
mutual
def count (v:Str):Term→Nat
 | .mk n b l=>(if b && decide (n = v) then 1 else 0)+counts v l
def counts (v:Str):List Term→Nat
 | []=>0
 | a :: l=>count v a+counts v l
end
theorem count_eq (v:Str) (t:Term):count v t = (if t.var && decide (t.name = v) then 1 else 0)+counts v t.args:=by cases t;rfl
theorem counts_append (v:Str) (a b:List Term):counts v (a++b) = counts v a+counts v b:=by
 induction a with
 | nil=>simp [counts]
 | cons x xs ih=>simp [counts,ih];omega
theorem counts_take_succ (v:Str) (l:List Term) (k:Nat) (h:k < l.length):counts v (l.take (k+1)) = counts v (l.take k)+count v (l.getD k default):=by
 rw [take_succ_getD h,counts_append];simp [counts]
theorem counts_take_le (v:Str) (l:List Term) (k:Nat):counts v (l.take k)≤counts v l:=by
 conv=>rhs;rw [← List.take_append_drop k l]
 rw [counts_append];omega
mutual
theorem count_le (v:Str):∀ t,count v t≤size t
 | .mk n b l=>by simp only [count,size];have:=counts_le v l;split <;> omega
theorem counts_le (v:Str):∀ l,counts v l≤sizes l
 | []=>by simp [counts,sizes]
 | a :: l=>by simp only [counts,sizes];have:=count_le v a;have:=counts_le v l;omega
end
theorem r01_Count_s (t:Term) (v:Str) (hs:size t < 2^62):PF n_r01_Count [encT t,.str v] (.int .i64 (count v t)):=by
 induction t using term_ind with
 | h t ih =>
 have hst:=size_args t
 have hl:=length_le_sizes t.args
 have hce:=count_eq v t
 have hcl:=counts_le v t.args
 have fin:∀ c:Nat,c≤1→count v t = c+counts v t.args→r01_Count.L3 (.str v) (.int .i64 c) (encTs t.args) (.int .i64 t.args.length) (.int .i64 0) 0 [] (Ends 0 r01_Count.rs fun x' H'=>x' = .int .i64 (count v t)∧H' = []):=by
  intro c hc hcv
  refine loop_up (n:=t.args.length) (R:=fun k=>r01_Count.L3 (.str v) (.int .i64 ((c+counts v (t.args.take k):Nat):Int)) (encTs t.args) (.int .i64 t.args.length) (.int .i64 k) 0 [] _) ?_ ?_ 0 (by omega)
  ·intro k hk ih2
   have h1:=counts_take_succ v _ _ hk
   have h2:=counts_take_le v t.args (k+1)
   have hm:=getD_mem hk
   have hm2:=size_mem hm
   refine r01_Count.G3 ?_
   push_cast [ilt hk]
   refine .of (ih _ hm (by omega)) ?_
   push_cast [w64 (show k < 2^62 by omega)]
   rw [wrap64 (by omega) (by omega)]
   rw [h1] at ih2
   simpa [Int.add_assoc] using ih2
  ·refine r01_Count.G3 ?_
   push_cast [inlt (Nat.le_refl _)]
   refine pf_ret ?_
   push_cast [r01_Count.rs,List.take_length,hcv]
 refine pf_of r01_Count.ok rfl ?_
 cases hv:t.var with
 | true =>
  by_cases hn:t.name = v
  ·push_cast [hv,hn]
   exact fin 1 (by omega) (by rw [hce];simp [hv,hn])
  ·push_cast [hv,hn]
   exact fin 0 (by omega) (by rw [hce];simp [hv,hn])
 | false =>
  push_cast [hv]
  exact fin 0 (by omega) (by rw [hce];simp [hv])
def lbg {α:Type} (p:α→Bool):List α→Nat
 | []=>0
 | x :: l=>if p x then lbg p l+1 else 0
theorem lbg_le {α:Type} (p:α→Bool):∀ l:List α,lbg p l≤l.length
 | []=>Nat.le_refl _
 | x :: l=>by simp only [lbg];have:=lbg_le p l;split <;> simp <;> omega
theorem lbg_lt {α:Type} [Inhabited α] {p:α→Bool}:∀ {l:List α} {j:Nat},j < lbg p l→p (l.getD j default) = true
 | [],j,h=>by simp [lbg] at h
 | x :: l,j,h=>by
  simp only [lbg] at h
  split at h
  ·rename_i hx
   cases j with
   | zero=>simpa using hx
   | succ j=>simpa using lbg_lt (l:=l) (j:=j) (by omega)
  ·omega
theorem lbg_ge {α:Type} [Inhabited α] {p:α→Bool}:∀ {l:List α},lbg p l < l.length→p (l.getD (lbg p l) default) = false
 | [],h=>by simp at h
 | x :: l,h=>by
  simp only [lbg] at h ⊢
  split
  ·rename_i hx
   rw [if_pos hx] at h
   simpa using lbg_ge (l:=l) (by simpa using h)
  ·rename_i hx
   simpa using hx
def insS (l:List Str) (s:Str):List Str:=if lbg (fun x=>decide (x < s)) l < l.length∧l.getD (lbg (fun x=>decide (x < s)) l) default = s then l else l.take (lbg (fun x=>decide (x < s)) l)++s :: l.drop (lbg (fun x=>decide (x < s)) l)
theorem mem_insS {l:List Str} {s v:Str}:v∈insS l s ↔ v∈l ∨ v = s:=by
 unfold insS
 split
 ·rename_i h
  constructor
  ·exact .inl
  ·rintro (h2 | rfl)
   ·exact h2
   ·rw [← h.2];exact getD_mem h.1
 ·generalize lbg (fun x=>decide (x < s)) l = k
  have:=List.take_append_drop k l
  constructor
  ·intro h
   simp only [List.mem_append,List.mem_cons] at h
   rcases h with h | h | h
   ·exact .inl (List.mem_of_mem_take h)
   ·exact .inr h
   ·exact .inl (List.mem_of_mem_drop h)
  ·rintro (h | rfl)
   ·rw [← this] at h
    simp only [List.mem_append,List.mem_cons] at h ⊢
    rcases h with h | h
    ·exact .inl h
    ·exact .inr (.inr h)
   ·simp
theorem insS_len (l:List Str) (s:Str):(insS l s).length≤l.length+1:=by
 unfold insS
 have:=lbg_le (fun x=>decide (x < s)) l
 split <;> simp <;> omega
theorem r01_Insert_s (l:List Str) (s:Str) (hl:l.length < 2^40) (hn:∀ x∈l,x.length < 2^62) (hs:s.length < 2^62):PF n_r01_Insert [encSs l,.str s] (encSs (insS l s)):=by
 have hle:=lbg_le (fun x=>decide (x < s)) l
 have hge:=@lbg_ge _ _ (fun x=>decide (x < s)) l
 have hlt:=fun j=>@lbg_lt _ _ (fun x=>decide (x < s)) l j
 unfold insS
 generalize lbg (fun x=>decide (x < s)) l = a at hle hge hlt
 refine pf_of r01_Insert.ok rfl ?_
 push_cast
 refine loop_up (n:=a) (R:=fun k=>r01_Insert.L4 (encSs l) (.str s) (.int .i64 k) 0 [] _) ?_ ?_ 0 (by omega)
 ·intro k hk ih
  have hkl:k < l.length:=by omega
  have h1:cmpS (l.getD k default) s < 0:=cmpS_neg.2 (by simpa using hlt k hk)
  refine r01_Insert.G4 ?_
  push_cast [ilt hkl]
  refine .of (r01_CompareNames_s _ _ (hn _ (getD_mem hkl)) hs) ?_
  push_cast [h1,w64 (show k < 2^62 by omega)]
  exact ih
 ·refine r01_Insert.G4 ?_
  have tail:∀ m:Nat,m≤2^40→∀ b,b≤64→m * b≤maxEls:=fun m hm b hb=>Nat.le_trans (Nat.mul_le_mul hm hb) (by unfold maxEls;decide)
  rcases Nat.lt_or_ge a l.length with h | h
  ·have h2:¬ cmpS (l.getD a default) s < 0:=fun hc=>by have:=cmpS_neg.1 hc;have:=hge h;simp_all
   push_cast [ilt h]
   refine .of (r01_CompareNames_s _ _ (hn _ (getD_mem h)) hs) ?_
   by_cases he:l.getD a default = s
   ·rw [he] at h2
    push_cast [h2,ilt h,he,h]
    exact pf_ret (by push_cast [r01_Insert.rs])
   ·push_cast [h2,ilt h,he,h]
    refine ⟨⟨by omega,hle⟩,tail _ (by simp;omega) _ (by omega),tail _ (by simp;omega) _ (by omega),hle,tail _ (by simp;omega) _ (by omega),pf_ret ?_⟩
    push_cast [r01_Insert.rs]
    simp [encL,cS,List.take_of_length_le]
  ·push_cast [inlt h]
   rw [if_neg (by omega)]
   refine ⟨⟨by omega,hle⟩,tail _ (by simp;omega) _ (by omega),tail _ (by simp;omega) _ (by omega),hle,tail _ (by simp;omega) _ (by omega),pf_ret ?_⟩
   push_cast [r01_Insert.rs]
   simp [encL,cS,List.take_of_length_le]
mutual
def collectT (l:List Str):Term→List Str
 | .mk n b ar=>collectTs (if b then insS l n else l) ar
def collectTs (l:List Str):List Term→List Str
 | []=>l
 | a :: ar=>collectTs (collectT l a) ar
end
theorem collectT_eq (l:List Str) (t:Term):collectT l t = collectTs (if t.var then insS l t.name else l) t.args:=by cases t;rfl
theorem collectTs_append (a b:List Term):∀ l:List Str,collectTs l (a++b) = collectTs (collectTs l a) b:=by
 induction a with
 | nil=>intro l;simp [collectTs]
 | cons x xs ih=>intro l;simp [collectTs,ih]
theorem collectTs_take_succ (s:List Str) (l:List Term) (k:Nat) (h:k < l.length):collectTs s (l.take (k+1)) = collectT (collectTs s (l.take k)) (l.getD k default):=by
 rw [take_succ_getD h,collectTs_append];simp [collectTs]
mutual
theorem collectT_len:∀ (t:Term) (l:List Str),(collectT l t).length≤l.length+size t
 | .mk n b ar,l=>by
  simp only [collectT,size]
  have:=collectTs_len ar (if b then insS l n else l)
  have:=insS_len l n
  cases b <;> simp at * <;> omega
theorem collectTs_len:∀ (ar:List Term) (l:List Str),(collectTs l ar).length≤l.length+sizes ar
 | [],l=>by simp [collectTs,sizes]
 | a :: ar,l=>by simp only [collectTs,sizes];have:=collectT_len a l;have:=collectTs_len ar (collectT l a);omega
end
mutual
def occ (v:Str):Term→Bool
 | .mk n b ar=>(b && decide (n = v)) || occs v ar
def occs (v:Str):List Term→Bool
 | []=>false
 | a :: ar=>occ v a || occs v ar
end
mutual
theorem mem_collectT (v:Str):∀ (t:Term) (l:List Str),v∈collectT l t ↔ v∈l ∨ occ v t = true
 | .mk n b ar,l=>by
  simp only [collectT,occ,mem_collectTs v ar]
  cases b
  ·simp
  ·simp only [if_true,mem_insS,Bool.true_and,Bool.or_eq_true,decide_eq_true_eq,or_assoc]
   constructor
   ·rintro (h | h | h)
    ·exact .inl h
    ·exact .inr (.inl h.symm)
    ·exact .inr (.inr h)
   ·rintro (h | h | h)
    ·exact .inl h
    ·exact .inr (.inl h.symm)
    ·exact .inr (.inr h)
theorem mem_collectTs (v:Str):∀ (ar:List Term) (l:List Str),v∈collectTs l ar ↔ v∈l ∨ occs v ar = true
 | [],l=>by simp [collectTs,occs]
 | a :: ar,l=>by simp only [collectTs,occs,mem_collectTs v ar,mem_collectT v a,Bool.or_eq_true,or_assoc]
end
mutual
theorem occ_len (v:Str):∀ t,occ v t = true→v.length < tb t
 | .mk n b ar,h=>by
  simp only [occ,Bool.or_eq_true,Bool.and_eq_true,decide_eq_true_eq] at h
  simp only [tb]
  rcases h with ⟨_,rfl⟩ | h
  ·omega
  ·have:=occs_len v ar h;simp only [tbs] at this;omega
theorem occs_len (v:Str):∀ l,occs v l = true→v.length < tbs l
 | [],h=>by simp [occs] at h
 | a :: ar,h=>by
  simp only [occs,Bool.or_eq_true] at h
  simp only [tbs,tb.tbs]
  rcases h with h | h
  ·have:=occ_len v a h;omega
  ·have:=occs_len v ar h;simp only [tbs] at this;omega
end
mutual
theorem count_occ (v:Str):∀ t,decide (count v t = 0) = !occ v t
 | .mk n b ar=>by
  simp only [count,occ]
  have:=counts_occ v ar
  cases b <;> by_cases h:n = v <;> simp_all
theorem counts_occ (v:Str):∀ l,decide (counts v l = 0) = !occs v l
 | []=>by simp [counts,occs]
 | a :: ar=>by
  have h1:=count_occ v a
  have h2:=counts_occ v ar
  have e:counts v (a :: ar) = count v a+counts v ar:=rfl
  have e2:occs v (a :: ar) = (occ v a || occs v ar):=rfl
  rw [e2,Bool.not_or,← h1,← h2]
  by_cases c1:count v a = 0 <;> by_cases c2:counts v ar = 0 <;> simp [e,c1,c2]
end
theorem tbs_take_le (l:List Term) (k:Nat):tbs (l.take k)≤tbs l:=by
 induction l generalizing k with
 | nil=>simp
 | cons a l ih=>cases k with
  | zero=>simp [tbs,tb.tbs]
  | succ k=>simp only [List.take_succ_cons,tbs,tb.tbs];have:=ih k;simp only [tbs] at this;omega
theorem r01_collect_s (t:Term):∀ (l:List Str),tb t < 2^39→l.length+size t < 2^39→(∀ x∈l,x.length < 2^62)→PF n_r01_collect [encT t,encSs l] (encSs (collectT l t)):=by
 induction t using term_ind with
 | h t ih =>
 intro l htb hls hn
 have hst:=size_args t
 have htb2:=tb_args t
 have hll:=length_le_sizes t.args
 have hce:=collectT_eq l t
 have fin:∀ s:List Str,s = (if t.var then insS l t.name else l)→r01_collect.L3 (encSs s) (encTs t.args) (.int .i64 t.args.length) (.int .i64 0) 0 [] (Ends 0 r01_collect.rs fun x' H'=>x' = encSs (collectT l t)∧H' = []):=by
  intro s hs
  have hsl:s.length≤l.length+1:=by rw [hs];have:=insS_len l t.name;split <;> omega
  have hsn:∀ x∈s,x.length < 2^62:=by
   intro x hx
   rw [hs] at hx
   split at hx
   ·rcases mem_insS.1 hx with h | rfl
    ·exact hn x h
    ·omega
   ·exact hn x hx
  rw [← hs] at hce
  refine loop_up (n:=t.args.length) (R:=fun k=>r01_collect.L3 (encSs (collectTs s (t.args.take k))) (encTs t.args) (.int .i64 t.args.length) (.int .i64 k) 0 [] _) ?_ ?_ 0 (by omega)
  ·intro k hk ih2
   have h1:=collectTs_take_succ s _ _ hk
   have h2:=collectTs_len (t.args.take k) s
   have h3:=sizes_take_le t.args (k+1)
   rw [sizes_take_succ _ _ hk] at h3
   have hm:=getD_mem hk
   have hm3:=tb_mem hm
   refine r01_collect.G3 ?_
   push_cast [ilt hk]
   refine .of (ih _ hm _ (by omega) (by omega) fun x hx=>?_) ?_
   ·rcases (mem_collectTs x _ _).1 hx with h | h
    ·exact hsn x h
    ·have:=occs_len x _ h
     have h4:=tbs_take_le t.args k
     omega
   push_cast [w64 (show k < 2^62 by omega)]
   rw [h1] at ih2
   exact ih2
  ·refine r01_collect.G3 ?_
   push_cast [inlt (Nat.le_refl _)]
   refine pf_ret ?_
   push_cast [r01_collect.rs,List.take_length,hce]
 refine pf_of r01_collect.ok rfl ?_
 cases hv:t.var with
 | true =>
  push_cast [hv]
  refine .of (r01_Insert_s l t.name (by omega) hn (by omega)) ?_
  push_cast
  exact fin _ (by rw [hv];rfl)
 | false =>
  push_cast [hv]
  exact fin _ (by rw [hv];rfl)
def varsT (t:Term):List Str:=collectT [] t
theorem r01_Vars_s (t:Term) (ht:tb t < 2^39):PF n_r01_Vars [encTs [t]] (encSs (varsT t)):=by
 have:=size_le_tb t
 refine pf_of r01_Vars.ok rfl ?_
 push_cast
 rw [show (V.sl 1 []:V) = encSs (collectTs [] ([t].take 0)) from rfl]
 refine loop_up (n:=1) (R:=fun k=>r01_Vars.L3 (encSs (collectTs [] ([t].take k))) (encTs [t]) (.int .i64 1) (.int .i64 k) 0 [] _) ?_ ?_ 0 (by omega)
 ·intro k hk ih2
  obtain rfl:k = 0:=by omega
  refine r01_Vars.G3 ?_
  push_cast
  refine .of (r01_collect_s t [] ht (by simpa using by omega) (by simp)) ?_
  push_cast
  exact ih2
 ·refine r01_Vars.G3 ?_
  push_cast
  refine pf_ret ?_
  push_cast [r01_Vars.rs]
  rfl
def within (a b:Term):Bool:=(varsT a).all fun v=>occ v b
theorem r01_Within_s (a b:Term) (ha:tb a < 2^39) (hb:tb b < 2^39):PF n_r01_Within [encT a,encT b] (.bool (within a b)):=by
 have hsa:=size_le_tb a
 have hsb:=size_le_tb b
 have hvl:=collectT_len a []
 have hV:=r01_Vars_s a ha
 unfold within
 have e1:(.sl 3 [cT a]:V) = encTs [a]:=rfl
 have hcl:(varsT a).length < 2^62:=by unfold varsT;simp at hvl;omega
 generalize varsT a = l at hV hcl
 refine pf_of r01_Within.ok rfl ?_
 push_cast [e1]
 refine .of hV ?_
 push_cast
 refine loop_up (n:=l.length) (R:=fun k=>((l.drop k).all fun v=>occ v b) = (l.all fun v=>occ v b)→r01_Within.L3 (.ro (cT b) 0) (encSs l) (.int .i64 l.length) (.int .i64 k) 0 [] _) ?_ ?_ 0 (by omega) rfl
 ·intro k hk ih hq
  rw [drop_getD hk] at hq
  simp only [List.all_cons] at hq
  refine r01_Within.G3 ?_
  push_cast [ilt hk]
  refine .of (r01_Count_s _ _ (by omega)) ?_
  have hc:=count_occ (l.getD k default) b
  push_cast [w64 (show k < 2^62 by omega)]
  refine ⟨fun h=>pf_ret ?_,fun h=>ih ?_⟩
  ·push_cast [r01_Within.rs]
   rw [← hq]
   have h0:count (l.getD k default) b = 0:=by omega
   rw [decide_eq_true h0] at hc
   simp_all
  ·rw [← hq]
   have h0:¬ count (l.getD k default) b = 0:=by omega
   rw [decide_eq_false h0] at hc
   simp_all
 ·intro hq
  refine r01_Within.G3 ?_
  push_cast [inlt (Nat.le_refl _)]
  refine pf_ret ?_
  push_cast [r01_Within.rs]
  rw [← hq,drop_map_none];rfl
theorem r01_Rules_s (r:List ARule) (hs:rbs r < 2^61):PF n_r01_Rules [encRs r] (.int .i64 (checkRules r)):=by
 have hl:=length_le_rbs r
 refine pf_of r01_Rules.ok rfl ?_
 by_cases h64:64 < r.length
 ·have hi:((64:Int) < (r.length:Int)) = True:=eq_true (by omega)
  push_cast [hi]
  refine pf_ret ?_
  push_cast [r01_Rules.rs,checkRules,h64]
 ·have hi:((64:Int) < (r.length:Int)) = False:=eq_false (by omega)
  push_cast [hi,checkRules,h64]
  refine loop_up (n:=r.length) (R:=fun k=>checkPairs (r.drop k) = checkPairs r→r01_Rules.L3 (encRs r) (.int .i64 r.length) (.int .i64 k) 0 [] _) ?_ ?_ 0 (by omega) rfl
  ·intro k hk ih hq
   have hm:=rbs_mem (getD_mem hk)
   refine r01_Rules.G3 ?_
   rw [drop_getD hk] at hq
   simp only [checkPairs] at hq
   generalize hx:r.getD k default = x at hm hq
   have hA:=r01_CheckAll_s [x.left,x.right] (by simp) (by simp;omega)
   push_cast [ilt hk,hx,encTs_two]
   refine .of hA ?_
   push_cast [w64 (show k < 2^62 by omega)]
   refine ⟨fun h=>pf_ret ?_,fun h=>ih ?_⟩
   ·push_cast [r01_Rules.rs]
    rw [← hq,if_pos h]
   ·rw [← hq,if_neg h]
  ·intro hq
   refine r01_Rules.G3 ?_
   push_cast [inlt (Nat.le_refl _)]
   refine pf_ret ?_
   push_cast [r01_Rules.rs]
   rw [← hq,drop_map_none];rfl
end Go.Dw
end
section
namespace Go.Dw
structure ASym where
 name:Str
 arity:Int
 deriving Inhabited,DecidableEq
def cSy (s:ASym):List V:=[.str s.name,.int .i64 s.arity]
abbrev encSys (l:List ASym):V:=encL cSy 2 l
theorem cSy_len (s:ASym):(cSy s).length = 2:=rfl
theorem cSy_0 (s:ASym):(cSy s)[0]? = some (.str s.name):=rfl
theorem cSy_1 (s:ASym):(cSy s)[1]? = some (.int .i64 s.arity):=rfl
theorem own_sym {i:Nat} {l:List ASym} {n:Str} {k:Int}:(.own i 2 (l.map cSy++[[V.str n,.int .i64 k]]):V) = ownL cSy i 2 (l++[⟨n,k⟩]):=by simp [ownL,cSy]
attribute [push_cast] cSy_len cSy_0 cSy_1
abbrev syAt (l:List ASym) (n:Str):Nat:=lbg (fun x=>decide (x.name < n)) l
def insSy (l:List ASym) (n:Str) (k:Int):List ASym:=if syAt l n < l.length∧(l.getD (syAt l n) default).name = n then l else l.take (syAt l n)++⟨n,k⟩ :: l.drop (syAt l n)
mutual
def symT (l:List ASym):Term→List ASym × Bool
 | .mk n b ar=>if b then (l,true) else if marked n then (l,false) else if ((insSy l n ar.length).getD (syAt l n) default).arity ≠ ar.length then (insSy l n ar.length,false) else symTs (insSy l n ar.length) ar
def symTs (l:List ASym):List Term→List ASym × Bool
 | []=>(l,true)
 | a :: ar=>if (symT l a).2 then symTs (symT l a).1 ar else (l,false)
end
theorem symT_eq (l:List ASym) (t:Term):symT l t = if t.var then (l,true) else if marked t.name then (l,false) else if ((insSy l t.name t.args.length).getD (syAt l t.name) default).arity ≠ t.args.length then (insSy l t.name t.args.length,false) else symTs (insSy l t.name t.args.length) t.args:=by cases t;rfl
theorem insSy_len (l:List ASym) (n:Str) (k:Int):(insSy l n k).length≤l.length+1:=by
 unfold insSy
 have:=lbg_le (fun x:ASym=>decide (x.name < n)) l
 split <;> simp <;> omega
theorem mem_insSy {l:List ASym} {n:Str} {k:Int} {x:ASym} (h:x∈insSy l n k):x∈l ∨ x = ⟨n,k⟩:=by
 unfold insSy at h
 split at h
 ·exact .inl h
 ·simp only [List.mem_append,List.mem_cons] at h
  rcases h with h | h | h
  ·exact .inl (List.mem_of_mem_take h)
  ·exact .inr h
  ·exact .inl (List.mem_of_mem_drop h)
def Few (M:Nat) (m:Nat) (l:List ASym):Prop:=l.length≤m∧∀ x∈l,x.name.length < M
theorem Few.ins {M m:Nat} {l:List ASym} (h:Few M m l) {n:Str} {k:Int} (hn:n.length < M):Few M (m+1) (insSy l n k):=by
 refine ⟨by have:=insSy_len l n k;have:=h.1;omega,fun x hx=>?_⟩
 rcases mem_insSy hx with h1 | rfl
 ·exact h.2 x h1
 ·exact hn
mutual
theorem few_symT {M:Nat}:∀ (t:Term) (m:Nat) (l:List ASym),Few M m l→tb t≤M→Few M (m+size t) (symT l t).1
 | .mk n b ar,m,l,h,ht=>by
  simp only [tb] at ht
  have h0:Few M (m+size (.mk n b ar)) l:=⟨by have:=h.1;omega,h.2⟩
  have h1:=h.ins (n:=n) (k:=ar.length) (by omega)
  have h2:Few M (m+size (.mk n b ar)) (insSy l n ar.length):=⟨by have:=h1.1;simp only [size];omega,h1.2⟩
  have h3:=few_symTs ar (m+1) _ h1 (by simp only [tbs];omega)
  simp only [symT]
  split
  ·exact h0
  split
  ·exact h0
  split
  ·exact h2
  ·exact ⟨by have:=h3.1;simp only [size];omega,h3.2⟩
theorem few_symTs {M:Nat}:∀ (ar:List Term) (m:Nat) (l:List ASym),Few M m l→tbs ar≤M→Few M (m+sizes ar) (symTs l ar).1
 | [],m,l,h,_=>by simpa [symTs,sizes] using h
 | a :: ar,m,l,h,ht=>by
  simp only [tbs,tb.tbs] at ht
  have h1:=few_symT a m l h (by omega)
  have h2:=few_symTs ar _ _ h1 (by simp only [tbs];omega)
  simp only [symTs]
  split
  ·exact ⟨by have:=h2.1;simp only [sizes];omega,h2.2⟩
  ·exact ⟨by have:=h.1;show l.length≤_;omega,h.2⟩
end
theorem symTs_append (a b:List Term):∀ l:List ASym,(symTs l a).2 = true→symTs l (a++b) = symTs (symTs l a).1 b:=by
 induction a with
 | nil=>intro l _;rfl
 | cons x xs ih =>
  intro l h
  simp only [symTs,List.cons_append] at h ⊢
  by_cases hx:(symT l x).2 = true
  ·rw [if_pos hx] at h ⊢
   rw [if_pos hx]
   exact ih _ h
  ·rw [if_neg hx] at h
   cases h
set_option maxHeartbeats 1000000 in
theorem r01_symbols_s (t:Term):∀ (m:Nat) (l:List ASym),tb t < 2^39→m+size t < 2^39→Few (2^39) m l→PF n_r01_symbols [encT t,encSys l] (.tup [encSys (symT l t).1,.bool (symT l t).2]):=by
 induction t using term_ind with
 | h t ih =>
 intro m l htb hms hf
 have hst:=size_args t
 have htb2:=tb_args t
 have hll:=length_le_sizes t.args
 have hse:=symT_eq l t
 have hl:l.length < 2^39:=by have:=hf.1;omega
 refine pf_of r01_symbols.ok rfl ?_
 cases hv:t.var with
 | true =>
  rw [hv,if_pos rfl] at hse
  push_cast [hv]
  exact pf_ret (by push_cast [r01_symbols.rs,hse])
 | false =>
 rw [hv,if_neg (by simp)] at hse
 push_cast [hv]
 refine .of (r01_Marked_s t.name (by omega)) ?_
 cases hmk:hasSuf t.name [35] with
 | true =>
  have hmk':marked t.name = true:=hmk
  rw [hmk',if_pos rfl] at hse
  push_cast
  exact pf_ret (by push_cast [r01_symbols.rs,hse])
 | false =>
 have hmk':marked t.name = false:=hmk
 rw [hmk',if_neg (by simp)] at hse
 have hI:=insSy_len l t.name t.args.length
 have hF:=hf.ins (n:=t.name) (k:=t.args.length) (by omega)
 have hle:syAt l t.name≤l.length:=lbg_le (fun x:ASym=>decide (x.name < t.name)) l
 have hge:syAt l t.name < l.length→¬ (l.getD (syAt l t.name) default).name < t.name:=fun h=>of_decide_eq_false (@lbg_ge _ _ (fun x:ASym=>decide (x.name < t.name)) l h)
 have hlt:∀ j,j < syAt l t.name→(l.getD j default).name < t.name:=fun j h=>of_decide_eq_true (@lbg_lt _ _ (fun x:ASym=>decide (x.name < t.name)) l j h)
 have hat:syAt l t.name < (insSy l t.name t.args.length).length:=by
  unfold insSy
  split
  ·rename_i h;exact h.1
  ·rw [List.length_append,List.length_take,List.length_cons,Nat.min_eq_left hle];omega
 have hins:insSy l t.name t.args.length = if syAt l t.name < l.length∧(l.getD (syAt l t.name) default).name = t.name then l else l.take (syAt l t.name)++⟨t.name,t.args.length⟩ :: l.drop (syAt l t.name):=rfl
 generalize insSy l t.name t.args.length = l1 at *
 have kids:(l1.getD (syAt l t.name) default).arity = t.args.length→r01_symbols.L3 (encSys l1) (encTs t.args) (.int .i64 t.args.length) (.int .i64 0) 0 [] (Ends 0 r01_symbols.rs fun x' H'=>x' = .tup [encSys (symT l t).1,.bool (symT l t).2]∧H' = []):=by
  intro har
  rw [if_neg (by simpa using har)] at hse
  rw [hse]
  refine loop_up (n:=t.args.length) (R:=fun k=>(symTs l1 (t.args.take k)).2 = true→r01_symbols.L3 (encSys (symTs l1 (t.args.take k)).1) (encTs t.args) (.int .i64 t.args.length) (.int .i64 k) 0 [] _) ?_ ?_ 0 (by omega) rfl
  ·intro k hk ih2 hok
   have hm:=getD_mem hk
   have hm3:=tb_mem hm
   have h3:=sizes_take_le t.args (k+1)
   rw [sizes_take_succ _ _ hk] at h3
   have hFk:=few_symTs (t.args.take k) _ _ hF (by have:=tbs_take_le t.args k;omega)
   have hcat:symTs l1 (t.args.take (k+1)) = if (symT (symTs l1 (t.args.take k)).1 (t.args.getD k default)).2 then (symT (symTs l1 (t.args.take k)).1 (t.args.getD k default)) else ((symTs l1 (t.args.take k)).1,false):=by
    rw [take_succ_getD hk,symTs_append _ _ _ hok]
    simp only [symTs]
    split
    ·rename_i h;exact Prod.ext rfl h.symm
    ·rfl
   have hend:(symT (symTs l1 (t.args.take k)).1 (t.args.getD k default)).2 = false→symTs l1 t.args = ((symTs l1 (t.args.take k)).1,false):=by
    intro h
    conv=>lhs;rw [← List.take_append_drop k t.args]
    rw [symTs_append _ _ _ hok,drop_getD hk]
    simp only [symTs,h]
    rfl
   refine r01_symbols.G3 ?_
   push_cast [ilt hk]
   refine .of (ih _ hm _ _ (by omega) (by omega) hFk) ?_
   cases hb:(symT (symTs l1 (t.args.take k)).1 (t.args.getD k default)).2 with
   | false =>
    push_cast
    refine pf_ret ?_
    push_cast [r01_symbols.rs,hend hb]
   | true =>
    rw [hb,if_pos rfl] at hcat
    push_cast [w64 (show k < 2^62 by omega)]
    rw [hcat] at ih2
    exact ih2 hb
  ·intro hok
   rw [List.take_length] at hok
   refine r01_symbols.G3 ?_
   push_cast [inlt (Nat.le_refl _)]
   refine pf_ret ?_
   push_cast [r01_symbols.rs,List.take_length,hok]
 generalize syAt l t.name = a at *
 push_cast
 refine loop_up (n:=a) (R:=fun k=>r01_symbols.L9 (encSys l) (.ro (cT t) 0) (.int .i64 k) 0 [] _) ?_ ?_ 0 (by omega)
 ·intro k hk ih2
  have hkl:k < l.length:=by omega
  have h1:cmpS (l.getD k default).name t.name < 0:=cmpS_neg.2 (hlt k hk)
  refine r01_symbols.G9 ?_
  push_cast [ilt hkl]
  refine .of (r01_CompareNames_s _ _ (by have:=hf.2 _ (getD_mem hkl);omega) (by omega)) ?_
  push_cast [h1,w64 (show k < 2^62 by omega)]
  exact ih2
 ·refine r01_symbols.G9 ?_
  have tail:∀ m:Nat,m≤2^40→∀ b,b≤64→m * b≤maxEls:=fun m hm b hb=>Nat.le_trans (Nat.mul_le_mul hm hb) (by unfold maxEls;decide)
  have e1:(l.drop 0).take (a - 0) = l.take a:=by simp
  have e2:(l.drop a).take (l.length - a) = l.drop a:=by rw [List.take_of_length_le];simp
  rcases Nat.lt_or_ge a l.length with h | h
  ·have h2:¬ cmpS (l.getD a default).name t.name < 0:=fun hc=>hge h (cmpS_neg.1 hc)
   have h3:((a:Int) = (l.length:Int)) = False:=eq_false (by omega)
   push_cast [ilt h]
   refine .of (r01_CompareNames_s _ _ (by have:=hf.2 _ (getD_mem h);omega) (by omega)) ?_
   by_cases he:(l.getD a default).name = t.name
   ·rw [if_pos ⟨h,he⟩] at hins
    subst hins
    rw [he] at h2
    push_cast [h2,h3,he,ilt h]
    refine ⟨fun har=>pf_ret ?_,fun har=>kids (by simpa using har)⟩
    rw [if_pos har] at hse
    push_cast [r01_symbols.rs,hse]
   ·rw [if_neg (fun hh=>he hh.2)] at hins
    push_cast [h2,h3,he,ilt h,own_sym,e1,e2,List.cons_append,List.nil_append,← hins,hat]
    refine ⟨⟨by omega,hle⟩,tail _ (by simp;omega) _ (by omega),tail _ (by simp;omega) _ (by omega),hle,⟨by simp,tail _ (by simp;omega) _ (by omega)⟩,by omega,fun har=>pf_ret ?_,fun har=>kids (by simpa using har)⟩
    rw [if_pos har] at hse
    push_cast [r01_symbols.rs,hse]
  ·rw [if_neg (fun hh=>by omega)] at hins
   have h3:((a:Int) = (l.length:Int)) = True:=eq_true (by omega)
   push_cast (maxSteps:=1000000) [inlt h,h3,own_sym,e1,e2,List.cons_append,List.nil_append,← hins,hat]
   refine ⟨⟨by omega,hle⟩,tail _ (by simp;omega) _ (by omega),tail _ (by simp;omega) _ (by omega),hle,⟨by simp,tail _ (by simp;omega) _ (by omega)⟩,by omega,fun har=>pf_ret ?_,fun har=>kids (by simpa using har)⟩
   rw [if_pos har] at hse
   push_cast [r01_symbols.rs,hse]
end Go.Dw
end
section
namespace Go.Dw
open Go.Proofs (sortS)
def symRs (l:List ASym):List ARule→List ASym × Bool
 | []=>(l,true)
 | x :: r=>if (symT l x.left).2 then if (symT (symT l x.left).1 x.right).2 then symRs (symT (symT l x.left).1 x.right).1 r else ([],false) else ([],false)
theorem r01_Symbols_s (r:List ARule) (hs:rbs r < 2^38):PF n_r01_Symbols [encRs r] (.tup [encSys (symRs [] r).1,.bool (symRs [] r).2]):=by
 have hl:=length_le_rbs r
 have hw1:IntKind.i64.wrap 1 = 1:=wrap64 (by omega) (by omega)
 have hw2:IntKind.i64.wrap 2 = 2:=wrap64 (by omega) (by omega)
 refine pf_of r01_Symbols.ok rfl ?_
 push_cast
 rw [show (V.sl 2 []:V) = encSys [] from rfl]
 refine loop_up (n:=r.length) (R:=fun k=>∀ l m,Few (2^39) m l→m+rbs (r.drop k) < 2^38→symRs l (r.drop k) = symRs [] r→r01_Symbols.L6 (encSys l) (encRs r) (.int .i64 r.length) (.int .i64 k) 0 [] (Ends 0 r01_Symbols.rs fun x' H'=>x' = .tup [encSys (symRs [] r).1,.bool (symRs [] r).2]∧H' = [])) ?_ ?_ 0 (by omega) [] 0 ⟨by simp,by simp⟩ (by simpa using hs) rfl
 ·intro k hk ih l m hf hm hq
  have hr:=rbs_mem (getD_mem hk)
  rw [drop_getD hk] at hm hq
  simp only [rbs,symRs] at hm hq
  generalize hx:r.getD k default = x at hm hq hr
  have s1:=size_le_tb x.left
  have s2:=size_le_tb x.right
  have hf1:=few_symT x.left m l hf (by omega)
  have hf2:=few_symT x.right _ _ hf1 (by omega)
  refine r01_Symbols.G6 ?_
  push_cast [ilt hk,hx,encTs_two]
  refine r01_Symbols.G4 ?_
  push_cast
  refine .of (r01_symbols_s x.left m l (by omega) (by omega) hf) ?_
  cases h1:(symT l x.left).2 with
  | false =>
   rw [if_neg (by simp [h1])] at hq
   push_cast
   refine pf_ret ?_
   push_cast [r01_Symbols.rs,← hq]
   rfl
  | true =>
   rw [if_pos h1] at hq
   push_cast [hw1]
   refine r01_Symbols.G4 ?_
   push_cast
   refine .of (r01_symbols_s x.right _ _ (by omega) (by omega) hf1) ?_
   cases h2:(symT (symT l x.left).1 x.right).2 with
   | false =>
    rw [if_neg (by simp [h2])] at hq
    push_cast
    refine pf_ret ?_
    push_cast [r01_Symbols.rs,← hq]
    rfl
   | true =>
    rw [if_pos h2] at hq
    push_cast [hw2]
    refine r01_Symbols.G4 ?_
    push_cast [w64 (show k < 2^62 by omega)]
    exact ih _ _ hf2 (by omega) hq
 ·intro l m hf hm hq
  refine r01_Symbols.G6 ?_
  push_cast [inlt (Nat.le_refl _)]
  refine pf_ret ?_
  rw [drop_map_none] at hq
  push_cast [r01_Symbols.rs,← hq]
  exact ⟨rfl,rfl⟩
def extraR (x:ARule):Bool:=x.left.var || !within x.right x.left
def checkSystemR (r:List ARule):Int:=if checkRules r ≠ 0 then checkRules r else if (symRs [] r).2 then (if r.any extraR then 7 else 0) else 6
theorem r01_CheckSystem_sR (r:List ARule) (hs:rbs r < 2^38):PF n_r01_CheckSystem [encRs r] (.int .i64 (checkSystemR r)):=by
 have hl:=length_le_rbs r
 refine pf_of r01_CheckSystem.ok rfl ?_
 push_cast
 refine .of (r01_Rules_s r (by omega)) ?_
 unfold checkSystemR
 by_cases h1:checkRules r = 0
 ·rw [if_neg (by simpa using h1)]
  push_cast [h1]
  refine .of (r01_Symbols_s r hs) ?_
  cases h2:(symRs [] r).2 with
  | false =>
   push_cast
   refine pf_ret ?_
   push_cast [r01_CheckSystem.rs]
  | true =>
   push_cast
   refine loop_up (n:=r.length) (R:=fun k=>(r.drop k).any extraR = r.any extraR→r01_CheckSystem.L3 (encRs r) (.int .i64 r.length) (.int .i64 k) 0 [] _) ?_ ?_ 0 (by omega) rfl
   ·intro k hk ih hq
    have hr:=rbs_mem (getD_mem hk)
    rw [drop_getD hk] at hq
    simp only [List.any_cons] at hq
    generalize hx:r.getD k default = x at hq hr
    refine r01_CheckSystem.G3 ?_
    cases hv:x.left.var with
    | true =>
     push_cast [ilt hk,hx,hv]
     refine pf_ret ?_
     push_cast [r01_CheckSystem.rs,← hq,extraR,hv]
     simp
    | false =>
     push_cast [ilt hk,hx,hv]
     refine .of (r01_Within_s _ _ (by omega) (by omega)) ?_
     cases hw:within x.right x.left with
     | false =>
      push_cast
      refine pf_ret ?_
      push_cast [r01_CheckSystem.rs,← hq,extraR,hv,hw]
      rfl
     | true =>
      push_cast [w64 (show k < 2^62 by omega)]
      exact ih (by rw [← hq];simp [extraR,hv,hw])
   ·intro hq
    rw [drop_map_none] at hq
    refine r01_CheckSystem.G3 ?_
    push_cast [inlt (Nat.le_refl _)]
    refine pf_ret ?_
    push_cast [r01_CheckSystem.rs,← hq]
    rfl
 ·rw [if_pos h1]
  push_cast [h1]
  refine pf_ret ?_
  push_cast [r01_CheckSystem.rs]
theorem mem_foldl_addS (v:Str):∀ (l ks:List Str),v∈l.foldl addS ks ↔ v∈ks ∨ v∈l
 | [],ks=>by simp
 | x :: l,ks=>by
  rw [List.foldl_cons,mem_foldl_addS v l]
  unfold addS
  split
  ·rename_i h
   simp only [List.mem_cons]
   constructor
   ·rintro (h1 | h1)
    ·exact .inl h1
    ·exact .inr (.inr h1)
   ·rintro (h1 | rfl | h1)
    ·exact .inl h1
    ·exact .inl h
    ·exact .inr h1
  ·simp [or_assoc]
theorem varsIn_cons (x:List Int × Term) (l:List (List Int × Term)):varsIn (x :: l) = if x.2.var then x.2.name :: varsIn l else varsIn l:=by
 unfold varsIn;rw [List.filter_cons];split <;> rfl
theorem varsIn_append (a b:List (List Int × Term)):varsIn (a++b) = varsIn a++varsIn b:=by
 unfold varsIn;rw [List.filter_append,List.map_append]
mutual
theorem mem_varsIn (v:Str):∀ (t:Term) (p:List Int),v∈varsIn (visit t p) ↔ occ v t = true
 | .mk n b ar,p=>by
  have h:=mem_varsIns v ar p 0
  rw [visit_eq,varsIn_cons]
  cases b
  ·rw [if_neg (by simp [Term.var])]
   simpa [occ,Term.args] using h
  ·rw [if_pos (by simp [Term.var])]
   simp only [occ,Bool.true_and,Bool.or_eq_true,decide_eq_true_eq,List.mem_cons,← h]
   exact ⟨fun h=>h.imp (fun e=>e.symm) id,fun h=>h.imp (fun e=>e.symm) id⟩
theorem mem_varsIns (v:Str):∀ (ar:List Term) (p:List Int) (i:Nat),v∈varsIn (visits ar p i) ↔ occs v ar = true
 | [],p,i=>by simp [visits,varsIn,occs]
 | a :: ar,p,i=>by
  have h1:=mem_varsIn v a (p++[(i:Int)])
  have h2:=mem_varsIns v ar p (i+1)
  simp only [visits,varsIn_append,List.mem_append,h1,h2,occs,Bool.or_eq_true]
end
theorem mem_varsOf (v:Str) (t:Term):v∈varsOf [t] ↔ occ v t = true:=by
 unfold varsOf
 rw [show (v∈sortS (vsetT [] [t])) ↔ v∈vsetT [] [t] from (List.mergeSort_perm _ _).mem_iff]
 simp only [vsetT,List.foldl_cons,List.foldl_nil,vset,mem_foldl_addS,mem_varsIn,List.not_mem_nil,false_or]
theorem extra_eq (x:ARule):extra x = extraR x:=by
 unfold extra extraR within
 congr 1
 rw [Bool.eq_iff_iff]
 simp only [List.any_eq_true,Bool.not_eq_true',decide_eq_false_iff_not,mem_varsOf,List.all_eq_false,varsT,mem_collectT,List.not_mem_nil,false_or]
theorem getA_append (m:Ars) (n v:Str) (k:Nat):getA (m++[(n,k)]) v = match getA m v with | some a=>some a | none=>if n = v then some k else none:=by
 induction m with
 | nil=>simp [getA]
 | cons p m ih =>
  simp only [List.cons_append,getA]
  split
  ·rfl
  ·exact ih
def getSy:List ASym→Str→Option Int
 | [],_=>none
 | x :: l,n=>if x.name = n then some x.arity else getSy l n
abbrev SySorted (l:List ASym):Prop:=l.Pairwise fun a b=>a.name < b.name
theorem getSy_none {l:List ASym} {n:Str} (h:∀ x∈l,x.name ≠ n):getSy l n = none:=by
 induction l with
 | nil=>rfl
 | cons x l ih=>simp only [getSy];rw [if_neg (h x (by simp))];exact ih fun y hy=>h y (by simp [hy])
theorem getSy_at {n:Str}:∀ {l:List ASym},SySorted l→getSy l n = if syAt l n < l.length∧(l.getD (syAt l n) default).name = n then some (l.getD (syAt l n) default).arity else none
 | [],_=>by simp [getSy]
 | x :: l,hs=>by
  obtain ⟨h1,h2⟩:=List.pairwise_cons.1 hs
  have ih:=getSy_at (n:=n) h2
  by_cases hx:x.name < n
  ·have e:syAt (x :: l) n = syAt l n+1:=by simp [syAt,lbg,hx]
   simp only [getSy,e]
   rw [if_neg (fun e2:x.name = n=>slt_irrefl n (by rw [e2] at hx;exact hx)),ih]
   simp
  ·have e:syAt (x :: l) n = 0:=by simp only [syAt,lbg];rw [if_neg (by simpa using hx)]
   simp only [getSy,e]
   by_cases he:x.name = n
   ·simp [he]
   ·rw [if_neg he]
    simp only [List.length_cons,Nat.zero_lt_succ,true_and,List.getD_cons_zero,he,if_false]
    refine getSy_none fun y hy e=>?_
    have:=h1 y hy
    rw [e] at this
    exact hx this
def insR (n:Str) (k:Int):List ASym→List ASym
 | []=>[⟨n,k⟩]
 | x :: l=>if x.name < n then x :: insR n k l else ⟨n,k⟩ :: x :: l
theorem insR_eq (n:Str) (k:Int):∀ l:List ASym,l.take (syAt l n)++⟨n,k⟩ :: l.drop (syAt l n) = insR n k l
 | []=>rfl
 | x :: l=>by
  have ih:=insR_eq n k l
  by_cases hx:x.name < n
  ·have e:syAt (x :: l) n = syAt l n+1:=by simp [syAt,lbg,hx]
   simp only [insR]
   rw [if_pos hx,e,List.take_succ_cons,List.drop_succ_cons,List.cons_append,ih]
  ·have e:syAt (x :: l) n = 0:=by simp only [syAt,lbg];rw [if_neg (by simpa using hx)]
   simp only [insR]
   rw [if_neg hx,e];rfl
theorem mem_insR {n:Str} {k:Int} {x:ASym}:∀ {l:List ASym},x∈insR n k l ↔ x = ⟨n,k⟩ ∨ x∈l
 | []=>by simp [insR]
 | y :: l=>by
  simp only [insR]
  split
  ·simp only [List.mem_cons,mem_insR (l:=l)]
   constructor
   ·rintro (h | h | h)
    ·exact .inr (.inl h)
    ·exact .inl h
    ·exact .inr (.inr h)
   ·rintro (h | h | h)
    ·exact .inr (.inl h)
    ·exact .inl h
    ·exact .inr (.inr h)
  ·simp
theorem insR_sorted {n:Str} {k:Int}:∀ {l:List ASym},SySorted l→(∀ x∈l,x.name ≠ n)→SySorted (insR n k l)
 | [],_,_=>by simp [insR,SySorted]
 | x :: l,hs,hn=>by
  obtain ⟨h1,h2⟩:=List.pairwise_cons.1 hs
  simp only [insR]
  split
  ·rename_i hx
   refine List.pairwise_cons.2 ⟨fun y hy=>?_,insR_sorted h2 fun y hy=>hn y (by simp [hy])⟩
   rcases mem_insR.1 hy with rfl | h
   ·exact hx
   ·exact h1 y h
  ·rename_i hx
   have hlt:n < x.name:=by
    rcases Classical.em (n < x.name) with h | h
    ·exact h
    ·exact absurd (slt_eq hx h) (hn x (by simp))
   refine List.pairwise_cons.2 ⟨fun y hy=>?_,hs⟩
   rcases List.mem_cons.1 hy with rfl | h
   ·exact hlt
   ·exact slt_trans hlt (h1 y h)
theorem getSy_insR {n v:Str} {k:Int}:∀ {l:List ASym},(∀ x∈l,x.name ≠ n)→getSy (insR n k l) v = if n = v then some k else getSy l v
 | [],_=>by simp [insR,getSy]
 | x :: l,hn=>by
  simp only [insR]
  split
  ·simp only [getSy]
   rw [getSy_insR fun y hy=>hn y (by simp [hy])]
   by_cases h:x.name = v
   ·rw [if_pos h,if_pos h,if_neg (fun e=>hn x (by simp) (h.trans e.symm))]
   ·rw [if_neg h,if_neg h]
  ·simp only [getSy]
theorem getSy_some {l:List ASym} {n:Str} {x:ASym} (hx:x∈l) (hn:x.name = n):getSy l n ≠ none:=by
 induction l with
 | nil=>cases hx
 | cons y l ih =>
  simp only [getSy]
  split
  ·simp
  ·rename_i h
   rcases List.mem_cons.1 hx with rfl | hx
   ·exact absurd hn h
   ·exact ih hx
def mk (m:Ars):Bool:=m.any fun p=>marked p.1
def Rel (l:List ASym) (m:Ars):Prop:=SySorted l∧(∀ n,getSy l n = (getA m n).map fun k:Nat=>(k:Int))∧mk m = false
theorem mk_getA {m:Ars} {n:Str} {k:Nat} (h:getA m n = some k) (hm:mk m = false):marked n = false:=by
 induction m with
 | nil=>cases h
 | cons p m ih =>
  simp only [mk,List.any_cons,Bool.or_eq_false_iff] at hm
  simp only [getA] at h
  split at h
  ·rename_i e;rw [← e];exact hm.1
  ·exact ih h hm.2
theorem arStep_mk {m m':Ars} {u:Term} (h:arStep m u = some m') (hm:mk m = true):mk m' = true:=by
 unfold arStep at h
 split at h
 ·cases h;exact hm
 ·split at h
  ·split at h
   ·cases h;exact hm
   ·cases h
  ·cases h
   simp only [mk,List.any_append,Bool.or_eq_true] at hm ⊢
   exact .inl hm
theorem arAll_mk:∀ (l:List (List Int × Term)) {m m':Ars},arAll m l = some m'→mk m = true→mk m' = true
 | [],m,m',h,hm=>by cases h;exact hm
 | x :: l,m,m',h,hm=>by
  simp only [arAll] at h
  cases hs:arStep m x.2 with
  | none=>rw [hs] at h;cases h
  | some m1 =>
   rw [hs,Option.bind_some] at h
   exact arAll_mk l h (arStep_mk hs hm)
def Says (o:Option Ars) (s:List ASym × Bool):Prop:=match o with
 | none=>s.2 = false
 | some m=>if mk m then s.2 = false else s.2 = true∧Rel s.1 m
theorem insSy_eq (l:List ASym) (n:Str) (k:Int) (hs:SySorted l):insSy l n k = if getSy l n = none then insR n k l else l:=by
 unfold insSy
 rw [getSy_at hs,insR_eq]
 split
 ·simp
 ·simp
theorem sy_new {l:List ASym} {n:Str} {k:Int}:(l.take (syAt l n)++⟨n,k⟩ :: l.drop (syAt l n)).getD (syAt l n) default = ⟨n,k⟩:=by
 have hle:syAt l n≤l.length:=lbg_le (fun x:ASym=>decide (x.name < n)) l
 rw [List.getD_eq_getElem?_getD,List.getElem?_append_right (by simp;omega),List.length_take,Nat.min_eq_left hle]
 simp
mutual
theorem says_T:∀ (t:Term) (p:List Int) (l:List ASym) (m:Ars),Rel l m→formed t = true→Says (arAll m (visit t p)) (symT l t)
 | .mk n b ar,p,l,m,hR,hf=>by
  have ht:=formed_eq (.mk n b ar)
  rw [hf] at ht
  simp only [Term.var,Term.args,Term.name] at ht
  simp only [visit_eq,arAll,symT,Term.args]
  cases b with
  | true =>
   simp only [if_true] at ht
   have har:ar = []:=by
    have:=ht.symm
    simp only [Bool.and_eq_true,decide_eq_true_eq] at this
    exact List.length_eq_zero_iff.1 (of_decide_eq_true this.1)
   subst har
   simp only [arStep,Term.var,if_true,visits,arAll,Option.bind_some,Says,hR.2.2,Bool.false_eq_true,if_false]
   exact ⟨trivial,hR⟩
  | false =>
   have hfs:formeds ar = true:=by
    rw [formeds_all]
    have:=ht.symm
    simp only [Bool.false_eq_true,if_false,Bool.and_eq_true] at this
    exact this.2.2
   simp only [Bool.false_eq_true,if_false]
   by_cases hmk:marked n = true
   ·rw [if_pos hmk]
    have hg:getA m n = none:=by
     cases hg:getA m n with
     | none=>rfl
     | some k=>rw [mk_getA hg hR.2.2] at hmk;cases hmk
    have hst:arStep m (.mk n false ar) = some (m++[(n,ar.length)]):=by simp [arStep,Term.var,Term.name,Term.args,hg]
    rw [hst,Option.bind_some]
    have hm1:mk (m++[(n,ar.length)]) = true:=by simp [mk,hmk]
    cases hr:arAll (m++[(n,ar.length)]) (visits ar p 0) with
    | none=>rfl
    | some m'=>simp only [Says,arAll_mk _ hr hm1,if_true]
   ·rw [if_neg hmk]
    have hg2:=hR.2.1 n
    have hat:=getSy_at (n:=n) hR.1
    cases hg:getA m n with
    | some k =>
     rw [hg] at hg2
     have hne:¬ getSy l n = none:=by rw [hg2];simp
     have hins:insSy l n ar.length = l:=by rw [insSy_eq _ _ _ hR.1,if_neg hne]
     have har:(l.getD (syAt l n) default).arity = k:=by
      rw [hg2] at hat
      split at hat
      ·simpa using hat.symm
      ·cases hat
     rw [hins,har]
     by_cases hk:k = ar.length
     ·have hst:arStep m (.mk n false ar) = some m:=by simp [arStep,Term.var,Term.name,Term.args,hg,hk]
      rw [hst,Option.bind_some,if_neg (by simp [hk])]
      exact says_Ts ar p 0 l m hR hfs
     ·have hst:arStep m (.mk n false ar) = none:=by simp [arStep,Term.var,Term.name,Term.args,hg,hk]
      rw [hst,if_pos (by simp;omega)]
      rfl
    | none =>
     rw [hg] at hg2
     have hg2':getSy l n = none:=hg2
     have hnm:∀ x∈l,x.name ≠ n:=fun x hx e=>getSy_some hx e hg2'
     have hst:arStep m (.mk n false ar) = some (m++[(n,ar.length)]):=by simp [arStep,Term.var,Term.name,Term.args,hg]
     have hins:insSy l n ar.length = insR n ar.length l:=by rw [insSy_eq _ _ _ hR.1,if_pos hg2']
     have hnew:((insR n ar.length l).getD (syAt l n) default).arity = ar.length:=by rw [← insR_eq,sy_new]
     rw [hst,Option.bind_some,hins,hnew,if_neg (by simp)]
     refine says_Ts ar p 0 _ _ ⟨insR_sorted hR.1 hnm,fun v=>?_,?_⟩ hfs
     ·rw [getSy_insR hnm,getA_append,hR.2.1 v]
      by_cases e:n = v
      ·subst e;rw [if_pos rfl,if_pos rfl,hg];rfl
      ·rw [if_neg e,if_neg e];cases getA m v <;> rfl
     ·have:=hR.2.2
      simp only [mk] at this ⊢
      rw [List.any_append,this]
      simpa using hmk
theorem says_Ts:∀ (ar:List Term) (p:List Int) (i:Nat) (l:List ASym) (m:Ars),Rel l m→formeds ar = true→Says (arAll m (visits ar p i)) (symTs l ar)
 | [],p,i,l,m,hR,_=>by
  simp only [visits,arAll,symTs,Says,hR.2.2,Bool.false_eq_true,if_false]
  exact ⟨trivial,hR⟩
 | a :: ar,p,i,l,m,hR,hf=>by
  simp only [formeds,Bool.and_eq_true] at hf
  have h1:=says_T a (p++[(i:Int)]) l m hR hf.1
  simp only [visits,arAll_append,symTs]
  cases hr:arAll m (visit a (p++[(i:Int)])) with
  | none =>
   rw [hr] at h1
   rw [if_neg (by rw [show (symT l a).2 = false from h1];simp)]
   rfl
  | some m1 =>
   rw [hr] at h1
   rw [Option.bind_some]
   simp only [Says] at h1
   by_cases hm1:mk m1 = true
   ·rw [if_pos hm1] at h1
    rw [if_neg (by rw [h1];simp)]
    cases hr2:arAll m1 (visits ar p (i+1)) with
    | none=>rfl
    | some m'=>simp only [Says,arAll_mk _ hr2 hm1,if_true]
   ·rw [if_neg hm1] at h1
    rw [if_pos h1.1]
    exact says_Ts ar p (i+1) _ _ h1.2 hf.2
end
theorem says_Rs:∀ (r:List ARule) (l:List ASym) (m:Ars),Rel l m→(∀ x∈r,formed x.left = true∧formed x.right = true)→match arRules m r with
  | none=>(symRs l r).2 = false
  | some m=>(symRs l r).2 = !mk m
 | [],l,m,hR,_=>by simp only [arRules,symRs,hR.2.2];rfl
 | x :: r,l,m,hR,hf=>by
  obtain ⟨hf1,hf2⟩:=hf x (by simp)
  have h1:=says_T x.left [] l m hR hf1
  have mono:∀ (r:List ARule) {m m':Ars},arRules m r = some m'→mk m = true→mk m' = true:=by
   intro r
   induction r with
   | nil=>intro m m' h hm;cases h;exact hm
   | cons y r ih =>
    intro m m' h hm
    simp only [arRules] at h
    cases ha:arAll m (visit y.left []) with
    | none=>rw [ha] at h;cases h
    | some m1 =>
     rw [ha,Option.bind_some] at h
     cases hb:arAll m1 (visit y.right []) with
     | none=>rw [hb] at h;cases h
     | some m2 =>
      rw [hb,Option.bind_some] at h
      exact ih h (arAll_mk _ hb (arAll_mk _ ha hm))
  simp only [arRules,symRs]
  cases ha:arAll m (visit x.left []) with
  | none =>
   rw [ha] at h1
   have:(symT l x.left).2 = false:=h1
   simp [this]
  | some m1 =>
   rw [ha] at h1
   simp only [Says] at h1
   rw [Option.bind_some]
   by_cases hm1:mk m1 = true
   ·rw [if_pos hm1] at h1
    rw [if_neg (by rw [h1];simp)]
    cases hr:(arAll m1 (visit x.right [])).bind fun m2=>arRules m2 r with
    | none=>rfl
    | some m' =>
     have:mk m' = true:=by
      cases hb:arAll m1 (visit x.right []) with
      | none=>rw [hb] at hr;cases hr
      | some m2=>rw [hb,Option.bind_some] at hr;exact mono r hr (arAll_mk _ hb hm1)
     simp [this]
   ·rw [if_neg hm1] at h1
    rw [if_pos h1.1]
    have h2:=says_T x.right [] _ m1 h1.2 hf2
    cases hb:arAll m1 (visit x.right []) with
    | none =>
     rw [hb] at h2
     have:(symT (symT l x.left).1 x.right).2 = false:=h2
     simp [this]
    | some m2 =>
     rw [hb] at h2
     simp only [Says] at h2
     rw [Option.bind_some]
     by_cases hm2:mk m2 = true
     ·rw [if_pos hm2] at h2
      rw [if_neg (by rw [h2];simp)]
      cases hr:arRules m2 r with
      | none=>rfl
      | some m'=>simp [mono r hr hm2]
     ·rw [if_neg hm2] at h2
      rw [if_pos h2.1]
      exact says_Rs r _ _ h2.2 fun y hy=>hf y (by simp [hy])
theorem check_formed {t:Term} (h:check t = 0):formed t = true:=by
 unfold check at h
 split at h
 ·assumption
 ·omega
theorem checkPairs_formed:∀ {r:List ARule},checkPairs r = 0→∀ x∈r,check x.left = 0∧check x.right = 0
 | [],_,x,hx=>by cases hx
 | y :: r,h,x,hx=>by
  simp only [checkPairs] at h
  split at h
  ·omega
  ·rename_i h1
   rcases List.mem_cons.1 hx with rfl | hx
   ·simp only [checks,ne_eq,Classical.not_not] at h1
    split at h1
    ·omega
    ·rename_i h2
     split at h1
     ·omega
     ·rename_i h3
      exact ⟨by simpa using h2,by simpa using h3⟩
   ·exact checkPairs_formed h x hx
theorem checkRules_formed {r:List ARule} (h:checkRules r = 0):∀ x∈r,check x.left = 0∧check x.right = 0:=by
 unfold checkRules at h
 split at h
 ·omega
 ·exact checkPairs_formed h
theorem checkSystemR_eq (r:List ARule):checkSystemR r = checkSystem r:=by
 unfold checkSystemR checkSystem
 by_cases h1:checkRules r = 0
 ·rw [h1,if_neg (show ¬ ((0:Int) ≠ 0) by simp),if_neg (show ¬ ((0:Int) ≠ 0) by simp)]
  have hf:=checkRules_formed h1
  have:=says_Rs r [] [] ⟨by simp [SySorted],fun n=>rfl,rfl⟩ fun x hx=>⟨check_formed (hf x hx).1,check_formed (hf x hx).2⟩
  rw [show r.any extra = r.any extraR from by congr 1;funext x;exact extra_eq x]
  cases ha:arRules [] r with
  | none=>rw [ha] at this;simp only at this;simp [this]
  | some m =>
   rw [ha] at this
   simp only at this
   rw [this]
   by_cases hk:(m.any fun p=>marked p.1) = true
   ·simp [mk,hk]
   ·simp [mk,hk]
 ·rw [if_pos (by simpa using h1),if_pos (by simpa using h1)]
theorem r01_CheckSystem_s (r:List ARule) (hs:rbs r < 2^38):PF n_r01_CheckSystem [encRs r] (.int .i64 (checkSystem r)):=checkSystemR_eq r ▸ r01_CheckSystem_sR r hs
end Go.Dw
end
section
namespace Go.Dw
mutual
def allM (f:AMulti→Bool):AMulti→Bool
 | .mk k n v l=>f (.mk k n v l) && allMs f l
def allMs (f:AMulti→Bool):List AMulti→Bool
 | []=>true
 | a :: l=>allM f a && allMs f l
end
theorem allMs_all (f:AMulti→Bool) (l:List AMulti):allMs f l = l.all (allM f):=by induction l with | nil=>rfl | cons a l ih=>simp [allMs,ih]
theorem allM_eq (f:AMulti→Bool) (m:AMulti):allM f m = (f m && m.args.all (allM f)):=by cases m;simp only [allM,allMs_all,AMulti.args]
theorem allM_arg {f:AMulti→Bool} {m a:AMulti} (h:allM f m = true) (ha:a∈m.args):allM f a = true:=by
 rw [allM_eq,Bool.and_eq_true] at h
 exact List.all_eq_true.1 h.2 a ha
theorem allM_self {f:AMulti→Bool} {m:AMulti} (h:allM f m = true):f m = true:=by
 rw [allM_eq,Bool.and_eq_true] at h;exact h.1
def rangedM (n:Nat) (m:AMulti):Bool:=decide (0≤m.rule) && decide (m.rule≤n)
def ruleOf (r:List ARule) (m:AMulti):ARule:=r.getD (m.rule - 1).toNat default
def formedM (r:List ARule) (m:AMulti):Bool :=
 if 0 < m.rule then decide (m.name = []) && (!m.var && decide (m.args.length = (varsOf [(ruleOf r m).left]).length))
 else if m.var then decide (m.args.length = 0) && isName m.name false
 else decide (m.args.length≤8) && isName m.name true
def checkM (r:List ARule) (m:AMulti):Int :=
 if checkSystem r ≠ 0 then checkSystem r else if allM (rangedM r.length) m = false then 8 else if allM (formedM r) m = false then 4 else if 4000 < msize m ∨ 200 < mdepth m then 3 else 0
mutual
def countM:AMulti→Nat
 | .mk k _ _ l=>(if k = 0 then 0 else 1)+countMs l
def countMs:List AMulti→Nat
 | []=>0
 | a :: l=>countM a+countMs l
end
theorem countM_eq (m:AMulti):countM m = (if m.rule = 0 then 0 else 1)+countMs m.args:=by cases m;rfl
theorem countMs_append (a b:List AMulti):countMs (a++b) = countMs a+countMs b:=by
 induction a with
 | nil=>simp [countMs]
 | cons x xs ih=>simp [countMs,ih];omega
theorem countMs_take_succ (l:List AMulti) (k:Nat) (h:k < l.length):countMs (l.take (k+1)) = countMs (l.take k)+countM (l.getD k default):=by
 rw [take_succ_getD h,countMs_append];simp [countMs]
theorem countMs_take_le (l:List AMulti) (k:Nat):countMs (l.take k)≤countMs l:=by
 conv=>rhs;rw [← List.take_append_drop k l]
 rw [countMs_append];omega
mutual
theorem countM_le:∀ m,countM m≤msize m
 | .mk k n v l=>by simp only [countM,msize];have:=countMs_le l;split <;> omega
theorem countMs_le:∀ l,countMs l≤msizes l
 | []=>Nat.le_refl _
 | a :: l=>by simp only [countMs,msizes];have:=countM_le a;have:=countMs_le l;omega
end
mutual
def sizeP:AMulti→Nat
 | .mk _ _ _ l=>sizePs 1 l
def sizePs (n:Nat):List AMulti→Nat
 | []=>n
 | a :: l=>if 4000 < n+sizeP a then n+sizeP a else sizePs (n+sizeP a) l
end
theorem sizeP_args (m:AMulti):sizeP m = sizePs 1 m.args:=by cases m;simp [sizeP,AMulti.args]
mutual
theorem sizeP_le:∀ m,sizeP m≤msize m
 | .mk _ _ _ l=>by simp only [sizeP,msize];have:=sizePs_le l 1;omega
theorem sizePs_le:∀ (l:List AMulti) (n:Nat),sizePs n l≤n+msizes l
 | [],n=>by simp [sizePs,msizes]
 | a :: l,n=>by
  simp only [sizePs,msizes]
  have h1:=sizeP_le a
  have h2:=sizePs_le l (n+sizeP a)
  split <;> omega
end
mutual
theorem sizeP_eq:∀ m,sizeP m≤4000→sizeP m = msize m
 | .mk _ _ _ l=>by simp only [sizeP,msize];exact fun h=>sizePs_eq l 1 h
theorem sizePs_eq:∀ (l:List AMulti) (n:Nat),sizePs n l≤4000→sizePs n l = n+msizes l
 | [],n=>by simp [sizePs,msizes]
 | a :: l,n=>by
  simp only [sizePs,msizes]
  intro h
  split at h
  ·omega
  ·rename_i hc
   rw [if_neg hc]
   have:=sizeP_eq a (by omega)
   rw [sizePs_eq l _ h];omega
end
theorem sizeP_gt (m:AMulti):4000 < sizeP m ↔ 4000 < msize m:=by
 constructor
 ·intro h;have:=sizeP_le m;omega
 ·intro h
  by_cases hc:sizeP m≤4000
  ·rw [sizeP_eq m hc] at hc;omega
  ·omega
mutual
def plainM:Term→AMulti
 | .mk n v l=>.mk 0 n v (plainMs l)
def plainMs:List Term→List AMulti
 | []=>[]
 | a :: l=>plainM a :: plainMs l
end
def ixS (v:Str) (l:List Str):Nat:=(idxI (fun x=>decide (v = x)) l).toNat
theorem idxI_ix {v:Str}:∀ {l:List Str},v∈l→idxI (fun x=>decide (v = x)) l = ixS v l∧ixS v l < l.length∧l.getD (ixS v l) default = v
 | [],h=>by cases h
 | x :: l,h=>by
  unfold ixS
  simp only [idxI]
  by_cases he:v = x
  ·subst he;simp
  ·have hm:v∈l:=(List.mem_cons.1 h).resolve_left he
   obtain ⟨h1,h2,h3⟩:=idxI_ix hm
   have hd:decide (v = x) = false:=by simpa using he
   simp only [hd,Bool.false_eq_true,if_false]
   rw [h1]
   have hn:¬ ((ixS v l:Nat):Int) < 0:=by omega
   have h4:(((ixS v l:Nat):Int)+1).toNat = ixS v l+1:=by omega
   simp only [hn,if_false,h4,List.length_cons]
   refine ⟨by omega,by omega,?_⟩
   simpa [List.getD_eq_getElem?_getD] using h3
mutual
def plugT (vars:List Str) (x:List Term):Term→Term
 | .mk n v l=>if v then x.getD (ixS n vars) default else .mk n false (plugTs vars x l)
def plugTs (vars:List Str) (x:List Term):List Term→List Term
 | []=>[]
 | a :: l=>plugT vars x a :: plugTs vars x l
end
theorem plugTs_map (vars:List Str) (x:List Term) (l:List Term):plugTs vars x l = l.map (plugT vars x):=by induction l with | nil=>rfl | cons a l ih=>simp [plugTs,ih]
theorem plugT_eq (vars:List Str) (x:List Term) (t:Term):plugT vars x t = if t.var then x.getD (ixS t.name vars) default else .mk t.name false (t.args.map (plugT vars x)):=by cases t;simp only [plugT,plugTs_map,Term.name,Term.var,Term.args];rfl
mutual
def sideM (r:List ARule) (f:ARule→Term):AMulti→Term
 | .mk k n v l=>if k = 0 then .mk n v (sideMs r f l) else plugT (varsOf [(r.getD (k - 1).toNat default).left]) (sideMs r f l) (f (r.getD (k - 1).toNat default))
def sideMs (r:List ARule) (f:ARule→Term):List AMulti→List Term
 | []=>[]
 | a :: l=>sideM r f a :: sideMs r f l
end
theorem sideMs_map (r:List ARule) (f:ARule→Term) (l:List AMulti):sideMs r f l = l.map (sideM r f):=by induction l with | nil=>rfl | cons a l ih=>simp [sideMs,ih]
theorem sideM_eq (r:List ARule) (f:ARule→Term) (m:AMulti):sideM r f m = if m.rule = 0 then .mk m.name m.var (m.args.map (sideM r f)) else plugT (varsOf [(ruleOf r m).left]) (m.args.map (sideM r f)) (f (ruleOf r m)):=by cases m;simp only [sideM,sideMs_map,AMulti.rule,AMulti.name,AMulti.var,AMulti.args,ruleOf];rfl
def endM (r:List ARule) (f:ARule→Term) (m:AMulti):Option Term × Int :=
 if checkM r m ≠ 0 then (none,checkM r m) else if fits (sideM r f m) then (some (sideM r f m),0) else (none,3)
structure OkM (r:List ARule) (m:AMulti):Prop where
 rg:allM (rangedM r.length) m = true
 fm:allM (formedM r) m = true
theorem OkM.arg {r:List ARule} {m a:AMulti} (h:OkM r m) (ha:a∈m.args):OkM r a:=⟨allM_arg h.rg ha,allM_arg h.fm ha⟩
theorem checkM_ok {r:List ARule} {m:AMulti} (h:checkM r m = 0):checkSystem r = 0∧OkM r m∧msize m≤4000∧mdepth m≤200:=by
 unfold checkM at h
 split at h
 ·rename_i hc;exact absurd h hc
 ·rename_i h1
  split at h
  ·cases h
  ·rename_i h2
   split at h
   ·cases h
   ·rename_i h3
    split at h
    ·cases h
    ·exact ⟨Classical.not_not.1 h1,⟨by simpa using h2,by simpa using h3⟩,by omega,by omega⟩
theorem checkM_iff {r:List ARule} {m:AMulti}:checkM r m = 0 ↔ checkSystem r = 0∧OkM r m∧msize m≤4000∧mdepth m≤200:=by
 refine ⟨checkM_ok,fun ⟨h1,h2,h3,h4⟩=>?_⟩
 unfold checkM
 rw [if_neg (by simpa using h1),if_neg (by simp [h2.rg]),if_neg (by simp [h2.fm]),if_neg (by omega)]
theorem OkM.rule {r:List ARule} {m:AMulti} (h:OkM r m) (hr:m.rule ≠ 0):0 < m.rule∧m.rule≤r.length∧ruleOf r m∈r∧m.args.length = (varsOf [(ruleOf r m).left]).length∧m.name = []∧m.var = false:=by
 have h1:=allM_self h.rg
 have h2:=allM_self h.fm
 unfold rangedM at h1
 rw [Bool.and_eq_true,decide_eq_true_eq,decide_eq_true_eq] at h1
 unfold formedM at h2
 rw [if_pos (by omega),Bool.and_eq_true,Bool.and_eq_true,decide_eq_true_eq,decide_eq_true_eq] at h2
 exact ⟨by omega,h1.2,getD_mem (by omega),h2.2.2,h2.1,by simpa using h2.2.1⟩
end Go.Dw
end
section
namespace Go.Dw
theorem slices_IndexFunc_s_Multi_Multi_s {p:AMulti→Bool} {g:Nat} {caps:List V} (hc:∀ σ,rens σ caps = caps) (l:List AMulti) (hl:l.length < 2^62) (h:∀ a∈l,PF g (encM a :: caps) (.bool (p a))) :
  PF n_slices_IndexFunc_s_Multi_Multi [encL cM 4 l,.fn (.func g) [] caps] (.int .i64 (idxI p l)):=by
 refine pf_of slices_IndexFunc_s_Multi_Multi.ok rfl ?_
 push_cast [hc]
 refine loop_up (n:=l.length) (R:=fun k=>(∀ j,j < k→p (l.getD j default) = false)→slices_IndexFunc_s_Multi_Multi.L3 (encL cM 4 l) (.fn (.func g) [] caps) (.int .i64 l.length) (.int .i64 k) 0 [] _) ?_ ?_ 0 (by omega) (by intro j hj;omega)
 ·intro k hk ih hq
  refine slices_IndexFunc_s_Multi_Multi.G3 ?_
  push_cast [ilt hk,cU8_0,cS_0,hc]
  refine .of (h _ (getD_mem hk)) ?_
  push_cast [w64 (show k < 2^62 by omega),hc]
  refine ⟨fun hp=>pf_ret ?_,fun hp=>?_⟩
  ·push_cast [slices_IndexFunc_s_Multi_Multi.rs]
   rw [idxI_some hk hp hq]
  ·exact ih fun j hj=>by rcases Nat.lt_succ_iff_lt_or_eq.1 hj with h | rfl;exact hq j h;exact hp
 ·intro hq
  refine slices_IndexFunc_s_Multi_Multi.G3 ?_
  push_cast [inlt (Nat.le_refl _)]
  refine pf_ret ?_
  push_cast [slices_IndexFunc_s_Multi_Multi.rs]
  rw [idxI_none hq]
theorem slices_ContainsFunc_s_Multi_Multi_s {p:AMulti→Bool} {g:Nat} {caps:List V} (hc:∀ σ,rens σ caps = caps) (l:List AMulti) (hl:l.length < 2^62) (h:∀ a∈l,PF g (encM a :: caps) (.bool (p a))) :
  PF n_slices_ContainsFunc_s_Multi_Multi [encL cM 4 l,.fn (.func g) [] caps] (.bool (l.any p)):=by
 refine pf_of slices_ContainsFunc_s_Multi_Multi.ok rfl ?_
 push_cast [hc]
 refine .of (slices_IndexFunc_s_Multi_Multi_s hc l hl h) ?_
 push_cast [hc]
 refine pf_ret ?_
 push_cast [slices_ContainsFunc_s_Multi_Multi.rs,idxI_any]
end Go.Dw
end
section
namespace Go.Dw
theorem put3_cM (m:AMulti) (v:V):put 3 [v] (cM m) = [.int .i64 m.rule,.str m.name,.bool m.var,v]:=by rw [cM_eq];rfl
attribute [push_cast] put3_cM
theorem multi_size_s (m:AMulti) (hs:msize m < 2^40):PF n_multi_size [encM m] (.int .i64 (sizeP m)):=by
 induction m using multi_ind with
 | h m ih =>
 refine pf_of multi_size.ok rfl ?_
 have hst:=msize_args m
 have hl:=length_le_msizes m.args
 rw [sizeP_args]
 push_cast
 refine loop_up (n:=m.args.length) (R:=fun k=>∀ v:Nat,sizePs v (m.args.drop k) = sizePs 1 m.args→v≤1+msizes (m.args.take k)→multi_size.L3 (.int .i64 v) (encMs m.args) (.int .i64 m.args.length) (.int .i64 k) 0 [] (Ends 0 multi_size.rs fun x' H'=>x' = .int .i64 (sizePs 1 m.args)∧H' = [])) ?_ ?_ 0 (Nat.zero_le _) 1 (by simp) (by omega)
 ·intro k hk ih2 v hv hb
  have h1:=msizes_take_succ _ _ hk
  have h2:=msizes_take_le m.args (k+1)
  have hm:=getD_mem hk
  have hsp:=sizeP_le (m.args.getD k default)
  have hih:=ih _ hm (by omega)
  rw [drop_getD hk] at hv
  simp only [sizePs] at hv
  generalize hx:m.args.getD k default = a at hm hv h1 hsp hih
  refine multi_size.G3 ?_
  push_cast [ilt hk,hx]
  refine .of hih ?_
  have hw:IntKind.i64.wrap ((v:Int)+(sizeP a:Int)) = ((v+sizeP a:Nat):Int):=by rw [wrap64 (by omega) (by omega)];omega
  by_cases hc:4000 < v+sizeP a
  ·rw [if_pos hc] at hv
   have hci:((4000:Int) < ((v+sizeP a:Nat):Int)) = True:=eq_true (by omega)
   rw [hv] at hw hci
   generalize sizePs 1 m.args = w at hw hci
   push_cast [hw,hci]
   exact pf_ret (by push_cast [multi_size.rs])
  ·rw [if_neg hc] at hv
   have hci:((4000:Int) < ((v+sizeP a:Nat):Int)) = False:=eq_false (by omega)
   have:=ih2 (v+sizeP a) hv (by omega)
   generalize v+sizeP a = w at hw hci this
   push_cast [hw,hci,w64 (show k < 2^62 by omega)]
   exact this
 ·intro v hv hb
  rw [drop_map_none] at hv
  refine multi_size.G3 ?_
  push_cast [inlt (Nat.le_refl _)]
  refine pf_ret ?_
  push_cast [multi_size.rs,← hv]
  rfl
theorem multi_depth_s (m:AMulti) (hs:msize m < 2^40):PF n_multi_depth [encM m] (.int .i64 (mdepth m)):=by
 induction m using multi_ind with
 | h m ih =>
 refine pf_of multi_depth.ok rfl ?_
 have hst:=msize_args m
 have hl:=length_le_msizes m.args
 have hd:=mdepths_le_msizes m.args
 push_cast
 refine loop_up (n:=m.args.length) (R:=fun k=>multi_depth.L3 (.int .i64 (mdepths (m.args.take k):Nat)) (encMs m.args) (.int .i64 m.args.length) (.int .i64 k) 0 [] _) ?_ ?_ 0 (by omega)
 ·intro k hk ih2
  have h1:=mdepths_take_succ _ _ hk
  have hm:=getD_mem hk
  have:=msize_mem hm
  refine multi_depth.G3 ?_
  push_cast [ilt hk]
  refine .of (ih _ hm (by omega)) ?_
  push_cast [w64 (show k < 2^62 by omega)]
  rw [h1] at ih2
  exact ih2
 ·refine multi_depth.G3 ?_
  push_cast [inlt (Nat.le_refl _),List.take_length]
  rw [wrap64 (by omega) (by omega)]
  refine pf_ret ?_
  push_cast [multi_depth.rs,List.take_length,mdepth_args m]
theorem multi_Count_s (m:AMulti) (hs:msize m < 2^40):PF n_multi_Count [encM m] (.int .i64 (countM m)):=by
 induction m using multi_ind with
 | h m ih =>
 refine pf_of multi_Count.ok rfl ?_
 have hst:=msize_args m
 have hl:=length_le_msizes m.args
 have hcl:=countMs_le m.args
 rw [countM_eq]
 generalize hc:(if m.rule = 0 then 0 else 1:Nat) = c
 have hc1:c≤1:=by subst hc;split <;> omega
 have h0:=loop_up (n:=m.args.length) (R:=fun k=>multi_Count.L3 (.int .i64 ((c+countMs (m.args.take k):Nat):Int)) (encMs m.args) (.int .i64 m.args.length) (.int .i64 k) 0 [] (Ends 0 multi_Count.rs fun x' H'=>x' = .int .i64 ((c+countMs m.args:Nat):Int)∧H' = [])) ?_ ?_ 0 (by omega)
 ·simp only [List.take_zero,countMs,Nat.add_zero] at h0
  by_cases hr:m.rule = 0
  ·rw [if_pos hr] at hc
   subst hc
   push_cast [hr]
   push_cast at h0
   exact h0
  ·rw [if_neg hr] at hc
   subst hc
   push_cast [eq_false hr]
   push_cast at h0
   exact h0
 ·intro k hk ih2
  have h1:=countMs_take_succ _ _ hk
  have h2:=countMs_take_le m.args (k+1)
  have hm:=getD_mem hk
  have:=msize_mem hm
  refine multi_Count.G3 ?_
  push_cast [ilt hk]
  refine .of (ih _ hm (by omega)) ?_
  push_cast [w64 (show k < 2^62 by omega)]
  rw [wrap64 (by omega) (by omega)]
  rw [h1] at ih2
  push_cast at ih2
  simpa [Int.add_assoc] using ih2
 ·refine multi_Count.G3 ?_
  push_cast [inlt (Nat.le_refl _),List.take_length]
  exact pf_ret (by push_cast [multi_Count.rs])
theorem multi_own_s (m:AMulti) (hs:msize m < 2^40):PF n_multi_own [encM m] (encM m):=by
 induction m using multi_ind with
 | h m ih =>
 refine pf_of multi_own.ok rfl ?_
 have hst:=msize_args m
 have hl:=length_le_msizes m.args
 push_cast
 refine loop_up (n:=m.args.length) (R:=fun k=>multi_own.L3 (.ptr 0 0) (.ptr 1 0) (encMs m.args) (.int .i64 m.args.length) (.int .i64 k) 0
  [.cells t_Multi [.int .i64 m.rule,.str m.name,.bool m.var,ownL cM 2 4 (m.args.take k)],.cells t_Multi [.int .i64 0,.str [],.bool false,.sl 4 []],.arr t_Multi 4 k] _) ?_ ?_ 0 (by omega)
 ·intro k hk ih2
  have hm:=getD_mem hk
  have:=msize_mem hm
  have hlt:(m.args.take k).length = k:=by simp;omega
  rw [take_succ_getD hk] at ih2
  refine multi_own.G3 ?_
  push_cast [ilt hk]
  refine .of (ih _ hm (by omega)) ?_
  push_cast [hlt,w64 (show k < 2^62 by omega)]
  refine ⟨by unfold maxEls;omega,?_⟩
  exact ih2
 ·refine multi_own.G3 ?_
  push_cast [inlt (Nat.le_refl _)]
  refine pf_ret ?_
  push_cast [multi_own.rs,List.take_length,cM_mk]
  rw [AMulti.eta]
def zM:AMulti:=.mk 0 [] false []
def encME (r:Option AMulti) (e:Int):V:=match r with
 | some m=>.tup [encM m,.int .i64 e]
 | none=>.tup [encM zM,.int .i64 e]
def fitM (m:AMulti):Bool:=decide (msize m≤4000) && decide (mdepth m≤200)
def fitE (m:AMulti):V:=if fitM m then encME (some m) 0 else encME none 3
theorem encM_z:V.agg [.int .i64 0,.str [],.bool false,.sl 4 []] = encM zM:=rfl
theorem multi_Fit_s (m:AMulti) (hs:msize m < 2^40):PF n_multi_Fit [encM m] (fitE m):=by
 have hsz:=sizeP_gt m
 refine pf_of multi_Fit.ok rfl ?_
 push_cast
 refine .of (multi_size_s m hs) ?_
 unfold fitE fitM
 by_cases h1:4000 < sizeP m
 ·have hi:((4000:Int) < (sizeP m:Int)) = True:=eq_true (by omega)
  have h1':¬ msize m≤4000:=by omega
  push_cast [hi,h1']
  exact pf_ret (by push_cast [multi_Fit.rs,encM_z];rfl)
 ·have hi:((4000:Int) < (sizeP m:Int)) = False:=eq_false (by omega)
  have h1':msize m≤4000:=by omega
  push_cast [hi]
  refine .of (multi_depth_s m hs) ?_
  by_cases h2:200 < mdepth m
  ·have hj:((200:Int) < (mdepth m:Int)) = True:=eq_true (by omega)
   have h2':¬ mdepth m≤200:=by omega
   push_cast [hj,h2']
   exact pf_ret (by push_cast [multi_Fit.rs,encM_z];rfl)
  ·have hj:((200:Int) < (mdepth m:Int)) = False:=eq_false (by omega)
   have h2':mdepth m≤200:=by omega
   push_cast [hj]
   refine .of (multi_own_s m hs) ?_
   push_cast
   exact pf_ret (by push_cast [multi_Fit.rs];simp [h1',h2'];rfl)
theorem multi_all_s {p q:AMulti→Bool} {g:Nat} {caps:List V} {B:Nat} (hc:∀ σ,rens σ caps = caps) (h:∀ a,q a = true→mb a≤B→PF g (encM a :: caps) (.bool (p a))) (hB:B < 2^40) (m:AMulti) (hq:allM q m = true) (hm:mb m≤B) :
  PF n_multi_all [encM m,.fn (.func g) [] caps] (.bool (allM p m)):=by
 induction m using multi_ind with
 | h m ih =>
 have hmb:=mb_args m
 have hsz:=msize_le_mb m
 have hst:=msize_args m
 have hl:=length_le_msizes m.args
 have hC:=slices_ContainsFunc_s_Multi_Multi_s (p:=fun a=>!allM p a) (g:=n_multi_all_1) (caps:=[.ro [.fn (.func g) [] caps] 0]) (fun σ=>by push_cast) m.args (by omega) fun a ha=>by
  refine pf_of multi_all_1.ok rfl ?_
  push_cast [hc]
  refine .of (ih a ha (allM_arg hq ha) (by have:=mb_mem ha;omega)) ?_
  push_cast
  exact pf_ret (by push_cast [multi_all_1.rs])
 refine pf_of multi_all.ok rfl ?_
 rw [allM_eq]
 push_cast [hc]
 refine .of (h m (allM_self hq) hm) ?_
 cases hp:p m with
 | false =>
  push_cast [hc]
  exact pf_ret (by push_cast [multi_all.rs])
 | true =>
  push_cast [hc]
  refine .of hC ?_
  push_cast [hc]
  exact pf_ret (by push_cast [multi_all.rs,any_not])
end Go.Dw
end
section
namespace Go.Dw
theorem multi_formed_s (r:List ARule) (m:AMulti) (hr:rbs r < 2^38) (hq:rangedM r.length m = true) (hm:mb m < 2^40):PF n_multi_formed [encRs r,encM m] (.bool (formedM r m)):=by
 have hmb:=mb_args m
 have hsz:=msize_le_mb m
 have hst:=msize_args m
 have hl:=length_le_msizes m.args
 have hI:∀ b,PF n_term_IsName [.str m.name,.bool b] (.bool (isName m.name b)):=fun b=>term_IsName_s _ b (by omega)
 unfold rangedM at hq
 rw [Bool.and_eq_true,decide_eq_true_eq,decide_eq_true_eq] at hq
 refine pf_of multi_formed.ok rfl ?_
 unfold formedM
 by_cases h1:0 < m.rule
 ·have hm1:r.getD (m.rule - 1).toNat default∈r:=getD_mem (by omega)
  have hrm:=rbs_mem hm1
  have hst:=size_le_tb (ruleOf r m).left
  have hru:r.getD (m.rule - 1).toNat default = ruleOf r m:=rfl
  have hw:IntKind.i64.wrap (m.rule - 1) = m.rule - 1:=wrap64 (by have:=length_le_rbs r;omega) (by have:=length_le_rbs r;omega)
  have hc1:((0:Int)≤m.rule - 1) = True:=eq_true (by omega)
  have hc2:(m.rule - 1 < (r.length:Int)) = True:=eq_true (by omega)
  rw [hru] at hrm
  have hV:=term_VarsOf_s [(ruleOf r m).left] (by simp [sizes];omega)
  rw [if_pos h1]
  by_cases h2:m.name = []
  ·cases h3:m.var with
   | true =>
    push_cast [eq_true h1,h2,h3]
    exact pf_ret (by push_cast [multi_formed.rs])
   | false =>
    push_cast [eq_true h1,h2,h3,hw,hc1,hc2,hru]
    refine .of hV ?_
    push_cast
    exact pf_ret (by push_cast [multi_formed.rs];exact decide_eq_decide.2 (by omega))
  ·push_cast [eq_true h1,eq_false h2]
   exact pf_ret (by push_cast [multi_formed.rs])
 ·rw [if_neg h1]
  cases hv:m.var with
  | true =>
   rw [if_pos rfl]
   by_cases h0:m.args.length = 0
   ·push_cast [eq_false h1,hv,h0]
    refine .of (hI false) ?_
    push_cast
    exact pf_ret (by push_cast [multi_formed.rs])
   ·have hi:((m.args.length:Int) = 0) = False:=eq_false (by omega)
    push_cast [eq_false h1,hv,hi]
    exact pf_ret (by push_cast [multi_formed.rs,h0])
  | false =>
   rw [if_neg (by simp)]
   by_cases h0:m.args.length≤8
   ·have hi:((m.args.length:Int)≤8) = True:=eq_true (by omega)
    push_cast [eq_false h1,hv,hi]
    refine .of (hI true) ?_
    push_cast
    exact pf_ret (by push_cast [multi_formed.rs,h0])
   ·have hi:((m.args.length:Int)≤8) = False:=eq_false (by omega)
    push_cast [eq_false h1,hv,hi]
    exact pf_ret (by push_cast [multi_formed.rs,h0])
theorem allM_true (m:AMulti):allM (fun _=>true) m = true:=by
 induction m using multi_ind with
 | h m ih=>rw [allM_eq,Bool.true_and,List.all_eq_true];exact ih
theorem Check_1_s (r:List ARule) (a:AMulti):PF n_multi_Check_1 [encM a,.ro [encRs r] 0] (.bool (rangedM r.length a)):=by
 refine pf_of multi_Check_1.ok rfl ?_
 unfold rangedM
 by_cases h:0≤a.rule
 ·push_cast [eq_true h]
  exact pf_ret (by push_cast [multi_Check_1.rs])
 ·push_cast [eq_false h]
  exact pf_ret (by push_cast [multi_Check_1.rs])
theorem Check_2_s (r:List ARule) (a:AMulti) (hr:rbs r < 2^38) (hq:rangedM r.length a = true) (hm:mb a < 2^40):PF n_multi_Check_2 [encM a,.ro [encRs r] 0] (.bool (formedM r a)):=by
 refine pf_of multi_Check_2.ok rfl ?_
 push_cast
 refine .of (multi_formed_s r a hr hq hm) ?_
 push_cast
 exact pf_ret (by push_cast [multi_Check_2.rs])
theorem multi_Check_s (r:List ARule) (m:AMulti) (hr:rbs r < 2^38) (hm:mb m < 2^39):PF n_multi_Check [encRs r,encM m] (.int .i64 (checkM r m)):=by
 have hsz:=msize_le_mb m
 have hsp:=sizeP_gt m
 refine pf_of multi_Check.ok rfl ?_
 push_cast
 refine .of (term_CheckSystem_t r hr) ?_
 generalize hT:checkM r m = T
 unfold checkM at hT
 by_cases h1:¬ checkSystem r = 0
 ·rw [if_pos h1] at hT
  subst hT
  push_cast [eq_false h1]
  exact pf_ret (by push_cast [multi_Check.rs])
 have h1:checkSystem r = 0:=Classical.not_not.1 h1
 rw [if_neg (by simpa using h1)] at hT
 push_cast [h1]
 refine .of (multi_all_s (p:=rangedM r.length) (q:=fun _=>true) (B:=2^39) (caps:=[.ro [encRs r] 0]) (fun σ=>by push_cast) (fun a _ _=>Check_1_s r a) (by omega) m (allM_true m) (by omega)) ?_
 cases h2:allM (rangedM r.length) m with
 | false =>
  rw [h2,if_pos rfl] at hT
  subst hT
  push_cast
  exact pf_ret (by push_cast [multi_Check.rs])
 | true =>
 rw [h2,if_neg (by simp)] at hT
 push_cast
 refine .of (multi_all_s (p:=formedM r) (q:=rangedM r.length) (B:=2^39) (caps:=[.ro [encRs r] 0]) (fun σ=>by push_cast) (fun a hq hb=>Check_2_s r a hr hq (by omega)) (by omega) m h2 (by omega)) ?_
 cases h3:allM (formedM r) m with
 | false =>
  rw [h3,if_pos rfl] at hT
  subst hT
  push_cast
  exact pf_ret (by push_cast [multi_Check.rs])
 | true =>
 rw [h3,if_neg (by simp)] at hT
 push_cast
 refine .of (multi_size_s m (by omega)) ?_
 by_cases h4:4000 < sizeP m
 ·have hi:((4000:Int) < (sizeP m:Int)) = True:=eq_true (by omega)
  rw [if_pos (by omega)] at hT
  subst hT
  push_cast [hi]
  exact pf_ret (by push_cast [multi_Check.rs])
 ·have hi:((4000:Int) < (sizeP m:Int)) = False:=eq_false (by omega)
  push_cast [hi]
  refine .of (multi_depth_s m (by omega)) ?_
  by_cases h5:200 < mdepth m
  ·have hj:((200:Int) < (mdepth m:Int)) = True:=eq_true (by omega)
   rw [if_pos (by omega)] at hT
   subst hT
   push_cast [hj]
   exact pf_ret (by push_cast [multi_Check.rs])
  ·have hj:((200:Int) < (mdepth m:Int)) = False:=eq_false (by omega)
   rw [if_neg (by omega)] at hT
   subst hT
   push_cast [hj]
   exact pf_ret (by push_cast [multi_Check.rs])
end Go.Dw
end
section
namespace Go.Dw
theorem r01_At_s (t:Term) (p:List Int) (hp:p.length < 2^62) (ht:size t < 2^62):PF n_r01_At [encT t,encP p] (encOT (subT t p)):=by
 refine pf_of r01_At.ok rfl ?_
 push_cast
 refine loop_up (n:=p.length) (R:=fun k=>∀ u,subT u (p.drop k) = subT t p→size u < 2^62→r01_At.L3 (.ptr 0 0) (.ptr 1 0) (encP p) (.int .i64 p.length) (.int .i64 k) 0 [.cells t_Term (cT u),.cells t_Term [.str [],.bool false,.sl 3 []]] _) ?_ ?_ 0 (by omega) t rfl ht
 ·intro k hk ih u hu hsu
  rw [drop_getD hk] at hu
  simp only [subT] at hu
  generalize hgi:p.getD k default = i at hu
  have hl:=length_le_sizes u.args
  have hst:=size_args u
  refine r01_At.G3 ?_
  by_cases hi:i < 0
  ·rw [if_neg (by omega)] at hu
   push_cast [ilt hk,hgi,hi]
   refine pf_ret ?_
   push_cast [r01_At.rs,← hu]
   rfl
  ·by_cases hi2:(u.args.length:Int)≤i
   ·rw [if_neg (by omega)] at hu
    push_cast [ilt hk,hgi,hi,hi2]
    refine pf_ret ?_
    push_cast [r01_At.rs,← hu]
    rfl
   ·rw [if_pos (by omega)] at hu
    push_cast [ilt hk,hgi,hi,hi2,w64 (show k < 2^62 by omega)]
    have hm:u.args.getD i.toNat default∈u.args:=getD_mem (by omega)
    exact ⟨by omega,ih _ hu (by have:=size_mem hm;omega)⟩
 ·intro u hu hsu
  rw [drop_map_none] at hu
  refine r01_At.G3 ?_
  push_cast [inlt (Nat.le_refl _)]
  refine pf_ret ?_
  push_cast [r01_At.rs,← hu]
  rfl
theorem r01_Image_s (s:List ABind) (v:Str) (hl:s.length < 2^62):PF n_r01_Image [encBs s,.str v] (encT ((image s v).getD (.mk v true []))):=by
 refine pf_of r01_Image.ok rfl ?_
 push_cast
 refine loop_up (n:=s.length) (R:=fun k=>image (s.drop k) v = image s v→r01_Image.L3 (.str v) (.ptr 0 0) (encBs s) (.int .i64 s.length) (.int .i64 k) 0 [.cells t_Term [.str [],.bool false,.sl 3 []]] _) ?_ ?_ 0 (by omega) rfl
 ·intro k hk ih hq
  rw [drop_getD hk] at hq
  simp only [image] at hq
  generalize hgi:s.getD k default = b at hq
  refine r01_Image.G3 ?_
  by_cases h:b.name = v
  ·rw [if_pos h] at hq
   push_cast [ilt hk,hgi,h]
   refine pf_ret ?_
   push_cast [r01_Image.rs,← hq]
   rfl
  ·rw [if_neg h] at hq
   push_cast [ilt hk,hgi,h,w64 (show k < 2^62 by omega)]
   exact ih hq
 ·intro hq
  rw [drop_map_none] at hq
  refine r01_Image.G3 ?_
  push_cast [inlt (Nat.le_refl _)]
  refine pf_ret ?_
  push_cast [r01_Image.rs,← hq]
  rfl
theorem r01_Apply_s (s:List ABind) (hl:s.length < 2^62) (t:Term) (ht:size t < 2^40):PF n_r01_Apply [encBs s,encT t] (encT (inst s t)):=by
 induction t using term_ind with
 | h t ih =>
 have hst:=size_args t
 have hll:=length_le_sizes t.args
 refine pf_of r01_Apply.ok rfl ?_
 rw [inst_eq]
 cases hv:t.var with
 | true =>
  push_cast [hv]
  refine .of (r01_Image_s s t.name hl) ?_
  push_cast
  exact pf_ret (by push_cast [r01_Apply.rs])
 | false =>
  push_cast [hv]
  refine loop_up (n:=t.args.length) (R:=fun k=>r01_Apply.L3 (encBs s) (.ptr 0 0) (.ptr 1 0) (encTs t.args) (.int .i64 t.args.length) (.int .i64 k) 0 [.cells t_Term [.str [],.bool false,.sl 3 []],.cells t_Term [.str t.name,.bool false,ownL cT 2 3 ((t.args.take k).map (inst s))],.arr t_Term 3 k] _) ?_ ?_ 0 (by omega)
  ·intro k hk ih2
   have hm:=getD_mem hk
   have hm2:=size_mem hm
   have hlen:((t.args.take k).map (inst s)).length = k:=by simp;omega
   rw [take_succ_getD hk,List.map_append,List.map_singleton] at ih2
   refine r01_Apply.G3 ?_
   push_cast [ilt hk]
   refine .of (ih _ hm (by omega)) ?_
   push_cast [hlen,w64 (show k < 2^62 by omega)]
   exact ⟨Nat.le_trans (Nat.mul_le_mul_right 48 (show _≤2^41 by omega)) (by unfold maxEls;decide),ih2⟩
  ·refine r01_Apply.G3 ?_
   push_cast [inlt (Nat.le_refl _)]
   refine pf_ret ?_
   push_cast [r01_Apply.rs,List.take_length]
   unfold encT
   rw [cT_eq];rfl
theorem r01_Grown_s (s:List ABind) (hl:s.length < 2^62) (hs:bbs s < 2^29) (t:Term) (ht:tb t < 2^30):PF n_r01_Grown [encBs s,encT t] (.tup [.int .i64 (size (inst s t)),.int .i64 (depth (inst s t))]):=by
 induction t using term_ind with
 | h t ih =>
 have hst:=size_args t
 have htb:=tb_args t
 have hll:=length_le_sizes t.args
 have hz:=size_le_tb t
 have hsm:=inst_small ht hs
 refine pf_of r01_Grown.ok rfl ?_
 cases hv:t.var with
 | true =>
  have he:inst s t = (image s t.name).getD (.mk t.name true []):=by rw [inst_eq,if_pos hv]
  rw [he] at hsm ⊢
  push_cast [hv]
  refine .of (r01_Image_s s t.name hl) ?_
  push_cast
  refine .of (r01_Size_s _ (by omega)) ?_
  push_cast
  refine .of (r01_Depth_s _ (by omega)) ?_
  push_cast
  exact pf_ret (by push_cast [r01_Grown.rs])
 | false =>
  have he:inst s t = .mk t.name false (t.args.map (inst s)):=by rw [inst_eq,hv];rfl
  rw [he] at hsm ⊢
  have hs1:size (Term.mk t.name false (t.args.map (inst s))) = 1+sizes (t.args.map (inst s)):=by simp [size]
  have hd1:depth (Term.mk t.name false (t.args.map (inst s))) = depths (t.args.map (inst s))+1:=by simp [depth]
  have hds:=depths_le_sizes (t.args.map (inst s))
  rw [hs1] at hsm
  rw [hs1,hd1]
  push_cast [hv]
  refine loop_up (n:=t.args.length) (R:=fun k=>r01_Grown.L3 (encBs s) (.int .i64 (1+sizes ((t.args.take k).map (inst s)):Nat)) (.int .i64 (depths ((t.args.take k).map (inst s)):Nat)) (encTs t.args) (.int .i64 t.args.length) (.int .i64 k) 0 [] _) ?_ ?_ 0 (by omega)
  ·intro k hk ih2
   have hm:=getD_mem hk
   have hm2:=tb_mem hm
   have hsum:sizes ((t.args.take k).map (inst s))+size (inst s (t.args.getD k default))≤sizes (t.args.map (inst s)):=by
    have:sizes ((t.args.take (k+1)).map (inst s))≤sizes (t.args.map (inst s)):=by rw [List.map_take];exact sizes_take_le _ _
    rw [take_succ_getD hk,List.map_append,sizes_append] at this
    simpa [sizes] using this
   rw [take_succ_getD hk,List.map_append,List.map_singleton,sizes_append,depths_append] at ih2
   simp only [sizes,depths,Nat.add_zero,Nat.max_zero] at ih2
   refine r01_Grown.G3 ?_
   push_cast [ilt hk]
   refine .of (ih _ hm (by omega)) ?_
   push_cast [w64 (show k < 2^62 by omega)]
   rw [wrap64 (by omega) (by omega)]
   push_cast at ih2
   simpa [Int.add_assoc] using ih2
  ·refine r01_Grown.G3 ?_
   push_cast [inlt (Nat.le_refl _),List.take_length]
   rw [wrap64 (by omega) (by omega)]
   refine pf_ret ?_
   push_cast [r01_Grown.rs]
theorem r03_Bound_s (s:List ABind) (v:Str) (hl:s.length < 2^62):PF n_r03_Bound [encBs s,.str v] (.bool (bound s v)):=by
 refine pf_of r03_Bound.ok rfl ?_
 unfold bound
 push_cast
 refine loop_up (n:=s.length) (R:=fun k=>image (s.drop k) v = image s v→r03_Bound.L3 (.str v) (encBs s) (.int .i64 s.length) (.int .i64 k) 0 [] _) ?_ ?_ 0 (by omega) rfl
 ·intro k hk ih hq
  rw [drop_getD hk] at hq
  simp only [image] at hq
  generalize hgi:s.getD k default = b at hq
  refine r03_Bound.G3 ?_
  by_cases h:b.name = v
  ·rw [if_pos h] at hq
   push_cast [ilt hk,hgi,h]
   refine pf_ret ?_
   push_cast [r03_Bound.rs,← hq]
   rfl
  ·rw [if_neg h] at hq
   push_cast [ilt hk,hgi,h,w64 (show k < 2^62 by omega)]
   exact ih hq
 ·intro hq
  rw [drop_map_none] at hq
  refine r03_Bound.G3 ?_
  push_cast [inlt (Nat.le_refl _)]
  refine pf_ret ?_
  push_cast [r03_Bound.rs,← hq]
  rfl
theorem lbd_stop {v:Str}:∀ {s:List ABind},lbd v s < s.length→¬ (s.getD (lbd v s) default).name < v
 | [],h=>by simp at h
 | b :: s,h=>by
  simp only [lbd] at h ⊢
  split
  ·rename_i hx
   rw [if_pos hx] at h
   simpa using lbd_stop (s:=s) (by simpa using h)
  ·rename_i hx
   simpa using hx
theorem own_bind {i:Nat} {l:List ABind} {n:Str} {t:Term}:(.own i 4 (l.map cB++[V.str n :: cT t]):V) = ownL cB i 4 (l++[⟨n,t⟩]):=by simp [ownL,cB]
theorem r03_with_s (s:List ABind) (v:Str) (t:Term) (hl:s.length < 2^40) (hn:∀ b∈s,b.name.length < 2^62) (hv:v.length < 2^62):PF n_r03_with [encBs s,.str v,encT t] (encBs (bindT s v t)):=by
 have hle:=lbd_le v s
 have hge:=@lbd_stop v s
 have hlt:=fun j=>@lbd_lt v s j
 have tail:∀ m:Nat,m≤2^40→∀ b,b≤64→m * b≤maxEls:=fun m hm b hb=>Nat.le_trans (Nat.mul_le_mul hm hb) (by unfold maxEls;decide)
 unfold bindT
 generalize lbd v s = a at hle hge hlt
 have e1:(s.drop 0).take (a - 0) = s.take a:=by simp
 have e2:(s.drop a).take (s.length - a) = s.drop a:=by rw [List.take_of_length_le];simp
 refine pf_of r03_with.ok rfl ?_
 push_cast
 refine loop_up (n:=a) (R:=fun k=>r03_with.L3 (encBs s) (.str v) (.ro (cT t) 0) (.int .i64 k) 0 [] _) ?_ ?_ 0 (by omega)
 ·intro k hk ih
  have hkl:k < s.length:=by omega
  have h1:cmpS (s.getD k default).name v < 0:=cmpS_neg.2 (hlt k hk)
  refine r03_with.G3 ?_
  push_cast [ilt hkl]
  refine .of (r01_CompareNames_s _ _ (hn _ (getD_mem hkl)) hv) ?_
  push_cast [h1,w64 (show k < 2^62 by omega)]
  exact ih
 ·refine r03_with.G3 ?_
  rcases Nat.lt_or_ge a s.length with h | h
  ·have h2:¬ cmpS (s.getD a default).name v < 0:=fun hc=>hge h (cmpS_neg.1 hc)
   push_cast [ilt h]
   refine .of (r01_CompareNames_s _ _ (hn _ (getD_mem h)) hv) ?_
   push_cast [h2,e1,e2,own_bind,List.cons_append,List.nil_append]
   refine ⟨⟨by omega,hle⟩,tail _ (by simp;omega) _ (by omega),tail _ (by simp;omega) _ (by omega),hle,⟨by simp,tail _ (by simp;omega) _ (by omega)⟩,pf_ret ?_⟩
   push_cast [r03_with.rs]
  ·push_cast [inlt h,e1,e2,own_bind,List.cons_append,List.nil_append]
   refine ⟨⟨by omega,hle⟩,tail _ (by simp;omega) _ (by omega),tail _ (by simp;omega) _ (by omega),hle,⟨by simp,tail _ (by simp;omega) _ (by omega)⟩,pf_ret ?_⟩
   push_cast [r03_with.rs]
mutual
def matchR (s:List ABind):Term→Term→List ABind × Bool
 | .mk n v l,t=>if v then (match image s n with | some x=>(s,decide (x = t)) | none=>(bindT s n t,true)) else
  if t.var ∨ t.name ≠ n ∨ t.args.length ≠ l.length then ([],false) else matchRs s l t.args
def matchRs (s:List ABind):List Term→List Term→List ABind × Bool
 | [],_=>(s,true)
 | _ :: _,[]=>(s,true)
 | a :: l,b :: m=>if (matchR s a b).2 then matchRs (matchR s a b).1 l m else ([],false)
end
theorem matchR_eq (s:List ABind) (p t:Term):matchR s p t = if p.var then (match image s p.name with | some x=>(s,decide (x = t)) | none=>(bindT s p.name t,true)) else
  if t.var ∨ t.name ≠ p.name ∨ t.args.length ≠ p.args.length then ([],false) else matchRs s p.args t.args:=by
 cases p with | mk n v l=>simp only [matchR,Term.var,Term.name,Term.args];rfl
def SameM (a b:List ABind × Bool):Prop:=a.2 = b.2∧(b.2 = true→a.1 = b.1)
theorem matchR_T (p:Term):∀ (s:List ABind) (t:Term),SameM (matchR s p t) (matchT s p t):=by
 induction p using term_ind with
 | h p ih =>
 intro s t
 rw [matchR_eq,matchT_eq]
 cases hv:p.var with
 | true=>rw [if_pos rfl,if_pos rfl];exact ⟨rfl,fun _=>rfl⟩
 | false =>
  have hf:¬ (false = true):=by simp
  rw [if_neg hf,if_neg hf]
  by_cases hc:t.var ∨ p.name ≠ t.name ∨ p.args.length ≠ t.args.length
  ·have hc':t.var ∨ t.name ≠ p.name ∨ t.args.length ≠ p.args.length:=by
    rcases hc with h | h | h
    ·exact .inl h
    ·exact .inr (.inl (Ne.symm h))
    ·exact .inr (.inr (Ne.symm h))
   rw [if_pos hc,if_pos hc'];exact ⟨rfl,fun h=>by cases h⟩
  ·have hc':¬ (t.var ∨ t.name ≠ p.name ∨ t.args.length ≠ p.args.length):=by
    rintro (h | h | h)
    ·exact hc (.inl h)
    ·exact hc (.inr (.inl (Ne.symm h)))
    ·exact hc (.inr (.inr (Ne.symm h)))
   rw [if_neg hc,if_neg hc']
   have hlen:p.args.length = t.args.length:=Classical.byContradiction fun h=>hc (.inr (.inr h))
   have key:∀ (l m:List Term) (s:List ABind),(∀ a∈l,a∈p.args)→l.length = m.length→SameM (matchRs s l m) (matchTs s l m):=by
    intro l
    induction l with
    | nil=>intro m s _ _;exact ⟨rfl,fun _=>rfl⟩
    | cons a l ihl =>
     intro m s hl hm
     cases m with
     | nil=>simp at hm
     | cons b m =>
      obtain ⟨h1,h2⟩:=ih a (hl a (by simp)) s b
      simp only [matchRs,matchTs]
      cases h3:(matchT s a b).2 with
      | false =>
       rw [h3] at h1
       rw [if_neg (by rw [h1];simp),if_neg (by simp)]
       exact ⟨rfl,fun h=>by cases h⟩
      | true =>
       rw [h3] at h1
       rw [if_pos h1,if_pos rfl,h2 h3]
       exact ihl m _ (fun x hx=>hl x (by simp [hx])) (by simpa using hm)
   exact key p.args t.args s (fun _ h=>h) hlen
structure Bs (M m:Nat) (s:List ABind):Prop where
 len:s.length≤m
 nm:∀ b∈s,b.name.length < M
 tm:∀ b∈s,tb b.term < M
theorem Bs.mono {M m m':Nat} {s:List ABind} (h:Bs M m s) (hm:m≤m'):Bs M m' s:=⟨Nat.le_trans h.len hm,h.nm,h.tm⟩
theorem Bs.nil {M m:Nat}:Bs M m []:=⟨by simp,by simp,by simp⟩
theorem matchR_Bs {M:Nat} (p:Term):∀ (s:List ABind) (t:Term) (m:Nat),tb p≤M→tb t < M→Bs M m s→Bs M (m+size p) (matchR s p t).1:=by
 induction p using term_ind with
 | h p ih =>
 intro s t m hp ht hb
 have h1:=tb_args p
 have h2:=tb_args t
 have h3:=size_args p
 rw [matchR_eq]
 cases hv:p.var with
 | true =>
  rw [if_pos rfl]
  cases hx:image s p.name with
  | some x=>exact hb.mono (by omega)
  | none =>
   refine ⟨by show (bindT s p.name t).length≤_;rw [bindT_len];have:=hb.len;omega,fun b h=>?_,fun b h=>?_⟩
   ·rcases bindT_mem h with h | rfl
    ·exact hb.nm b h
    ·show p.name.length < M;omega
   ·rcases bindT_mem h with h | rfl
    ·exact hb.tm b h
    ·exact ht
 | false =>
  rw [if_neg (by simp)]
  split
  ·exact Bs.nil
  ·have key:∀ (l q:List Term) (s:List ABind) (m:Nat),(∀ a∈l,a∈p.args)→tbs l≤M→tbs q < M→Bs M m s→Bs M (m+sizes l) (matchRs s l q).1:=by
    intro l
    induction l with
    | nil=>intro q s m _ _ _ hb;exact hb
    | cons a l ihl =>
     intro q s m hl hM hq hb
     cases q with
     | nil=>exact hb.mono (by omega)
     | cons b q =>
      have e1:tbs (a :: l) = tb a+tbs l:=rfl
      have e2:tbs (b :: q) = tb b+tbs q:=rfl
      have h4:=ih a (hl a (by simp)) s b m (by omega) (by omega) hb
      simp only [matchRs]
      split
      ·have h5:=ihl q _ _ (fun x hx=>hl x (by simp [hx])) (by omega) (by omega) h4
       exact h5.mono (by simp only [sizes];omega)
      ·exact Bs.nil
   have:=key p.args t.args s m (fun _ h=>h) (by omega) (by omega) hb
   exact this.mono (by omega)
end Go.Dw
end
section
namespace Go.Dw
mutual
def cmpT:Term→Term→Int
 | .mk n v l,t=>if v ≠ t.var then (if v then -1 else 1) else if cmpS n t.name ≠ 0 then cmpS n t.name else if cmpI l.length t.args.length ≠ 0 then cmpI l.length t.args.length else cmpTs l t.args
def cmpTs:List Term→List Term→Int
 | [],_=>0
 | _ :: _,[]=>0
 | a :: l,b :: m=>if cmpT a b ≠ 0 then cmpT a b else cmpTs l m
end
theorem cmpT_eq (a t:Term):cmpT a t = if a.var ≠ t.var then (if a.var then -1 else 1) else if cmpS a.name t.name ≠ 0 then cmpS a.name t.name else if cmpI a.args.length t.args.length ≠ 0 then cmpI a.args.length t.args.length else cmpTs a.args t.args:=by
 cases a;simp only [cmpT];rfl
theorem cmpI_zero {a b:Int}:cmpI a b = 0 ↔ a = b:=by unfold cmpI;split <;> (try split) <;> omega
theorem cmpTs_zero:∀ (l m:List Term),l.length = m.length→(∀ a∈l,∀ b,cmpT a b = 0 ↔ a = b)→(cmpTs l m = 0 ↔ l = m)
 | [],[],_,_=>by simp [cmpTs]
 | [],_ :: _,h,_=>by simp at h
 | _ :: _,[],h,_=>by simp at h
 | a :: l,b :: m,h,hc=>by
  have ih:=cmpTs_zero l m (by simpa using h) fun x hx=>hc x (by simp [hx])
  have h1:=hc a (by simp) b
  simp only [cmpTs]
  by_cases he:a = b
  ·rw [if_neg (by simpa using h1.2 he),ih]
   simp [he]
  ·have:¬ cmpT a b = 0:=fun e=>he (h1.1 e)
   rw [if_pos this]
   simp [this,he]
theorem cmpT_zero (a:Term):∀ b,cmpT a b = 0 ↔ a = b:=by
 induction a using term_ind with
 | h a ih =>
 intro b
 rw [cmpT_eq,term_eq_iff]
 by_cases h1:a.var = b.var
 ·rw [if_neg (by simpa using h1)]
  by_cases h2:a.name = b.name
  ·rw [if_neg (by simpa using cmpS_zero.2 h2)]
   by_cases h3:a.args.length = b.args.length
   ·rw [if_neg (by simpa using cmpI_zero.2 (by omega)),cmpTs_zero _ _ h3 ih]
    simp [h1,h2]
   ·have:¬ cmpI a.args.length b.args.length = 0:=fun e=>h3 (by have:=cmpI_zero.1 e;omega)
    rw [if_pos this]
    simp only [this,false_iff,not_and]
    intro _ _ e;exact h3 (by rw [e])
  ·have:¬ cmpS a.name b.name = 0:=fun e=>h2 (cmpS_zero.1 e)
   rw [if_pos this]
   simp [this,h2]
 ·rw [if_pos h1]
  simp only [h1,false_and,and_false,iff_false]
  split <;> decide
theorem r01_Compare_s (a:Term):∀ b,tb a < 2^62→tb b < 2^62→PF n_r01_Compare [encT a,encT b] (.int .i64 (cmpT a b)):=by
 induction a using term_ind with
 | h a ih =>
 intro b ha hb
 have ha2:=tb_args a
 have hb2:=tb_args b
 have hla:=length_le_tbs a.args
 rw [cmpT_eq]
 refine pf_of r01_Compare.ok rfl ?_
 by_cases h1:a.var = b.var
 ·rw [if_neg (by simpa using h1)]
  push_cast [h1,show ∀ x y:Bool,(x != y) = !decide (x = y) from fun x y=>by cases x <;> cases y <;> rfl]
  refine .of (r01_CompareNames_s _ _ (by omega) (by omega)) ?_
  by_cases h2:cmpS a.name b.name = 0
  ·rw [if_neg (by simpa using h2)]
   push_cast [h2]
   refine .of (r01_CompareInts_s _ _) ?_
   by_cases h3:cmpI a.args.length b.args.length = 0
   ·have hll:a.args.length = b.args.length:=by have:=cmpI_zero.1 h3;omega
    rw [if_neg (by simpa using h3)]
    push_cast [h3]
    refine loop_up (n:=a.args.length) (R:=fun k=>cmpTs (a.args.drop k) (b.args.drop k) = cmpTs a.args b.args→r01_Compare.L3 (.ro (cT a) 0) (.ro (cT b) 0) (.int .i64 a.args.length) (.int .i64 k) 0 [] _) ?_ ?_ 0 (by omega) rfl
    ·intro k hk ih2 hq
     have hkb:k < b.args.length:=by omega
     rw [drop_getD hk,drop_getD hkb] at hq
     simp only [cmpTs] at hq
     have hm:=getD_mem hk
     have hmb:=getD_mem hkb
     refine r01_Compare.G3 ?_
     push_cast [ilt hk,ilt hkb]
     refine .of (ih _ hm _ (by have:=tb_mem hm;omega) (by have:=tb_mem hmb;omega)) ?_
     push_cast [w64 (show k < 2^62 by omega)]
     refine ⟨fun h=>pf_ret ?_,fun h=>ih2 ?_⟩
     ·push_cast [r01_Compare.rs]
      rw [← hq,if_pos (by simpa using h)]
     ·rw [← hq,if_neg (by simpa using h)]
    ·intro hq
     refine r01_Compare.G3 ?_
     push_cast [inlt (Nat.le_refl _)]
     refine pf_ret ?_
     push_cast [r01_Compare.rs]
     rw [← hq,drop_map_none];rfl
   ·rw [if_pos h3]
    push_cast [h3]
    exact pf_ret (by push_cast [r01_Compare.rs])
  ·rw [if_pos h2]
   push_cast [h2]
   exact pf_ret (by push_cast [r01_Compare.rs])
 ·rw [if_pos h1]
  have e:∀ x y:Bool,(x != y) = !decide (x = y):=fun x y=>by cases x <;> cases y <;> rfl
  cases hv:a.var <;> cases hv2:b.var
  ·exact absurd (hv.trans hv2.symm) h1
  ·push_cast [hv,hv2,e]
   exact pf_ret (by push_cast [r01_Compare.rs])
  ·push_cast [hv,hv2,e]
   exact pf_ret (by push_cast [r01_Compare.rs])
  ·exact absurd (hv.trans hv2.symm) h1
theorem r01_Equal_s (a b:Term) (ha:tb a < 2^62) (hb:tb b < 2^62):PF n_r01_Equal [encT a,encT b] (.bool (decide (a = b))):=by
 refine pf_of r01_Equal.ok rfl ?_
 push_cast
 refine .of (r01_Compare_s a b ha hb) ?_
 push_cast
 refine pf_ret ?_
 push_cast [r01_Equal.rs,cmpT_zero]
end Go.Dw
end
section
namespace Go.Dw
theorem r03_match_s (p:Term):∀ (s:List ABind) (t:Term) (m:Nat),tb p≤2^38→tb t < 2^38→Bs (2^38) m s→m+size p < 2^38 →
  PF n_r03_match [encBs s,encT p,encT t] (.tup [encBs (matchR s p t).1,.bool (matchR s p t).2]):=by
 induction p using term_ind with
 | h p ih =>
 intro s t m hp ht hb hm
 have h1:=tb_args p
 have h2:=tb_args t
 have h3:=size_args p
 have hlt:=length_le_tbs t.args
 have hsl:=hb.len
 rw [matchR_eq]
 refine pf_of r03_match.ok rfl ?_
 cases hv:p.var with
 | true =>
  rw [if_pos rfl]
  push_cast [hv]
  refine .of (r03_Bound_s s p.name (by omega)) ?_
  cases hx:image s p.name with
  | some x =>
   push_cast [show bound s p.name = true by simp [bound,hx]]
   refine .of (r01_Image_s s p.name (by omega)) ?_
   push_cast [hx,Option.getD_some]
   obtain ⟨b,hbm,_,rfl⟩:=image_mem hx
   refine .of (r01_Equal_s b.term t (by have:=hb.tm b hbm;omega) (by omega)) ?_
   push_cast
   exact pf_ret (by push_cast [r03_match.rs])
  | none =>
   push_cast [show bound s p.name = false by simp [bound,hx]]
   refine .of (r03_with_s s p.name t (by omega) (fun b hbm=>by have:=hb.nm b hbm;omega) (by omega)) ?_
   push_cast
   exact pf_ret (by push_cast [r03_match.rs])
 | false =>
  rw [if_neg (show ¬ (false = true) by simp)]
  push_cast [hv]
  by_cases c1:t.var = true
  ·rw [if_pos (show t.var = true ∨ t.name ≠ p.name ∨ t.args.length ≠ p.args.length from .inl c1)]
   push_cast [c1]
   exact pf_ret (by push_cast [r03_match.rs];rfl)
  ·have c1':t.var = false:=by simpa using c1
   by_cases c2:t.name = p.name
   ·by_cases c3:t.args.length = p.args.length
    ·rw [if_neg (show ¬ (t.var = true ∨ t.name ≠ p.name ∨ t.args.length ≠ p.args.length) by simp [c1',c2,c3])]
     have c3':((t.args.length:Int) = (p.args.length:Int)) = True:=eq_true (by omega)
     push_cast [c1',c2,c3']
     have key:∀ (l q:List Term) (s:List ABind) (k:Nat),p.args.drop k = l→t.args.drop k = q→k+q.length = t.args.length→∀ m,Bs (2^38) m s→m+sizes l < 2^38 →
       ∀ res,matchRs s l q = res→r03_match.L3 (encBs s) (.ro (cT p) 0) (.ro (cT t) 0) (.int .i64 t.args.length) (.int .i64 k) 0 [] (Ends 0 r03_match.rs fun x' H'=>x' = .tup [encBs res.1,.bool res.2]∧H' = []):=by
      intro l
      induction l with
      | nil =>
       intro q s k hl hq hk m hb hm res hr
       have hkl:t.args.length≤k:=by
        have:=congrArg List.length hl
        simp at this;omega
       refine r03_match.G3 ?_
       push_cast [inlt hkl]
       refine pf_ret ?_
       push_cast [r03_match.rs,← hr]
       simp [matchRs]
      | cons a l ihl =>
       intro q s k hl hq hk m hb hm res hr
       have hkp:k < p.args.length:=by
        rcases Nat.lt_or_ge k p.args.length with h | h
        ·exact h
        ·rw [List.drop_eq_nil_of_le h] at hl;cases hl
       have hkt:k < t.args.length:=by omega
       rw [drop_getD hkp] at hl
       rw [drop_getD hkt] at hq
       cases hl
       subst hq
       have hmp:=getD_mem hkp
       have hmt:=getD_mem hkt
       have hbp:=tb_mem hmp
       have hbt:=tb_mem hmt
       simp only [sizes] at hm
       simp only [matchRs] at hr
       refine r03_match.G3 ?_
       push_cast [ilt hkt,ilt hkp]
       refine .of (ih _ hmp s _ m (by omega) (by omega) hb (by omega)) ?_
       cases hq2:(matchR s (p.args.getD k default) (t.args.getD k default)).2 with
       | false =>
        rw [if_neg (by rw [hq2];simp)] at hr
        push_cast
        refine pf_ret ?_
        push_cast [r03_match.rs,← hr]
        rfl
       | true =>
        rw [if_pos hq2] at hr
        push_cast [w64 (show k < 2^62 by omega)]
        have:=ihl _ _ (k+1) rfl rfl (by simp;omega) _ (matchR_Bs _ s _ m (by omega) (by omega) hb) (by omega) res hr
        push_cast at this
        exact this
     have:=key p.args t.args s 0 rfl rfl (by simp) m hb (by omega) _ rfl
     push_cast [c3'] at this
     exact this
    ·rw [if_pos (show t.var = true ∨ t.name ≠ p.name ∨ t.args.length ≠ p.args.length from .inr (.inr c3))]
     have c3':((t.args.length:Int) = (p.args.length:Int)) = False:=eq_false (by omega)
     push_cast [c1',c2,c3']
     exact pf_ret (by push_cast [r03_match.rs];rfl)
   ·rw [if_pos (show t.var = true ∨ t.name ≠ p.name ∨ t.args.length ≠ p.args.length from .inr (.inl c2))]
    push_cast [c1',c2]
    exact pf_ret (by push_cast [r03_match.rs];rfl)
theorem r03_Match_s (p t:Term) (hp:tb p < 2^37) (ht:tb t < 2^37):PF n_r03_Match [encT p,encT t] (.tup [encBs (matchR [] p t).1,.bool (matchR [] p t).2]):=by
 have:=size_le_tb p
 refine pf_of r03_Match.ok rfl ?_
 push_cast
 refine .of (r03_match_s p [] t 0 (by omega) (by omega) Bs.nil (by omega)) ?_
 push_cast
 exact pf_ret (by push_cast [r03_Match.rs])
theorem r04_Subst_s (r:List ARule) (t:Term) (s:AStep) (hr:rbs r < 2^37) (ht:tb t < 2^37) (hp:s.pos.length < 2^62):PF n_r04_Subst [encRs r,encT t,encSt s] (.tup [encBs (findE r t s).1,.int .i64 (findE r t s).2]):=by
 have hst:=size_le_tb t
 have hlr:=length_le_rbs r
 refine pf_of r04_Subst.ok rfl ?_
 push_cast
 refine .of (r01_At_s t s.pos hp (by omega)) ?_
 unfold findE
 by_cases h1:s.rule < 0
 ·rw [if_pos (.inl h1)]
  cases subT t s.pos with
  | none =>
   push_cast [encOT,h1]
   exact pf_ret (by push_cast [r04_Subst.rs];rfl)
  | some x =>
   push_cast [encOT,h1]
   exact pf_ret (by push_cast [r04_Subst.rs];rfl)
 ·by_cases h2:(r.length:Int)≤s.rule
  ·rw [if_pos (.inr h2)]
   cases subT t s.pos with
   | none =>
    push_cast [encOT,h1,h2]
    exact pf_ret (by push_cast [r04_Subst.rs];rfl)
   | some x =>
    push_cast [encOT,h1,h2]
    exact pf_ret (by push_cast [r04_Subst.rs];rfl)
  ·rw [if_neg (by omega)]
   cases hx:subT t s.pos with
   | none =>
    push_cast [encOT,h1,h2]
    exact pf_ret (by push_cast [r04_Subst.rs];rfl)
   | some x =>
    have hxt:=subT_tb _ _ _ hx
    have hi:s.rule.toNat < r.length:=by omega
    have hm:=rbs_mem (getD_mem hi)
    push_cast [encOT,h1,h2]
    refine ⟨by omega,.of (r03_Match_s _ x (by omega) (by omega)) ?_⟩
    obtain ⟨q1,q2⟩:=matchR_T (r.getD s.rule.toNat default).left [] x
    cases hb:(matchT [] (r.getD s.rule.toNat default).left x).2 with
    | false =>
     rw [hb] at q1
     push_cast [q1]
     exact pf_ret (by push_cast [r04_Subst.rs];rfl)
    | true =>
     rw [hb] at q1
     rw [q2 hb]
     push_cast [q1]
     exact pf_ret (by push_cast [r04_Subst.rs])
end Go.Dw
end
section
namespace Go.Dw
theorem row_T {l:List Term} {k:Nat} (h:k < l.length):(l.map cT)[k]? = some (cT (l.getD k default)):=by
 rw [List.getElem?_map];simp [List.getD_eq_getElem?_getD,h]
theorem rens_cTs9 {σ:Nat→Option Nat} {l:List Term}:(l.map cT).map (rens σ) = l.map cT:=by rw [List.map_map];rfl
theorem r01_Put_s (p:List Int):∀ (t x y:Term),short t = true→subT t p = some y→size t < 2^40→p.length < 2^40→PF n_r01_Put [encT t,encP p,encT x] (encT (setT t p x)):=by
 induction p with
 | nil =>
  intro t x y _ _ _ _
  refine pf_of r01_Put.ok rfl ?_
  push_cast
  exact pf_ret (by push_cast [r01_Put.rs];rfl)
 | cons i p ih =>
  intro t x y ht hy hs hp
  simp only [subT] at hy
  split at hy
  case isFalse=>cases hy
  rename_i hi
  have hst:=size_args t
  have hll:=length_le_sizes t.args
  have hk:i.toNat < t.args.length:=by omega
  have hm:=getD_mem hk
  have hm2:=size_mem hm
  have hne:¬ (((i :: p).length:Nat):Int) = 0:=by rw [List.length_cons];omega
  have hsub:=ih _ x y ((short_iff.1 ht).2.2 _ hm) hy (by omega) (by simp at hp;omega)
  refine pf_of r01_Put.ok rfl ?_
  have hv:t.var = false:=by
   cases h:t.var with
   | false=>rfl
   | true=>have:=(short_iff.1 ht).2.1 h;rw [this] at hk;simp at hk
  have hres:setT t (i :: p) x = .mk t.name false (t.args.set i.toNat (setT (t.args.getD i.toNat default) p x)):=by
   simp only [setT];rw [if_pos hi,hv]
  rw [hres]
  have e1:((i :: p).drop 1).take ((i :: p).length - 1) = p:=by simp
  have e2:(i :: p).getD 0 default = i:=rfl
  have e3:((0:Int) < (((i :: p).length:Nat):Int)) = True:=eq_true (by rw [List.length_cons];omega)
  have e4:(1:Nat)≤(i :: p).length:=by simp
  generalize (i :: p) = q at hne e1 e2 e3 e4
  have hi0:(0≤i) = True:=eq_true hi.1
  have hi1:(i < (t.args.length:Int)) = True:=eq_true hi.2
  have hroom:t.args.length * 48≤maxEls:=Nat.le_trans (Nat.mul_le_mul_right 48 (show _≤2^41 by omega)) (by unfold maxEls;decide)
  have hsetC:(t.args.map cT).set i.toNat (put 0 (cT (setT (t.args.getD i.toNat default) p x)) ((t.args.map cT).getD i.toNat [])) = (t.args.set i.toNat (setT (t.args.getD i.toNat default) p x)).map cT:=by
   have e5:(t.args.map cT).getD i.toNat [] = cT (t.args.getD i.toNat default):=by
    rw [List.getD_eq_getElem?_getD (l:=t.args.map cT),row_T hk];rfl
   rw [List.map_set,e5,put_cT']
  push_cast [hne,row_T hk,e1,e2,e3,e4,hi0,hi1,List.length_map,hroom]
  refine .of hsub ?_
  push_cast [hi0,hi1,List.length_map,hk,hsetC,List.length_set,rens_cTs9]
  refine pf_ret ?_
  push_cast [r01_Put.rs]
  unfold encT
  rw [cT_eq];rfl
theorem r04_replaced_s (p:List Int):∀ (t x:Term),size t < 2^40→size x < 2^40→p.length < 2^40 →
  PF n_r04_replaced [encT t,encP p,.int .i64 (size x),.int .i64 (depth x)] (.tup [.int .i64 (size (setT t p x)),.int .i64 (depth (setT t p x))]):=by
 induction p with
 | nil =>
  intro t x _ _ _
  refine pf_of r04_replaced.ok rfl ?_
  push_cast
  exact pf_ret (by push_cast [r04_replaced.rs];exact ⟨rfl,rfl⟩)
 | cons i p ih =>
  intro t x hs hx hp
  have hst:=size_args t
  have hll:=length_le_sizes t.args
  have hlu:(setT t (i :: p) x).args.length = t.args.length:=setT_args_len
  have hget:=fun k (hk:k < t.args.length)=>setT_args_get (x:=x) (i:=i) (p:=p) hk
  have hsu:size (setT t (i :: p) x) = 1+sizes (setT t (i :: p) x).args:=size_args _
  have hdu:depth (setT t (i :: p) x) = depths (setT t (i :: p) x).args+1:=depth_args _
  have hsz:=setT_size (i :: p) t x
  have hdd:=depths_le_sizes (setT t (i :: p) x).args
  rw [hsu] at hsz ⊢
  rw [hdu]
  generalize (setT t (i :: p) x).args = u at *
  have hne:¬ (((i :: p).length:Nat):Int) = 0:=by rw [List.length_cons];omega
  have e1:((i :: p).drop 1).take ((i :: p).length - 1) = p:=by simp
  have e2:(i :: p).getD 0 default = i:=rfl
  have e3:((0:Int) < (((i :: p).length:Nat):Int)) = True:=eq_true (by rw [List.length_cons];omega)
  have e4:(1:Nat)≤(i :: p).length:=by simp
  have hpl:p.length < 2^40:=by simp at hp;omega
  generalize (i :: p) = q at hne e1 e2 e3 e4
  refine pf_of r04_replaced.ok rfl ?_
  push_cast [hne]
  refine loop_up (n:=t.args.length) (R:=fun k=>r04_replaced.L3 (encP q) (.int .i64 (size x)) (.int .i64 (depth x)) (.int .i64 (1+sizes (u.take k):Nat)) (.int .i64 (depths (u.take k):Nat)) (encTs t.args) (.int .i64 t.args.length) (.int .i64 k) 0 [] _) ?_ ?_ 0 (by omega)
  ·intro k hk ih2
   have hm:=getD_mem hk
   have hm2:=size_mem hm
   have hsk:=sizes_take_succ u k (by omega)
   have hdk:=depths_take_succ u k (by omega)
   have hsl:=sizes_take_le u (k+1)
   have hgk:=hget k hk
   have hdl:=depth_le_size (t.args.getD k default)
   rw [hsk,hdk,hgk] at ih2
   rw [hsk,hgk] at hsl
   refine r04_replaced.G3 ?_
   push_cast [ilt hk]
   refine .of (r01_Size_s _ (by omega)) ?_
   push_cast
   refine .of (r01_Depth_s _ (by omega)) ?_
   by_cases hik:(k:Int) = i
   ·rw [if_pos hik] at ih2 hsl
    subst hik
    push_cast [e1,e2,e3,e4]
    refine .of (ih _ x (by omega) hx hpl) ?_
    push_cast [w64 (show k < 2^62 by omega)]
    rw [wrap64 (by omega) (by omega)]
    push_cast at ih2
    simpa [Int.add_assoc] using ih2
   ·rw [if_neg hik] at ih2 hsl
    push_cast [e1,e2,e3,e4,hik,w64 (show k < 2^62 by omega)]
    rw [wrap64 (by omega) (by omega)]
    push_cast at ih2
    simpa [Int.add_assoc] using ih2
  ·refine r04_replaced.G3 ?_
   rw [List.take_of_length_le (by omega)]
   push_cast [inlt (Nat.le_refl _)]
   rw [wrap64 (by omega) (by omega)]
   refine pf_ret ?_
   push_cast [r04_replaced.rs]
end Go.Dw
end
section
namespace Go.Dw
theorem subT_setT:∀ (p:List Int) (t x y:Term),subT t p = some y→subT (setT t p x) p = some x
 | [],t,x,y,_=>rfl
 | i :: p,t,x,y,h=>by
  simp only [subT] at h
  split at h
  case isFalse=>cases h
  rename_i hi
  have hk:i.toNat < t.args.length:=by omega
  have hl:(setT t (i :: p) x).args.length = t.args.length:=setT_args_len
  simp only [subT]
  rw [if_pos (by omega),setT_args_get hk,if_pos (by omega)]
  exact subT_setT p _ x y h
theorem depth_mem {l:List Term} {a:Term} (h:a∈l):depth a≤depths l:=by
 induction l with
 | nil=>cases h
 | cons x xs ih=>rcases List.mem_cons.1 h with rfl | h <;> simp only [depths];omega;have:=ih h;omega
theorem subT_depth:∀ (p:List Int) (t x:Term),subT t p = some x→depth x≤depth t
 | [],t,x,h=>by cases h;exact Nat.le_refl _
 | i :: p,t,x,h=>by
  simp only [subT] at h
  split at h
  case isFalse=>cases h
  rename_i hi
  have h1:=subT_depth p _ x h
  have h2:=depth_mem (getD_mem (show i.toNat < t.args.length by omega))
  have h3:=depth_args t
  omega
theorem fits_sub {t x y:Term} {p:List Int} (h:subT t p = some y) (hf:fits (setT t p x) = true):fits x = true:=by
 have h1:=subT_setT p t x y h
 have h2:=subT_size _ _ _ h1
 have h3:=subT_depth _ _ _ h1
 simp only [fits,Bool.and_eq_true,decide_eq_true_eq] at hf ⊢
 omega
theorem r04_Step_s (r:List ARule) (t:Term) (s:AStep) (hr:rbs r < 2^28) (hg:∀ x∈r,good x.left∧good x.right) (ht:good t) (hp:s.pos.length < 2^40):PF n_r04_Step [encRs r,encT t,encSt s] (encTE (doE r t s).1 (doE r t s).2):=by
 have htb:=tb_short t ht.1
 have hts:=ht.2
 refine pf_of r04_Step.ok rfl ?_
 push_cast
 refine .of (r04_Subst_s r t s (by omega) (by omega) (by omega)) ?_
 unfold doE
 by_cases h1:(findE r t s).2 = 0
 ·rw [if_neg (by simpa using h1)]
  obtain ⟨k1,k2,_,y,k3,k4⟩:=findE_ok h1
  have hm:=getD_mem k2
  have hgl:=hg _ hm
  have hyt:=subT_tb _ _ _ k3
  have hlt:=tb_short _ hgl.1.1
  have hrt:=tb_short _ hgl.2.1
  have hls:=hgl.1.2
  have hrs:=hgl.2.2
  have hbl:=length_le_bbs (findE r t s).1
  have hsz:=inst_size (findE r t s).1 (r.getD s.rule.toNat default).right
  have hlr:=length_le_rbs r
  generalize (findE r t s).1 = u at k4 hbl hsz ⊢
  have hmul:size (r.getD s.rule.toNat default).right * (1+bbs u)≤4000 * 200001:=Nat.mul_le_mul hrs (by omega)
  have hin:((s.rule:Int) < (r.length:Int)) = True:=eq_true (by omega)
  have hi0:((0:Int)≤s.rule) = True:=eq_true k1
  have hst:=setT_size s.pos t (inst u (r.getD s.rule.toNat default).right)
  push_cast [h1,hin,hi0]
  refine .of (r01_Grown_s u (by omega) (by omega) _ (by omega)) ?_
  push_cast
  refine .of (r04_replaced_s s.pos t (inst u (r.getD s.rule.toNat default).right) (by omega) (by omega) hp) ?_
  have hR:=r01_Apply_s u (by omega) (r.getD s.rule.toNat default).right (by omega)
  have hP:=r01_Put_s s.pos t (inst u (r.getD s.rule.toNat default).right) y ht.1 k3 (by omega) hp
  generalize hv:setT t s.pos (inst u (r.getD s.rule.toNat default).right) = v at hP hst ⊢
  have hff:fits v = true→fits (inst u (r.getD s.rule.toNat default).right) = true:=fun h=>by subst hv;exact fits_sub k3 h
  by_cases h2:size v≤4000
  ·have c2:((4000:Int) < (size v:Int)) = False:=eq_false (by omega)
   by_cases h3:depth v≤200
   ·have c3:((200:Int) < (depth v:Int)) = False:=eq_false (by omega)
    have hf:fits v = true:=by simp [fits,h2,h3]
    rw [if_pos (hff hf),if_pos hf]
    push_cast [c2,c3,hin,hi0]
    refine .of hR ?_
    push_cast
    refine .of hP ?_
    push_cast
    exact pf_ret (by push_cast [r04_Step.rs,encTE])
   ·have c3:((200:Int) < (depth v:Int)) = True:=eq_true (by omega)
    have hf:fits v = false:=by simp [fits,h3]
    push_cast [c2,c3,hf,ite_self]
    exact pf_ret (by push_cast [r04_Step.rs,encTE];rfl)
  ·have c2:((4000:Int) < (size v:Int)) = True:=eq_true (by omega)
   have hf:fits v = false:=by simp [fits,h2]
   push_cast [c2,hf,ite_self]
   exact pf_ret (by push_cast [r04_Step.rs,encTE];rfl)
 ·rw [if_pos (by simpa using h1)]
  push_cast [h1]
  exact pf_ret (by push_cast [r04_Step.rs,encTE];rfl)
end Go.Dw
end
section
namespace Go.Dw
mutual
theorem visit_sub:∀ (t:Term) (p:List Int),∀ x∈visit t p,size x.2≤size t∧x.1.length≤p.length+size t
 | .mk n v l,p,x,hx=>by
  rw [visit_eq] at hx
  rcases List.mem_cons.1 hx with rfl | hx
  ·exact ⟨Nat.le_refl _,Nat.le_add_right _ _⟩
  ·have:=visits_sub l p 0 x hx
   simp only [size]
   omega
theorem visits_sub:∀ (l:List Term) (p:List Int) (i:Nat),∀ x∈visits l p i,size x.2≤sizes l∧x.1.length≤p.length+1+sizes l
 | [],p,i,x,hx=>by simp [visits] at hx
 | a :: l,p,i,x,hx=>by
  simp only [visits,List.mem_append] at hx
  simp only [sizes]
  rcases hx with hx | hx
  ·have:=visit_sub a _ x hx
   simp only [List.length_append,List.length_singleton] at this
   omega
  ·have:=visits_sub l _ _ x hx;omega
end
end Go.Dw
end
section
namespace Go.Dw
def nodeOk (n:Str) (v:Bool) (k:Nat):Bool:=if v then decide (k = 0) && isName n false else decide (k≤8) && isName n true
theorem formed_iff {t:Term}:formed t = true ↔ nodeOk t.name t.var t.args.length = true∧∀ a∈t.args,formed a = true:=by
 rw [formed_eq]
 unfold nodeOk
 cases t.var with
 | true =>
  simp only [if_true,Bool.and_eq_true,decide_eq_true_eq]
  refine ⟨fun h=>⟨h,fun a ha=>?_⟩,fun h=>h.1⟩
  rw [List.length_eq_zero_iff.1 h.1] at ha;cases ha
 | false=>simp [and_assoc]
theorem subT_formed:∀ (p:List Int) (t x:Term),subT t p = some x→formed t = true→formed x = true
 | [],t,x,h,ht=>by cases h;exact ht
 | i :: p,t,x,h,ht=>by
  simp only [subT] at h
  split at h
  ·rename_i hi
   exact subT_formed p _ x h ((formed_iff.1 ht).2 _ (getD_mem (by omega)))
  ·cases h
theorem check_iff {t:Term}:check t = 0 ↔ formed t = true∧fits t = true:=by
 unfold check
 cases formed t <;> cases fits t <;> simp
end Go.Dw
end
section
namespace Go.Dw
theorem rens_cTs {σ:Nat→Option Nat} {l:List Term}:(l.map cT).map (rens σ) = l.map cT:=by rw [List.map_map];rfl
end Go.Dw
end
section
namespace Go.Dw
def bothE (r:List ARule) (t:Term):Int:=if checkSystem r ≠ 0 then checkSystem r else check t
theorem rewrite_Both_s (r:List ARule) (t:Term) (hr:rbs r < 2^38) (ht:tb t < 2^38):PF n_rewrite_Both [encRs r,encT t] (.int .i64 (bothE r t)):=by
 refine pf_of rewrite_Both.ok rfl ?_
 unfold bothE
 push_cast
 refine .of (term_CheckSystem_t r hr) ?_
 by_cases h:checkSystem r = 0
 ·rw [if_neg (by simpa using h)]
  push_cast [h]
  refine .of (term_Check_s t (by omega)) ?_
  push_cast
  exact pf_ret (by push_cast [rewrite_Both.rs])
 ·rw [if_pos (by simpa using h)]
  push_cast [h]
  exact pf_ret (by push_cast [rewrite_Both.rs])
end Go.Dw
end
section
namespace Go.Dw
namespace idxEdge
end idxEdge
theorem rens_cSts {σ:Nat→Option Nat} {l:List AStep}:(l.map cSt).map (rens σ) = l.map cSt:=by rw [List.map_map];rfl
attribute [push_cast] rens_cSts
end Go.Dw
end
section
namespace Go.Dw
mutual
def posT:Term→List (List Int)
 | .mk n v l=>[] :: posTs l 0
def posTs:List Term→Nat→List (List Int)
 | [],_=>[]
 | a :: l,i=>(posT a).map ((i:Int) :: ·)++posTs l (i+1)
end
theorem posT_eq (t:Term):posT t = [] :: posTs t.args 0:=by cases t;simp [posT,Term.args]
mutual
theorem visit_pos:∀ (t:Term) (p:List Int),(visit t p).map Prod.fst = (posT t).map (p++·)
 | .mk n v l,p=>by
  simp only [visit,posT,List.map_cons,List.append_nil,visits_pos l p 0]
theorem visits_pos:∀ (l:List Term) (p:List Int) (i:Nat),(visits l p i).map Prod.fst = (posTs l i).map (p++·)
 | [],p,i=>rfl
 | a :: l,p,i=>by
  simp only [visits,posTs,List.map_append,visit_pos a,visits_pos l p (i+1),List.map_map]
  congr 1
  apply List.map_congr_left
  intro q _;simp
end
theorem posTs_append (a b:List Term) (i:Nat):posTs (a++b) i = posTs a i++posTs b (i+a.length):=by
 induction a generalizing i with
 | nil=>simp [posTs]
 | cons x xs ih=>simp only [List.cons_append,posTs,ih,List.append_assoc,List.length_cons];congr 3;omega
theorem posTs_snoc (l:List Term) {k:Nat} (hk:k < l.length):posTs (l.take (k+1)) 0 = posTs (l.take k) 0++(posT (l.getD k default)).map ((k:Int) :: ·):=by
 rw [List.take_succ_eq_append_getElem hk,posTs_append,List.length_take,Nat.min_eq_left (by omega)]
 simp [posTs,List.getD_eq_getElem?_getD,List.getElem?_eq_getElem hk]
theorem posT_len (t:Term):(posT t).length = size t:=by
 have h:=congrArg List.length (visit_pos t [])
 simp only [List.length_map] at h
 rw [← h];exact visit_len t []
theorem posTs_len:∀ (l:List Term) (i:Nat),(posTs l i).length = sizes l
 | [],i=>rfl
 | a :: l,i=>by simp only [posTs,List.length_append,List.length_map,posT_len,posTs_len l (i+1),sizes]
theorem posT_short (t:Term):∀ p∈posT t,p.length≤size t:=by
 intro p hp
 have h:=visit_pos t []
 have:p∈(posT t).map ([]++·):=by simpa using hp
 rw [← h] at this
 obtain ⟨x,hx,rfl⟩:=List.mem_map.1 this
 have:=(visit_sub t [] x hx).2
 simpa using this
theorem own_pos {i:Nat} {l:List (List Int)} {p:List Int}:(.own i 1 (l.map cPp++[[encP p]]):V) = ownL cPp i 1 (l++[p]):=by simp [ownL,cPp]
theorem r01_Positions_s (t:Term) (hs:size t < 2^38):PF n_r01_Positions [encT t] (encPs (posT t)):=by
 induction t using term_ind with
 | h t ih =>
 refine pf_of r01_Positions.ok rfl ?_
 have hst:=size_args t
 have hl:=length_le_sizes t.args
 push_cast
 rw [show (V.own 0 1 [[V.sl 1 []]]:V) = ownL cPp 0 1 ([] :: posTs (t.args.take 0) 0) from rfl]
 refine loop_up (n:=t.args.length) (R:=fun k=>r01_Positions.L6 (ownL cPp 0 1 ([] :: posTs (t.args.take k) 0)) (encTs t.args) (.int .i64 t.args.length) (.int .i64 k) 0 [.arr t_s_int 1 (1+sizes (t.args.take k))] (Ends 0 r01_Positions.rs fun x' H'=>x' = encPs (posT t)∧H' = [])) ?_ ?_ 0 (Nat.zero_le _)
 ·intro k hk ih2
  have hm:=getD_mem hk
  have hsn:=posTs_snoc t.args hk
  have hss:=sizes_take_succ t.args k hk
  have hsl:=sizes_take_le t.args (k+1)
  have hsz:=size_mem hm
  refine r01_Positions.G6 ?_
  generalize hx:t.args.getD k default = a at hm hsn hss hsz
  push_cast [ilt hk,hx]
  refine .of (ih a hm (by omega)) ?_
  push_cast
  have hpl:=posT_len a
  have h0:=loop_up (n:=(posT a).length) (R:=fun j=>r01_Positions.L4 (ownL cPp 0 1 ([] :: (posTs (t.args.take k) 0++((posT a).take j).map ((k:Int) :: ·)))) (.int .i64 k) (encTs t.args) (.int .i64 t.args.length) (.int .i64 k) (encPs (posT a)) (.int .i64 (posT a).length) (.int .i64 j) 0 [.arr t_s_int 1 (1+sizes (t.args.take k)+j),.dead] (Ends 0 r01_Positions.rs fun x' H'=>x' = encPs (posT t)∧H' = [])) ?_ ?_ 0 (Nat.zero_le _)
  ·simp only [List.take_zero,List.map_nil,List.append_nil,Nat.add_zero] at h0
   exact h0
  ·intro j hj ih3
   have hmj:=getD_mem hj
   have hsj:=posT_short a _ hmj
   refine r01_Positions.G4 ?_
   have htk:(posT a).take (j+1) = (posT a).take j++[(posT a).getD j default]:=by rw [List.take_succ_eq_append_getElem hj];simp [List.getD_eq_getElem?_getD,hj]
   generalize hq:(posT a).getD j default = q at hmj hsj htk
   push_cast [ilt hj,hq]
   have e1:(posTs (t.args.take k) 0).length = sizes (t.args.take k):=posTs_len _ _
   have e2:(List.map (fun x=>(k:Int) :: x) ((posT a).take j)).length = j:=by simp;omega
   have e3:(List.map cI q).length = q.length:=by simp
   have e4:∀ X:List (List Int),V.own 0 1 (cPp [] :: (List.map cPp X++[[V.sl 1 ([V.int IntKind.i64 ↑k] :: List.map cI q)]])) = ownL cPp 0 1 ([] :: (X++[(k:Int) :: q])):=fun X=>by simp [ownL,cPp,encL,cI]
   rw [e1,e2,e3,e4,w64 (show j < 2^62 by omega)]
   rw [htk,List.map_append,← List.append_assoc] at ih3
   have hme:maxEls = 140737488355328:=rfl
   refine ⟨by omega,⟨by omega,by omega⟩,?_⟩
   rw [show sizes (t.args.take k)+j+1+1 = 1+sizes (t.args.take k)+(j+1) by omega]
   exact ih3
  ·refine r01_Positions.G4 ?_
   push_cast [inlt (Nat.le_refl _)]
   rw [List.take_length,w64 (show k < 2^62 by omega),← hsn,hpl,Nat.add_assoc,← hss]
   exact ih2
 ·refine r01_Positions.G6 ?_
  push_cast [inlt (Nat.le_refl _)]
  refine pf_ret ?_
  push_cast [r01_Positions.rs,List.take_length,posT_eq t]
  try rfl
end Go.Dw
end
section
namespace Go.Dw
theorem clone_int_p (p:List Int) (hp:p.length < 2^40):PF n_slices_Clone_s_int_int [encP p] (encP p):=by
 refine pf_of slices_Clone_s_int_int.ok rfl ?_
 push_cast
 intro c hc
 refine ⟨fun h=>?_,fun h=>⟨by rw [List.length_map];unfold maxEls;omega,?_⟩⟩
 ·have hp0:p = []:=by simpa using hc (by cases c <;> simp_all)
  subst hp0
  exact pf_ret (by push_cast [slices_Clone_s_int_int.rs];rfl)
 ·exact pf_ret (by push_cast [slices_Clone_s_int_int.rs];rfl)
end Go.Dw
end
section
namespace Go.Dw
def isV (v:Str) (x:List Int × Term):Bool:=x.2.var && decide (x.2.name = v)
def occW (v:Str) (l:List (List Int × Term)):List (List Int):=(l.filter (isV v)).map Prod.fst
def occM (t:Term) (v:Str):List (List Int):=occW v (visit t [])
theorem occW_snoc (v:Str) (l:List (List Int × Term)) (x:List Int × Term):occW v (l++[x]) = if isV v x then occW v l++[x.1] else occW v l:=by
 unfold occW
 rw [List.filter_append,List.map_append]
 cases h:isV v x <;> simp [h]
theorem occW_len (v:Str) (l:List (List Int × Term)):(occW v l).length≤l.length:=by
 unfold occW;rw [List.length_map];exact List.length_filter_le _ _
theorem multi_occurrences_s (t:Term) (v:Str) (hs:size t < 2^38):PF n_multi_occurrences [encT t,.str v] (encPs (occM t v)):=by
 refine pf_of multi_occurrences.ok rfl ?_
 push_cast
 refine .of (term_Walk_s _) ?_
 push_cast
 have hlen:=visit_len t []
 have hss:=visit_sub t []
 refine Run.rf n_term_Walk_1 [] [.ro (cT t) 0] ((visit t []).map encIt) (fun j H1=>H1 = [.cells t_s_s_int [ownL cPp 1 1 (occW v ((visit t []).take j))],.arr t_s_int 1 (occW v ((visit t []).take j)).length]) (fun _ _=>False) rfl (term_Walk_iter t (by omega)) ?_ rfl ?_ ?_ (fun _ _ h=>h.elim) ?_ ?_ (fun _ _ h=>h.elim)
 ·intro it hit
  obtain ⟨x,_,rfl⟩:=List.mem_map.1 hit
  rfl
 ·push_cast
 ·rintro j H1 rfl
  refine ⟨rfl,?_⟩
  push_cast
 ·rintro lo r j it H1 hit rfl
  rw [List.getElem?_map] at hit
  cases hx:(visit t [])[j]? with
  | none=>rw [hx] at hit;cases hit
  | some x =>
  rw [hx] at hit
  have hit:it = encIt x:=by simpa using hit.symm
  subst hit
  have hj:j < (visit t []).length:=(List.getElem?_eq_some_iff.1 hx).1
  have hxj:(visit t [])[j] = x:=(List.getElem?_eq_some_iff.1 hx).2
  have htk:(visit t []).take (j+1) = (visit t []).take j++[x]:=by rw [List.take_succ_eq_append_getElem hj,hxj]
  have hxl:=(hss x (List.mem_of_getElem? hx)).2
  have hol:=occW_len v ((visit t []).take j)
  rw [List.length_take] at hol
  have hsn:=occW_snoc v ((visit t []).take j) x
  rw [← htk] at hsn
  push_cast [setPs,encIt]
  refine run_m.2 ?_
  cases hv:x.2.var with
  | false =>
   have hvs:occW v ((visit t []).take (j+1)) = occW v ((visit t []).take j):=by rw [hsn];simp [isV,hv]
   push_cast [hv]
   refine ⟨rfl,?_⟩
   push_cast [cut,hvs]
  | true =>
   by_cases hn:x.2.name = v
   ·have hvs:occW v ((visit t []).take (j+1)) = occW v ((visit t []).take j)++[x.1]:=by rw [hsn];simp [isV,hv,hn]
    push_cast [hv,hn]
    refine .of (clone_int_p x.1 (by simp at hxl;omega)) ?_
    push_cast
    refine ⟨by unfold maxEls;omega,?_⟩
    rw [own_pos]
    refine ⟨rfl,?_⟩
    push_cast [cut,hvs,List.length_append]
   ·have hvs:occW v ((visit t []).take (j+1)) = occW v ((visit t []).take j):=by rw [hsn];simp [isV,hv,hn]
    push_cast [hv,eq_false hn]
    refine ⟨rfl,?_⟩
    push_cast [cut,hvs]
 ·rintro H1 rfl
  have:(visit t []).take ((visit t []).map encIt).length = visit t []:=by rw [List.length_map,List.take_length]
  rw [this]
  push_cast
  exact pf_ret (by push_cast [multi_occurrences.rs];rfl)
end Go.Dw
end
section
namespace Go.Dw
namespace idxTm
def nd:Nat→C
 | 0=>.seq (.reg [.mv 4 (.i (-1))]) (.ret)
 | 1=>.gh [.ks 0 [0,1,7,8]] (.m 3)
 | 2=>.seq (.blk 1 (.seq (.reg [.mv 10 (.s 8),.mv 5 (.s 10)]) (.seq (.reg [.mv 11 (.s 1),.mv 12 (.s 0),.mv 13 (.s 5),.ia 14 3 (.s 12) (.s 13),.la 15 3 (.s 14),.callv (some 16) (.s 11) [.s 15]]) (.cond (.s 16) (.seq (.reg [.mv 17 (.s 5),.mv 4 (.s 17)]) (.ret)) (.skip))))) (.reg [.bin 18 .add (.s 8) (.i 1),.mv 8 (.s 18)])
 | 3=>.seq (.reg [.bin 9 .lss (.s 8) (.s 7)]) (.seq (.cond (.s 9) (.skip) (.exit 0)) (.n 2))
 | _=>.skip
def body:C:=.seq (.reg [.mv 4 (.i 0)]) (.seq (.seq (.reg [.mv 6 (.s 0),.len 7 (.s 6),.mv 8 (.i 0)]) (.blk 0 (.loop (.n 1)))) (.n 0))
def rs:List RV:=[.t 4]
attribute [push_cast] nd body
theorem ok:okF prog n_slices_IndexFunc_s_Term_Term nd body 2 rs = true:=by kernel_rfl
abbrev L3 (v0 v1 v7 v8:V) (B:Nat) (H:List Ob) (Q:X→T→List Ob→Prop):Prop:=Run prog nd B [.c (.m 3),.c (.loop (.n 1)),.mk 0,.c (.n 0)] [(0,v0),(1,v1),(7,v7),(8,v8)] H Q
theorem G3 {v0 v1 v7 v8:V} {B:Nat} {H:List Ob} {Q:X→T→List Ob→Prop} (h:Run prog nd B [.c (nd 3),.c (.loop (.n 1)),.mk 0,.c (.n 0)] [(0,v0),(1,v1),(7,v7),(8,v8)] H Q):L3 v0 v1 v7 v8 B H Q:=run_m.2 h
end idxTm
namespace cntTm
def nd (_:Nat):C:=.skip
def body:C:=.seq (.reg [.mv 4 (.c (.bool false))]) (.seq (.reg [.mv 5 (.s 0),.mv 6 (.s 1),.call (some 7) n_slices_IndexFunc_s_Term_Term [.s 5,.s 6],.bin 8 .geq (.s 7) (.i 0),.mv 4 (.s 8)]) (.ret))
def rs:List RV:=[.t 4]
attribute [push_cast] nd body
theorem ok:okF prog n_slices_ContainsFunc_s_Term_Term nd body 2 rs = true:=by kernel_rfl
end cntTm
def stF {S:Type} (F:S→Term→S × Bool) (s:S):List Term→S × Bool
 | []=>(s,false)
 | a :: l=>if (F s a).2 then ((F s a).1,true) else stF F (F s a).1 l
def ixF {S:Type} (F:S→Term→S × Bool) (s:S) (k:Nat):List Term→Int
 | []=>-1
 | a :: l=>if (F s a).2 then k else ixF F (F s a).1 (k+1) l
theorem ixF_st {S:Type} (F:S→Term→S × Bool):∀ (l:List Term) (s:S) (k:Nat),0≤ixF F s k l ↔ (stF F s l).2 = true
 | [],s,k=>by simp [ixF,stF]
 | a :: l,s,k=>by
  unfold ixF stF
  by_cases h:(F s a).2 = true
  ·rw [if_pos h,if_pos h];simp
  ·rw [if_neg h,if_neg h];exact ixF_st F l _ _
section
variable {S:Type} {F:S→Term→S × Bool} {Hs:S→List Ob} {Inv:S→Prop} {g n:Nat} {caps:List V} (hn:∀ s,(Hs s).length = n) (hc:rens (clip n) caps = caps) (hH:∀ s,(Hs s).map (renOb (clip n)) = Hs s)
 (l:List Term) (hl:l.length < 2^62) (h:∀ a∈l,∀ s,Inv s→Spec prog g (encT a :: caps) (Hs s) fun x H'=>x = .bool (F s a).2∧H' = Hs (F s a).1) (hi:∀ a∈l,∀ s,Inv s→(F s a).2 = false→Inv (F s a).1)
include hn hc hH hl h hi
theorem IndexFunc_st (s0:S) (h0:Inv s0):Spec prog n_slices_IndexFunc_s_Term_Term [encTs l,.fn (.func g) [] caps] (Hs s0) fun x H'=>x = .int .i64 (ixF F s0 0 l)∧H' = Hs (stF F s0 l).1:=by
 have htk:∀ s,(Hs s).take n = Hs s:=fun s=>List.take_of_length_le (by rw [hn];exact Nat.le_refl _)
 refine spec_of_run mixed idxTm.ok rfl ?_
 push_cast [hc,hH,hn,htk]
 refine loop_up (n:=l.length) (R:=fun k=>∀ s,Inv s→ixF F s k (l.drop k) = ixF F s0 0 l→stF F s (l.drop k) = stF F s0 l→idxTm.L3 (encTs l) (.fn (.func g) [] caps) (.int .i64 l.length) (.int .i64 k) n (Hs s) (Ends n idxTm.rs fun x H'=>x = .int .i64 (ixF F s0 0 l)∧H' = Hs (stF F s0 l).1)) ?_ ?_ 0 (Nat.zero_le _) s0 h0 rfl rfl
 ·intro k hk ih s hs hq1 hq2
  refine idxTm.G3 ?_
  have hm:=getD_mem hk
  rw [drop_getD hk] at hq1 hq2
  generalize hx:l.getD k default = a at hm hq1 hq2
  simp only [ixF,stF] at hq1 hq2
  push_cast [ilt hk,hx]
  refine CallG.all (R:=fun x H'=>x = .bool (F s a).2∧H' = Hs (F s a).1) (h a hm s hs) ?_
  rintro x H' ⟨rfl,rfl⟩
  cases hp:(F s a).2 with
  | true =>
   rw [hp,if_pos rfl] at hq1 hq2
   push_cast
   exact ends_all (.inl rfl) rfl ⟨by rw [← hq1];rfl,by rw [← hq2]⟩
  | false =>
   rw [hp,if_neg (by simp)] at hq1 hq2
   push_cast [hc,hH,hn,htk,w64 (show k < 2^62 by omega)]
   have:=ih _ (hi a hm s hs hp) hq1 hq2
   push_cast at this
   exact this
 ·intro s hs hq1 hq2
  refine idxTm.G3 ?_
  push_cast [inlt (Nat.le_refl _)]
  rw [drop_map_none] at hq1 hq2
  exact ends_all (.inl rfl) rfl ⟨by rw [← hq1];rfl,by rw [← hq2];rfl⟩
theorem ContainsFunc_st (s0:S) (h0:Inv s0):Spec prog n_slices_ContainsFunc_s_Term_Term [encTs l,.fn (.func g) [] caps] (Hs s0) fun x H'=>x = .bool (stF F s0 l).2∧H' = Hs (stF F s0 l).1:=by
 refine spec_of_run mixed cntTm.ok rfl ?_
 push_cast
 refine CallG.all (R:=fun x H'=>x = .int .i64 (ixF F s0 0 l)∧H' = Hs (stF F s0 l).1) (IndexFunc_st hn hc hH l hl h hi s0 h0) ?_
 rintro x H' ⟨rfl,rfl⟩
 push_cast
 have hd:decide (0≤ixF F s0 0 l) = (stF F s0 l).2:=by
  have:=ixF_st F l s0 0
  cases hq:(stF F s0 l).2 with
  | true=>rw [hq] at this;simpa using this
  | false=>rw [hq] at this;simpa using this
 rw [hn]
 exact ends_all (.inl rfl) rfl ⟨by rw [← hd];rfl,rfl⟩
end
mutual
def cntT (n:Int):Term→Int × Bool
 | .mk _ _ l=>if n - 1 < 0 then (n - 1,true) else cntTs (n - 1) l
def cntTs (n:Int):List Term→Int × Bool
 | []=>(n,false)
 | a :: l=>if (cntT n a).2 then ((cntT n a).1,true) else cntTs (cntT n a).1 l
end
theorem cntT_eq (n:Int) (t:Term):cntT n t = if n - 1 < 0 then (n - 1,true) else cntTs (n - 1) t.args:=by cases t;rfl
theorem cntTs_st (n:Int) (l:List Term):cntTs n l = stF cntT n l:=by
 induction l generalizing n with
 | nil=>rfl
 | cons a l ih=>simp only [cntTs,stF,ih]
mutual
theorem cntT_law:∀ (t:Term) (n:Int),0≤n→((size t:Int)≤n→cntT n t = (n - size t,false))∧(n < (size t:Int)→(cntT n t).2 = true)
 | .mk x v l,n,hn=>by
  have hs:size (.mk x v l) = 1+sizes l:=rfl
  rw [hs]
  simp only [cntT]
  by_cases h:n - 1 < 0
  ·rw [if_pos h]
   exact ⟨fun h2=>by omega,fun _=>rfl⟩
  ·rw [if_neg h]
   have:=cntTs_law l (n - 1) (by omega)
   refine ⟨fun h2=>?_,fun h2=>this.2 (by omega)⟩
   rw [this.1 (by omega)]
   congr 1;omega
theorem cntTs_law:∀ (l:List Term) (n:Int),0≤n→((sizes l:Int)≤n→cntTs n l = (n - sizes l,false))∧(n < (sizes l:Int)→(cntTs n l).2 = true)
 | [],n,hn=>⟨fun _=>by simp [cntTs,sizes],fun h=>by simp [sizes] at h;omega⟩
 | a :: l,n,hn=>by
  have hs:sizes (a :: l) = size a+sizes l:=rfl
  rw [hs]
  simp only [cntTs]
  have h1:=cntT_law a n hn
  by_cases h2:(size a:Int)≤n
  ·have h3:=cntTs_law l (n - size a) (by omega)
   rw [h1.1 h2]
   simp only [Bool.false_eq_true,if_false]
   refine ⟨fun h4=>?_,fun h4=>h3.2 (by omega)⟩
   rw [h3.1 (by omega)]
   congr 1;omega
  ·rw [h1.2 (by omega),if_pos rfl]
   exact ⟨fun h4=>by omega,fun _=>rfl⟩
end
theorem cntT_inv {n:Int} {t:Term} (hn:0≤n∧n≤4000) (h:(cntT n t).2 = false):0≤(cntT n t).1∧(cntT n t).1≤4000:=by
 have:=cntT_law t n hn.1
 by_cases h2:(size t:Int)≤n
 ·rw [this.1 h2];simp;omega
 ·rw [this.2 (by omega)] at h;cases h
mutual
def wide:Term→Nat
 | .mk _ _ l=>max l.length (wides l)
def wides:List Term→Nat
 | []=>0
 | a :: l=>max (wide a) (wides l)
end
theorem wide_args (t:Term):t.args.length≤wide t∧wides t.args≤wide t:=by cases t;simp only [wide,Term.args];omega
theorem wide_mem {l:List Term} {a:Term} (h:a∈l):wide a≤wides l:=by
 induction l with
 | nil=>cases h
 | cons x xs ih=>rcases List.mem_cons.1 h with rfl | h <;> simp only [wides];omega;have:=ih h;omega
def largeH (n:Int):List Ob:=[.cells t_int [.int .i64 n],.cells t_func_Term_bool [.fn (.func n_multi_large_1) [] [.ptr 0 0,.ptr 1 0]]]
theorem largeH_keep (n:Int):(largeH n).map (renOb (clip 2)) = largeH n:=rfl
theorem multi_large_1_s (W:Nat) (hW:W < 2^60) (t:Term) (hw:wide t≤W):∀ n:Int,0≤n∧n≤4000→Spec prog n_multi_large_1 [encT t,.ptr 0 0,.ptr 1 0] (largeH n) fun x H'=>x = .bool (cntT n t).2∧H' = largeH (cntT n t).1:=by
 induction t using term_ind with
 | h t ih =>
 intro n hn
 have hwa:=wide_args t
 have hw1:IntKind.i64.wrap (n - 1) = n - 1:=wrap64 (by omega) (by omega)
 refine spec_of_run mixed multi_large_1.ok rfl ?_
 rw [cntT_eq]
 by_cases h:n - 1 < 0
 ·rw [if_pos h]
  unfold largeH
  push_cast [hw1,eq_true h]
  exact ends_all (.inl rfl) rfl ⟨rfl,rfl⟩
 ·rw [if_neg h,cntTs_st]
  have hC:=ContainsFunc_st (S:=Int) (F:=cntT) (Hs:=largeH) (Inv:=fun n=>0≤n∧n≤4000) (g:=n_multi_large_1) (n:=2) (caps:=[.ptr 0 0,.ptr 1 0]) (fun _=>rfl) rfl largeH_keep t.args (by omega)
   (fun a ha s hs=>ih a ha (by have:=wide_mem ha;omega) s hs) (fun a ha s hs hf=>cntT_inv hs hf) (n - 1) (by omega)
  unfold largeH at hC ⊢
  push_cast [hw1,eq_false h]
  refine CallG.all (R:=fun x H'=>x = .bool (stF cntT (n - 1) t.args).2∧H' = [.cells t_int [.int .i64 (stF cntT (n - 1) t.args).1],.cells t_func_Term_bool [.fn (.func n_multi_large_1) [] [.ptr 0 0,.ptr 1 0]]]) hC ?_
  rintro x H' ⟨rfl,rfl⟩
  push_cast
  exact ends_all (.inl rfl) rfl ⟨rfl,rfl⟩
theorem multi_large_s (t:Term) (hw:wide t < 2^60):PF n_multi_large [encT t] (.bool (decide (4000 < size t))):=by
 refine pf_of multi_large.ok rfl ?_
 push_cast
 have hL:=multi_large_1_s _ hw t (Nat.le_refl _) 4000 (by omega)
 unfold largeH at hL
 refine CallG.all (R:=fun x H'=>x = .bool (cntT 4000 t).2∧H' = [.cells t_int [.int .i64 (cntT 4000 t).1],.cells t_func_Term_bool [.fn (.func n_multi_large_1) [] [.ptr 0 0,.ptr 1 0]]]) hL ?_
 rintro x H' ⟨rfl,rfl⟩
 push_cast
 refine pf_ret ?_
 push_cast [multi_large.rs]
 have:=cntT_law t 4000 (by omega)
 by_cases h:4000 < size t
 ·rw [this.2 (by omega)];simpa using h
 ·rw [this.1 (by omega)];simpa using h
end Go.Dw
end
section
namespace Go.Dw
mutual
theorem visit_at:∀ (t:Term) (p:List Int),∀ x∈visit t p,∃ q,x.1 = p++q∧subT t q = some x.2
 | .mk n v l,p,x,hx=>by
  simp only [visit] at hx
  rcases List.mem_cons.1 hx with rfl | hx
  ·exact ⟨[],by simp,rfl⟩
  ·obtain ⟨k,q,h1,h2,h3⟩:=visits_at l p 0 x hx
   refine ⟨(k:Int) :: q,by simpa using h1,?_⟩
   rw [show subT (.mk n v l) ((k:Int) :: q) = if 0≤(k:Int)∧(k:Int) < l.length then subT (l.getD (k:Int).toNat default) q else none from rfl,if_pos ⟨by omega,by omega⟩]
   simpa using h3
theorem visits_at:∀ (l:List Term) (p:List Int) (i:Nat),∀ x∈visits l p i,∃ (k:Nat) (q:List Int),x.1 = p++((i+k:Nat):Int) :: q∧k < l.length∧subT (l.getD k default) q = some x.2
 | [],p,i,x,hx=>by simp [visits] at hx
 | a :: l,p,i,x,hx=>by
  simp only [visits,List.mem_append] at hx
  rcases hx with hx | hx
  ·obtain ⟨q,h1,h2⟩:=visit_at a _ x hx
   exact ⟨0,q,by simpa using h1,by simp,by simpa using h2⟩
  ·obtain ⟨k,q,h1,h2,h3⟩:=visits_at l p (i+1) x hx
   refine ⟨k+1,q,?_,by simp;omega,by simpa using h3⟩
   rw [h1];congr 3;omega
end
section
variable {P:Program} {N:Nat→C} {B:Nat} {ds:List Nat} {g l:List S} {s:List K} {t:T} {H:List Ob} {Q:X→T→List Ob→Prop}
theorem gP_tt:gP P N B true ds g l s t H Q (.bool true) = Run P N B (.r (g++l) :: s) t H Q:=by simp [gP]
theorem gP_ff:gP P N B false ds g l s t H Q (.bool false) = Run P N B (.r (g++l) :: s) t H Q:=by simp [gP]
theorem gP_tf:gP P N B true ds g l s t H Q (.bool false) = Run P N B (.r l :: s) (ds.map (fun d=>(d,V.tup []))++t) H Q:=by simp [gP]
theorem gP_ft:gP P N B false ds g l s t H Q (.bool true) = Run P N B (.r l :: s) (ds.map (fun d=>(d,V.tup []))++t) H Q:=by simp [gP]
theorem cP_t {a b:C}:cP P N B a b s t H Q (.bool true) = Run P N B (.c a :: s) t H Q:=by simp [cP]
theorem cP_f {a b:C}:cP P N B a b s t H Q (.bool false) = Run P N B (.c b :: s) t H Q:=by simp [cP]
end
end Go.Dw
end
section
namespace Go.Dw
theorem checkSystem_nv {r:List ARule} (h:checkSystem r = 0):∀ x∈r,x.left.var = false:=by
 unfold checkSystem at h
 split at h
 ·rename_i h1;exact absurd h h1
 ·split at h
  ·cases h
  ·split at h
   ·cases h
   ·split at h
    ·cases h
    ·rename_i h3
     intro x hx
     have h4:extra x = false:=by
      cases he:extra x with
      | false=>rfl
      | true=>exact absurd (List.any_eq_true.2 ⟨x,hx,he⟩) h3
     unfold extra at h4
     simp only [Bool.or_eq_false_iff] at h4
     exact h4.1
end Go.Dw
end
section
namespace Go.Dw
theorem occ_eq (v:Str) (t:Term):occ v t = ((t.var && decide (t.name = v)) || occs v t.args):=by cases t;rfl
theorem occs_mem {v:Str} {l:List Term} {a:Term} (h:a∈l) (ho:occ v a = true):occs v l = true:=by
 induction l with
 | nil=>cases h
 | cons x xs ih =>
  simp only [occs,Bool.or_eq_true]
  rcases List.mem_cons.1 h with rfl | h
  ·exact .inl ho
  ·exact .inr (ih h)
theorem occ_arg {v:Str} {t a:Term} (h:a∈t.args) (ho:occ v a = true):occ v t = true:=by rw [occ_eq,occs_mem h ho,Bool.or_true]
theorem occ_self {t:Term} (h:t.var = true):occ t.name t = true:=by rw [occ_eq,h];simp
theorem multi_plug_s (vars:List Str) (x:List Term) (hva:vars.length≤x.length) (hl:vars.length < 2^40) (t:Term) (ht:size t < 2^40) (ho:∀ v,occ v t = true→v∈vars):PF n_multi_plug [encT t,encSs vars,encTs x] (encT (plugT vars x t)):=by
 induction t using term_ind with
 | h t ih =>
 have hst:=size_args t
 have hll:=length_le_sizes t.args
 refine pf_of multi_plug.ok rfl ?_
 rw [plugT_eq]
 cases hv:t.var with
 | true =>
  obtain ⟨h1,h2,h3⟩:=idxI_ix (ho _ (occ_self hv))
  have hI:=slices_Index_str_s vars t.name (by omega)
  rw [h1] at hI
  have hlt:((ixS t.name vars:Int) < (x.length:Int)) = True:=eq_true (by omega)
  push_cast [hv]
  refine .of hI ?_
  push_cast [hlt]
  exact pf_ret (by push_cast [multi_plug.rs])
 | false =>
  push_cast [hv]
  refine loop_up (n:=t.args.length) (R:=fun k=>multi_plug.L3 (encSs vars) (encTs x) (.ptr 0 0) (.ptr 1 0) (encTs t.args) (.int .i64 t.args.length) (.int .i64 k) 0 [.cells t_Term [.str [],.bool false,.sl 3 []],.cells t_Term [.str t.name,.bool false,ownL cT 2 3 ((t.args.take k).map (plugT vars x))],.arr t_Term 3 k] _) ?_ ?_ 0 (by omega)
  ·intro k hk ih2
   have hm:=getD_mem hk
   have hm2:=size_mem hm
   have hlen:((t.args.take k).map (plugT vars x)).length = k:=by simp;omega
   rw [take_succ_getD hk,List.map_append,List.map_singleton] at ih2
   refine multi_plug.G3 ?_
   push_cast [ilt hk]
   refine .of (ih _ hm (by omega) fun v hv2=>ho v (occ_arg hm hv2)) ?_
   push_cast [hlen,w64 (show k < 2^62 by omega)]
   exact ⟨Nat.le_trans (Nat.mul_le_mul_right 48 (show _≤2^41 by omega)) (by unfold maxEls;decide),ih2⟩
  ·refine multi_plug.G3 ?_
   push_cast [inlt (Nat.le_refl _)]
   refine pf_ret ?_
   push_cast [multi_plug.rs,List.take_length,cT_mk]
   try rfl
theorem multi_side_s (r:List ARule) (f:ARule→Term) (g:Nat) (hr:rbs r < 2^38) (hof:∀ x∈r,PF g [encR x] (encT (f x))) (hsz:∀ x∈r,size (f x) < 2^40) (hvs:∀ x∈r,∀ v,occ v (f x) = true→v∈varsOf [x.left]) (m:AMulti) (hok:OkM r m) (hm:msize m < 2^39) :
  PF n_multi_side [encRs r,encM m,.fn (.func g) [] []] (encT (sideM r f m)):=by
 induction m using multi_ind with
 | h m ih =>
 have hst:=msize_args m
 have hll:=length_le_msizes m.args
 refine pf_of multi_side.ok rfl ?_
 rw [sideM_eq]
 push_cast
 refine loop_up (n:=m.args.length) (R:=fun k=>multi_side.L4 (encRs r) (.fn (.func g) [] []) (.ro (cM m) 0) (.ptr 0 0) (ownL cT 1 3 ((m.args.take k).map (sideM r f))) (encMs m.args) (.int .i64 m.args.length) (.int .i64 k) 0 [.cells t_Term [.str [],.bool false,.sl 3 []],.arr t_Term 3 k] _) ?_ ?_ 0 (by omega)
 ·intro k hk ih2
  have hmm:=getD_mem hk
  have hm2:=msize_mem hmm
  have hlen:((m.args.take k).map (sideM r f)).length = k:=by simp;omega
  rw [take_succ_getD hk,List.map_append,List.map_singleton] at ih2
  refine multi_side.G4 ?_
  push_cast [ilt hk]
  refine .of (ih _ hmm (hok.arg hmm) (by omega)) ?_
  push_cast [hlen,w64 (show k < 2^62 by omega)]
  exact ⟨Nat.le_trans (Nat.mul_le_mul_right 48 (show _≤2^41 by omega)) (by unfold maxEls;decide),ih2⟩
 ·refine multi_side.G4 ?_
  push_cast [inlt (Nat.le_refl _),List.take_length]
  by_cases h0:m.rule = 0
  ·push_cast [eq_true h0]
   refine pf_ret ?_
   push_cast [multi_side.rs]
   show V.agg [.str m.name,.bool m.var,encTs (m.args.map (sideM r f))] = encT (.mk m.name m.var (m.args.map (sideM r f)))
   unfold encT;rw [cT_eq];rfl
  ·obtain ⟨k1,k2,k3,k4,k5,k6⟩:=hok.rule h0
   have hw:IntKind.i64.wrap (m.rule - 1) = m.rule - 1:=wrap64 (by have:=length_le_rbs r;omega) (by have:=length_le_rbs r;omega)
   have hc1:((0:Int)≤m.rule - 1) = True:=eq_true (by omega)
   have hc2:(m.rule - 1 < (r.length:Int)) = True:=eq_true (by omega)
   have hru:r.getD (m.rule - 1).toNat default = ruleOf r m:=rfl
   have hrm:=rbs_mem k3
   have hsl:=size_le_tb (ruleOf r m).left
   have hV:=term_VarsOf_s [(ruleOf r m).left] (by simp [sizes];omega)
   push_cast [eq_false h0,hw,hc1,hc2,hru]
   refine .of (hof _ k3) ?_
   push_cast
   refine .of hV ?_
   push_cast
   refine .of (multi_plug_s (varsOf [(ruleOf r m).left]) (m.args.map (sideM r f)) (by rw [List.length_map,k4];exact Nat.le_refl _) (by rw [← k4];omega) _ (hsz _ k3) (hvs _ k3)) ?_
   push_cast
   exact pf_ret (by push_cast [multi_side.rs])
theorem wides_map {α:Type} {f:α→Term} {W:Nat}:∀ {l:List α},(∀ a∈l,wide (f a)≤W)→wides (l.map f)≤W
 | [],_=>by simp [wides]
 | a :: l,h=>by
  simp only [List.map_cons,wides]
  have h1:=h a (by simp)
  have h2:=wides_map (f:=f) (l:=l) fun b hb=>h b (by simp [hb])
  omega
theorem wides_getD {l:List Term} {k:Nat}:wide (l.getD k default)≤wides l:=by
 by_cases h:k < l.length
 ·exact wide_mem (getD_mem h)
 ·rw [List.getD_eq_getElem?_getD,List.getElem?_eq_none (by omega)]
  exact Nat.zero_le _
theorem wide_plug (vars:List Str) (x:List Term) (t:Term):wide (plugT vars x t)≤max (wides x) (size t):=by
 induction t using term_ind with
 | h t ih =>
  rw [plugT_eq]
  have hst:=size_args t
  have hll:=length_le_sizes t.args
  split
  ·have:=wides_getD (l:=x) (k:=ixS t.name vars);omega
  ·simp only [wide,List.length_map]
   have:=wides_map (f:=plugT vars x) (W:=max (wides x) (size t)) (l:=t.args) fun a ha=>by
    have:=ih a ha
    have:=size_mem ha
    omega
   omega
theorem wide_side (r:List ARule) (f:ARule→Term) {W:Nat} (hsz:∀ x∈r,size (f x)≤W) (m:AMulti) (hok:OkM r m) (hm:msize m≤W):wide (sideM r f m)≤W:=by
 induction m using multi_ind with
 | h m ih =>
  rw [sideM_eq]
  have hst:=msize_args m
  have hll:=length_le_msizes m.args
  have hw:=wides_map (f:=sideM r f) (W:=W) (l:=m.args) fun a ha=>ih a ha (hok.arg ha) (by have:=msize_mem ha;omega)
  split
  ·simp only [wide,List.length_map];omega
  ·rename_i h0
   have:=wide_plug (varsOf [(ruleOf r m).left]) (m.args.map (sideM r f)) (f (ruleOf r m))
   have:=hsz _ (hok.rule h0).2.2.1
   omega
theorem multi_end_s (r:List ARule) (f:ARule→Term) (g:Nat) (m:AMulti) (hr:rbs r < 2^38) (hm:mb m < 2^38) (hof:∀ x∈r,PF g [encR x] (encT (f x))) (hsz:∀ x∈r,size (f x) < 2^40) (hvs:checkSystem r = 0→∀ x∈r,∀ v,occ v (f x) = true→v∈varsOf [x.left]) :
  PF n_multi_end [encRs r,encM m,.fn (.func g) [] []] (encTE (endM r f m).1 (endM r f m).2):=by
 have hmz:=msize_le_mb m
 refine pf_of multi_end.ok rfl ?_
 push_cast
 refine .of (multi_Check_s r m hr (by omega)) ?_
 unfold endM
 by_cases h1:¬ checkM r m = 0
 ·rw [if_pos h1]
  push_cast [eq_false h1]
  exact pf_ret (by push_cast [multi_end.rs];rfl)
 have h1:checkM r m = 0:=Classical.not_not.1 h1
 rw [if_neg (by simpa using h1)]
 obtain ⟨c1,c2,c3,c4⟩:=checkM_ok h1
 have hS:=multi_side_s r f g hr hof hsz (hvs c1) m c2 (by omega)
 have hwd:=wide_side r f (W:=2^40) (fun x hx=>by have:=hsz x hx;omega) m c2 (by omega)
 generalize sideM r f m = t at hS hwd
 push_cast [h1]
 refine .of hS ?_
 push_cast
 refine .of (multi_large_s t (by omega)) ?_
 by_cases h2:4000 < size t
 ·have hf:fits t = false:=by unfold fits;simp;omega
  rw [hf]
  push_cast [eq_true h2]
  exact pf_ret (by push_cast [multi_end.rs];rfl)
 ·push_cast [eq_false h2]
  refine .of (term_Own_s t (by omega)) ?_
  push_cast
  refine .of (term_Fit_s t (by omega)) ?_
  cases hf:fits t with
  | true =>
   rw [if_pos rfl,if_pos rfl]
   unfold encTE
   push_cast
   exact pf_ret (by push_cast [multi_end.rs];try rfl)
  | false =>
   rw [if_neg (by simp),if_neg (by simp)]
   unfold encTE
   push_cast
   exact pf_ret (by push_cast [multi_end.rs];try rfl)
theorem varsOf_left (x:ARule):∀ v,occ v x.left = true→v∈varsOf [x.left]:=fun v h=>(mem_varsOf v x.left).2 h
theorem varsOf_right {r:List ARule} (h:checkSystem r = 0):∀ x∈r,∀ v,occ v x.right = true→v∈varsOf [x.left]:=by
 unfold checkSystem at h
 split at h
 ·rename_i h1;exact absurd h h1
 ·split at h
  ·cases h
  ·split at h
   ·cases h
   ·split at h
    ·cases h
    ·rename_i h3
     intro x hx v hv
     have h4:extra x = false:=by
      cases he:extra x with
      | false=>rfl
      | true=>exact absurd (List.any_eq_true.2 ⟨x,hx,he⟩) h3
     unfold extra at h4
     simp only [Bool.or_eq_false_iff] at h4
     have:=List.any_eq_false.1 h4.2 v ((mem_varsOf v x.right).2 hv)
     simpa using this
theorem multi_Source_1_s (x:ARule):PF n_multi_Source_1 [encR x] (encT x.left):=by
 refine pf_of multi_Source_1.ok rfl ?_
 push_cast
 exact pf_ret (by push_cast [multi_Source_1.rs];try rfl)
theorem multi_Target_1_s (x:ARule):PF n_multi_Target_1 [encR x] (encT x.right):=by
 refine pf_of multi_Target_1.ok rfl ?_
 push_cast
 exact pf_ret (by push_cast [multi_Target_1.rs];try rfl)
theorem multi_Source_s (r:List ARule) (m:AMulti) (hr:rbs r < 2^38) (hm:mb m < 2^38):PF n_multi_Source [encRs r,encM m] (encTE (endM r ARule.left m).1 (endM r ARule.left m).2):=by
 refine pf_of multi_Source.ok rfl ?_
 have hE:=multi_end_s r ARule.left n_multi_Source_1 m hr hm (fun x _=>multi_Source_1_s x) (fun x hx=>by have:=rbs_mem hx;have:=size_le_tb x.left;omega) (fun _ x _=>varsOf_left x)
 push_cast
 refine .of hE ?_
 generalize (endM r ARule.left m) = p
 obtain ⟨o,e⟩:=p
 cases o <;> (unfold encTE;push_cast;exact pf_ret (by push_cast [multi_Source.rs];try rfl))
theorem multi_Target_s (r:List ARule) (m:AMulti) (hr:rbs r < 2^38) (hm:mb m < 2^38):PF n_multi_Target [encRs r,encM m] (encTE (endM r ARule.right m).1 (endM r ARule.right m).2):=by
 refine pf_of multi_Target.ok rfl ?_
 have hE:=multi_end_s r ARule.right n_multi_Target_1 m hr hm (fun x _=>multi_Target_1_s x) (fun x hx=>by have:=rbs_mem hx;have:=size_le_tb x.right;omega) (fun h=>varsOf_right h)
 push_cast
 refine .of hE ?_
 generalize (endM r ARule.right m) = p
 obtain ⟨o,e⟩:=p
 cases o <;> (unfold encTE;push_cast;exact pf_ret (by push_cast [multi_Target.rs];try rfl))
end Go.Dw
end
section
namespace Go.Proofs
open Go.RowKit
set_option maxHeartbeats 4000000 in
set_option maxRecDepth 100000 in
theorem Tryz.len64_2 (w:World):Calls Tryz.prog 105 #[.int .u64 2] w fun e w'=>e = .returned (.int .i64 2)∧w' = w:=by
 go_enter Tryz.func105,Tryz.ntmps105
 go_wp2
 go_ret
 exact ⟨by kernel_rfl,rfl⟩
set_option maxHeartbeats 4000000 in
set_option maxRecDepth 100000 in
theorem Tryz.len_2 (w:World):Calls Tryz.prog 50 #[.int .u64 2] w fun e w'=>e = .returned (.int .i64 2)∧w' = w:=by
 have hm:=Tryz.len64_2
 go_enter Tryz.func50,Tryz.ntmps50
 go_wp2_with (go_at_call 105;refine (hm _).mono ?_;rintro e w' ⟨rfl,rfl⟩)
 go_ret
 exact ⟨rfl,rfl⟩
end Go.Proofs
namespace Go.Dw
open Go.Proofs
theorem len_in (args:Array Value) (w:World):(callFunc 50 args).run Tryz.prog w = .ok (.enter 50 args) w:=enters_of (P:=Tryz.prog) Tryz.func50 (by kernel_rfl) rfl args w
theorem bits_Len_2:PF n_bits_Len [.int .u64 2] (.int .i64 2):=by
 intro c vs hH hc hr
 obtain ⟨v,vs1,rfl,h1,h2⟩:=hr
 have h1:v = .int .u64 2:=h1
 have h2:vs1 = []:=h2
 subst h1;subst h2
 left
 refine ⟨len_in _ _,?_⟩
 refine (Tryz.len_2 c.w).mono ?_
 rintro e w' ⟨rfl,rfl⟩
 exact ⟨_,.int .i64 2,c,rfl,rfl,⟨rfl,hH⟩,hc,rfl,.refl c⟩
end Go.Dw
end
section
namespace Go.Dw
def vX:Term:=.mk [120] true []
def tA:Term:=.mk [97] false []
def fT (t:Term):Term:=.mk [102] false [t]
def gT (t u:Term):Term:=.mk [103] false [t,u]
def dbl:List ARule:=[⟨fT vX,gT vX vX⟩]
def mA:AMulti:=.mk 0 [97] false []
def mF (m:AMulti):AMulti:=.mk 1 [] false [m]
def m0:AMulti:=mF (mF mA)
theorem dbl_rbs:rbs dbl < 2^28:=by decide
theorem vars_f:varsOf [fT vX] = [[120]]:=by
 unfold varsOf
 have:vsetT [] [fT vX] = [[120]]:=by decide
 rw [this]
 unfold Proofs.sortS
 exact List.mergeSort_of_pairwise (by decide)
theorem run_vars:PF n_term_VarsOf [encTs [fT vX]] (encSs [[120]]):=by
 have:=term_VarsOf_s [fT vX] (by decide)
 rwa [vars_f] at this
theorem run_occ:PF n_multi_occurrences [encT (fT vX),.str [120]] (encPs [[0]]):=multi_occurrences_s (fT vX) [120] (by decide)
theorem run_cat (a b:List Int) (ha:a.length+b.length < 2^40):PF n_slices_Concat_s_int_int [encPs [a,b]] (encP (a++b)):=by
 have:=slices_Concat_s [a,b] (by simp) (by simpa using ha)
 simpa using this
theorem ok_m0:checkM dbl m0 = 0:=by decide +kernel
theorem end_l:endM dbl ARule.left m0 = (some (fT (fT tA)),0):=by decide +kernel
theorem end_r:endM dbl ARule.right m0 = (some (gT (gT tA tA) (gT tA tA)),0):=by decide +kernel
theorem run_src:PF n_multi_Source [encRs dbl,encM m0] (encTE (some (fT (fT tA))) 0):=by
 have:=multi_Source_s dbl m0 (by decide) (by decide)
 rwa [end_l] at this
theorem run_do (t u:Term) (s:AStep) (h:doE dbl t s = (some u,0)) (ht:tb t < 2^20) (hp:s.pos.length < 2^40):PF n_rewrite_Do [encRs dbl,encT t,encSt s] (encTE (some u) 0):=by
 have:=rewrite_Do_s dbl t s dbl_rbs (by omega) hp fun x hx=>by have:=setT_size s.pos t x;have:=fits_size hx;have:=size_le_tb t;omega
 rwa [h] at this
theorem do_1:doE dbl (fT (fT tA)) ⟨0,[]⟩ = (some (gT (fT tA) (fT tA)),0):=by decide +kernel
theorem do_2:doE dbl (gT (fT tA) (fT tA)) ⟨0,[0]⟩ = (some (gT (gT tA tA) (fT tA)),0):=by decide +kernel
theorem do_3:doE dbl (gT (gT tA tA) (fT tA)) ⟨0,[1]⟩ = (some (gT (gT tA tA) (gT tA tA)),0):=by decide +kernel
theorem do_4:doE dbl (fT (fT tA)) ⟨0,[0]⟩ = (some (fT (gT tA tA)),0):=by decide +kernel
theorem do_5:doE dbl (fT (gT tA tA)) ⟨0,[]⟩ = (some (gT (gT tA tA) (gT tA tA)),0):=by decide +kernel
def tab17:List PK:=[⟨_,_,pOne_ok run_vars⟩,⟨_,_,pOne_ok run_occ⟩,⟨_,_,pOne_ok (run_cat [] [0] (by decide))⟩,⟨_,_,pOne_ok (run_cat [] [1] (by decide))⟩,⟨_,_,pOne_ok (run_cat [0] [0] (by decide))⟩,⟨_,_,pOne_ok run_src⟩,
 ⟨_,_,pOne_ok (run_do _ _ _ do_1 (by decide) (by decide))⟩,⟨_,_,pOne_ok (run_do _ _ _ do_2 (by decide) (by decide))⟩,⟨_,_,pOne_ok (run_do _ _ _ do_3 (by decide) (by decide))⟩,⟨_,_,pOne_ok (run_do _ _ _ do_4 (by decide) (by decide))⟩,⟨_,_,pOne_ok (run_do _ _ _ do_5 (by decide) (by decide))⟩,⟨_,_,pOne_ok bits_Len_2⟩]
def chV:V:=.tup [encC ⟨fT (fT tA),[⟨0,[]⟩,⟨0,[0]⟩,⟨0,[1]⟩]⟩,.int .i64 0]
def inV:V:=.tup [encC ⟨fT (fT tA),[⟨0,[0]⟩,⟨0,[]⟩]⟩,.int .i64 0]
def stV:V:=.tup [encSts [⟨0,[]⟩,⟨0,[0]⟩],.int .i64 0]
theorem ch_run:yields (callI code (primsOf tab17) (go code (primsOf tab17) 100000) true n_multi_Chain [encRs dbl,encM m0] []) chV = true:=by kernel_rfl
theorem in_run:yields (callI code (primsOf tab17) (go code (primsOf tab17) 100000) true n_multi_Inner [encRs dbl,encM m0] []) inV = true:=by kernel_rfl
theorem st_run:yields (callI code (primsOf tab17) (go code (primsOf tab17) 100000) true n_multi_Steps [encRs dbl,encM m0] []) stV = true:=by kernel_rfl
end Go.Dw
end
section
namespace Go.Dw
section
variable {P:Program} {N:Nat→C} {B:Nat} {ds:List Nat} {g l:List S} {s:List K} {t:T} {H:List Ob} {Q:X→T→List Ob→Prop}
theorem gK_tt:gP P N B true ds g l s t H Q (.bool true) = Run P N B (.r (g++l) :: s) t H Q:=by simp [gP]
theorem gK_ff:gP P N B false ds g l s t H Q (.bool false) = Run P N B (.r (g++l) :: s) t H Q:=by simp [gP]
theorem gK_tf:gP P N B true ds g l s t H Q (.bool false) = Run P N B (.r l :: s) (ds.map (fun d=>(d,V.tup []))++t) H Q:=by simp [gP]
theorem gK_ft:gP P N B false ds g l s t H Q (.bool true) = Run P N B (.r l :: s) (ds.map (fun d=>(d,V.tup []))++t) H Q:=by simp [gP]
theorem cK_t {a b:C}:cP P N B a b s t H Q (.bool true) = Run P N B (.c a :: s) t H Q:=by simp [cP]
theorem cK_f {a b:C}:cP P N B a b s t H Q (.bool false) = Run P N B (.c b :: s) t H Q:=by simp [cP]
end
attribute [push_cast] gK_tt gK_ff gK_tf gK_ft cK_t cK_f
end Go.Dw
end
section
namespace Go.Dw
theorem run_ch:PF n_multi_Chain [encRs dbl,encM m0] chV:=closed tab17 100000 (yields_sound ch_run)
theorem run_in:PF n_multi_Inner [encRs dbl,encM m0] inV:=closed tab17 100000 (yields_sound in_run)
theorem run_st:PF n_multi_Steps [encRs dbl,encM m0] stV:=closed tab17 100000 (yields_sound st_run)
theorem run_tg:PF n_multi_Target [encRs dbl,encM m0] (encTE (some (gT (gT tA tA) (gT tA tA))) 0):=by
 have:=multi_Target_s dbl m0 (by decide) (by decide)
 rwa [end_r] at this
theorem run_ck:PF n_multi_Check [encRs dbl,encM m0] (.int .i64 0):=by
 have:=multi_Check_s dbl m0 (by decide) (by decide)
 rwa [ok_m0] at this
theorem run_ct:PF n_multi_Count [encM m0] (.int .i64 2):=multi_Count_s m0 (by decide)
theorem run_sz:PF n_r01_Size [encT (gT (gT tA tA) (gT tA tA))] (.int .i64 7):=r01_Size_s _ (by decide)
theorem l17_double_s:PF n_l17_double [] (encRs dbl):=by
 refine pf_of l17_double.ok rfl ?_
 push_cast
 exact pf_ret (by push_cast [l17_double.rs];rfl)
set_option maxHeartbeats 4000000 in
theorem alive17:PF n_l17_alive [] (.bool true):=by
 refine pf_of l17_alive.ok rfl ?_
 push_cast
 refine .of l17_double_s ?_
 push_cast
 refine .of run_tg ?_
 unfold encTE
 push_cast
 refine .of l17_double_s ?_
 push_cast
 refine .of run_ch ?_
 unfold chV
 push_cast
 refine .of l17_double_s ?_
 push_cast
 refine .of run_in ?_
 unfold inV
 push_cast
 refine .of l17_double_s ?_
 push_cast
 refine .of run_st ?_
 unfold stV
 push_cast
 refine .of l17_double_s ?_
 push_cast
 refine .of run_ck ?_
 push_cast
 refine .of run_ct ?_
 push_cast
 refine .of run_sz ?_
 push_cast
 exact pf_ret (by push_cast [l17_alive.rs])
end Go.Dw
end
