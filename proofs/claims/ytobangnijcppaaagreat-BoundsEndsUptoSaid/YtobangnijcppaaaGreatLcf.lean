/-
  Contracts and lemmas for BoundsEnds: part f of 9.
-/
import Derived.Test.YtobangnijcppaaaGreatRows
import Derived.WalkKit
import Derived.ProofKit
import Derived.OpenShut
import Derived.JoinedCond
import Derived.ReadAgain
import Derived.Carry
import Derived.Test.YtobangnijcppaaaGreatLce
import Derived.Shelf.SlSortCmp.NoneTotal
set_option linter.unusedVariables false
set_option linter.unusedSimpArgs false
set_option maxRecDepth 100000
section
namespace Go.Dw
open Go.Proofs.YtobangnijcppaaaGreat
abbrev okW (W:World):Nat→Nat→Prop:=fun b _=>b < W.heap.size
def Cells (W:World) (xs:List V) (cs:List Value):Prop:=prepL W (okW W) xs cs∧∀ u∈cs,oneC u = true
theorem prepL_app {w:World} {ok:Nat→Nat→Prop}:∀ {xs ys:List V} {cs ds:List Value},prepL w ok xs cs→prepL w ok ys ds→prepL w ok (xs++ys) (cs++ds)
 | [],ys,cs,ds,h1,h2=>by
  have h1:cs = []:=h1
  subst h1;exact h2
 | x :: xs,ys,cs,ds,⟨v,vs,e,h1,h2⟩,h3=>by
  subst e
  exact ⟨v,vs++ds,rfl,h1,prepL_app h2 h3⟩
theorem prepL_get {w:World} {ok:Nat→Nat→Prop}:∀ {xs:List V} {cs:List Value} {i:Nat} {x:V},prepL w ok xs cs→xs[i]? = some x→∃ v,cs[i]? = some v∧prep w ok x v
 | [],_,i,x,_,h=>by simp at h
 | y :: xs,cs,i,x,⟨v,vs,e,h1,h2⟩,h=>by
  subst e
  cases i with
  | zero=>simp only [List.getElem?_cons_zero,Option.some.injEq] at h;subst h;exact ⟨v,rfl,h1⟩
  | succ i=>simp only [List.getElem?_cons_succ] at h ⊢;exact prepL_get h2 h
theorem Cells.app {W:World} {xs ys:List V} {cs ds:List Value} (h1:Cells W xs cs) (h2:Cells W ys ds):Cells W (xs++ys) (cs++ds) :=
 ⟨prepL_app h1.1 h2.1,fun u hu=>(List.mem_append.1 hu).elim (h1.2 u) (h2.2 u)⟩
theorem Cells.one {W:World} {x:V} {c:Value} (h:prep W (okW W) x c) (ho:oneC c = true):Cells W [x] [c]:=⟨⟨c,[],rfl,h,rfl⟩,fun u hu=>by simp only [List.mem_singleton] at hu;subst hu;exact ho⟩
section
variable {H:Type} {enc:TypeId × Value→H} {W:World}
noncomputable abbrev trd (enc:TypeId × Value→H) (W:World):=DataW.trod enc prog W 0 (fun _=>true) true
def Br {α:Type} (enc:TypeId × Value→H) (W:World) (n:Nat) (t:TypeId) (c:α→List V) (b:α→Nat):Prop:=∀ cs x,trd enc W n t cs = some x→Rows.uptoBulk x.1≤1048576→∃ a,b a≤Rows.uptoBulk x.1∧Cells W (c a) cs
theorem br_str {n:Nat}:Br enc W n t_string (fun s:Str=>[.str s]) (fun s=>s.length+1):=by
 intro cs x h _
 obtain ⟨s,rfl,rfl,_⟩:=DataW.trod_string (P:=prog) Go.Proofs.Tryz.underlying9 h
 refine ⟨s.data.toList,by simp [Rows.uptoBulk],Cells.one ?_ rfl⟩
 show Value.string s = .string ⟨⟨s.data.toList⟩⟩
 cases s with | mk d=>cases d;rfl
theorem br_bool {n:Nat}:Br enc W n t_bool (fun s:Bool=>[.bool s]) (fun _=>1):=by
 intro cs x h _
 obtain ⟨s,rfl,rfl⟩:=DataW.trod_bool (P:=prog) Go.Proofs.Tryz.underlying4 h
 exact ⟨s,by simp [Rows.uptoBulk],Cells.one rfl rfl⟩
theorem br_int {n:Nat}:Br enc W n t_int (fun s:Int=>cI s) (fun _=>1):=by
 intro cs x h _
 obtain ⟨s,rfl,rfl,_⟩:=DataW.trod_int (P:=prog) Go.Proofs.Tryz.underlying3 h
 exact ⟨s,by simp [Rows.uptoBulk],Cells.one rfl rfl⟩
theorem cell_spot {w:World} {a:Addr} {v:Value} (h:w.cell? a = some v):a.spot = none∧a.block < w.heap.size:=by
 unfold World.cell? at h
 split at h
 ·rename_i hb
  split at h
  ·cases h
  ·rename_i hs
   exact ⟨by cases hq:a.spot <;> simp_all,(Array.getElem?_eq_some_iff.1 hb).1⟩
 ·cases h
theorem addr_add {a:Addr} (h:a.spot = none) (n:Nat):a.add n = ⟨a.block,a.off+n,none⟩:=by
 unfold Addr.add
 split
 ·rename_i h0;subst h0;cases a;simp_all
 ·rfl
def sumB {α:Type} (b:α→Nat):List α→Nat
 | []=>0
 | x :: l=>b x+sumB b l
theorem one_le (d:DataW H):1≤Rows.uptoBulk d:=by
 cases d with
 | lit l=>cases l <;> simp [Rows.uptoBulk]
 | _=>simp [Rows.uptoBulk]
theorem bulk_len (l:List (DataW H)):l.length≤Rows.uptoBulkAll l:=by
 induction l with
 | nil=>simp [Rows.uptoBulkAll]
 | cons x r ih=>have:=one_le x;simp only [Rows.uptoBulkAll,List.length_cons];omega
theorem bulk_part {d:DataW H} {l:List (DataW H)} (h:d∈l):Rows.uptoBulk d≤Rows.uptoBulkAll l:=by
 induction l with
 | nil=>cases h
 | cons x r ih =>
  simp only [Rows.uptoBulkAll]
  rcases List.mem_cons.1 h with e | e
  ·subst e;omega
  ·have:=ih e;omega
theorem sumB_le {α:Type} {b:α→Nat}:∀ {l:List α} {es:List (DataW H × List MemPlace)},l.length = es.length→(∀ (i:Nat) (a:α) (e:DataW H × List MemPlace),l[i]? = some a→es[i]? = some e→b a≤Rows.uptoBulk e.1)→sumB b l≤Rows.uptoBulkAll (es.map (·.1))
 | [],[],_,_=>by simp [sumB]
 | [],_ :: _,h,_=>by simp at h
 | _ :: _,[],h,_=>by simp at h
 | a :: l,e :: es,h,hb=>by
  have h1:=hb 0 a e rfl rfl
  have h2:=sumB_le (l:=l) (es:=es) (by simpa using h) fun i a' e' h1 h2=>hb (i+1) a' e' (by simpa using h1) (by simpa using h2)
  simp only [sumB,List.map_cons,Rows.uptoBulkAll];omega
theorem br_slice {α:Type} {n:Nat} {ts t:TypeId} {sz:Nat} {c:α→List V} {b:α→Nat} (hts:prog.underlying ts = some (.slice t)) (hsz:prog.cellsOf t = sz) (hpos:0 < sz) (hc:∀ a,(c a).length = sz)
  (h:∀ m,m+1 = n→Br enc W m t c b):Br enc W n ts (fun l:List α=>[encL c sz l]) (fun l=>sumB b l+1):=by
 intro cs x hx hbk
 rcases DataW.trod_slice (P:=prog) hts hx with ⟨rfl,rfl⟩ | ⟨a,len,cap,elems,rest,m,rfl,rfl,rfl,_,hle,hcap,hlen,hel,_,_⟩
 ·exact ⟨[],by simp [sumB,Rows.uptoBulk],Cells.one ⟨none,0,0,0,rfl,Nat.le_refl _,by unfold capMax;omega,by unfold maxEls;simp,.inl rfl,trivial⟩ rfl⟩
 ·have hbr:=h m rfl
  have hba:Rows.uptoBulkAll (elems.map (·.1))≤1048576:=by simp only [Rows.uptoBulk] at hbk;omega
  have hln:=bulk_len (elems.map (·.1))
  rw [List.length_map] at hln
  rw [hsz] at hel
  have step:∀ i,i < len→∃ y:α,(∀ e,elems[i]? = some e→b y≤Rows.uptoBulk e.1)∧∃ ecs,W.cells? 0 (a.add (i * sz)) sz = some ecs∧Cells W (c y) ecs:=by
   intro i hi
   have h1:=hel i hi
   have hil:i < elems.length:=by omega
   rw [List.getElem?_eq_getElem hil] at h1
   simp only [Option.bind_eq_some_iff] at h1
   obtain ⟨ecs,h2,h3⟩:=h1
   obtain ⟨y,hy1,hy2⟩:=hbr ecs _ h3 (Nat.le_trans (bulk_part (List.mem_map.2 ⟨_,List.getElem_mem hil,rfl⟩)) hba)
   refine ⟨y,fun e he=>?_,ecs,h2,hy2⟩
   rw [List.getElem?_eq_getElem hil] at he
   cases he;exact hy1
  obtain ⟨f,hf⟩:∃ f:Nat→Option α,∀ i,i < len→∃ y,f i = some y∧(∀ e,elems[i]? = some e→b y≤Rows.uptoBulk e.1)∧∃ ecs,W.cells? 0 (a.add (i * sz)) sz = some ecs∧Cells W (c y) ecs:=by
   refine ⟨fun i=>if h:i < len then some (Classical.choose (step i h)) else none,fun i hi=>?_⟩
   exact ⟨Classical.choose (step i hi),by simp [hi],Classical.choose_spec (step i hi)⟩
  have hl:∀ k,k≤len→∃ l:List α,l.length = k∧∀ i,i < k→f i = l[i]?:=by
   intro k
   induction k with
   | zero=>intro _;exact ⟨[],rfl,fun i hi=>by omega⟩
   | succ k ih =>
    intro hk
    obtain ⟨l,h1,h2⟩:=ih (by omega)
    obtain ⟨y,hy,_⟩:=hf k (by omega)
    refine ⟨l++[y],by simp [h1],fun i hi=>?_⟩
    rcases Nat.lt_succ_iff_lt_or_eq.1 hi with h3 | rfl
    ·rw [List.getElem?_append_left (by omega)];exact h2 i h3
    ·rw [List.getElem?_append_right (by omega),h1];simpa using hy
  obtain ⟨l,hl1,hl2⟩:=hl len (Nat.le_refl _)
  have hat:∀ i y,l[i]? = some y→(∀ e,elems[i]? = some e→b y≤Rows.uptoBulk e.1)∧∃ ecs,W.cells? 0 (a.add (i * sz)) sz = some ecs∧Cells W (c y) ecs:=by
   intro i y hy
   have hi:i < len:=by rw [← hl1];exact (List.getElem?_eq_some_iff.1 hy).1
   obtain ⟨z,h1,h2⟩:=hf i hi
   rw [hl2 i hi,hy] at h1
   cases h1;exact h2
  refine ⟨l,?_,Cells.one ?_ rfl⟩
  ·have:=sumB_le (b:=b) (l:=l) (es:=elems) (by omega) fun i y e h1 h2=>(hat i y h1).1 e h2
   simp only [Rows.uptoBulk];omega
  ·have hspot:l ≠ []→a.spot = none∧a.block < W.heap.size:=by
    intro hne
    obtain ⟨y,hy⟩:∃ y,l[0]? = some y:=by cases l with | nil=>exact absurd rfl hne | cons y l=>exact ⟨y,rfl⟩
    obtain ⟨_,ecs,h1,h2⟩:=hat 0 y hy
    obtain ⟨_,g1,g2⟩:=World.cells?_some h1
    have h3:=g2 0 hpos
    have hel:ecs.length = sz:=g1
    obtain ⟨e0,he0⟩:∃ e0,ecs[0]? = some e0:=⟨ecs[0]'(by omega),List.getElem?_eq_getElem (by omega)⟩
    rw [he0] at h3
    simpa [Addr.add] using cell_spot h3
   refine ⟨some a,cap,a.block,a.off,by simp [hl1],by simpa [hl1] using hle,by unfold capMax;unfold maxLen at hcap;omega,?_,?_,prepE_mk fun i e he=>?_⟩
   ·rw [List.length_map];unfold maxEls;omega
   ·by_cases hne:l = []
    ·left;simp [hne]
    ·right
     have:=(hspot hne).1
     cases a;simp_all
   ·rw [List.getElem?_map] at he
    cases hy:l[i]? with
    | none=>rw [hy] at he;cases he
    | some y =>
     rw [hy] at he
     simp only [Option.map_some,Option.some.injEq] at he
     subst he
     obtain ⟨_,ecs,h1,h2⟩:=hat i y hy
     obtain ⟨_,g1,g2⟩:=World.cells?_some h1
     obtain ⟨hsp,hbl⟩:=hspot (by intro e;rw [e] at hy;simp at hy)
     refine ⟨hc y,prepC_mk fun j x hx=>?_⟩
     obtain ⟨v,k1,k2⟩:=prepL_get h2.1 hx
     have hj:j < sz:=by rw [← hc y];exact (List.getElem?_eq_some_iff.1 hx).1
     have h3:=g2 j hj
     rw [k1,addr_add hsp,addr_add rfl] at h3
     refine ⟨v,?_,hbl,h2.2 v (List.mem_of_getElem? k1),k2⟩
     rw [Nat.zero_add,← Nat.add_assoc]
     exact h3
theorem split2 {α:Type} {cs:List α} {a b:Nat} (h:cs.length = a+b):cs = (cs.drop 0).take a++(cs.drop a).take b:=by
 rw [List.drop_zero,List.take_of_length_le (l:=cs.drop a) (by simp;omega),List.take_append_drop]
theorem split3 {α:Type} {cs:List α} {a b c:Nat} (h:cs.length = a+b+c):cs = (cs.drop 0).take a++((cs.drop a).take b++(cs.drop (a+b)).take c):=by
 have h1:cs.drop a = (cs.drop a).take b++(cs.drop (a+b)).take c:=by
  rw [List.take_of_length_le (l:=cs.drop (a+b)) (by simp;omega),← List.drop_drop,List.take_append_drop]
 rw [← h1,List.drop_zero,List.take_append_drop]
theorem tbs_sumB (l:List Term):sumB tb l = tbs l:=by
 induction l with
 | nil=>rfl
 | cons a l ih=>simp only [sumB,tbs,tb.tbs,ih]
theorem sum_one:∀ l:List Int,sumB (fun _:Int=>1) l = l.length
 | []=>rfl
 | a :: l=>by simp only [sumB,List.length_cons,sum_one l];omega
theorem sum_rbs:∀ l:List ARule,sumB (fun x:ARule=>1+tb x.left+tb x.right) l = rbs l
 | []=>rfl
 | a :: l=>by simp only [sumB,rbs,sum_rbs l]
theorem sum_mem {α:Type} {b:α→Nat} {l:List α} {a:α} (h:a∈l):b a≤sumB b l:=by
 induction l with
 | nil=>cases h
 | cons x l ih =>
  simp only [sumB]
  rcases List.mem_cons.1 h with rfl | h
  ·omega
  ·have:=ih h;omega
theorem sum_steps:∀ l:List AStep,l.length≤sumB (fun s:AStep=>s.pos.length+1) l
 | []=>by simp [sumB]
 | a :: l=>by have:=sum_steps l;simp only [sumB,List.length_cons];omega
theorem c9:prog.cellsOf 9 = 1:=by kernel_rfl
theorem c4:prog.cellsOf 4 = 1:=by kernel_rfl
theorem c3:prog.cellsOf 3 = 1:=by kernel_rfl
theorem c31:prog.cellsOf 31 = 1:=by kernel_rfl
theorem c39:prog.cellsOf 39 = 1:=by kernel_rfl
theorem c56:prog.cellsOf 56 = 1:=by kernel_rfl
theorem c33:prog.cellsOf 33 = 1+1+1:=by kernel_rfl
theorem c81:prog.cellsOf 81 = 3+3:=by kernel_rfl
theorem c96:prog.cellsOf 96 = 1+1:=by kernel_rfl
theorem c41:prog.cellsOf 41 = 3+1:=by kernel_rfl
theorem br_term:∀ n,Br enc W n 33 cT tb
 | 0=>by intro cs x h;simp [DataW.trod] at h
 | n+1=>by
  intro cs x h hbk
  obtain ⟨xs,m,hm,rfl,hl,hlen,hf⟩:=DataW.trod_struct (P:=prog) Go.Proofs.Tryz.underlying33 h
  obtain rfl:n = m:=by omega
  rw [c33] at hl
  match xs,hlen with
  | [x0,x1,x2],_ =>
  have f0:trd enc W n 9 ((cs.drop 0).take (prog.cellsOf 9)) = some x0:=hf 0 _ rfl
  have f1:trd enc W n 4 ((cs.drop 1).take (prog.cellsOf 4)) = some x1:=hf 1 _ rfl
  have f2:trd enc W n 31 ((cs.drop 2).take (prog.cellsOf 31)) = some x2:=hf 2 _ rfl
  rw [c9] at f0;rw [c4] at f1;rw [c31] at f2
  simp only [List.map_cons,List.map_nil,Rows.uptoBulk,Rows.uptoBulkAll] at hbk ⊢
  obtain ⟨s,b0,d0⟩:=br_str _ _ f0 (by omega)
  obtain ⟨v,b1,d1⟩:=br_bool _ _ f1 (by omega)
  obtain ⟨l,b2,d2⟩:=br_slice (n:=n) (sz:=3) (c:=cT) (b:=tb) Go.Proofs.Tryz.underlying31 c33 (by omega) (fun _=>rfl) (fun m hm=>br_term m) _ _ f2 (by omega)
  try dsimp only at b0
  try dsimp only at b1
  try dsimp only at b2
  refine ⟨.mk s v l,?_,?_⟩
  ·rw [tbs_sumB] at b2
   simp only [tb]
   simp only [tbs] at b2
   omega
  ·rw [split3 hl,cT_eq]
   exact d0.app (d1.app d2)
theorem br_rule:∀ n,Br enc W n 81 cR (fun x=>1+tb x.left+tb x.right)
 | 0=>by intro cs x h;simp [DataW.trod] at h
 | n+1=>by
  intro cs x h hbk
  obtain ⟨xs,m,hm,rfl,hl,hlen,hf⟩:=DataW.trod_struct (P:=prog) Go.Proofs.Tryz.underlying81 h
  obtain rfl:n = m:=by omega
  rw [c81] at hl
  match xs,hlen with
  | [x0,x1],_ =>
  have f0:trd enc W n 33 ((cs.drop 0).take (prog.cellsOf 33)) = some x0:=hf 0 _ rfl
  have f1:trd enc W n 33 ((cs.drop 3).take (prog.cellsOf 33)) = some x1:=hf 1 _ rfl
  rw [c33] at f0 f1
  simp only [List.map_cons,List.map_nil,Rows.uptoBulk,Rows.uptoBulkAll] at hbk ⊢
  obtain ⟨s,b0,d0⟩:=br_term n _ _ f0 (by omega)
  obtain ⟨v,b1,d1⟩:=br_term n _ _ f1 (by omega)
  try dsimp only at b0
  try dsimp only at b1
  refine ⟨⟨s,v⟩,by dsimp only;omega,?_⟩
  rw [split2 hl]
  exact d0.app d1
theorem br_ints {n:Nat}:Br enc W n 56 (fun p:List Int=>[encP p]) (fun p=>p.length+1):=by
 intro cs x h hbk
 obtain ⟨l,b0,d0⟩:=br_slice (n:=n) (sz:=1) (c:=cI) (b:=fun _=>1) Go.Proofs.Tryz.underlying56 c3 (by omega) (fun _=>rfl) (fun m hm=>br_int) _ _ h hbk
 refine ⟨l,?_,d0⟩
 have:=sum_one l
 dsimp only at b0 ⊢
 omega
theorem br_step:∀ n,Br enc W n 96 cSt (fun s=>s.pos.length+1)
 | 0=>by intro cs x h;simp [DataW.trod] at h
 | n+1=>by
  intro cs x h hbk
  obtain ⟨xs,m,hm,rfl,hl,hlen,hf⟩:=DataW.trod_struct (P:=prog) Go.Proofs.Tryz.underlying96 h
  obtain rfl:n = m:=by omega
  rw [c96] at hl
  match xs,hlen with
  | [x0,x1],_ =>
  have f0:trd enc W n 3 ((cs.drop 0).take (prog.cellsOf 3)) = some x0:=hf 0 _ rfl
  have f1:trd enc W n 56 ((cs.drop 1).take (prog.cellsOf 56)) = some x1:=hf 1 _ rfl
  rw [c3] at f0;rw [c56] at f1
  simp only [List.map_cons,List.map_nil,Rows.uptoBulk,Rows.uptoBulkAll] at hbk ⊢
  obtain ⟨s,b0,d0⟩:=br_int _ _ f0 (by omega)
  obtain ⟨v,b1,d1⟩:=br_ints _ _ f1 (by omega)
  try dsimp only at b0
  try dsimp only at b1
  refine ⟨⟨s,v⟩,by dsimp only;omega,?_⟩
  rw [split2 hl]
  exact d0.app d1
theorem br_chain:∀ n,Br enc W n 41 cC (fun c=>tb c.start+sumB (fun s:AStep=>s.pos.length+1) c.steps)
 | 0=>by intro cs x h;simp [DataW.trod] at h
 | n+1=>by
  intro cs x h hbk
  obtain ⟨xs,m,hm,rfl,hl,hlen,hf⟩:=DataW.trod_struct (P:=prog) Go.Proofs.Tryz.underlying41 h
  obtain rfl:n = m:=by omega
  rw [c41] at hl
  match xs,hlen with
  | [x0,x1],_ =>
  have f0:trd enc W n 33 ((cs.drop 0).take (prog.cellsOf 33)) = some x0:=hf 0 _ rfl
  have f1:trd enc W n 39 ((cs.drop 3).take (prog.cellsOf 39)) = some x1:=hf 1 _ rfl
  rw [c33] at f0;rw [c39] at f1
  simp only [List.map_cons,List.map_nil,Rows.uptoBulk,Rows.uptoBulkAll] at hbk ⊢
  obtain ⟨s,b0,d0⟩:=br_term n _ _ f0 (by omega)
  obtain ⟨l,b1,d1⟩:=br_slice (n:=n) (sz:=2) (c:=cSt) (b:=fun s:AStep=>s.pos.length+1) Go.Proofs.Tryz.underlying39 c96 (by omega) (fun _=>rfl) (fun m hm=>br_step m) _ _ f1 (by omega)
  try dsimp only at b0
  try dsimp only at b1
  refine ⟨⟨s,l⟩,by dsimp only;omega,?_⟩
  rw [split2 hl]
  exact d0.app d1
theorem br_rules {n:Nat}:Br enc W n 22 (fun r:List ARule=>[encRs r]) (fun r=>rbs r):=by
 intro cs x h hbk
 obtain ⟨l,b0,d0⟩:=br_slice (n:=n) (sz:=6) (c:=cR) (b:=fun x=>1+tb x.left+tb x.right) Go.Proofs.Tryz.underlying22 c81 (by omega) (fun _=>rfl) (fun m hm=>br_rule m) _ _ h hbk
 refine ⟨l,?_,d0⟩
 have:sumB (fun x:ARule=>1+tb x.left+tb x.right) l = rbs l:=sum_rbs l
 dsimp only at b0 ⊢
 omega
end
end Go.Dw
end
section
namespace Go.Dw
open Go.ChangeShapes Go.WideShapes Go.ChangeAt Go.RowKit Go.Proofs
theorem post_same {H:Type} {enc:TypeId × Value→H} {P:Program} {f:Func} {s:ChangeSpec} {apart fresh handsOn again:Bool} {W W':World} {args:Array Value} {v:Value} {ds gs:List (DataW H)} {before pa pv:List MemPlace}
  (hW:DataW.Whole enc P f.params.toList s.vars apart W args.toList ds gs before)
  (hres:∀ (b:Nat) (sp:Nat→Bool) (hd:Bool),DataW.TrodAll enc P W' b sp hd f.resultTypes.toList (v.resultList f.resultTypes.size) (s.fn H (ds++gs)).results [])
  (hargs:∀ sp:Nat→Bool,(∀ p∈before,sp p.block = true)→DataW.TrodAll enc P W' 0 sp true f.params.toList args.toList (s.fn H (ds++gs)).args pa)
  (hvars:∀ sp:Nat→Bool,(∀ p∈before,sp p.block = true)→DataW.TrodVars enc P W' sp s.vars (s.fn H (ds++gs)).vars pv)
  (hps:before = pa++pv) (hk:W.keptBut W' (·∈before)) (hfz:∀ a:Addr,a.block < W.heap.size→W'.frozen? a = W.frozen? a)
  (hok:∀ (j:Nat) (t:TypeId) (r:Value),f.resultTypes[j]? = some t→(v.resultList f.resultTypes.size)[j]? = some r→Value.okWide P W' .any 0 t r) :
  s.post enc P f apart fresh handsOn again W args v W':=by
 have hold:∀ p∈before,(fun b=>decide (b < W.heap.size)) p.block = true:=fun p hp=>by simpa using hW.lt p hp
 have hlt:=hW.lt
 refine ⟨ds,gs,before,[],pa,pv,hW,hres _ _ _,hargs _ hold,hvars _ hold,World.keptBut_mono (fun p hp=>⟨hp,?_⟩) hk,fun _=>?_⟩
 ·rw [hps,List.mem_append] at hp
  exact Or.inr hp
 ·obtain ⟨_,_,_,_,_,hz,hn⟩:=hW
  refine ⟨hok,_,_,([]++pa)++pv,⟨[]++pa,pv,trodAll_append (hargs _ (fun _ _=>rfl)) (hres _ _ _),hvars _ (fun _ _=>rfl),rfl,?_,?_⟩,?_⟩
  ·intro b off hp
   have hp':MemPlace.cell b off∈before:=by rw [hps];simpa using hp
   rw [hfz _ (hlt _ hp')]
   exact hz b off hp'
  ·intro ha
   have:=hn ha
   rw [hps] at this
   simpa using this
  ·intro p hp _
   rw [hps]
   simpa using hp
theorem trodAll_old {H:Type} {enc:TypeId × Value→H} {P:Program} {W W':World} (hh:∀ b,b < W.heap.size→W'.heap[b]? = W.heap[b]?) {base:Nat} {sp:Nat→Bool} {held:Bool} :
  ∀ {ts:List TypeId} {vs:List Value} {ds:List (DataW H)} {ps:List MemPlace},DataW.TrodAll enc P W base sp held ts vs ds ps→DataW.TrodAll enc P W' base sp held ts vs ds ps
 | [],[],[],_,h=>h
 | [],[],_ :: _,_,h=>h.elim
 | [],_ :: _,_,_,h=>h.elim
 | _ :: _,[],_,_,h=>h.elim
 | _ :: _,_ :: _,[],_,h=>h.elim
 | t :: ts,v :: vs,d :: ds,ps,⟨p,q,⟨n,h1⟩,h2,e⟩=>by
  refine ⟨p,q,⟨n,DataW.trod_carry n _ _ _ h1 fun x hx=>?_⟩,trodAll_old hh h2,e⟩
  have hl:=DataW.trod_lt n _ _ _ h1 x hx
  cases x with
  | cell b o=>exact World.cell?_of_block (w:=W) (hh b hl)
  | map b=>exact hh b hl
end Go.Dw
end
section
namespace Go.Dw
theorem r01_Letters_s (s:Str) (h1:s.length < 2^62):PF n_r01_Letters [.str s] (.bool (s.all letter)):=by
 refine pf_of r01_Letters.ok rfl ?_
 push_cast
 refine loop_up (n:=s.length) (R:=fun k=>(s.drop k).all letter = s.all letter→r01_Letters.L3 (.str s) (.int .i64 s.length) (.int .i64 k) 0 [] _) ?_ ?_ 0 (by omega) rfl
 ·intro k hk ih hq
  rw [drop_getD hk] at hq
  simp only [List.all_cons] at hq
  refine r01_Letters.G3 ?_
  have hb:btV s k = ((s.getD k default).toNat:Int):=rfl
  push_cast [ilt hk,hb]
  refine .of (r01_letter_s _) ?_
  push_cast [w64 (show k < 2^62 by omega)]
  refine ⟨fun h=>pf_ret ?_,fun h=>ih ?_⟩
  ·push_cast [r01_Letters.rs]
   rw [← hq];simp_all
  ·rw [← hq];simp_all
 ·intro hq
  refine r01_Letters.G3 ?_
  push_cast [inlt (Nat.le_refl _)]
  refine pf_ret ?_
  push_cast [r01_Letters.rs]
  rw [← hq,drop_map_none];rfl
theorem hasSuf_last {s:Str} (h:s ≠ []):hasSuf s [35] = decide (btV s (s.length - 1) = 35):=by
 have hl:0 < s.length:=List.length_pos_iff.2 h
 have e:s.drop (s.length - 1) = [s.getD (s.length - 1) default]:=by
  rw [drop_getD (show s.length - 1 < s.length by omega),show s.length - 1+1 = s.length by omega,drop_map_none]
 have e2:btV s (s.length - 1) = ((s.getD (s.length - 1) default).toNat:Int):=rfl
 unfold hasSuf
 rw [e2]
 simp only [List.length_singleton]
 rw [decide_eq_true (show 1≤s.length by omega),Bool.true_and,decide_eq_decide,e]
 generalize s.getD (s.length - 1) default = c
 constructor
 ·intro h;simp only [List.cons.injEq,and_true] at h;rw [h];rfl
 ·intro h;simp only [List.cons.injEq,and_true];exact UInt8.toNat_inj.1 (show c.toNat = 35 by omega)
theorem r01_Marked_s (s:Str) (h1:s.length < 2^62):PF n_r01_Marked [.str s] (.bool (hasSuf s [35])):=by
 refine pf_of r01_Marked.ok rfl ?_
 by_cases h:s = []
 ·subst h
  push_cast
  refine pf_ret ?_
  push_cast [r01_Marked.rs]
  rfl
 ·have hl:0 < s.length:=List.length_pos_iff.2 h
  have hlt:(((s.length - 1:Nat):Int) < (s.length:Int)) = True:=eq_true (by omega)
  push_cast [h,sub1 h1 hl,hlt]
  refine pf_ret ?_
  push_cast [r01_Marked.rs,hasSuf_last h]
theorem r01_IsName_s (s:Str) (m:Bool) (h1:s.length < 2^62):PF n_r01_IsName [.str s,.bool m] (.bool (isName s m)):=by
 refine pf_of r01_IsName.ok rfl ?_
 push_cast
 refine ⟨fun h=>pf_ret ?_,fun h=>?_⟩
 ·push_cast [r01_IsName.rs,isName]
  rw [show decide (s.length≤24) = false from decide_eq_false (by omega)];rfl
 ·have hlen:s.length≤24:=by omega
  have hu:isName s m = (!decide (nameOf s m = []) && (nameOf s m).all letter):=by simp [isName,hlen]
  rw [hu]
  have hnl:=nameOf_len s m
  have hL:=r01_Letters_s (nameOf s m) (by omega)
  have fin2:∀ u:Str,u = nameOf s m→PF n_r01_Letters [.str u] (.bool ((nameOf s m).all letter)):=fun u hu=>hu ▸ hL
  cases m with
  | false =>
   have hn:s = nameOf s false:=rfl
   push_cast
   rw [← hn]
   by_cases h0:s = []
   ·push_cast [h0]
    exact pf_ret (by push_cast [r01_IsName.rs])
   ·push_cast [h0]
    refine .of (fin2 s hn) ?_
    push_cast
    exact pf_ret (by push_cast [r01_IsName.rs];rw [← hn])
  | true =>
   push_cast
   refine .of (r01_Marked_s s h1) ?_
   cases hm:hasSuf s [35] with
   | false =>
    have hn:s = nameOf s true:=by simp [nameOf,trimSuf,hm]
    push_cast
    rw [← hn]
    by_cases h0:s = []
    ·push_cast [h0]
     exact pf_ret (by push_cast [r01_IsName.rs])
    ·push_cast [h0]
     refine .of (fin2 s hn) ?_
     push_cast
     exact pf_ret (by push_cast [r01_IsName.rs];rw [← hn])
   | true =>
    have hn:(s.drop 0).take (s.length - 1 - 0) = nameOf s true:=by simp [nameOf,trimSuf,hm]
    have hl:0 < s.length:=by
     unfold hasSuf at hm;simp only [Bool.and_eq_true,decide_eq_true_eq,List.length_singleton] at hm;omega
    have hle:s.length - 1≤s.length:=by omega
    by_cases h0:nameOf s true = []
    ·push_cast [sub1 h1 hl,hn,hle,h0]
     refine ⟨by omega,?_⟩
     exact pf_ret (by push_cast [r01_IsName.rs,h0])
    ·push_cast [sub1 h1 hl,hn,hle,h0]
     refine ⟨by omega,.of hL ?_⟩
     push_cast
     exact pf_ret (by push_cast [r01_IsName.rs,h0])
end Go.Dw
end
section
namespace Go.Dw
theorem r01_Size_s (t:Term) (hs:size t < 2^62):PF n_r01_Size [encT t] (.int .i64 (size t)):=by
 induction t using term_ind with
 | h t ih =>
 refine pf_of r01_Size.ok rfl ?_
 have hst:=size_args t
 have hl:=length_le_sizes t.args
 push_cast
 refine loop_up (n:=t.args.length) (R:=fun k=>r01_Size.L3 (.int .i64 ((1+sizes (t.args.take k):Nat):Int)) (encTs t.args) (.int .i64 t.args.length) (.int .i64 k) 0 [] _) ?_ ?_ 0 (by omega)
 ·intro k hk ih2
  have h1:=sizes_take_succ _ _ hk
  have h2:=sizes_take_le t.args (k+1)
  have hm:=getD_mem hk
  refine r01_Size.G3 ?_
  push_cast [ilt hk]
  refine .of (ih _ hm (by omega)) ?_
  push_cast [w64 (show k < 2^62 by omega)]
  rw [wrap64 (by omega) (by omega)]
  rw [h1] at ih2
  simpa [Int.add_assoc] using ih2
 ·refine r01_Size.G3 ?_
  push_cast [inlt (Nat.le_refl _)]
  refine pf_ret ?_
  push_cast [r01_Size.rs,List.take_length,hst]
theorem r01_Depth_s (t:Term) (hs:size t < 2^62):PF n_r01_Depth [encT t] (.int .i64 (depth t)):=by
 induction t using term_ind with
 | h t ih =>
 refine pf_of r01_Depth.ok rfl ?_
 have hst:=size_args t
 have hl:=length_le_sizes t.args
 have hd:=depths_le_sizes t.args
 push_cast
 refine loop_up (n:=t.args.length) (R:=fun k=>r01_Depth.L3 (.int .i64 (depths (t.args.take k):Nat)) (encTs t.args) (.int .i64 t.args.length) (.int .i64 k) 0 [] _) ?_ ?_ 0 (by omega)
 ·intro k hk ih2
  have h1:=depths_take_succ _ _ hk
  have hm:=getD_mem hk
  have:=size_mem hm
  refine r01_Depth.G3 ?_
  push_cast [ilt hk]
  refine .of (ih _ hm (by omega)) ?_
  push_cast [w64 (show k < 2^62 by omega)]
  rw [h1] at ih2
  exact ih2
 ·refine r01_Depth.G3 ?_
  push_cast [inlt (Nat.le_refl _)]
  rw [wrap64 (by have:=depths_take_le t.args t.args.length;omega) (by have:=depths_take_le t.args t.args.length;omega)]
  refine pf_ret ?_
  push_cast [r01_Depth.rs,List.take_length,depth_args t]
theorem r01_Formed_s (t:Term) (hs:tb t < 2^62):PF n_r01_Formed [encT t] (.bool (formed t)):=by
 induction t using term_ind with
 | h t ih =>
 have htb:=tb_args t
 have hl:=length_le_tbs t.args
 have hI:∀ m,PF n_r01_IsName [.str t.name,.bool m] (.bool (isName t.name m)):=fun m=>r01_IsName_s _ m (by omega)
 refine pf_of r01_Formed.ok rfl ?_
 cases hv:t.var with
 | true =>
  push_cast [hv]
  refine .of (hI false) ?_
  cases hn:isName t.name false
  ·push_cast
   exact pf_ret (by push_cast [r01_Formed.rs,formed_eq t,hv,hn])
  ·push_cast
   exact pf_ret (by push_cast [r01_Formed.rs,formed_eq t,hv,hn];simp)
 | false =>
  push_cast [hv]
  refine .of (hI true) ?_
  have hf:formed t = (decide (t.args.length≤8) && (isName t.name true && t.args.all formed)):=by rw [formed_eq,hv];rfl
  rw [hf]
  cases hn:isName t.name true
  ·push_cast
   exact pf_ret (by push_cast [r01_Formed.rs])
  ·by_cases h0:t.args.length≤8
   ·have hi:((8:Int) < (t.args.length:Int)) = False:=eq_false (by omega)
    push_cast [hi,h0]
    refine loop_up (n:=t.args.length) (R:=fun k=>(t.args.drop k).all formed = t.args.all formed→r01_Formed.L3 (encTs t.args) (.int .i64 t.args.length) (.int .i64 k) 0 [] _) ?_ ?_ 0 (by omega) rfl
    ·intro k hk ih2 hq
     rw [drop_getD hk] at hq
     simp only [List.all_cons] at hq
     have hm:=getD_mem hk
     refine r01_Formed.G3 ?_
     push_cast [ilt hk]
     refine .of (ih _ hm (by have:=tb_mem hm;omega)) ?_
     push_cast [w64 (show k < 2^62 by omega)]
     refine ⟨fun h=>pf_ret ?_,fun h=>ih2 ?_⟩
     ·push_cast [r01_Formed.rs]
      rw [← hq];simp_all
     ·rw [← hq];simp_all
    ·intro hq
     refine r01_Formed.G3 ?_
     push_cast [inlt (Nat.le_refl _)]
     refine pf_ret ?_
     push_cast [r01_Formed.rs]
     rw [← hq,drop_map_none];rfl
   ·have hi:((8:Int) < (t.args.length:Int)) = True:=eq_true (by omega)
    push_cast [hi,h0]
    exact pf_ret (by push_cast [r01_Formed.rs])
theorem r01_Check_s (t:Term) (hs:tb t < 2^62):PF n_r01_Check [encT t] (.int .i64 (check t)):=by
 have hst:=size_le_tb t
 refine pf_of r01_Check.ok rfl ?_
 push_cast
 refine .of (r01_Formed_s t hs) ?_
 cases hf:formed t
 ·push_cast
  exact pf_ret (by push_cast [r01_Check.rs,check,hf])
 ·push_cast
  refine .of (r01_Size_s t (by omega)) ?_
  by_cases h:size t≤4000
  ·have hi:((4000:Int) < (size t:Int)) = False:=eq_false (by omega)
   push_cast [hi]
   refine .of (r01_Depth_s t (by omega)) ?_
   by_cases hd:depth t≤200
   ·have hi2:((200:Int) < (depth t:Int)) = False:=eq_false (by omega)
    push_cast [hi2]
    exact pf_ret (by push_cast [r01_Check.rs,check,hf,fits,h,hd])
   ·have hi2:((200:Int) < (depth t:Int)) = True:=eq_true (by omega)
    push_cast [hi2]
    exact pf_ret (by push_cast [r01_Check.rs,check,hf,fits,h,hd])
  ·have hi:((4000:Int) < (size t:Int)) = True:=eq_true (by omega)
   push_cast [hi]
   exact pf_ret (by push_cast [r01_Check.rs,check,hf,fits,h])
theorem r01_CheckAll_s (l:List Term) (hl:l.length < 2^62) (hs:∀ t∈l,tb t < 2^62):PF n_r01_CheckAll [encTs l] (.int .i64 (checks l)):=by
 refine pf_of r01_CheckAll.ok rfl ?_
 push_cast
 refine loop_up (n:=l.length) (R:=fun k=>checks (l.drop k) = checks l→r01_CheckAll.L3 (encTs l) (.int .i64 l.length) (.int .i64 k) 0 [] _) ?_ ?_ 0 (by omega) rfl
 ·intro k hk ih hq
  rw [drop_getD hk] at hq
  simp only [checks] at hq
  refine r01_CheckAll.G3 ?_
  push_cast [ilt hk]
  refine .of (r01_Check_s _ (hs _ (getD_mem hk))) ?_
  push_cast [w64 (show k < 2^62 by omega)]
  refine ⟨fun h=>pf_ret ?_,fun h=>ih ?_⟩
  ·push_cast [r01_CheckAll.rs]
   rw [← hq,if_pos (by simpa using h)]
  ·rw [← hq,if_neg (by simpa using h)]
 ·intro hq
  refine r01_CheckAll.G3 ?_
  push_cast [inlt (Nat.le_refl _)]
  refine pf_ret ?_
  push_cast [r01_CheckAll.rs]
  rw [← hq,drop_map_none];rfl
def cmpI (a b:Int):Int:=if a < b then -1 else if b < a then 1 else 0
theorem r01_CompareInts_s (a b:Int):PF n_r01_CompareInts [.int .i64 a,.int .i64 b] (.int .i64 (cmpI a b)):=by
 refine pf_of r01_CompareInts.ok rfl ?_
 push_cast
 refine ⟨fun h=>pf_ret ?_,fun h=>⟨fun h2=>pf_ret ?_,fun h2=>pf_ret ?_⟩⟩ <;> push_cast [r01_CompareInts.rs,cmpI,h]
 ·simp_all
 ·simp_all
def cmpB:Str→Str→Int
 | [],[]=>0
 | [],_ :: _=>-1
 | _ :: _,[]=>1
 | a :: s,b :: u=>if a = b then cmpB s u else cmpI a.toNat b.toNat
theorem cmpB_eq:∀ a b:Str,cmpB a b = cmpS a b:=by
 intro a b
 rw [cmpS_eq]
 induction a generalizing b with
 | nil=>cases b <;> simp [cmpB]
 | cons x a ih =>
  cases b with
  | nil=>simp [cmpB]
  | cons y b =>
   simp only [cmpB,List.cons_lt_cons_iff]
   by_cases h:x = y
   ·subst h
    rw [if_pos rfl,ih]
    have:¬ x < x:=UInt8.lt_irrefl x
    simp [this]
   ·rw [if_neg h]
    have h':¬ y = x:=fun e=>h e.symm
    simp only [h,h',false_and,or_false,cmpI,UInt8.lt_iff_toNat_lt]
    norm_cast
theorem r01_CompareNames_s (a b:Str) (ha:a.length < 2^62) (hb:b.length < 2^62):PF n_r01_CompareNames [.str a,.str b] (.int .i64 (cmpS a b)):=by
 rw [← cmpB_eq]
 refine pf_of r01_CompareNames.ok rfl ?_
 have hmn:(if (b.length:Int) < (a.length:Int) then (b.length:Int) else (a.length:Int)) = ((min a.length b.length:Nat):Int):=by split <;> omega
 push_cast [hmn]
 refine loop_up (n:=min a.length b.length) (R:=fun k=>cmpB (a.drop k) (b.drop k) = cmpB a b→r01_CompareNames.L3 (.str a) (.str b) (.int .i64 (min a.length b.length:Nat)) (.int .i64 k) 0 [] _) ?_ ?_ 0 (by omega) rfl
 ·intro k hk ih hq
  have hka:k < a.length:=by omega
  have hkb:k < b.length:=by omega
  rw [drop_getD hka,drop_getD hkb] at hq
  simp only [cmpB] at hq
  have h1:btV a k = ((a.getD k default).toNat:Int):=rfl
  have h2:btV b k = ((b.getD k default).toNat:Int):=rfl
  have hr:∀ c:UInt8,IntKind.i64.wrap (c.toNat:Int) = c.toNat:=fun c=>wrap64 (by omega) (by have:=UInt8.toNat_lt c;omega)
  refine r01_CompareNames.G3 ?_
  push_cast [ilt hk,ilt hka,ilt hkb,h1,h2,hr,w64 (show k < 2^62 by omega)]
  refine ⟨fun h=>.of (r01_CompareInts_s _ _) ?_,fun h=>ih ?_⟩
  ·push_cast
   refine pf_ret ?_
   push_cast [r01_CompareNames.rs]
   rw [← hq,if_neg]
   intro e;rw [e] at h;exact h rfl
  ·rw [← hq,if_pos]
   exact UInt8.toNat_inj.1 (Int.ofNat.inj (by simpa using h))
 ·intro hq
  refine r01_CompareNames.G3 ?_
  push_cast [inlt (Nat.le_refl _)]
  refine .of (r01_CompareInts_s _ _) ?_
  push_cast
  refine pf_ret ?_
  push_cast [r01_CompareNames.rs]
  rw [← hq]
  rcases Nat.lt_or_ge a.length b.length with h | h
  ·rw [Nat.min_eq_left (by omega),drop_map_none,drop_getD h]
   simp [cmpB,cmpI];omega
  ·rw [Nat.min_eq_right (by omega),drop_map_none]
   rcases Nat.lt_or_ge b.length a.length with h2 | h2
   ·rw [drop_getD h2]
    simp [cmpB,cmpI];omega
   ·rw [show b.length = a.length by omega,drop_map_none]
    simp [cmpB,cmpI]
end Go.Dw
end
section
namespace Go.Dw
mutual
def count (v:Str):Term→Nat
 | .mk n b l=>(if b && decide (n = v) then 1 else 0)+counts v l
def counts (v:Str):List Term→Nat
 | []=>0
 | a :: l=>count v a+counts v l
end
theorem count_eq (v:Str) (t:Term):count v t = (if t.var && decide (t.name = v) then 1 else 0)+counts v t.args:=by cases t;rfl
theorem counts_append (v:Str) (a b:List Term):counts v (a++b) = counts v a+counts v b:=by
 induction a with
 | nil=>simp [counts]
 | cons x xs ih=>simp [counts,ih];omega
theorem counts_take_succ (v:Str) (l:List Term) (k:Nat) (h:k < l.length):counts v (l.take (k+1)) = counts v (l.take k)+count v (l.getD k default):=by
 rw [take_succ_getD h,counts_append];simp [counts]
theorem counts_take_le (v:Str) (l:List Term) (k:Nat):counts v (l.take k)≤counts v l:=by
 conv=>rhs;rw [← List.take_append_drop k l]
 rw [counts_append];omega
mutual
theorem count_le (v:Str):∀ t,count v t≤size t
 | .mk n b l=>by simp only [count,size];have:=counts_le v l;split <;> omega
theorem counts_le (v:Str):∀ l,counts v l≤sizes l
 | []=>by simp [counts,sizes]
 | a :: l=>by simp only [counts,sizes];have:=count_le v a;have:=counts_le v l;omega
end
theorem r01_Count_s (t:Term) (v:Str) (hs:size t < 2^62):PF n_r01_Count [encT t,.str v] (.int .i64 (count v t)):=by
 induction t using term_ind with
 | h t ih =>
 have hst:=size_args t
 have hl:=length_le_sizes t.args
 have hce:=count_eq v t
 have hcl:=counts_le v t.args
 have fin:∀ c:Nat,c≤1→count v t = c+counts v t.args→r01_Count.L3 (.str v) (.int .i64 c) (encTs t.args) (.int .i64 t.args.length) (.int .i64 0) 0 [] (Ends 0 r01_Count.rs fun x' H'=>x' = .int .i64 (count v t)∧H' = []):=by
  intro c hc hcv
  refine loop_up (n:=t.args.length) (R:=fun k=>r01_Count.L3 (.str v) (.int .i64 ((c+counts v (t.args.take k):Nat):Int)) (encTs t.args) (.int .i64 t.args.length) (.int .i64 k) 0 [] _) ?_ ?_ 0 (by omega)
  ·intro k hk ih2
   have h1:=counts_take_succ v _ _ hk
   have h2:=counts_take_le v t.args (k+1)
   have hm:=getD_mem hk
   have hm2:=size_mem hm
   refine r01_Count.G3 ?_
   push_cast [ilt hk]
   refine .of (ih _ hm (by omega)) ?_
   push_cast [w64 (show k < 2^62 by omega)]
   rw [wrap64 (by omega) (by omega)]
   rw [h1] at ih2
   simpa [Int.add_assoc] using ih2
  ·refine r01_Count.G3 ?_
   push_cast [inlt (Nat.le_refl _)]
   refine pf_ret ?_
   push_cast [r01_Count.rs,List.take_length,hcv]
 refine pf_of r01_Count.ok rfl ?_
 cases hv:t.var with
 | true =>
  by_cases hn:t.name = v
  ·push_cast [hv,hn]
   exact fin 1 (by omega) (by rw [hce];simp [hv,hn])
  ·push_cast [hv,hn]
   exact fin 0 (by omega) (by rw [hce];simp [hv,hn])
 | false =>
  push_cast [hv]
  exact fin 0 (by omega) (by rw [hce];simp [hv])
def lbg {α:Type} (p:α→Bool):List α→Nat
 | []=>0
 | x :: l=>if p x then lbg p l+1 else 0
theorem lbg_le {α:Type} (p:α→Bool):∀ l:List α,lbg p l≤l.length
 | []=>Nat.le_refl _
 | x :: l=>by simp only [lbg];have:=lbg_le p l;split <;> simp <;> omega
theorem lbg_lt {α:Type} [Inhabited α] {p:α→Bool}:∀ {l:List α} {j:Nat},j < lbg p l→p (l.getD j default) = true
 | [],j,h=>by simp [lbg] at h
 | x :: l,j,h=>by
  simp only [lbg] at h
  split at h
  ·rename_i hx
   cases j with
   | zero=>simpa using hx
   | succ j=>simpa using lbg_lt (l:=l) (j:=j) (by omega)
  ·omega
theorem lbg_ge {α:Type} [Inhabited α] {p:α→Bool}:∀ {l:List α},lbg p l < l.length→p (l.getD (lbg p l) default) = false
 | [],h=>by simp at h
 | x :: l,h=>by
  simp only [lbg] at h ⊢
  split
  ·rename_i hx
   rw [if_pos hx] at h
   simpa using lbg_ge (l:=l) (by simpa using h)
  ·rename_i hx
   simpa using hx
def insS (l:List Str) (s:Str):List Str:=if lbg (fun x=>decide (x < s)) l < l.length∧l.getD (lbg (fun x=>decide (x < s)) l) default = s then l else l.take (lbg (fun x=>decide (x < s)) l)++s :: l.drop (lbg (fun x=>decide (x < s)) l)
theorem mem_insS {l:List Str} {s v:Str}:v∈insS l s ↔ v∈l ∨ v = s:=by
 unfold insS
 split
 ·rename_i h
  constructor
  ·exact .inl
  ·rintro (h2 | rfl)
   ·exact h2
   ·rw [← h.2];exact getD_mem h.1
 ·generalize lbg (fun x=>decide (x < s)) l = k
  have:=List.take_append_drop k l
  constructor
  ·intro h
   simp only [List.mem_append,List.mem_cons] at h
   rcases h with h | h | h
   ·exact .inl (List.mem_of_mem_take h)
   ·exact .inr h
   ·exact .inl (List.mem_of_mem_drop h)
  ·rintro (h | rfl)
   ·rw [← this] at h
    simp only [List.mem_append,List.mem_cons] at h ⊢
    rcases h with h | h
    ·exact .inl h
    ·exact .inr (.inr h)
   ·simp
theorem insS_len (l:List Str) (s:Str):(insS l s).length≤l.length+1:=by
 unfold insS
 have:=lbg_le (fun x=>decide (x < s)) l
 split <;> simp <;> omega
theorem r01_Insert_s (l:List Str) (s:Str) (hl:l.length < 2^40) (hn:∀ x∈l,x.length < 2^62) (hs:s.length < 2^62):PF n_r01_Insert [encSs l,.str s] (encSs (insS l s)):=by
 have hle:=lbg_le (fun x=>decide (x < s)) l
 have hge:=@lbg_ge _ _ (fun x=>decide (x < s)) l
 have hlt:=fun j=>@lbg_lt _ _ (fun x=>decide (x < s)) l j
 unfold insS
 generalize lbg (fun x=>decide (x < s)) l = a at hle hge hlt
 refine pf_of r01_Insert.ok rfl ?_
 push_cast
 refine loop_up (n:=a) (R:=fun k=>r01_Insert.L4 (encSs l) (.str s) (.int .i64 k) 0 [] _) ?_ ?_ 0 (by omega)
 ·intro k hk ih
  have hkl:k < l.length:=by omega
  have h1:cmpS (l.getD k default) s < 0:=cmpS_neg.2 (by simpa using hlt k hk)
  refine r01_Insert.G4 ?_
  push_cast [ilt hkl]
  refine .of (r01_CompareNames_s _ _ (hn _ (getD_mem hkl)) hs) ?_
  push_cast [h1,w64 (show k < 2^62 by omega)]
  exact ih
 ·refine r01_Insert.G4 ?_
  have tail:∀ m:Nat,m≤2^40→∀ b,b≤64→m * b≤maxEls:=fun m hm b hb=>Nat.le_trans (Nat.mul_le_mul hm hb) (by unfold maxEls;decide)
  rcases Nat.lt_or_ge a l.length with h | h
  ·have h2:¬ cmpS (l.getD a default) s < 0:=fun hc=>by have:=cmpS_neg.1 hc;have:=hge h;simp_all
   push_cast [ilt h]
   refine .of (r01_CompareNames_s _ _ (hn _ (getD_mem h)) hs) ?_
   by_cases he:l.getD a default = s
   ·rw [he] at h2
    push_cast [h2,ilt h,he,h]
    exact pf_ret (by push_cast [r01_Insert.rs])
   ·push_cast [h2,ilt h,he,h]
    refine ⟨⟨by omega,hle⟩,tail _ (by simp;omega) _ (by omega),tail _ (by simp;omega) _ (by omega),hle,tail _ (by simp;omega) _ (by omega),pf_ret ?_⟩
    push_cast [r01_Insert.rs]
    simp [encL,cS,List.take_of_length_le]
  ·push_cast [inlt h]
   rw [if_neg (by omega)]
   refine ⟨⟨by omega,hle⟩,tail _ (by simp;omega) _ (by omega),tail _ (by simp;omega) _ (by omega),hle,tail _ (by simp;omega) _ (by omega),pf_ret ?_⟩
   push_cast [r01_Insert.rs]
   simp [encL,cS,List.take_of_length_le]
mutual
def collectT (l:List Str):Term→List Str
 | .mk n b ar=>collectTs (if b then insS l n else l) ar
def collectTs (l:List Str):List Term→List Str
 | []=>l
 | a :: ar=>collectTs (collectT l a) ar
end
theorem collectT_eq (l:List Str) (t:Term):collectT l t = collectTs (if t.var then insS l t.name else l) t.args:=by cases t;rfl
theorem collectTs_append (a b:List Term):∀ l:List Str,collectTs l (a++b) = collectTs (collectTs l a) b:=by
 induction a with
 | nil=>intro l;simp [collectTs]
 | cons x xs ih=>intro l;simp [collectTs,ih]
theorem collectTs_take_succ (s:List Str) (l:List Term) (k:Nat) (h:k < l.length):collectTs s (l.take (k+1)) = collectT (collectTs s (l.take k)) (l.getD k default):=by
 rw [take_succ_getD h,collectTs_append];simp [collectTs]
mutual
theorem collectT_len:∀ (t:Term) (l:List Str),(collectT l t).length≤l.length+size t
 | .mk n b ar,l=>by
  simp only [collectT,size]
  have:=collectTs_len ar (if b then insS l n else l)
  have:=insS_len l n
  cases b <;> simp at * <;> omega
theorem collectTs_len:∀ (ar:List Term) (l:List Str),(collectTs l ar).length≤l.length+sizes ar
 | [],l=>by simp [collectTs,sizes]
 | a :: ar,l=>by simp only [collectTs,sizes];have:=collectT_len a l;have:=collectTs_len ar (collectT l a);omega
end
mutual
def occ (v:Str):Term→Bool
 | .mk n b ar=>(b && decide (n = v)) || occs v ar
def occs (v:Str):List Term→Bool
 | []=>false
 | a :: ar=>occ v a || occs v ar
end
mutual
theorem mem_collectT (v:Str):∀ (t:Term) (l:List Str),v∈collectT l t ↔ v∈l ∨ occ v t = true
 | .mk n b ar,l=>by
  simp only [collectT,occ,mem_collectTs v ar]
  cases b
  ·simp
  ·simp only [if_true,mem_insS,Bool.true_and,Bool.or_eq_true,decide_eq_true_eq,or_assoc]
   constructor
   ·rintro (h | h | h)
    ·exact .inl h
    ·exact .inr (.inl h.symm)
    ·exact .inr (.inr h)
   ·rintro (h | h | h)
    ·exact .inl h
    ·exact .inr (.inl h.symm)
    ·exact .inr (.inr h)
theorem mem_collectTs (v:Str):∀ (ar:List Term) (l:List Str),v∈collectTs l ar ↔ v∈l ∨ occs v ar = true
 | [],l=>by simp [collectTs,occs]
 | a :: ar,l=>by simp only [collectTs,occs,mem_collectTs v ar,mem_collectT v a,Bool.or_eq_true,or_assoc]
end
mutual
theorem occ_len (v:Str):∀ t,occ v t = true→v.length < tb t
 | .mk n b ar,h=>by
  simp only [occ,Bool.or_eq_true,Bool.and_eq_true,decide_eq_true_eq] at h
  simp only [tb]
  rcases h with ⟨_,rfl⟩ | h
  ·omega
  ·have:=occs_len v ar h;simp only [tbs] at this;omega
theorem occs_len (v:Str):∀ l,occs v l = true→v.length < tbs l
 | [],h=>by simp [occs] at h
 | a :: ar,h=>by
  simp only [occs,Bool.or_eq_true] at h
  simp only [tbs,tb.tbs]
  rcases h with h | h
  ·have:=occ_len v a h;omega
  ·have:=occs_len v ar h;simp only [tbs] at this;omega
end
mutual
theorem count_occ (v:Str):∀ t,decide (count v t = 0) = !occ v t
 | .mk n b ar=>by
  simp only [count,occ]
  have:=counts_occ v ar
  cases b <;> by_cases h:n = v <;> simp_all
theorem counts_occ (v:Str):∀ l,decide (counts v l = 0) = !occs v l
 | []=>by simp [counts,occs]
 | a :: ar=>by
  have h1:=count_occ v a
  have h2:=counts_occ v ar
  have e:counts v (a :: ar) = count v a+counts v ar:=rfl
  have e2:occs v (a :: ar) = (occ v a || occs v ar):=rfl
  rw [e2,Bool.not_or,← h1,← h2]
  by_cases c1:count v a = 0 <;> by_cases c2:counts v ar = 0 <;> simp [e,c1,c2]
end
theorem tbs_take_le (l:List Term) (k:Nat):tbs (l.take k)≤tbs l:=by
 induction l generalizing k with
 | nil=>simp
 | cons a l ih=>cases k with
  | zero=>simp [tbs,tb.tbs]
  | succ k=>simp only [List.take_succ_cons,tbs,tb.tbs];have:=ih k;simp only [tbs] at this;omega
theorem r01_collect_s (t:Term):∀ (l:List Str),tb t < 2^39→l.length+size t < 2^39→(∀ x∈l,x.length < 2^62)→PF n_r01_collect [encT t,encSs l] (encSs (collectT l t)):=by
 induction t using term_ind with
 | h t ih =>
 intro l htb hls hn
 have hst:=size_args t
 have htb2:=tb_args t
 have hll:=length_le_sizes t.args
 have hce:=collectT_eq l t
 have fin:∀ s:List Str,s = (if t.var then insS l t.name else l)→r01_collect.L3 (encSs s) (encTs t.args) (.int .i64 t.args.length) (.int .i64 0) 0 [] (Ends 0 r01_collect.rs fun x' H'=>x' = encSs (collectT l t)∧H' = []):=by
  intro s hs
  have hsl:s.length≤l.length+1:=by rw [hs];have:=insS_len l t.name;split <;> omega
  have hsn:∀ x∈s,x.length < 2^62:=by
   intro x hx
   rw [hs] at hx
   split at hx
   ·rcases mem_insS.1 hx with h | rfl
    ·exact hn x h
    ·omega
   ·exact hn x hx
  rw [← hs] at hce
  refine loop_up (n:=t.args.length) (R:=fun k=>r01_collect.L3 (encSs (collectTs s (t.args.take k))) (encTs t.args) (.int .i64 t.args.length) (.int .i64 k) 0 [] _) ?_ ?_ 0 (by omega)
  ·intro k hk ih2
   have h1:=collectTs_take_succ s _ _ hk
   have h2:=collectTs_len (t.args.take k) s
   have h3:=sizes_take_le t.args (k+1)
   rw [sizes_take_succ _ _ hk] at h3
   have hm:=getD_mem hk
   have hm3:=tb_mem hm
   refine r01_collect.G3 ?_
   push_cast [ilt hk]
   refine .of (ih _ hm _ (by omega) (by omega) fun x hx=>?_) ?_
   ·rcases (mem_collectTs x _ _).1 hx with h | h
    ·exact hsn x h
    ·have:=occs_len x _ h
     have h4:=tbs_take_le t.args k
     omega
   push_cast [w64 (show k < 2^62 by omega)]
   rw [h1] at ih2
   exact ih2
  ·refine r01_collect.G3 ?_
   push_cast [inlt (Nat.le_refl _)]
   refine pf_ret ?_
   push_cast [r01_collect.rs,List.take_length,hce]
 refine pf_of r01_collect.ok rfl ?_
 cases hv:t.var with
 | true =>
  push_cast [hv]
  refine .of (r01_Insert_s l t.name (by omega) hn (by omega)) ?_
  push_cast
  exact fin _ (by rw [hv];rfl)
 | false =>
  push_cast [hv]
  exact fin _ (by rw [hv];rfl)
def varsT (t:Term):List Str:=collectT [] t
theorem r01_Vars_s (t:Term) (ht:tb t < 2^39):PF n_r01_Vars [encTs [t]] (encSs (varsT t)):=by
 have:=size_le_tb t
 refine pf_of r01_Vars.ok rfl ?_
 push_cast
 rw [show (V.sl 1 []:V) = encSs (collectTs [] ([t].take 0)) from rfl]
 refine loop_up (n:=1) (R:=fun k=>r01_Vars.L3 (encSs (collectTs [] ([t].take k))) (encTs [t]) (.int .i64 1) (.int .i64 k) 0 [] _) ?_ ?_ 0 (by omega)
 ·intro k hk ih2
  obtain rfl:k = 0:=by omega
  refine r01_Vars.G3 ?_
  push_cast
  refine .of (r01_collect_s t [] ht (by simpa using by omega) (by simp)) ?_
  push_cast
  exact ih2
 ·refine r01_Vars.G3 ?_
  push_cast
  refine pf_ret ?_
  push_cast [r01_Vars.rs]
  rfl
def within (a b:Term):Bool:=(varsT a).all fun v=>occ v b
theorem r01_Within_s (a b:Term) (ha:tb a < 2^39) (hb:tb b < 2^39):PF n_r01_Within [encT a,encT b] (.bool (within a b)):=by
 have hsa:=size_le_tb a
 have hsb:=size_le_tb b
 have hvl:=collectT_len a []
 have hV:=r01_Vars_s a ha
 unfold within
 have e1:(.sl 3 [cT a]:V) = encTs [a]:=rfl
 have hcl:(varsT a).length < 2^62:=by unfold varsT;simp at hvl;omega
 generalize varsT a = l at hV hcl
 refine pf_of r01_Within.ok rfl ?_
 push_cast [e1]
 refine .of hV ?_
 push_cast
 refine loop_up (n:=l.length) (R:=fun k=>((l.drop k).all fun v=>occ v b) = (l.all fun v=>occ v b)→r01_Within.L3 (.ro (cT b) 0) (encSs l) (.int .i64 l.length) (.int .i64 k) 0 [] _) ?_ ?_ 0 (by omega) rfl
 ·intro k hk ih hq
  rw [drop_getD hk] at hq
  simp only [List.all_cons] at hq
  refine r01_Within.G3 ?_
  push_cast [ilt hk]
  refine .of (r01_Count_s _ _ (by omega)) ?_
  have hc:=count_occ (l.getD k default) b
  push_cast [w64 (show k < 2^62 by omega)]
  refine ⟨fun h=>pf_ret ?_,fun h=>ih ?_⟩
  ·push_cast [r01_Within.rs]
   rw [← hq]
   have h0:count (l.getD k default) b = 0:=by omega
   rw [decide_eq_true h0] at hc
   simp_all
  ·rw [← hq]
   have h0:¬ count (l.getD k default) b = 0:=by omega
   rw [decide_eq_false h0] at hc
   simp_all
 ·intro hq
  refine r01_Within.G3 ?_
  push_cast [inlt (Nat.le_refl _)]
  refine pf_ret ?_
  push_cast [r01_Within.rs]
  rw [← hq,drop_map_none];rfl
theorem r01_Rules_s (r:List ARule) (hs:rbs r < 2^61):PF n_r01_Rules [encRs r] (.int .i64 (checkRules r)):=by
 have hl:=length_le_rbs r
 refine pf_of r01_Rules.ok rfl ?_
 by_cases h64:64 < r.length
 ·have hi:((64:Int) < (r.length:Int)) = True:=eq_true (by omega)
  push_cast [hi]
  refine pf_ret ?_
  push_cast [r01_Rules.rs,checkRules,h64]
 ·have hi:((64:Int) < (r.length:Int)) = False:=eq_false (by omega)
  push_cast [hi,checkRules,h64]
  refine loop_up (n:=r.length) (R:=fun k=>checkPairs (r.drop k) = checkPairs r→r01_Rules.L3 (encRs r) (.int .i64 r.length) (.int .i64 k) 0 [] _) ?_ ?_ 0 (by omega) rfl
  ·intro k hk ih hq
   have hm:=rbs_mem (getD_mem hk)
   refine r01_Rules.G3 ?_
   rw [drop_getD hk] at hq
   simp only [checkPairs] at hq
   generalize hx:r.getD k default = x at hm hq
   have hA:=r01_CheckAll_s [x.left,x.right] (by simp) (by simp;omega)
   push_cast [ilt hk,hx,encTs_two]
   refine .of hA ?_
   push_cast [w64 (show k < 2^62 by omega)]
   refine ⟨fun h=>pf_ret ?_,fun h=>ih ?_⟩
   ·push_cast [r01_Rules.rs]
    rw [← hq,if_pos h]
   ·rw [← hq,if_neg h]
  ·intro hq
   refine r01_Rules.G3 ?_
   push_cast [inlt (Nat.le_refl _)]
   refine pf_ret ?_
   push_cast [r01_Rules.rs]
   rw [← hq,drop_map_none];rfl
end Go.Dw
end
section
namespace Go.Dw
theorem r01_At_s (t:Term) (p:List Int) (hp:p.length < 2^62) (ht:size t < 2^62):PF n_r01_At [encT t,encP p] (encOT (subT t p)):=by
 refine pf_of r01_At.ok rfl ?_
 push_cast
 refine loop_up (n:=p.length) (R:=fun k=>∀ u,subT u (p.drop k) = subT t p→size u < 2^62→r01_At.L3 (.ptr 0 0) (.ptr 1 0) (encP p) (.int .i64 p.length) (.int .i64 k) 0 [.cells t_Term (cT u),.cells t_Term [.str [],.bool false,.sl 3 []]] _) ?_ ?_ 0 (by omega) t rfl ht
 ·intro k hk ih u hu hsu
  rw [drop_getD hk] at hu
  simp only [subT] at hu
  generalize hgi:p.getD k default = i at hu
  have hl:=length_le_sizes u.args
  have hst:=size_args u
  refine r01_At.G3 ?_
  by_cases hi:i < 0
  ·rw [if_neg (by omega)] at hu
   push_cast [ilt hk,hgi,hi]
   refine pf_ret ?_
   push_cast [r01_At.rs,← hu]
   rfl
  ·by_cases hi2:(u.args.length:Int)≤i
   ·rw [if_neg (by omega)] at hu
    push_cast [ilt hk,hgi,hi,hi2]
    refine pf_ret ?_
    push_cast [r01_At.rs,← hu]
    rfl
   ·rw [if_pos (by omega)] at hu
    push_cast [ilt hk,hgi,hi,hi2,w64 (show k < 2^62 by omega)]
    have hm:u.args.getD i.toNat default∈u.args:=getD_mem (by omega)
    exact ⟨by omega,ih _ hu (by have:=size_mem hm;omega)⟩
 ·intro u hu hsu
  rw [drop_map_none] at hu
  refine r01_At.G3 ?_
  push_cast [inlt (Nat.le_refl _)]
  refine pf_ret ?_
  push_cast [r01_At.rs,← hu]
  rfl
theorem r01_Image_s (s:List ABind) (v:Str) (hl:s.length < 2^62):PF n_r01_Image [encBs s,.str v] (encT ((image s v).getD (.mk v true []))):=by
 refine pf_of r01_Image.ok rfl ?_
 push_cast
 refine loop_up (n:=s.length) (R:=fun k=>image (s.drop k) v = image s v→r01_Image.L3 (.str v) (.ptr 0 0) (encBs s) (.int .i64 s.length) (.int .i64 k) 0 [.cells t_Term [.str [],.bool false,.sl 3 []]] _) ?_ ?_ 0 (by omega) rfl
 ·intro k hk ih hq
  rw [drop_getD hk] at hq
  simp only [image] at hq
  generalize hgi:s.getD k default = b at hq
  refine r01_Image.G3 ?_
  by_cases h:b.name = v
  ·rw [if_pos h] at hq
   push_cast [ilt hk,hgi,h]
   refine pf_ret ?_
   push_cast [r01_Image.rs,← hq]
   rfl
  ·rw [if_neg h] at hq
   push_cast [ilt hk,hgi,h,w64 (show k < 2^62 by omega)]
   exact ih hq
 ·intro hq
  rw [drop_map_none] at hq
  refine r01_Image.G3 ?_
  push_cast [inlt (Nat.le_refl _)]
  refine pf_ret ?_
  push_cast [r01_Image.rs,← hq]
  rfl
theorem r01_Apply_s (s:List ABind) (hl:s.length < 2^62) (t:Term) (ht:size t < 2^40):PF n_r01_Apply [encBs s,encT t] (encT (inst s t)):=by
 induction t using term_ind with
 | h t ih =>
 have hst:=size_args t
 have hll:=length_le_sizes t.args
 refine pf_of r01_Apply.ok rfl ?_
 rw [inst_eq]
 cases hv:t.var with
 | true =>
  push_cast [hv]
  refine .of (r01_Image_s s t.name hl) ?_
  push_cast
  exact pf_ret (by push_cast [r01_Apply.rs])
 | false =>
  push_cast [hv]
  refine loop_up (n:=t.args.length) (R:=fun k=>r01_Apply.L3 (encBs s) (.ptr 0 0) (.ptr 1 0) (encTs t.args) (.int .i64 t.args.length) (.int .i64 k) 0 [.cells t_Term [.str [],.bool false,.sl 3 []],.cells t_Term [.str t.name,.bool false,ownL cT 2 3 ((t.args.take k).map (inst s))],.arr t_Term 3 k] _) ?_ ?_ 0 (by omega)
  ·intro k hk ih2
   have hm:=getD_mem hk
   have hm2:=size_mem hm
   have hlen:((t.args.take k).map (inst s)).length = k:=by simp;omega
   rw [take_succ_getD hk,List.map_append,List.map_singleton] at ih2
   refine r01_Apply.G3 ?_
   push_cast [ilt hk]
   refine .of (ih _ hm (by omega)) ?_
   push_cast [hlen,w64 (show k < 2^62 by omega)]
   exact ⟨Nat.le_trans (Nat.mul_le_mul_right 48 (show _≤2^41 by omega)) (by unfold maxEls;decide),ih2⟩
  ·refine r01_Apply.G3 ?_
   push_cast [inlt (Nat.le_refl _)]
   refine pf_ret ?_
   push_cast [r01_Apply.rs,List.take_length]
   unfold encT
   rw [cT_eq];rfl
theorem r01_Grown_s (s:List ABind) (hl:s.length < 2^62) (hs:bbs s < 2^29) (t:Term) (ht:tb t < 2^30):PF n_r01_Grown [encBs s,encT t] (.tup [.int .i64 (size (inst s t)),.int .i64 (depth (inst s t))]):=by
 induction t using term_ind with
 | h t ih =>
 have hst:=size_args t
 have htb:=tb_args t
 have hll:=length_le_sizes t.args
 have hz:=size_le_tb t
 have hsm:=inst_small ht hs
 refine pf_of r01_Grown.ok rfl ?_
 cases hv:t.var with
 | true =>
  have he:inst s t = (image s t.name).getD (.mk t.name true []):=by rw [inst_eq,if_pos hv]
  rw [he] at hsm ⊢
  push_cast [hv]
  refine .of (r01_Image_s s t.name hl) ?_
  push_cast
  refine .of (r01_Size_s _ (by omega)) ?_
  push_cast
  refine .of (r01_Depth_s _ (by omega)) ?_
  push_cast
  exact pf_ret (by push_cast [r01_Grown.rs])
 | false =>
  have he:inst s t = .mk t.name false (t.args.map (inst s)):=by rw [inst_eq,hv];rfl
  rw [he] at hsm ⊢
  have hs1:size (Term.mk t.name false (t.args.map (inst s))) = 1+sizes (t.args.map (inst s)):=by simp [size]
  have hd1:depth (Term.mk t.name false (t.args.map (inst s))) = depths (t.args.map (inst s))+1:=by simp [depth]
  have hds:=depths_le_sizes (t.args.map (inst s))
  rw [hs1] at hsm
  rw [hs1,hd1]
  push_cast [hv]
  refine loop_up (n:=t.args.length) (R:=fun k=>r01_Grown.L3 (encBs s) (.int .i64 (1+sizes ((t.args.take k).map (inst s)):Nat)) (.int .i64 (depths ((t.args.take k).map (inst s)):Nat)) (encTs t.args) (.int .i64 t.args.length) (.int .i64 k) 0 [] _) ?_ ?_ 0 (by omega)
  ·intro k hk ih2
   have hm:=getD_mem hk
   have hm2:=tb_mem hm
   have hsum:sizes ((t.args.take k).map (inst s))+size (inst s (t.args.getD k default))≤sizes (t.args.map (inst s)):=by
    have:sizes ((t.args.take (k+1)).map (inst s))≤sizes (t.args.map (inst s)):=by rw [List.map_take];exact sizes_take_le _ _
    rw [take_succ_getD hk,List.map_append,sizes_append] at this
    simpa [sizes] using this
   rw [take_succ_getD hk,List.map_append,List.map_singleton,sizes_append,depths_append] at ih2
   simp only [sizes,depths,Nat.add_zero,Nat.max_zero] at ih2
   refine r01_Grown.G3 ?_
   push_cast [ilt hk]
   refine .of (ih _ hm (by omega)) ?_
   push_cast [w64 (show k < 2^62 by omega)]
   rw [wrap64 (by omega) (by omega)]
   push_cast at ih2
   simpa [Int.add_assoc] using ih2
  ·refine r01_Grown.G3 ?_
   push_cast [inlt (Nat.le_refl _),List.take_length]
   rw [wrap64 (by omega) (by omega)]
   refine pf_ret ?_
   push_cast [r01_Grown.rs]
theorem r03_Bound_s (s:List ABind) (v:Str) (hl:s.length < 2^62):PF n_r03_Bound [encBs s,.str v] (.bool (bound s v)):=by
 refine pf_of r03_Bound.ok rfl ?_
 unfold bound
 push_cast
 refine loop_up (n:=s.length) (R:=fun k=>image (s.drop k) v = image s v→r03_Bound.L3 (.str v) (encBs s) (.int .i64 s.length) (.int .i64 k) 0 [] _) ?_ ?_ 0 (by omega) rfl
 ·intro k hk ih hq
  rw [drop_getD hk] at hq
  simp only [image] at hq
  generalize hgi:s.getD k default = b at hq
  refine r03_Bound.G3 ?_
  by_cases h:b.name = v
  ·rw [if_pos h] at hq
   push_cast [ilt hk,hgi,h]
   refine pf_ret ?_
   push_cast [r03_Bound.rs,← hq]
   rfl
  ·rw [if_neg h] at hq
   push_cast [ilt hk,hgi,h,w64 (show k < 2^62 by omega)]
   exact ih hq
 ·intro hq
  rw [drop_map_none] at hq
  refine r03_Bound.G3 ?_
  push_cast [inlt (Nat.le_refl _)]
  refine pf_ret ?_
  push_cast [r03_Bound.rs,← hq]
  rfl
theorem lbd_stop {v:Str}:∀ {s:List ABind},lbd v s < s.length→¬ (s.getD (lbd v s) default).name < v
 | [],h=>by simp at h
 | b :: s,h=>by
  simp only [lbd] at h ⊢
  split
  ·rename_i hx
   rw [if_pos hx] at h
   simpa using lbd_stop (s:=s) (by simpa using h)
  ·rename_i hx
   simpa using hx
theorem own_bind {i:Nat} {l:List ABind} {n:Str} {t:Term}:(.own i 4 (l.map cB++[V.str n :: cT t]):V) = ownL cB i 4 (l++[⟨n,t⟩]):=by simp [ownL,cB]
theorem r03_with_s (s:List ABind) (v:Str) (t:Term) (hl:s.length < 2^40) (hn:∀ b∈s,b.name.length < 2^62) (hv:v.length < 2^62):PF n_r03_with [encBs s,.str v,encT t] (encBs (bindT s v t)):=by
 have hle:=lbd_le v s
 have hge:=@lbd_stop v s
 have hlt:=fun j=>@lbd_lt v s j
 have tail:∀ m:Nat,m≤2^40→∀ b,b≤64→m * b≤maxEls:=fun m hm b hb=>Nat.le_trans (Nat.mul_le_mul hm hb) (by unfold maxEls;decide)
 unfold bindT
 generalize lbd v s = a at hle hge hlt
 have e1:(s.drop 0).take (a - 0) = s.take a:=by simp
 have e2:(s.drop a).take (s.length - a) = s.drop a:=by rw [List.take_of_length_le];simp
 refine pf_of r03_with.ok rfl ?_
 push_cast
 refine loop_up (n:=a) (R:=fun k=>r03_with.L3 (encBs s) (.str v) (.ro (cT t) 0) (.int .i64 k) 0 [] _) ?_ ?_ 0 (by omega)
 ·intro k hk ih
  have hkl:k < s.length:=by omega
  have h1:cmpS (s.getD k default).name v < 0:=cmpS_neg.2 (hlt k hk)
  refine r03_with.G3 ?_
  push_cast [ilt hkl]
  refine .of (r01_CompareNames_s _ _ (hn _ (getD_mem hkl)) hv) ?_
  push_cast [h1,w64 (show k < 2^62 by omega)]
  exact ih
 ·refine r03_with.G3 ?_
  rcases Nat.lt_or_ge a s.length with h | h
  ·have h2:¬ cmpS (s.getD a default).name v < 0:=fun hc=>hge h (cmpS_neg.1 hc)
   push_cast [ilt h]
   refine .of (r01_CompareNames_s _ _ (hn _ (getD_mem h)) hv) ?_
   push_cast [h2,e1,e2,own_bind,List.cons_append,List.nil_append]
   refine ⟨⟨by omega,hle⟩,tail _ (by simp;omega) _ (by omega),tail _ (by simp;omega) _ (by omega),hle,⟨by simp,tail _ (by simp;omega) _ (by omega)⟩,pf_ret ?_⟩
   push_cast [r03_with.rs]
  ·push_cast [inlt h,e1,e2,own_bind,List.cons_append,List.nil_append]
   refine ⟨⟨by omega,hle⟩,tail _ (by simp;omega) _ (by omega),tail _ (by simp;omega) _ (by omega),hle,⟨by simp,tail _ (by simp;omega) _ (by omega)⟩,pf_ret ?_⟩
   push_cast [r03_with.rs]
mutual
def matchR (s:List ABind):Term→Term→List ABind × Bool
 | .mk n v l,t=>if v then (match image s n with | some x=>(s,decide (x = t)) | none=>(bindT s n t,true)) else
  if t.var ∨ t.name ≠ n ∨ t.args.length ≠ l.length then ([],false) else matchRs s l t.args
def matchRs (s:List ABind):List Term→List Term→List ABind × Bool
 | [],_=>(s,true)
 | _ :: _,[]=>(s,true)
 | a :: l,b :: m=>if (matchR s a b).2 then matchRs (matchR s a b).1 l m else ([],false)
end
theorem matchR_eq (s:List ABind) (p t:Term):matchR s p t = if p.var then (match image s p.name with | some x=>(s,decide (x = t)) | none=>(bindT s p.name t,true)) else
  if t.var ∨ t.name ≠ p.name ∨ t.args.length ≠ p.args.length then ([],false) else matchRs s p.args t.args:=by
 cases p with | mk n v l=>simp only [matchR,Term.var,Term.name,Term.args];rfl
def SameM (a b:List ABind × Bool):Prop:=a.2 = b.2∧(b.2 = true→a.1 = b.1)
theorem matchR_T (p:Term):∀ (s:List ABind) (t:Term),SameM (matchR s p t) (matchT s p t):=by
 induction p using term_ind with
 | h p ih =>
 intro s t
 rw [matchR_eq,matchT_eq]
 cases hv:p.var with
 | true=>rw [if_pos rfl,if_pos rfl];exact ⟨rfl,fun _=>rfl⟩
 | false =>
  have hf:¬ (false = true):=by simp
  rw [if_neg hf,if_neg hf]
  by_cases hc:t.var ∨ p.name ≠ t.name ∨ p.args.length ≠ t.args.length
  ·have hc':t.var ∨ t.name ≠ p.name ∨ t.args.length ≠ p.args.length:=by
    rcases hc with h | h | h
    ·exact .inl h
    ·exact .inr (.inl (Ne.symm h))
    ·exact .inr (.inr (Ne.symm h))
   rw [if_pos hc,if_pos hc'];exact ⟨rfl,fun h=>by cases h⟩
  ·have hc':¬ (t.var ∨ t.name ≠ p.name ∨ t.args.length ≠ p.args.length):=by
    rintro (h | h | h)
    ·exact hc (.inl h)
    ·exact hc (.inr (.inl (Ne.symm h)))
    ·exact hc (.inr (.inr (Ne.symm h)))
   rw [if_neg hc,if_neg hc']
   have hlen:p.args.length = t.args.length:=Classical.byContradiction fun h=>hc (.inr (.inr h))
   have key:∀ (l m:List Term) (s:List ABind),(∀ a∈l,a∈p.args)→l.length = m.length→SameM (matchRs s l m) (matchTs s l m):=by
    intro l
    induction l with
    | nil=>intro m s _ _;exact ⟨rfl,fun _=>rfl⟩
    | cons a l ihl =>
     intro m s hl hm
     cases m with
     | nil=>simp at hm
     | cons b m =>
      obtain ⟨h1,h2⟩:=ih a (hl a (by simp)) s b
      simp only [matchRs,matchTs]
      cases h3:(matchT s a b).2 with
      | false =>
       rw [h3] at h1
       rw [if_neg (by rw [h1];simp),if_neg (by simp)]
       exact ⟨rfl,fun h=>by cases h⟩
      | true =>
       rw [h3] at h1
       rw [if_pos h1,if_pos rfl,h2 h3]
       exact ihl m _ (fun x hx=>hl x (by simp [hx])) (by simpa using hm)
   exact key p.args t.args s (fun _ h=>h) hlen
structure Bs (M m:Nat) (s:List ABind):Prop where
 len:s.length≤m
 nm:∀ b∈s,b.name.length < M
 tm:∀ b∈s,tb b.term < M
theorem Bs.mono {M m m':Nat} {s:List ABind} (h:Bs M m s) (hm:m≤m'):Bs M m' s:=⟨Nat.le_trans h.len hm,h.nm,h.tm⟩
theorem Bs.nil {M m:Nat}:Bs M m []:=⟨by simp,by simp,by simp⟩
theorem matchR_Bs {M:Nat} (p:Term):∀ (s:List ABind) (t:Term) (m:Nat),tb p≤M→tb t < M→Bs M m s→Bs M (m+size p) (matchR s p t).1:=by
 induction p using term_ind with
 | h p ih =>
 intro s t m hp ht hb
 have h1:=tb_args p
 have h2:=tb_args t
 have h3:=size_args p
 rw [matchR_eq]
 cases hv:p.var with
 | true =>
  rw [if_pos rfl]
  cases hx:image s p.name with
  | some x=>exact hb.mono (by omega)
  | none =>
   refine ⟨by show (bindT s p.name t).length≤_;rw [bindT_len];have:=hb.len;omega,fun b h=>?_,fun b h=>?_⟩
   ·rcases bindT_mem h with h | rfl
    ·exact hb.nm b h
    ·show p.name.length < M;omega
   ·rcases bindT_mem h with h | rfl
    ·exact hb.tm b h
    ·exact ht
 | false =>
  rw [if_neg (by simp)]
  split
  ·exact Bs.nil
  ·have key:∀ (l q:List Term) (s:List ABind) (m:Nat),(∀ a∈l,a∈p.args)→tbs l≤M→tbs q < M→Bs M m s→Bs M (m+sizes l) (matchRs s l q).1:=by
    intro l
    induction l with
    | nil=>intro q s m _ _ _ hb;exact hb
    | cons a l ihl =>
     intro q s m hl hM hq hb
     cases q with
     | nil=>exact hb.mono (by omega)
     | cons b q =>
      have e1:tbs (a :: l) = tb a+tbs l:=rfl
      have e2:tbs (b :: q) = tb b+tbs q:=rfl
      have h4:=ih a (hl a (by simp)) s b m (by omega) (by omega) hb
      simp only [matchRs]
      split
      ·have h5:=ihl q _ _ (fun x hx=>hl x (by simp [hx])) (by omega) (by omega) h4
       exact h5.mono (by simp only [sizes];omega)
      ·exact Bs.nil
   have:=key p.args t.args s m (fun _ h=>h) (by omega) (by omega) hb
   exact this.mono (by omega)
end Go.Dw
end
section
namespace Go.Dw
mutual
def cmpT:Term→Term→Int
 | .mk n v l,t=>if v ≠ t.var then (if v then -1 else 1) else if cmpS n t.name ≠ 0 then cmpS n t.name else if cmpI l.length t.args.length ≠ 0 then cmpI l.length t.args.length else cmpTs l t.args
def cmpTs:List Term→List Term→Int
 | [],_=>0
 | _ :: _,[]=>0
 | a :: l,b :: m=>if cmpT a b ≠ 0 then cmpT a b else cmpTs l m
end
theorem cmpT_eq (a t:Term):cmpT a t = if a.var ≠ t.var then (if a.var then -1 else 1) else if cmpS a.name t.name ≠ 0 then cmpS a.name t.name else if cmpI a.args.length t.args.length ≠ 0 then cmpI a.args.length t.args.length else cmpTs a.args t.args:=by
 cases a;simp only [cmpT];rfl
theorem cmpI_zero {a b:Int}:cmpI a b = 0 ↔ a = b:=by unfold cmpI;split <;> (try split) <;> omega
theorem cmpTs_zero:∀ (l m:List Term),l.length = m.length→(∀ a∈l,∀ b,cmpT a b = 0 ↔ a = b)→(cmpTs l m = 0 ↔ l = m)
 | [],[],_,_=>by simp [cmpTs]
 | [],_ :: _,h,_=>by simp at h
 | _ :: _,[],h,_=>by simp at h
 | a :: l,b :: m,h,hc=>by
  have ih:=cmpTs_zero l m (by simpa using h) fun x hx=>hc x (by simp [hx])
  have h1:=hc a (by simp) b
  simp only [cmpTs]
  by_cases he:a = b
  ·rw [if_neg (by simpa using h1.2 he),ih]
   simp [he]
  ·have:¬ cmpT a b = 0:=fun e=>he (h1.1 e)
   rw [if_pos this]
   simp [this,he]
theorem cmpT_zero (a:Term):∀ b,cmpT a b = 0 ↔ a = b:=by
 induction a using term_ind with
 | h a ih =>
 intro b
 rw [cmpT_eq,term_eq_iff]
 by_cases h1:a.var = b.var
 ·rw [if_neg (by simpa using h1)]
  by_cases h2:a.name = b.name
  ·rw [if_neg (by simpa using cmpS_zero.2 h2)]
   by_cases h3:a.args.length = b.args.length
   ·rw [if_neg (by simpa using cmpI_zero.2 (by omega)),cmpTs_zero _ _ h3 ih]
    simp [h1,h2]
   ·have:¬ cmpI a.args.length b.args.length = 0:=fun e=>h3 (by have:=cmpI_zero.1 e;omega)
    rw [if_pos this]
    simp only [this,false_iff,not_and]
    intro _ _ e;exact h3 (by rw [e])
  ·have:¬ cmpS a.name b.name = 0:=fun e=>h2 (cmpS_zero.1 e)
   rw [if_pos this]
   simp [this,h2]
 ·rw [if_pos h1]
  simp only [h1,false_and,and_false,iff_false]
  split <;> decide
theorem r01_Compare_s (a:Term):∀ b,tb a < 2^62→tb b < 2^62→PF n_r01_Compare [encT a,encT b] (.int .i64 (cmpT a b)):=by
 induction a using term_ind with
 | h a ih =>
 intro b ha hb
 have ha2:=tb_args a
 have hb2:=tb_args b
 have hla:=length_le_tbs a.args
 rw [cmpT_eq]
 refine pf_of r01_Compare.ok rfl ?_
 by_cases h1:a.var = b.var
 ·rw [if_neg (by simpa using h1)]
  push_cast [h1,show ∀ x y:Bool,(x != y) = !decide (x = y) from fun x y=>by cases x <;> cases y <;> rfl]
  refine .of (r01_CompareNames_s _ _ (by omega) (by omega)) ?_
  by_cases h2:cmpS a.name b.name = 0
  ·rw [if_neg (by simpa using h2)]
   push_cast [h2]
   refine .of (r01_CompareInts_s _ _) ?_
   by_cases h3:cmpI a.args.length b.args.length = 0
   ·have hll:a.args.length = b.args.length:=by have:=cmpI_zero.1 h3;omega
    rw [if_neg (by simpa using h3)]
    push_cast [h3]
    refine loop_up (n:=a.args.length) (R:=fun k=>cmpTs (a.args.drop k) (b.args.drop k) = cmpTs a.args b.args→r01_Compare.L3 (.ro (cT a) 0) (.ro (cT b) 0) (.int .i64 a.args.length) (.int .i64 k) 0 [] _) ?_ ?_ 0 (by omega) rfl
    ·intro k hk ih2 hq
     have hkb:k < b.args.length:=by omega
     rw [drop_getD hk,drop_getD hkb] at hq
     simp only [cmpTs] at hq
     have hm:=getD_mem hk
     have hmb:=getD_mem hkb
     refine r01_Compare.G3 ?_
     push_cast [ilt hk,ilt hkb]
     refine .of (ih _ hm _ (by have:=tb_mem hm;omega) (by have:=tb_mem hmb;omega)) ?_
     push_cast [w64 (show k < 2^62 by omega)]
     refine ⟨fun h=>pf_ret ?_,fun h=>ih2 ?_⟩
     ·push_cast [r01_Compare.rs]
      rw [← hq,if_pos (by simpa using h)]
     ·rw [← hq,if_neg (by simpa using h)]
    ·intro hq
     refine r01_Compare.G3 ?_
     push_cast [inlt (Nat.le_refl _)]
     refine pf_ret ?_
     push_cast [r01_Compare.rs]
     rw [← hq,drop_map_none];rfl
   ·rw [if_pos h3]
    push_cast [h3]
    exact pf_ret (by push_cast [r01_Compare.rs])
  ·rw [if_pos h2]
   push_cast [h2]
   exact pf_ret (by push_cast [r01_Compare.rs])
 ·rw [if_pos h1]
  have e:∀ x y:Bool,(x != y) = !decide (x = y):=fun x y=>by cases x <;> cases y <;> rfl
  cases hv:a.var <;> cases hv2:b.var
  ·exact absurd (hv.trans hv2.symm) h1
  ·push_cast [hv,hv2,e]
   exact pf_ret (by push_cast [r01_Compare.rs])
  ·push_cast [hv,hv2,e]
   exact pf_ret (by push_cast [r01_Compare.rs])
  ·exact absurd (hv.trans hv2.symm) h1
theorem r01_Equal_s (a b:Term) (ha:tb a < 2^62) (hb:tb b < 2^62):PF n_r01_Equal [encT a,encT b] (.bool (decide (a = b))):=by
 refine pf_of r01_Equal.ok rfl ?_
 push_cast
 refine .of (r01_Compare_s a b ha hb) ?_
 push_cast
 refine pf_ret ?_
 push_cast [r01_Equal.rs,cmpT_zero]
end Go.Dw
end
section
namespace Go.Dw
theorem r03_match_s (p:Term):∀ (s:List ABind) (t:Term) (m:Nat),tb p≤2^38→tb t < 2^38→Bs (2^38) m s→m+size p < 2^38 →
  PF n_r03_match [encBs s,encT p,encT t] (.tup [encBs (matchR s p t).1,.bool (matchR s p t).2]):=by
 induction p using term_ind with
 | h p ih =>
 intro s t m hp ht hb hm
 have h1:=tb_args p
 have h2:=tb_args t
 have h3:=size_args p
 have hlt:=length_le_tbs t.args
 have hsl:=hb.len
 rw [matchR_eq]
 refine pf_of r03_match.ok rfl ?_
 cases hv:p.var with
 | true =>
  rw [if_pos rfl]
  push_cast [hv]
  refine .of (r03_Bound_s s p.name (by omega)) ?_
  cases hx:image s p.name with
  | some x =>
   push_cast [show bound s p.name = true by simp [bound,hx]]
   refine .of (r01_Image_s s p.name (by omega)) ?_
   push_cast [hx,Option.getD_some]
   obtain ⟨b,hbm,_,rfl⟩:=image_mem hx
   refine .of (r01_Equal_s b.term t (by have:=hb.tm b hbm;omega) (by omega)) ?_
   push_cast
   exact pf_ret (by push_cast [r03_match.rs])
  | none =>
   push_cast [show bound s p.name = false by simp [bound,hx]]
   refine .of (r03_with_s s p.name t (by omega) (fun b hbm=>by have:=hb.nm b hbm;omega) (by omega)) ?_
   push_cast
   exact pf_ret (by push_cast [r03_match.rs])
 | false =>
  rw [if_neg (show ¬ (false = true) by simp)]
  push_cast [hv]
  by_cases c1:t.var = true
  ·rw [if_pos (show t.var = true ∨ t.name ≠ p.name ∨ t.args.length ≠ p.args.length from .inl c1)]
   push_cast [c1]
   exact pf_ret (by push_cast [r03_match.rs];rfl)
  ·have c1':t.var = false:=by simpa using c1
   by_cases c2:t.name = p.name
   ·by_cases c3:t.args.length = p.args.length
    ·rw [if_neg (show ¬ (t.var = true ∨ t.name ≠ p.name ∨ t.args.length ≠ p.args.length) by simp [c1',c2,c3])]
     have c3':((t.args.length:Int) = (p.args.length:Int)) = True:=eq_true (by omega)
     push_cast [c1',c2,c3']
     have key:∀ (l q:List Term) (s:List ABind) (k:Nat),p.args.drop k = l→t.args.drop k = q→k+q.length = t.args.length→∀ m,Bs (2^38) m s→m+sizes l < 2^38 →
       ∀ res,matchRs s l q = res→r03_match.L3 (encBs s) (.ro (cT p) 0) (.ro (cT t) 0) (.int .i64 t.args.length) (.int .i64 k) 0 [] (Ends 0 r03_match.rs fun x' H'=>x' = .tup [encBs res.1,.bool res.2]∧H' = []):=by
      intro l
      induction l with
      | nil =>
       intro q s k hl hq hk m hb hm res hr
       have hkl:t.args.length≤k:=by
        have:=congrArg List.length hl
        simp at this;omega
       refine r03_match.G3 ?_
       push_cast [inlt hkl]
       refine pf_ret ?_
       push_cast [r03_match.rs,← hr]
       simp [matchRs]
      | cons a l ihl =>
       intro q s k hl hq hk m hb hm res hr
       have hkp:k < p.args.length:=by
        rcases Nat.lt_or_ge k p.args.length with h | h
        ·exact h
        ·rw [List.drop_eq_nil_of_le h] at hl;cases hl
       have hkt:k < t.args.length:=by omega
       rw [drop_getD hkp] at hl
       rw [drop_getD hkt] at hq
       cases hl
       subst hq
       have hmp:=getD_mem hkp
       have hmt:=getD_mem hkt
       have hbp:=tb_mem hmp
       have hbt:=tb_mem hmt
       simp only [sizes] at hm
       simp only [matchRs] at hr
       refine r03_match.G3 ?_
       push_cast [ilt hkt,ilt hkp]
       refine .of (ih _ hmp s _ m (by omega) (by omega) hb (by omega)) ?_
       cases hq2:(matchR s (p.args.getD k default) (t.args.getD k default)).2 with
       | false =>
        rw [if_neg (by rw [hq2];simp)] at hr
        push_cast
        refine pf_ret ?_
        push_cast [r03_match.rs,← hr]
        rfl
       | true =>
        rw [if_pos hq2] at hr
        push_cast [w64 (show k < 2^62 by omega)]
        have:=ihl _ _ (k+1) rfl rfl (by simp;omega) _ (matchR_Bs _ s _ m (by omega) (by omega) hb) (by omega) res hr
        push_cast at this
        exact this
     have:=key p.args t.args s 0 rfl rfl (by simp) m hb (by omega) _ rfl
     push_cast [c3'] at this
     exact this
    ·rw [if_pos (show t.var = true ∨ t.name ≠ p.name ∨ t.args.length ≠ p.args.length from .inr (.inr c3))]
     have c3':((t.args.length:Int) = (p.args.length:Int)) = False:=eq_false (by omega)
     push_cast [c1',c2,c3']
     exact pf_ret (by push_cast [r03_match.rs];rfl)
   ·rw [if_pos (show t.var = true ∨ t.name ≠ p.name ∨ t.args.length ≠ p.args.length from .inr (.inl c2))]
    push_cast [c1',c2]
    exact pf_ret (by push_cast [r03_match.rs];rfl)
theorem r03_Match_s (p t:Term) (hp:tb p < 2^37) (ht:tb t < 2^37):PF n_r03_Match [encT p,encT t] (.tup [encBs (matchR [] p t).1,.bool (matchR [] p t).2]):=by
 have:=size_le_tb p
 refine pf_of r03_Match.ok rfl ?_
 push_cast
 refine .of (r03_match_s p [] t 0 (by omega) (by omega) Bs.nil (by omega)) ?_
 push_cast
 exact pf_ret (by push_cast [r03_Match.rs])
theorem r04_Subst_s (r:List ARule) (t:Term) (s:AStep) (hr:rbs r < 2^37) (ht:tb t < 2^37) (hp:s.pos.length < 2^62):PF n_r04_Subst [encRs r,encT t,encSt s] (.tup [encBs (findE r t s).1,.int .i64 (findE r t s).2]):=by
 have hst:=size_le_tb t
 have hlr:=length_le_rbs r
 refine pf_of r04_Subst.ok rfl ?_
 push_cast
 refine .of (r01_At_s t s.pos hp (by omega)) ?_
 unfold findE
 by_cases h1:s.rule < 0
 ·rw [if_pos (.inl h1)]
  cases subT t s.pos with
  | none =>
   push_cast [encOT,h1]
   exact pf_ret (by push_cast [r04_Subst.rs];rfl)
  | some x =>
   push_cast [encOT,h1]
   exact pf_ret (by push_cast [r04_Subst.rs];rfl)
 ·by_cases h2:(r.length:Int)≤s.rule
  ·rw [if_pos (.inr h2)]
   cases subT t s.pos with
   | none =>
    push_cast [encOT,h1,h2]
    exact pf_ret (by push_cast [r04_Subst.rs];rfl)
   | some x =>
    push_cast [encOT,h1,h2]
    exact pf_ret (by push_cast [r04_Subst.rs];rfl)
  ·rw [if_neg (by omega)]
   cases hx:subT t s.pos with
   | none =>
    push_cast [encOT,h1,h2]
    exact pf_ret (by push_cast [r04_Subst.rs];rfl)
   | some x =>
    have hxt:=subT_tb _ _ _ hx
    have hi:s.rule.toNat < r.length:=by omega
    have hm:=rbs_mem (getD_mem hi)
    push_cast [encOT,h1,h2]
    refine ⟨by omega,.of (r03_Match_s _ x (by omega) (by omega)) ?_⟩
    obtain ⟨q1,q2⟩:=matchR_T (r.getD s.rule.toNat default).left [] x
    cases hb:(matchT [] (r.getD s.rule.toNat default).left x).2 with
    | false =>
     rw [hb] at q1
     push_cast [q1]
     exact pf_ret (by push_cast [r04_Subst.rs];rfl)
    | true =>
     rw [hb] at q1
     rw [q2 hb]
     push_cast [q1]
     exact pf_ret (by push_cast [r04_Subst.rs])
end Go.Dw
end
section
namespace Go.Dw
theorem row_T {l:List Term} {k:Nat} (h:k < l.length):(l.map cT)[k]? = some (cT (l.getD k default)):=by
 rw [List.getElem?_map];simp [List.getD_eq_getElem?_getD,h]
theorem rens_cTs9 {σ:Nat→Option Nat} {l:List Term}:(l.map cT).map (rens σ) = l.map cT:=by rw [List.map_map];rfl
theorem r01_Put_s (p:List Int):∀ (t x y:Term),short t = true→subT t p = some y→size t < 2^40→p.length < 2^40→PF n_r01_Put [encT t,encP p,encT x] (encT (setT t p x)):=by
 induction p with
 | nil =>
  intro t x y _ _ _ _
  refine pf_of r01_Put.ok rfl ?_
  push_cast
  exact pf_ret (by push_cast [r01_Put.rs];rfl)
 | cons i p ih =>
  intro t x y ht hy hs hp
  simp only [subT] at hy
  split at hy
  case isFalse=>cases hy
  rename_i hi
  have hst:=size_args t
  have hll:=length_le_sizes t.args
  have hk:i.toNat < t.args.length:=by omega
  have hm:=getD_mem hk
  have hm2:=size_mem hm
  have hne:¬ (((i :: p).length:Nat):Int) = 0:=by rw [List.length_cons];omega
  have hsub:=ih _ x y ((short_iff.1 ht).2.2 _ hm) hy (by omega) (by simp at hp;omega)
  refine pf_of r01_Put.ok rfl ?_
  have hv:t.var = false:=by
   cases h:t.var with
   | false=>rfl
   | true=>have:=(short_iff.1 ht).2.1 h;rw [this] at hk;simp at hk
  have hres:setT t (i :: p) x = .mk t.name false (t.args.set i.toNat (setT (t.args.getD i.toNat default) p x)):=by
   simp only [setT];rw [if_pos hi,hv]
  rw [hres]
  have e1:((i :: p).drop 1).take ((i :: p).length - 1) = p:=by simp
  have e2:(i :: p).getD 0 default = i:=rfl
  have e3:((0:Int) < (((i :: p).length:Nat):Int)) = True:=eq_true (by rw [List.length_cons];omega)
  have e4:(1:Nat)≤(i :: p).length:=by simp
  generalize (i :: p) = q at hne e1 e2 e3 e4
  have hi0:(0≤i) = True:=eq_true hi.1
  have hi1:(i < (t.args.length:Int)) = True:=eq_true hi.2
  have hroom:t.args.length * 48≤maxEls:=Nat.le_trans (Nat.mul_le_mul_right 48 (show _≤2^41 by omega)) (by unfold maxEls;decide)
  have hsetC:(t.args.map cT).set i.toNat (put 0 (cT (setT (t.args.getD i.toNat default) p x)) ((t.args.map cT).getD i.toNat [])) = (t.args.set i.toNat (setT (t.args.getD i.toNat default) p x)).map cT:=by
   have e5:(t.args.map cT).getD i.toNat [] = cT (t.args.getD i.toNat default):=by
    rw [List.getD_eq_getElem?_getD (l:=t.args.map cT),row_T hk];rfl
   rw [List.map_set,e5,put_cT']
  push_cast [hne,row_T hk,e1,e2,e3,e4,hi0,hi1,List.length_map,hroom]
  refine .of hsub ?_
  push_cast [hi0,hi1,List.length_map,hk,hsetC,List.length_set,rens_cTs9]
  refine pf_ret ?_
  push_cast [r01_Put.rs]
  unfold encT
  rw [cT_eq];rfl
theorem r04_replaced_s (p:List Int):∀ (t x:Term),size t < 2^40→size x < 2^40→p.length < 2^40 →
  PF n_r04_replaced [encT t,encP p,.int .i64 (size x),.int .i64 (depth x)] (.tup [.int .i64 (size (setT t p x)),.int .i64 (depth (setT t p x))]):=by
 induction p with
 | nil =>
  intro t x _ _ _
  refine pf_of r04_replaced.ok rfl ?_
  push_cast
  exact pf_ret (by push_cast [r04_replaced.rs];exact ⟨rfl,rfl⟩)
 | cons i p ih =>
  intro t x hs hx hp
  have hst:=size_args t
  have hll:=length_le_sizes t.args
  have hlu:(setT t (i :: p) x).args.length = t.args.length:=setT_args_len
  have hget:=fun k (hk:k < t.args.length)=>setT_args_get (x:=x) (i:=i) (p:=p) hk
  have hsu:size (setT t (i :: p) x) = 1+sizes (setT t (i :: p) x).args:=size_args _
  have hdu:depth (setT t (i :: p) x) = depths (setT t (i :: p) x).args+1:=depth_args _
  have hsz:=setT_size (i :: p) t x
  have hdd:=depths_le_sizes (setT t (i :: p) x).args
  rw [hsu] at hsz ⊢
  rw [hdu]
  generalize (setT t (i :: p) x).args = u at *
  have hne:¬ (((i :: p).length:Nat):Int) = 0:=by rw [List.length_cons];omega
  have e1:((i :: p).drop 1).take ((i :: p).length - 1) = p:=by simp
  have e2:(i :: p).getD 0 default = i:=rfl
  have e3:((0:Int) < (((i :: p).length:Nat):Int)) = True:=eq_true (by rw [List.length_cons];omega)
  have e4:(1:Nat)≤(i :: p).length:=by simp
  have hpl:p.length < 2^40:=by simp at hp;omega
  generalize (i :: p) = q at hne e1 e2 e3 e4
  refine pf_of r04_replaced.ok rfl ?_
  push_cast [hne]
  refine loop_up (n:=t.args.length) (R:=fun k=>r04_replaced.L3 (encP q) (.int .i64 (size x)) (.int .i64 (depth x)) (.int .i64 (1+sizes (u.take k):Nat)) (.int .i64 (depths (u.take k):Nat)) (encTs t.args) (.int .i64 t.args.length) (.int .i64 k) 0 [] _) ?_ ?_ 0 (by omega)
  ·intro k hk ih2
   have hm:=getD_mem hk
   have hm2:=size_mem hm
   have hsk:=sizes_take_succ u k (by omega)
   have hdk:=depths_take_succ u k (by omega)
   have hsl:=sizes_take_le u (k+1)
   have hgk:=hget k hk
   have hdl:=depth_le_size (t.args.getD k default)
   rw [hsk,hdk,hgk] at ih2
   rw [hsk,hgk] at hsl
   refine r04_replaced.G3 ?_
   push_cast [ilt hk]
   refine .of (r01_Size_s _ (by omega)) ?_
   push_cast
   refine .of (r01_Depth_s _ (by omega)) ?_
   by_cases hik:(k:Int) = i
   ·rw [if_pos hik] at ih2 hsl
    subst hik
    push_cast [e1,e2,e3,e4]
    refine .of (ih _ x (by omega) hx hpl) ?_
    push_cast [w64 (show k < 2^62 by omega)]
    rw [wrap64 (by omega) (by omega)]
    push_cast at ih2
    simpa [Int.add_assoc] using ih2
   ·rw [if_neg hik] at ih2 hsl
    push_cast [e1,e2,e3,e4,hik,w64 (show k < 2^62 by omega)]
    rw [wrap64 (by omega) (by omega)]
    push_cast at ih2
    simpa [Int.add_assoc] using ih2
  ·refine r04_replaced.G3 ?_
   rw [List.take_of_length_le (by omega)]
   push_cast [inlt (Nat.le_refl _)]
   rw [wrap64 (by omega) (by omega)]
   refine pf_ret ?_
   push_cast [r04_replaced.rs]
end Go.Dw
end
section
namespace Go.Dw
structure ASym where
 name:Str
 arity:Int
 deriving Inhabited,DecidableEq
def cSy (s:ASym):List V:=[.str s.name,.int .i64 s.arity]
abbrev encSys (l:List ASym):V:=encL cSy 2 l
theorem cSy_len (s:ASym):(cSy s).length = 2:=rfl
theorem cSy_0 (s:ASym):(cSy s)[0]? = some (.str s.name):=rfl
theorem cSy_1 (s:ASym):(cSy s)[1]? = some (.int .i64 s.arity):=rfl
theorem own_sym {i:Nat} {l:List ASym} {n:Str} {k:Int}:(.own i 2 (l.map cSy++[[V.str n,.int .i64 k]]):V) = ownL cSy i 2 (l++[⟨n,k⟩]):=by simp [ownL,cSy]
attribute [push_cast] cSy_len cSy_0 cSy_1
abbrev syAt (l:List ASym) (n:Str):Nat:=lbg (fun x=>decide (x.name < n)) l
def insSy (l:List ASym) (n:Str) (k:Int):List ASym:=if syAt l n < l.length∧(l.getD (syAt l n) default).name = n then l else l.take (syAt l n)++⟨n,k⟩ :: l.drop (syAt l n)
mutual
def symT (l:List ASym):Term→List ASym × Bool
 | .mk n b ar=>if b then (l,true) else if marked n then (l,false) else if ((insSy l n ar.length).getD (syAt l n) default).arity ≠ ar.length then (insSy l n ar.length,false) else symTs (insSy l n ar.length) ar
def symTs (l:List ASym):List Term→List ASym × Bool
 | []=>(l,true)
 | a :: ar=>if (symT l a).2 then symTs (symT l a).1 ar else (l,false)
end
theorem symT_eq (l:List ASym) (t:Term):symT l t = if t.var then (l,true) else if marked t.name then (l,false) else if ((insSy l t.name t.args.length).getD (syAt l t.name) default).arity ≠ t.args.length then (insSy l t.name t.args.length,false) else symTs (insSy l t.name t.args.length) t.args:=by cases t;rfl
theorem insSy_len (l:List ASym) (n:Str) (k:Int):(insSy l n k).length≤l.length+1:=by
 unfold insSy
 have:=lbg_le (fun x:ASym=>decide (x.name < n)) l
 split <;> simp <;> omega
theorem mem_insSy {l:List ASym} {n:Str} {k:Int} {x:ASym} (h:x∈insSy l n k):x∈l ∨ x = ⟨n,k⟩:=by
 unfold insSy at h
 split at h
 ·exact .inl h
 ·simp only [List.mem_append,List.mem_cons] at h
  rcases h with h | h | h
  ·exact .inl (List.mem_of_mem_take h)
  ·exact .inr h
  ·exact .inl (List.mem_of_mem_drop h)
def Few (M:Nat) (m:Nat) (l:List ASym):Prop:=l.length≤m∧∀ x∈l,x.name.length < M
theorem Few.ins {M m:Nat} {l:List ASym} (h:Few M m l) {n:Str} {k:Int} (hn:n.length < M):Few M (m+1) (insSy l n k):=by
 refine ⟨by have:=insSy_len l n k;have:=h.1;omega,fun x hx=>?_⟩
 rcases mem_insSy hx with h1 | rfl
 ·exact h.2 x h1
 ·exact hn
mutual
theorem few_symT {M:Nat}:∀ (t:Term) (m:Nat) (l:List ASym),Few M m l→tb t≤M→Few M (m+size t) (symT l t).1
 | .mk n b ar,m,l,h,ht=>by
  simp only [tb] at ht
  have h0:Few M (m+size (.mk n b ar)) l:=⟨by have:=h.1;omega,h.2⟩
  have h1:=h.ins (n:=n) (k:=ar.length) (by omega)
  have h2:Few M (m+size (.mk n b ar)) (insSy l n ar.length):=⟨by have:=h1.1;simp only [size];omega,h1.2⟩
  have h3:=few_symTs ar (m+1) _ h1 (by simp only [tbs];omega)
  simp only [symT]
  split
  ·exact h0
  split
  ·exact h0
  split
  ·exact h2
  ·exact ⟨by have:=h3.1;simp only [size];omega,h3.2⟩
theorem few_symTs {M:Nat}:∀ (ar:List Term) (m:Nat) (l:List ASym),Few M m l→tbs ar≤M→Few M (m+sizes ar) (symTs l ar).1
 | [],m,l,h,_=>by simpa [symTs,sizes] using h
 | a :: ar,m,l,h,ht=>by
  simp only [tbs,tb.tbs] at ht
  have h1:=few_symT a m l h (by omega)
  have h2:=few_symTs ar _ _ h1 (by simp only [tbs];omega)
  simp only [symTs]
  split
  ·exact ⟨by have:=h2.1;simp only [sizes];omega,h2.2⟩
  ·exact ⟨by have:=h.1;show l.length≤_;omega,h.2⟩
end
theorem symTs_append (a b:List Term):∀ l:List ASym,(symTs l a).2 = true→symTs l (a++b) = symTs (symTs l a).1 b:=by
 induction a with
 | nil=>intro l _;rfl
 | cons x xs ih =>
  intro l h
  simp only [symTs,List.cons_append] at h ⊢
  by_cases hx:(symT l x).2 = true
  ·rw [if_pos hx] at h ⊢
   rw [if_pos hx]
   exact ih _ h
  ·rw [if_neg hx] at h
   cases h
set_option maxHeartbeats 1000000 in
theorem r01_symbols_s (t:Term):∀ (m:Nat) (l:List ASym),tb t < 2^39→m+size t < 2^39→Few (2^39) m l→PF n_r01_symbols [encT t,encSys l] (.tup [encSys (symT l t).1,.bool (symT l t).2]):=by
 induction t using term_ind with
 | h t ih =>
 intro m l htb hms hf
 have hst:=size_args t
 have htb2:=tb_args t
 have hll:=length_le_sizes t.args
 have hse:=symT_eq l t
 have hl:l.length < 2^39:=by have:=hf.1;omega
 refine pf_of r01_symbols.ok rfl ?_
 cases hv:t.var with
 | true =>
  rw [hv,if_pos rfl] at hse
  push_cast [hv]
  exact pf_ret (by push_cast [r01_symbols.rs,hse])
 | false =>
 rw [hv,if_neg (by simp)] at hse
 push_cast [hv]
 refine .of (r01_Marked_s t.name (by omega)) ?_
 cases hmk:hasSuf t.name [35] with
 | true =>
  have hmk':marked t.name = true:=hmk
  rw [hmk',if_pos rfl] at hse
  push_cast
  exact pf_ret (by push_cast [r01_symbols.rs,hse])
 | false =>
 have hmk':marked t.name = false:=hmk
 rw [hmk',if_neg (by simp)] at hse
 have hI:=insSy_len l t.name t.args.length
 have hF:=hf.ins (n:=t.name) (k:=t.args.length) (by omega)
 have hle:syAt l t.name≤l.length:=lbg_le (fun x:ASym=>decide (x.name < t.name)) l
 have hge:syAt l t.name < l.length→¬ (l.getD (syAt l t.name) default).name < t.name:=fun h=>of_decide_eq_false (@lbg_ge _ _ (fun x:ASym=>decide (x.name < t.name)) l h)
 have hlt:∀ j,j < syAt l t.name→(l.getD j default).name < t.name:=fun j h=>of_decide_eq_true (@lbg_lt _ _ (fun x:ASym=>decide (x.name < t.name)) l j h)
 have hat:syAt l t.name < (insSy l t.name t.args.length).length:=by
  unfold insSy
  split
  ·rename_i h;exact h.1
  ·rw [List.length_append,List.length_take,List.length_cons,Nat.min_eq_left hle];omega
 have hins:insSy l t.name t.args.length = if syAt l t.name < l.length∧(l.getD (syAt l t.name) default).name = t.name then l else l.take (syAt l t.name)++⟨t.name,t.args.length⟩ :: l.drop (syAt l t.name):=rfl
 generalize insSy l t.name t.args.length = l1 at *
 have kids:(l1.getD (syAt l t.name) default).arity = t.args.length→r01_symbols.L3 (encSys l1) (encTs t.args) (.int .i64 t.args.length) (.int .i64 0) 0 [] (Ends 0 r01_symbols.rs fun x' H'=>x' = .tup [encSys (symT l t).1,.bool (symT l t).2]∧H' = []):=by
  intro har
  rw [if_neg (by simpa using har)] at hse
  rw [hse]
  refine loop_up (n:=t.args.length) (R:=fun k=>(symTs l1 (t.args.take k)).2 = true→r01_symbols.L3 (encSys (symTs l1 (t.args.take k)).1) (encTs t.args) (.int .i64 t.args.length) (.int .i64 k) 0 [] _) ?_ ?_ 0 (by omega) rfl
  ·intro k hk ih2 hok
   have hm:=getD_mem hk
   have hm3:=tb_mem hm
   have h3:=sizes_take_le t.args (k+1)
   rw [sizes_take_succ _ _ hk] at h3
   have hFk:=few_symTs (t.args.take k) _ _ hF (by have:=tbs_take_le t.args k;omega)
   have hcat:symTs l1 (t.args.take (k+1)) = if (symT (symTs l1 (t.args.take k)).1 (t.args.getD k default)).2 then (symT (symTs l1 (t.args.take k)).1 (t.args.getD k default)) else ((symTs l1 (t.args.take k)).1,false):=by
    rw [take_succ_getD hk,symTs_append _ _ _ hok]
    simp only [symTs]
    split
    ·rename_i h;exact Prod.ext rfl h.symm
    ·rfl
   have hend:(symT (symTs l1 (t.args.take k)).1 (t.args.getD k default)).2 = false→symTs l1 t.args = ((symTs l1 (t.args.take k)).1,false):=by
    intro h
    conv=>lhs;rw [← List.take_append_drop k t.args]
    rw [symTs_append _ _ _ hok,drop_getD hk]
    simp only [symTs,h]
    rfl
   refine r01_symbols.G3 ?_
   push_cast [ilt hk]
   refine .of (ih _ hm _ _ (by omega) (by omega) hFk) ?_
   cases hb:(symT (symTs l1 (t.args.take k)).1 (t.args.getD k default)).2 with
   | false =>
    push_cast
    refine pf_ret ?_
    push_cast [r01_symbols.rs,hend hb]
   | true =>
    rw [hb,if_pos rfl] at hcat
    push_cast [w64 (show k < 2^62 by omega)]
    rw [hcat] at ih2
    exact ih2 hb
  ·intro hok
   rw [List.take_length] at hok
   refine r01_symbols.G3 ?_
   push_cast [inlt (Nat.le_refl _)]
   refine pf_ret ?_
   push_cast [r01_symbols.rs,List.take_length,hok]
 generalize syAt l t.name = a at *
 push_cast
 refine loop_up (n:=a) (R:=fun k=>r01_symbols.L9 (encSys l) (.ro (cT t) 0) (.int .i64 k) 0 [] _) ?_ ?_ 0 (by omega)
 ·intro k hk ih2
  have hkl:k < l.length:=by omega
  have h1:cmpS (l.getD k default).name t.name < 0:=cmpS_neg.2 (hlt k hk)
  refine r01_symbols.G9 ?_
  push_cast [ilt hkl]
  refine .of (r01_CompareNames_s _ _ (by have:=hf.2 _ (getD_mem hkl);omega) (by omega)) ?_
  push_cast [h1,w64 (show k < 2^62 by omega)]
  exact ih2
 ·refine r01_symbols.G9 ?_
  have tail:∀ m:Nat,m≤2^40→∀ b,b≤64→m * b≤maxEls:=fun m hm b hb=>Nat.le_trans (Nat.mul_le_mul hm hb) (by unfold maxEls;decide)
  have e1:(l.drop 0).take (a - 0) = l.take a:=by simp
  have e2:(l.drop a).take (l.length - a) = l.drop a:=by rw [List.take_of_length_le];simp
  rcases Nat.lt_or_ge a l.length with h | h
  ·have h2:¬ cmpS (l.getD a default).name t.name < 0:=fun hc=>hge h (cmpS_neg.1 hc)
   have h3:((a:Int) = (l.length:Int)) = False:=eq_false (by omega)
   push_cast [ilt h]
   refine .of (r01_CompareNames_s _ _ (by have:=hf.2 _ (getD_mem h);omega) (by omega)) ?_
   by_cases he:(l.getD a default).name = t.name
   ·rw [if_pos ⟨h,he⟩] at hins
    subst hins
    rw [he] at h2
    push_cast [h2,h3,he,ilt h]
    refine ⟨fun har=>pf_ret ?_,fun har=>kids (by simpa using har)⟩
    rw [if_pos har] at hse
    push_cast [r01_symbols.rs,hse]
   ·rw [if_neg (fun hh=>he hh.2)] at hins
    push_cast [h2,h3,he,ilt h,own_sym,e1,e2,List.cons_append,List.nil_append,← hins,hat]
    refine ⟨⟨by omega,hle⟩,tail _ (by simp;omega) _ (by omega),tail _ (by simp;omega) _ (by omega),hle,⟨by simp,tail _ (by simp;omega) _ (by omega)⟩,by omega,fun har=>pf_ret ?_,fun har=>kids (by simpa using har)⟩
    rw [if_pos har] at hse
    push_cast [r01_symbols.rs,hse]
  ·rw [if_neg (fun hh=>by omega)] at hins
   have h3:((a:Int) = (l.length:Int)) = True:=eq_true (by omega)
   push_cast (maxSteps:=1000000) [inlt h,h3,own_sym,e1,e2,List.cons_append,List.nil_append,← hins,hat]
   refine ⟨⟨by omega,hle⟩,tail _ (by simp;omega) _ (by omega),tail _ (by simp;omega) _ (by omega),hle,⟨by simp,tail _ (by simp;omega) _ (by omega)⟩,by omega,fun har=>pf_ret ?_,fun har=>kids (by simpa using har)⟩
   rw [if_pos har] at hse
   push_cast [r01_symbols.rs,hse]
end Go.Dw
end
section
namespace Go.Dw
open Go.Proofs (sortS)
def symRs (l:List ASym):List ARule→List ASym × Bool
 | []=>(l,true)
 | x :: r=>if (symT l x.left).2 then if (symT (symT l x.left).1 x.right).2 then symRs (symT (symT l x.left).1 x.right).1 r else ([],false) else ([],false)
theorem r01_Symbols_s (r:List ARule) (hs:rbs r < 2^38):PF n_r01_Symbols [encRs r] (.tup [encSys (symRs [] r).1,.bool (symRs [] r).2]):=by
 have hl:=length_le_rbs r
 have hw1:IntKind.i64.wrap 1 = 1:=wrap64 (by omega) (by omega)
 have hw2:IntKind.i64.wrap 2 = 2:=wrap64 (by omega) (by omega)
 refine pf_of r01_Symbols.ok rfl ?_
 push_cast
 rw [show (V.sl 2 []:V) = encSys [] from rfl]
 refine loop_up (n:=r.length) (R:=fun k=>∀ l m,Few (2^39) m l→m+rbs (r.drop k) < 2^38→symRs l (r.drop k) = symRs [] r→r01_Symbols.L6 (encSys l) (encRs r) (.int .i64 r.length) (.int .i64 k) 0 [] (Ends 0 r01_Symbols.rs fun x' H'=>x' = .tup [encSys (symRs [] r).1,.bool (symRs [] r).2]∧H' = [])) ?_ ?_ 0 (by omega) [] 0 ⟨by simp,by simp⟩ (by simpa using hs) rfl
 ·intro k hk ih l m hf hm hq
  have hr:=rbs_mem (getD_mem hk)
  rw [drop_getD hk] at hm hq
  simp only [rbs,symRs] at hm hq
  generalize hx:r.getD k default = x at hm hq hr
  have s1:=size_le_tb x.left
  have s2:=size_le_tb x.right
  have hf1:=few_symT x.left m l hf (by omega)
  have hf2:=few_symT x.right _ _ hf1 (by omega)
  refine r01_Symbols.G6 ?_
  push_cast [ilt hk,hx,encTs_two]
  refine r01_Symbols.G4 ?_
  push_cast
  refine .of (r01_symbols_s x.left m l (by omega) (by omega) hf) ?_
  cases h1:(symT l x.left).2 with
  | false =>
   rw [if_neg (by simp [h1])] at hq
   push_cast
   refine pf_ret ?_
   push_cast [r01_Symbols.rs,← hq]
   rfl
  | true =>
   rw [if_pos h1] at hq
   push_cast [hw1]
   refine r01_Symbols.G4 ?_
   push_cast
   refine .of (r01_symbols_s x.right _ _ (by omega) (by omega) hf1) ?_
   cases h2:(symT (symT l x.left).1 x.right).2 with
   | false =>
    rw [if_neg (by simp [h2])] at hq
    push_cast
    refine pf_ret ?_
    push_cast [r01_Symbols.rs,← hq]
    rfl
   | true =>
    rw [if_pos h2] at hq
    push_cast [hw2]
    refine r01_Symbols.G4 ?_
    push_cast [w64 (show k < 2^62 by omega)]
    exact ih _ _ hf2 (by omega) hq
 ·intro l m hf hm hq
  refine r01_Symbols.G6 ?_
  push_cast [inlt (Nat.le_refl _)]
  refine pf_ret ?_
  rw [drop_map_none] at hq
  push_cast [r01_Symbols.rs,← hq]
  exact ⟨rfl,rfl⟩
def extraR (x:ARule):Bool:=x.left.var || !within x.right x.left
def checkSystemR (r:List ARule):Int:=if checkRules r ≠ 0 then checkRules r else if (symRs [] r).2 then (if r.any extraR then 7 else 0) else 6
theorem r01_CheckSystem_sR (r:List ARule) (hs:rbs r < 2^38):PF n_r01_CheckSystem [encRs r] (.int .i64 (checkSystemR r)):=by
 have hl:=length_le_rbs r
 refine pf_of r01_CheckSystem.ok rfl ?_
 push_cast
 refine .of (r01_Rules_s r (by omega)) ?_
 unfold checkSystemR
 by_cases h1:checkRules r = 0
 ·rw [if_neg (by simpa using h1)]
  push_cast [h1]
  refine .of (r01_Symbols_s r hs) ?_
  cases h2:(symRs [] r).2 with
  | false =>
   push_cast
   refine pf_ret ?_
   push_cast [r01_CheckSystem.rs]
  | true =>
   push_cast
   refine loop_up (n:=r.length) (R:=fun k=>(r.drop k).any extraR = r.any extraR→r01_CheckSystem.L3 (encRs r) (.int .i64 r.length) (.int .i64 k) 0 [] _) ?_ ?_ 0 (by omega) rfl
   ·intro k hk ih hq
    have hr:=rbs_mem (getD_mem hk)
    rw [drop_getD hk] at hq
    simp only [List.any_cons] at hq
    generalize hx:r.getD k default = x at hq hr
    refine r01_CheckSystem.G3 ?_
    cases hv:x.left.var with
    | true =>
     push_cast [ilt hk,hx,hv]
     refine pf_ret ?_
     push_cast [r01_CheckSystem.rs,← hq,extraR,hv]
     simp
    | false =>
     push_cast [ilt hk,hx,hv]
     refine .of (r01_Within_s _ _ (by omega) (by omega)) ?_
     cases hw:within x.right x.left with
     | false =>
      push_cast
      refine pf_ret ?_
      push_cast [r01_CheckSystem.rs,← hq,extraR,hv,hw]
      rfl
     | true =>
      push_cast [w64 (show k < 2^62 by omega)]
      exact ih (by rw [← hq];simp [extraR,hv,hw])
   ·intro hq
    rw [drop_map_none] at hq
    refine r01_CheckSystem.G3 ?_
    push_cast [inlt (Nat.le_refl _)]
    refine pf_ret ?_
    push_cast [r01_CheckSystem.rs,← hq]
    rfl
 ·rw [if_pos h1]
  push_cast [h1]
  refine pf_ret ?_
  push_cast [r01_CheckSystem.rs]
theorem mem_foldl_addS (v:Str):∀ (l ks:List Str),v∈l.foldl addS ks ↔ v∈ks ∨ v∈l
 | [],ks=>by simp
 | x :: l,ks=>by
  rw [List.foldl_cons,mem_foldl_addS v l]
  unfold addS
  split
  ·rename_i h
   simp only [List.mem_cons]
   constructor
   ·rintro (h1 | h1)
    ·exact .inl h1
    ·exact .inr (.inr h1)
   ·rintro (h1 | rfl | h1)
    ·exact .inl h1
    ·exact .inl h
    ·exact .inr h1
  ·simp [or_assoc]
theorem varsIn_cons (x:List Int × Term) (l:List (List Int × Term)):varsIn (x :: l) = if x.2.var then x.2.name :: varsIn l else varsIn l:=by
 unfold varsIn;rw [List.filter_cons];split <;> rfl
theorem varsIn_append (a b:List (List Int × Term)):varsIn (a++b) = varsIn a++varsIn b:=by
 unfold varsIn;rw [List.filter_append,List.map_append]
mutual
theorem mem_varsIn (v:Str):∀ (t:Term) (p:List Int),v∈varsIn (visit t p) ↔ occ v t = true
 | .mk n b ar,p=>by
  have h:=mem_varsIns v ar p 0
  rw [visit_eq,varsIn_cons]
  cases b
  ·rw [if_neg (by simp [Term.var])]
   simpa [occ,Term.args] using h
  ·rw [if_pos (by simp [Term.var])]
   simp only [occ,Bool.true_and,Bool.or_eq_true,decide_eq_true_eq,List.mem_cons,← h]
   exact ⟨fun h=>h.imp (fun e=>e.symm) id,fun h=>h.imp (fun e=>e.symm) id⟩
theorem mem_varsIns (v:Str):∀ (ar:List Term) (p:List Int) (i:Nat),v∈varsIn (visits ar p i) ↔ occs v ar = true
 | [],p,i=>by simp [visits,varsIn,occs]
 | a :: ar,p,i=>by
  have h1:=mem_varsIn v a (p++[(i:Int)])
  have h2:=mem_varsIns v ar p (i+1)
  simp only [visits,varsIn_append,List.mem_append,h1,h2,occs,Bool.or_eq_true]
end
theorem mem_varsOf (v:Str) (t:Term):v∈varsOf [t] ↔ occ v t = true:=by
 unfold varsOf
 rw [show (v∈sortS (vsetT [] [t])) ↔ v∈vsetT [] [t] from (List.mergeSort_perm _ _).mem_iff]
 simp only [vsetT,List.foldl_cons,List.foldl_nil,vset,mem_foldl_addS,mem_varsIn,List.not_mem_nil,false_or]
theorem extra_eq (x:ARule):extra x = extraR x:=by
 unfold extra extraR within
 congr 1
 rw [Bool.eq_iff_iff]
 simp only [List.any_eq_true,Bool.not_eq_true',decide_eq_false_iff_not,mem_varsOf,List.all_eq_false,varsT,mem_collectT,List.not_mem_nil,false_or]
theorem getA_append (m:Ars) (n v:Str) (k:Nat):getA (m++[(n,k)]) v = match getA m v with | some a=>some a | none=>if n = v then some k else none:=by
 induction m with
 | nil=>simp [getA]
 | cons p m ih =>
  simp only [List.cons_append,getA]
  split
  ·rfl
  ·exact ih
def getSy:List ASym→Str→Option Int
 | [],_=>none
 | x :: l,n=>if x.name = n then some x.arity else getSy l n
abbrev SySorted (l:List ASym):Prop:=l.Pairwise fun a b=>a.name < b.name
theorem getSy_none {l:List ASym} {n:Str} (h:∀ x∈l,x.name ≠ n):getSy l n = none:=by
 induction l with
 | nil=>rfl
 | cons x l ih=>simp only [getSy];rw [if_neg (h x (by simp))];exact ih fun y hy=>h y (by simp [hy])
theorem getSy_at {n:Str}:∀ {l:List ASym},SySorted l→getSy l n = if syAt l n < l.length∧(l.getD (syAt l n) default).name = n then some (l.getD (syAt l n) default).arity else none
 | [],_=>by simp [getSy]
 | x :: l,hs=>by
  obtain ⟨h1,h2⟩:=List.pairwise_cons.1 hs
  have ih:=getSy_at (n:=n) h2
  by_cases hx:x.name < n
  ·have e:syAt (x :: l) n = syAt l n+1:=by simp [syAt,lbg,hx]
   simp only [getSy,e]
   rw [if_neg (fun e2:x.name = n=>slt_irrefl n (by rw [e2] at hx;exact hx)),ih]
   simp
  ·have e:syAt (x :: l) n = 0:=by simp only [syAt,lbg];rw [if_neg (by simpa using hx)]
   simp only [getSy,e]
   by_cases he:x.name = n
   ·simp [he]
   ·rw [if_neg he]
    simp only [List.length_cons,Nat.zero_lt_succ,true_and,List.getD_cons_zero,he,if_false]
    refine getSy_none fun y hy e=>?_
    have:=h1 y hy
    rw [e] at this
    exact hx this
def insR (n:Str) (k:Int):List ASym→List ASym
 | []=>[⟨n,k⟩]
 | x :: l=>if x.name < n then x :: insR n k l else ⟨n,k⟩ :: x :: l
theorem insR_eq (n:Str) (k:Int):∀ l:List ASym,l.take (syAt l n)++⟨n,k⟩ :: l.drop (syAt l n) = insR n k l
 | []=>rfl
 | x :: l=>by
  have ih:=insR_eq n k l
  by_cases hx:x.name < n
  ·have e:syAt (x :: l) n = syAt l n+1:=by simp [syAt,lbg,hx]
   simp only [insR]
   rw [if_pos hx,e,List.take_succ_cons,List.drop_succ_cons,List.cons_append,ih]
  ·have e:syAt (x :: l) n = 0:=by simp only [syAt,lbg];rw [if_neg (by simpa using hx)]
   simp only [insR]
   rw [if_neg hx,e];rfl
theorem mem_insR {n:Str} {k:Int} {x:ASym}:∀ {l:List ASym},x∈insR n k l ↔ x = ⟨n,k⟩ ∨ x∈l
 | []=>by simp [insR]
 | y :: l=>by
  simp only [insR]
  split
  ·simp only [List.mem_cons,mem_insR (l:=l)]
   constructor
   ·rintro (h | h | h)
    ·exact .inr (.inl h)
    ·exact .inl h
    ·exact .inr (.inr h)
   ·rintro (h | h | h)
    ·exact .inr (.inl h)
    ·exact .inl h
    ·exact .inr (.inr h)
  ·simp
theorem insR_sorted {n:Str} {k:Int}:∀ {l:List ASym},SySorted l→(∀ x∈l,x.name ≠ n)→SySorted (insR n k l)
 | [],_,_=>by simp [insR,SySorted]
 | x :: l,hs,hn=>by
  obtain ⟨h1,h2⟩:=List.pairwise_cons.1 hs
  simp only [insR]
  split
  ·rename_i hx
   refine List.pairwise_cons.2 ⟨fun y hy=>?_,insR_sorted h2 fun y hy=>hn y (by simp [hy])⟩
   rcases mem_insR.1 hy with rfl | h
   ·exact hx
   ·exact h1 y h
  ·rename_i hx
   have hlt:n < x.name:=by
    rcases Classical.em (n < x.name) with h | h
    ·exact h
    ·exact absurd (slt_eq hx h) (hn x (by simp))
   refine List.pairwise_cons.2 ⟨fun y hy=>?_,hs⟩
   rcases List.mem_cons.1 hy with rfl | h
   ·exact hlt
   ·exact slt_trans hlt (h1 y h)
theorem getSy_insR {n v:Str} {k:Int}:∀ {l:List ASym},(∀ x∈l,x.name ≠ n)→getSy (insR n k l) v = if n = v then some k else getSy l v
 | [],_=>by simp [insR,getSy]
 | x :: l,hn=>by
  simp only [insR]
  split
  ·simp only [getSy]
   rw [getSy_insR fun y hy=>hn y (by simp [hy])]
   by_cases h:x.name = v
   ·rw [if_pos h,if_pos h,if_neg (fun e=>hn x (by simp) (h.trans e.symm))]
   ·rw [if_neg h,if_neg h]
  ·simp only [getSy]
theorem getSy_some {l:List ASym} {n:Str} {x:ASym} (hx:x∈l) (hn:x.name = n):getSy l n ≠ none:=by
 induction l with
 | nil=>cases hx
 | cons y l ih =>
  simp only [getSy]
  split
  ·simp
  ·rename_i h
   rcases List.mem_cons.1 hx with rfl | hx
   ·exact absurd hn h
   ·exact ih hx
def mk (m:Ars):Bool:=m.any fun p=>marked p.1
def Rel (l:List ASym) (m:Ars):Prop:=SySorted l∧(∀ n,getSy l n = (getA m n).map fun k:Nat=>(k:Int))∧mk m = false
theorem mk_getA {m:Ars} {n:Str} {k:Nat} (h:getA m n = some k) (hm:mk m = false):marked n = false:=by
 induction m with
 | nil=>cases h
 | cons p m ih =>
  simp only [mk,List.any_cons,Bool.or_eq_false_iff] at hm
  simp only [getA] at h
  split at h
  ·rename_i e;rw [← e];exact hm.1
  ·exact ih h hm.2
theorem arStep_mk {m m':Ars} {u:Term} (h:arStep m u = some m') (hm:mk m = true):mk m' = true:=by
 unfold arStep at h
 split at h
 ·cases h;exact hm
 ·split at h
  ·split at h
   ·cases h;exact hm
   ·cases h
  ·cases h
   simp only [mk,List.any_append,Bool.or_eq_true] at hm ⊢
   exact .inl hm
theorem arAll_mk:∀ (l:List (List Int × Term)) {m m':Ars},arAll m l = some m'→mk m = true→mk m' = true
 | [],m,m',h,hm=>by cases h;exact hm
 | x :: l,m,m',h,hm=>by
  simp only [arAll] at h
  cases hs:arStep m x.2 with
  | none=>rw [hs] at h;cases h
  | some m1 =>
   rw [hs,Option.bind_some] at h
   exact arAll_mk l h (arStep_mk hs hm)
def Says (o:Option Ars) (s:List ASym × Bool):Prop:=match o with
 | none=>s.2 = false
 | some m=>if mk m then s.2 = false else s.2 = true∧Rel s.1 m
theorem insSy_eq (l:List ASym) (n:Str) (k:Int) (hs:SySorted l):insSy l n k = if getSy l n = none then insR n k l else l:=by
 unfold insSy
 rw [getSy_at hs,insR_eq]
 split
 ·simp
 ·simp
theorem sy_new {l:List ASym} {n:Str} {k:Int}:(l.take (syAt l n)++⟨n,k⟩ :: l.drop (syAt l n)).getD (syAt l n) default = ⟨n,k⟩:=by
 have hle:syAt l n≤l.length:=lbg_le (fun x:ASym=>decide (x.name < n)) l
 rw [List.getD_eq_getElem?_getD,List.getElem?_append_right (by simp;omega),List.length_take,Nat.min_eq_left hle]
 simp
mutual
theorem says_T:∀ (t:Term) (p:List Int) (l:List ASym) (m:Ars),Rel l m→formed t = true→Says (arAll m (visit t p)) (symT l t)
 | .mk n b ar,p,l,m,hR,hf=>by
  have ht:=formed_eq (.mk n b ar)
  rw [hf] at ht
  simp only [Term.var,Term.args,Term.name] at ht
  simp only [visit_eq,arAll,symT,Term.args]
  cases b with
  | true =>
   simp only [if_true] at ht
   have har:ar = []:=by
    have:=ht.symm
    simp only [Bool.and_eq_true,decide_eq_true_eq] at this
    exact List.length_eq_zero_iff.1 (of_decide_eq_true this.1)
   subst har
   simp only [arStep,Term.var,if_true,visits,arAll,Option.bind_some,Says,hR.2.2,Bool.false_eq_true,if_false]
   exact ⟨trivial,hR⟩
  | false =>
   have hfs:formeds ar = true:=by
    rw [formeds_all]
    have:=ht.symm
    simp only [Bool.false_eq_true,if_false,Bool.and_eq_true] at this
    exact this.2.2
   simp only [Bool.false_eq_true,if_false]
   by_cases hmk:marked n = true
   ·rw [if_pos hmk]
    have hg:getA m n = none:=by
     cases hg:getA m n with
     | none=>rfl
     | some k=>rw [mk_getA hg hR.2.2] at hmk;cases hmk
    have hst:arStep m (.mk n false ar) = some (m++[(n,ar.length)]):=by simp [arStep,Term.var,Term.name,Term.args,hg]
    rw [hst,Option.bind_some]
    have hm1:mk (m++[(n,ar.length)]) = true:=by simp [mk,hmk]
    cases hr:arAll (m++[(n,ar.length)]) (visits ar p 0) with
    | none=>rfl
    | some m'=>simp only [Says,arAll_mk _ hr hm1,if_true]
   ·rw [if_neg hmk]
    have hg2:=hR.2.1 n
    have hat:=getSy_at (n:=n) hR.1
    cases hg:getA m n with
    | some k =>
     rw [hg] at hg2
     have hne:¬ getSy l n = none:=by rw [hg2];simp
     have hins:insSy l n ar.length = l:=by rw [insSy_eq _ _ _ hR.1,if_neg hne]
     have har:(l.getD (syAt l n) default).arity = k:=by
      rw [hg2] at hat
      split at hat
      ·simpa using hat.symm
      ·cases hat
     rw [hins,har]
     by_cases hk:k = ar.length
     ·have hst:arStep m (.mk n false ar) = some m:=by simp [arStep,Term.var,Term.name,Term.args,hg,hk]
      rw [hst,Option.bind_some,if_neg (by simp [hk])]
      exact says_Ts ar p 0 l m hR hfs
     ·have hst:arStep m (.mk n false ar) = none:=by simp [arStep,Term.var,Term.name,Term.args,hg,hk]
      rw [hst,if_pos (by simp;omega)]
      rfl
    | none =>
     rw [hg] at hg2
     have hg2':getSy l n = none:=hg2
     have hnm:∀ x∈l,x.name ≠ n:=fun x hx e=>getSy_some hx e hg2'
     have hst:arStep m (.mk n false ar) = some (m++[(n,ar.length)]):=by simp [arStep,Term.var,Term.name,Term.args,hg]
     have hins:insSy l n ar.length = insR n ar.length l:=by rw [insSy_eq _ _ _ hR.1,if_pos hg2']
     have hnew:((insR n ar.length l).getD (syAt l n) default).arity = ar.length:=by rw [← insR_eq,sy_new]
     rw [hst,Option.bind_some,hins,hnew,if_neg (by simp)]
     refine says_Ts ar p 0 _ _ ⟨insR_sorted hR.1 hnm,fun v=>?_,?_⟩ hfs
     ·rw [getSy_insR hnm,getA_append,hR.2.1 v]
      by_cases e:n = v
      ·subst e;rw [if_pos rfl,if_pos rfl,hg];rfl
      ·rw [if_neg e,if_neg e];cases getA m v <;> rfl
     ·have:=hR.2.2
      simp only [mk] at this ⊢
      rw [List.any_append,this]
      simpa using hmk
theorem says_Ts:∀ (ar:List Term) (p:List Int) (i:Nat) (l:List ASym) (m:Ars),Rel l m→formeds ar = true→Says (arAll m (visits ar p i)) (symTs l ar)
 | [],p,i,l,m,hR,_=>by
  simp only [visits,arAll,symTs,Says,hR.2.2,Bool.false_eq_true,if_false]
  exact ⟨trivial,hR⟩
 | a :: ar,p,i,l,m,hR,hf=>by
  simp only [formeds,Bool.and_eq_true] at hf
  have h1:=says_T a (p++[(i:Int)]) l m hR hf.1
  simp only [visits,arAll_append,symTs]
  cases hr:arAll m (visit a (p++[(i:Int)])) with
  | none =>
   rw [hr] at h1
   rw [if_neg (by rw [show (symT l a).2 = false from h1];simp)]
   rfl
  | some m1 =>
   rw [hr] at h1
   rw [Option.bind_some]
   simp only [Says] at h1
   by_cases hm1:mk m1 = true
   ·rw [if_pos hm1] at h1
    rw [if_neg (by rw [h1];simp)]
    cases hr2:arAll m1 (visits ar p (i+1)) with
    | none=>rfl
    | some m'=>simp only [Says,arAll_mk _ hr2 hm1,if_true]
   ·rw [if_neg hm1] at h1
    rw [if_pos h1.1]
    exact says_Ts ar p (i+1) _ _ h1.2 hf.2
end
theorem says_Rs:∀ (r:List ARule) (l:List ASym) (m:Ars),Rel l m→(∀ x∈r,formed x.left = true∧formed x.right = true)→match arRules m r with
  | none=>(symRs l r).2 = false
  | some m=>(symRs l r).2 = !mk m
 | [],l,m,hR,_=>by simp only [arRules,symRs,hR.2.2];rfl
 | x :: r,l,m,hR,hf=>by
  obtain ⟨hf1,hf2⟩:=hf x (by simp)
  have h1:=says_T x.left [] l m hR hf1
  have mono:∀ (r:List ARule) {m m':Ars},arRules m r = some m'→mk m = true→mk m' = true:=by
   intro r
   induction r with
   | nil=>intro m m' h hm;cases h;exact hm
   | cons y r ih =>
    intro m m' h hm
    simp only [arRules] at h
    cases ha:arAll m (visit y.left []) with
    | none=>rw [ha] at h;cases h
    | some m1 =>
     rw [ha,Option.bind_some] at h
     cases hb:arAll m1 (visit y.right []) with
     | none=>rw [hb] at h;cases h
     | some m2 =>
      rw [hb,Option.bind_some] at h
      exact ih h (arAll_mk _ hb (arAll_mk _ ha hm))
  simp only [arRules,symRs]
  cases ha:arAll m (visit x.left []) with
  | none =>
   rw [ha] at h1
   have:(symT l x.left).2 = false:=h1
   simp [this]
  | some m1 =>
   rw [ha] at h1
   simp only [Says] at h1
   rw [Option.bind_some]
   by_cases hm1:mk m1 = true
   ·rw [if_pos hm1] at h1
    rw [if_neg (by rw [h1];simp)]
    cases hr:(arAll m1 (visit x.right [])).bind fun m2=>arRules m2 r with
    | none=>rfl
    | some m' =>
     have:mk m' = true:=by
      cases hb:arAll m1 (visit x.right []) with
      | none=>rw [hb] at hr;cases hr
      | some m2=>rw [hb,Option.bind_some] at hr;exact mono r hr (arAll_mk _ hb hm1)
     simp [this]
   ·rw [if_neg hm1] at h1
    rw [if_pos h1.1]
    have h2:=says_T x.right [] _ m1 h1.2 hf2
    cases hb:arAll m1 (visit x.right []) with
    | none =>
     rw [hb] at h2
     have:(symT (symT l x.left).1 x.right).2 = false:=h2
     simp [this]
    | some m2 =>
     rw [hb] at h2
     simp only [Says] at h2
     rw [Option.bind_some]
     by_cases hm2:mk m2 = true
     ·rw [if_pos hm2] at h2
      rw [if_neg (by rw [h2];simp)]
      cases hr:arRules m2 r with
      | none=>rfl
      | some m'=>simp [mono r hr hm2]
     ·rw [if_neg hm2] at h2
      rw [if_pos h2.1]
      exact says_Rs r _ _ h2.2 fun y hy=>hf y (by simp [hy])
theorem check_formed {t:Term} (h:check t = 0):formed t = true:=by
 unfold check at h
 split at h
 ·assumption
 ·omega
theorem checkPairs_formed:∀ {r:List ARule},checkPairs r = 0→∀ x∈r,check x.left = 0∧check x.right = 0
 | [],_,x,hx=>by cases hx
 | y :: r,h,x,hx=>by
  simp only [checkPairs] at h
  split at h
  ·omega
  ·rename_i h1
   rcases List.mem_cons.1 hx with rfl | hx
   ·simp only [checks,ne_eq,Classical.not_not] at h1
    split at h1
    ·omega
    ·rename_i h2
     split at h1
     ·omega
     ·rename_i h3
      exact ⟨by simpa using h2,by simpa using h3⟩
   ·exact checkPairs_formed h x hx
theorem checkRules_formed {r:List ARule} (h:checkRules r = 0):∀ x∈r,check x.left = 0∧check x.right = 0:=by
 unfold checkRules at h
 split at h
 ·omega
 ·exact checkPairs_formed h
theorem checkSystemR_eq (r:List ARule):checkSystemR r = checkSystem r:=by
 unfold checkSystemR checkSystem
 by_cases h1:checkRules r = 0
 ·rw [h1,if_neg (show ¬ ((0:Int) ≠ 0) by simp),if_neg (show ¬ ((0:Int) ≠ 0) by simp)]
  have hf:=checkRules_formed h1
  have:=says_Rs r [] [] ⟨by simp [SySorted],fun n=>rfl,rfl⟩ fun x hx=>⟨check_formed (hf x hx).1,check_formed (hf x hx).2⟩
  rw [show r.any extra = r.any extraR from by congr 1;funext x;exact extra_eq x]
  cases ha:arRules [] r with
  | none=>rw [ha] at this;simp only at this;simp [this]
  | some m =>
   rw [ha] at this
   simp only at this
   rw [this]
   by_cases hk:(m.any fun p=>marked p.1) = true
   ·simp [mk,hk]
   ·simp [mk,hk]
 ·rw [if_pos (by simpa using h1),if_pos (by simpa using h1)]
theorem r01_CheckSystem_s (r:List ARule) (hs:rbs r < 2^38):PF n_r01_CheckSystem [encRs r] (.int .i64 (checkSystem r)):=checkSystemR_eq r ▸ r01_CheckSystem_sR r hs
end Go.Dw
end
section
namespace Go.Dw
theorem subT_setT:∀ (p:List Int) (t x y:Term),subT t p = some y→subT (setT t p x) p = some x
 | [],t,x,y,_=>rfl
 | i :: p,t,x,y,h=>by
  simp only [subT] at h
  split at h
  case isFalse=>cases h
  rename_i hi
  have hk:i.toNat < t.args.length:=by omega
  have hl:(setT t (i :: p) x).args.length = t.args.length:=setT_args_len
  simp only [subT]
  rw [if_pos (by omega),setT_args_get hk,if_pos (by omega)]
  exact subT_setT p _ x y h
theorem depth_mem {l:List Term} {a:Term} (h:a∈l):depth a≤depths l:=by
 induction l with
 | nil=>cases h
 | cons x xs ih=>rcases List.mem_cons.1 h with rfl | h <;> simp only [depths];omega;have:=ih h;omega
theorem subT_depth:∀ (p:List Int) (t x:Term),subT t p = some x→depth x≤depth t
 | [],t,x,h=>by cases h;exact Nat.le_refl _
 | i :: p,t,x,h=>by
  simp only [subT] at h
  split at h
  case isFalse=>cases h
  rename_i hi
  have h1:=subT_depth p _ x h
  have h2:=depth_mem (getD_mem (show i.toNat < t.args.length by omega))
  have h3:=depth_args t
  omega
theorem fits_sub {t x y:Term} {p:List Int} (h:subT t p = some y) (hf:fits (setT t p x) = true):fits x = true:=by
 have h1:=subT_setT p t x y h
 have h2:=subT_size _ _ _ h1
 have h3:=subT_depth _ _ _ h1
 simp only [fits,Bool.and_eq_true,decide_eq_true_eq] at hf ⊢
 omega
theorem r04_Step_s (r:List ARule) (t:Term) (s:AStep) (hr:rbs r < 2^28) (hg:∀ x∈r,good x.left∧good x.right) (ht:good t) (hp:s.pos.length < 2^40):PF n_r04_Step [encRs r,encT t,encSt s] (encTE (doE r t s).1 (doE r t s).2):=by
 have htb:=tb_short t ht.1
 have hts:=ht.2
 refine pf_of r04_Step.ok rfl ?_
 push_cast
 refine .of (r04_Subst_s r t s (by omega) (by omega) (by omega)) ?_
 unfold doE
 by_cases h1:(findE r t s).2 = 0
 ·rw [if_neg (by simpa using h1)]
  obtain ⟨k1,k2,_,y,k3,k4⟩:=findE_ok h1
  have hm:=getD_mem k2
  have hgl:=hg _ hm
  have hyt:=subT_tb _ _ _ k3
  have hlt:=tb_short _ hgl.1.1
  have hrt:=tb_short _ hgl.2.1
  have hls:=hgl.1.2
  have hrs:=hgl.2.2
  have hbl:=length_le_bbs (findE r t s).1
  have hsz:=inst_size (findE r t s).1 (r.getD s.rule.toNat default).right
  have hlr:=length_le_rbs r
  generalize (findE r t s).1 = u at k4 hbl hsz ⊢
  have hmul:size (r.getD s.rule.toNat default).right * (1+bbs u)≤4000 * 200001:=Nat.mul_le_mul hrs (by omega)
  have hin:((s.rule:Int) < (r.length:Int)) = True:=eq_true (by omega)
  have hi0:((0:Int)≤s.rule) = True:=eq_true k1
  have hst:=setT_size s.pos t (inst u (r.getD s.rule.toNat default).right)
  push_cast [h1,hin,hi0]
  refine .of (r01_Grown_s u (by omega) (by omega) _ (by omega)) ?_
  push_cast
  refine .of (r04_replaced_s s.pos t (inst u (r.getD s.rule.toNat default).right) (by omega) (by omega) hp) ?_
  have hR:=r01_Apply_s u (by omega) (r.getD s.rule.toNat default).right (by omega)
  have hP:=r01_Put_s s.pos t (inst u (r.getD s.rule.toNat default).right) y ht.1 k3 (by omega) hp
  generalize hv:setT t s.pos (inst u (r.getD s.rule.toNat default).right) = v at hP hst ⊢
  have hff:fits v = true→fits (inst u (r.getD s.rule.toNat default).right) = true:=fun h=>by subst hv;exact fits_sub k3 h
  by_cases h2:size v≤4000
  ·have c2:((4000:Int) < (size v:Int)) = False:=eq_false (by omega)
   by_cases h3:depth v≤200
   ·have c3:((200:Int) < (depth v:Int)) = False:=eq_false (by omega)
    have hf:fits v = true:=by simp [fits,h2,h3]
    rw [if_pos (hff hf),if_pos hf]
    push_cast [c2,c3,hin,hi0]
    refine .of hR ?_
    push_cast
    refine .of hP ?_
    push_cast
    exact pf_ret (by push_cast [r04_Step.rs,encTE])
   ·have c3:((200:Int) < (depth v:Int)) = True:=eq_true (by omega)
    have hf:fits v = false:=by simp [fits,h3]
    push_cast [c2,c3,hf,ite_self]
    exact pf_ret (by push_cast [r04_Step.rs,encTE];rfl)
  ·have c2:((4000:Int) < (size v:Int)) = True:=eq_true (by omega)
   have hf:fits v = false:=by simp [fits,h2]
   push_cast [c2,hf,ite_self]
   exact pf_ret (by push_cast [r04_Step.rs,encTE];rfl)
 ·rw [if_pos (by simpa using h1)]
  push_cast [h1]
  exact pf_ret (by push_cast [r04_Step.rs,encTE];rfl)
theorem r05_Terms_s (r:List ARule) (c:AChain) (hr:rbs r < 2^28) (hrg:∀ x∈r,good x.left∧good x.right) (hc:tb c.start < 2^28) (hl:c.steps.length < 2^40) (hp:∀ s∈c.steps,s.pos.length < 2^40) :
  PF n_r05_Terms [encRs r,encC c] (.tup [encTs (chainE r c).1,.int .i64 (chainE r c).2]):=by
 have hst:=size_le_tb c.start
 refine pf_of r05_Terms.ok rfl ?_
 unfold chainE
 by_cases h1:4096 < c.steps.length
 ·have hi:((4096:Int) < (c.steps.length:Int)) = True:=eq_true (by omega)
  rw [if_pos h1]
  push_cast [hi]
  exact pf_ret (by push_cast [r05_Terms.rs];rfl)
 ·have hi:((4096:Int) < (c.steps.length:Int)) = False:=eq_false (by omega)
  rw [if_neg h1]
  push_cast [hi]
  refine .of (r01_Check_s c.start (by omega)) ?_
  by_cases h2:check c.start = 0
  ·rw [if_neg (by simpa using h2)]
   push_cast [h2]
   have hg:=check_good h2
   generalize hres:addE [c.start] (runE r c.start c.steps) = res
   rw [show (V.own 0 3 [cT c.start]:V) = ownL cT 0 3 ([]++[c.start]) from rfl]
   refine loop_up (n:=c.steps.length) (R:=fun k=>∀ pre t,pre.length = k→good t→addE (pre++[t]) (runE r t (c.steps.drop k)) = res →
    r05_Terms.L3 (encRs r) (ownL cT 0 3 (pre++[t])) (encSts c.steps) (.int .i64 c.steps.length) (.int .i64 k) 0 [.arr t_Term 3 (k+1)] (Ends 0 r05_Terms.rs fun x' H'=>x' = .tup [encTs res.1,.int .i64 res.2]∧H' = [])) ?_ ?_ 0 (by omega) [] c.start rfl hg hres
   ·intro k hk ih pre t hpre ht hq
    rw [drop_getD hk] at hq
    have hm:=getD_mem hk
    generalize hs:c.steps.getD k default = s at hm hq
    have hget:(pre++[t]).getD k default = t:=by rw [List.getD_eq_getElem?_getD,List.getElem?_append_right (by omega),hpre];simp
    have hlen:(pre++[t]).length = k+1:=by simp [hpre]
    have hlt:((k:Int) < (k:Int)+1) = True:=eq_true (by omega)
    have hwk:IntKind.i64.wrap ((k:Int)+1 - 1) = (k:Int):=by rw [wrap64 (by omega) (by omega)];omega
    have htb:=good_tb ht
    refine r05_Terms.G3 ?_
    push_cast [ilt hk,hs,hlen,hwk,hlt,hget]
    refine .of (r04_Step_s r t s hr hrg ht (hp s hm)) ?_
    cases hd:doE r t s with
    | mk o e =>
    cases o with
    | none =>
     rw [runE_none hd] at hq
     have he:=doE_none hd
     simp only [addE,he,if_false] at hq
     push_cast [encTE,he]
     refine pf_ret ?_
     push_cast [r05_Terms.rs,← hq]
     rfl
    | some u =>
     obtain ⟨hu,rfl⟩:=doE_good (fun x hx=>(hrg x hx).2.1) ht.1 hd
     rw [runE_some hd,addE_addE] at hq
     push_cast [encTE,w64 (show k < 2^62 by omega)]
     refine ⟨⟨by omega,Nat.le_trans (Nat.mul_le_mul_right 48 (show _≤2^41 by omega)) (by unfold maxEls;decide)⟩,?_⟩
     have:=ih (pre++[t]) u (by simp [hpre]) hu hq
     push_cast at this
     rw [hpre]
     exact this
   ·intro pre t hpre ht hq
    rw [drop_map_none] at hq
    refine r05_Terms.G3 ?_
    push_cast [inlt (Nat.le_refl _)]
    refine pf_ret ?_
    push_cast [r05_Terms.rs,← hq]
    simp [addE,runE]
  ·rw [if_pos (by simpa using h2)]
   push_cast [h2]
   exact pf_ret (by push_cast [r05_Terms.rs];rfl)
theorem r05_Check_s (r:List ARule) (c:AChain) (hr:rbs r < 2^28) (hc:tb c.start < 2^28) (hl:c.steps.length < 2^40) (hp:∀ s∈c.steps,s.pos.length < 2^40) :
  PF n_r05_Check [encRs r,encL cC 4 [c]] (.int .i64 (termsE r c).2):=by
 refine pf_of r05_Check.ok rfl ?_
 push_cast
 refine .of (r01_CheckSystem_s r (by omega)) ?_
 unfold termsE
 by_cases h:checkSystem r = 0
 ·rw [if_neg (by simpa using h)]
  push_cast [h]
  refine r05_Check.G3 ?_
  push_cast
  refine .of (r05_Terms_s r c hr (checkSystem_good h) hc hl hp) ?_
  have hw1:IntKind.i64.wrap 1 = 1:=wrap64 (by omega) (by omega)
  by_cases h2:(chainE r c).2 = 0
  ·push_cast [h2,hw1]
   refine r05_Check.G3 ?_
   push_cast
   exact pf_ret (by push_cast [r05_Check.rs])
  ·push_cast [h2]
   exact pf_ret (by push_cast [r05_Check.rs])
 ·rw [if_pos (by simpa using h)]
  push_cast [h]
  exact pf_ret (by push_cast [r05_Check.rs])
end Go.Dw
end
section
namespace Go.Dw
theorem rens_cTs {σ:Nat→Option Nat} {l:List Term}:(l.map cT).map (rens σ) = l.map cT:=by rw [List.map_map];rfl
end Go.Dw
end
section
namespace Go.Dw
namespace idxEdge
end idxEdge
theorem rens_cSts {σ:Nat→Option Nat} {l:List AStep}:(l.map cSt).map (rens σ) = l.map cSt:=by rw [List.map_map];rfl
attribute [push_cast] rens_cSts
end Go.Dw
end
section
namespace Go.Dw
theorem own_pos {i:Nat} {l:List (List Int)} {p:List Int}:(.own i 1 (l.map cPp++[[encP p]]):V) = ownL cPp i 1 (l++[p]):=by simp [ownL,cPp]
end Go.Dw
end
section
namespace Go.Dw
section
variable {P:Program} {N:Nat→C} {B:Nat} {ds:List Nat} {g l:List S} {s:List K} {t:T} {H:List Ob} {Q:X→T→List Ob→Prop}
theorem gP_tt:gP P N B true ds g l s t H Q (.bool true) = Run P N B (.r (g++l) :: s) t H Q:=by simp [gP]
theorem gP_ff:gP P N B false ds g l s t H Q (.bool false) = Run P N B (.r (g++l) :: s) t H Q:=by simp [gP]
theorem gP_tf:gP P N B true ds g l s t H Q (.bool false) = Run P N B (.r l :: s) (ds.map (fun d=>(d,V.tup []))++t) H Q:=by simp [gP]
theorem gP_ft:gP P N B false ds g l s t H Q (.bool true) = Run P N B (.r l :: s) (ds.map (fun d=>(d,V.tup []))++t) H Q:=by simp [gP]
theorem cP_t {a b:C}:cP P N B a b s t H Q (.bool true) = Run P N B (.c a :: s) t H Q:=by simp [cP]
theorem cP_f {a b:C}:cP P N B a b s t H Q (.bool false) = Run P N B (.c b :: s) t H Q:=by simp [cP]
end
end Go.Dw
end
section
namespace Go.Dw
theorem checkSystem_nv {r:List ARule} (h:checkSystem r = 0):∀ x∈r,x.left.var = false:=by
 unfold checkSystem at h
 split at h
 ·rename_i h1;exact absurd h h1
 ·split at h
  ·cases h
  ·split at h
   ·cases h
   ·split at h
    ·cases h
    ·rename_i h3
     intro x hx
     have h4:extra x = false:=by
      cases he:extra x with
      | false=>rfl
      | true=>exact absurd (List.any_eq_true.2 ⟨x,hx,he⟩) h3
     unfold extra at h4
     simp only [Bool.or_eq_false_iff] at h4
     exact h4.1
end Go.Dw
end
section
namespace Go.Dw
theorem image_append (a b:List ABind) (n:Str):image (a++b) n = match image a n with | some x=>some x | none=>image b n:=by
 induction a with
 | nil=>rfl
 | cons x a ih =>
  simp only [List.cons_append,image]
  split
  ·rfl
  ·exact ih
theorem image_bindT {s:List ABind} {v:Str} {t:Term} (h:image s v = none) (n:Str):image (bindT s v t) n = if v = n then some t else image s n:=by
 unfold bindT
 have h0:=image_append (s.take (lbd v s)) (s.drop (lbd v s)) n
 rw [List.take_append_drop] at h0
 rw [image_append]
 by_cases hv:v = n
 ·subst hv
  rw [h] at h0
  rw [if_pos rfl]
  cases ha:image (s.take (lbd v s)) v with
  | some x=>rw [ha] at h0;cases h0
  | none=>simp only [image,if_true]
 ·rw [if_neg hv,h0]
  cases image (s.take (lbd v s)) n with
  | some x=>rfl
  | none=>simp only [image,if_neg hv]
def ExtB (a b:List ABind):Prop:=∀ n x,image a n = some x→image b n = some x
theorem ExtB.refl (a:List ABind):ExtB a a:=fun _ _ h=>h
theorem ExtB.trans {a b c:List ABind} (h:ExtB a b) (h2:ExtB b c):ExtB a c:=fun n x hx=>h2 n x (h n x hx)
theorem ext_bindT {s:List ABind} {v:Str} {t:Term} (h:image s v = none):ExtB s (bindT s v t):=fun n x hx=>by
 rw [image_bindT h]
 split
 ·rename_i e;subst e;rw [h] at hx;cases hx
 ·exact hx
theorem term_mk (t:Term):t = .mk t.name t.var t.args:=by cases t;rfl
theorem matchT_sound (p:Term):∀ (s:List ABind) (t:Term),(matchT s p t).2 = true→ExtB s (matchT s p t).1∧∀ s2,ExtB (matchT s p t).1 s2→inst s2 p = t:=by
 induction p using term_ind with
 | h p ih =>
 intro s t
 rw [matchT_eq]
 cases hv:p.var with
 | true =>
  rw [if_pos rfl]
  cases hx:image s p.name with
  | some x =>
   intro h
   have h:x = t:=by simpa using h
   subst h
   refine ⟨.refl s,fun s2 h2=>?_⟩
   rw [inst_eq,hv,if_pos rfl,h2 _ _ hx];rfl
  | none =>
   intro _
   refine ⟨ext_bindT hx,fun s2 h2=>?_⟩
   rw [inst_eq,hv,if_pos rfl,h2 p.name t (by rw [image_bindT hx,if_pos rfl])];rfl
 | false =>
  rw [if_neg (by simp)]
  by_cases hc:t.var ∨ p.name ≠ t.name ∨ p.args.length ≠ t.args.length
  ·rw [if_pos hc];intro h;cases h
  ·rw [if_neg hc]
   simp only [not_or,Classical.not_not] at hc
   have key:∀ (l m:List Term) (s:List ABind),(∀ a∈l,a∈p.args)→l.length = m.length→(matchTs s l m).2 = true→ExtB s (matchTs s l m).1∧∀ s2,ExtB (matchTs s l m).1 s2→l.map (inst s2) = m:=by
    intro l
    induction l with
    | nil =>
     intro m s _ hl _
     cases m with
     | nil=>exact ⟨.refl s,fun _ _=>rfl⟩
     | cons b m=>cases hl
    | cons a l ihl =>
     intro m s hm hl h
     cases m with
     | nil=>cases hl
     | cons b m =>
      simp only [matchTs] at h ⊢
      by_cases hab:(matchT s a b).2 = true
      ·rw [if_pos hab] at h ⊢
       obtain ⟨h1,h2⟩:=ih a (hm a (by simp)) s b hab
       obtain ⟨h3,h4⟩:=ihl m _ (fun x hx=>hm x (by simp [hx])) (by simpa using hl) h
       refine ⟨h1.trans h3,fun s2 hs2=>?_⟩
       rw [List.map_cons,h2 s2 (h3.trans hs2),h4 s2 hs2]
      ·rw [if_neg hab] at h;cases h
   intro h
   obtain ⟨h1,h2⟩:=key p.args t.args s (fun _ h=>h) hc.2.2 h
   refine ⟨h1,fun s2 hs2=>?_⟩
   rw [inst_eq,hv,if_neg (by simp),h2 s2 hs2,hc.2.1]
   rw [term_mk t]
   have:t.var = false:=by simpa using hc.1
   simp only [Term.name,Term.args,this]
end Go.Dw
end
section
namespace Go.Dw
def wordT:Term→List Str × Term
 | .mk n false [a]=>(n :: (wordT a).1,(wordT a).2)
 | t=>([],t)
theorem wordT_step (t:Term):wordT t = if t.var = false∧t.args.length = 1 then (t.name :: (wordT (t.args.getD 0 default)).1,(wordT (t.args.getD 0 default)).2) else ([],t):=by
 cases t with | mk n v l =>
 cases v with
 | true=>rw [if_neg (by simp [Term.var])];simp [wordT]
 | false =>
  cases l with
  | nil=>rw [if_neg (by simp [Term.args])];simp [wordT]
  | cons a l =>
   cases l with
   | nil=>rw [if_pos (by simp [Term.var,Term.args])];simp [wordT,Term.name,Term.args]
   | cons b l=>rw [if_neg (by simp [Term.args])];simp [wordT]
theorem own_str {i:Nat} {l:List Str} {s:Str}:(.own i 1 (l.map cS++[[V.str s]]):V) = ownL cS i 1 (l++[s]):=by simp [ownL,cS]
theorem put_cTz (t u:Term):put 0 (cT t) (cT u) = cT t:=rfl
theorem bounds_word_s (t:Term) (hs:size t < 2^40):PF n_bounds_word [encT t] (.tup [encSs (wordT t).1,encT (wordT t).2]):=by
 refine pf_of bounds_word.ok rfl ?_
 push_cast
 have key:∀ (n:Nat) (u:Term) (acc:List Str),size u≤n→acc.length+size u≤size t→(acc++(wordT u).1,(wordT u).2) = wordT t →
   bounds_word.L3 (.ptr 0 0) (.ptr 1 0) (ownL cS 2 1 acc) 0 [.cells t_Term (cT u),.cells t_Term [.str [],.bool false,.sl 3 []],.arr t_string 1 acc.length] (Ends 0 bounds_word.rs fun x' H'=>x' = .tup [encSs (wordT t).1,encT (wordT t).2]∧H' = []):=by
  intro n
  induction n with
  | zero=>intro u acc h;have:=size_args u;omega
  | succ n ih =>
   intro u acc h hl hw
   have hsu:=size_args u
   rw [wordT_step u] at hw
   refine bounds_word.G3 ?_
   by_cases h1:u.var = false
   ·by_cases h2:u.args.length = 1
    ·rw [if_pos ⟨h1,h2⟩] at hw
     have h2i:((u.args.length:Int) = 1) = True:=eq_true (by omega)
     have h0i:((0:Int) < (u.args.length:Int)) = True:=eq_true (by omega)
     have hm:=size_mem (getD_mem (l:=u.args) (k:=0) (by omega))
     push_cast [h1,h2i,h0i,own_str,put_cTz]
     refine ⟨Nat.le_trans (Nat.mul_le_mul_right 16 (show _≤2^41 by omega)) (by unfold maxEls;decide),?_⟩
     have:=ih (u.args.getD 0 default) (acc++[u.name]) (by omega) (by rw [List.length_append,List.length_singleton];omega) (by rw [← hw];simp)
     rw [List.length_append,List.length_singleton] at this
     exact this
    ·rw [if_neg (by simp [h2])] at hw
     have h2i:((u.args.length:Int) = 1) = False:=eq_false (by omega)
     push_cast [h1,h2i,put_cTz]
     rw [← hw]
     exact pf_ret (by push_cast [bounds_word.rs,List.append_nil])
   ·have h1:u.var = true:=by simpa using h1
    rw [if_neg (by simp [h1])] at hw
    push_cast [h1,put_cTz]
    rw [← hw]
    exact pf_ret (by push_cast [bounds_word.rs,List.append_nil])
 exact key (size t) t [] (Nat.le_refl _) (by simp) rfl
theorem r24_Word_s (t:Term) (hs:size t < 2^40):PF n_r24_Word [encT t] (.tup [encSs (wordT t).1,encT (wordT t).2]):=by
 refine pf_of r24_Word.ok rfl ?_
 push_cast
 have key:∀ (n:Nat) (u:Term) (acc:List Str),size u≤n→acc.length+size u≤size t→(acc++(wordT u).1,(wordT u).2) = wordT t →
   r24_Word.L3 (.ptr 0 0) (.ptr 1 0) (ownL cS 2 1 acc) 0 [.cells t_Term (cT u),.cells t_Term [.str [],.bool false,.sl 3 []],.arr t_string 1 acc.length] (Ends 0 r24_Word.rs fun x' H'=>x' = .tup [encSs (wordT t).1,encT (wordT t).2]∧H' = []):=by
  intro n
  induction n with
  | zero=>intro u acc h;have:=size_args u;omega
  | succ n ih =>
   intro u acc h hl hw
   have hsu:=size_args u
   rw [wordT_step u] at hw
   refine r24_Word.G3 ?_
   by_cases h1:u.var = false
   ·by_cases h2:u.args.length = 1
    ·rw [if_pos ⟨h1,h2⟩] at hw
     have h2i:((u.args.length:Int) = 1) = True:=eq_true (by omega)
     have h0i:((0:Int) < (u.args.length:Int)) = True:=eq_true (by omega)
     have hm:=size_mem (getD_mem (l:=u.args) (k:=0) (by omega))
     push_cast [h1,h2i,h0i,own_str,put_cTz]
     refine ⟨Nat.le_trans (Nat.mul_le_mul_right 16 (show _≤2^41 by omega)) (by unfold maxEls;decide),?_⟩
     have:=ih (u.args.getD 0 default) (acc++[u.name]) (by omega) (by rw [List.length_append,List.length_singleton];omega) (by rw [← hw];simp)
     rw [List.length_append,List.length_singleton] at this
     exact this
    ·rw [if_neg (by simp [h2])] at hw
     have h2i:((u.args.length:Int) = 1) = False:=eq_false (by omega)
     push_cast [h1,h2i,put_cTz]
     rw [← hw]
     exact pf_ret (by push_cast [r24_Word.rs,List.append_nil])
   ·have h1:u.var = true:=by simpa using h1
    rw [if_neg (by simp [h1])] at hw
    push_cast [h1,put_cTz]
    rw [← hw]
    exact pf_ret (by push_cast [r24_Word.rs,List.append_nil])
 exact key (size t) t [] (Nat.le_refl _) (by simp) rfl
end Go.Dw
end
section
namespace Go.Dw
structure ARl where
 left:List Str
 right:List Str
 deriving Inhabited,DecidableEq
def cRl (x:ARl):List V:=[encSs x.left,encSs x.right]
abbrev encRls (l:List ARl):V:=encL cRl 2 l
theorem cRl_0 (x:ARl):(cRl x)[0]? = some (encSs x.left):=rfl
theorem cRl_1 (x:ARl):(cRl x)[1]? = some (encSs x.right):=rfl
theorem cRl_len (x:ARl):(cRl x).length = 2:=rfl
attribute [push_cast] cRl_0 cRl_1 cRl_len
def strR (x:ARule):Bool:=(wordT x.left).2.var && (wordT x.right).2.var
def toRl (x:ARule):ARl:=⟨(wordT x.left).1,(wordT x.right).1⟩
def rulesV (r:List ARule):V:=if r.all strR then .tup [encRls (r.map toRl),.bool true] else .tup [encRls [],.bool false]
theorem own_rl {i:Nat} {l:List ARl} {x:ARule}:(.own i 2 (l.map cRl++[[encSs (wordT x.left).1,encSs (wordT x.right).1]]):V) = ownL cRl i 2 (l++[toRl x]):=by simp [ownL,cRl,toRl]
theorem bounds_rules_s (r:List ARule) (hr:rbs r < 2^38):PF n_bounds_rules [encRs r] (rulesV r):=by
 have hl:=length_le_rbs r
 refine pf_of bounds_rules.ok rfl ?_
 push_cast
 refine loop_up (n:=r.length) (R:=fun k=>(r.take k).all strR = true→bounds_rules.L3 (ownL cRl 0 2 ((r.take k).map toRl)) (encRs r) (.int .i64 r.length) (.int .i64 k) 0 [.arr t_bounds_rule 2 k] (Ends 0 bounds_rules.rs fun x H=>x = rulesV r∧H = [])) ?_ ?_ 0 (Nat.zero_le _) (by simp)
 ·intro k hk ih hall
  have hmm:=rbs_mem (getD_mem hk)
  have htk:r.take (k+1) = r.take k++[r.getD k default]:=by rw [List.take_succ_eq_append_getElem hk];simp [List.getD_eq_getElem?_getD,hk]
  have hlk:((r.take k).map toRl).length = k:=by simp;omega
  refine bounds_rules.G3 ?_
  have hmem:=getD_mem hk
  generalize hx:r.getD k default = x at htk hmm hmem
  have h1:=size_le_tb x.left
  have h2:=size_le_tb x.right
  push_cast [ilt hk,hx]
  refine .of (bounds_word_s x.left (by omega)) ?_
  push_cast
  refine .of (bounds_word_s x.right (by omega)) ?_
  cases ha:(wordT x.left).2.var with
  | false =>
   have hno:r.all strR = false:=List.all_eq_false.2 ⟨x,hmem,by simp [strR,ha]⟩
   push_cast [ha]
   refine pf_ret ?_
   push_cast [bounds_rules.rs,rulesV,hno]
   rfl
  | true =>
   cases hb:(wordT x.right).2.var with
   | false =>
    have hno:r.all strR = false:=List.all_eq_false.2 ⟨x,hmem,by simp [strR,hb]⟩
    push_cast [ha,hb]
    refine pf_ret ?_
    push_cast [bounds_rules.rs,rulesV,hno]
    rfl
   | true =>
    push_cast [ha,hb,own_rl,hlk,w64 (show k < 2^62 by omega)]
    rw [htk,List.map_append,List.all_append] at ih
    have:=ih (by simp [hall,strR,ha,hb])
    push_cast at this
    refine ⟨by unfold maxEls;omega,?_⟩
    exact this
 ·intro hall
  rw [List.take_length] at hall
  refine bounds_rules.G3 ?_
  push_cast [inlt (Nat.le_refl _),List.take_length]
  refine pf_ret ?_
  push_cast [bounds_rules.rs,rulesV,hall]
end Go.Dw
end
section
namespace Go.Dw
def systemE (r:List ARule):List ARl × Int:=if checkSystem r ≠ 0 then ([],checkSystem r) else if r.all strR then (r.map toRl,0) else ([],4)
theorem bounds_system_s (r:List ARule) (hr:rbs r < 2^38):PF n_bounds_system [encRs r] (.tup [encRls (systemE r).1,.int .i64 (systemE r).2]):=by
 refine pf_of bounds_system.ok rfl ?_
 unfold systemE
 push_cast
 refine .of (term_CheckSystem_t r hr) ?_
 by_cases h:checkSystem r = 0
 ·rw [if_neg (by simpa using h)]
  push_cast [h]
  refine .of (bounds_rules_s r hr) ?_
  unfold rulesV
  cases ha:r.all strR with
  | true =>
   push_cast [if_true]
   exact pf_ret (by push_cast [bounds_system.rs])
  | false =>
   push_cast
   exact pf_ret (by push_cast [bounds_system.rs];rfl)
 ·rw [if_pos (by simpa using h)]
  push_cast [h]
  exact pf_ret (by push_cast [bounds_system.rs];rfl)
def strQ (x:ARule):Bool:=(wordT x.left).2.var && (wordT x.right).2.var && decide ((wordT x.left).2.name = (wordT x.right).2.name)
theorem all_drop_false {α:Type} {p:α→Bool} {l:List α} {k:Nat} [Inhabited α] (hk:k < l.length) (h:p (l.getD k default) = false):l.all p = false:=List.all_eq_false.2 ⟨_,getD_mem hk,by rw [h];exact Bool.false_ne_true⟩
theorem r24_Is_s (r:List ARule) (hr:rbs r < 2^38):PF n_r24_Is [encRs r] (.bool (r.all strQ)):=by
 have hl:=length_le_rbs r
 refine pf_of r24_Is.ok rfl ?_
 push_cast
 refine loop_up (n:=r.length) (R:=fun k=>(r.take k).all strQ = true→r24_Is.L3 (encRs r) (.int .i64 r.length) (.int .i64 k) 0 [] (Ends 0 r24_Is.rs fun x H=>x = .bool (r.all strQ)∧H = [])) ?_ ?_ 0 (Nat.zero_le _) (by simp)
 ·intro k hk ih hall
  have hmm:=rbs_mem (getD_mem hk)
  have htk:r.take (k+1) = r.take k++[r.getD k default]:=by rw [List.take_succ_eq_append_getElem hk];simp [List.getD_eq_getElem?_getD,hk]
  have hno:=all_drop_false (p:=strQ) hk
  refine r24_Is.G3 ?_
  generalize hx:r.getD k default = x at htk hmm hno
  have h1:=size_le_tb x.left
  have h2:=size_le_tb x.right
  push_cast [ilt hk,hx]
  refine .of (r24_Word_s x.left (by omega)) ?_
  push_cast
  refine .of (r24_Word_s x.right (by omega)) ?_
  cases ha:(wordT x.left).2.var with
  | false =>
   push_cast [ha]
   refine pf_ret ?_
   push_cast [r24_Is.rs,hno (by simp [strQ,ha])]
  | true =>
   cases hb:(wordT x.right).2.var with
   | false =>
    push_cast [ha,hb]
    refine pf_ret ?_
    push_cast [r24_Is.rs,hno (by simp [strQ,hb])]
   | true =>
    by_cases hc:(wordT x.left).2.name = (wordT x.right).2.name
    ·push_cast [ha,hb,eq_true hc,w64 (show k < 2^62 by omega)]
     rw [htk,List.all_append] at ih
     have:=ih (by simp [hall,strQ,ha,hb,hc])
     push_cast at this
     exact this
    ·push_cast [ha,hb,eq_false hc]
     refine pf_ret ?_
     push_cast [r24_Is.rs,hno (by simp [strQ,hc])]
 ·intro hall
  rw [List.take_length] at hall
  refine r24_Is.G3 ?_
  push_cast [inlt (Nat.le_refl _)]
  refine pf_ret ?_
  push_cast [r24_Is.rs,hall]
end Go.Dw
end
section
namespace Go.Dw
theorem occ_word:∀ (n:Nat) (t:Term),size t≤n→short t = true→(wordT t).2.var = true→∀ v,occ v t = true ↔ (wordT t).2.name = v:=by
 intro n
 induction n with
 | zero=>intro t h;have:=size_args t;omega
 | succ n ih =>
  intro t h hsh hv v
  have hs3:=short_iff.1 hsh
  rw [wordT_step] at hv ⊢
  cases t with | mk nm vr l =>
  cases vr with
  | true =>
   rw [if_neg (by simp [Term.var])] at hv ⊢
   have hl:l = []:=hs3.2.1 rfl
   subst hl
   simp [occ,occs,Term.name]
  | false =>
   cases l with
   | nil=>rw [if_neg (by simp [Term.args])] at hv;simp [Term.var] at hv
   | cons a l =>
    cases l with
    | cons b l=>rw [if_neg (by simp [Term.args])] at hv;simp [Term.var] at hv
    | nil =>
     rw [if_pos (by simp [Term.var,Term.args])] at hv ⊢
     simp only [Term.args,List.getD_cons_zero] at hv ⊢
     have h2:=ih a (by simp only [size,sizes] at h;omega) (hs3.2.2 a (by simp [Term.args])) hv v
     rw [← h2]
     simp [occ,occs]
theorem strR_Q {r:List ARule} (h:checkSystem r = 0):r.all strR = r.all strQ:=by
 have hx:∀ x∈r,strR x = strQ x:=by
  intro x hx
  obtain ⟨hg1,hg2⟩:=checkSystem_good h x hx
  unfold strR strQ
  cases ha:(wordT x.left).2.var with
  | false=>rfl
  | true =>
   cases hb:(wordT x.right).2.var with
   | false=>rfl
   | true =>
    have he:extra x = false:=by
     unfold checkSystem at h
     split at h
     ·rename_i h1;exact absurd h h1
     ·split at h
      ·cases h
      ·split at h
       ·cases h
       ·split at h
        ·cases h
        ·rename_i h3
         cases he:extra x with
         | false=>rfl
         | true=>exact absurd (List.any_eq_true.2 ⟨x,hx,he⟩) h3
    unfold extra at he
    simp only [Bool.or_eq_false_iff] at he
    have h1:(wordT x.right).2.name∈varsOf [x.right]:=(mem_varsOf _ _).2 ((occ_word _ _ (Nat.le_refl _) hg2.1 hb _).2 rfl)
    have h2:=List.any_eq_false.1 he.2 _ h1
    have h3:(wordT x.right).2.name∈varsOf [x.left]:=by simpa using h2
    have h4:=(occ_word _ _ (Nat.le_refl _) hg1.1 ha _).1 ((mem_varsOf _ _).1 h3)
    simp [h4]
 rw [Bool.eq_iff_iff,List.all_eq_true,List.all_eq_true]
 exact ⟨fun h x hx'=>by rw [← hx x hx'];exact h x hx',fun h x hx'=>by rw [hx x hx'];exact h x hx'⟩
end Go.Dw
end
section
namespace Go.Dw
structure AMove where
 src:Int
 dst:Int
 name:Str
 h:Int
 deriving Inhabited,DecidableEq
def cMv (m:AMove):List V:=[.int .i64 m.src,.int .i64 m.dst,.str m.name,.int .i64 m.h]
def encMv (m:AMove):V:=.agg (cMv m)
abbrev encMvs (l:List AMove):V:=encL cMv 4 l
theorem cMv_0 (m:AMove):(cMv m)[0]? = some (.int .i64 m.src):=rfl
theorem cMv_1 (m:AMove):(cMv m)[1]? = some (.int .i64 m.dst):=rfl
theorem cMv_2 (m:AMove):(cMv m)[2]? = some (.str m.name):=rfl
theorem cMv_3 (m:AMove):(cMv m)[3]? = some (.int .i64 m.h):=rfl
theorem cMv_len (m:AMove):(cMv m).length = 4:=rfl
theorem sto_encMv (m:AMove):sto (encMv m) = some (cMv m):=rfl
theorem ren_encMv {σ:Nat→Option Nat} (m:AMove):ren σ (encMv m) = encMv m:=rfl
theorem rens_cMv {σ:Nat→Option Nat} (m:AMove):rens σ (cMv m) = cMv m:=rfl
theorem agg_cMv (m:AMove):V.agg (cMv m) = encMv m:=rfl
theorem sub_cMv (m:AMove):sub 0 4 (cMv m) = cMv m:=rfl
attribute [push_cast] cMv_0 cMv_1 cMv_2 cMv_3 cMv_len sto_encMv ren_encMv rens_cMv agg_cMv sub_cMv
theorem isNaN_int_s (a:Int):PF n_cmp_isNaN_int [.int .i64 a] (.bool false):=by
 refine pf_of cmp_isNaN_int.ok rfl ?_
 push_cast
 exact pf_ret (by push_cast [cmp_isNaN_int.rs])
theorem cmp_Compare_int_s (a b:Int):PF n_cmp_Compare_int [.int .i64 a,.int .i64 b] (.int .i64 (cmpI a b)):=by
 refine pf_of cmp_Compare_int.ok rfl ?_
 push_cast
 refine .of (isNaN_int_s a) ?_
 push_cast
 refine .of (isNaN_int_s b) ?_
 unfold cmpI
 by_cases h1:a < b
 ·push_cast [eq_true h1]
  exact pf_ret (by push_cast [cmp_Compare_int.rs,h1])
 ·by_cases h2:b < a
  ·push_cast [eq_false h1,eq_true h2]
   exact pf_ret (by push_cast [cmp_Compare_int.rs,h1,h2])
  ·push_cast [eq_false h1,eq_false h2]
   exact pf_ret (by push_cast [cmp_Compare_int.rs,h1,h2])
def firstN:List Int→Int
 | []=>0
 | x :: l=>if x ≠ 0 then x else firstN l
theorem cmp_Or_int_s (l:List Int) (hl:l.length < 2^62):PF n_cmp_Or_int [encP l] (.int .i64 (firstN l)):=by
 refine pf_of cmp_Or_int.ok rfl ?_
 push_cast
 refine loop_up (n:=l.length) (R:=fun k=>firstN (l.drop k) = firstN l→cmp_Or_int.L3 (.int .i64 0) (encP l) (.int .i64 l.length) (.int .i64 k) 0 [] (Ends 0 cmp_Or_int.rs fun x H=>x = .int .i64 (firstN l)∧H = [])) ?_ ?_ 0 (Nat.zero_le _) rfl
 ·intro k hk ih hq
  rw [drop_getD hk] at hq
  refine cmp_Or_int.G3 ?_
  generalize hx:l.getD k default = x at hq
  simp only [firstN] at hq
  by_cases h:x = 0
  ·push_cast [ilt hk,hx,h,w64 (show k < 2^62 by omega)]
   rw [if_neg (by simp [h])] at hq
   have:=ih hq
   push_cast at this
   exact this
  ·push_cast [ilt hk,hx,h]
   rw [if_pos h] at hq
   rw [← hq]
   exact pf_ret (by push_cast [cmp_Or_int.rs])
 ·intro hq
  rw [drop_map_none] at hq
  refine cmp_Or_int.G3 ?_
  push_cast [inlt (Nat.le_refl _)]
  rw [← hq]
  exact pf_ret (by push_cast [cmp_Or_int.rs,firstN])
theorem isNaN_str_s (a:Str):PF n_cmp_isNaN_string [.str a] (.bool false):=by
 refine pf_of cmp_isNaN_string.ok rfl ?_
 push_cast
 exact pf_ret (by push_cast [cmp_isNaN_string.rs,bne_self_eq_false])
theorem cmp_Compare_string_s (a b:Str):PF n_cmp_Compare_string [.str a,.str b] (.int .i64 (cmpS a b)):=by
 rw [cmpS_eq]
 refine pf_of cmp_Compare_string.ok rfl ?_
 push_cast
 refine .of (isNaN_str_s a) ?_
 push_cast
 refine .of (isNaN_str_s b) ?_
 by_cases h1:a < b
 ·push_cast [decide_eq_true h1]
  exact pf_ret (by push_cast [cmp_Compare_string.rs,h1])
 ·by_cases h2:b < a
  ·push_cast [decide_eq_false h1,decide_eq_true h2]
   exact pf_ret (by push_cast [cmp_Compare_string.rs,h1,h2])
  ·push_cast [decide_eq_false h1,decide_eq_false h2]
   exact pf_ret (by push_cast [cmp_Compare_string.rs,h1,h2])
def cmpM (a b:AMove):Int:=firstN [cmpI a.src b.src,cmpI a.dst b.dst,cmpS a.name b.name,cmpI a.h b.h]
theorem bounds_compare_s (a b:AMove):PF n_bounds_compare [encMv a,encMv b] (.int .i64 (cmpM a b)):=by
 refine pf_of bounds_compare.ok rfl ?_
 push_cast
 refine .of (cmp_Compare_int_s _ _) ?_
 push_cast
 refine .of (cmp_Compare_int_s _ _) ?_
 push_cast
 refine .of (cmp_Compare_string_s _ _) ?_
 push_cast
 refine .of (cmp_Compare_int_s _ _) ?_
 push_cast
 refine .of (show PF n_cmp_Or_int [.sl 1 [[V.int .i64 _],[V.int .i64 _],[V.int .i64 _],[V.int .i64 _]]] _ from cmp_Or_int_s [_,_,_,_] (by simp)) ?_
 push_cast
 exact pf_ret (by push_cast [bounds_compare.rs];rfl)
def lessM (a b:AMove):Bool:=if a.src ≠ b.src then decide (a.src < b.src) else if a.dst ≠ b.dst then decide (a.dst < b.dst) else if a.name ≠ b.name then decide (a.name < b.name) else decide (a.h < b.h)
theorem r24_less_s (a b:AMove):PF n_r24_less [encMv a,encMv b] (.bool (lessM a b)):=by
 unfold lessM
 refine pf_of r24_less.ok rfl ?_
 by_cases h1:a.src = b.src
 ·by_cases h2:a.dst = b.dst
  ·by_cases h3:a.name = b.name
   ·push_cast [h1,h2,h3,bne_self_eq_false]
    exact pf_ret (by push_cast [r24_less.rs])
   ·push_cast [h1,h2,h3]
    exact pf_ret (by push_cast [r24_less.rs])
  ·push_cast [h1,h2]
   exact pf_ret (by push_cast [r24_less.rs])
 ·push_cast [h1]
  exact pf_ret (by push_cast [r24_less.rs])
theorem cmpI_three (x y:Int):(x = y∧cmpI x y = 0) ∨ (x ≠ y∧x < y∧cmpI x y = -1) ∨ (x ≠ y∧¬ x < y∧cmpI x y = 1):=by
 unfold cmpI
 by_cases h1:x < y
 ·exact .inr (.inl ⟨by omega,h1,by simp [h1]⟩)
 ·by_cases h2:y < x
  ·exact .inr (.inr ⟨by omega,h1,by simp [h1,h2]⟩)
  ·exact .inl ⟨by omega,by simp [h1,h2]⟩
theorem cmpS_three (x y:Str):(x = y∧cmpS x y = 0) ∨ (x ≠ y∧x < y∧cmpS x y = -1) ∨ (x ≠ y∧¬ x < y∧cmpS x y = 1):=by
 rw [cmpS_eq]
 by_cases h1:x < y
 ·exact .inr (.inl ⟨fun e=>slt_irrefl y (e ▸ h1),h1,by simp [h1]⟩)
 ·by_cases h2:y < x
  ·exact .inr (.inr ⟨fun e=>slt_irrefl y (e ▸ h2),h1,by simp [h1,h2]⟩)
  ·exact .inl ⟨slt_eq h1 h2,by simp [h1,h2]⟩
theorem cmpM_less (a b:AMove):0≤cmpM a b ↔ lessM a b = false:=by
 unfold cmpM lessM
 simp only [firstN]
 rcases cmpI_three a.src b.src with ⟨h1,e1⟩ | ⟨h1,l1,e1⟩ | ⟨h1,l1,e1⟩
 ·rcases cmpI_three a.dst b.dst with ⟨h2,e2⟩ | ⟨h2,l2,e2⟩ | ⟨h2,l2,e2⟩
  ·rcases cmpS_three a.name b.name with ⟨h3,e3⟩ | ⟨h3,l3,e3⟩ | ⟨h3,l3,e3⟩
   ·rcases cmpI_three a.h b.h with ⟨h4,e4⟩ | ⟨h4,l4,e4⟩ | ⟨h4,l4,e4⟩
    ·rw [e1,e2,e3,e4];simp [h1,h2,h3,h4]
    ·rw [e1,e2,e3,e4];simp [h1,h2,h3,l4]
    ·rw [e1,e2,e3,e4];simp [h1,h2,h3];omega
   ·rw [e1,e2,e3];simp [h1,h2,h3,l3]
   ·rw [e1,e2,e3];simp [h1,h2,l3];exact fun h=>absurd h h3
  ·rw [e1,e2];simp [h1,h2,l2]
  ·rw [e1,e2];simp [h1,h2];omega
 ·rw [e1];simp [h1,l1]
 ·rw [e1];simp [h1];omega
end Go.Dw
end
section
namespace Go.Dw
structure AAut where
 states:Int
 bound:Int
 moves:List AMove
 deriving Inhabited,DecidableEq
def cAu (a:AAut):List V:=[.int .i64 a.states,.int .i64 a.bound,encMvs a.moves]
def encAu (a:AAut):V:=.agg (cAu a)
theorem cAu_0 (a:AAut):(cAu a)[0]? = some (.int .i64 a.states):=rfl
theorem cAu_1 (a:AAut):(cAu a)[1]? = some (.int .i64 a.bound):=rfl
theorem cAu_2 (a:AAut):(cAu a)[2]? = some (encMvs a.moves):=rfl
theorem cAu_len (a:AAut):(cAu a).length = 3:=rfl
theorem sto_encAu (a:AAut):sto (encAu a) = some (cAu a):=rfl
theorem ren_encAu {σ:Nat→Option Nat} (a:AAut):ren σ (encAu a) = encAu a:=rfl
theorem rens_cAu {σ:Nat→Option Nat} (a:AAut):rens σ (cAu a) = cAu a:=rfl
theorem agg_cAu (a:AAut):V.agg (cAu a) = encAu a:=rfl
theorem sub_cAu (a:AAut):sub 0 3 (cAu a) = cAu a:=rfl
attribute [push_cast] cAu_0 cAu_1 cAu_2 cAu_len sto_encAu ren_encAu rens_cAu agg_cAu sub_cAu
def moveE (a:AAut) (x:AMove):Int :=
 if x.src < 0 ∨ a.states≤x.src ∨ x.dst < 0 ∨ a.states≤x.dst then 8 else if x.h < 0 ∨ a.bound < x.h then 2 else if isName x.name true then 0 else 4
def movesE (a:AAut):List AMove→Int
 | []=>0
 | x :: l=>if moveE a x ≠ 0 then moveE a x else movesE a l
def inOrder (l:List AMove):Bool:=(List.range (l.length - 1)).all fun i=>lessM (l.getD i default) (l.getD (i+1) default)
def formE (a:AAut):Int :=
 if a.states < 1 ∨ 256 < a.states ∨ a.bound < 0 ∨ 16 < a.bound then 2 else if 4096 < a.moves.length then 3 else
  if movesE a a.moves ≠ 0 then movesE a a.moves else if inOrder a.moves then 0 else 4
theorem bounds_form_s (a:AAut) (hl:a.moves.length < 2^40) (hn:∀ x∈a.moves,x.name.length < 2^40):PF n_bounds_form [encAu a] (.int .i64 (formE a)):=by
 refine pf_of bounds_form.ok rfl ?_
 unfold formE
 by_cases c1:a.states < 1
 ·rw [if_pos (.inl c1)]
  push_cast [eq_true c1]
  exact pf_ret (by push_cast [bounds_form.rs])
 by_cases c2:256 < a.states
 ·rw [if_pos (.inr (.inl c2))]
  push_cast [eq_false c1,eq_true c2]
  exact pf_ret (by push_cast [bounds_form.rs])
 by_cases c3:a.bound < 0
 ·rw [if_pos (.inr (.inr (.inl c3)))]
  push_cast [eq_false c1,eq_false c2,eq_true c3]
  exact pf_ret (by push_cast [bounds_form.rs])
 by_cases c4:16 < a.bound
 ·rw [if_pos (.inr (.inr (.inr c4)))]
  push_cast [eq_false c1,eq_false c2,eq_false c3,eq_true c4]
  exact pf_ret (by push_cast [bounds_form.rs])
 rw [if_neg (by omega)]
 by_cases c5:4096 < a.moves.length
 ·have c5i:((4096:Int) < (a.moves.length:Int)) = True:=eq_true (by omega)
  rw [if_pos c5]
  push_cast [eq_false c1,eq_false c2,eq_false c3,eq_false c4,c5i]
  exact pf_ret (by push_cast [bounds_form.rs])
 have c5i:((4096:Int) < (a.moves.length:Int)) = False:=eq_false (by omega)
 rw [if_neg c5]
 push_cast [eq_false c1,eq_false c2,eq_false c3,eq_false c4,c5i]
 refine loop_up (n:=a.moves.length) (R:=fun k=>movesE a (a.moves.drop k) = movesE a a.moves→bounds_form.L7 (.ro (cAu a) 0) (encMvs a.moves) (.int .i64 a.moves.length) (.int .i64 k) 0 [] _) ?_ ?_ 0 (Nat.zero_le _) rfl
 ·intro k hk ih hq
  have hnm:=hn _ (getD_mem hk)
  rw [drop_getD hk] at hq
  refine bounds_form.G7 ?_
  generalize hx:a.moves.getD k default = x at hq hnm
  simp only [movesE] at hq
  have bad:∀ e:Int,moveE a x = e→e ≠ 0→movesE a a.moves = e:=fun e h1 h2=>by rw [← hq,if_pos (by rw [h1];exact h2),h1]
  by_cases d1:x.src < 0
  ·rw [bad 8 (by unfold moveE;rw [if_pos (.inl d1)]) (by decide),if_pos (by decide)]
   push_cast [ilt hk,hx,eq_true d1]
   exact pf_ret (by push_cast [bounds_form.rs])
  by_cases d2:a.states≤x.src
  ·rw [bad 8 (by unfold moveE;rw [if_pos (.inr (.inl d2))]) (by decide),if_pos (by decide)]
   push_cast [ilt hk,hx,eq_false d1,eq_true d2]
   exact pf_ret (by push_cast [bounds_form.rs])
  by_cases d3:x.dst < 0
  ·rw [bad 8 (by unfold moveE;rw [if_pos (.inr (.inr (.inl d3)))]) (by decide),if_pos (by decide)]
   push_cast [ilt hk,hx,eq_false d1,eq_false d2,eq_true d3]
   exact pf_ret (by push_cast [bounds_form.rs])
  by_cases d4:a.states≤x.dst
  ·rw [bad 8 (by unfold moveE;rw [if_pos (.inr (.inr (.inr d4)))]) (by decide),if_pos (by decide)]
   push_cast [ilt hk,hx,eq_false d1,eq_false d2,eq_false d3,eq_true d4]
   exact pf_ret (by push_cast [bounds_form.rs])
  have hm1:moveE a x = if x.h < 0 ∨ a.bound < x.h then 2 else if isName x.name true then 0 else 4:=by unfold moveE;rw [if_neg (by omega)]
  by_cases d5:x.h < 0
  ·rw [bad 2 (by rw [hm1,if_pos (.inl d5)]) (by decide),if_pos (by decide)]
   push_cast [ilt hk,hx,eq_false d1,eq_false d2,eq_false d3,eq_false d4,eq_true d5]
   exact pf_ret (by push_cast [bounds_form.rs])
  by_cases d6:a.bound < x.h
  ·rw [bad 2 (by rw [hm1,if_pos (.inr d6)]) (by decide),if_pos (by decide)]
   push_cast [ilt hk,hx,eq_false d1,eq_false d2,eq_false d3,eq_false d4,eq_false d5,eq_true d6]
   exact pf_ret (by push_cast [bounds_form.rs])
  rw [if_neg (by omega)] at hm1
  push_cast [ilt hk,hx,eq_false d1,eq_false d2,eq_false d3,eq_false d4,eq_false d5,eq_false d6]
  refine .of (term_IsName_s x.name true (by omega)) ?_
  cases hi:isName x.name true with
  | false =>
   rw [bad 4 (by rw [hm1,hi];rfl) (by decide),if_pos (by decide)]
   push_cast
   exact pf_ret (by push_cast [bounds_form.rs])
  | true =>
   rw [hi,if_pos rfl] at hm1
   rw [hm1,if_neg (by decide)] at hq
   push_cast [w64 (show k < 2^62 by omega)]
   have:=ih hq
   push_cast at this
   exact this
 ·intro hq
  rw [drop_map_none] at hq
  have h0:movesE a a.moves = 0:=by rw [← hq];rfl
  rw [h0,if_neg (by decide)]
  refine bounds_form.G7 ?_
  push_cast [inlt (Nat.le_refl _)]
  have hb:∀ k,k < a.moves.length - 1→lessM (a.moves.getD k default) (a.moves.getD (k+1) default) = false→inOrder a.moves = false:=fun k hk h =>
   List.all_eq_false.2 ⟨k,List.mem_range.2 hk,by rw [h];exact Bool.false_ne_true⟩
  refine loop_up (n:=a.moves.length - 1) (R:=fun k=>(∀ j,j < k→lessM (a.moves.getD j default) (a.moves.getD (j+1) default) = true)→bounds_form.L3 (.ro (cAu a) 0) (.int .i64 ((k+1:Nat):Int)) 0 [] (Ends 0 bounds_form.rs fun x' H'=>x' = V.int IntKind.i64 (if inOrder a.moves = true then 0 else 4)∧H' = [])) ?_ ?_ 0 (Nat.zero_le _) (by intro j hj;omega)
  ·intro k hk ih hj
   refine bounds_form.G3 ?_
   have hk1:(((k+1:Nat):Int) < (a.moves.length:Int)) = True:=eq_true (by omega)
   have hk0:((k:Int) < (a.moves.length:Int)) = True:=eq_true (by omega)
   have hw:IntKind.i64.wrap (((k:Int)+1) - 1) = k:=by rw [wrap64 (by omega) (by omega)];omega
   have hbk:=hb k hk
   have hjk:lessM (a.moves.getD k default) (a.moves.getD (k+1) default) = true→∀ j,j < k+1→lessM (a.moves.getD j default) (a.moves.getD (j+1) default) = true:=fun h j hj'=>by
    by_cases e:j = k
    ·subst e;exact h
    ·exact hj j (by omega)
   have hcl:=cmpM_less (a.moves.getD k default) (a.moves.getD (k+1) default)
   generalize hx:a.moves.getD k default = x at hbk hjk hcl
   generalize hy:a.moves.getD (k+1) default = y at hbk hjk hcl
   push_cast at hk1
   have htn:((k:Int)+1).toNat = k+1:=by omega
   push_cast [hk1,hk0,hw,hx,htn,hy]
   refine ⟨by omega,?_⟩
   refine .of (bounds_compare_s x y) ?_
   by_cases hc:0≤cmpM x y
   ·push_cast [eq_true hc]
    rw [hbk (hcl.1 hc)]
    exact pf_ret (by push_cast [bounds_form.rs])
   ·have hw2:IntKind.i64.wrap ((k:Int)+1+1) = (k:Int)+1+1:=by rw [wrap64 (by omega) (by omega)]
    push_cast [eq_false hc,hw2]
    have:=ih (hjk (by cases hl:lessM x y with | true=>rfl | false=>exact absurd (hcl.2 hl) hc))
    push_cast at this
    exact this
  ·intro hj
   have hio:inOrder a.moves = true:=List.all_eq_true.2 fun k hk=>hj k (List.mem_range.1 hk)
   refine bounds_form.G3 ?_
   have hk1:(((a.moves.length - 1+1:Nat):Int) < (a.moves.length:Int)) = False:=eq_false (by omega)
   generalize a.moves.length - 1+1 = i at hk1
   push_cast [hk1]
   rw [hio]
   exact pf_ret (by push_cast [bounds_form.rs])
end Go.Dw
end
section
namespace Go.Dw
def symbolsR:List ARule→List Str
 | []=>[]
 | x :: r=>(wordT x.left).1++(wordT x.right).1++symbolsR r
theorem symbolsR_append (a b:List ARule):symbolsR (a++b) = symbolsR a++symbolsR b:=by
 induction a with
 | nil=>rfl
 | cons x a ih=>simp [symbolsR,ih]
theorem symbolsR_take (r:List ARule) {k:Nat} (hk:k < r.length):symbolsR (r.take (k+1)) = symbolsR (r.take k)++(wordT (r.getD k default).left).1++(wordT (r.getD k default).right).1:=by
 rw [List.take_succ_eq_append_getElem hk,symbolsR_append];simp [symbolsR,List.getD_eq_getElem?_getD,hk]
theorem wordT_len:∀ (n:Nat) (t:Term),size t≤n→(wordT t).1.length < size t
 | 0,t,h=>by have:=size_args t;omega
 | n+1,t,h=>by
  have hs:=size_args t
  rw [wordT_step]
  split
  ·rename_i hc
   have hm:=size_mem (getD_mem (l:=t.args) (k:=0) (by omega))
   have:=wordT_len n (t.args.getD 0 default) (by omega)
   simp only [List.length_cons];omega
  ·simp only [List.length_nil];omega
theorem symbolsR_len:∀ r:List ARule,(symbolsR r).length≤rbs r
 | []=>by simp [symbolsR]
 | x :: r=>by
  have h1:=wordT_len _ x.left (Nat.le_refl _)
  have h2:=wordT_len _ x.right (Nat.le_refl _)
  have h3:=symbolsR_len r
  have h4:=size_le_tb x.left
  have h5:=size_le_tb x.right
  simp only [symbolsR,List.length_append,rbs]
  omega
theorem r24_Symbols_s (r:List ARule) (hr:rbs r < 2^38):PF n_r24_Symbols [encRs r] (encSs (symbolsR r)):=by
 have hl:=length_le_rbs r
 refine pf_of r24_Symbols.ok rfl ?_
 push_cast
 refine loop_up (n:=r.length) (R:=fun k=>r24_Symbols.L3 (ownL cS 0 1 (symbolsR (r.take k))) (encRs r) (.int .i64 r.length) (.int .i64 k) 0 [.arr t_string 1 (symbolsR (r.take k)).length] (Ends 0 r24_Symbols.rs fun x H=>x = encSs (symbolsR r)∧H = [])) ?_ ?_ 0 (Nat.zero_le _)
 ·intro k hk ih
  have hmm:=rbs_mem (getD_mem hk)
  have htk:=symbolsR_take r hk
  have hsl:(symbolsR (r.take (k+1))).length≤rbs r:=by
   have h1:=symbolsR_len r
   have h2:=symbolsR_append (r.take (k+1)) (r.drop (k+1))
   rw [List.take_append_drop] at h2
   rw [h2,List.length_append] at h1
   omega
  rw [htk] at ih hsl
  refine r24_Symbols.G3 ?_
  generalize hx:r.getD k default = x at hmm ih hsl
  generalize symbolsR (r.take k) = A at ih hsl ⊢
  have h1:=size_le_tb x.left
  have h2:=size_le_tb x.right
  push_cast [ilt hk,hx]
  refine .of (r24_Word_s x.left (by omega)) ?_
  push_cast
  refine .of (r24_Word_s x.right (by omega)) ?_
  generalize (wordT x.left).1 = u at ih hsl ⊢
  generalize (wordT x.right).1 = v at ih hsl ⊢
  simp only [List.length_append] at hsl
  push_cast [w64 (show k < 2^62 by omega)]
  have e1:(List.map cS u).length = u.length:=by simp
  have e2:(List.map cS v).length = v.length:=by simp
  rw [e1,e2]
  rw [List.append_assoc,List.length_append,List.length_append,← Nat.add_assoc] at ih
  push_cast at ih
  refine ⟨by unfold maxEls;omega,⟨rfl,by unfold maxEls;omega⟩,?_⟩
  exact ih
 ·refine r24_Symbols.G3 ?_
  push_cast [inlt (Nat.le_refl _),List.take_length]
  exact pf_ret (by push_cast [r24_Symbols.rs])
def hasI (l:List Int) (x:Int):Bool:=l.any fun y=>decide (x = y)
theorem r24_contains_s (l:List Int) (x:Int) (hl:l.length < 2^62):PF n_r24_contains [encP l,.int .i64 x] (.bool (hasI l x)):=by
 refine pf_of r24_contains.ok rfl ?_
 push_cast
 refine loop_up (n:=l.length) (R:=fun k=>hasI (l.drop k) x = hasI l x→r24_contains.L3 (.int .i64 x) (encP l) (.int .i64 l.length) (.int .i64 k) 0 [] (Ends 0 r24_contains.rs fun y H=>y = .bool (hasI l x)∧H = [])) ?_ ?_ 0 (Nat.zero_le _) rfl
 ·intro k hk ih hq
  rw [drop_getD hk] at hq
  refine r24_contains.G3 ?_
  generalize hy:l.getD k default = y at hq
  simp only [hasI,List.any_cons] at hq
  by_cases h:x = y
  ·push_cast [ilt hk,hy,eq_true h]
   simp only [h,decide_true,Bool.true_or] at hq
   exact pf_ret (by push_cast [r24_contains.rs,hasI,h,← hq])
  ·push_cast [ilt hk,hy,eq_false h,w64 (show k < 2^62 by omega)]
   simp only [h,decide_false,Bool.false_or] at hq
   have:=ih hq
   push_cast at this
   exact this
 ·intro hq
  rw [drop_map_none] at hq
  refine r24_contains.G3 ?_
  push_cast [inlt (Nat.le_refl _)]
  rw [← hq]
  exact pf_ret (by push_cast [r24_contains.rs,hasI];rfl)
end Go.Dw
end
section
namespace Go.Dw
abbrev Gr:=List (Int × List AMove)
def addGr (x:AMove):Gr→Gr
 | []=>[(x.src,[x])]
 | p :: g=>if p.1 = x.src then (p.1,p.2++[x]) :: g else p :: addGr x g
def getG (s:Int):Gr→List AMove
 | []=>[]
 | p :: g=>if p.1 = s then p.2 else getG s g
def fromM (l:List AMove):Gr:=l.foldl (fun g x=>addGr x g) []
theorem getG_add (s:Int) (x:AMove):∀ g:Gr,getG s (addGr x g) = getG s g++if x.src = s then [x] else []
 | []=>by simp only [addGr,getG];split <;> simp
 | p :: g=>by
  simp only [addGr]
  by_cases h:p.1 = x.src
  ·rw [if_pos h]
   simp only [getG]
   by_cases h2:p.1 = s
   ·rw [if_pos h2,if_pos h2,if_pos (by omega)]
   ·rw [if_neg h2,if_neg h2,if_neg (by omega)];simp
  ·rw [if_neg h]
   simp only [getG]
   by_cases h2:p.1 = s
   ·rw [if_pos h2,if_pos h2,if_neg (by omega)];simp
   ·rw [if_neg h2,if_neg h2,getG_add s x g]
theorem getG_foldl (s:Int):∀ (l:List AMove) (g:Gr),getG s (l.foldl (fun g x=>addGr x g) g) = getG s g++l.filter fun x=>decide (x.src = s)
 | [],g=>by simp
 | x :: l,g=>by
  rw [List.foldl_cons,getG_foldl s l,getG_add,List.append_assoc,List.filter_cons]
  by_cases h:x.src = s <;> simp [h]
theorem getG_from (s:Int) (l:List AMove):getG s (fromM l) = l.filter fun x=>decide (x.src = s):=by
 unfold fromM;rw [getG_foldl];rfl
def encGr (g:Gr):List (V × V):=g.map fun p=>(.int .i64 p.1,encMvs p.2)
abbrev Go':=List (Int × Nat × List AMove)
def entG (g:Go'):List (V × V):=g.map fun p=>(.int .i64 p.1,ownL cMv p.2.1 4 p.2.2)
def addGo (new:Nat) (x:AMove):Go'→Go'
 | []=>[(x.src,new,[x])]
 | p :: g=>if p.1 = x.src then (p.1,p.2.1,p.2.2++[x]) :: g else p :: addGo new x g
def plainG (g:Go'):Gr:=g.map fun p=>(p.1,p.2.2)
theorem plain_add (new:Nat) (x:AMove):∀ g:Go',plainG (addGo new x g) = addGr x (plainG g)
 | []=>rfl
 | p :: g=>by
  simp only [addGo,plainG,List.map_cons,addGr]
  by_cases h:p.1 = x.src
  ·rw [if_pos h,if_pos h];rfl
  ·rw [if_neg h,if_neg h]
   have:=plain_add new x g
   simp only [plainG] at this
   simp only [List.map_cons,this]
theorem findM_none {s:Int}:∀ {g:Go'} {i:Nat},(∀ p∈g,p.1 ≠ s)→findM (.int .i64 s) (entG g) i = some none
 | [],i,_=>rfl
 | p :: g,i,h=>by
  have h1:=h p (by simp)
  have:(s == p.1) = false:=by simpa using fun e=>h1 e.symm
  simp [entG,findM,sameK,this]
  exact findM_none (g:=g) fun q hq=>h q (by simp [hq])
theorem addGo_none {new:Nat} {x:AMove}:∀ {g:Go'},(∀ p∈g,p.1 ≠ x.src)→addGo new x g = g++[(x.src,new,[x])]
 | [],_=>rfl
 | p :: g,h=>by
  simp only [addGo]
  rw [if_neg (h p (by simp)),addGo_none fun q hq=>h q (by simp [hq])];rfl
theorem findM_some {x:AMove}:∀ {g:Go'},(∃ p∈g,p.1 = x.src)→∃ j p,g[j]? = some p∧p.1 = x.src∧(∀ i,findM (.int .i64 x.src) (entG g) i = some (some (i+j,ownL cMv p.2.1 4 p.2.2)))∧∀ new,addGo new x g = g.set j (p.1,p.2.1,p.2.2++[x])
 | [],h=>by obtain ⟨p,hp,_⟩:=h;cases hp
 | q :: g,h=>by
  by_cases h1:q.1 = x.src
  ·refine ⟨0,q,rfl,h1,fun i=>?_,fun new=>?_⟩
   ·simp [entG,findM,sameK,h1]
   ·simp only [addGo];rw [if_pos h1];rfl
  ·obtain ⟨j,p,h2,h3,h4,h5⟩:=findM_some (x:=x) (g:=g) (by
    obtain ⟨p,hp,h2⟩:=h
    rcases List.mem_cons.1 hp with rfl | hp
    ·exact absurd h2 h1
    ·exact ⟨p,hp,h2⟩)
   refine ⟨j+1,p,h2,h3,fun i=>?_,fun new=>?_⟩
   ·have hb:(x.src == q.1) = false:=by simpa using fun e=>h1 e.symm
    have:findM (.int .i64 x.src) (entG (q :: g)) i = findM (.int .i64 x.src) (entG g) (i+1):=by simp [entG,findM,sameK,hb]
    rw [this,h4];congr 3;omega
   ·simp only [addGo];rw [if_neg h1,h5];rfl
structure GoOk (g:Go') (H:List Ob):Prop where
 map:H[0]? = some (.map (entG g))
 arr:∀ p∈g,0 < p.2.1∧H[p.2.1]? = some (.arr t_Move 4 p.2.2.length)
 nd:(g.map (·.2.1)).Nodup
theorem set_last {H:List Ob} {o o':Ob}:(H++[o]).set H.length o' = H++[o']:=by
 rw [List.set_append_right _ _ (Nat.le_refl _)];simp
theorem get_last {H:List Ob} {o:Ob}:(H++[o])[H.length]? = some o:=by simp
theorem bounds_from_s (a:AAut) (hl:a.moves.length < 2^38):Spec prog n_bounds_from [encAu a] [] fun x H'=>x = .map 0∧H' = [.map (encGr (fromM a.moves))]:=by
 refine spec_of_run mixed bounds_from.ok rfl ?_
 push_cast
 refine loop_up (n:=a.moves.length) (R:=fun k=>∀ g H,GoOk g H→plainG g = fromM (a.moves.take k)→(∀ p∈g,p.2.2.length≤k)→bounds_from.L3 (.map 0) (encMvs a.moves) (.int .i64 a.moves.length) (.int .i64 k) 0 H (Ends 0 bounds_from.rs fun x H'=>x = .map 0∧H' = [.map (encGr (fromM a.moves))])) ?_ ?_ 0 (Nat.zero_le _) [] [.map []] ⟨rfl,by simp,by simp⟩ rfl (by simp)
 ·intro k hk ih g H hg hp hc
  refine bounds_from.G3 ?_
  have htk:a.moves.take (k+1) = a.moves.take k++[a.moves.getD k default]:=take_succ_getD hk
  generalize hx0:a.moves.getD k default = x at htk
  have hfm:fromM (a.moves.take (k+1)) = addGr x (fromM (a.moves.take k)):=by rw [htk];simp [fromM]
  have hHl:0 < H.length:=(List.getElem?_eq_some_iff.1 hg.map).1
  have hm1:∀ R:List Ob,(H++R)[0]? = some (.map (entG g)):=fun R=>by rw [List.getElem?_append_left hHl];exact hg.map
  have hmx:(40≤maxEls) = True:=eq_true (by unfold maxEls;decide)
  by_cases hx:∃ p∈g,p.1 = x.src
  ·obtain ⟨j,p,q1,q2,q3,q4⟩:=findM_some hx
   have hpm:=List.mem_of_getElem? q1
   obtain ⟨r1,r2⟩:=hg.arr p hpm
   have hpl:=hc p hpm
   have hil:p.2.1 < H.length:=(List.getElem?_eq_some_iff.1 r2).1
   have hjl:j < g.length:=(List.getElem?_eq_some_iff.1 q1).1
   have hlk:lookV (H++[.dead]) false false .nil (.map 0) (.int .i64 x.src) = some (.own p.2.1 4 (p.2.2.map cMv)):=by
    have h0:entsV (H++[.dead]) (.map 0) = some (entG g):=by unfold entsV;simp only [hm1]
    unfold lookV;rw [h0];simp only [q3 0];rfl
   have hgi:(H++[Ob.dead])[p.2.1]? = some (.arr t_Move 4 p.2.2.length):=by rw [List.getElem?_append_left hil];exact r2
   have hsi:∀ o,(H++[Ob.dead]).set p.2.1 o = H.set p.2.1 o++[.dead]:=fun o=>List.set_append_left _ _ hil
   have hm2:∀ o,(H.set p.2.1 o++[Ob.dead])[0]? = some (.map (entG g)):=fun o=>by
    rw [List.getElem?_append_left (by simpa using hHl),List.getElem?_set_ne (by omega)];exact hg.map
   have hs2:∀ o o',(H.set p.2.1 o++[Ob.dead]).set 0 o' = (H.set p.2.1 o).set 0 o'++[.dead]:=fun o o'=>List.set_append_left _ _ (by simpa using hHl)
   have hup:updM (.int .i64 x.src) (ownL cMv p.2.1 4 (p.2.2++[x])) (entG g) = some (entG (addGo 0 x g)):=by
    unfold updM;rw [q3 0,q4]
    simp only [Nat.zero_add,entG,List.map_set,q2]
   have hlen:(p.2.2.length * 40+40≤maxEls) = True:=eq_true (by unfold maxEls;omega)
   have hlen2:((p.2.2.length+1) * 40≤maxEls) = True:=eq_true (by unfold maxEls;omega)
   push_cast [ilt hk,hx0,set_last,get_last,hlk,hgi,hsi,hm2,hs2,hup,hlen,hlen2,hmx,ksB,List.length_map,w64 (show k < 2^62 by omega)]
   have:=ih (addGo 0 x g) ((H.set p.2.1 (.arr t_Move 4 (p.2.2.length+1))).set 0 (.map (entG (addGo 0 x g)))++[.dead]) ?_ (by rw [plain_add,hp,hfm]) ?_
   ·push_cast at this
    exact this
   ·rw [q4]
    refine ⟨by rw [List.getElem?_append_left (by simpa using hHl),List.getElem?_set_self (by simpa using hHl)],fun p' hp'=>?_,?_⟩
    ·obtain ⟨l,hl1,hl2⟩:=List.getElem_of_mem hp'
     have hll:l < g.length:=by simpa using hl1
     have h0:∀ n,n < H.length→0 < n→((H.set p.2.1 (.arr t_Move 4 (p.2.2.length+1))).set 0 (Ob.map (entG (g.set j (p.1,p.2.1,p.2.2++[x]))))++[Ob.dead])[n]? = (H.set p.2.1 (.arr t_Move 4 (p.2.2.length+1)))[n]?:=fun n h1 h2=>by
      rw [List.getElem?_append_left (by simpa using h1),List.getElem?_set_ne (by omega)]
     rw [List.getElem_set] at hl2
     split at hl2
     ·rw [← hl2]
      refine ⟨r1,?_⟩
      rw [h0 _ hil r1,List.getElem?_set_self hil];simp
     ·have hp'g:p'∈g:=by rw [← hl2];exact List.getElem_mem _
      obtain ⟨s1,s2⟩:=hg.arr p' hp'g
      have hne:p.2.1 ≠ p'.2.1:=fun e=>by
       rename_i hjl'
       have hnd:=hg.nd
       have e1:(g.map (·.2.1))[j]'(by simpa using hjl) = (g.map (·.2.1))[l]'(by simpa using hll):=by
        simp only [List.getElem_map]
        have:g[j] = p:=(List.getElem?_eq_some_iff.1 q1).2
        rw [this,hl2];exact e
       exact hjl' ((List.getElem_inj hnd).1 e1)
      have hil':p'.2.1 < H.length:=(List.getElem?_eq_some_iff.1 s2).1
      exact ⟨s1,by rw [h0 _ hil' s1,List.getElem?_set_ne hne];exact s2⟩
    ·rw [List.map_set]
     have:(g.map (·.2.1)).set j p.2.1 = g.map (·.2.1):=by
      have h1:(g.map (·.2.1))[j]'(by simpa using hjl) = p.2.1:=by
       simp only [List.getElem_map]
       have:g[j] = p:=(List.getElem?_eq_some_iff.1 q1).2
       rw [this]
      rw [← h1,List.set_getElem_self]
     show ((g.map (·.2.1)).set j p.2.1).Nodup
     rw [this];exact hg.nd
   ·rw [q4]
    intro p' hp'
    rcases List.mem_or_eq_of_mem_set hp' with h | h
    ·have:=hc p' h;omega
    ·rw [h];simp;omega
  ·have hx':∀ p∈g,p.1 ≠ x.src:=fun p hp e=>hx ⟨p,hp,e⟩
   have hlk:lookV (H++[.dead]) false false .nil (.map 0) (.int .i64 x.src) = some .nil:=by
    have h0:entsV (H++[.dead]) (.map 0) = some (entG g):=by unfold entsV;simp only [hm1]
    unfold lookV;rw [h0];simp only [findM_none hx'];rfl
   have hg2:(H++[Ob.dead,Ob.arr t_Move 4 0])[H.length+1]? = some (.arr t_Move 4 0):=by
    rw [List.getElem?_append_right (by omega)];simp
   have hs2:∀ o,(H++[Ob.dead,Ob.arr t_Move 4 0]).set (H.length+1) o = H++[.dead,o]:=fun o=>by
    rw [List.set_append_right _ _ (by omega)];simp
   have hs3:∀ R o,(H++R).set 0 o = H.set 0 o++R:=fun R o=>List.set_append_left _ _ hHl
   have hup:updM (.int .i64 x.src) (.own (H.length+1) 4 [cMv x]) (entG g) = some (entG (addGo (H.length+1) x g)):=by
    unfold updM;rw [findM_none hx',addGo_none hx']
    simp only [entG,List.map_append];rfl
   push_cast [ilt hk,hx0,set_last,get_last,hlk,hg2,hs2,hm1,hs3,hup,hmx,ksB,w64 (show k < 2^62 by omega)]
   have:=ih (addGo (H.length+1) x g) (H.set 0 (.map (entG (addGo (H.length+1) x g)))++[.dead,.arr t_Move 4 1]) ?_ (by rw [plain_add,hp,hfm]) ?_
   ·push_cast at this
    exact this
   ·rw [addGo_none hx']
    refine ⟨by rw [List.getElem?_append_left (by simpa using hHl),List.getElem?_set_self (by simpa using hHl)],fun p' hp'=>?_,?_⟩
    ·rcases List.mem_append.1 hp' with h | h
     ·obtain ⟨s1,s2⟩:=hg.arr p' h
      have hil':p'.2.1 < H.length:=(List.getElem?_eq_some_iff.1 s2).1
      exact ⟨s1,by rw [List.getElem?_append_left (by simpa using hil'),List.getElem?_set_ne (by omega)];exact s2⟩
     ·rw [List.mem_singleton.1 h]
      refine ⟨by show 0 < H.length+1;omega,?_⟩
      show (H.set 0 _++[Ob.dead,Ob.arr t_Move 4 1])[H.length+1]? = _
      rw [List.getElem?_append_right (by simp)];simp
    ·rw [List.map_append,List.nodup_append]
     refine ⟨hg.nd,by simp,fun u hu v hv=>?_⟩
     obtain ⟨p',hp',rfl⟩:=List.mem_map.1 hu
     have hil':p'.2.1 < H.length:=(List.getElem?_eq_some_iff.1 (hg.arr p' hp').2).1
     have hv:v = H.length+1:=by simpa using hv
     omega
   ·rw [addGo_none hx']
    intro p' hp'
    rcases List.mem_append.1 hp' with h | h
    ·have:=hc p' h;omega
    ·rw [List.mem_singleton.1 h];simp
 ·intro g H hg hp hc
  refine bounds_from.G3 ?_
  push_cast [inlt (Nat.le_refl _)]
  rw [List.take_length] at hp
  have hHl:0 < H.length:=(List.getElem?_eq_some_iff.1 hg.map).1
  refine ends_ex (.inl rfl) [0] (x:=.map 0) (by simp) (by simpa using hHl) rfl ⟨rfl,?_⟩
  have h1:pos? [0] = fun i=>if i = 0 then some 0 else none:=by
   funext i;cases i <;> rfl
  show [renOb (pos? [0]) (H.getD 0 .dead)] = _
  have h2:H.getD 0 .dead = .map (entG g):=by rw [List.getD_eq_getElem?_getD,hg.map];rfl
  rw [h2,← hp]
  push_cast
  simp only [entG,encGr,plainG,List.map_map]
  refine congrArg Ob.map (List.map_congr_left fun p hpm=>?_)
  have:=(hg.arr p hpm).1
  obtain ⟨s,n,l⟩:=p
  simp only [Function.comp,ren_int,ren_ownL]
  have h3:pos? [0] n = none:=by rw [h1];simp only;rw [if_neg (by simp at this;omega)]
  rw [h3]
end Go.Dw
end
section
namespace Go.Dw
theorem seen_full {n:Nat} {seen:List Nat} {k:Nat} (hm:n≤seen.length) (hnd:seen.Nodup) (hlt:∀ i∈seen,i < n) (hk:k ∉ seen) (hkn:k < n):False:=by
 have h1:(seen++[k]).Nodup:=by simp [List.nodup_append,hnd];intro a ha e;exact hk (e ▸ ha)
 have h2:(seen++[k]).length≤(List.range n).length:=List.Nodup.length_le_of_subset h1 (by
  intro i hi
  rw [List.mem_range]
  rcases List.mem_append.1 hi with h | h
  ·exact hlt i h
  ·simp only [List.mem_singleton] at h;subst h;exact hkn)
 simp at h2;omega
theorem range_up (n:Nat) (R:List Nat→Prop) (h:∀ seen,seen.Nodup→(∀ i∈seen,i < n)→seen.length≤n→(∀ k,k < n→k ∉ seen→R (seen++[k]))→R seen):R []:=by
 have key:∀ (f:Nat) (seen:List Nat),n - seen.length < f→seen.Nodup→(∀ i∈seen,i < n)→R seen:=by
  intro f
  induction f with
  | zero=>intro seen hf;omega
  | succ f ih =>
   intro seen hf hnd hlt
   have hl:seen.length≤n:=by simpa using List.Nodup.length_le_of_subset hnd (l₂:=List.range n) fun i hi=>List.mem_range.2 (hlt i hi)
   refine h seen hnd hlt hl fun k hkn hk=>?_
   have hlen:seen.length < n:=by
    rcases Nat.lt_or_ge seen.length n with h | h
    ·exact h
    ·exact (seen_full h hnd hlt hk hkn).elim
   refine ih (seen++[k]) (by simp;omega) (by simp [List.nodup_append,hnd];intro a ha e;exact hk (e ▸ ha)) fun i hi=>?_
   rcases List.mem_append.1 hi with h | h
   ·exact hlt i h
   ·simp only [List.mem_singleton] at h;subst h;exact hkn
 exact key (n+1) [] (by simp) List.nodup_nil (by simp)
abbrev ASp:=Int × Int
def cSp (s:ASp):List V:=[.int .i64 s.1,.int .i64 s.2]
def encSp (s:ASp):V:=.agg (cSp s)
abbrev encSps (l:List ASp):V:=encL cSp 2 l
theorem cSp_0 (s:ASp):(cSp s)[0]? = some (.int .i64 s.1):=rfl
theorem cSp_1 (s:ASp):(cSp s)[1]? = some (.int .i64 s.2):=rfl
theorem cSp_len (s:ASp):(cSp s).length = 2:=rfl
theorem sto_encSp (s:ASp):sto (encSp s) = some (cSp s):=rfl
theorem ren_encSp {σ:Nat→Option Nat} (s:ASp):ren σ (encSp s) = encSp s:=rfl
theorem rens_cSp {σ:Nat→Option Nat} (s:ASp):rens σ (cSp s) = cSp s:=rfl
theorem agg_cSp (s:ASp):V.agg (cSp s) = encSp s:=rfl
theorem sub_cSp (s:ASp):sub 0 2 (cSp s) = cSp s:=rfl
attribute [push_cast] cSp_0 cSp_1 cSp_len sto_encSp ren_encSp rens_cSp agg_cSp sub_cSp
def insK (K:List ASp) (s:ASp):List ASp:=if s∈K then K else K++[s]
def entS (K:List ASp):List (V × V):=K.map fun s=>(encSp s,.bool true)
theorem ren_entS {σ:Nat→Option Nat} {K:List ASp}:((entS K).map fun p=>(ren σ p.1,ren σ p.2)) = entS K:=by
 unfold entS;rw [List.map_map];rfl
theorem ren_encGr {σ:Nat→Option Nat} {g:Gr}:((encGr g).map fun p=>(ren σ p.1,ren σ p.2)) = encGr g:=by
 unfold encGr;rw [List.map_map];rfl
attribute [push_cast] ren_entS ren_encGr
theorem sameQ_sp (s u:ASp):sameQ (encSp s) (encSp u) = some (decide (s = u)):=by
 obtain ⟨a,b⟩:=s
 obtain ⟨c,d⟩:=u
 simp only [sameQ,encSp,cSp,sameC,sameK,if_true]
 by_cases h1:a = c
 ·subst h1
  by_cases h2:b = d
  ·subst h2;simp
  ·have e:(b == d) = false:=by simpa using h2
   simp [h2,e]
 ·have e:(a == c) = false:=by simpa using h1
  simp [h1,e]
theorem findQ_entS (s:ASp):∀ (K:List ASp) (i:Nat),(s ∉ K→findQ (encSp s) (entS K) i = some none)∧(s∈K→∃ j,findQ (encSp s) (entS K) i = some (some (i+j,.bool true))∧K[j]? = some s)
 | [],i=>⟨fun _=>rfl,fun h=>by cases h⟩
 | u :: K,i=>by
  obtain ⟨h1,h2⟩:=findQ_entS s K (i+1)
  by_cases h:s = u
  ·subst h
   refine ⟨fun h=>absurd List.mem_cons_self h,fun _=>⟨0,?_,rfl⟩⟩
   simp [entS,findQ,sameQ_sp]
  ·have e:findQ (encSp s) (entS (u :: K)) i = findQ (encSp s) (entS K) (i+1):=by simp [entS,findQ,sameQ_sp,h]
   refine ⟨fun hn=>?_,fun hm=>?_⟩
   ·rw [e];exact h1 fun hm=>hn (List.mem_cons_of_mem _ hm)
   ·obtain ⟨j,q1,q2⟩:=h2 ((List.mem_cons.1 hm).resolve_left h)
    exact ⟨j+1,by rw [e,q1];congr 3;omega,q2⟩
theorem updQ_entS (s:ASp) (K:List ASp):updQ (encSp s) (.bool true) (entS K) = some (entS (insK K s)):=by
 obtain ⟨h1,h2⟩:=findQ_entS s K 0
 unfold updQ insK
 by_cases h:s∈K
 ·obtain ⟨j,q1,q2⟩:=h2 h
  rw [q1,if_pos h]
  simp only [Nat.zero_add,Option.some.injEq]
  have h3:(entS K)[j]? = some (encSp s,.bool true):=by simp [entS,q2]
  obtain ⟨h4,h5⟩:=List.getElem?_eq_some_iff.1 h3
  rw [← h5,List.set_getElem_self]
 ·rw [h1 h,if_neg h];simp [entS]
theorem shB_sp (s:ASp):shB [false,false] (encSp s) = true:=rfl
theorem insK_mem {K:List ASp} {s u:ASp}:u∈insK K s ↔ u∈K ∨ u = s:=by
 unfold insK;split
 ·rename_i h;exact ⟨.inl,fun h2=>h2.elim id fun e=>e ▸ h⟩
 ·simp
theorem insK_nodup {K:List ASp} {s:ASp} (h:K.Nodup):(insK K s).Nodup:=by
 unfold insK;split
 ·exact h
 ·rename_i hn;rw [List.nodup_append];exact ⟨h,by simp,fun a ha b hb e=>hn (by rw [← List.mem_singleton.1 hb,← e];exact ha)⟩
def stepL (mv:List AMove) (fit:Int→Bool) (n:Str) (s:ASp):List ASp:=((mv.filter fun x=>decide (x.src = s.1)).filter fun x=>decide (x.name = n) && fit x.h).map fun x=>(x.dst,if x.h < s.2 then x.h else s.2)
def nextL (mv:List AMove) (fit:Int→Bool) (K:List ASp) (n:Str):List ASp:=(K.flatMap (stepL mv fit n)).foldl insK []
def readL (mv:List AMove) (fit:Int→Bool) (s:ASp) (w:List Str):List ASp:=w.foldl (nextL mv fit) [s]
theorem foldl_insK:∀ (l K:List ASp),K.Nodup→(l.foldl insK K).Nodup∧∀ u,u∈l.foldl insK K ↔ u∈K ∨ u∈l
 | [],K,h=>⟨h,fun u=>by simp⟩
 | s :: l,K,h=>by
  obtain ⟨h1,h2⟩:=foldl_insK l (insK K s) (insK_nodup h)
  exact ⟨h1,fun u=>by rw [List.foldl_cons,h2,insK_mem,List.mem_cons];grind⟩
theorem readL_snoc (mv:List AMove) (fit:Int→Bool) (s:ASp) (w:List Str) (n:Str):readL mv fit s (w++[n]) = nextL mv fit (readL mv fit s w) n:=by simp [readL]
theorem readL_nodup (mv:List AMove) (fit:Int→Bool) (s:ASp) (w:List Str):(readL mv fit s w).Nodup:=by
 rcases List.eq_nil_or_concat w with rfl | ⟨w,n,rfl⟩
 ·simp [readL]
 ·rw [List.concat_eq_append,readL_snoc];exact (foldl_insK _ _ List.nodup_nil).1
theorem nextL_mem {mv:List AMove} {fit:Int→Bool} {K:List ASp} {n:Str} {u:ASp}:u∈nextL mv fit K n ↔ ∃ s∈K,u∈stepL mv fit n s:=by
 unfold nextL;rw [(foldl_insK _ _ List.nodup_nil).2];simp
def cfS (x y:ASp):Int:=firstN [cmpI x.1 y.1,cmpI x.2 y.2]
end Go.Dw
end
section
namespace Go.Dw
theorem findM_encGr (s:Int):∀ (g:Gr) (i:Nat),∃ o,findM (.int .i64 s) (encGr g) i = some o∧(match o with | some p=>p.2 | none=>(.sl 4 []:V)) = encMvs (getG s g)
 | [],i=>⟨none,rfl,rfl⟩
 | p :: g,i=>by
  obtain ⟨o,h1,h2⟩:=findM_encGr s g (i+1)
  by_cases h:p.1 = s
  ·refine ⟨some (i,encMvs p.2),?_,by simp [getG,h]⟩
   simp [encGr,findM,sameK,h]
  ·have hb:(s == p.1) = false:=by simpa using fun e=>h e.symm
   refine ⟨o,?_,by simp only [getG,if_neg h];exact h2⟩
   rw [← h1];simp [encGr,findM,sameK,hb]
theorem look_encGr {H:List Ob} {k:Nat} {g:Gr} (s:Int) (hk:H[k]? = some (.map (encGr g))):lookV H false false (.sl 4 []) (.map k) (.int .i64 s) = some (encMvs (getG s g)):=by
 obtain ⟨o,h1,h2⟩:=findM_encGr s g 0
 have he:entsV H (.map k) = some (encGr g):=by simp [entsV,hk]
 unfold lookV
 rw [he]
 simp only [h1,ksB,Bool.not_false,if_true]
 rw [← h2];rfl
def sortSp (l:List ASp):List ASp:=l.mergeSort fun x y=>!decide (cfS y x < 0)
def readsL (mv:List AMove) (fit:Int→Bool) (p:Int) (w:List Str):List ASp:=sortSp (readL mv fit (p,17) w)
theorem objIs_one {t:T} {r:Nat}:objIs t [r] = (objI (lk t r)).map fun i=>[i]:=by unfold objIs;cases objI (lk t r) <;> rfl
theorem objI_map {i:Nat}:objI (.map i) = some i:=rfl
theorem kk_11:kkB 1 2 [1] = true:=by decide
theorem kk_21:kkB 1 4 [2] = true:=by decide
theorem kp_10:pos? (List.range 1++[1]) 0 = some 0:=rfl
theorem kp_11:pos? (List.range 1++[1]) 1 = some 1:=rfl
theorem kp_20:pos? (List.range 1++[2]) 0 = some 0:=rfl
theorem kp_22:pos? (List.range 1++[2]) 2 = some 1:=rfl
theorem kg_1 {a b:Ob}:give (List.range 1++[1]) [a,b] = [renOb (pos? (List.range 1++[1])) a,renOb (pos? (List.range 1++[1])) b]:=rfl
theorem kg_2 {a b c d:Ob}:give (List.range 1++[2]) [a,b,c,d] = [renOb (pos? (List.range 1++[2])) a,renOb (pos? (List.range 1++[2])) c]:=rfl
theorem rens_cSps {σ:Nat→Option Nat} {l:List ASp}:(l.map cSp).map (rens σ) = l.map cSp:=by rw [List.map_map];rfl
theorem bounds_graph_reads_s {f:Nat} {caps:List V} (fit:Int→Bool) (hc:∀ σ,rens σ caps = caps) (mv:List AMove) (hfit:∀ x∈mv,PF f (.int .i64 x.h :: caps) (.bool (fit x.h)))
  (p:Int) (w:List Str) (hw:w.length < 2^40) (hmv:mv.length < 2^40) (hK:∀ k,k≤w.length→(readL mv fit (p,17) (w.take k)).length < 2^40)
  (hsort:∀ K:List ASp,K.Nodup→(∀ u,u∈K ↔ u∈readL mv fit (p,17) w)→Spec prog n_slices_SortFunc_s_bounds_spot_bounds_spot [.rw 0 2 K.length,.fn (.func n_bounds_graph_reads_1) [] []] [.row t_bounds_spot 2 (K.map cSp)] fun x H'=>x = .tup []∧H' = [.row t_bounds_spot 2 ((readsL mv fit p w).map cSp)]) :
  Spec prog n_bounds_graph_reads [.map 0,.int .i64 p,encSs w,.fn (.func f) [] caps] [.map (encGr (fromM mv))] fun x H'=>x = encSps (readsL mv fit p w)∧H' = [.map (encGr (fromM mv))]:=by
 refine spec_of_run mixed bounds_graph_reads.ok rfl ?_
 have hbd:∀ a b,V.agg [V.int .i64 a,V.int .i64 b] = encSp (a,b):=fun _ _=>rfl
 have hu0:∀ s,updQ (encSp s) (.bool true) [] = some (entS [s]):=fun s=>updQ_entS s []
 push_cast [hbd,hu0,shB_sp,objIs_one,objI_map,kk_11,kp_10,kp_11,kg_1,hc]
 refine loop_up (n:=w.length) (R:=fun k=>∀ K:List ASp,K.Nodup→(∀ u,u∈K ↔ u∈readL mv fit (p,17) (w.take k))→bounds_graph_reads.L13 (.map 0) (.fn (.func f) [] caps) (.map 1) (encSs w) (.int .i64 w.length) (.int .i64 k) 1 [.map (encGr (fromM mv)),.map (entS K)] (Ends 1 bounds_graph_reads.rs fun x H'=>x = encSps (readsL mv fit p w)∧H' = [.map (encGr (fromM mv))])) ?_ ?_ 0 (Nat.zero_le _) [(p,17)] (by simp) (fun u=>by simp [readL])
 ·intro k hk ih K hnd hmem
  refine bounds_graph_reads.G13 ?_
  have htk:w.take (k+1) = w.take k++[w.getD k default]:=take_succ_getD hk
  generalize hn0:w.getD k default = name at htk
  have hKl:K.length < 2^40:=by
   have:=List.Nodup.length_le_of_subset hnd (l₂:=readL mv fit (p,17) (w.take k)) fun u hu=>(hmem u).1 hu
   have:=hK k (by omega);omega
  have hel:∀ K:List ASp,(entS K).length = K.length:=fun K=>by simp [entS]
  push_cast [ilt hk,hn0,hc,hel]
  refine range_up K.length (R:=fun seen=>∀ NK:List ASp,NK.Nodup→(∀ u,u∈NK ↔ ∃ i∈seen,u∈stepL mv fit name (K.getD i default))→bounds_graph_reads.L11 (.map 0) (.fn (.func f) [] caps) (.str name) (.map 2) (encSs w) (.int .i64 w.length) (.int .i64 k) (.it 3) 1
   [.map (encGr (fromM mv)),.map (entS K),.map (entS NK),.iter (some 1) K.length seen] (Ends 1 bounds_graph_reads.rs fun x H'=>x = encSps (readsL mv fit p w)∧H' = [.map (encGr (fromM mv))])) ?_ [] (by simp) (by simp)
  intro seen hsn hslt hsl ih2 NK hNd hNm
  refine bounds_graph_reads.G11 ?_
  push_cast
  refine nxP_of 1 K.length seen (entS K) rfl rfl (hel K).symm (fun hall=>?_) (fun j q hq hj=>?_)
  ·push_cast [objIs_one,objI_map,kk_21,kp_20,kp_22,kg_2,hc,w64 (show k < 2^62 by omega)]
   have:=ih NK hNd (fun u=>by
    rw [htk,readL_snoc,nextL_mem,hNm]
    constructor
    ·rintro ⟨i,hi,hu⟩
     exact ⟨_,(hmem _).1 (getD_mem (hslt i hi)),hu⟩
    ·rintro ⟨s,hs,hu⟩
     obtain ⟨i,hi,rfl⟩:=List.getElem_of_mem ((hmem s).2 hs)
     exact ⟨i,hall i hi,by simpa [List.getD_eq_getElem?_getD,hi] using hu⟩)
   push_cast at this
   exact this
  ·have hjl:j < K.length:=by rw [← hel K];exact (List.getElem?_eq_some_iff.1 hq).1
   have ih3:=ih2 j hjl hj
   have hqe:q = (encSp (K.getD j default),.bool true):=by
    unfold entS at hq
    rw [List.getElem?_map] at hq
    simp [hjl] at hq
    rw [← hq];simp [List.getD_eq_getElem?_getD,hjl]
   have hen:∀ a c,enV [a,.map (entS K),c,.iter (some 1) K.length (seen++[j])] (.it 3) = some (.tup [q.1,q.2]):=fun a c=>by
    simp [enV,hel,hq]
   subst hqe
   have hKj:K.getD j default∈K:=getD_mem hjl
   generalize hs:K.getD j default = s at hen hKj
   have hlk:∀ R,lookV (.map (encGr (fromM mv)) :: R) false false (.sl 4 []) (.map 0) (.int .i64 s.1) = some (encMvs (mv.filter fun x=>decide (x.src = s.1))):=fun R=>by
    rw [look_encGr s.1 (g:=fromM mv) rfl,getG_from]
   have hml:(mv.filter fun x=>decide (x.src = s.1)).length≤mv.length:=List.length_filter_le _ _
   have hmm:∀ x∈mv.filter fun x=>decide (x.src = s.1),x∈mv:=fun x hx=>(List.mem_filter.1 hx).1
   generalize hl:(mv.filter fun x=>decide (x.src = s.1)) = l at hlk hml hmm
   push_cast [hen,hlk,hc]
   refine loop_up (n:=l.length) (R:=fun m=>∀ NK:List ASp,NK.Nodup→(∀ u,u∈NK ↔ (∃ i∈seen,u∈stepL mv fit name (K.getD i default)) ∨ ∃ x∈l.take m,x.name = name∧fit x.h = true∧u = (x.dst,if x.h < s.2 then x.h else s.2)) →
    bounds_graph_reads.L9 (.map 0) (.fn (.func f) [] caps) (.str name) (.map 2) (.ro (cSp s) 0) (encSs w) (.int .i64 w.length) (.int .i64 k) (.it 3) (encMvs l) (.int .i64 l.length) (.int .i64 m) 1
    [.map (encGr (fromM mv)),.map (entS K),.map (entS NK),.iter (some 1) K.length (seen++[j]),.dead] (Ends 1 bounds_graph_reads.rs fun x H'=>x = encSps (readsL mv fit p w)∧H' = [.map (encGr (fromM mv))])) ?_ ?_ 0 (Nat.zero_le _) NK hNd (fun u=>by rw [hNm];simp)
   ·intro m hm ih4 MK hMd hMm
    refine bounds_graph_reads.G9 ?_
    have htm:l.take (m+1) = l.take m++[l.getD m default]:=take_succ_getD hm
    have hxm:l.getD m default∈l:=getD_mem hm
    generalize hx0:l.getD m default = x at htm hxm
    have hw1:=w64 (show m < 2^62 by omega)
    have skip:¬ (x.name = name∧fit x.h = true)→∀ u,u∈MK ↔ (∃ i∈seen,u∈stepL mv fit name (K.getD i default)) ∨ ∃ x∈l.take (m+1),x.name = name∧fit x.h = true∧u = (x.dst,if x.h < s.2 then x.h else s.2):=fun hn u=>by
     rw [hMm,htm]
     refine or_congr Iff.rfl ⟨fun ⟨y,hy,h⟩=>⟨y,List.mem_append_left _ hy,h⟩,fun ⟨y,hy,h1,h2,h3⟩=>?_⟩
     rcases List.mem_append.1 hy with hy | hy
     ·exact ⟨y,hy,h1,h2,h3⟩
     ·rw [List.mem_singleton.1 hy] at h1 h2;exact absurd ⟨h1,h2⟩ hn
    by_cases hnm:x.name = name
    ·push_cast [ilt hm,hx0,hnm,hc]
     refine .of (hfit x (hmm x hxm)) ?_
     cases hf:fit x.h with
     | false =>
      push_cast [hw1,hc]
      have:=ih4 MK hMd (skip (by rw [hf];simp))
      push_cast at this
      exact this
     | true =>
      push_cast [hw1,hc,hbd,shB_sp,updQ_entS]
      have:=ih4 (insK MK (x.dst,if x.h < s.2 then x.h else s.2)) (insK_nodup hMd) (fun u=>by
       rw [insK_mem,hMm,htm]
       constructor
       ·rintro ((h | ⟨y,hy,h⟩) | rfl)
        ·exact .inl h
        ·exact .inr ⟨y,List.mem_append_left _ hy,h⟩
        ·exact .inr ⟨x,by simp,hnm,hf,rfl⟩
       ·rintro (h | ⟨y,hy,h1,h2,h3⟩)
        ·exact .inl (.inl h)
        ·rcases List.mem_append.1 hy with hy | hy
         ·exact .inl (.inr ⟨y,hy,h1,h2,h3⟩)
         ·rw [List.mem_singleton.1 hy] at h3;exact .inr h3)
      push_cast at this
      exact this
    ·push_cast [ilt hm,hx0,hnm,hc,hw1]
     have:=ih4 MK hMd (skip fun h=>hnm h.1)
     push_cast at this
     exact this
   ·intro MK hMd hMm
    refine bounds_graph_reads.G9 ?_
    push_cast [inlt (Nat.le_refl _),hc]
    have:=ih3 MK hMd (fun u=>by
     rw [hMm,List.take_length]
     constructor
     ·rintro (⟨i,hi,h⟩ | ⟨x,hx,h1,h2,h3⟩)
      ·exact ⟨i,by simp [hi],h⟩
      ·refine ⟨j,by simp,?_⟩
       rw [hs,h3]
       exact List.mem_map.2 ⟨x,List.mem_filter.2 ⟨hl ▸ hx,by simp [h1,h2]⟩,rfl⟩
     ·rintro ⟨i,hi,h⟩
      rcases List.mem_append.1 hi with hi | hi
      ·exact .inl ⟨i,hi,h⟩
      ·rw [List.mem_singleton.1 hi,hs] at h
       obtain ⟨x,hx,h3⟩:=List.mem_map.1 h
       obtain ⟨hx1,hx2⟩:=List.mem_filter.1 hx
       simp at hx2
       exact .inr ⟨x,hl ▸ hx1,hx2.1,hx2.2,h3.symm⟩)
    push_cast at this
    exact this
 ·intro K hnd hmem
  refine bounds_graph_reads.G13 ?_
  rw [List.take_length] at hmem
  have hKl:K.length < 2^40:=by
   have:=List.Nodup.length_le_of_subset hnd (l₂:=readL mv fit (p,17) w) fun u hu=>(hmem u).1 hu
   have:=hK w.length (Nat.le_refl _);rw [List.take_length] at this;omega
  have hel:∀ K:List ASp,(entS K).length = K.length:=fun K=>by simp [entS]
  push_cast [inlt (Nat.le_refl _),hel]
  refine range_up K.length (R:=fun seen=>bounds_graph_reads.L3 (.rw 2 2 seen.length) (.it 3) 1
   [.map (encGr (fromM mv)),.map (entS K),.row t_bounds_spot 2 ((seen.map fun i=>K.getD i default).map cSp),.iter (some 1) K.length seen] (Ends 1 bounds_graph_reads.rs fun x H'=>x = encSps (readsL mv fit p w)∧H' = [.map (encGr (fromM mv))])) ?_
  intro seen hsn hslt hsl ih2
  refine bounds_graph_reads.G3 ?_
  push_cast
  refine nxP_of 1 K.length seen (entS K) rfl rfl (hel K).symm (fun hall=>?_) (fun j q hq hj=>?_)
  ·have hsl:(seen.map fun i=>K.getD i default).length = seen.length:=by simp
   have hmap:∀ i (hi:i < seen.length),(seen.map fun i=>K.getD i default)[i]'(by simpa using hi) = K.getD seen[i] default:=fun i hi=>by simp
   have hKd:(seen.map fun i=>K.getD i default).Nodup:=by
    rw [List.nodup_iff_pairwise_ne,List.pairwise_map]
    refine (List.nodup_iff_pairwise_ne.1 hsn).imp_of_mem fun {a b} ha hb hab e=>hab ?_
    have h1:=hslt a ha
    have h2:=hslt b hb
    simp only [List.getD_eq_getElem?_getD,List.getElem?_eq_getElem,h1,h2,Option.getD_some] at e
    exact (List.getElem_inj hnd).1 e
   have hc:=hsort (seen.map fun i=>K.getD i default) hKd (fun u=>by
    rw [← hmem]
    constructor
    ·intro hu
     obtain ⟨i,hi,rfl⟩:=List.mem_map.1 hu
     exact getD_mem (hslt i hi)
    ·intro hu
     obtain ⟨i,hi,rfl⟩:=List.getElem_of_mem hu
     exact List.mem_map.2 ⟨i,hall i hi,by simp [List.getD_eq_getElem?_getD,hi]⟩)
   have hso:(readsL mv fit p w).length = seen.length:=by
    have h1:(readsL mv fit p w).length = (readL mv fit (p,17) w).length:=(List.mergeSort_perm _ _).length_eq
    have h2:=List.Nodup.length_le_of_subset (readL_nodup mv fit (p,17) w) (l₂:=K) fun u hu=>(hmem u).2 hu
    have h3:=List.Nodup.length_le_of_subset hnd (l₂:=readL mv fit (p,17) w) fun u hu=>(hmem u).1 hu
    have h4:=List.Nodup.length_le_of_subset (List.nodup_range (n:=K.length)) (l₂:=seen) fun i hi=>hall i (List.mem_range.1 hi)
    simp at h4
    omega
   rw [hsl] at hc
   push_cast
   refine CallG.some [2] (by simp) (by simp) (R:=fun x H'=>x = .tup []∧H' = [.row t_bounds_spot 2 ((readsL mv fit p w).map cSp)]) (by rw [give_2,renOb_row,rens_cSps];exact hc) ?_
   rintro x H' ⟨rfl,rfl⟩ _
   rw [take_2]
   push_cast [rens_cSps]
   refine ⟨by rw [List.length_map];exact hso,?_⟩
   exact ends_keep (H:=[.map (encGr (fromM mv))]) (J:=[_,_,_]) (n:=1) ⟨rfl,by push_cast⟩ rfl ⟨rfl,rfl⟩
  ·have hjl:j < K.length:=by rw [← hel K];exact (List.getElem?_eq_some_iff.1 hq).1
   have hqe:q = (encSp (K.getD j default),.bool true):=by
    unfold entS at hq
    rw [List.getElem?_map] at hq
    simp [hjl] at hq
    rw [← hq];simp [List.getD_eq_getElem?_getD,hjl]
   have hen:∀ a c,enV [a,.map (entS K),c,.iter (some 1) K.length (seen++[j])] (.it 3) = some (.tup [q.1,q.2]):=fun a c=>by
    simp [enV,hel,hq]
   subst hqe
   have ih3:=ih2 j hjl hj
   push_cast [hen]
   refine ⟨⟨by simp,by unfold maxEls;omega⟩,?_⟩
   have e1:List.map cSp (List.map (fun i=>K.getD i default) seen)++[cSp (K.getD j default)] = (List.map (fun i=>K.getD i default) (seen++[j])).map cSp:=by simp
   rw [e1,rens_cSps]
   rw [List.length_append] at ih3
   exact ih3
end Go.Dw
end
section
namespace Go.Dw
open Go.Proofs Go.Sort
theorem pfe_of {f:Nat} {nd:Nat→C} {c:C} {n:Nat} {rs:List RV} (hok:okF prog f nd c n rs = true) {args:List V} {x:V} (hn:args.length = n)
  (hrun:Run prog nd 0 [.c c] (ini 0 args) [] (Ends 0 rs fun x' H'=>x' = x∧H' = [])):SpecE prog f args [] fun x' H'=>x' = x∧H' = []:=spece_of_run mixed hok hn hrun
theorem calls_pfe {f:Nat} {args:List V} {n:Int} (h:SpecE prog f args [] fun x' H'=>x' = .int .i64 n∧H' = []) {vs:List Value} (hr:∀ W:World,repL ⟨W,fun _ _=>False,fun _=>none,[]⟩ args vs) (W:World) :
  Calls prog f vs.toArray W fun e w'=>e = .returned (.int .i64 n)∧∃ q os',w' = grow (W.drewN q) os':=by
 have hc:Conc ⟨W,fun _ _=>False,fun _=>none,[]⟩:=⟨fun i j b k k' hi=>by simp at hi,fun b o h=>h.elim,fun i o h=>by simp at h⟩
 refine ((h ⟨W,fun _ _=>False,fun _=>none,[]⟩ vs rfl hc (hr W)).2).mono ?_
 rintro e w' ⟨v,x,c',rfl,rfl,⟨rfl,hH⟩,_,hv,hf⟩
 have hv:v = .int .i64 n:=hv
 refine ⟨by rw [hv],c'.w.drawn - W.drawn,c'.w.heap.extract W.heap.size c'.w.heap.size,?_⟩
 have h1:W.drawn≤c'.w.drawn:=hf.drawn
 have h2:W.heap.size≤c'.w.heap.size:=hf.size
 have h3:c'.w.heap = W.heap++c'.w.heap.extract W.heap.size c'.w.heap.size:=by
  apply Array.ext (by simp;omega)
  intro i hi hi2
  by_cases hlt:i < W.heap.size
  ·have:=hf.heap i hlt (by rintro ⟨j,k,hj,_⟩;simp at hj)
   rw [Array.getElem_append_left hlt]
   have e1:c'.w.heap[i]? = W.heap[i]?:=this
   rw [Array.getElem?_eq_getElem hi,Array.getElem?_eq_getElem hlt] at e1
   exact Option.some.inj e1
  ·rw [Array.getElem_append_right (by omega)]
   simp;congr 1;omega
 have h4:c'.w.os = W.os:=hf.os
 have h5:c'.w.tape = W.tape:=hf.tape
 have h6:c'.w.output = W.output:=hf.output
 generalize c'.w = W' at h1 h3 h4 h5 h6 ⊢
 obtain ⟨heap,tape,drawn,os,output⟩:=W'
 obtain ⟨heap',tape',drawn',os',output'⟩:=W
 simp only at h1 h3 h4 h5 h6 ⊢
 subst h4;subst h5;subst h6
 simp only [grow,World.drewN,World.mk.injEq,true_and,and_true]
 exact ⟨h3,by omega⟩
theorem sort_rowK {α:Type} [Inhabited α] {f g e k:Nat} (encV:α→List V) (enc:α→List Value) (so:List α→List α) (hk0:0 < k) (hk:∀ x,(enc x).length = k) (hkV:∀ x,(encV x).length = k)
  (hdet:∀ (c:Cx) (a:α) (j:Nat) (x:V) (v:Value),(encV a)[j]? = some x→rep c x v→(enc a)[j]? = some v) (hrep:∀ (c:Cx) (a:α) (j:Nat) (x:V),(encV a)[j]? = some x→∃ v,(enc a)[j]? = some v∧oneC v = true∧rep c x v)
  (l:List α) (hlen:(so l).length = l.length)
  (hin:∀ (args:Array Value) (w:World),(callFunc f args).run prog w = .ok (.enter f args) w)
  (hcall:∀ (b cap:Nat) (w:World),HoldsK enc k w b 0 l.toArray→b < w.heap.size→Calls prog f #[.slice (some ⟨b,0,none⟩) l.toArray.size cap,.func (.func g) #[] #[]] w fun e w'=>e = .returned (.tuple #[])∧∃ n os,w' = sortWorldK enc k w b 0 n (so l).toArray os)
  (hnone:∀ (cap:Nat) (w:World),Calls prog f #[.slice none 0 cap,.func (.func g) #[] #[]] w fun e w'=>e = .returned (.tuple #[])∧w' = w) :
  Spec prog f [.rw 0 k l.length,.fn (.func g) [] []] [.row e k (l.map encV)] fun x H'=>x = .tup []∧H' = [.row e k ((so l).map encV)]:=by
 intro c vs hH hc hr
 obtain ⟨v,vs',rfl,h1,v2,vs2,rfl,h2,h3⟩:=hr
 have h3:vs2 = []:=h3
 subst h3
 obtain ⟨va,vc,rfl,h4,h5⟩:=h2
 have h4:va.toList = []:=h4
 have h5:vc.toList = []:=h5
 obtain rfl:va = #[]:=by simpa using h4
 obtain rfl:vc = #[]:=by simpa using h5
 left
 have h0:c.H[0]? = some (.row e k (l.map encV)):=by rw [hH];rfl
 obtain ⟨q1,q2⟩:=hc.obj 0 _ h0
 obtain ⟨p1,⟨a,kk,p2,p3,p4⟩,p5⟩:=h1
 have hcur:=(p5 _ _ _ h0).2.2 (by simp)
 refine ⟨hin _ _,?_⟩
 cases hρ:c.ρ 0 with
 | none =>
  have hl:l = []:=by simpa using q1 hρ
  subst hl
  rw [hρ] at hcur
  have hcur:v = .slice none 0 0:=hcur
  subst hcur
  have hso:so [] = []:=List.eq_nil_of_length_eq_zero hlen
  refine (hnone 0 c.w).mono ?_
  rintro e w' ⟨rfl,rfl⟩
  exact ⟨_,.tup [],c,rfl,rfl,⟨rfl,by rw [hH,hso]⟩,hc,⟨#[],rfl,rfl⟩,.refl c⟩
 | some bk =>
  obtain ⟨b,m⟩:=bk
  rw [hρ] at hcur
  have hcur:v = .slice (some ⟨b,0,none⟩) l.length m:=hcur
  subst hcur
  obtain ⟨vs,r1,r2,r3,r4,r5,r6⟩:=q2 b m hρ
  have hblt:b < c.w.heap.size:=(Array.getElem?_eq_some_iff.1 r1).1
  have hvsz:l.length * k≤vs.size:=by rw [r2];exact Nat.mul_le_mul_right _ (by simpa using r3)
  have hcell:∀ (a:α) (i j:Nat) (v:Value),l[i]? = some a→(enc a)[j]? = some v→vs[i * k+j]? = some v:=fun a i j v hi hj=>by
   obtain ⟨_,hx⟩:=r6 i (encV a) (by rw [List.getElem?_map,hi];rfl)
   have hjk:j < k:=by rw [← hk a];exact (List.getElem?_eq_some_iff.1 hj).1
   have hgx:(encV a)[j]? = some ((encV a)[j]'(by rw [hkV];exact hjk)):=List.getElem?_eq_getElem _
   obtain ⟨v',e1,_,e3⟩:=hx j _ hgx
   have:=hdet c a j _ v' hgx e3
   rw [hj] at this
   rw [e1,← this]
  have hHolds:HoldsK enc k c.w b 0 l.toArray:=fun t ht=>by
   have ht:t < l.length * k:=by simpa using ht
   have hi:t / k < l.length:=(Nat.div_lt_iff_lt_mul hk0).2 ht
   have hj:t % k < k:=Nat.mod_lt _ hk0
   rw [get_flatK _ _ _ _ (by simpa using ht)]
   have hgi:l.toArray[t / k]! = l[t / k]:=by simp [hi]
   rw [hgi]
   have hlt:t % k < (enc l[t / k]).length:=by rw [hk];exact hj
   have hgj:(enc l[t / k])[t % k]! = (enc l[t / k])[t % k]:=getElem!_pos (enc l[t / k]) (t % k) hlt
   rw [hgj]
   have:=hcell l[t / k] (t / k) (t % k) _ (List.getElem?_eq_getElem hi) (List.getElem?_eq_getElem hlt)
   rw [Nat.mul_comm,Nat.div_add_mod] at this
   refine ⟨?_,?_⟩
   ·simp only [World.cell?,r1,Nat.zero_add]
    exact this
   ·simp [World.frozen?,r1]
  have hca:=hcall b m c.w hHolds hblt
  rw [List.size_toArray] at hca
  refine hca.mono ?_
  rintro e2 w' ⟨rfl,n,os,rfl⟩
  generalize hso:so l = s at hlen
  generalize hw':sortWorldK enc k c.w b 0 n s.toArray os = w'
  have hsz:w'.heap.size = c.w.heap.size+os.size:=by subst hw';simp [sortWorldK,putRowK,grow,putRow,mapBlock,Sort.ahead]
  have hoth:∀ b',b' < c.w.heap.size→b' ≠ b→w'.heap[b']? = c.w.heap[b']?:=fun b' h1 h2=>by
   subst hw'
   simp only [sortWorldK,putRowK,grow,putRow,mapBlock,Sort.ahead]
   rw [Array.getElem?_append_left (by simpa using h1),Array.getElem?_modify,if_neg (Ne.symm h2)]
  have hsame:w'.heap[b]? = some (.cells (putCells id 0 (flatK enc k s.toArray) vs) e (0,0)):=by
   subst hw'
   simp only [sortWorldK,putRowK,grow,putRow,mapBlock,Sort.ahead]
   rw [Array.getElem?_append_left (by simpa using hblt),Array.getElem?_modify,if_pos rfl,r1]
   rfl
  have howns:∀ b',c.owns b' ↔ b' = b:=fun b'=>by
   constructor
   ·rintro ⟨i,k',h1,h2⟩
    have:i = 0:=by rw [hH] at h1;simpa using h1
    subst this
    rw [hρ] at h2;cases h2;rfl
   ·rintro rfl;exact ⟨0,m,p1,hρ⟩
  refine ⟨_,.tup [],⟨w',c.ok,c.ρ,[.row e k (s.map encV)]⟩,rfl,rfl,⟨rfl,rfl⟩,?_,⟨#[],rfl,rfl⟩,?_⟩
  ·refine ⟨fun i j b1 k1 k2 h1 h2 _ _=>?_,fun b' o h=>?_,fun i o hi=>?_⟩
   ·simp only [List.length_singleton] at h1 h2;omega
   ·have:=hc.okLt _ _ h;show b' < w'.heap.size;omega
   ·cases i with
    | succ i=>simp at hi
    | zero =>
     simp only [List.getElem?_cons_zero,Option.some.injEq] at hi
     subst hi
     refine ⟨fun h=>?_,fun b' k' h=>?_⟩
     ·have h:c.ρ 0 = none:=h
      rw [hρ] at h;cases h
     ·have h:c.ρ 0 = some (b',k'):=h
      rw [hρ] at h;cases h
      refine ⟨putCells id 0 (flatK enc k s.toArray) vs,hsame,by simpa [putCells] using r2,by simpa [hlen] using r3,r4,r5,fun i el hi=>?_⟩
      rw [List.getElem?_map] at hi
      cases hs:s[i]? with
      | none=>rw [hs] at hi;cases hi
      | some a =>
       rw [hs] at hi;cases hi
       refine ⟨hkV a,fun j x hx=>?_⟩
       obtain ⟨v,e1,e2,e3⟩:=hrep ⟨w',c.ok,c.ρ,[.row e k (s.map encV)]⟩ a j x hx
       refine ⟨v,?_,e2,e3⟩
       have hil:i < s.length:=(List.getElem?_eq_some_iff.1 hs).1
       have hsi:s[i] = a:=(List.getElem?_eq_some_iff.1 hs).2
       have hjk:j < k:=by rw [← hk a];exact (List.getElem?_eq_some_iff.1 e1).1
       have htk:i * k+j < s.length * k:=by
        have:(i+1) * k≤s.length * k:=Nat.mul_le_mul_right _ hil
        rw [Nat.succ_mul] at this;omega
       have hiv:i * k+j < vs.size:=by rw [hlen] at htk;omega
       simp only [putCells,Array.getElem?_mapIdx,Array.getElem?_eq_getElem hiv,Option.map_some]
       rw [if_pos (by simpa using htk)]
       simp only [Nat.sub_zero,id]
       rw [get_flatK _ _ _ _ (by simpa using htk),Nat.mul_comm i k,Nat.mul_add_div hk0,Nat.div_eq_of_lt hjk,Nat.add_zero,Nat.mul_add_mod,Nat.mod_eq_of_lt hjk]
       have:s.toArray[i]! = a:=by simp [hil,hsi]
       rw [this,getElem!_def,e1]
  ·refine ⟨fun _ _ h=>h,fun b' o h=>?_,by show c.w.heap.size≤w'.heap.size;omega,fun _ _ h=>.inl h,fun b' hb hno=>hoth b' hb (fun e=>hno ((howns b').2 e)),fun b' hb=>.inl ?_,fun j o hj=>?_,?_,?_,?_,?_⟩
   ·have hne:b' ≠ b:=fun e=>r5 o (e ▸ h)
    simp only [World.cell?]
    rw [hoth b' (hc.okLt _ _ h) hne]
   ·obtain ⟨i,k',h1,h2⟩:=hb
    exact ⟨i,k',by rw [hH];exact h1,h2⟩
   ·rw [hH] at hj
    cases j with
    | succ j=>simp at hj
    | zero =>
     simp only [List.getElem?_cons_zero,Option.some.injEq] at hj
     subst hj
     exact ⟨_,rfl,rfl,rfl,by simp [hlen],fun _=>rfl⟩
   ·subst hw';rfl
   ·subst hw';rfl
   ·subst hw';rfl
   ·subst hw';exact Nat.le_add_right _ _
end Go.Dw
end
