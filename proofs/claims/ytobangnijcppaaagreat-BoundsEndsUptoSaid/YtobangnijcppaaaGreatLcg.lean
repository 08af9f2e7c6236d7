/-
  Contracts and lemmas for BoundsEnds: part g of 9.
-/
import Derived.Ground.SlsfProg
import Derived.Test.YtobangnijcppaaaGreatLcf
import Derived.Shelf.Slices.In.CompactS
import Derived.Test.YtobangnijcppaaaGreatLce
set_option linter.unusedVariables false
set_option linter.unusedSimpArgs false
set_option maxRecDepth 100000
section
namespace Go.Proofs
open Go.Shelf Go.RowKit Go.Lib Go.Sort
def Tryz.sortSpot_ren:Go.Shelf.Ren:=⟨fun | 6=>226 | 15=>173 | 14=>264 | 28=>240 | 29=>241 | 20=>286 | 21=>287 | 22=>288 | 23=>289 | 24=>290 | 25=>291 | 26=>292 | 27=>293 | 46=>304 | 47=>276 | 48=>277 | 49=>305 | 50=>306 | 57=>312 | n=>n,fun | 22=>187 | 24=>191 | 25=>251 | 3=>3 | 39=>176 | 0=>0 | 53=>234 | 55=>114 | 4=>4 | 46=>257 | 45=>256 | 50=>194 | 5=>5 | 9=>9 | 66=>286 | 70=>290 | 76=>307 | 77=>83 | n=>n,fun | n=>n⟩
theorem Tryz.sortSpot:Go.Proofs.SlLaysF0.n6 Tryz.prog Tryz.sortSpot_ren:={
 mixed:=by kernel_rfl
 f6:=⟨Tryz.f226.name,by decide,Tryz.func226.trans (congrArg some (by kernel_rfl))⟩
 f14:=⟨Tryz.f264.name,by decide,Tryz.func264.trans (congrArg some (by kernel_rfl))⟩
 f15:=Tryz.func173.trans (congrArg some (by kernel_rfl))
 f20:=⟨Tryz.f286.name,by decide,Tryz.func286.trans (congrArg some (by kernel_rfl))⟩
 f21:=⟨Tryz.f287.name,by decide,Tryz.func287.trans (congrArg some (by kernel_rfl))⟩
 f22:=⟨Tryz.f288.name,by decide,Tryz.func288.trans (congrArg some (by kernel_rfl))⟩
 f23:=⟨Tryz.f289.name,by decide,Tryz.func289.trans (congrArg some (by kernel_rfl))⟩
 f24:=⟨Tryz.f290.name,by decide,Tryz.func290.trans (congrArg some (by kernel_rfl))⟩
 f25:=⟨Tryz.f291.name,by decide,Tryz.func291.trans (congrArg some (by kernel_rfl))⟩
 f26:=⟨Tryz.f292.name,by decide,Tryz.func292.trans (congrArg some (by kernel_rfl))⟩
 f27:=⟨Tryz.f293.name,by decide,Tryz.func293.trans (congrArg some (by kernel_rfl))⟩
 f28:=Tryz.func240.trans (congrArg some (by kernel_rfl))
 f29:=Tryz.func241.trans (congrArg some (by kernel_rfl))
 f46:=⟨Tryz.f304.name,by decide,Tryz.func304.trans (congrArg some (by kernel_rfl))⟩
 f47:=Tryz.func276.trans (congrArg some (by kernel_rfl))
 f48:=Tryz.func277.trans (congrArg some (by kernel_rfl))
 f49:=⟨Tryz.f305.name,by decide,Tryz.func305.trans (congrArg some (by kernel_rfl))⟩
 f50:=⟨Tryz.f306.name,by decide,Tryz.func306.trans (congrArg some (by kernel_rfl))⟩
 f57:=⟨Tryz.f312.name,by decide,Tryz.func312.trans (congrArg some (by kernel_rfl))⟩
 t0:=Tryz.underlying0
 a0:=Tryz.isAgg0
 z0:=Tryz.sizeOf0
 v0:=Tryz.zeroValue0
 t3:=Tryz.underlying3
 a3:=Tryz.isAgg3
 z3:=Tryz.sizeOf3
 v3:=Tryz.zeroValue3
 t4:=Tryz.underlying4
 a4:=Tryz.isAgg4
 z4:=Tryz.sizeOf4
 v4:=Tryz.zeroValue4
 t5:=Tryz.underlying5
 a5:=Tryz.isAgg5
 z5:=Tryz.sizeOf5
 v5:=Tryz.zeroValue5
 t9:=Tryz.underlying9
 a9:=Tryz.isAgg9
 z9:=Tryz.sizeOf9
 v9:=Tryz.zeroValue9
 t22:=Tryz.underlying187
 a22:=Tryz.isAgg187
 z22:=Tryz.sizeOf187
 v22:=Tryz.zeroValue187
 t25:=Tryz.underlying251
 a25:=Tryz.isAgg251
 z25:=Tryz.sizeOf251
 v25:=Tryz.zeroValue251
 t39:=Tryz.underlying176
 a39:=Tryz.isAgg176
 z39:=Tryz.sizeOf176
 v39:=Tryz.zeroValue176
 t45:=Tryz.underlying256
 a45:=Tryz.isAgg256
 z45:=Tryz.sizeOf256
 v45:=Tryz.zeroValue256
 t46:=Tryz.underlying257
 a46:=Tryz.isAgg257
 z46:=Tryz.sizeOf257
 v46:=Tryz.zeroValue257
 t50:=Tryz.underlying194
 a50:=Tryz.isAgg194
 z50:=Tryz.sizeOf194
 v50:=Tryz.zeroValue194
 t53:=Tryz.underlying234
 a53:=Tryz.isAgg234
 z53:=Tryz.sizeOf234
 v53:=Tryz.zeroValue234
 t55:=Tryz.underlying114
 a55:=Tryz.isAgg114
 z55:=Tryz.sizeOf114
 v55:=Tryz.zeroValue114
 t66:=Tryz.underlying286
 a66:=Tryz.isAgg286
 z66:=Tryz.sizeOf286
 v66:=Tryz.zeroValue286
 t70:=Tryz.underlying290
 a70:=Tryz.isAgg290
 z70:=Tryz.sizeOf290
 v70:=Tryz.zeroValue290
 t76:=Tryz.underlying307
 a76:=Tryz.isAgg307
 z76:=Tryz.sizeOf307
 v76:=Tryz.zeroValue307
 t77:=Tryz.underlying83
 a77:=Tryz.isAgg83
 z77:=Tryz.sizeOf83
 v77:=Tryz.zeroValue83 }
theorem Tryz.sortSpot_num:Tryz.sortSpot_ren.f 6 = Go.Dw.n_slices_SortFunc_s_bounds_spot_bounds_spot:=by kernel_rfl
theorem Tryz.sortSpot_t:Tryz.sortSpot_ren.t 24 = Go.Dw.t_bounds_spot:=by kernel_rfl
theorem Tryz.sortSpot_in (args:Array Value) (w:World):(callFunc Go.Dw.n_slices_SortFunc_s_bounds_spot_bounds_spot args).run Tryz.prog w = .ok (.enter Go.Dw.n_slices_SortFunc_s_bounds_spot_bounds_spot args) w:=by
 have:=enters_of (P:=Tryz.prog) (f:=Go.Dw.n_slices_SortFunc_s_bounds_spot_bounds_spot) (by kernel_rfl:Tryz.prog.funcs[Go.Dw.n_slices_SortFunc_s_bounds_spot_bounds_spot]? = some Tryz.f226) (by kernel_rfl) rfl args w
 exact this
theorem Tryz.spotCmp_in (args:Array Value) (w:World):(callFunc Go.Dw.n_bounds_graph_reads_1 args).run Tryz.prog w = .ok (.enter Go.Dw.n_bounds_graph_reads_1 args) w:=by
 have:=enters_of (P:=Tryz.prog) (f:=Go.Dw.n_bounds_graph_reads_1) (by kernel_rfl:Tryz.prog.funcs[Go.Dw.n_bounds_graph_reads_1]? = some Tryz.f227) (by kernel_rfl) rfl args w
 exact this
theorem Tryz.spot_agg:Go.Dw.aggB Tryz.prog Go.Dw.t_bounds_spot = true:=by kernel_rfl
theorem Tryz.spot_size:Go.Dw.sizeB Tryz.prog Go.Dw.t_bounds_spot 2 = true:=by kernel_rfl
end Go.Proofs
namespace Go.Dw
open Go.Proofs Go.Sort
theorem graph_reads_1_e (x y:ASp):SpecE prog n_bounds_graph_reads_1 [encSp x,encSp y] [] fun x' H'=>x' = .int .i64 (cfS x y)∧H' = []:=by
 refine pfe_of bounds_graph_reads_1.ok rfl ?_
 have hp:∀ a b:Int,(V.sl 1 [[V.int .i64 a],[V.int .i64 b]]) = encP [a,b]:=fun _ _=>rfl
 push_cast
 refine .of (cmp_Compare_int_s _ _) ?_
 push_cast
 refine .of (cmp_Compare_int_s _ _) ?_
 push_cast [hp]
 refine .of (cmp_Or_int_s _ (by simp)) ?_
 push_cast
 exact pf_ret (by push_cast [bounds_graph_reads_1.rs];rfl)
def encSpv (s:ASp):List Value:=[.int .i64 s.1,.int .i64 s.2]
theorem ltS_iff (x y:ASp):ltOf cfS x y = decide (x.1 < y.1 ∨ x.1 = y.1∧x.2 < y.2):=by
 unfold ltOf cfS firstN firstN firstN cmpI
 by_cases h1:x.1 < y.1
 ·simp [h1]
 ·by_cases h2:y.1 < x.1
  ·have:¬ x.1 = y.1:=by omega
   simp [h1,h2,this]
  ·have h3:x.1 = y.1:=by omega
   by_cases h4:x.2 < y.2
   ·simp [h1,h2,h4,h3]
   ·by_cases h5:y.2 < x.2 <;> simp [h1,h2,h3,h4,h5]
theorem swoS:SWO (ltOf cfS) where
 irrefl x:=by rw [ltS_iff];simp
 trans x y z h1 h2:=by rw [ltS_iff] at *;simp at *;omega
 ntrans x y z h1 h2:=by rw [ltS_iff] at *;simp at *;omega
theorem totS (x y:ASp) (h1:ltOf cfS x y = false) (h2:ltOf cfS y x = false):x = y:=by
 rw [ltS_iff] at h1 h2;simp at h1 h2
 exact Prod.ext (by omega) (by omega)
theorem cmpLaysS (blk off size:Nat) (w:World):CmpLays prog n_bounds_graph_reads_1 #[] encSpv 2 cfS blk off size w:=fun m os dk _ x y=>by
 have h:=calls_pfe (graph_reads_1_e x y) (vs:=[.agg (encSpv x).toArray,.agg (encSpv y).toArray]) (fun W=>⟨_,_,rfl,⟨_,rfl,⟨_,_,rfl,rfl,_,_,rfl,rfl,rfl⟩,by simp [encSpv,oneC]⟩,_,_,rfl,⟨_,rfl,⟨_,_,rfl,rfl,_,_,rfl,rfl,rfl⟩,by simp [encSpv,oneC]⟩,rfl⟩) (sortWorldK encSpv 2 w blk off m dk os)
 exact h
theorem sortSp_row (l:List ASp) (hl:l.length < 2^40):Spec prog n_slices_SortFunc_s_bounds_spot_bounds_spot [.rw 0 2 l.length,.fn (.func n_bounds_graph_reads_1) [] []] [.row t_bounds_spot 2 (l.map cSp)] fun x H'=>x = .tup []∧H' = [.row t_bounds_spot 2 ((sortSp l).map cSp)]:=by
 refine sort_rowK (k:=2) cSp encSpv sortSp (by decide) (fun _=>rfl) (fun _=>rfl) ?_ ?_ l ((List.mergeSort_perm _ _).length_eq) Tryz.sortSpot_in ?_ ?_
 ·intro c a j x v hx hr
  match j,hx with
  | 0,hx=>cases hx;have hr:v = _:=hr;rw [hr];rfl
  | 1,hx=>cases hx;have hr:v = _:=hr;rw [hr];rfl
  | j+2,hx=>simp [cSp] at hx
 ·intro c a j x hx
  match j,hx with
  | 0,hx=>cases hx;exact ⟨_,rfl,rfl,rfl⟩
  | 1,hx=>cases hx;exact ⟨_,rfl,rfl,rfl⟩
  | j+2,hx=>simp [cSp] at hx
 ·intro b cap w hH hb
  have:=AnyQ.slices_SortFunc_total Tryz.sortSpot 2 (fun w=>by rw [Tryz.sortSpot_t];exact run_isAgg_true Tryz.spot_agg w) (fun w=>by
    rw [Tryz.sortSpot_t]
    have h:=Tryz.spot_size
    unfold sizeB at h
    cases hi:Tryz.prog.info? t_bounds_spot with
    | none=>rw [hi] at h;cases h
    | some i =>
     rw [hi] at h
     have h:i.size = 2:=by simpa using h
     simp [sizeOf,typeInfo,hi,h]) encSpv (fun _=>rfl) (fun x v hv=>by simp [encSpv] at hv;rcases hv with rfl | rfl <;> rfl) cfS swoS n_bounds_graph_reads_1 #[] b 0 cap l.toArray w Tryz.spotCmp_in (cmpLaysS b 0 l.toArray.size w) hH hb (by simp;omega) totS
  rw [Tryz.sortSpot_num] at this
  exact this
 ·intro cap w
  have:=AnyF.slices_SortFunc_none { Tryz.sortSpot with } none cap (.func (.func n_bounds_graph_reads_1) #[] #[]) w
  rw [Tryz.sortSpot_num] at this
  exact this
theorem sortSp_perm {K L:List ASp} (h:K.Perm L):sortSp K = sortSp L:=by
 have tr:∀ a b c:ASp,(!decide (cfS b a < 0)) = true→(!decide (cfS c b < 0)) = true→(!decide (cfS c a < 0)) = true:=fun a b c h1 h2=>by
  have h1:ltOf cfS b a = false:=by simpa [ltOf] using h1
  have h2:ltOf cfS c b = false:=by simpa [ltOf] using h2
  have:=swoS.ntrans c b a h2 h1
  simpa [ltOf] using this
 have tot:∀ a b:ASp,((!decide (cfS b a < 0)) || (!decide (cfS a b < 0))) = true:=fun a b=>by
  have h1:=ltS_iff b a
  have h2:=ltS_iff a b
  unfold ltOf at h1 h2
  rw [h1,h2];simp;omega
 have p1:=List.pairwise_mergeSort tr tot K
 have p2:=List.pairwise_mergeSort tr tot L
 refine List.Perm.eq_of_pairwise (fun a b _ _ h1 h2=>?_) p1 p2 ((List.mergeSort_perm _ _).trans (h.trans (List.mergeSort_perm _ _).symm))
 exact totS a b (by simpa [ltOf] using h2) (by simpa [ltOf] using h1)
theorem bounds_graph_reads_t {f:Nat} {caps:List V} (fit:Int→Bool) (hc:∀ σ,rens σ caps = caps) (mv:List AMove) (hfit:∀ x∈mv,PF f (.int .i64 x.h :: caps) (.bool (fit x.h)))
  (p:Int) (w:List Str) (hw:w.length < 2^40) (hmv:mv.length < 2^40) (hK:∀ k,k≤w.length→(readL mv fit (p,17) (w.take k)).length < 2^40) :
  Spec prog n_bounds_graph_reads [.map 0,.int .i64 p,encSs w,.fn (.func f) [] caps] [.map (encGr (fromM mv))] fun x H'=>x = encSps (readsL mv fit p w)∧H' = [.map (encGr (fromM mv))]:=by
 refine bounds_graph_reads_s fit hc mv hfit p w hw hmv hK fun K hK1 hK2=>?_
 have hp:K.Perm (readL mv fit (p,17) w):=(List.perm_ext_iff_of_nodup hK1 (readL_nodup _ _ _ _)).2 hK2
 have:=sortSp_row K (by have:=hK w.length (Nat.le_refl _);rw [List.take_length] at this;rw [hp.length_eq];exact this)
 rw [sortSp_perm hp] at this
 exact this
end Go.Dw
end
section
namespace Go.Dw
theorem slices_IndexFunc_s_bounds_spot_bounds_spot_s {p:ASp→Bool} {g:Nat} {caps:List V} (hc:∀ σ,rens σ caps = caps) (l:List ASp) (hl:l.length < 2^62) (h:∀ a∈l,PF g (encSp a :: caps) (.bool (p a))) :
  PF n_slices_IndexFunc_s_bounds_spot_bounds_spot [encL cSp 2 l,.fn (.func g) [] caps] (.int .i64 (idxI p l)):=by
 refine pf_of slices_IndexFunc_s_bounds_spot_bounds_spot.ok rfl ?_
 push_cast [hc]
 refine loop_up (n:=l.length) (R:=fun k=>(∀ j,j < k→p (l.getD j default) = false)→slices_IndexFunc_s_bounds_spot_bounds_spot.L3 (encL cSp 2 l) (.fn (.func g) [] caps) (.int .i64 l.length) (.int .i64 k) 0 [] _) ?_ ?_ 0 (by omega) (by intro j hj;omega)
 ·intro k hk ih hq
  refine slices_IndexFunc_s_bounds_spot_bounds_spot.G3 ?_
  push_cast [ilt hk,cU8_0,cS_0,hc]
  refine .of (h _ (getD_mem hk)) ?_
  push_cast [w64 (show k < 2^62 by omega),hc]
  refine ⟨fun hp=>pf_ret ?_,fun hp=>?_⟩
  ·push_cast [slices_IndexFunc_s_bounds_spot_bounds_spot.rs]
   rw [idxI_some hk hp hq]
  ·exact ih fun j hj=>by rcases Nat.lt_succ_iff_lt_or_eq.1 hj with h | rfl;exact hq j h;exact hp
 ·intro hq
  refine slices_IndexFunc_s_bounds_spot_bounds_spot.G3 ?_
  push_cast [inlt (Nat.le_refl _)]
  refine pf_ret ?_
  push_cast [slices_IndexFunc_s_bounds_spot_bounds_spot.rs]
  rw [idxI_none hq]
theorem slices_ContainsFunc_s_bounds_spot_bounds_spot_s {p:ASp→Bool} {g:Nat} {caps:List V} (hc:∀ σ,rens σ caps = caps) (l:List ASp) (hl:l.length < 2^62) (h:∀ a∈l,PF g (encSp a :: caps) (.bool (p a))) :
  PF n_slices_ContainsFunc_s_bounds_spot_bounds_spot [encL cSp 2 l,.fn (.func g) [] caps] (.bool (l.any p)):=by
 refine pf_of slices_ContainsFunc_s_bounds_spot_bounds_spot.ok rfl ?_
 push_cast [hc]
 refine .of (slices_IndexFunc_s_bounds_spot_bounds_spot_s hc l hl h) ?_
 push_cast [hc]
 refine pf_ret ?_
 push_cast [slices_ContainsFunc_s_bounds_spot_bounds_spot.rs,idxI_any]
def OkA (mv:List AMove):Prop:=∀ x∈mv,0≤x.dst∧x.dst < 256∧0≤x.h∧x.h≤16
theorem readL_in {mv:List AMove} (ho:OkA mv) (fit:Int→Bool) {p:Int} (hp:0≤p∧p < 256) (w:List Str):∀ s∈readL mv fit (p,17) w,(0≤s.1∧s.1 < 256)∧0≤s.2∧s.2 < 18:=by
 have key:∀ (n:Nat) (w:List Str),w.length = n→∀ s∈readL mv fit (p,17) w,(0≤s.1∧s.1 < 256)∧0≤s.2∧s.2 < 18:=by
  intro n
  induction n with
  | zero =>
   intro w hw s hs
   obtain rfl:=List.eq_nil_of_length_eq_zero hw
   have:s = (p,17):=by simpa [readL] using hs
   rw [this];exact ⟨hp,by simp⟩
  | succ n ih =>
   intro w hw s hs
   rcases List.eq_nil_or_concat w with rfl | ⟨w,c,rfl⟩
   ·simp at hw
   ·rw [List.concat_eq_append] at hs hw
    rw [readL_snoc,nextL_mem] at hs
    obtain ⟨u,hu,hs⟩:=hs
    have hu2:=ih w (by simpa using hw) u hu
    obtain ⟨x,hx,rfl⟩:=List.mem_map.1 hs
    have hxm:=ho x (List.mem_filter.1 (List.mem_filter.1 hx).1).1
    refine ⟨⟨hxm.1,hxm.2.1⟩,?_⟩
    simp only
    split <;> omega
 exact key w.length w rfl
def allSp:List ASp:=(List.range 256).flatMap fun (i:Nat)=>(List.range 18).map fun (j:Nat)=>((i:Int),(j:Int))
theorem allSp_len:allSp.length = 4608:=by
 unfold allSp
 rw [List.length_flatMap]
 simp only [List.length_map,List.length_range]
 decide
theorem readL_len {mv:List AMove} (ho:OkA mv) (fit:Int→Bool) {p:Int} (hp:0≤p∧p < 256) (w:List Str):(readL mv fit (p,17) w).length≤4608:=by
 rw [← allSp_len]
 refine List.Nodup.length_le_of_subset (readL_nodup _ _ _ _) fun s hs=>?_
 obtain ⟨⟨h1,h2⟩,h3,h4⟩:=readL_in ho fit hp w s hs
 unfold allSp
 refine List.mem_flatMap.2 ⟨s.1.toNat,List.mem_range.2 (by omega),List.mem_map.2 ⟨s.2.toNat,List.mem_range.2 (by omega),?_⟩⟩
 rw [Int.toNat_of_nonneg h1,Int.toNat_of_nonneg h3]
theorem readsL_mem {mv:List AMove} {fit:Int→Bool} {p:Int} {w:List Str} {s:ASp}:s∈readsL mv fit p w ↔ s∈readL mv fit (p,17) w:=(List.mergeSort_perm _ _).mem_iff
theorem readsL_len {mv:List AMove} (ho:OkA mv) (fit:Int→Bool) {p:Int} (hp:0≤p∧p < 256) (w:List Str):(readsL mv fit p w).length≤4608:=by
 have:(readsL mv fit p w).length = (readL mv fit (p,17) w).length:=(List.mergeSort_perm _ _).length_eq
 rw [this];exact readL_len ho fit hp w
def linkedM (mv:List AMove) (p q:Int) (w:List Str) (h:Int):Bool:=(readsL mv (fun x=>decide (x = h)) p w).any fun s=>decide (s.1 = q)
theorem graph_linked_1_s (h t:Int):PF n_bounds_graph_linked_1 [.int .i64 h,.ro [.int .i64 t] 0] (.bool (decide (h = t))):=by
 refine pf_of bounds_graph_linked_1.ok rfl ?_
 push_cast
 exact pf_ret (by push_cast [bounds_graph_linked_1.rs])
theorem graph_linked_2_s (s:ASp) (q:Int):PF n_bounds_graph_linked_2 [encSp s,.ro [.int .i64 q] 0] (.bool (decide (s.1 = q))):=by
 refine pf_of bounds_graph_linked_2.ok rfl ?_
 push_cast
 exact pf_ret (by push_cast [bounds_graph_linked_2.rs])
theorem lacks_1_s (h:Int):PF n_bounds_lacks_1 [.int .i64 h] (.bool true):=by
 refine pf_of bounds_lacks_1.ok rfl ?_
 push_cast
 exact pf_ret (by push_cast [bounds_lacks_1.rs])
theorem give_a (a:Ob):give [0] [a] = [renOb (pos? [0]) a]:=rfl
theorem take_a (a b:Ob):takeB [0] [a] [b] = [renOb (back [0] 1) b]:=rfl
theorem bounds_graph_linked_s (mv:List AMove) (ho:OkA mv) (p q:Int) (hp:0≤p∧p < 256) (w:List Str) (h:Int) (hw:w.length < 2^40) (hmv:mv.length < 2^40) :
  Spec prog n_bounds_graph_linked [.map 0,.int .i64 p,.int .i64 q,encSs w,.int .i64 h] [.map (encGr (fromM mv))] fun x H'=>x = .bool (linkedM mv p q w h)∧H' = [.map (encGr (fromM mv))]:=by
 refine spec_of_run mixed bounds_graph_linked.ok rfl ?_
 push_cast
 refine CallG.some [0] (by simp) (by simp) (R:=fun x H'=>x = encSps (readsL mv (fun x=>decide (x = h)) p w)∧H' = [.map (encGr (fromM mv))]) ?_ ?_
 ·have:=bounds_graph_reads_t (f:=n_bounds_graph_linked_1) (caps:=[.ro [.int .i64 h] 0]) (fun x=>decide (x = h)) (fun _=>rfl) mv (fun x _=>graph_linked_1_s x.h h) p w hw hmv (fun k _=>by have:=readL_len ho (fun x=>decide (x = h)) hp (w.take k);omega)
  rw [give_a]
  push_cast
  exact this
 ·rintro x H' ⟨rfl,rfl⟩ _
  rw [take_a]
  push_cast
  refine .of (slices_ContainsFunc_s_bounds_spot_bounds_spot_s (p:=fun s=>decide (s.1 = q)) (fun _=>rfl) _ (by have:=readsL_len ho (fun x=>decide (x = h)) hp w;omega) fun s _=>graph_linked_2_s s q) ?_
  push_cast
  exact ends_keep (H:=[.map (encGr (fromM mv))]) (J:=[]) (n:=1) ⟨rfl,by push_cast⟩ rfl ⟨rfl,rfl⟩
end Go.Dw
end
section
namespace Go.Dw
theorem rens_cRl {σ:Nat→Option Nat} (x:ARl):rens σ (cRl x) = cRl x:=rfl
theorem sub_cRl (x:ARl):sub 0 2 (cRl x) = cRl x:=rfl
theorem sto_cRl (x:ARl):sto (.agg (cRl x)) = some (cRl x):=rfl
attribute [push_cast] rens_cRl sub_cRl sto_cRl
structure AMs where
 p:Int
 q:Int
 h:Int
 word:List Str
 deriving Inhabited,DecidableEq
def cMs (m:AMs):List V:=[.int .i64 m.p,.int .i64 m.q,.int .i64 m.h,encSs m.word]
def encMs (m:AMs):V:=.agg (cMs m)
def spotF (mv:List AMove) (x:ARl) (p:Nat) (s:ASp):Option AMs:=if linkedM mv p s.1 x.right (s.2+1) then none else some ⟨p,s.1,s.2+1,x.right⟩
def stateF (mv:List AMove) (x:ARl) (p:Nat):Option AMs:=(readsL mv (fun _=>true) p x.left).findSome? (spotF mv x p)
def ruleF (mv:List AMove) (S:Nat) (x:ARl):Option AMs:=(List.range S).findSome? (stateF mv x)
def lacksM (mv:List AMove) (S:Nat) (l:List ARl):Option AMs:=l.findSome? (ruleF mv S)
def lackV:Option AMs→V
 | some m=>.tup [encMs m,.bool true]
 | none=>.tup [.agg [.int .i64 0,.int .i64 0,.int .i64 0,.sl 1 []],.bool false]
theorem range_getD {S k:Nat} (h:k < S):(List.range S).getD k default = k:=by simp [List.getD_eq_getElem?_getD,h]
theorem give_b (a b c:Ob):give [1] [a,b,c] = [renOb (pos? [1]) b]:=rfl
theorem take_b (a b c o:Ob):takeB [1] [a,b,c] [o] = [a,renOb (back [1] 3) o,c]:=rfl
theorem give_c (a b c d:Ob):give [1] [a,b,c,d] = [renOb (pos? [1]) b]:=rfl
theorem take_c (a b c d o:Ob):takeB [1] [a,b,c,d] [o] = [a,renOb (back [1] 4) o,c,d]:=rfl
theorem bounds_lacks_s (l:List ARl) (a:AAut) (S:Nat) (hS:a.states = S) (hS2:S≤256) (ho:OkA a.moves) (hmv:a.moves.length < 2^38) (hl:l.length < 2^38) (hw:∀ x∈l,x.left.length < 2^38∧x.right.length < 2^38) :
  PF n_bounds_lacks [encRls l,encAu a] (lackV (lacksM a.moves S l)):=by
 refine pf_of bounds_lacks.ok rfl ?_
 generalize hT:lacksM a.moves S l = T
 push_cast
 have hfr:=bounds_from_s a hmv
 refine CallG.some [] List.nodup_nil (fun i hi=>by cases hi) (R:=fun x H'=>x = .map 0∧H' = [.map (encGr (fromM a.moves))]) (by rw [pos_nil];push_cast;exact hfr) ?_
 rintro x H' ⟨rfl,rfl⟩ _
 rw [takeB_none]
 have hbk:back [] 1 = fun i=>some (1+i):=by funext i;simp [back]
 push_cast [hbk]
 refine loop_up (n:=l.length) (R:=fun k=>(l.drop k).findSome? (ruleF a.moves S) = T→bounds_lacks.L9 (.ro (cAu a) 0) (.ptr 0 0) (.map 1) (encRls l) (.int .i64 l.length) (.int .i64 k) 0 [.cells t_bounds_missing [.int .i64 0,.int .i64 0,.int .i64 0,.sl 1 []],.map (encGr (fromM a.moves))] (Ends 0 bounds_lacks.rs fun x' H'=>x' = lackV T∧H' = [])) ?_ ?_ 0 (Nat.zero_le _) (by rw [List.drop_zero];exact hT)
 ·intro k hk ih hq
  refine bounds_lacks.G9 ?_
  rw [drop_getD hk,List.findSome?_cons] at hq
  have hxm:=getD_mem hk
  generalize hx0:l.getD k default = x at hq hxm
  push_cast [ilt hk,hx0]
  rw [hS]
  obtain ⟨hxl,hxr⟩:=hw x hxm
  generalize hR1:(l.drop (k+1)).findSome? (ruleF a.moves S) = R1 at hq ih
  refine loop_up (n:=S) (R:=fun p=>(match ((List.range S).drop p).findSome? (stateF a.moves x) with | some m=>some m | none=>R1) = T→bounds_lacks.L7 (.ro (cAu a) 0) (.ptr 0 0) (.map 1) (.ro (cRl x) 0) (encRls l) (.int .i64 l.length) (.int .i64 k) (.int .i64 S) (.int .i64 p) 0
   [.cells t_bounds_missing [.int .i64 0,.int .i64 0,.int .i64 0,.sl 1 []],.map (encGr (fromM a.moves)),.dead] (Ends 0 bounds_lacks.rs fun x' H'=>x' = lackV T∧H' = [])) ?_ ?_ 0 (Nat.zero_le _) (by rw [List.drop_zero,← hq];unfold ruleF;cases (List.range S).findSome? (stateF a.moves x) <;> rfl)
  ·intro p hp ih2 hq2
   refine bounds_lacks.G7 ?_
   rw [drop_getD (by simpa using hp),List.findSome?_cons,range_getD hp] at hq2
   push_cast [ilt hp]
   have hpi:0≤(p:Int)∧(p:Int) < 256:=by omega
   refine CallG.some [1] (by simp) (by simp) (R:=fun x' H'=>x' = encSps (readsL a.moves (fun _=>true) p x.left)∧H' = [.map (encGr (fromM a.moves))]) ?_ ?_
   ·rw [give_b]
    push_cast
    exact bounds_graph_reads_t (f:=n_bounds_lacks_1) (caps:=[]) (fun _=>true) (fun _=>rens_nil) a.moves (fun y _=>lacks_1_s y.h) p x.left (by omega) (by omega) (fun j _=>by have:=readL_len ho (fun _=>true) hpi (x.left.take j);omega)
   rintro x' H' ⟨rfl,rfl⟩ _
   rw [take_b]
   have hsl:=readsL_len ho (fun _=>true) hpi x.left
   have hsi:∀ s∈readsL a.moves (fun _=>true) p x.left,0≤s.2∧s.2 < 18:=fun s hs=>(readL_in ho _ hpi _ s (readsL_mem.1 hs)).2
   unfold stateF at hq2
   generalize readsL a.moves (fun _=>true) p x.left = sl at hsl hsi hq2 ⊢
   push_cast
   generalize hR2:(match ((List.range S).drop (p+1)).findSome? (stateF a.moves x) with | some m=>some m | none=>R1) = R2 at ih2
   have hq3:(match sl.findSome? (spotF a.moves x p) with | some m=>some m | none=>R2) = T:=by
    rw [← hq2,← hR2]
    unfold stateF
    cases sl.findSome? (spotF a.moves x p) <;> rfl
   refine loop_up (n:=sl.length) (R:=fun j=>(match (sl.drop j).findSome? (spotF a.moves x p) with | some m=>some m | none=>R2) = T→bounds_lacks.L5 (.ro (cAu a) 0) (.ptr 0 0) (.map 1) (.ro (cRl x) 0) (.int .i64 p) (encRls l) (.int .i64 l.length) (.int .i64 k) (.int .i64 S) (.int .i64 p) (encSps sl) (.int .i64 sl.length) (.int .i64 j) 0
    [.cells t_bounds_missing [.int .i64 0,.int .i64 0,.int .i64 0,.sl 1 []],.map (encGr (fromM a.moves)),.dead] (Ends 0 bounds_lacks.rs fun x' H'=>x' = lackV T∧H' = [])) ?_ ?_ 0 (Nat.zero_le _) (by rw [List.drop_zero];exact hq3)
   ·intro j hj ih3 hq4
    refine bounds_lacks.G5 ?_
    rw [drop_getD hj,List.findSome?_cons] at hq4
    have hsj:=hsi _ (getD_mem hj)
    generalize hs0:sl.getD j default = s at hq4 hsj
    have hw1:IntKind.i64.wrap (s.2+1) = s.2+1:=wrap64 (by omega) (by omega)
    push_cast [ilt hj,hs0,hw1]
    refine CallG.some [1] (by simp) (by simp) (R:=fun x' H'=>x' = .bool (linkedM a.moves p s.1 x.right (s.2+1))∧H' = [.map (encGr (fromM a.moves))]) ?_ ?_
    ·rw [give_c]
     push_cast
     exact bounds_graph_linked_s a.moves ho p s.1 hpi x.right (s.2+1) (by omega) (by omega)
    rintro x' H' ⟨rfl,rfl⟩ _
    rw [take_c]
    cases hlk:linkedM a.moves p s.1 x.right (s.2+1) with
    | true =>
     have hf:spotF a.moves x p s = none:=by unfold spotF;rw [hlk];rfl
     rw [hf] at hq4
     push_cast [w64 (show j < 2^62 by omega)]
     have:=ih3 hq4
     push_cast at this
     exact this
    | false =>
     have hf:spotF a.moves x p s = some ⟨p,s.1,s.2+1,x.right⟩:=by unfold spotF;rw [hlk];rfl
     rw [hf] at hq4
     simp only at hq4
     push_cast [hw1]
     refine pf_ret ?_
     push_cast [bounds_lacks.rs]
     rw [← hq4];rfl
   ·intro hq4
    rw [drop_map_none] at hq4
    refine bounds_lacks.G5 ?_
    push_cast [inlt (Nat.le_refl _),w64 (show p < 2^62 by omega)]
    have:=ih2 hq4
    push_cast at this
    exact this
  ·intro hq2
   have hd:(List.range S).drop S = []:=List.drop_of_length_le (by simp)
   rw [hd] at hq2
   refine bounds_lacks.G7 ?_
   push_cast [inlt (Nat.le_refl _),w64 (show k < 2^62 by omega)]
   have:=ih hq2
   push_cast at this
   exact this
 ·intro hq
  rw [drop_map_none] at hq
  refine bounds_lacks.G9 ?_
  push_cast [inlt (Nat.le_refl _)]
  refine pf_ret ?_
  push_cast [bounds_lacks.rs]
  rw [← hq];rfl
end Go.Dw
end
section
namespace Go.Proofs
open Go.RowKit Go.Shelf Go.Sort
def Tryz.laysComp_ren:Go.Shelf.Ren:=⟨fun | 194=>166 | n=>n,fun | 31=>104 | 9=>9 | 3=>3 | 4=>4 | 0=>0 | n=>n,fun | n=>n⟩
theorem Tryz.laysComp:Go.Proofs.Lays.n194 Tryz.prog Tryz.laysComp_ren:={
 mixed:=by kernel_rfl
 f194:=Tryz.func166.trans (congrArg some (by kernel_rfl))
 t0:=Tryz.underlying0
 a0:=Tryz.isAgg0
 z0:=Tryz.sizeOf0
 v0:=Tryz.zeroValue0
 t3:=Tryz.underlying3
 a3:=Tryz.isAgg3
 z3:=Tryz.sizeOf3
 v3:=Tryz.zeroValue3
 t4:=Tryz.underlying4
 a4:=Tryz.isAgg4
 z4:=Tryz.sizeOf4
 v4:=Tryz.zeroValue4
 t9:=Tryz.underlying9
 a9:=Tryz.isAgg9
 z9:=Tryz.sizeOf9
 v9:=Tryz.zeroValue9
 t31:=Tryz.underlying104
 a31:=Tryz.isAgg104
 z31:=Tryz.sizeOf104
 v31:=Tryz.zeroValue104 }
theorem Tryz.comp_num:Tryz.laysComp_ren.f 194 = Go.Dw.n_slices_Compact_s_string_string:=by kernel_rfl
theorem Tryz.comp_in (args:Array Value) (w:World):(callFunc Go.Dw.n_slices_Compact_s_string_string args).run Tryz.prog w = .ok (.enter Go.Dw.n_slices_Compact_s_string_string args) w:=by
 have:=enters_of (P:=Tryz.prog) Tryz.laysComp.f194 (by kernel_rfl) rfl args w
 rw [Tryz.comp_num] at this
 exact this
theorem Tryz.comp_c (blk off cap:Nat) (zs:List (List UInt8)) (w:World) (hH:Holds encStr w blk off zs.toArray) (hsz:zs.length≤9223372036854775807) (hcap:zs.length≤cap) :
  Calls Tryz.prog Go.Dw.n_slices_Compact_s_string_string #[.slice (some ⟨blk,off,none⟩) zs.length cap] w fun e w' =>
   e = .returned (.slice (some ⟨blk,off,none⟩) (Lib.compact zs).length cap)∧∃ q,w' = putRow encStr (Sort.ahead w q) blk off (Lib.compact zs++List.replicate (zs.length - (Lib.compact zs).length) []).toArray:=by
 have:=calls_of_every_depth fun D=>AnyS.slices_Compact_string_in Tryz.laysComp D blk off cap zs w hH hsz hcap
 rw [Tryz.comp_num] at this
 exact this
theorem Tryz.comp_n (cap:Nat) (w:World):Calls Tryz.prog Go.Dw.n_slices_Compact_s_string_string #[.slice none 0 cap] w fun e w'=>e = .returned (.slice none 0 cap)∧w' = w:=by
 have:=calls_of_every_depth fun D=>AnyS.slices_Compact_string_empty_in Tryz.laysComp D none cap w
 rw [Tryz.comp_num] at this
 exact this
end Go.Proofs
namespace Go.Dw
open Go.Proofs Go.Sort
theorem comp_le (zs:List (List UInt8)):(Lib.compact zs).length≤zs.length:=by
 unfold Lib.compact Lib.compactUpTo
 rw [List.length_map]
 exact Nat.le_trans (List.length_filter_le _ _) (by simp)
theorem put_strs {c:Cx} (hc:Conc c) {l so:List (List UInt8)} {b m n:Nat} {os:Array Obj} {vs:Array Value} (hH:c.H = [.row t_string 1 (l.map fun s=>[V.str s])]) (p1:0 < c.H.length) (hρ:c.ρ 0 = some (b,m)) (hblt:b < c.w.heap.size)
  (r1:c.w.heap[b]? = some (.cells vs t_string (0,0))) (r2:vs.size = m * 1) (r3:(l.map fun s=>[V.str s]).length≤m) (r4:m≤capMax) (r5:∀ o,¬ c.ok b o) (hperm:so.length = l.length) :
  ∃ c':Cx,c'.w = grow (putRow encStr (Sort.ahead c.w n) b 0 so.toArray) os∧c'.H = [.row t_string 1 (so.map fun s=>[V.str s])]∧c'.ok = c.ok∧c'.ρ = c.ρ∧Conc c'∧Fr c c':=by
 generalize hw':grow (putRow encStr (Sort.ahead c.w n) b 0 so.toArray) os = w'
 have hsz:w'.heap.size = c.w.heap.size+os.size:=by subst hw';simp [grow,putRow,mapBlock,Sort.ahead]
 have hoth:∀ b',b' < c.w.heap.size→b' ≠ b→w'.heap[b']? = c.w.heap[b']?:=fun b' h1 h2=>by
  subst hw'
  simp only [grow,putRow,mapBlock,Sort.ahead]
  rw [Array.getElem?_append_left (by simpa using h1),Array.getElem?_modify,if_neg (Ne.symm h2)]
 have hsame:w'.heap[b]? = some (.cells (putCells encStr 0 so.toArray vs) t_string (0,0)):=by
  subst hw'
  simp only [grow,putRow,mapBlock,Sort.ahead]
  rw [Array.getElem?_append_left (by simpa using hblt),Array.getElem?_modify,if_pos rfl,r1]
  rfl
 have howns:∀ b',c.owns b' ↔ b' = b:=fun b'=>by
  constructor
  ·rintro ⟨i,k',h1,h2⟩
   have:i = 0:=by rw [hH] at h1;simpa using h1
   subst this
   rw [hρ] at h2;cases h2;rfl
  ·rintro rfl;exact ⟨0,m,p1,hρ⟩
 refine ⟨⟨w',c.ok,c.ρ,[.row t_string 1 (so.map fun s=>[V.str s])]⟩,rfl,rfl,rfl,rfl,?_,?_⟩
 ·refine ⟨fun i j b1 k1 k2 h1 h2 _ _=>?_,fun b' o h=>?_,fun i o hi=>?_⟩
  ·simp only [List.length_singleton] at h1 h2;omega
  ·have:=hc.okLt _ _ h;show b' < w'.heap.size;omega
  ·cases i with
   | succ i=>simp at hi
   | zero =>
    simp only [List.getElem?_cons_zero,Option.some.injEq] at hi
    subst hi
    refine ⟨fun h=>?_,fun b' k' h=>?_⟩
    ·have h:c.ρ 0 = none:=h
     rw [hρ] at h;cases h
    ·have h:c.ρ 0 = some (b',k'):=h
     rw [hρ] at h;cases h
     refine ⟨putCells encStr 0 so.toArray vs,hsame,by simpa [putCells] using r2,by simpa [hperm] using r3,r4,r5,fun i el hi=>?_⟩
     rw [List.getElem?_map] at hi
     cases hs:so[i]? with
     | none=>rw [hs] at hi;cases hi
     | some s =>
      rw [hs] at hi;cases hi
      refine ⟨rfl,fun j x hx=>?_⟩
      cases j with
      | succ j=>simp at hx
      | zero =>
       simp only [List.getElem?_cons_zero,Option.some.injEq] at hx
       subst hx
       have hil:i < so.length:=(List.getElem?_eq_some_iff.1 hs).1
       have hsi:so[i] = s:=(List.getElem?_eq_some_iff.1 hs).2
       have hiv:i < vs.size:=by rw [List.length_map] at r3;omega
       refine ⟨encStr s,?_,rfl,rfl⟩
       rw [Nat.mul_one,Nat.add_zero]
       simp only [putCells,Array.getElem?_mapIdx,Array.getElem?_eq_getElem hiv,Option.map_some]
       rw [if_pos (by simpa using hil)]
       simp [hil,hsi]
 ·refine ⟨fun _ _ h=>h,fun b' o h=>?_,by show c.w.heap.size≤w'.heap.size;omega,fun _ _ h=>.inl h,fun b' hb hno=>hoth b' hb (fun e=>hno ((howns b').2 e)),fun b' hb=>.inl ?_,fun j o hj=>?_,?_,?_,?_,?_⟩
  ·have hne:b' ≠ b:=fun e=>r5 o (e ▸ h)
   simp only [World.cell?]
   rw [hoth b' (hc.okLt _ _ h) hne]
  ·obtain ⟨i,k',h1,h2⟩:=hb
   exact ⟨i,k',by rw [hH];exact h1,h2⟩
  ·rw [hH] at hj
   cases j with
   | succ j=>simp at hj
   | zero =>
    simp only [List.getElem?_cons_zero,Option.some.injEq] at hj
    subst hj
    exact ⟨_,rfl,rfl,rfl,by simp [hperm],fun _=>rfl⟩
  ·subst hw';rfl
  ·subst hw';rfl
  ·subst hw';rfl
  ·subst hw';exact Nat.le_add_right _ _
theorem comp_row (l:List (List UInt8)):Spec prog n_slices_Compact_s_string_string [.rw 0 1 l.length] [.row t_string 1 (l.map fun s=>[V.str s])] fun x H'=>x = .sl 1 ((Lib.compact l).map fun s=>[V.str s])∧H' = [.dead]:=by
 intro c vs hH hc hr
 obtain ⟨v,vs',rfl,h1,h2⟩:=hr
 have h2:vs' = []:=h2
 subst h2
 left
 have h0:c.H[0]? = some (.row t_string 1 (l.map fun s=>[V.str s])):=by rw [hH];rfl
 obtain ⟨q1,q2⟩:=hc.obj 0 _ h0
 obtain ⟨p1,⟨a,k,p2,p3,p4⟩,p5⟩:=h1
 have hcur:=(p5 _ _ _ h0).2.2 (by simp)
 refine ⟨Tryz.comp_in _ _,?_⟩
 have hcl:=comp_le l
 cases hρ:c.ρ 0 with
 | none =>
  have hl:l = []:=by simpa using q1 hρ
  subst hl
  rw [hρ] at hcur
  have hcur:v = .slice none 0 0:=hcur
  subst hcur
  refine (Tryz.comp_n 0 c.w).mono ?_
  rintro e w' ⟨rfl,rfl⟩
  obtain ⟨f1,f2,f3⟩:=freeze hc h0 (by simp)
  refine ⟨_,.sl 1 [],c.frz 0 1 0,rfl,rfl,⟨rfl,by simp [Cx.frz,hH]⟩,f2,rep_of_prep (c:=c.frz 0 1 0) (f3 _ (by rw [hρ];rfl)),f1⟩
 | some bk =>
  obtain ⟨b,m⟩:=bk
  rw [hρ] at hcur
  have hcur:v = .slice (some ⟨b,0,none⟩) l.length m:=hcur
  subst hcur
  obtain ⟨vs,r1,r2,r3,r4,r5,r6⟩:=q2 b m hρ
  have hblt:b < c.w.heap.size:=(Array.getElem?_eq_some_iff.1 r1).1
  have hcell:∀ j (s:List UInt8),l[j]? = some s→vs[j]? = some (encStr s):=fun j s hj=>by
   obtain ⟨_,hx⟩:=r6 j [V.str s] (by rw [List.getElem?_map,hj];rfl)
   obtain ⟨v,e1,_,e3⟩:=hx 0 _ rfl
   have e3:v = .string ⟨⟨s⟩⟩:=e3
   rw [Nat.mul_one,Nat.add_zero] at e1
   rw [e1,e3]
  have hHolds:Holds encStr c.w b 0 l.toArray:=fun j hj=>by
   have hj:j < l.length:=by simpa using hj
   have hg:l[j]? = some l[j]:=by simp [hj]
   have:=hcell j _ hg
   have hgd:l.toArray[j]! = l[j]:=by simp [hj]
   refine ⟨?_,?_⟩
   ·simp only [World.cell?,r1,Nat.zero_add,hgd]
    exact this
   ·simp [World.frozen?,r1]
  have r3':l.length≤m:=by simpa using r3
  have hm:l.length≤140737488355328:=p3
  refine (Tryz.comp_c b 0 m l c.w hHolds (by omega) r3').mono ?_
  rintro e w' ⟨rfl,q,rfl⟩
  generalize hp:Lib.compact l++List.replicate (l.length - (Lib.compact l).length) [] = p
  have hpl:p.length = l.length:=by rw [← hp];simp;omega
  obtain ⟨c1,t1,t2,t3,t4,t5,t6⟩:=put_strs (so:=p) (n:=q) (os:=#[]) hc hH p1 hρ hblt r1 r2 r3 r4 r5 hpl
  rw [grow_empty] at t1
  have hi1:c1.H[0]? = some (.row t_string 1 (p.map fun s=>[V.str s])):=by rw [t2];rfl
  obtain ⟨f1,f2,f3⟩:=freeze t5 hi1 (by rw [List.length_map,hpl];exact p3)
  rw [List.length_map] at f1 f2 f3
  have hv:=f3 (.slice (some ⟨b,0,none⟩) p.length m) (by rw [t4,hρ];rfl)
  obtain ⟨a',c',b',o',g1,g2,g3,g4,g5,g6⟩:=hv
  simp only [Value.slice.injEq,List.length_map] at g1
  obtain ⟨g1a,_,g1c⟩:=g1
  refine ⟨_,.sl 1 ((Lib.compact l).map fun s=>[V.str s]),c1.frz 0 1 p.length,rfl,t1,⟨rfl,by simp [Cx.frz,t2]⟩,f2,?_,t6.trans f1⟩
  refine rep_of_prep (c:=c1.frz 0 1 p.length) ?_
  have hsub:=prepE_sub (l:=0) (m:=(Lib.compact l).length) g6
  rw [List.drop_zero,Nat.zero_mul,Nat.add_zero,List.map_map] at hsub
  have hpm:(p.map ((rens fun _=>none) ∘ fun s=>[V.str s])).take (Lib.compact l).length = (Lib.compact l).map fun s=>[V.str s]:=by
   rw [← hp,List.map_append,List.take_append_of_le_length (by simp),List.take_of_length_le (by simp)]
   rfl
  rw [hpm] at hsub
  refine ⟨some ⟨b,0,none⟩,m,b',o',by simp,by simp;omega,r4,by simp;unfold maxEls;omega,?_,?_⟩
  ·rcases g5 with h | h
   ·left
    have:p = []:=by simpa using h
    have:l.length = 0:=by rw [← hpl,this];rfl
    have:(Lib.compact l).length = 0:=by omega
    rw [List.eq_nil_of_length_eq_zero this];rfl
   ·right;rw [g1a];exact h
  ·exact hsub
end Go.Dw
end
section
namespace Go.Dw
theorem compact_mem {α:Type} [Inhabited α] [DecidableEq α] {zs:List α} {x:α}:x∈Lib.compact zs ↔ x∈zs:=by
 constructor
 ·intro h
  unfold Lib.compact Lib.compactUpTo at h
  obtain ⟨i,hi,rfl⟩:=List.mem_map.1 h
  have hi':i < zs.length:=List.mem_range.1 (List.mem_filter.1 hi).1
  simp [getElem!_pos,hi']
 ·intro h
  obtain ⟨i,hi,rfl⟩:=List.getElem_of_mem h
  have key:∀ (n i:Nat) (hi:i < zs.length),i = n→zs[i]∈Lib.compact zs:=by
   intro n
   induction n with
   | zero =>
    rintro i hi rfl
    refine List.mem_map.2 ⟨0,List.mem_filter.2 ⟨List.mem_range.2 hi,by simp [Lib.keeps]⟩,by simp [getElem!_pos,hi]⟩
   | succ n ih =>
    rintro i hi rfl
    by_cases e:zs[n+1] = zs[n]'(by omega)
    ·rw [e];exact ih n (by omega) rfl
    ·refine List.mem_map.2 ⟨n+1,List.mem_filter.2 ⟨List.mem_range.2 hi,?_⟩,by simp [getElem!_pos,hi]⟩
     have h1:zs.toArray[n+1]! = zs[n+1]:=by simp [getElem!_pos,hi]
     have h2:zs.toArray[n]! = zs[n]'(by omega):=by
      have:n < zs.length:=by omega
      simp [getElem!_pos,this]
     simp only [Lib.keeps,Nat.add_sub_cancel,h1,h2]
     simpa using e
  exact key i i hi rfl
def allN:List ARl→List Str
 | []=>[]
 | x :: l=>x.left++x.right++allN l
def namesM (l:List ARl):List Str:=Lib.compact (Proofs.sortS (allN l))
theorem allN_append (a b:List ARl):allN (a++b) = allN a++allN b:=by
 induction a with
 | nil=>rfl
 | cons x a ih=>simp [allN,ih]
theorem allN_take (r:List ARl) {k:Nat} (hk:k < r.length):allN (r.take (k+1)) = allN (r.take k)++((r.getD k default).left++(r.getD k default).right):=by
 rw [take_succ_getD hk,allN_append];simp [allN]
theorem namesM_mem {l:List ARl} {n:Str}:n∈namesM l ↔ n∈allN l:=by
 unfold namesM;rw [compact_mem];exact (List.mergeSort_perm _ _).mem_iff
theorem rens_strs2 {σ:Nat→Option Nat} {l:List Str}:(l.map fun s=>[V.str s]).map (rens σ) = l.map fun s=>[V.str s]:=by rw [List.map_map];rfl
theorem bounds_names_s (l:List ARl) (hl:l.length < 2^38) (ho:(allN l).length < 2^38):PF n_bounds_names [encRls l] (encSs (namesM l)):=by
 refine pf_of bounds_names.ok rfl ?_
 push_cast
 refine loop_up (n:=l.length) (R:=fun k=>bounds_names.L3 (.rw 0 1 (allN (l.take k)).length) (encRls l) (.int .i64 l.length) (.int .i64 k) 0 [.row t_string 1 ((allN (l.take k)).map fun s=>[V.str s])] (Ends 0 bounds_names.rs fun x' H'=>x' = encSs (namesM l)∧H' = [])) ?_ ?_ 0 (Nat.zero_le _)
 ·intro k hk ih
  refine bounds_names.G3 ?_
  have htk:=allN_take l hk
  have hle:(allN (l.take (k+1))).length≤(allN l).length:=by
   have h2:=allN_append (l.take (k+1)) (l.drop (k+1))
   rw [List.take_append_drop] at h2
   rw [h2,List.length_append];omega
  generalize hx0:l.getD k default = x at htk
  rw [htk] at ih hle
  generalize allN (l.take k) = A at ih hle ⊢
  simp only [List.length_append] at hle
  have hcs:cS = fun s=>[V.str s]:=rfl
  push_cast [ilt hk,hx0,w64 (show k < 2^62 by omega)]
  simp only [List.length_map]
  refine ⟨⟨trivial,by unfold maxEls;omega⟩,⟨trivial,by unfold maxEls;omega⟩,?_⟩
  rw [hcs,← List.map_append,← List.map_append,rens_strs2]
  rw [List.length_append,List.length_append,← Nat.add_assoc] at ih
  push_cast at ih
  exact ih
 ·refine bounds_names.G3 ?_
  rw [List.take_length]
  push_cast [inlt (Nat.le_refl _)]
  refine CallG.some [0] (by simp) (by simp) (R:=fun x' H'=>x' = .tup []∧H' = [.row t_string 1 ((Proofs.sortS (allN l)).map fun s=>[V.str s])]) ?_ ?_
  ·rw [give_a,renOb_row,rens_strs2]
   push_cast
   exact sort_row (allN l)
  rintro x' H' ⟨rfl,rfl⟩ _
  rw [take_a]
  have hsl:(Proofs.sortS (allN l)).length = (allN l).length:=(List.mergeSort_perm _ _).length_eq
  push_cast [rens_strs2]
  rw [← hsl]
  refine CallG.some [0] (by simp) (by simp) (R:=fun x' H'=>x' = .sl 1 ((namesM l).map fun s=>[V.str s])∧H' = [.dead]) ?_ ?_
  ·rw [give_a,renOb_row,rens_strs2]
   push_cast
   exact comp_row (Proofs.sortS (allN l))
  rintro x' H' ⟨rfl,rfl⟩ _
  rw [take_a]
  push_cast
  refine pf_ret ?_
  push_cast [bounds_names.rs]
  rfl
end Go.Dw
end
section
namespace Go.Dw
namespace idxStr
def nd:Nat→C
 | 0=>.seq (.reg [.mv 4 (.i (-1))]) (.ret)
 | 1=>.gh [.ks 0 [0,1,7,8]] (.m 3)
 | 2=>.seq (.blk 1 (.seq (.reg [.mv 10 (.s 8),.mv 5 (.s 10)]) (.seq (.reg [.mv 11 (.s 1),.mv 12 (.s 0),.mv 13 (.s 5),.ia 14 1 (.s 12) (.s 13),.ld 15 (.s 14),.callv (some 16) (.s 11) [.s 15]]) (.cond (.s 16) (.seq (.reg [.mv 17 (.s 5),.mv 4 (.s 17)]) (.ret)) (.skip))))) (.reg [.bin 18 .add (.s 8) (.i 1),.mv 8 (.s 18)])
 | 3=>.seq (.reg [.bin 9 .lss (.s 8) (.s 7)]) (.seq (.cond (.s 9) (.skip) (.exit 0)) (.n 2))
 | _=>.skip
def body:C:=.seq (.reg [.mv 4 (.i 0)]) (.seq (.seq (.reg [.mv 6 (.s 0),.len 7 (.s 6),.mv 8 (.i 0)]) (.blk 0 (.loop (.n 1)))) (.n 0))
def rs:List RV:=[.t 4]
attribute [push_cast] nd body
theorem ok:okF prog n_slices_IndexFunc_s_string_string nd body 2 rs = true:=by kernel_rfl
abbrev L3 (v0 v1 v7 v8:V) (B:Nat) (H:List Ob) (Q:X→T→List Ob→Prop):Prop:=Run prog nd B [.c (.m 3),.c (.loop (.n 1)),.mk 0,.c (.n 0)] [(0,v0),(1,v1),(7,v7),(8,v8)] H Q
theorem G3 {v0 v1 v7 v8:V} {B:Nat} {H:List Ob} {Q:X→T→List Ob→Prop} (h:Run prog nd B [.c (nd 3),.c (.loop (.n 1)),.mk 0,.c (.n 0)] [(0,v0),(1,v1),(7,v7),(8,v8)] H Q):L3 v0 v1 v7 v8 B H Q:=run_m.2 h
end idxStr
namespace cntStr
def nd (_:Nat):C:=.skip
def body:C:=.seq (.reg [.mv 4 (.c (.bool false))]) (.seq (.reg [.mv 5 (.s 0),.mv 6 (.s 1),.call (some 7) n_slices_IndexFunc_s_string_string [.s 5,.s 6],.bin 8 .geq (.s 7) (.i 0),.mv 4 (.s 8)]) (.ret))
def rs:List RV:=[.t 4]
attribute [push_cast] nd body
theorem ok:okF prog n_slices_ContainsFunc_s_string_string nd body 2 rs = true:=by kernel_rfl
end cntStr
section
variable {p:Str→Bool} {g:Nat} {caps:List V} {H:List Ob} (hc:rens (clip H.length) caps = caps) (hH:H.map (renOb (clip H.length)) = H) (l:List Str) (hl:l.length < 2^62) (h:∀ a∈l,Spec prog g (.str a :: caps) H fun x H'=>x = .bool (p a)∧H' = H)
include hc hH hl h
theorem IndexFunc_str:Spec prog n_slices_IndexFunc_s_string_string [encSs l,.fn (.func g) [] caps] H fun x H'=>x = .int .i64 (idxI p l)∧H' = H:=by
 refine spec_of_run mixed idxStr.ok rfl ?_
 push_cast [hc,hH,List.take_length]
 refine loop_up (n:=l.length) (R:=fun k=>(∀ j,j < k→p (l.getD j default) = false)→idxStr.L3 (encSs l) (.fn (.func g) [] caps) (.int .i64 l.length) (.int .i64 k) H.length H (Ends H.length idxStr.rs fun x H'=>x = .int .i64 (idxI p l)∧H' = H)) ?_ ?_ 0 (Nat.zero_le _) (by intro j hj;omega)
 ·intro k hk ih hq
  refine idxStr.G3 ?_
  have hm:=getD_mem hk
  have hi:p (l.getD k default) = true→idxI p l = k:=fun hp=>idxI_some hk hp hq
  have hn:p (l.getD k default) = false→∀ j,j < k+1→p (l.getD j default) = false:=fun hp j hj=>by
   rcases Nat.lt_succ_iff_lt_or_eq.1 hj with h | rfl
   ·exact hq j h
   ·exact hp
  generalize hx:l.getD k default = a at hm hi hn
  push_cast [ilt hk,hx,cS_0]
  refine CallG.all (R:=fun x H'=>x = .bool (p a)∧H' = H) (h a hm) ?_
  rintro x H' ⟨rfl,rfl⟩
  cases hp:p a with
  | true =>
   push_cast
   exact ends_all (.inl rfl) rfl ⟨by rw [hi hp];rfl,rfl⟩
  | false =>
   push_cast [hc,hH,List.take_length,w64 (show k < 2^62 by omega)]
   have:=ih (hn hp)
   push_cast at this
   exact this
 ·intro hq
  refine idxStr.G3 ?_
  push_cast [inlt (Nat.le_refl _)]
  exact ends_all (.inl rfl) rfl ⟨by rw [idxI_none hq];rfl,rfl⟩
theorem ContainsFunc_str:Spec prog n_slices_ContainsFunc_s_string_string [encSs l,.fn (.func g) [] caps] H fun x H'=>x = .bool (l.any p)∧H' = H:=by
 refine spec_of_run mixed cntStr.ok rfl ?_
 push_cast
 refine CallG.all (R:=fun x H'=>x = .int .i64 (idxI p l)∧H' = H) (IndexFunc_str hc hH l hl h) ?_
 rintro x H' ⟨rfl,rfl⟩
 push_cast
 exact ends_all (.inl rfl) rfl ⟨by push_cast [idxI_any],rfl⟩
end
end Go.Dw
end
section
namespace Go.Dw
abbrev grH (mv:List AMove):List Ob:=[.map (encGr (fromM mv)),.cells t_bounds_graph [.map 0]]
theorem give_g (a b:Ob):give [0] [a,b] = [renOb (pos? [0]) a]:=rfl
theorem take_g (a b o:Ob):takeB [0] [a,b] [o] = [renOb (back [0] 2) o,b]:=rfl
theorem sl_one (n:Str):V.sl 1 [[V.str n]] = encSs [n]:=rfl
theorem loops_1_s (mv:List AMove) (ho:OkA mv) (hmv:mv.length < 2^38) (n:Str):Spec prog n_bounds_loops_1 [.str n,.ptr 1 0] (grH mv) fun x H'=>x = .bool (!linkedM mv 0 0 [n] 0)∧H' = grH mv:=by
 refine spec_of_run mixed bounds_loops_1.ok rfl ?_
 push_cast [sl_one]
 refine CallG.some [0] (by simp) (by simp) (R:=fun x' H'=>x' = .bool (linkedM mv 0 0 [n] 0)∧H' = [.map (encGr (fromM mv))]) ?_ ?_
 ·rw [give_g]
  push_cast
  exact bounds_graph_linked_s mv ho 0 0 (by omega) [n] 0 (by simp) (by omega)
 rintro x' H' ⟨rfl,rfl⟩ _
 rw [take_g]
 push_cast
 exact ends_all (.inl rfl) rfl ⟨rfl,rfl⟩
def loopsM (l:List ARl) (mv:List AMove):Bool:=!(namesM l).any fun n=>!linkedM mv 0 0 [n] 0
theorem bounds_loops_s (l:List ARl) (a:AAut) (ho:OkA a.moves) (hmv:a.moves.length < 2^38) (hl:l.length < 2^38) (hn:(allN l).length < 2^38):PF n_bounds_loops [encRls l,encAu a] (.bool (loopsM l a.moves)):=by
 refine pf_of bounds_loops.ok rfl ?_
 push_cast
 refine CallG.some [] List.nodup_nil (fun i hi=>by cases hi) (R:=fun x H'=>x = .map 0∧H' = [.map (encGr (fromM a.moves))]) (by rw [pos_nil];push_cast;exact bounds_from_s a hmv) ?_
 rintro x H' ⟨rfl,rfl⟩ _
 rw [takeB_none]
 push_cast
 have hnl:(namesM l).length≤(allN l).length:=by
  have:=Go.Dw.comp_le (Proofs.sortS (allN l))
  rw [show (Proofs.sortS (allN l)).length = (allN l).length from (List.mergeSort_perm _ _).length_eq] at this
  exact this
 have hbk:back [] 0 = fun i=>some (0+i):=by funext i;simp [back]
 push_cast [hbk]
 refine .of (bounds_names_s l hl hn) ?_
 push_cast
 refine CallG.all (R:=fun x H'=>x = .bool ((namesM l).any fun n=>!linkedM a.moves 0 0 [n] 0)∧H' = grH a.moves) (ContainsFunc_str (H:=grH a.moves) (caps:=[.ptr 1 0]) rfl (by push_cast) (namesM l) (by omega) fun n _=>loops_1_s a.moves ho hmv n) ?_
 rintro x H' ⟨rfl,rfl⟩
 push_cast
 exact pf_ret (by push_cast [bounds_loops.rs];rfl)
theorem movesE_ok {a:AAut}:∀ {l:List AMove},movesE a l = 0→∀ x∈l,moveE a x = 0
 | [],_,x,hx=>by cases hx
 | y :: l,h,x,hx=>by
  simp only [movesE] at h
  by_cases h1:moveE a y = 0
  ·rw [if_neg (by simp [h1])] at h
   rcases List.mem_cons.1 hx with rfl | hx
   ·exact h1
   ·exact movesE_ok h x hx
  ·rw [if_pos h1] at h;exact absurd h h1
theorem moveE_ok {a:AAut} {x:AMove} (h:moveE a x = 0):(0≤x.src∧x.src < a.states)∧(0≤x.dst∧x.dst < a.states)∧(0≤x.h∧x.h≤a.bound)∧isName x.name true = true:=by
 unfold moveE at h
 split at h
 ·cases h
 ·rename_i h1
  split at h
  ·cases h
  ·rename_i h2
   split at h
   ·rename_i h3;exact ⟨by omega,by omega,by omega,h3⟩
   ·cases h
structure FormOk (a:AAut):Prop where
 st:1≤a.states∧a.states≤256
 bd:0≤a.bound∧a.bound≤16
 len:a.moves.length≤4096
 mv:∀ x∈a.moves,(0≤x.src∧x.src < a.states)∧(0≤x.dst∧x.dst < a.states)∧(0≤x.h∧x.h≤a.bound)∧isName x.name true = true
 ord:inOrder a.moves = true
theorem formE_iff {a:AAut}:formE a = 0 ↔ FormOk a:=by
 unfold formE
 constructor
 ·intro h
  split at h
  ·cases h
  ·rename_i h1
   split at h
   ·cases h
   ·rename_i h2
    split at h
    ·rename_i h3;exact absurd h h3
    ·rename_i h3
     split at h
     ·rename_i h4
      exact ⟨by omega,by omega,by omega,fun x hx=>moveE_ok (movesE_ok (by simpa using h3) x hx),h4⟩
     ·cases h
 ·intro h
  have h1:=h.st
  have h2:=h.bd
  have h3:=h.len
  rw [if_neg (by omega),if_neg (by omega)]
  have h4:∀ l:List AMove,(∀ x∈l,x∈a.moves)→movesE a l = 0:=by
   intro l
   induction l with
   | nil=>intro _;rfl
   | cons x l ih =>
    intro hm
    have hx:=h.mv x (hm x (by simp))
    have:moveE a x = 0:=by unfold moveE;rw [if_neg (by omega),if_neg (by omega),if_pos hx.2.2.2]
    simp only [movesE,this,ne_eq,not_true_eq_false,if_false]
    exact ih fun y hy=>hm y (by simp [hy])
  rw [h4 _ (fun x hx=>hx),if_neg (by simp),if_pos h.ord]
theorem FormOk.okA {a:AAut} (h:FormOk a):OkA a.moves:=fun x hx=>by
 have h1:=h.mv x hx
 have h2:=h.st
 have h3:=h.bd
 omega
def checkB (r:List ARule) (a:AAut):Int :=
 if (systemE r).2 ≠ 0 then (systemE r).2 else if formE a ≠ 0 then formE a else if loopsM (systemE r).1 a.moves = false then 11 else if (lacksM a.moves a.states.toNat (systemE r).1).isSome then 11 else 0
structure Sz (r:List ARule) (a:AAut):Prop where
 r:rbs r < 2^28
 l:a.moves.length < 2^38
 n:∀ x∈a.moves,x.name.length < 2^38
theorem allN_rl:∀ r:List ARule,allN (r.map toRl) = symbolsR r
 | []=>rfl
 | x :: r=>by simp only [List.map_cons,allN,symbolsR,allN_rl r,toRl]
theorem sys_sz {r:List ARule} (hr:rbs r < 2^38):(systemE r).1.length < 2^38∧(allN (systemE r).1).length < 2^38∧∀ x∈(systemE r).1,x.left.length < 2^38∧x.right.length < 2^38:=by
 have hl:=length_le_rbs r
 have hsy:=symbolsR_len r
 unfold systemE
 split
 ·simp [allN]
 ·split
  ·refine ⟨by simp;omega,by rw [allN_rl];omega,fun x hx=>?_⟩
   obtain ⟨y,hy,rfl⟩:=List.mem_map.1 hx
   have hm:=rbs_mem hy
   have h1:=wordT_len _ y.left (Nat.le_refl _)
   have h2:=wordT_len _ y.right (Nat.le_refl _)
   have h4:=size_le_tb y.left
   have h5:=size_le_tb y.right
   simp only [toRl];omega
  ·simp [allN]
theorem bounds_Check_s (r:List ARule) (a:AAut) (hs:Sz r a):PF n_bounds_Check [encRs r,encAu a] (.int .i64 (checkB r a)):=by
 have hr:=hs.r
 refine pf_of bounds_Check.ok rfl ?_
 unfold checkB
 push_cast
 refine .of (bounds_system_s r (by omega)) ?_
 obtain ⟨z1,z2,z3⟩:=sys_sz (r:=r) (by omega)
 generalize systemE r = sy at z1 z2 z3 ⊢
 obtain ⟨l,e⟩:=sy
 simp only at z1 z2 z3 ⊢
 by_cases h1:e = 0
 ·subst h1
  push_cast
  refine .of (bounds_form_s a (by have:=hs.l;omega) (fun x hx=>by have:=hs.n x hx;omega)) ?_
  by_cases h2:formE a = 0
  ·have hf:=formE_iff.1 h2
   have hst:=hf.st
   rw [h2]
   push_cast
   refine .of (bounds_loops_s l a hf.okA hs.l z1 z2) ?_
   cases h3:loopsM l a.moves with
   | false =>
    push_cast
    exact pf_ret (by push_cast [bounds_Check.rs])
   | true =>
    push_cast
    refine .of (bounds_lacks_s l a a.states.toNat (by omega) (by omega) hf.okA hs.l z1 z3) ?_
    cases h4:lacksM a.moves a.states.toNat l with
    | none =>
     push_cast [lackV]
     exact pf_ret (by push_cast [bounds_Check.rs];rfl)
    | some m =>
     have e1:sto (encMs m) = some (cMs m):=rfl
     have e2:(cMs m).length = 4:=rfl
     have e3:∀ σ,ren σ (encMs m) = encMs m:=fun _=>rfl
     have e4:∀ σ,rens σ (cMs m) = cMs m:=fun _=>rfl
     push_cast [lackV,e1,e2,e3,e4]
     exact pf_ret (by push_cast [bounds_Check.rs];rfl)
  ·push_cast [eq_false h2]
   exact pf_ret (by push_cast [bounds_Check.rs])
 ·push_cast [eq_false h1]
  exact pf_ret (by push_cast [bounds_Check.rs])
end Go.Dw
end
section
namespace Go.Dw
theorem sameQ_mv (x y:AMove):sameQ (encMv x) (encMv y) = some (decide (x = y)):=by
 obtain ⟨a,b,c,d⟩:=x
 obtain ⟨a',b',c',d'⟩:=y
 simp only [sameQ,encMv,cMv,sameC,sameK,if_true]
 by_cases h1:a = a'
 ·subst h1
  by_cases h2:b = b'
  ·subst h2
   by_cases h3:c = c'
   ·subst h3
    by_cases h4:d = d'
    ·subst h4;simp
    ·have e:(d == d') = false:=by simpa using h4
     simp [h4,e]
   ·have e:(c == c') = false:=by simpa using h3
    simp [h3,e]
  ·have e:(b == b') = false:=by simpa using h2
   simp [h2,e]
 ·have e:(a == a') = false:=by simpa using h1
  simp [h1,e]
theorem eqsV_mv (x y:AMove):eqsV false [false,false,true,false] (encMv x) (encMv y) = some (.bool (decide (x = y))):=by
 unfold eqsV
 have:shB [false,false,true,false] (encMv x) = true:=rfl
 rw [this,sameQ_mv];rfl
def hasM (mv:List AMove) (x:AMove):Bool:=mv.any fun y=>decide (x = y)
theorem r24_has_s (a:AAut) (x:AMove) (hl:a.moves.length < 2^62):PF n_r24_has [encAu a,encMv x] (.bool (hasM a.moves x)):=by
 refine pf_of r24_has.ok rfl ?_
 push_cast
 refine loop_up (n:=a.moves.length) (R:=fun k=>hasM (a.moves.drop k) x = hasM a.moves x→r24_has.L3 (.ro (cMv x) 0) (encMvs a.moves) (.int .i64 a.moves.length) (.int .i64 k) 0 [] (Ends 0 r24_has.rs fun y H=>y = .bool (hasM a.moves x)∧H = [])) ?_ ?_ 0 (Nat.zero_le _) rfl
 ·intro k hk ih hq
  rw [drop_getD hk] at hq
  refine r24_has.G3 ?_
  generalize hy:a.moves.getD k default = y at hq
  simp only [hasM,List.any_cons] at hq
  by_cases h:x = y
  ·push_cast [ilt hk,hy,eqsV_mv,eq_true h]
   simp only [h,decide_true,Bool.true_or] at hq
   exact pf_ret (by push_cast [r24_has.rs,hasM,h,← hq])
  ·push_cast [ilt hk,hy,eqsV_mv,eq_false h,w64 (show k < 2^62 by omega)]
   simp only [h,decide_false,Bool.false_or] at hq
   have:=ih hq
   push_cast at this
   exact this
 ·intro hq
  rw [drop_map_none] at hq
  refine r24_has.G3 ?_
  push_cast [inlt (Nat.le_refl _)]
  rw [← hq]
  exact pf_ret (by push_cast [r24_has.rs,hasM];rfl)
theorem hasI_mem {l:List Int} {x:Int}:hasI l x = true ↔ x∈l:=by simp [hasI]
def RdOk (mv:List AMove) (h p:Int) (w:List Str) (A:List Int):Prop:=A.Nodup∧∀ y,y∈A ↔ ∃ s∈readL mv (fun x=>decide (x = h)) (p,17) w,s.1 = y
theorem RdOk.len {mv:List AMove} {h p:Int} {w:List Str} {A:List Int} (hA:RdOk mv h p w A) (ho:OkA mv) (hp:0≤p∧p < 256):A.length≤4608:=by
 have h1:=List.Nodup.length_le_of_subset hA.1 (l₂:=(readL mv (fun x=>decide (x = h)) (p,17) w).map (·.1)) fun y hy=>by
  obtain ⟨s,hs,e⟩:=(hA.2 y).1 hy
  exact List.mem_map.2 ⟨s,hs,e⟩
 rw [List.length_map] at h1
 have:=readL_len ho (fun x=>decide (x = h)) hp w;omega
theorem linked_iff {mv:List AMove} {p q:Int} {w:List Str} {h:Int}:linkedM mv p q w h = true ↔ ∃ s∈readL mv (fun x=>decide (x = h)) (p,17) w,s.1 = q:=by
 unfold linkedM
 rw [List.any_eq_true]
 constructor
 ·rintro ⟨s,hs,e⟩;exact ⟨s,readsL_mem.1 hs,by simpa using e⟩
 ·rintro ⟨s,hs,e⟩;exact ⟨s,readsL_mem.2 hs,by simpa using e⟩
theorem nodup_256 {l:List Int} (h:l.Nodup) (hr:∀ y∈l,0≤y∧y < 256):l.length≤256:=by
 have:=List.Nodup.length_le_of_subset h (l₂:=(List.range 256).map fun (i:Nat)=>(i:Int)) fun y hy=>by
  obtain ⟨h1,h2⟩:=hr y hy
  exact List.mem_map.2 ⟨y.toNat,List.mem_range.2 (by omega),by omega⟩
 simpa using this
theorem r24_Reads_s (a:AAut) (ho:OkA a.moves) (p q:Int) (hp:0≤p∧p < 256) (w:List Str) (h:Int) (hw:w.length < 2^40) (hmv:a.moves.length < 2^40) :
  PF n_r24_Reads [encAu a,.int .i64 p,.int .i64 q,encSs w,.int .i64 h] (.bool (linkedM a.moves p q w h)):=by
 refine pf_of r24_Reads.ok rfl ?_
 have h0:(V.sl 1 [[V.int .i64 p]]:V) = encP [p]:=rfl
 push_cast [h0]
 generalize hmvs:a.moves = mv at ho hmv ⊢
 refine loop_up (n:=w.length) (R:=fun k=>∀ A,RdOk mv h p (w.take k) A→r24_Reads.L9 (.int .i64 q) (.int .i64 h) (.ro (cAu a) 0) (encP A) (encSs w) (.int .i64 w.length) (.int .i64 k) 0 [] (Ends 0 r24_Reads.rs fun x H=>x = .bool (linkedM mv p q w h)∧H = [])) ?_ ?_ 0 (Nat.zero_le _) [p] ⟨by simp,fun y=>by simp [readL,eq_comm]⟩
 ·intro k hk ih A hA
  refine r24_Reads.G9 ?_
  have htk:w.take (k+1) = w.take k++[w.getD k default]:=take_succ_getD hk
  generalize hn0:w.getD k default = name at htk
  have hAl:=hA.len ho hp
  push_cast [ilt hk,hn0]
  refine loop_up (n:=A.length) (R:=fun i=>∀ N:List Int,N.Nodup→(∀ y,y∈N ↔ ∃ s∈A.take i,∃ x∈mv,x.src = s∧x.name = name∧x.h = h∧y = x.dst) →
   r24_Reads.L7 (.int .i64 q) (.int .i64 h) (.ro (cAu a) 0) (.str name) (ownL cI 0 1 N) (encSs w) (.int .i64 w.length) (.int .i64 k) (encP A) (.int .i64 A.length) (.int .i64 i) 0 [.arr t_int 1 N.length] (Ends 0 r24_Reads.rs fun x H=>x = .bool (linkedM mv p q w h)∧H = [])) ?_ ?_ 0 (Nat.zero_le _) [] List.nodup_nil (fun y=>by simp)
  ·intro i hi ih2 N hN1 hN2
   refine r24_Reads.G7 ?_
   have hti:A.take (i+1) = A.take i++[A.getD i default]:=take_succ_getD hi
   generalize hs0:A.getD i default = s at hti
   push_cast [ilt hi,hs0,hmvs]
   refine loop_up (n:=mv.length) (R:=fun j=>∀ N:List Int,N.Nodup→(∀ y,y∈N ↔ (∃ s∈A.take i,∃ x∈mv,x.src = s∧x.name = name∧x.h = h∧y = x.dst) ∨ ∃ x∈mv.take j,x.src = s∧x.name = name∧x.h = h∧y = x.dst) →
    r24_Reads.L5 (.int .i64 q) (.int .i64 h) (.ro (cAu a) 0) (.str name) (ownL cI 0 1 N) (.int .i64 s) (encSs w) (.int .i64 w.length) (.int .i64 k) (encP A) (.int .i64 A.length) (.int .i64 i) (encMvs mv) (.int .i64 mv.length) (.int .i64 j) 0 [.arr t_int 1 N.length] (Ends 0 r24_Reads.rs fun x H=>x = .bool (linkedM mv p q w h)∧H = [])) ?_ ?_ 0 (Nat.zero_le _) N hN1 (fun y=>by rw [hN2];simp)
   ·intro j hj ih3 N hN1 hN2
    refine r24_Reads.G5 ?_
    have htj:mv.take (j+1) = mv.take j++[mv.getD j default]:=take_succ_getD hj
    have hxm:=getD_mem hj
    generalize hx0:mv.getD j default = x at htj hxm
    have hw1:=w64 (show j < 2^62 by omega)
    have hNl:N.length≤256:=nodup_256 hN1 fun y hy=>by
     rcases (hN2 y).1 hy with ⟨s,_,x,hx,_,_,_,rfl⟩ | ⟨x,hx,_,_,_,rfl⟩
     ·exact ⟨(ho x hx).1,(ho x hx).2.1⟩
     ·have:=ho x (List.mem_of_mem_take hx);exact ⟨this.1,this.2.1⟩
    have skip:¬ (x.src = s∧x.name = name∧x.h = h∧x.dst ∉ N)→r24_Reads.L5 (.int .i64 q) (.int .i64 h) (.ro (cAu a) 0) (.str name) (ownL cI 0 1 N) (.int .i64 s) (encSs w) (.int .i64 w.length) (.int .i64 k) (encP A) (.int .i64 A.length) (.int .i64 i) (encMvs mv) (.int .i64 mv.length) (.int .i64 ((j:Int)+1)) 0 [.arr t_int 1 N.length] (Ends 0 r24_Reads.rs fun x H=>x = .bool (linkedM mv p q w h)∧H = []):=fun hn=>by
     have:=ih3 N hN1 (fun y=>by
      rw [hN2,htj]
      constructor
      ·rintro (h' | ⟨z,hz,h'⟩)
       ·exact .inl h'
       ·exact .inr ⟨z,List.mem_append_left _ hz,h'⟩
      ·rintro (h' | ⟨z,hz,e1,e2,e3,e4⟩)
       ·exact .inl h'
       ·rcases List.mem_append.1 hz with hz | hz
        ·exact .inr ⟨z,hz,e1,e2,e3,e4⟩
        ·rw [List.mem_singleton.1 hz] at e1 e2 e3 e4
         have hd:x.dst∈N:=Classical.byContradiction fun hc=>hn ⟨e1,e2,e3,hc⟩
         rw [e4];exact (hN2 _).1 hd)
     push_cast at this
     exact this
    by_cases e1:x.src = s
    ·by_cases e2:x.name = name
     ·by_cases e3:x.h = h
      ·push_cast [ilt hj,hx0,e1,e2,e3]
       refine .of (r24_contains_s N x.dst (by omega)) ?_
       cases e4:hasI N x.dst with
       | true =>
        push_cast [hw1]
        exact skip fun hc=>hc.2.2.2 (hasI_mem.1 e4)
       | false =>
        have e4':x.dst ∉ N:=fun hc=>by rw [hasI_mem.2 hc] at e4;cases e4
        have hcI:∀ z:Int,[V.int .i64 z] = cI z:=fun _=>rfl
        have hcI2:∀ σ (z:Int),rens σ (cI z) = cI z:=fun _ _=>rfl
        push_cast [hw1,hcI,hcI2]
        refine ⟨by unfold maxEls;omega,?_⟩
        have:=ih3 (N++[x.dst]) (by rw [List.nodup_append];exact ⟨hN1,by simp,fun a ha b hb e=>e4' (by rw [← List.mem_singleton.1 hb,← e];exact ha)⟩) (fun y=>by
         rw [List.mem_append,hN2,htj]
         constructor
         ·rintro ((h' | ⟨z,hz,h'⟩) | h')
          ·exact .inl h'
          ·exact .inr ⟨z,List.mem_append_left _ hz,h'⟩
          ·exact .inr ⟨x,by simp,e1,e2,e3,List.mem_singleton.1 h'⟩
         ·rintro (h' | ⟨z,hz,f1,f2,f3,f4⟩)
          ·exact .inl (.inl h')
          ·rcases List.mem_append.1 hz with hz | hz
           ·exact .inl (.inr ⟨z,hz,f1,f2,f3,f4⟩)
           ·rw [List.mem_singleton.1 hz] at f4;exact .inr (by simp [f4]))
        rw [List.length_append] at this
        push_cast at this
        exact this
      ·push_cast [ilt hj,hx0,e1,e2,eq_false e3,hw1]
       exact skip fun hc=>e3 hc.2.2.1
     ·push_cast [ilt hj,hx0,e1,eq_false e2,hw1]
      exact skip fun hc=>e2 hc.2.1
    ·push_cast [ilt hj,hx0,eq_false e1,hw1]
     exact skip fun hc=>e1 hc.1
   ·intro N hN1 hN2
    refine r24_Reads.G5 ?_
    push_cast [inlt (Nat.le_refl _),w64 (show i < 2^62 by omega)]
    have:=ih2 N hN1 (fun y=>by
     rw [hN2,List.take_length,hti]
     constructor
     ·rintro (⟨t,ht,h'⟩ | h')
      ·exact ⟨t,List.mem_append_left _ ht,h'⟩
      ·exact ⟨s,by simp,h'⟩
     ·rintro ⟨t,ht,h'⟩
      rcases List.mem_append.1 ht with ht | ht
      ·exact .inl ⟨t,ht,h'⟩
      ·rw [List.mem_singleton.1 ht] at h';exact .inr h')
    push_cast at this
    exact this
  ·intro N hN1 hN2
   refine r24_Reads.G7 ?_
   push_cast [inlt (Nat.le_refl _),w64 (show k < 2^62 by omega)]
   have:=ih N ⟨hN1,fun y=>by
    rw [hN2,List.take_length,htk,readL_snoc]
    constructor
    ·rintro ⟨s,hs,x,hx,e1,e2,e3,rfl⟩
     obtain ⟨u,hu,rfl⟩:=(hA.2 s).1 hs
     refine ⟨(x.dst,if x.h < u.2 then x.h else u.2),nextL_mem.2 ⟨u,hu,List.mem_map.2 ⟨x,List.mem_filter.2 ⟨List.mem_filter.2 ⟨hx,by simp [e1]⟩,by simp [e2,e3]⟩,rfl⟩⟩,rfl⟩
    ·rintro ⟨s,hs,rfl⟩
     obtain ⟨u,hu,hs⟩:=nextL_mem.1 hs
     obtain ⟨x,hx,rfl⟩:=List.mem_map.1 hs
     obtain ⟨hx1,hx2⟩:=List.mem_filter.1 hx
     obtain ⟨hx3,hx4⟩:=List.mem_filter.1 hx1
     simp at hx2 hx4
     exact ⟨u.1,(hA.2 u.1).2 ⟨u,hu,rfl⟩,x,hx3,hx4,hx2.1,hx2.2,rfl⟩⟩
   push_cast at this
   exact this
 ·intro A hA
  refine r24_Reads.G9 ?_
  rw [List.take_length] at hA
  have hAl:=hA.len ho hp
  push_cast [inlt (Nat.le_refl _)]
  refine .of (r24_contains_s A q (by omega)) ?_
  push_cast
  refine pf_ret ?_
  push_cast [r24_Reads.rs]
  have e:hasI A q = true ↔ linkedM mv p q w h = true:=by rw [hasI_mem,hA.2,linked_iff]
  cases h1:hasI A q <;> cases h2:linkedM mv p q w h <;> simp_all
end Go.Dw
end
section
namespace Go.Dw
structure RowsAt (H:List Ob) (i S W:Nat) (M:Nat→Nat→Bool):Prop where
 out:H[i]? = some (.row t_s_bool 1 ((List.range S).map fun q=>[V.rw (i+1+q) 1 W]))
 row:∀ q,q < S→H[i+1+q]? = some (.row t_bool 1 ((List.range W).map fun m=>[V.bool (M q m)]))
theorem getOb_app {H X:List Ob} {i:Nat} {o:Ob} (h:H[i]? = some o):(H++X)[i]? = some o:=by
 rw [List.getElem?_append_left (List.getElem?_eq_some_iff.1 h).1];exact h
theorem RowsAt.app {H:List Ob} {i S W:Nat} {M:Nat→Nat→Bool} (h:RowsAt H i S W M) (X:List Ob):RowsAt (H++X) i S W M:=⟨getOb_app h.out,fun q hq=>getOb_app (h.row q hq)⟩
theorem RowsAt.lt {H:List Ob} {i S W:Nat} {M:Nat→Nat→Bool} (h:RowsAt H i S W M) {q:Nat} (hq:q < S):i+1+q < H.length:=(List.getElem?_eq_some_iff.1 (h.row q hq)).1
theorem RowsAt.setOther {H:List Ob} {i S W j:Nat} {M:Nat→Nat→Bool} {o:Ob} (h:RowsAt H i S W M) (hj:i+S < j):RowsAt (H.set j o) i S W M :=
 ⟨by rw [List.getElem?_set_ne (by omega)];exact h.out,fun q hq=>by rw [List.getElem?_set_ne (by omega)];exact h.row q hq⟩
def setM (M:Nat→Nat→Bool) (q m:Nat):Nat→Nat→Bool:=fun q' m'=>if q' = q∧m' = m then true else M q' m'
theorem brow_get {W m:Nat} {f:Nat→Bool} (h:m < W):((List.range W).map fun m=>[V.bool (f m)])[m]? = some [V.bool (f m)]:=by simp [h]
theorem brow_set {W m:Nat} {f:Nat→Bool} (h:m < W):((List.range W).map fun m=>[V.bool (f m)]).set m [V.bool true] = (List.range W).map fun m'=>[V.bool (if m' = m then true else f m')]:=by
 apply List.ext_getElem (by simp)
 intro n h1 h2
 rw [List.getElem_set]
 by_cases e:m = n
 ·subst e;simp
 ·simp [e,Ne.symm e]
theorem RowsAt.set {H:List Ob} {i S W q m:Nat} {M:Nat→Nat→Bool} (h:RowsAt H i S W M) (hq:q < S) (hm:m < W) :
  RowsAt (H.set (i+1+q) (.row t_bool 1 (((List.range W).map fun m=>[V.bool (M q m)]).set m [V.bool true]))) i S W (setM M q m):=by
 have hl:=h.lt hq
 refine ⟨by rw [List.getElem?_set_ne (by omega)];exact h.out,fun q' hq'=>?_⟩
 by_cases e:q' = q
 ·subst e
  rw [List.getElem?_set_self hl,brow_set hm]
  simp [setM]
 ·rw [List.getElem?_set_ne (by omega),h.row q' hq']
  simp [setM,e]
theorem out_get {i S W q:Nat} (h:q < S):((List.range S).map fun q=>[V.rw (i+1+q) 1 W])[q]? = some [V.rw (i+1+q) 1 W]:=by simp [h]
def outK (i S W k:Nat):List (List V):=(List.range S).map fun q=>if q < k then [V.rw (i+1+q) 1 W] else [V.sl 1 []]
theorem outK_0 (i S W:Nat):outK i S W 0 = List.replicate S [V.sl 1 []]:=by
 apply List.ext_getElem (by simp [outK])
 intro n h1 h2
 simp [outK]
theorem outK_full (i S W:Nat):outK i S W S = (List.range S).map fun q=>[V.rw (i+1+q) 1 W]:=by
 unfold outK
 refine List.map_congr_left fun q hq=>?_
 rw [if_pos (List.mem_range.1 hq)]
theorem outK_len (i S W k:Nat):(outK i S W k).length = S:=by simp [outK]
theorem outK_set {i S W k:Nat} (h:k < S):(outK i S W k).set k (put 0 [V.rw (i+1+k) 1 W] ((outK i S W k).getD k [])) = outK i S W (k+1):=by
 have h1:(outK i S W k).getD k [] = [V.sl 1 []]:=by simp [outK,List.getD_eq_getElem?_getD,h]
 rw [h1]
 apply List.ext_getElem (by simp [outK])
 intro n hn1 hn2
 rw [List.getElem_set]
 by_cases e:k = n
 ·subst e;simp [outK,put_s,put_z]
 ·rw [if_neg e]
  simp only [outK,List.getElem_map,List.getElem_range]
  by_cases e2:n < k
  ·rw [if_pos e2,if_pos (by omega)]
  ·rw [if_neg e2,if_neg (by omega)]
def zrow (W:Nat):Ob:=.row t_bool 1 (List.replicate W [V.bool false])
theorem rows_laid (H0:List Ob) (S W:Nat):RowsAt (H0++.row t_s_bool 1 (outK H0.length S W S) :: List.replicate S (zrow W)) H0.length S W fun _ _=>false:=by
 refine ⟨by rw [List.getElem?_append_right (Nat.le_refl _),Nat.sub_self,outK_full];rfl,fun q hq=>?_⟩
 rw [List.getElem?_append_right (by omega),show H0.length+1+q - H0.length = q+1 by omega,List.getElem?_cons_succ,List.getElem?_replicate,if_pos hq]
 unfold zrow
 congr 2
 apply List.ext_getElem (by simp)
 intro n h1 h2
 simp
end Go.Dw
end
section
namespace Go.Dw
theorem RowsAt.outE {H:List Ob} {i S W:Nat} {M:Nat→Nat→Bool} (h:RowsAt H i S W M):∃ E,H[i]? = some (.row t_s_bool 1 E)∧E.length = S∧∀ q,q < S→E[q]? = some [V.rw (i+1+q) 1 W]:=⟨_,h.out,by simp,fun q hq=>out_get hq⟩
theorem RowsAt.rowE {H:List Ob} {i S W q:Nat} {M:Nat→Nat→Bool} (h:RowsAt H i S W M) (hq:q < S):∃ E,H[i+1+q]? = some (.row t_bool 1 E)∧E.length = W∧(∀ m,m < W→E[m]? = some [V.bool (M q m)]) ∧
  ∀ m,m < W→RowsAt (H.set (i+1+q) (.row t_bool 1 (E.set m (put 0 [V.bool true] (E.getD m []))))) i S W (setM M q m):=by
 refine ⟨_,h.row q hq,by simp,fun m hm=>brow_get hm,fun m hm=>?_⟩
 have:=h.set hq hm
 rw [List.getD_eq_getElem?_getD,brow_get hm]
 rw [Option.getD_some,put_s,put_z]
 exact this
theorem RowsAt.congr {H:List Ob} {i S W:Nat} {M M':Nat→Nat→Bool} (h:RowsAt H i S W M) (hm:∀ q m,q < S→m < W→M q m = M' q m):RowsAt H i S W M':=by
 refine ⟨h.out,fun q hq=>?_⟩
 rw [h.row q hq]
 congr 2
 exact List.map_congr_left fun m hml=>by rw [hm q m hq (List.mem_range.1 hml)]
theorem cap_mn {b h s:Int} (hb:h≤b):(if (if h < s then h else s) < b+1 then (if h < s then h else s) else b+1) = if h < (if s < b+1 then s else b+1) then h else if s < b+1 then s else b+1:=by
 by_cases h1:h < s <;> by_cases h2:s < b+1 <;> simp only [h1,h2,if_true,if_false] <;> (repeat' split) <;> omega
theorem pos_range':∀ (n i d:Nat),d < n→pos? (List.range' i n) (i+d) = some d
 | 0,i,d,h=>by omega
 | n+1,i,d,h=>by
  unfold pos?
  rw [List.range'_succ,List.findIdx?_cons]
  cases d with
  | zero=>simp
  | succ d =>
   have:=pos_range' n (i+1) d (by omega)
   unfold pos? at this
   rw [show i+1+d = i+(d+1) by omega] at this
   rw [this]
   simp
theorem rows_given {H:List Ob} {i S W:Nat} {M:Nat→Nat→Bool} (h:RowsAt H i S W M):RowsAt (give (List.range' i (S+1)) H) 0 S W M∧(give (List.range' i (S+1)) H).length = S+1:=by
 have hg:∀ d,d < S+1→(give (List.range' i (S+1)) H)[d]? = some (renOb (pos? (List.range' i (S+1))) (H.getD (i+d) .dead)):=fun d hd=>by
  unfold give
  rw [List.getElem?_map,List.getElem?_range' hd];simp
 refine ⟨⟨?_,fun q hq=>?_⟩,by simp [give]⟩
 ·rw [hg 0 (by omega),List.getD_eq_getElem?_getD]
  simp only [Nat.add_zero,h.out]
  simp only [Option.getD_some,renOb_row,List.map_map]
  congr 2
  refine List.map_congr_left fun q hq=>?_
  have hq:=List.mem_range.1 hq
  simp only [Function.comp,rens_cons,rens_nil,ren_rw]
  rw [show i+1+q = i+(1+q) by omega,pos_range' (S+1) i (1+q) (by omega),Nat.zero_add]
 ·rw [show 0+1+q = 1+q by omega,hg (1+q) (by omega),List.getD_eq_getElem?_getD,show i+(1+q) = i+1+q by omega,h.row q hq]
  simp only [Option.getD_some,renOb_row,List.map_map]
  congr 2
def reachB (mv:List AMove) (p:Int) (w:List Str) (b:Int) (q m:Nat):Bool:=(readL mv (fun _=>true) (p,17) w).any fun s=>decide (s.1 = q) && decide ((if s.2 < b+1 then s.2 else b+1) = m)
theorem r24_Reach_s (a:AAut) (ho:OkA a.moves) (S W p:Nat) (hS:a.states = S) (hS2:S≤256) (hW:a.bound+2 = W) (hW2:W≤18) (hp:p < S) (hb:0≤a.bound) (hm:∀ x∈a.moves,(0≤x.src∧x.src < S)∧(0≤x.dst∧x.dst < S)∧0≤x.h∧x.h≤a.bound)
  (w:List Str) (hw:w.length < 2^40) (hmv:a.moves.length < 2^40) :
  Spec prog n_r24_Reach [encAu a,.int .i64 p,encSs w] [] fun x H'=>x = .rw 0 1 S∧H'.length = S+1∧RowsAt H' 0 S W (reachB a.moves p w a.bound):=by
 refine spec_of_run mixed r24_Reach.ok rfl ?_
 have hmk:(0≤(S:Int)) = True:=eq_true (by omega)
 have hmk2:(S≤maxEls) = True:=eq_true (by unfold maxEls;omega)
 have hmk3:(S * 24≤maxEls) = True:=eq_true (by unfold maxEls;omega)
 have hmk4:(W≤maxEls) = True:=eq_true (by unfold maxEls;omega)
 have hmk5:(0≤(W:Int)) = True:=eq_true (by omega)
 have hw2:IntKind.i64.wrap (a.bound+2) = W:=by rw [wrap64 (by omega) (by omega)];exact hW
 push_cast [hS,hmk,hmk2,hmk3]
 have hrep:∀ k,List.replicate k (zrow W)++[zrow W] = List.replicate (k+1) (zrow W):=fun k=>(List.replicate_succ' ..).symm
 have hz:Ob.row t_bool 1 (List.replicate W [V.bool false]) = zrow W:=rfl
 rw [← outK_0 0 S W]
 refine loop_up (n:=S) (R:=fun k=>r24_Reach.L18 (.int .i64 p) (encSs w) (.ro (cAu a) 0) (.rw 0 1 S) (.int .i64 S) (.int .i64 k) 0 (.row t_s_bool 1 (outK 0 S W k) :: List.replicate k (zrow W))
  (Ends 0 r24_Reach.rs fun x H'=>x = .rw 0 1 S∧H'.length = S+1∧RowsAt H' 0 S W (reachB a.moves p w a.bound))) ?_ ?_ 0 (Nat.zero_le _)
 ·intro k hk ih
  refine r24_Reach.G18 ?_
  have hos:(outK 0 S W k).set k (put 0 [V.rw (k+1) 1 W] ((outK 0 S W k).getD k [])) = outK 0 S W (k+1):=by
   have:=outK_set (i:=0) (W:=W) hk
   rw [show 0+1+k = k+1 by omega] at this
   exact this
  push_cast [ilt hk,hw2,hmk4,hmk5,hz,hrep,outK_len,List.length_replicate,Nat.mul_one,hk,hos,w64 (show k < 2^62 by omega)]
  exact ih
 ·have hRl:=rows_laid [] S W
  have hHl:(Ob.row t_s_bool 1 (outK 0 S W S) :: List.replicate S (zrow W)).length = S+1:=by simp
  rw [List.nil_append,List.length_nil] at hRl
  generalize Ob.row t_s_bool 1 (outK 0 S W S) :: List.replicate S (zrow W) = H at hRl hHl
  refine r24_Reach.G18 ?_
  obtain ⟨E,e1,e2,e3⟩:=hRl.outE
  obtain ⟨F,f1,f2,f3,f4⟩:=hRl.rowE hp
  have hpS:((p:Int) < (S:Int)) = True:=eq_true (by omega)
  have hp0:(0≤(p:Int)) = True:=eq_true (by omega)
  have hwb:IntKind.i64.wrap (a.bound+1) = ((W - 1:Nat):Int):=by rw [wrap64 (by omega) (by omega)];omega
  have hW1:(((W - 1:Nat):Int) < (W:Int)) = True:=eq_true (by omega)
  have hW10:(0≤((W - 1:Nat):Int)) = True:=eq_true (by omega)
  have hW1n:W - 1 < W:=by omega
  have hst:=f4 (W - 1) hW1n
  generalize W - 1 = W1 at hwb hW1 hW10 hW1n hst
  push_cast [inlt (Nat.le_refl _),hpS,hp0,e1,e2,e3 p hp,hwb,hW1,hW10,f1,f2,hW1n,hp]
  rw [Nat.zero_add] at hst
  generalize H.set (1+p) (Ob.row t_bool 1 (F.set W1 (put 0 [V.bool true] (F.getD W1 [])))) = H1 at hst
  have hW1e:((W1:Nat):Int) = a.bound+1:=by rw [← hwb,wrap64 (by omega) (by omega)]
  generalize hmvs:a.moves = mv at ho hm hmv ⊢
  generalize hbd:a.bound = b at hW hb hm hW1e hw2 ⊢
  refine loop_up (n:=w.length) (R:=fun k=>∀ (H:List Ob) (i:Nat) (M:Nat→Nat→Bool),RowsAt H i S W M→(∀ q m,q < S→m < W→(M q m = true ↔ ∃ s∈readL mv (fun _=>true) ((p:Int),17) (w.take k),s.1 = q∧(if s.2 < b+1 then s.2 else b+1) = m)) →
   r24_Reach.L14 (.ro (cAu a) 0) (.rw i 1 S) (encSs w) (.int .i64 w.length) (.int .i64 k) 0 H (Ends 0 r24_Reach.rs fun x H'=>x = .rw 0 1 S∧H'.length = S+1∧RowsAt H' 0 S W (reachB mv p w b))) ?_ ?_ 0 (Nat.zero_le _) H1 0 _ hst ?_
  ·intro k hk ih H i M hR hM
   refine r24_Reach.G14 ?_
   have htk:w.take (k+1) = w.take k++[w.getD k default]:=take_succ_getD hk
   generalize hn0:w.getD k default = name at htk
   push_cast [ilt hk,hn0,hS,hmk,hmk2,hmk3]
   rw [← outK_0 H.length S W]
   refine loop_up (n:=S) (R:=fun j=>r24_Reach.L12 (.ro (cAu a) 0) (.rw i 1 S) (.str name) (.rw H.length 1 S) (encSs w) (.int .i64 w.length) (.int .i64 k) (.int .i64 S) (.int .i64 j) 0 (H++.row t_s_bool 1 (outK H.length S W j) :: List.replicate j (zrow W))
    (Ends 0 r24_Reach.rs fun x H'=>x = .rw 0 1 S∧H'.length = S+1∧RowsAt H' 0 S W (reachB mv p w b))) ?_ ?_ 0 (Nat.zero_le _)
   ·intro j hj ih2
    refine r24_Reach.G12 ?_
    have hos:(outK H.length S W j).set j (put 0 [V.rw (H.length+(j+1)) 1 W] ((outK H.length S W j).getD j [])) = outK H.length S W (j+1):=by
     have:=outK_set (i:=H.length) (W:=W) hj
     rw [show H.length+1+j = H.length+(j+1) by omega] at this
     exact this
    have hg:∀ o R,(H++o :: R)[H.length]? = some o:=fun o R=>by rw [List.getElem?_append_right (Nat.le_refl _),Nat.sub_self];rfl
    have hsr:∀ (o o':Ob) R,(H++o :: R).set H.length o' = H++o' :: R:=fun o o' R=>by rw [List.set_append_right _ _ (Nat.le_refl _),Nat.sub_self];rfl
    push_cast [ilt hj,hbd,hw2,hmk4,hmk5,hz,hrep,outK_len,List.length_replicate,Nat.mul_one,hj,hg,hsr,hos,w64 (show j < 2^62 by omega)]
    exact ih2
   ·refine r24_Reach.G12 ?_
    have hR1:=hR.app (Ob.row t_s_bool 1 (outK H.length S W S) :: List.replicate S (zrow W))
    have hR2:=rows_laid H S W
    have hlt:i+S < H.length:=by
     have h1:=hR.lt (q:=S - 1) (by omega)
     omega
    generalize H.length = N at hR1 hR2 hlt ⊢
    generalize H++Ob.row t_s_bool 1 (outK N S W S) :: List.replicate S (zrow W) = H2 at hR1 hR2 ⊢
    push_cast [inlt (Nat.le_refl _),hmvs]
    refine loop_up (n:=mv.length) (R:=fun j=>∀ (H:List Ob) (M2:Nat→Nat→Bool),RowsAt H i S W M→RowsAt H N S W M2→(∀ q m,q < S→m < W→(M2 q m = true ↔ ∃ x∈mv.take j,x.name = name∧∃ t,t < W∧M x.src.toNat t = true∧x.dst = q∧(if x.h < t then x.h else t) = m)) →
     r24_Reach.L8 (.ro (cAu a) 0) (.rw i 1 S) (.str name) (.rw N 1 S) (encSs w) (.int .i64 w.length) (.int .i64 k) (encMvs mv) (.int .i64 mv.length) (.int .i64 j) 0 H (Ends 0 r24_Reach.rs fun x H'=>x = .rw 0 1 S∧H'.length = S+1∧RowsAt H' 0 S W (reachB mv p w b))) ?_ ?_ 0 (Nat.zero_le _) H2 _ hR1 hR2 (fun q m _ _=>by simp)
    ·intro j hj ih3 H M2 hR hR2 hM2
     refine r24_Reach.G8 ?_
     have htj:mv.take (j+1) = mv.take j++[mv.getD j default]:=take_succ_getD hj
     have hxm:=getD_mem hj
     generalize hx0:mv.getD j default = x at htj hxm
     have hw1:=w64 (show j < 2^62 by omega)
     by_cases hnm:x.name = name
     ·obtain ⟨⟨s1,s2⟩,⟨d1,d2⟩,t1,t2⟩:=hm x hxm
      have hsn:x.src.toNat < S:=by omega
      have hdn:x.dst.toNat < S:=by omega
      have hRd:=hR.app [Ob.dead]
      have hRd2:=hR2.app [Ob.dead]
      obtain ⟨E,e1,e2,e3⟩:=hRd.outE
      push_cast [ilt hj,hx0,hnm,set_last,get_last,eq_true s1,eq_true s2,e1,e2,e3 _ hsn,hsn]
      generalize H++[Ob.dead] = H3 at hRd hRd2
      refine loop_up (n:=W) (R:=fun t=>∀ (H:List Ob) (M2:Nat→Nat→Bool),RowsAt H i S W M→RowsAt H N S W M2→(∀ q m,q < S→m < W→(M2 q m = true ↔ (∃ x∈mv.take j,x.name = name∧∃ t,t < W∧M x.src.toNat t = true∧x.dst = q∧(if x.h < t then x.h else t) = m) ∨ ∃ t',t' < t∧M x.src.toNat t' = true∧x.dst = q∧(if x.h < t' then x.h else t') = m)) →
       r24_Reach.L5 (.ro (cAu a) 0) (.rw i 1 S) (.str name) (.rw N 1 S) (.ro (cMv x) 0) (encSs w) (.int .i64 w.length) (.int .i64 k) (encMvs mv) (.int .i64 mv.length) (.int .i64 j) (.rw (i+1+x.src.toNat) 1 W) (.int .i64 W) (.int .i64 t) 0 H
        (Ends 0 r24_Reach.rs fun x H'=>x = .rw 0 1 S∧H'.length = S+1∧RowsAt H' 0 S W (reachB mv p w b))) ?_ ?_ 0 (Nat.zero_le _) H3 M2 hRd hRd2 (fun q m hq hml=>by rw [hM2 q m hq hml];simp)
      ·intro t ht ih4 H M2 hR hR2 hM2
       refine r24_Reach.G5 ?_
       obtain ⟨F,f1,f2,f3,_⟩:=hR.rowE hsn
       have hwt:=w64 (show t < 2^62 by omega)
       cases hMt:M x.src.toNat t with
       | false =>
        have f3t:=f3 t ht
        rw [hMt] at f3t
        push_cast [ilt ht,ht,f1,f2,f3t,hwt]
        have:=ih4 H M2 hR hR2 (fun q m hq hml=>by
         rw [hM2 q m hq hml]
         refine or_congr Iff.rfl ⟨fun ⟨t',h1,h2⟩=>⟨t',by omega,h2⟩,fun ⟨t',h1,h2,h3⟩=>?_⟩
         by_cases e:t' = t
         ·subst e;rw [hMt] at h2;cases h2
         ·exact ⟨t',by omega,h2,h3⟩)
        push_cast at this
        exact this
       | true =>
        have f3t:=f3 t ht
        rw [hMt] at f3t
        obtain ⟨E2,g1,g2,g3⟩:=hR2.outE
        obtain ⟨G,q1,q2,q3,q4⟩:=hR2.rowE hdn
        obtain ⟨mm,hmm⟩:∃ mm,(if x.h < (t:Int) then x.h else (t:Int)) = mm:=⟨_,rfl⟩
        have hm0:0≤mm:=by rw [← hmm];split <;> omega
        have hm1:mm < W:=by rw [← hmm];split <;> omega
        have hmn:mm.toNat < W:=by omega
        push_cast [ilt ht,ht,f1,f2,f3t,hwt,g1,g2,g3 _ hdn,hdn,eq_true d1,eq_true d2,hmm,eq_true hm0,eq_true hm1,q1,q2,hmn]
        have:=ih4 _ (setM M2 x.dst.toNat mm.toNat) (hR.setOther (j:=N+1+x.dst.toNat) (by omega)) (q4 _ hmn) (fun q m hq hml=>by
         unfold setM
         constructor
         ·intro h
          split at h
          ·rename_i h1
           exact .inr ⟨t,by omega,hMt,by omega,by rw [hmm];omega⟩
          ·rcases (hM2 q m hq hml).1 h with h | ⟨t',h1,h2⟩
           ·exact .inl h
           ·exact .inr ⟨t',by omega,h2⟩
         ·rintro (h | ⟨t',h1,h2,h3,h4⟩)
          ·split
           ·rfl
           ·exact (hM2 q m hq hml).2 (.inl h)
          ·by_cases e:t' = t
           ·subst e
            rw [hmm] at h4
            rw [if_pos ⟨by omega,by omega⟩]
           ·split
            ·rfl
            ·exact (hM2 q m hq hml).2 (.inr ⟨t',by omega,h2,h3,h4⟩))
        push_cast at this
        exact this
      ·intro H M2 hR hR2 hM2
       refine r24_Reach.G5 ?_
       push_cast [inlt (Nat.le_refl _),hw1]
       have:=ih3 H M2 hR hR2 (fun q m hq hml=>by
        rw [hM2 q m hq hml,htj]
        constructor
        ·rintro (⟨y,hy,h⟩ | h)
         ·exact ⟨y,List.mem_append_left _ hy,h⟩
         ·exact ⟨x,by simp,hnm,h⟩
        ·rintro ⟨y,hy,h1,h2⟩
         rcases List.mem_append.1 hy with hy | hy
         ·exact .inl ⟨y,hy,h1,h2⟩
         ·rw [List.mem_singleton.1 hy] at h2;exact .inr h2)
       push_cast at this
       exact this
     ·push_cast [ilt hj,hx0,eq_false hnm,set_last,get_last,hw1]
      have:=ih3 (H++[.dead]) M2 (hR.app _) (hR2.app _) (fun q m hq hm'=>by
       rw [hM2 q m hq hm',htj]
       constructor
       ·rintro ⟨y,hy,h⟩;exact ⟨y,List.mem_append_left _ hy,h⟩
       ·rintro ⟨y,hy,h1,h2⟩
        rcases List.mem_append.1 hy with hy | hy
        ·exact ⟨y,hy,h1,h2⟩
        ·rw [List.mem_singleton.1 hy] at h1;exact absurd h1 hnm)
      push_cast at this
      exact this
    ·intro H M2 hR hR2 hM2
     refine r24_Reach.G8 ?_
     push_cast [inlt (Nat.le_refl _),w64 (show k < 2^62 by omega)]
     have:=ih H N M2 hR2 (fun q m hq hml=>by
      rw [hM2 q m hq hml,List.take_length,htk,readL_snoc]
      constructor
      ·rintro ⟨x,hx,h1,t,ht,h2,h3,h4⟩
       obtain ⟨⟨s1,s2⟩,⟨d1,d2⟩,t1,t2⟩:=hm x hx
       obtain ⟨s,hs,f1,f2⟩:=(hM x.src.toNat t (by omega) ht).1 h2
       refine ⟨(x.dst,if x.h < s.2 then x.h else s.2),nextL_mem.2 ⟨s,hs,List.mem_map.2 ⟨x,List.mem_filter.2 ⟨List.mem_filter.2 ⟨hx,by simp;omega⟩,by simp [h1]⟩,rfl⟩⟩,h3,?_⟩
       rw [cap_mn t2,f2];exact h4
      ·rintro ⟨s,hs,f1,f2⟩
       obtain ⟨u,hu,hs⟩:=nextL_mem.1 hs
       obtain ⟨x,hx,rfl⟩:=List.mem_map.1 hs
       obtain ⟨hx1,hx2⟩:=List.mem_filter.1 hx
       obtain ⟨hx3,hx4⟩:=List.mem_filter.1 hx1
       simp at hx2 hx4
       obtain ⟨⟨s1,s2⟩,⟨d1,d2⟩,t1,t2⟩:=hm x hx3
       have hu2:=(readL_in ho _ (show 0≤(p:Int)∧(p:Int) < 256 by omega) _ u hu).2
       refine ⟨x,hx3,hx2,(if u.2 < b+1 then u.2 else b+1).toNat,by split <;> omega,(hM _ _ (by omega) (by split <;> omega)).2 ⟨u,hu,by omega,by split <;> omega⟩,f1,?_⟩
       simp only at f2
       rw [cap_mn t2] at f2
       rw [← f2,Int.toNat_of_nonneg (by split <;> omega)])
     push_cast at this
     exact this
  ·intro H i M hR hM
   refine r24_Reach.G14 ?_
   rw [List.take_length] at hM
   push_cast [inlt (Nat.le_refl _)]
   have hl:i+1+S≤H.length:=by
    have:=hR.lt (q:=S - 1) (by omega)
    omega
   obtain ⟨k1,k2⟩:=rows_given hR
   refine ends_ex (.inl rfl) (List.range' i (S+1)) (x:=.rw i 1 S) (by simp [List.nodup_range']) (fun j hj=>by have:=List.mem_range'_1.1 hj;omega) rfl ⟨?_,?_,?_⟩
   ·rw [List.range_zero,List.nil_append]
    have h0:=pos_range' (S+1) i 0 (by omega)
    simp only [Nat.add_zero] at h0
    rw [ren_rw,h0]
   ·rw [List.range_zero,List.nil_append];exact k2
   ·rw [List.range_zero,List.nil_append]
    refine k1.congr fun q m hq hml=>?_
    have e:M q m = true ↔ reachB mv p w b q m = true:=by
     rw [hM q m hq hml]
     unfold reachB
     rw [List.any_eq_true]
     constructor
     ·rintro ⟨s,hs,h1,h2⟩;exact ⟨s,hs,by simp [h1,h2]⟩
     ·rintro ⟨s,hs,h⟩
      rw [Bool.and_eq_true,decide_eq_true_eq,decide_eq_true_eq] at h
      exact ⟨s,hs,h⟩
    cases h1:M q m <;> cases h2:reachB mv p w b q m <;> simp_all
  ·intro q m hq hml
   simp only [setM,List.take_zero,readL,List.foldl_nil,List.mem_singleton]
   constructor
   ·intro h
    split at h
    ·rename_i h1;exact ⟨_,rfl,by simp [h1.1],by simp only;rw [h1.2];split <;> omega⟩
    ·cases h
   ·rintro ⟨s,rfl,h1,h2⟩
    simp only at h1 h2
    rw [if_pos ⟨by omega,by split at h2 <;> omega⟩]
end Go.Dw
end
section
namespace Go.Dw
theorem RowsAt.shift {H:List Ob} {S W:Nat} {M:Nat→Nat→Bool} (h:RowsAt H 0 S W M) (P:List Ob):RowsAt (P++H.map (renOb fun i=>some (P.length+i))) P.length S W M:=by
 refine ⟨?_,fun q hq=>?_⟩
 ·rw [List.getElem?_append_right (Nat.le_refl _),Nat.sub_self,List.getElem?_map,h.out]
  simp only [Option.map_some,renOb_row,List.map_map]
  congr 2
  refine List.map_congr_left fun q hq=>?_
  simp only [Function.comp,rens_cons,rens_nil,ren_rw]
  rw [show P.length+(0+1+q) = P.length+1+q by omega]
 ·rw [List.getElem?_append_right (by omega),show P.length+1+q - P.length = 0+1+q by omega,List.getElem?_map,h.row q hq]
  simp only [Option.map_some,renOb_row,List.map_map]
  congr 2
def cellB (mv:List AMove) (b:Int) (x:ARule) (p q m:Nat):Bool:=!reachB mv p (wordT x.left).1 b q m || linkedM mv p q (wordT x.right).1 (m+1)
def stateB (mv:List AMove) (b:Int) (S W:Nat) (x:ARule) (p:Nat):Bool:=(List.range S).all fun q=>(List.range W).all fun m=>cellB mv b x p q m
def ruleB (mv:List AMove) (b:Int) (S W:Nat) (x:ARule):Bool:=(List.range S).all fun p=>stateB mv b S W x p
def compM (mv:List AMove) (b:Int) (S W:Nat) (r:List ARule):Bool:=((symbolsR r).all fun s=>hasM mv ⟨0,0,s,0⟩) && r.all (ruleB mv b S W)
theorem r24_Compatible_s (r:List ARule) (hr:rbs r < 2^28) (a:AAut) (hf:FormOk a) (S W:Nat) (hS:a.states = S) (hW:a.bound+2 = W) :
  PF n_r24_Compatible [encRs r,encAu a] (.bool (compM a.moves a.bound S W r)):=by
 have ho:=hf.okA
 have hst:=hf.st
 have hbd:=hf.bd
 have hln:=hf.len
 have hl:=length_le_rbs r
 have hsy:=symbolsR_len r
 refine pf_of r24_Compatible.ok rfl ?_
 unfold compM
 generalize hT:(((symbolsR r).all fun s=>hasM a.moves ⟨0,0,s,0⟩) && r.all (ruleB a.moves a.bound S W)) = T
 push_cast
 refine .of (r24_Symbols_s r (by omega)) ?_
 generalize symbolsR r = sy at hsy hT ⊢
 push_cast
 refine loop_up (n:=sy.length) (R:=fun k=>(((sy.drop k).all fun s=>hasM a.moves ⟨0,0,s,0⟩) && r.all (ruleB a.moves a.bound S W)) = T→r24_Compatible.L16 (encRs r) (.ro (cAu a) 0) (encSs sy) (.int .i64 sy.length) (.int .i64 k) 0 [] (Ends 0 r24_Compatible.rs fun x' H'=>x' = .bool T∧H' = [])) ?_ ?_ 0 (Nat.zero_le _) (by rw [List.drop_zero];exact hT)
 ·intro k hk ih hq
  rw [drop_getD hk,List.all_cons] at hq
  refine r24_Compatible.G16 ?_
  generalize hx0:sy.getD k default = s at hq
  have hmv0:∀ s,V.agg [V.int .i64 0,V.int .i64 0,V.str s,V.int .i64 0] = encMv ⟨0,0,s,0⟩:=fun _=>rfl
  push_cast [ilt hk,hx0,hmv0]
  refine .of (r24_has_s a ⟨0,0,s,0⟩ (by omega)) ?_
  cases hh:hasM a.moves ⟨0,0,s,0⟩ with
  | false =>
   rw [hh] at hq
   push_cast
   exact pf_ret (by push_cast [r24_Compatible.rs];simpa using hq)
  | true =>
   rw [hh] at hq
   push_cast [w64 (show k < 2^62 by omega)]
   have:=ih (by simpa using hq)
   push_cast at this
   exact this
 ·intro hq
  rw [drop_map_none] at hq
  simp only [List.all_nil,Bool.true_and] at hq
  refine r24_Compatible.G16 ?_
  push_cast [inlt (Nat.le_refl _)]
  refine loop_up (n:=r.length) (R:=fun k=>(r.drop k).all (ruleB a.moves a.bound S W) = T→r24_Compatible.L12 (.ro (cAu a) 0) (encRs r) (.int .i64 r.length) (.int .i64 k) 0 [] (Ends 0 r24_Compatible.rs fun x' H'=>x' = .bool T∧H' = [])) ?_ ?_ 0 (Nat.zero_le _) (by rw [List.drop_zero];exact hq)
  ·intro k hk ih hq
   rw [drop_getD hk,List.all_cons] at hq
   refine r24_Compatible.G12 ?_
   have hmm:=rbs_mem (getD_mem hk)
   generalize hx0:r.getD k default = x at hq hmm
   have h1:=size_le_tb x.left
   have h2:=size_le_tb x.right
   have w1:=wordT_len _ x.left (Nat.le_refl _)
   have w2:=wordT_len _ x.right (Nat.le_refl _)
   push_cast [ilt hk,hx0]
   refine .of (r24_Word_s x.left (by omega)) ?_
   push_cast
   refine .of (r24_Word_s x.right (by omega)) ?_
   push_cast [hS]
   generalize hR1:(r.drop (k+1)).all (ruleB a.moves a.bound S W) = R1 at hq ih
   unfold ruleB at hq
   refine loop_up (n:=S) (R:=fun p=>(((List.range S).drop p).all (fun p=>stateB a.moves a.bound S W x p) && R1) = T→r24_Compatible.L10 (.ro (cAu a) 0) (encSs (wordT x.left).1) (encSs (wordT x.right).1) (encRs r) (.int .i64 r.length) (.int .i64 k) (.int .i64 S) (.int .i64 p) 0 [.dead,.dead,.dead]
    (Ends 0 r24_Compatible.rs fun x' H'=>x' = .bool T∧H' = [])) ?_ ?_ 0 (Nat.zero_le _) (by rw [List.drop_zero];exact hq)
   ·intro p hp ih2 hq2
    rw [drop_getD (by simpa using hp),List.all_cons,range_getD hp] at hq2
    refine r24_Compatible.G10 ?_
    have hpi:0≤(p:Int)∧(p:Int) < 256:=by omega
    push_cast [ilt hp]
    refine CallG.some [] List.nodup_nil (fun i hi=>by cases hi) (R:=fun x' H'=>x' = .rw 0 1 S∧H'.length = S+1∧RowsAt H' 0 S W (reachB a.moves p (wordT x.left).1 a.bound)) ?_ ?_
    ·rw [pos_nil]
     push_cast
     exact r24_Reach_s a ho S W p hS (by omega) hW (by omega) hp (by omega) (fun y hy=>by have:=hf.mv y hy;omega) (wordT x.left).1 (by omega) (by omega)
    rintro x' H' ⟨rfl,hH1,hH2⟩ _
    rw [takeB_none]
    have hR:=hH2.shift [.dead,.dead,.dead]
    generalize hX:H'.map (renOb fun i=>some ([Ob.dead,Ob.dead,Ob.dead].length+i)) = X at hR ⊢
    have hbk:back [] 3 = fun i=>some (3+i):=by funext i;simp [back]
    push_cast [hbk]
    generalize hR2:(((List.range S).drop (p+1)).all (fun p=>stateB a.moves a.bound S W x p) && R1) = R2 at ih2
    have hq3:(stateB a.moves a.bound S W x p && R2) = T:=by rw [← hq2,← hR2,Bool.and_assoc]
    unfold stateB at hq3
    refine loop_up (n:=S) (R:=fun q=>(((List.range S).drop q).all (fun q=>(List.range W).all fun m=>cellB a.moves a.bound x p q m) && R2) = T→r24_Compatible.L8 (.ro (cAu a) 0) (encSs (wordT x.left).1) (encSs (wordT x.right).1) (.int .i64 p) (encRs r) (.int .i64 r.length) (.int .i64 k) (.int .i64 S) (.int .i64 p) (.rw 3 1 S) (.int .i64 S) (.int .i64 q) 0 (.dead :: .dead :: .dead :: X)
     (Ends 0 r24_Compatible.rs fun x' H'=>x' = .bool T∧H' = [])) ?_ ?_ 0 (Nat.zero_le _) (by rw [List.drop_zero];exact hq3)
    ·intro q hq' ih3 hq4
     rw [drop_getD (by simpa using hq'),List.all_cons,range_getD hq'] at hq4
     refine r24_Compatible.G8 ?_
     obtain ⟨E,e1,e2,e3⟩:=hR.outE
     obtain ⟨F,f1,f2,f3,_⟩:=hR.rowE hq'
     push_cast at e1 e3 f1
     push_cast [ilt hq',hq',e1,e2,e3 q hq']
     generalize hR3:(((List.range S).drop (q+1)).all (fun q=>(List.range W).all fun m=>cellB a.moves a.bound x p q m) && R2) = R3 at ih3
     have hq5:(((List.range W).all fun m=>cellB a.moves a.bound x p q m) && R3) = T:=by rw [← hq4,← hR3,Bool.and_assoc]
     refine loop_up (n:=W) (R:=fun m=>(((List.range W).drop m).all (fun m=>cellB a.moves a.bound x p q m) && R3) = T→r24_Compatible.L6 (.ro (cAu a) 0) (encSs (wordT x.left).1) (encSs (wordT x.right).1) (.int .i64 p) (.int .i64 q) (encRs r) (.int .i64 r.length) (.int .i64 k) (.int .i64 S) (.int .i64 p) (.rw 3 1 S) (.int .i64 S) (.int .i64 q) (.rw (4+q) 1 W) (.int .i64 W) (.int .i64 m) 0 (.dead :: .dead :: .dead :: X)
      (Ends 0 r24_Compatible.rs fun x' H'=>x' = .bool T∧H' = [])) ?_ ?_ 0 (Nat.zero_le _) (by rw [List.drop_zero];exact hq5)
     ·intro m hm ih4 hq6
      rw [drop_getD (by simpa using hm),List.all_cons,range_getD hm] at hq6
      refine r24_Compatible.G6 ?_
      have f3m:=f3 m hm
      have hwm:=w64 (show m < 2^62 by omega)
      unfold cellB at hq6
      cases hb:reachB a.moves p (wordT x.left).1 a.bound q m with
      | false =>
       rw [hb] at f3m hq6
       push_cast [ilt hm,hm,f1,f2,f3m,hwm]
       have:=ih4 (by simpa [cellB] using hq6)
       push_cast at this
       exact this
      | true =>
       rw [hb] at f3m hq6
       push_cast [ilt hm,hm,f1,f2,f3m,hwm]
       refine .of (r24_Reads_s a ho p q hpi (wordT x.right).1 (m+1) (by omega) (by omega)) ?_
       cases hlk:linkedM a.moves p q (wordT x.right).1 (m+1) with
       | false =>
        rw [hlk] at hq6
        push_cast
        exact pf_ret (by push_cast [r24_Compatible.rs];simpa using hq6)
       | true =>
        rw [hlk] at hq6
        push_cast [hwm]
        have:=ih4 (by simpa [cellB] using hq6)
        push_cast at this
        exact this
     ·intro hq6
      rw [List.drop_of_length_le (by simp)] at hq6
      refine r24_Compatible.G6 ?_
      push_cast [inlt (Nat.le_refl _),w64 (show q < 2^62 by omega)]
      have:=ih3 (by simpa using hq6)
      push_cast at this
      exact this
    ·intro hq4
     rw [List.drop_of_length_le (by simp)] at hq4
     refine r24_Compatible.G8 ?_
     push_cast [inlt (Nat.le_refl _),w64 (show p < 2^62 by omega)]
     have:=ih2 (by simpa using hq4)
     push_cast at this
     exact this
   ·intro hq2
    rw [List.drop_of_length_le (by simp)] at hq2
    refine r24_Compatible.G10 ?_
    push_cast [inlt (Nat.le_refl _),w64 (show k < 2^62 by omega)]
    have:=ih (by simpa using hq2)
    push_cast at this
    exact this
  ·intro hq
   rw [drop_map_none] at hq
   refine r24_Compatible.G12 ?_
   push_cast [inlt (Nat.le_refl _)]
   exact pf_ret (by push_cast [r24_Compatible.rs];simpa using hq)
end Go.Dw
end
section
namespace Go.Dw
def checkR (r:List ARule) (a:AAut):Int :=
 if checkSystem r ≠ 0 then checkSystem r else if r.all strQ = false then 4 else if formE a ≠ 0 then formE a else if compM a.moves a.bound a.states.toNat (a.bound+2).toNat r then 0 else 11
theorem r24_Check_s (r:List ARule) (a:AAut) (hs:Sz r a):PF n_r24_Check [encRs r,encAu a] (.int .i64 (checkR r a)):=by
 have hr:=hs.r
 have hl:=hs.l
 have hn:=hs.n
 refine pf_of r24_Check.ok rfl ?_
 push_cast
 refine .of (r01_CheckSystem_s r (by omega)) ?_
 unfold checkR
 by_cases k1:¬ checkSystem r = 0
 ·rw [if_pos (by simpa using k1)]
  push_cast [eq_false k1]
  exact pf_ret (by push_cast [r24_Check.rs])
 have k1:checkSystem r = 0:=Classical.not_not.1 k1
 rw [if_neg (by simpa using k1)]
 push_cast [k1]
 refine .of (r24_Is_s r (by omega)) ?_
 cases k2:r.all strQ with
 | false =>
  rw [if_pos rfl]
  push_cast
  exact pf_ret (by push_cast [r24_Check.rs])
 | true =>
 rw [if_neg (by simp)]
 push_cast
 have hcomp:formE a = 0→PF n_r24_Compatible [encRs r,encAu a] (.bool (compM a.moves a.bound a.states.toNat (a.bound+2).toNat r)):=fun h0=>by
  have hf:=formE_iff.1 h0
  have:=hf.st
  have:=hf.bd
  exact r24_Compatible_s r hr a hf a.states.toNat (a.bound+2).toNat (by omega) (by omega)
 generalize compM a.moves a.bound a.states.toNat (a.bound+2).toNat r = cm at hcomp ⊢
 by_cases c1:a.states < 1
 ·rw [show formE a = 2 by unfold formE;rw [if_pos (.inl c1)],if_pos (show (2:Int) ≠ 0 by decide)]
  push_cast [eq_true c1]
  exact pf_ret (by push_cast [r24_Check.rs])
 by_cases c2:256 < a.states
 ·rw [show formE a = 2 by unfold formE;rw [if_pos (.inr (.inl c2))],if_pos (show (2:Int) ≠ 0 by decide)]
  push_cast [eq_false c1,eq_true c2]
  exact pf_ret (by push_cast [r24_Check.rs])
 by_cases c3:a.bound < 0
 ·rw [show formE a = 2 by unfold formE;rw [if_pos (.inr (.inr (.inl c3)))],if_pos (show (2:Int) ≠ 0 by decide)]
  push_cast [eq_false c1,eq_false c2,eq_true c3]
  exact pf_ret (by push_cast [r24_Check.rs])
 by_cases c4:16 < a.bound
 ·rw [show formE a = 2 by unfold formE;rw [if_pos (.inr (.inr (.inr c4)))],if_pos (show (2:Int) ≠ 0 by decide)]
  push_cast [eq_false c1,eq_false c2,eq_false c3,eq_true c4]
  exact pf_ret (by push_cast [r24_Check.rs])
 have hE1:formE a = if 4096 < a.moves.length then 3 else if movesE a a.moves ≠ 0 then movesE a a.moves else if inOrder a.moves then 0 else 4:=by unfold formE;rw [if_neg (by omega)]
 by_cases c5:4096 < a.moves.length
 ·have c5i:((4096:Int) < (a.moves.length:Int)) = True:=eq_true (by omega)
  rw [show formE a = 3 by rw [hE1,if_pos c5],if_pos (show (3:Int) ≠ 0 by decide)]
  push_cast [eq_false c1,eq_false c2,eq_false c3,eq_false c4,c5i]
  exact pf_ret (by push_cast [r24_Check.rs])
 have c5i:((4096:Int) < (a.moves.length:Int)) = False:=eq_false (by omega)
 rw [if_neg c5] at hE1
 push_cast [eq_false c1,eq_false c2,eq_false c3,eq_false c4,c5i]
 refine loop_up (n:=a.moves.length) (R:=fun k=>movesE a (a.moves.drop k) = movesE a a.moves→r24_Check.L10 (encRs r) (.ro (cAu a) 0) (encMvs a.moves) (.int .i64 a.moves.length) (.int .i64 k) 0 [] _) ?_ ?_ 0 (Nat.zero_le _) rfl
 ·intro k hk ih hq
  have hnm:=hn _ (getD_mem hk)
  rw [drop_getD hk] at hq
  refine r24_Check.G10 ?_
  generalize hx:a.moves.getD k default = x at hq hnm
  simp only [movesE] at hq
  have bad:∀ e:Int,moveE a x = e→e ≠ 0→movesE a a.moves = e:=fun e h1 h2=>by rw [← hq,if_pos (by rw [h1];exact h2),h1]
  by_cases d1:x.src < 0
  ·rw [show formE a = 8 by rw [hE1,bad 8 (by unfold moveE;rw [if_pos (.inl d1)]) (by decide),if_pos (by decide)],if_pos (show (8:Int) ≠ 0 by decide)]
   push_cast [ilt hk,hx,eq_true d1]
   exact pf_ret (by push_cast [r24_Check.rs])
  by_cases d2:a.states≤x.src
  ·rw [show formE a = 8 by rw [hE1,bad 8 (by unfold moveE;rw [if_pos (.inr (.inl d2))]) (by decide),if_pos (by decide)],if_pos (show (8:Int) ≠ 0 by decide)]
   push_cast [ilt hk,hx,eq_false d1,eq_true d2]
   exact pf_ret (by push_cast [r24_Check.rs])
  by_cases d3:x.dst < 0
  ·rw [show formE a = 8 by rw [hE1,bad 8 (by unfold moveE;rw [if_pos (.inr (.inr (.inl d3)))]) (by decide),if_pos (by decide)],if_pos (show (8:Int) ≠ 0 by decide)]
   push_cast [ilt hk,hx,eq_false d1,eq_false d2,eq_true d3]
   exact pf_ret (by push_cast [r24_Check.rs])
  by_cases d4:a.states≤x.dst
  ·rw [show formE a = 8 by rw [hE1,bad 8 (by unfold moveE;rw [if_pos (.inr (.inr (.inr d4)))]) (by decide),if_pos (by decide)],if_pos (show (8:Int) ≠ 0 by decide)]
   push_cast [ilt hk,hx,eq_false d1,eq_false d2,eq_false d3,eq_true d4]
   exact pf_ret (by push_cast [r24_Check.rs])
  have hm1:moveE a x = if x.h < 0 ∨ a.bound < x.h then 2 else if isName x.name true then 0 else 4:=by unfold moveE;rw [if_neg (by omega)]
  by_cases d5:x.h < 0
  ·rw [show formE a = 2 by rw [hE1,bad 2 (by rw [hm1,if_pos (.inl d5)]) (by decide),if_pos (by decide)],if_pos (show (2:Int) ≠ 0 by decide)]
   push_cast [ilt hk,hx,eq_false d1,eq_false d2,eq_false d3,eq_false d4,eq_true d5]
   exact pf_ret (by push_cast [r24_Check.rs])
  by_cases d6:a.bound < x.h
  ·rw [show formE a = 2 by rw [hE1,bad 2 (by rw [hm1,if_pos (.inr d6)]) (by decide),if_pos (by decide)],if_pos (show (2:Int) ≠ 0 by decide)]
   push_cast [ilt hk,hx,eq_false d1,eq_false d2,eq_false d3,eq_false d4,eq_false d5,eq_true d6]
   exact pf_ret (by push_cast [r24_Check.rs])
  rw [if_neg (by omega)] at hm1
  push_cast [ilt hk,hx,eq_false d1,eq_false d2,eq_false d3,eq_false d4,eq_false d5,eq_false d6]
  refine .of (r01_IsName_s x.name true (by omega)) ?_
  cases hi:isName x.name true with
  | false =>
   rw [show formE a = 4 by rw [hE1,bad 4 (by rw [hm1,hi];rfl) (by decide),if_pos (by decide)],if_pos (show (4:Int) ≠ 0 by decide)]
   push_cast
   exact pf_ret (by push_cast [r24_Check.rs])
  | true =>
   rw [hi,if_pos rfl] at hm1
   rw [hm1,if_neg (by decide)] at hq
   push_cast [w64 (show k < 2^62 by omega)]
   have:=ih hq
   push_cast at this
   exact this
 ·intro hq
  rw [drop_map_none] at hq
  have h0:movesE a a.moves = 0:=by rw [← hq];rfl
  rw [h0,if_neg (by decide)] at hE1
  refine r24_Check.G10 ?_
  push_cast [inlt (Nat.le_refl _)]
  have hb:∀ k,k < a.moves.length - 1→lessM (a.moves.getD k default) (a.moves.getD (k+1) default) = false→inOrder a.moves = false:=fun k hk h =>
   List.all_eq_false.2 ⟨k,List.mem_range.2 hk,by rw [h];exact Bool.false_ne_true⟩
  refine loop_up (n:=a.moves.length - 1) (R:=fun k=>(∀ j,j < k→lessM (a.moves.getD j default) (a.moves.getD (j+1) default) = true)→r24_Check.L4 (encRs r) (.ro (cAu a) 0) (.int .i64 ((k+1:Nat):Int)) 0 [] (Ends 0 r24_Check.rs fun x' H'=>x' = V.int IntKind.i64 (if formE a ≠ 0 then formE a else if cm = true then 0 else 11)∧H' = [])) ?_ ?_ 0 (Nat.zero_le _) (by intro j hj;omega)
  ·intro k hk ih hj
   refine r24_Check.G4 ?_
   have hk1:(((k+1:Nat):Int) < (a.moves.length:Int)) = True:=eq_true (by omega)
   have hk0:((k:Int) < (a.moves.length:Int)) = True:=eq_true (by omega)
   have hw:IntKind.i64.wrap (((k:Int)+1) - 1) = k:=by rw [wrap64 (by omega) (by omega)];omega
   have hbk:=hb k hk
   have hjk:lessM (a.moves.getD k default) (a.moves.getD (k+1) default) = true→∀ j,j < k+1→lessM (a.moves.getD j default) (a.moves.getD (j+1) default) = true:=fun h j hj'=>by
    by_cases e:j = k
    ·subst e;exact h
    ·exact hj j (by omega)
   have hcl:=cmpM_less (a.moves.getD k default) (a.moves.getD (k+1) default)
   generalize hx:a.moves.getD k default = x at hbk hjk hcl
   generalize hy:a.moves.getD (k+1) default = y at hbk hjk hcl
   push_cast at hk1
   have htn:((k:Int)+1).toNat = k+1:=by omega
   push_cast [hk1,hk0,hw,hx,htn,hy]
   refine ⟨by omega,?_⟩
   refine .of (r24_less_s x y) ?_
   cases hc:lessM x y with
   | false =>
    push_cast
    rw [hbk hc,if_neg (by simp)] at hE1
    rw [hE1,if_pos (show (4:Int) ≠ 0 by decide)]
    exact pf_ret (by push_cast [r24_Check.rs])
   | true =>
    have hw2:IntKind.i64.wrap ((k:Int)+1+1) = (k:Int)+1+1:=by rw [wrap64 (by omega) (by omega)]
    push_cast [hw2]
    have:=ih (hjk hc)
    push_cast at this
    exact this
  ·intro hj
   have hio:inOrder a.moves = true:=List.all_eq_true.2 fun k hk=>hj k (List.mem_range.1 hk)
   refine r24_Check.G4 ?_
   have hk1:(((a.moves.length - 1+1:Nat):Int) < (a.moves.length:Int)) = False:=eq_false (by omega)
   generalize a.moves.length - 1+1 = i at hk1
   rw [hio,if_pos rfl] at hE1
   rw [hE1,if_neg (by decide)]
   push_cast [hk1]
   refine .of (hcomp hE1) ?_
   cases cm with
   | false =>
    push_cast
    exact pf_ret (by push_cast [r24_Check.rs])
   | true =>
    push_cast
    exact pf_ret (by push_cast [r24_Check.rs])
end Go.Dw
end
section
namespace Go.Dw
theorem readL_one {mv:List AMove} {fit:Int→Bool} {s u:ASp} {n:Str}:u∈readL mv fit s [n] ↔ ∃ x∈mv,x.src = s.1∧x.name = n∧fit x.h = true∧u = (x.dst,if x.h < s.2 then x.h else s.2):=by
 have:readL mv fit s [n] = nextL mv fit [s] n:=rfl
 rw [this,nextL_mem]
 constructor
 ·rintro ⟨t,ht,hu⟩
  rw [List.mem_singleton.1 ht] at hu
  obtain ⟨x,hx,rfl⟩:=List.mem_map.1 hu
  obtain ⟨h1,h2⟩:=List.mem_filter.1 hx
  obtain ⟨h3,h4⟩:=List.mem_filter.1 h1
  simp at h2 h4
  exact ⟨x,h3,h4,h2.1,h2.2,rfl⟩
 ·rintro ⟨x,h3,h4,h5,h6,rfl⟩
  exact ⟨s,by simp,List.mem_map.2 ⟨x,List.mem_filter.2 ⟨List.mem_filter.2 ⟨h3,by simp [h4]⟩,by simp [h5,h6]⟩,rfl⟩⟩
theorem has_linked (mv:List AMove) (n:Str):hasM mv ⟨0,0,n,0⟩ = linkedM mv 0 0 [n] 0:=by
 have e:hasM mv ⟨0,0,n,0⟩ = true ↔ linkedM mv 0 0 [n] 0 = true:=by
  rw [linked_iff]
  unfold hasM
  rw [List.any_eq_true]
  constructor
  ·rintro ⟨y,hy,h⟩
   have h:(⟨0,0,n,0⟩:AMove) = y:=by simpa using h
   subst h
   exact ⟨_,readL_one.2 ⟨_,hy,rfl,rfl,by simp,rfl⟩,rfl⟩
  ·rintro ⟨s,hs,h⟩
   obtain ⟨x,hx,h1,h2,h3,rfl⟩:=readL_one.1 hs
   refine ⟨x,hx,?_⟩
   obtain ⟨a,b,c,d⟩:=x
   simp at h h1 h2 h3 ⊢
   exact ⟨h1.symm,h.symm,h2.symm,h3.symm⟩
 cases h1:hasM mv ⟨0,0,n,0⟩ <;> cases h2:linkedM mv 0 0 [n] 0 <;> simp_all
theorem loops_has (r:List ARule) (mv:List AMove):loopsM (r.map toRl) mv = (symbolsR r).all fun s=>hasM mv ⟨0,0,s,0⟩:=by
 have e:loopsM (r.map toRl) mv = true ↔ ((symbolsR r).all fun s=>hasM mv ⟨0,0,s,0⟩) = true:=by
  unfold loopsM
  rw [Bool.not_eq_true',List.any_eq_false,List.all_eq_true]
  constructor
  ·intro h n hn
   have:=h n (namesM_mem.2 (by rw [allN_rl];exact hn))
   rw [has_linked];simpa using this
  ·intro h n hn
   have:=h n (by rw [← allN_rl];exact namesM_mem.1 hn)
   rw [has_linked] at this;simp [this]
 cases h1:loopsM (r.map toRl) mv <;> cases h2:(symbolsR r).all fun s=>hasM mv ⟨0,0,s,0⟩ <;> simp_all
theorem readL_low {mv:List AMove} {b:Int} (hb:∀ x∈mv,x.h≤b) (p:Int) (w:List Str):∀ s∈readL mv (fun _=>true) (p,17) w,s.2≤b ∨ w = []∧s = (p,17):=by
 intro s hs
 rcases List.eq_nil_or_concat w with rfl | ⟨w,n,rfl⟩
 ·right;exact ⟨rfl,by simpa [readL] using hs⟩
 ·left
  rw [List.concat_eq_append,readL_snoc,nextL_mem] at hs
  obtain ⟨u,_,hs⟩:=hs
  obtain ⟨x,hx,rfl⟩:=List.mem_map.1 hs
  have:=hb x (List.mem_filter.1 (List.mem_filter.1 hx).1).1
  simp only;split <;> omega
theorem linked_nil {mv:List AMove} {p q h:Int}:linkedM mv p q [] h = decide (p = q):=by
 have e:linkedM mv p q [] h = true ↔ p = q:=by
  rw [linked_iff]
  constructor
  ·rintro ⟨s,hs,e⟩
   have:s = (p,17):=by simpa [readL] using hs
   rw [this] at e;exact e
  ·rintro rfl;exact ⟨(p,17),by simp [readL],rfl⟩
 cases h1:linkedM mv p q [] h <;> simp_all
theorem linked_high {mv:List AMove} {b:Int} (hb:∀ x∈mv,x.h≤b) {p q h:Int} (hh:b < h) {w:List Str} (hw:w ≠ []):linkedM mv p q w h = false:=by
 cases hl:linkedM mv p q w h with
 | false=>rfl
 | true =>
  obtain ⟨s,hs,_⟩:=linked_iff.1 hl
  rcases List.eq_nil_or_concat w with rfl | ⟨w,n,rfl⟩
  ·exact absurd rfl hw
  ·rw [List.concat_eq_append,readL_snoc,nextL_mem] at hs
   obtain ⟨u,_,hs⟩:=hs
   obtain ⟨x,hx,rfl⟩:=List.mem_map.1 hs
   obtain ⟨h1,h2⟩:=List.mem_filter.1 hx
   have:=hb x (List.mem_filter.1 h1).1
   simp at h2
   omega
theorem linked_high2 {mv:List AMove} {b:Int} (hb:∀ x∈mv,x.h≤b) {p q h h':Int} (hh:b < h) (hh':b < h') (w:List Str):linkedM mv p q w h = linkedM mv p q w h':=by
 by_cases hw:w = []
 ·subst hw;rw [linked_nil,linked_nil]
 ·rw [linked_high hb hh hw,linked_high hb hh' hw]
theorem lacks_none {mv:List AMove} {S:Nat} {l:List ARl}:lacksM mv S l = none ↔ ∀ x∈l,∀ p,p < S→∀ s∈readL mv (fun _=>true) ((p:Int),17) x.left,linkedM mv p s.1 x.right (s.2+1) = true:=by
 unfold lacksM
 rw [List.findSome?_eq_none_iff]
 refine forall_congr' fun x=>forall_congr' fun hx=>?_
 unfold ruleF
 rw [List.findSome?_eq_none_iff]
 constructor
 ·intro h p hp s hs
  have:=h p (List.mem_range.2 hp)
  unfold stateF at this
  rw [List.findSome?_eq_none_iff] at this
  have:=this s (readsL_mem.2 hs)
  unfold spotF at this
  split at this
  ·assumption
  ·cases this
 ·intro h p hp
  unfold stateF
  rw [List.findSome?_eq_none_iff]
  intro s hs
  unfold spotF
  rw [if_pos (h p (List.mem_range.1 hp) s (readsL_mem.1 hs))]
theorem comp_iff {a:AAut} (hf:FormOk a) (r:List ARule):(lacksM a.moves a.states.toNat (r.map toRl) = none) ↔ r.all (ruleB a.moves a.bound a.states.toNat (a.bound+2).toNat) = true:=by
 have hst:=hf.st
 have hbd:=hf.bd
 have hb:∀ x∈a.moves,x.h≤a.bound:=fun x hx=>(hf.mv x hx).2.2.1.2
 have hin:∀ (p:Nat),p < a.states.toNat→∀ w,∀ s∈readL a.moves (fun _=>true) ((p:Int),17) w,(0≤s.1∧s.1 < a.states)∧0≤s.2∧s.2 < 18:=fun p hp w s hs=>by
  refine ⟨?_,(readL_in hf.okA _ (show 0≤(p:Int)∧(p:Int) < 256 by omega) w s hs).2⟩
  rcases List.eq_nil_or_concat w with rfl | ⟨w,n,rfl⟩
  ·have:s = ((p:Int),17):=by simpa [readL] using hs
   rw [this];simp only;omega
  ·rw [List.concat_eq_append,readL_snoc,nextL_mem] at hs
   obtain ⟨u,_,hs⟩:=hs
   obtain ⟨x,hx,rfl⟩:=List.mem_map.1 hs
   exact (hf.mv x (List.mem_filter.1 (List.mem_filter.1 hx).1).1).2.1
 rw [lacks_none,List.all_eq_true]
 constructor
 ·intro h x hx
  unfold ruleB
  rw [List.all_eq_true]
  intro p hp
  have hp:=List.mem_range.1 hp
  unfold stateB
  rw [List.all_eq_true]
  intro q hq
  rw [List.all_eq_true]
  intro m hm
  unfold cellB
  cases hr:reachB a.moves p (wordT x.left).1 a.bound q m with
  | false=>rfl
  | true =>
   unfold reachB at hr
   rw [List.any_eq_true] at hr
   obtain ⟨s,hs,h1⟩:=hr
   rw [Bool.and_eq_true,decide_eq_true_eq,decide_eq_true_eq] at h1
   obtain ⟨h1,h2⟩:=h1
   have h3:=h (toRl x) (List.mem_map_of_mem hx) p hp s hs
   simp only [Bool.not_true,Bool.false_or]
   rw [← h1]
   rcases readL_low hb _ _ s hs with h4 | ⟨_,h4⟩
   ·rw [if_pos (by omega)] at h2
    rw [← h2];exact h3
   ·rw [← h3]
    rw [if_neg (by rw [h4];simp only;omega)] at h2
    refine linked_high2 hb (by omega) (by rw [h4];simp only;omega) _
 ·intro h y hy p hp s hs
  obtain ⟨x,hx,rfl⟩:=List.mem_map.1 hy
  have h1:=h x hx
  unfold ruleB at h1
  rw [List.all_eq_true] at h1
  have h2:=h1 p (List.mem_range.2 hp)
  unfold stateB at h2
  rw [List.all_eq_true] at h2
  obtain ⟨⟨i1,i2⟩,i3,i4⟩:=hin p hp _ s hs
  have h3:=h2 s.1.toNat (List.mem_range.2 (by omega))
  rw [List.all_eq_true] at h3
  have h4:=h3 (if s.2 < a.bound+1 then s.2 else a.bound+1).toNat (List.mem_range.2 (by split <;> omega))
  unfold cellB at h4
  have h5:reachB a.moves p (wordT x.left).1 a.bound s.1.toNat (if s.2 < a.bound+1 then s.2 else a.bound+1).toNat = true:=by
   unfold reachB
   rw [List.any_eq_true]
   refine ⟨s,hs,?_⟩
   rw [Bool.and_eq_true,decide_eq_true_eq,decide_eq_true_eq]
   exact ⟨by omega,by rw [Int.toNat_of_nonneg (by split <;> omega)]⟩
  rw [h5,Bool.not_true,Bool.false_or,Int.toNat_of_nonneg i1,Int.toNat_of_nonneg (by split <;> omega)] at h4
  rcases readL_low hb _ _ s hs with h6 | ⟨_,h6⟩
  ·rw [if_pos (by omega)] at h4;exact h4
  ·rw [← h4]
   rw [if_neg (by rw [h6];simp only;omega)]
   exact linked_high2 hb (by rw [h6];simp only;omega) (by omega) _
theorem checkB_eq (r:List ARule) (a:AAut):checkB r a = checkR r a:=by
 unfold checkB checkR
 by_cases h1:checkSystem r = 0
 ·by_cases h2:r.all strR = true
  ·have hs:systemE r = (r.map toRl,0):=by unfold systemE;rw [if_neg (by simpa using h1),if_pos h2]
   rw [hs,← strR_Q h1]
   simp only [h1,h2,ne_eq,not_true_eq_false,if_false,Bool.true_eq_false]
   by_cases h3:formE a = 0
   ·have hf:=formE_iff.1 h3
    simp only [h3,not_true_eq_false,if_false]
    rw [loops_has]
    unfold compM
    have hc:=comp_iff hf r
    cases h4:(symbolsR r).all fun s=>hasM a.moves ⟨0,0,s,0⟩ with
    | false=>simp
    | true =>
     rw [if_neg (by simp),Bool.true_and]
     cases h5:lacksM a.moves a.states.toNat (r.map toRl) with
     | none=>rw [if_pos (hc.1 h5)];rfl
     | some m =>
      cases hn:r.all (ruleB a.moves a.bound a.states.toNat (a.bound+2).toNat) with
      | false=>rfl
      | true=>rw [hc.2 hn] at h5;cases h5
   ·simp only [h3,not_false_eq_true,if_true]
  ·have hs:systemE r = ([],4):=by unfold systemE;rw [if_neg (by simpa using h1),if_neg h2]
   have h2':r.all strR = false:=by simpa using h2
   rw [hs,← strR_Q h1]
   simp only [h1,h2',ne_eq,not_true_eq_false,if_false,if_true,not_false_eq_true]
   rfl
 ·have hs:systemE r = ([],checkSystem r):=by unfold systemE;rw [if_pos (by simpa using h1)]
  rw [hs,if_pos (by simpa using h1),if_pos (by simpa using h1)]
end Go.Dw
end
section
namespace Go.Dw
theorem wrapU {x:Int} (h1:0≤x) (h2:x < 18446744073709551616):IntKind.u64.wrap x = x:=by
 have:IntKind.u64.wrap x = x % 18446744073709551616:=by simp [IntKind.wrap,IntKind.bits,IntKind.signed]
 rw [this];omega
def maxV:Nat:=4611686018427387904
def longM:List (List Str)→Nat
 | []=>0
 | w :: l=>max w.length (longM l)
def lenP (L n:Nat):Nat→Nat→Option Nat
 | 0,w=>if maxV / n < w then none else some (n * w)
 | k+1,w=>if 0 < L∧maxV / L / n < w then none else lenP L n k (1+L * w)
def lenV':Option Nat→Int × Int
 | some v=>(v,0)
 | none=>(0,3)
def lenB (r:List ARule) (a:AAut) (n:Int):Int × Int :=
 if checkB r a ≠ 0 then (0,checkB r a) else if n < 0 ∨ 4000 < n then (0,2) else lenV' (if n = 0 then some 0 else lenP (longM (r.map fun x=>(wordT x.right).1)) n.toNat a.bound.toNat 1)
theorem checkB_ok {r:List ARule} {a:AAut} (h:checkB r a = 0):checkSystem r = 0∧r.all strR = true∧FormOk a∧loopsM (r.map toRl) a.moves = true∧lacksM a.moves a.states.toNat (r.map toRl) = none:=by
 unfold checkB at h
 by_cases h1:checkSystem r = 0
 ·by_cases h2:r.all strR = true
  ·have hs:systemE r = (r.map toRl,0):=by unfold systemE;rw [if_neg (by simpa using h1),if_pos h2]
   rw [hs] at h
   by_cases h3:formE a = 0
   ·simp only [h3,ne_eq,not_true_eq_false,if_false] at h
    cases h4:loopsM (r.map toRl) a.moves with
    | false=>rw [h4] at h;simp at h
    | true =>
     rw [h4] at h
     cases h5:lacksM a.moves a.states.toNat (r.map toRl) with
     | none=>exact ⟨h1,h2,formE_iff.1 h3,rfl,rfl⟩
     | some m=>rw [h5] at h;simp at h
   ·simp [h3] at h
  ·have hs:systemE r = ([],4):=by unfold systemE;rw [if_neg (by simpa using h1),if_neg h2]
   rw [hs] at h;simp at h
 ·have hs:systemE r = ([],checkSystem r):=by unfold systemE;rw [if_pos (by simpa using h1)]
  rw [hs] at h;simp [h1] at h
theorem longM_le {l:List (List Str)} {N:Nat} (h:∀ w∈l,w.length≤N):longM l≤N:=by
 induction l with
 | nil=>simp [longM]
 | cons w l ih =>
  have h1:=h w (by simp)
  have h2:=ih fun u hu=>h u (by simp [hu])
  simp only [longM];omega
theorem tdivU (a b:Nat):(a:Int).tdiv (b:Int) = ((a / b:Nat):Int):=by simp
end Go.Dw
end
section
namespace Go.Dw
theorem bounds_Length_s (r:List ARule) (a:AAut) (n:Int) (hs:Sz r a):PF n_bounds_Length [encRs r,encAu a,.int .i64 n] (.tup [.int .u64 (lenB r a n).1,.int .i64 (lenB r a n).2]):=by
 have hr:=hs.r
 refine pf_of bounds_Length.ok rfl ?_
 push_cast
 refine .of (bounds_Check_s r a hs) ?_
 generalize hT:lenB r a n = T
 unfold lenB at hT
 by_cases h1:¬ checkB r a = 0
 ·rw [if_pos h1] at hT
  subst hT
  push_cast [eq_false h1]
  exact pf_ret (by push_cast [bounds_Length.rs])
 have h1:checkB r a = 0:=Classical.not_not.1 h1
 rw [h1,if_neg (by simp)] at hT
 rw [h1]
 by_cases h2:n < 0
 ·rw [if_pos (.inl h2)] at hT
  subst hT
  push_cast [eq_true h2]
  exact pf_ret (by push_cast [bounds_Length.rs])
 by_cases h3:4000 < n
 ·rw [if_pos (.inr h3)] at hT
  subst hT
  push_cast [eq_false h2,eq_true h3]
  exact pf_ret (by push_cast [bounds_Length.rs])
 rw [if_neg (by omega)] at hT
 push_cast [eq_false h2,eq_false h3]
 obtain ⟨k1,k2,k3,_,_⟩:=checkB_ok h1
 refine .of (bounds_rules_s r (by omega)) ?_
 unfold rulesV
 rw [k2,if_pos rfl]
 push_cast
 have hl:=length_le_rbs r
 have hrt:∀ x∈r.map toRl,x.right.length < 2^28:=fun x hx=>by
  obtain ⟨y,hy,rfl⟩:=List.mem_map.1 hx
  have hm:=rbs_mem hy
  have h2:=wordT_len _ y.right (Nat.le_refl _)
  have h5:=size_le_tb y.right
  simp only [toRl];omega
 have hmp:(r.map fun x=>(wordT x.right).1) = (r.map toRl).map (·.right):=by rw [List.map_map];rfl
 rw [hmp] at hT
 have hll:(r.map toRl).length < 2^28:=by simp;omega
 generalize hl':r.map toRl = l at hrt hT hll ⊢
 have hL:longM (l.map (·.right))≤2^28:=longM_le fun w hw=>by
  obtain ⟨x,hx,rfl⟩:=List.mem_map.1 hw
  have:=hrt x hx;omega
 generalize hLe:longM (l.map (·.right)) = L at hT hL
 refine loop_up (n:=l.length) (R:=fun k=>∀ m:Nat,max m (longM ((l.drop k).map (·.right))) = L→bounds_Length.L8 (.int .i64 n) (.ro (cAu a) 0) (.int .u64 m) (encRls l) (.int .i64 l.length) (.int .i64 k) 0 [] (Ends 0 bounds_Length.rs fun x' H'=>x' = .tup [.int .u64 T.1,.int .i64 T.2]∧H' = [])) ?_ ?_ 0 (Nat.zero_le _) 0 (by rw [List.drop_zero,hLe];omega)
 ·intro k hk ih m hm
  rw [drop_getD hk] at hm
  refine bounds_Length.G8 ?_
  have hx:=hrt _ (getD_mem hk)
  generalize hx0:l.getD k default = x at hm hx
  simp only [List.map_cons,longM] at hm
  have hu:IntKind.u64.wrap (x.right.length:Int) = x.right.length:=wrapU (by omega) (by omega)
  push_cast [ilt hk,hx0,hu,w64 (show k < 2^62 by omega)]
  have:=ih (max m x.right.length) (by omega)
  push_cast at this
  exact this
 ·intro m hm
  rw [drop_map_none] at hm
  have hm:m = L:=by simpa [longM] using hm
  subst hm
  refine bounds_Length.G8 ?_
  push_cast [inlt (Nat.le_refl _)]
  obtain ⟨B,hB⟩:∃ B:Nat,a.bound = B:=⟨a.bound.toNat,by have:=k3.bd;omega⟩
  have hB2:B≤16:=by have:=k3.bd;omega
  rw [hB] at hT ⊢
  rw [Int.toNat_natCast] at hT
  by_cases hn:n = 0
  ·subst hn
   rw [if_pos rfl] at hT
   refine loop_up (n:=B) (R:=fun j=>∀ w:Int,bounds_Length.L4 (.int .i64 0) (.int .u64 m) (.int .u64 w) (.int .i64 B) (.int .i64 j) 0 [] (Ends 0 bounds_Length.rs fun x' H'=>x' = .tup [.int .u64 T.1,.int .i64 T.2]∧H' = [])) ?_ ?_ 0 (Nat.zero_le _) 1
   ·intro j hj ih w
    refine bounds_Length.G4 ?_
    push_cast [ilt hj,w64 (show j < 2^62 by omega)]
    have:=ih (IntKind.u64.wrap (1+IntKind.u64.wrap ((m:Int) * w)))
    push_cast at this
    exact this
   ·intro w
    refine bounds_Length.G4 ?_
    push_cast [inlt (Nat.le_refl _),Int.zero_mul,wrapU (show (0:Int)≤0 by omega) (by omega)]
    subst hT
    exact pf_ret (by push_cast [bounds_Length.rs,lenV'])
  ·rw [if_neg hn] at hT
   obtain ⟨N,rfl⟩:∃ N:Nat,n = N:=⟨n.toNat,by omega⟩
   have hN0:0 < N:=by omega
   have hNi:(0 < (N:Int)) = True:=eq_true (by omega)
   have hN4:N≤4000:=by omega
   rw [Int.toNat_natCast] at hT
   have hNu:IntKind.u64.wrap (N:Int) = N:=wrapU (by omega) (by omega)
   have hNz:((N:Int) = 0) = False:=eq_false (by omega)
   have q1:∀ k:Nat,IntKind.u64.wrap ((4611686018427387904:Int).tdiv (k:Int)) = ((maxV / k:Nat):Int):=fun k=>by
    have:(4611686018427387904:Int).tdiv (k:Int) = ((maxV / k:Nat):Int):=tdivU maxV k
    rw [this,wrapU (Int.natCast_nonneg _) (Int.ofNat_lt.2 (Nat.lt_of_le_of_lt (Nat.div_le_self _ _) (by unfold maxV;decide)))]
   have q2:IntKind.u64.wrap ((((maxV / m:Nat):Int)).tdiv (N:Int)) = ((maxV / m / N:Nat):Int):=by
    rw [tdivU,wrapU (Int.natCast_nonneg _) (Int.ofNat_lt.2 (Nat.lt_of_le_of_lt (Nat.le_trans (Nat.div_le_self _ _) (Nat.div_le_self _ _)) (by unfold maxV;decide)))]
   refine loop_up (n:=B) (R:=fun j=>∀ w:Nat,w≤maxV+1→lenV' (lenP m N (B - j) w) = T→bounds_Length.L4 (.int .i64 N) (.int .u64 m) (.int .u64 w) (.int .i64 B) (.int .i64 j) 0 [] (Ends 0 bounds_Length.rs fun x' H'=>x' = .tup [.int .u64 T.1,.int .i64 T.2]∧H' = [])) ?_ ?_ 0 (Nat.zero_le _) 1 (by unfold maxV;omega) (by rw [Nat.sub_zero];exact hT)
   ·intro j hj ih w hw hq
    refine bounds_Length.G4 ?_
    rw [show B - j = (B - (j+1))+1 by omega] at hq
    simp only [lenP] at hq
    by_cases hm0:0 < m
    ·have hmi:(0 < (m:Int)) = True:=eq_true (by omega)
     have hmz:((m:Int) = 0) = False:=eq_false (by omega)
     by_cases hc:maxV / m / N < w
     ·rw [if_pos ⟨hm0,hc⟩] at hq
      have hci:(((maxV / m / N:Nat):Int) < (w:Int)) = True:=eq_true (by omega)
      generalize hD:maxV / m / N = D at q2 hci
      generalize hE:maxV / m = E at q1 q2
      have q1m:=q1 m
      rw [hE] at q1m
      push_cast [ilt hj,hNi,hmi,hNz,hmz,hNu,q1m,q2,hci]
      subst hq
      exact pf_ret (by push_cast [bounds_Length.rs,lenV'])
     ·rw [if_neg (by simp [hc])] at hq
      have hci:(((maxV / m / N:Nat):Int) < (w:Int)) = False:=eq_false (by omega)
      have hmw:m * w≤maxV:=by
       have h1:w≤maxV / m / N:=by omega
       rw [Nat.div_div_eq_div_mul] at h1
       have h2:=(Nat.le_div_iff_mul_le (Nat.mul_pos hm0 hN0)).1 h1
       refine Nat.le_trans ?_ h2
       rw [Nat.mul_comm w,Nat.mul_right_comm]
       exact Nat.le_mul_of_pos_right _ hN0
      have hu1:IntKind.u64.wrap ((m:Int) * (w:Int)) = ((m * w:Nat):Int):=by
       rw [Int.natCast_mul,wrapU (by rw [← Int.natCast_mul];omega) (by rw [← Int.natCast_mul];unfold maxV at hmw;omega)]
      have hu2:IntKind.u64.wrap (1+((m * w:Nat):Int)) = ((1+m * w:Nat):Int):=by
       rw [wrapU (by omega) (by unfold maxV at hmw;omega)];omega
      have:=ih (1+m * w) (by omega) hq
      generalize hD:maxV / m / N = D at q2 hci
      generalize hE:maxV / m = E at q1 q2
      have q1m:=q1 m
      rw [hE] at q1m
      generalize hP:m * w = P at hu1 hu2 this
      generalize hP2:1+P = P2 at hu2 this
      push_cast [ilt hj,hNi,hmi,hNz,hmz,hNu,q1m,q2,hci,hu1,hu2,w64 (show j < 2^62 by omega)]
      push_cast at this
      exact this
    ·have hm0':m = 0:=by omega
     subst hm0'
     rw [if_neg (by simp)] at hq
     have hu2:IntKind.u64.wrap (1+0) = 1:=by rw [wrapU (by omega) (by omega)];rfl
     push_cast [ilt hj,hNi,hNz,hNu,Int.zero_mul,wrapU (show (0:Int)≤0 by omega) (by omega),hu2,w64 (show j < 2^62 by omega)]
     have:=ih 1 (by unfold maxV;omega) (by simpa using hq)
     push_cast at this
     exact this
   ·intro w hw hq
    rw [Nat.sub_self] at hq
    simp only [lenP] at hq
    refine bounds_Length.G4 ?_
    by_cases hc:maxV / N < w
    ·rw [if_pos hc] at hq
     have hci:(((maxV / N:Nat):Int) < (w:Int)) = True:=eq_true (by omega)
     have q1m:=q1 N
     generalize hE:maxV / N = E at q1m hci
     push_cast [inlt (Nat.le_refl _),hNi,hNz,hNu,q1m,hci]
     subst hq
     exact pf_ret (by push_cast [bounds_Length.rs,lenV'])
    ·rw [if_neg hc] at hq
     have hci:(((maxV / N:Nat):Int) < (w:Int)) = False:=eq_false (by omega)
     have hNw:N * w≤maxV:=by
      have:=(Nat.le_div_iff_mul_le hN0).1 (show w≤maxV / N by omega)
      rw [Nat.mul_comm];exact this
     have hu1:IntKind.u64.wrap ((N:Int) * (w:Int)) = ((N * w:Nat):Int):=by
      rw [Int.natCast_mul,wrapU (by rw [← Int.natCast_mul];omega) (by rw [← Int.natCast_mul];unfold maxV at hNw;omega)]
     have q1m:=q1 N
     generalize hE:maxV / N = E at q1m hci
     generalize hP:N * w = P at hu1 hq
     push_cast [inlt (Nat.le_refl _),hNi,hNz,hNu,q1m,hci,hu1]
     subst hq
     exact pf_ret (by push_cast [bounds_Length.rs,lenV'])
end Go.Dw
end
section
namespace Go.Dw
theorem lessM_iff {a b:AMove}:lessM a b = true ↔ a.src < b.src ∨ a.src = b.src∧(a.dst < b.dst ∨ a.dst = b.dst∧(a.name < b.name ∨ a.name = b.name∧a.h < b.h)):=by
 unfold lessM
 by_cases h1:a.src = b.src
 ·by_cases h2:a.dst = b.dst
  ·by_cases h3:a.name = b.name
   ·simp [h1,h2,h3,slt_irrefl]
   ·simp [h1,h2,h3]
  ·simp [h1,h2]
 ·simp [h1]
theorem lessM_irrefl (a:AMove):lessM a a = false:=by
 cases h:lessM a a with
 | false=>rfl
 | true=>rw [lessM_iff] at h;simp [slt_irrefl] at h
theorem lessM_trans {a b c:AMove} (h1:lessM a b = true) (h2:lessM b c = true):lessM a c = true:=by
 rw [lessM_iff] at *
 rcases h1 with h1 | ⟨e1,h1⟩
 ·rcases h2 with h2 | ⟨e2,h2⟩ <;> exact .inl (by omega)
 ·rcases h2 with h2 | ⟨e2,h2⟩
  ·exact .inl (by omega)
  ·refine .inr ⟨by omega,?_⟩
   rcases h1 with h1 | ⟨e3,h1⟩
   ·rcases h2 with h2 | ⟨e4,h2⟩ <;> exact .inl (by omega)
   ·rcases h2 with h2 | ⟨e4,h2⟩
    ·exact .inl (by omega)
    ·refine .inr ⟨by omega,?_⟩
     rcases h1 with h1 | ⟨e5,h1⟩
     ·rcases h2 with h2 | ⟨e6,h2⟩
      ·exact .inl (slt_trans h1 h2)
      ·exact .inl (e6 ▸ h1)
     ·rcases h2 with h2 | ⟨e6,h2⟩
      ·exact .inl (e5 ▸ h2)
      ·exact .inr ⟨e5.trans e6,by omega⟩
theorem lessM_total {a b:AMove} (h1:lessM a b = false) (h2:lessM b a = false):a = b:=by
 have n1:¬ lessM a b = true:=by simp [h1]
 have n2:¬ lessM b a = true:=by simp [h2]
 rw [lessM_iff] at n1 n2
 obtain ⟨s,d,n,h⟩:=a
 obtain ⟨s',d',n',h'⟩:=b
 simp only at n1 n2
 obtain rfl:s = s':=by omega
 obtain rfl:d = d':=by
  have a1:¬ d < d':=fun h=>n1 (.inr ⟨rfl,.inl h⟩)
  have a2:¬ d' < d:=fun h=>n2 (.inr ⟨rfl,.inl h⟩)
  omega
 obtain rfl:n = n':=slt_eq (fun h=>n1 (.inr ⟨rfl,.inr ⟨rfl,.inl h⟩⟩)) (fun h=>n2 (.inr ⟨rfl,.inr ⟨rfl,.inl h⟩⟩))
 obtain rfl:h = h':=by
  have a1:¬ h < h':=fun h=>n1 (.inr ⟨rfl,.inr ⟨rfl,.inr ⟨rfl,h⟩⟩⟩)
  have a2:¬ h' < h:=fun h=>n2 (.inr ⟨rfl,.inr ⟨rfl,.inr ⟨rfl,h⟩⟩⟩)
  omega
 rfl
theorem cmpM_neg {a b:AMove}:cmpM a b < 0 ↔ lessM a b = true:=by
 have:=cmpM_less a b
 cases h:lessM a b with
 | false=>simp;exact this.2 h
 | true =>
  simp only [iff_true]
  rw [h] at this
  have:¬ 0≤cmpM a b:=fun hc=>by have:=this.1 hc;cases this
  omega
theorem cmpM_zero {a b:AMove}:cmpM a b = 0 ↔ a = b:=by
 constructor
 ·unfold cmpM
  simp only [firstN]
  obtain ⟨s,d,n,h⟩:=a
  obtain ⟨s',d',n',h'⟩:=b
  simp only
  rcases cmpI_three s s' with ⟨h1,e1⟩ | ⟨h1,l1,e1⟩ | ⟨h1,l1,e1⟩
  ·rcases cmpI_three d d' with ⟨h2,e2⟩ | ⟨h2,l2,e2⟩ | ⟨h2,l2,e2⟩
   ·rcases cmpS_three n n' with ⟨h3,e3⟩ | ⟨h3,l3,e3⟩ | ⟨h3,l3,e3⟩
    ·rcases cmpI_three h h' with ⟨h4,e4⟩ | ⟨h4,l4,e4⟩ | ⟨h4,l4,e4⟩
     ·intro _;rw [h1,h2,h3,h4]
     ·rw [e1,e2,e3,e4];simp
     ·rw [e1,e2,e3,e4];simp
    ·rw [e1,e2,e3];simp
    ·rw [e1,e2,e3];simp
   ·rw [e1,e2];simp
   ·rw [e1,e2];simp
  ·rw [e1];simp
  ·rw [e1];simp
 ·rintro rfl
  have h1:¬ cmpM a a < 0:=by rw [cmpM_neg,lessM_irrefl];simp
  have h2:=(cmpM_less a a).2 (lessM_irrefl a)
  unfold cmpM
  simp only [firstN]
  have e1:∀ x:Int,cmpI x x = 0:=fun x=>by simp [cmpI]
  have e2:∀ x:Str,cmpS x x = 0:=fun x=>by rw [cmpS_eq];simp [slt_irrefl]
  simp [e1,e2]
abbrev SortedM (l:List AMove):Prop:=l.Pairwise fun a b=>lessM a b = true
def lbM (x:AMove):List AMove→Nat
 | []=>0
 | y :: l=>if lessM y x then lbM x l+1 else 0
theorem lbM_le (x:AMove):∀ l:List AMove,lbM x l≤l.length
 | []=>Nat.le_refl _
 | y :: l=>by
  have:=lbM_le x l
  simp only [lbM,List.length_cons];split <;> omega
theorem lbM_lt {x:AMove}:∀ {l:List AMove} {j:Nat},j < lbM x l→lessM (l.getD j default) x = true
 | [],j,h=>by simp [lbM] at h
 | y :: l,j,h=>by
  simp only [lbM] at h
  split at h
  ·rename_i hy
   cases j with
   | zero=>exact hy
   | succ j=>simp only [List.getD_cons_succ];exact lbM_lt (by omega)
  ·omega
theorem lbM_ge {x:AMove}:∀ {l:List AMove} {j:Nat},SortedM l→lbM x l≤j→j < l.length→lessM (l.getD j default) x = false
 | [],j,_,_,h=>by simp at h
 | y :: l,j,hs,h1,h2=>by
  have hs':=List.pairwise_cons.1 hs
  simp only [lbM] at h1
  split at h1
  ·cases j with
   | zero=>omega
   | succ j=>simp only [List.getD_cons_succ];exact lbM_ge hs'.2 (by omega) (by simpa using h2)
  ·rename_i hy
   cases j with
   | zero=>simpa using hy
   | succ j =>
    simp only [List.getD_cons_succ]
    have hm:l.getD j default∈l:=getD_mem (by simpa using h2)
    have h3:=hs'.1 _ hm
    cases hc:lessM (l.getD j default) x with
    | false=>rfl
    | true=>exact absurd (lessM_trans h3 hc) hy
def foundM (x:AMove) (l:List AMove):Bool:=decide (lbM x l < l.length∧l.getD (lbM x l) default = x)
theorem foundM_iff {x:AMove} {l:List AMove} (hs:SortedM l):foundM x l = true ↔ x∈l:=by
 unfold foundM
 rw [decide_eq_true_eq]
 constructor
 ·rintro ⟨h1,h2⟩;rw [← h2];exact getD_mem h1
 ·intro h
  obtain ⟨i,hi,rfl⟩:=List.getElem_of_mem h
  have hg:l.getD i default = l[i]:=by simp [List.getD_eq_getElem?_getD,hi]
  have h1:¬ i < lbM l[i] l:=fun hc=>by
   have:=lbM_lt hc
   rw [hg,lessM_irrefl] at this;cases this
  have h2:¬ lbM l[i] l < i:=fun hc=>by
   have h3:=lbM_ge hs (Nat.le_refl (lbM l[i] l)) (by omega)
   have h4:=List.pairwise_iff_getElem.1 hs (lbM l[i] l) i (by omega) hi hc
   rw [List.getD_eq_getElem?_getD,List.getElem?_eq_getElem (by omega),Option.getD_some,h4] at h3
   cases h3
  have h3:lbM l[i] l = i:=by omega
  rw [h3]
  exact ⟨hi,hg⟩
def insM (x:AMove) (l:List AMove):List AMove:=if foundM x l then l else l.take (lbM x l)++x :: l.drop (lbM x l)
theorem insM_mem {x y:AMove} {l:List AMove} (hs:SortedM l):y∈insM x l ↔ y∈l ∨ y = x:=by
 unfold insM
 split
 ·rename_i h
  exact ⟨.inl,fun h2=>h2.elim id fun e=>e ▸ (foundM_iff hs).1 h⟩
 ·rw [List.mem_append,List.mem_cons]
  constructor
  ·rintro (h | rfl | h)
   ·exact .inl (List.mem_of_mem_take h)
   ·exact .inr rfl
   ·exact .inl (List.mem_of_mem_drop h)
  ·rintro (h | rfl)
   ·rw [← List.take_append_drop (lbM x l) l] at h
    rcases List.mem_append.1 h with h | h
    ·exact .inl h
    ·exact .inr (.inr h)
   ·exact .inr (.inl rfl)
theorem insM_sorted {x:AMove} {l:List AMove} (hs:SortedM l):SortedM (insM x l):=by
 unfold insM
 split
 ·exact hs
 ·rename_i hn
  have hx:x ∉ l:=fun h=>hn ((foundM_iff hs).2 h)
  have hlo:∀ a∈l.take (lbM x l),lessM a x = true:=fun a ha=>by
   obtain ⟨i,hi,rfl⟩:=List.getElem_of_mem ha
   have hi':i < lbM x l:=by simp at hi;omega
   have hil:i < l.length:=by simp at hi;omega
   have:=lbM_lt hi'
   rw [List.getElem_take]
   simpa [List.getD_eq_getElem?_getD,hil] using this
  have hhi:∀ a∈l.drop (lbM x l),lessM x a = true:=fun a ha=>by
   obtain ⟨i,hi,rfl⟩:=List.getElem_of_mem ha
   rw [List.getElem_drop]
   have hil:lbM x l+i < l.length:=by simp at hi;omega
   have h1:=lbM_ge hs (show lbM x l≤lbM x l+i by omega) hil
   rw [List.getD_eq_getElem?_getD,List.getElem?_eq_getElem hil,Option.getD_some] at h1
   cases hc:lessM x l[lbM x l+i] with
   | true=>rfl
   | false=>exact absurd (lessM_total hc h1 ▸ List.getElem_mem hil) hx
  refine List.pairwise_append.2 ⟨hs.sublist (List.take_sublist _ _),List.pairwise_cons.2 ⟨hhi,hs.sublist (List.drop_sublist _ _)⟩,fun a ha b hb=>?_⟩
  rcases List.mem_cons.1 hb with rfl | hb
  ·exact hlo a ha
  ·exact lessM_trans (hlo a ha) (hhi b hb)
theorem insM_len {x:AMove} {l:List AMove} (hs:SortedM l):(insM x l).length = if x∈l then l.length else l.length+1:=by
 unfold insM
 by_cases h:x∈l
 ·rw [if_pos ((foundM_iff hs).2 h),if_pos h]
 ·rw [if_neg (fun hc=>h ((foundM_iff hs).1 hc)),if_neg h]
  have:=lbM_le x l
  simp;omega
end Go.Dw
end
section
namespace Go.Proofs
open Go.Shelf Go.RowKit Go.Lib
theorem Tryz.move_size:(Tryz.prog.info? 128).map (·.size) = some 4:=by kernel_rfl
set_option maxHeartbeats 4000000 in
set_option maxRecDepth 100000 in
theorem Tryz.insM_shift (b n c i vb vc:Nat) (cs vs:List Value) (w:World) (hi:i < n) (hroom:n+1≤c) (hc63:c≤9223372036854775807) (hvb:vb ≠ b)
  (hcl:cs.length = n * 4) (hvl:vs.length = 4)
  (hcs:∀ j v,cs[j]? = some v→w.cell? ⟨b,j,none⟩ = some v) (hsp:∀ j,j < (n+1) * 4→(w.cell? ⟨b,j,none⟩).isSome = true) (hfz:∀ j,j < (n+1) * 4→w.frozen? ⟨b,j,none⟩ = false)
  (hvs:∀ j v,vs[j]? = some v→w.cell? ⟨vb,j,none⟩ = some v) (h1c:∀ v∈cs,v.oneCell' = true) (h1v:∀ v∈vs,v.oneCell' = true)
  (tA tB:TypeId) (kA kB:Nat) (hsa:w.shape? vb = some (tA,kA)) (hsb:w.shape? b = some (tB,kB)) (hkB:kB ≠ 0) (hfa:w.frozen? ⟨vb,0,none⟩ = false) (hfe:w.frozen? ⟨vb,kA,none⟩ = false) :
  Calls Tryz.prog 168 #[.slice (some ⟨b,0,none⟩) n c,.int .i64 i,.slice (some ⟨vb,0,none⟩) 1 vc] w fun e w' =>
   e = .returned (.slice (some ⟨b,0,none⟩) (n+1) c)∧w' = (w.drew.setCells b ((i+1) * 4) (cs.drop (i * 4))).setCells b (i * 4) vs:=by
 have hz2:¬ ((i:Int) = (n:Int)):=by omega
 have hsz:=Tryz.move_size
 have hov:∀ lb cb,(callFunc 229 #[.slice (some ⟨vb,0,none⟩) 1 vc,.slice (some ⟨b,(i+1) * 4,none⟩) lb cb]).run Tryz.prog w = .ok (.value (.bool false)) w:=fun lb cb=>by
  rw [run_callFunc_extern Tryz.func229 (by kernel_rfl) (by kernel_rfl) (by kernel_rfl) (e:=Extern.SlicesOverlaps.overlaps #[58,58] #[4]) (by kernel_rfl),
   Lib.run_overlaps_apart w 58 4 128 Tryz.underlying58 4 Tryz.sizeOf128 ⟨vb,0,none⟩ ⟨b,(i+1) * 4,none⟩ 1 vc lb cb hvb tA tB kA kB hsa hsb hkB hfa hfe]
  rfl
 have hdl:(cs.drop (i * 4)).length = (n - i) * 4:=by rw [List.length_drop,hcl];omega
 have hw1:IntKind.i64.wrap ((i:Int)+1) = (i:Int)+1:=by rw [IntKind.wrap_i64];omega
 have mixed:=Go.Dw.mixed
 have hb1:(0:Int)≤(i:Int)+1:=by omega
 have hin:i≤n:=by omega
 have htn:((i:Int)+1).toNat = i+1:=by omega
 have hb2:¬ (c = i+1):=by omega
 have hb3:(i:Int)≤(n:Int)+1:=by omega
 have hb4:¬ (c = i):=by omega
 have hcp1:∀ ty dc sc,(Builtin.copy_ #[58,58] ty #[.slice (some ⟨b,(i+1) * 4,none⟩) (n - i) dc,.slice (some ⟨b,i * 4,none⟩) (n+1 - i) sc]).run Tryz.prog w.drew = .ok (goInt (Nat.min (n+1 - i) (n - i))) (w.drew.setCells b ((i+1) * 4) (cs.drop (i * 4))):=fun ty dc sc =>
  run_copy_cellsZ w.drew _ _ ty 128 b ((i+1) * 4) (n - i) dc ⟨b,i * 4,none⟩ (n+1 - i) sc 4 (cs.drop (i * 4)) Tryz.underlying58 hsz (by rw [hdl];simp only [Nat.min_def];split <;> omega)
   (fun j v hj=>by rw [Addr.add_lit];exact hcs (i * 4+j) v (by rwa [List.getElem?_drop] at hj))
   (fun j hj=>hsp _ (by omega)) (fun j hj=>hfz _ (by omega)) (fun v hv=>h1c v (List.mem_of_mem_drop hv))
 obtain ⟨W1,hW1⟩:∃ W1,W1 = w.drew.setCells b ((i+1) * 4) (cs.drop (i * 4)):=⟨_,rfl⟩
 have hsp1:∀ k,k < (n+1) * 4→(W1.cell? ⟨b,k,none⟩).isSome = true:=fun k hk=>by
  rw [hW1]
  exact isSome_setCells b _ _ w.drew (fun j hj=>hsp ((i+1) * 4+j) (by rw [hdl] at hj;omega)) _ (hsp k hk)
 have hcp2:∀ (W:World),(∀ x,W.cell? x = W1.cell? x)→(∀ x,W.frozen? x = W1.frozen? x)→∀ ty dc,(Builtin.copy_ #[58,58] ty #[.slice (some ⟨b,i * 4,none⟩) (n+1 - i) dc,.slice (some ⟨vb,0,none⟩) 1 vc]).run Tryz.prog W = .ok (goInt (Nat.min 1 (n+1 - i))) (W.setCells b (i * 4) vs):=fun W hWc hWf ty dc =>
  run_copy_cellsZ W _ _ ty 128 b (i * 4) (n+1 - i) dc ⟨vb,0,none⟩ 1 vc 4 vs Tryz.underlying58 hsz (by rw [hvl];simp only [Nat.min_def];split <;> omega)
   (fun j v hj=>by
    rw [Addr.add_lit,hWc,hW1,World.cell?_setCells_out b _ _ _ _ (fun h _=>absurd h hvb),Nat.zero_add]
    exact hvs j v hj)
   (fun j hj=>by rw [hWc];exact hsp1 _ (by omega)) (fun j hj=>by rw [hWf,hW1,World.frozen?_setCells];exact hfz _ (by omega)) h1v
 rw [← hW1] at hcp1
 go_enter Tryz.func168,Tryz.ntmps168
 go_wp2_with (simp only [hov])
 go_region_law_o (refine step_copy_runI rfl _ _ 58 58 rfl _ _ (by simp [Act.eval,Act.put]) (by simp [Act.eval,Act.put]) (hcp1 _ _ _) ?_)
 go_wp2_with (at_builtin;refine wpList_copy_runI _ rfl _ _ 58 58 rfl _ _ rfl rfl (hcp2 _ (fun _=>rfl) (fun _=>rfl) _ _) ?_)
 go_ret
 first | exact ⟨rfl,rfl⟩ | exact ⟨rfl,by rw [hW1]⟩
def zMove:Value:=.agg #[.int .i64 0,.int .i64 0,.string ⟨#[]⟩,.int .i64 0]
theorem Tryz.move_info:(Tryz.prog.info? 128).map (fun i=>(i.zero,i.size,i.bytes)) = some (some zMove,4,40):=by kernel_rfl
set_option maxHeartbeats 4000000 in
set_option maxRecDepth 100000 in
theorem Tryz.insM_grow (b n c i vb vc:Nat) (cs vs:List Value) (w:World) (hi:i < n) (hnc:n≤c) (hroom:c < n+1) (hbig:(n+1) * 40≤140737488355328)
  (hcl:cs.length = n * 4) (hvl:vs.length = 4)
  (hcs:∀ j v,cs[j]? = some v→w.cell? ⟨b,j,none⟩ = some v)
  (hvs:∀ j v,vs[j]? = some v→w.cell? ⟨vb,j,none⟩ = some v) (h1c:∀ v∈cs,v.oneCell' = true) (h1v:∀ v∈vs,v.oneCell' = true) :
  Calls Tryz.prog 168 #[.slice (some ⟨b,0,none⟩) n c,.int .i64 i,.slice (some ⟨vb,0,none⟩) 1 vc] w fun e w' =>
   e = .returned (.slice (some ⟨w.heap.size,0,none⟩) (n+1) (grownCap w (n+1) c 128)) ∧
   w' = (((w.alloc (.cells ((cs.take (i * 4)).toArray++Builtin.zeroCells zMove.cells (n+1 - i)++Builtin.zeroCells zMove.cells (grownCap w (n+1) c 128 - (n+1))) 128)).drew.setCells w.heap.size (i * 4) vs).drew).setCells w.heap.size ((i+1) * 4) (cs.drop (i * 4)):=by
 have mixed:=Go.Dw.mixed
 obtain ⟨i0,hi0,hz0,hzs,hzb⟩:=info_parts Tryz.move_info
 have hz2:¬ ((i:Int) = (n:Int)):=by omega
 have hz3:(c:Int) < (n:Int)+1:=by omega
 have hsz:=Tryz.move_size
 have hbw:b < w.heap.size:=block_lt_of_cell (hcs 0 _ (List.getElem?_eq_getElem (by omega)))
 have hvw:vb < w.heap.size:=block_lt_of_cell (hvs 0 _ (List.getElem?_eq_getElem (by omega)))
 have hkk:(n:Int)+1 - (i:Int) = ((n+1 - i:Nat):Int):=by omega
 have hik:i+(n+1 - i) = n+1:=by omega
 have hold:(Builtin.firstCells i0.size i (.slice (some ⟨b,0,none⟩) i c)).run Tryz.prog w.drew = .ok (cs.take (i * 4)).toArray w.drew:=by
  rw [hzs]
  exact run_firstCells_some w.drew 4 i ⟨b,0,none⟩ i c (cs.take (i * 4)) (by rw [List.length_take];omega) (fun j v hj=>by
   rw [Addr.add_lit,Nat.zero_add]
   rw [List.getElem?_take] at hj
   split at hj
   ·exact hcs j v hj
   ·cases hj)
 have hrz:∀ ty,(Builtin.append_ #[58,3] ty #[.slice (some ⟨b,0,none⟩) i c,.int .i64 ((n:Int)+1 - (i:Int))]).run Tryz.prog w =
   .ok (.slice (some ⟨w.heap.size,0,none⟩) (n+1) (grownCap w (n+1) c 128)) (w.drew.alloc (.cells ((cs.take (i * 4)).toArray++Builtin.zeroCells zMove.cells (n+1 - i)++Builtin.zeroCells zMove.cells (grownCap w (n+1) c 128 - (n+1))) 128)):=fun ty=>by
  have h:=Lib.run_append_grow_zeros w 58 3 ty 128 i0 _ .i64 .i64 Tryz.underlying58 Tryz.underlying3 hi0 hz0 (some ⟨b,0,none⟩) i c (cs.take (i * 4)) hold (n+1 - i) (by omega) (by omega) (by omega) (by omega) (by rw [hzb];omega) (by rw [hzb,hik];exact growslice_fits hroom hbig)
  rw [hik] at h
  rw [hkk]
  exact h
 obtain ⟨G,hG⟩:∃ G,G = grownCap w (n+1) c 128:=⟨_,rfl⟩
 obtain ⟨ROW,hROW⟩:∃ ROW:Array Value,ROW = (cs.take (i * 4)).toArray++Builtin.zeroCells zMove.cells (n+1 - i)++Builtin.zeroCells zMove.cells (G - (n+1)):=⟨_,rfl⟩
 rw [← hG] at hrz ⊢
 rw [← hROW] at hrz ⊢
 have hRl:(n+1) * 4≤ROW.size:=by
  rw [hROW]
  have hzc:zMove.cells.size = 4:=rfl
  simp only [Array.size_append,zeroCells_size,hzc,List.size_toArray,List.length_take,hcl]
  omega
 obtain ⟨W1,hW1⟩:∃ W1,W1 = w.drew.alloc (.cells ROW 128):=⟨_,rfl⟩
 rw [← hW1] at hrz
 have hN:∀ j,j < (n+1) * 4→(W1.cell? ⟨w.heap.size,j,none⟩).isSome = true:=fun j hj=>by
  rw [hW1,World.cell?_alloc_at (w:=w.drew) ROW _ w.heap.size j rfl,Array.getElem?_eq_getElem (by omega)];rfl
 have hNf:∀ j,W1.frozen? ⟨w.heap.size,j,none⟩ = false:=fun j=>by rw [hW1];exact World.frozen?_alloc_at (w:=w.drew) ROW _ w.heap.size j rfl
 have hOb:∀ j v,w.cell? ⟨b,j,none⟩ = some v→W1.cell? ⟨b,j,none⟩ = some v:=fun j v h=>by rw [hW1,World.cell?_alloc_past (w:=w.drew) _ b j hbw];exact h
 have hOv:∀ j v,w.cell? ⟨vb,j,none⟩ = some v→W1.cell? ⟨vb,j,none⟩ = some v:=fun j v h=>by rw [hW1,World.cell?_alloc_past (w:=w.drew) _ vb j hvw];exact h
 have hcpA:∀ (W:World),(∀ x,W.cell? x = W1.cell? x)→(∀ x,W.frozen? x = W1.frozen? x)→∀ ty dc,(Builtin.copy_ #[58,58] ty #[.slice (some ⟨w.heap.size,i * 4,none⟩) (n+1 - i) dc,.slice (some ⟨vb,0,none⟩) 1 vc]).run Tryz.prog W = .ok (goInt (Nat.min 1 (n+1 - i))) (W.setCells w.heap.size (i * 4) vs):=fun W hWc hWf ty dc =>
  run_copy_cellsZ W _ _ ty 128 w.heap.size (i * 4) (n+1 - i) dc ⟨vb,0,none⟩ 1 vc 4 vs Tryz.underlying58 hsz (by rw [hvl];simp only [Nat.min_def];split <;> omega)
   (fun j v hj=>by rw [Addr.add_lit,hWc,Nat.zero_add];exact hOv _ v (hvs j v hj))
   (fun j hj=>by rw [hWc];exact hN _ (by omega)) (fun j hj=>by rw [hWf];exact hNf _) h1v
 have hGn:n+1≤G:=by rw [hG];exact grownCap_ge w _ _ _
 have hG63:G≤9223372036854775807:=by
  have:=grownCap_le_maxLen w (n+1) c 128 (by unfold maxLen;omega)
  rw [← hG] at this
  unfold maxLen at this
  omega
 have hGi:¬ (G = i):=by omega
 have hGim:¬ (G = i+1):=by omega
 have hci:¬ (c = i):=by omega
 have hbN:b ≠ w.heap.size:=by omega
 have hdl:(cs.drop (i * 4)).length = (n - i) * 4:=by rw [List.length_drop,hcl];omega
 have hcpB:∀ (W:World),(∀ x,W.cell? x = (W1.setCells w.heap.size (i * 4) vs).cell? x)→(∀ x,W.frozen? x = (W1.setCells w.heap.size (i * 4) vs).frozen? x)→∀ ty dc sc,(Builtin.copy_ #[58,58] ty #[.slice (some ⟨w.heap.size,(i+1) * 4,none⟩) (n - i) dc,.slice (some ⟨b,i * 4,none⟩) (n - i) sc]).run Tryz.prog W = .ok (goInt (Nat.min (n - i) (n - i))) (W.setCells w.heap.size ((i+1) * 4) (cs.drop (i * 4))):=fun W hWc hWf ty dc sc =>
  run_copy_cellsZ W _ _ ty 128 w.heap.size ((i+1) * 4) (n - i) dc ⟨b,i * 4,none⟩ (n - i) sc 4 (cs.drop (i * 4)) Tryz.underlying58 hsz (by rw [hdl];simp only [Nat.min_def];split <;> omega)
   (fun j v hj=>by
    rw [Addr.add_lit,hWc,World.cell?_setCells_out _ _ _ _ _ (fun h _=>absurd h hbN)]
    exact hOb _ v (hcs (i * 4+j) v (by rwa [List.getElem?_drop] at hj)))
   (fun j hj=>by rw [hWc];exact isSome_setCells _ _ _ W1 (fun t ht=>hN (i * 4+t) (by omega)) _ (hN ((i+1) * 4+j) (by omega)))
   (fun j hj=>by rw [hWf,World.frozen?_setCells];exact hNf _) (fun v hv=>h1c v (List.mem_of_mem_drop hv))
 subst hW1
 have hE1:∀ x,((w.alloc (.cells ROW 128)).drew).cell? x = (w.drew.alloc (.cells ROW 128)).cell? x:=fun x=>rfl
 have hE2:∀ x,((w.alloc (.cells ROW 128)).drew).frozen? x = (w.drew.alloc (.cells ROW 128)).frozen? x:=fun x=>rfl
 have hF1:∀ x,(((w.alloc (.cells ROW 128)).drew.setCells w.heap.size (i * 4) vs).drew).cell? x = ((w.drew.alloc (.cells ROW 128)).setCells w.heap.size (i * 4) vs).cell? x:=fun x=>rfl
 have hF2:∀ x,(((w.alloc (.cells ROW 128)).drew.setCells w.heap.size (i * 4) vs).drew).frozen? x = ((w.drew.alloc (.cells ROW 128)).setCells w.heap.size (i * 4) vs).frozen? x:=fun x=>rfl
 have hw1:IntKind.i64.wrap ((i:Int)+1) = (i:Int)+1:=by rw [IntKind.wrap_i64];omega
 have hb1:(0:Int)≤(i:Int)+1:=by omega
 have hin:i≤n:=by omega
 have htn:((i:Int)+1).toNat = i+1:=by omega
 have hb3:(i:Int)≤(n:Int):=by omega
 clear hkk hik hold hROW hG hRl
 go_enter Tryz.func168,Tryz.ntmps168
 go_wp2_with (first
  | (at_builtin;refine Lib.wpList_append_run _ rfl _ _ _ _ rfl _ _ rfl rfl _ _ (hrz _) ?_)
  | (at_builtin;refine wpList_copy_runI _ rfl _ _ 58 58 rfl _ _ rfl rfl (hcpA _ hE1 hE2 _ _) ?_)
  | (at_builtin;refine wpList_copy_runI _ rfl _ _ 58 58 rfl _ _ rfl rfl (hcpB _ (fun _=>rfl) (fun _=>rfl) _ _ _) ?_))
 go_region_law_o (refine step_copy_runI rfl _ _ 58 58 rfl (.slice (some ⟨w.heap.size,(i+1) * 4,none⟩) (n - i) (G - (i+1))) (.slice (some ⟨b,i * 4,none⟩) (n - i) (c - i)) (by simp [Act.eval,Act.put]) (by simp [Act.eval,Act.put]) (hcpB _ hF1 hF2 3 (G - (i+1)) (c - i)) ?_)
 go_wp2
 go_ret
 exact ⟨rfl,rfl⟩
open Go.Shelf Go.RowKit Go.Lib
set_option maxHeartbeats 4000000 in
set_option maxRecDepth 100000 in
theorem Tryz.insM_end_grow (base:Option Addr) (n c vb vc:Nat) (cs vs:List Value) (w:World) (hnc:n≤c) (hroom:c < n+1) (hbig:(n+1) * 40≤140737488355328)
  (hcl:cs.length = n * 4) (hvl:vs.length = 4) (hnil:base = none→n = 0)
  (hcs:∀ a,base = some a→∀ j v,cs[j]? = some v→w.cell? (a.add j) = some v)
  (hvs:∀ j v,vs[j]? = some v→w.cell? ⟨vb,j,none⟩ = some v) (h1v:∀ v∈vs,v.oneCell' = true) :
  Calls Tryz.prog 168 #[.slice base n c,.int .i64 n,.slice (some ⟨vb,0,none⟩) 1 vc] w fun e w' =>
   e = .returned (.slice (some ⟨w.heap.size,0,none⟩) (n+1) (grownCap w (n+1) c 128)) ∧
   w' = w.drew.alloc (.cells ((cs++vs).toArray++Builtin.zeroCells zMove.cells (grownCap w (n+1) c 128 - (n+1))) 128):=by
 have mixed:=Go.Dw.mixed
 obtain ⟨i0,hi0,hz0,hzs,hzb⟩:=info_parts Tryz.move_info
 have hsrc:Src Tryz.prog i0.size 58 (.slice (some ⟨vb,0,none⟩) 1 vc) 1 vs w:=by
  rw [hzs]
  exact Src.ofSlice w Tryz.underlying58 ⟨vb,0,none⟩ 1 vc vs (by omega) (fun j u hj=>by rw [Addr.add_lit,Nat.zero_add];exact hvs j u hj) h1v
 have hold:(Builtin.firstCells i0.size n (.slice base n c)).run Tryz.prog w.drew = .ok cs.toArray w.drew:=by
  rw [hzs]
  cases base with
  | none =>
   have h0:=hnil rfl
   subst h0
   have hc0:cs = []:=List.length_eq_zero_iff.1 (by omega)
   rw [hc0]
   exact run_firstCells_none w.drew 4 0 0 c
  | some a=>exact run_firstCells_some w.drew 4 n a n c cs (by omega) (fun j v hj=>hcs a rfl j v hj)
 have hrun:∀ ty,(Builtin.append_ #[58,58] ty #[.slice base n c,.slice (some ⟨vb,0,none⟩) 1 vc]).run Tryz.prog w = .ok (.slice (some ⟨w.heap.size,0,none⟩) (n+1) (grownCap w (n+1) c 128)) (w.drew.alloc (.cells ((cs++vs).toArray++Builtin.zeroCells zMove.cells (grownCap w (n+1) c 128 - (n+1))) 128)):=fun ty =>
  run_append_grow_src w 58 58 ty 128 i0 zMove Tryz.underlying58 hi0 hz0 base n c cs hold _ 1 vs hsrc hroom (by omega) (by rw [hzb];exact growslice_fits hroom hbig)
 obtain ⟨ROW,hROW⟩:∃ ROW:Array Value,ROW = (cs++vs).toArray++Builtin.zeroCells zMove.cells (grownCap w (n+1) c 128 - (n+1)):=⟨_,rfl⟩
 rw [← hROW] at hrun ⊢
 clear hROW
 go_enter Tryz.func168,Tryz.ntmps168
 cases base with
 | none =>
  have h0:=hnil rfl
  subst h0
  go_wp2_with (at_builtin;refine Lib.wpList_append_run _ rfl _ _ _ _ rfl _ _ rfl rfl _ _ (hrun _) ?_)
  go_ret
  exact ⟨rfl,rfl⟩
 | some a =>
  obtain ⟨ab,ao,asp⟩:=a
  go_wp2_with (at_builtin;refine Lib.wpList_append_run _ rfl _ _ _ _ rfl _ _ rfl rfl _ _ (hrun _) ?_)
  all_goals (go_ret;exact ⟨rfl,rfl⟩)
set_option maxHeartbeats 4000000 in
set_option maxRecDepth 100000 in
theorem Tryz.insM_end_room (b n c vb vc:Nat) (vs:List Value) (w:World) (hroom:n+1≤c) (hc63:c≤9223372036854775807)
  (hvl:vs.length = 4) (hsp:∀ j,j < 4→(w.cell? ⟨b,n * 4+j,none⟩).isSome = true) (hfz:∀ j,j < 4→w.frozen? ⟨b,n * 4+j,none⟩ = false)
  (hvs:∀ j v,vs[j]? = some v→w.cell? ⟨vb,j,none⟩ = some v) (h1v:∀ v∈vs,v.oneCell' = true) :
  Calls Tryz.prog 168 #[.slice (some ⟨b,0,none⟩) n c,.int .i64 n,.slice (some ⟨vb,0,none⟩) 1 vc] w fun e w' =>
   e = .returned (.slice (some ⟨b,0,none⟩) (n+1) c)∧w' = w.setCells b (n * 4) vs:=by
 have mixed:=Go.Dw.mixed
 obtain ⟨i0,hi0,hz0,hzs,hzb⟩:=info_parts Tryz.move_info
 have hrun:∀ ty,(Builtin.append_ #[58,58] ty #[.slice (some ⟨b,0,none⟩) n c,.slice (some ⟨vb,0,none⟩) 1 vc]).run Tryz.prog w = .ok (.slice (some ⟨b,0,none⟩) (n+1) c) (w.setCells b (n * 4) vs):=fun ty=>by
  have h:=run_append_room_cells (P:=Tryz.prog) w 58 ty 128 i0 Tryz.underlying58 hi0 b 0 n c ⟨vb,0,none⟩ 1 vc vs (by rw [hzs];omega) (fun j u hj=>by rw [Addr.add_lit,Nat.zero_add];exact hvs j u hj) h1v hroom
   (fun j hj=>by rw [hzs,Nat.zero_add];exact hsp j (by omega)) (fun j hj=>by rw [hzs,Nat.zero_add];exact hfz j (by omega))
  rw [hzs,Nat.zero_add] at h
  exact h
 obtain ⟨W,hW⟩:∃ W,W = w.setCells b (n * 4) vs:=⟨_,rfl⟩
 rw [← hW] at hrun ⊢
 clear hW
 go_enter Tryz.func168,Tryz.ntmps168
 go_wp2_with (at_builtin;refine Lib.wpList_append_run _ rfl _ _ _ _ rfl _ _ rfl rfl _ _ (hrun _) ?_)
 go_ret
 exact ⟨rfl,rfl⟩
end Go.Proofs
namespace Go.Dw
open Go.Proofs Go.Sort Go.Lib
theorem insM_in (args:Array Value) (w:World):(callFunc 168 args).run Tryz.prog w = .ok (.enter 168 args) w:=enters_of (P:=Tryz.prog) Tryz.func168 (by kernel_rfl) rfl args w
theorem insertM_row (els:List (List V)) (new:List V) (i n:Nat) (hn:els.length = n) (hi:i≤n) (hbig:(n+1) * 40≤maxEls) :
  Spec prog n_slices_Insert_s_Move_Move [.rw 0 4 n,.int .i64 i,.own 1 4 [new]] [.row t_Move 4 els,.arr t_Move 4 1] fun x H'=>x = .rw 0 4 (n+1)∧H' = [.row t_Move 4 (els.take i++new :: els.drop i),.arr t_Move 4 1]:=by
 intro c vs hH hc hr
 obtain ⟨v0,vs',rfl,hv0,v1,vs'',rfl,hv1,v2,vs3,rfl,hv2,hvn⟩:=hr
 have hvn:vs3 = []:=hvn
 subst hvn
 have hv1:v1 = .int .i64 i:=hv1
 subst hv1
 left
 have hH0:c.H[0]? = some (.row t_Move 4 els):=by rw [hH];rfl
 have hH1:c.H[1]? = some (.arr t_Move 4 1):=by rw [hH];rfl
 refine ⟨insM_in _ _,?_⟩
 obtain ⟨hp,_,q2⟩:=hv2
 have hcur:=(q2 _ _ _ hH1).2.2 rfl
 obtain ⟨a',c',b',o',e3,_,_,_,e4,e5⟩:=hp
 obtain ⟨us,s1,s2,s3⟩:=prepE_vals e5
 have he4:=e4.resolve_left (by simp)
 subst e3 he4
 cases hρ1:c.ρ 1 with
 | none=>rw [hρ1] at hcur;cases hcur
 | some bk =>
 obtain ⟨vb,kv⟩:=bk
 rw [hρ1] at hcur
 have hcur:Value.slice (some ⟨b',o',none⟩) 1 c' = .slice (some ⟨vb,0,none⟩) 1 kv:=hcur
 simp only [Value.slice.injEq,Option.some.injEq,Addr.mk.injEq,and_true,true_and] at hcur
 obtain ⟨⟨rfl,rfl⟩,rfl⟩:=hcur
 obtain ⟨va,va1,va2,va3,va4,_⟩:=(hc.obj 1 _ hH1).2 _ _ hρ1
 have hus4:us.length = 4:=by simpa using s1
 have husc:∀ j v,us[j]? = some v→c.w.cell? ⟨b',j,none⟩ = some v:=fun j v hj=>by have:=(s2 j v hj).1;simpa using this
 have hus1:∀ v∈us,v.oneCell' = true:=fun v hv=>by
  obtain ⟨j,hj,e⟩:=List.getElem_of_mem hv
  rw [oneC_eq];exact (s2 j v (by rw [List.getElem?_eq_getElem hj,e])).2
 have hnewf:new.length = 4∧∀ (j:Nat) (x:V),new[j]? = some x→∃ v,us[j]? = some v∧oneC v = true∧rep c x v:=by
  obtain ⟨t1,t2⟩:=s3 0 new rfl
  refine ⟨t1,fun j x hx=>?_⟩
  obtain ⟨v,u1,u2⟩:=t2 j x hx
  have u1:us[j]? = some v:=by simpa using u1
  exact ⟨v,u1,(s2 j v u1).2,rep_of_prep u2⟩
 have hvlt:b' < c.w.heap.size:=(Array.getElem?_eq_some_iff.1 va1).1
 have hmx:maxEls = 140737488355328:=rfl
 have hcm:capMax = 9223372036854775807:=rfl
 obtain ⟨_,⟨a0,k0,hv0,hle0,_⟩,q3⟩:=hv0
 have hcur0:=(q3 _ _ _ hH0).2.2 hn
 obtain ⟨o1,o2⟩:=hc.obj 0 _ hH0
 cases hρ0:c.ρ 0 with
 | none =>
  have hels:=o1 hρ0
  subst hels
  have hn0:n = 0:=hn.symm
  subst hn0
  have hi0:i = 0:=by omega
  subst hi0
  rw [hρ0] at hcur0
  have hcur0:v0 = .slice none 0 0:=hcur0
  subst hcur0
  refine (Tryz.insM_end_grow none 0 0 b' c' [] us c.w (by omega) (by omega) (by omega) rfl hus4 (fun _=>rfl) (fun a h=>by cases h) husc hus1).mono ?_
  rintro e w' ⟨rfl,rfl⟩
  have hG:=grownCap_ge c.w 1 0 128
  have hG2:=grownCap_le_maxLen c.w 1 0 128 (by unfold maxLen;omega)
  generalize grownCap c.w (0+1) 0 128 = G at hG hG2 ⊢
  refine ins_go hc hH rfl (Nat.le_refl 0) (bN:=c.w.heap.size) (kN:=G) (vs0:=#[]) (vs1:=([]++us).toArray++Builtin.zeroCells zMove.cells (G - 1)) (us:=us) (cs:=[]) (.inr (Nat.le_refl _)) (by omega) ?_ ?_ hG (by unfold maxLen at hG2;omega) (fun l el hl=>by simp at hl) (fun j hj=>by omega) hnewf (fun j hj=>?_) (fun b1 h1 h2=>?_) ?_ rfl rfl rfl
  ·show (c.w.heap.push _)[c.w.heap.size]? = _
   rw [Array.getElem?_push_size];rfl
  ·have hzc:zMove.cells.size = 4:=rfl
   simp only [Array.size_append,zeroCells_size,hzc,List.size_toArray,List.nil_append,hus4];omega
  ·rw [if_neg (by omega),if_pos (by omega),Array.getElem?_append_left (by simp;omega)]
   simp
  ·exact heap_push_lt h1
  ·show c.w.heap.size≤(c.w.heap.push _).size
   rw [Array.size_push];omega
 | some bk =>
 obtain ⟨b,k⟩:=bk
 rw [hρ0] at hcur0
 have hcur0:v0 = .slice (some ⟨b,0,none⟩) n k:=hcur0
 subst hcur0
 obtain ⟨vs0,r1,r2,r3,r4,r5,r6⟩:=o2 b k hρ0
 rw [hn] at r3
 have hblt:b < c.w.heap.size:=(Array.getElem?_eq_some_iff.1 r1).1
 have hvb:b' ≠ b:=fun e=>by
  have:=hc.inj 0 1 b k c' (by rw [hH];simp) (by rw [hH];simp) hρ0 (e ▸ hρ1)
  omega
 generalize hcs:vs0.toList.take (n * 4) = cs
 have hcsl:cs.length = n * 4:=by rw [← hcs,List.length_take,Array.length_toList,r2];omega
 have hcsg:∀ j,j < n * 4→cs[j]? = vs0[j]?:=fun j hj=>by rw [← hcs,List.getElem?_take,if_pos hj];simp
 have hcell:∀ j,c.w.cell? ⟨b,j,none⟩ = vs0[j]?:=fun j=>by simp only [World.cell?,r1];rfl
 have hfz:∀ j,c.w.frozen? ⟨b,j,none⟩ = false:=fun j=>by simp [World.frozen?,r1]
 have hcsc:∀ j v,cs[j]? = some v→c.w.cell? ⟨b,j,none⟩ = some v:=fun j v hj=>by
  have hjl:j < n * 4:=by rw [← hcsl];exact (List.getElem?_eq_some_iff.1 hj).1
  rw [hcell,← hcsg j hjl];exact hj
 have hcs1:∀ v∈cs,v.oneCell' = true:=fun v hv=>by
  obtain ⟨j,hj,e⟩:=List.getElem_of_mem hv
  have hjl:j < n * 4:=by rw [← hcsl];exact hj
  have hl:j / 4 < els.length:=by omega
  obtain ⟨t1,t2⟩:=r6 (j / 4) els[j / 4] (List.getElem?_eq_getElem hl)
  obtain ⟨u,u1,u2,_⟩:=t2 (j % 4) (els[j / 4][j % 4]'(by omega)) (List.getElem?_eq_getElem (by omega))
  rw [show j / 4 * 4+j % 4 = j by omega,← hcsg j hjl,List.getElem?_eq_getElem hj,e] at u1
  cases u1
  rw [oneC_eq];exact u2
 have hsp:k ≥ n+1→∀ j,j < (n+1) * 4→(c.w.cell? ⟨b,j,none⟩).isSome = true:=fun hk j hj=>by
  rw [hcell,Array.getElem?_eq_getElem (by omega)];rfl
 by_cases hin:i = n
 ·subst hin
  by_cases hk:i+1≤k
  ·refine (Tryz.insM_end_room b i k b' c' us c.w hk (by omega) hus4 (fun j hj=>hsp hk _ (by omega)) (fun j _=>hfz _) husc hus1).mono ?_
   rintro e w' ⟨rfl,rfl⟩
   obtain ⟨g1,g2,g3,g4,g5,g6⟩:=heap_setCells b us (i * 4) c.w
   obtain ⟨vs1,g7,g8⟩:=g3 _ _ _ r1
   have hw:∀ j,vs1[j]? = (c.w.setCells b (i * 4) us).cell? ⟨b,j,none⟩:=fun j=>by simp only [World.cell?,g7];rfl
   refine ins_go hc hH hn hi (bN:=b) (kN:=k) (vs0:=vs0) (vs1:=vs1) (us:=us) (cs:=cs) (.inl ⟨k,hρ0⟩) (by omega) g7 (by rw [g8,r2]) hk r4 r6 hcsg hnewf (fun j hj=>?_) (fun b1 _ h2=>g2 b1 h2) (by rw [g1];exact Nat.le_refl _) g4 g5 g6
   rw [hw]
   by_cases e1:j < i * 4
   ·rw [if_pos e1,World.cell?_setCells_out b _ _ _ _ (fun _ _=>.inl e1),hcell,hcsg j e1]
   ·rw [if_neg e1,if_pos (by omega)]
    have:=World.cell?_setCells_in b us (i * 4) c.w (fun t ht=>hsp hk _ (by omega)) (j - i * 4) (by omega)
    rw [show i * 4+(j - i * 4) = j by omega] at this
    rw [this,List.getElem?_eq_getElem]
  ·refine (Tryz.insM_end_grow (some ⟨b,0,none⟩) i k b' c' cs us c.w r3 (by omega) (by omega) hcsl hus4 (fun h=>by cases h) (fun a h j v hj=>by cases h;rw [Addr.add_lit,Nat.zero_add];exact hcsc j v hj) husc hus1).mono ?_
   rintro e w' ⟨rfl,rfl⟩
   have hG:=grownCap_ge c.w (i+1) k 128
   have hG2:=grownCap_le_maxLen c.w (i+1) k 128 (by unfold maxLen;omega)
   generalize grownCap c.w (i+1) k 128 = G at hG hG2 ⊢
   refine ins_go hc hH hn hi (bN:=c.w.heap.size) (kN:=G) (vs0:=vs0) (vs1:=(cs++us).toArray++Builtin.zeroCells zMove.cells (G - (i+1))) (us:=us) (cs:=cs) (.inr (Nat.le_refl _)) (by omega) ?_ ?_ hG (by unfold maxLen at hG2;omega) r6 hcsg hnewf (fun j hj=>?_) (fun b1 h1 h2=>?_) ?_ rfl rfl rfl
   ·show (c.w.heap.push _)[c.w.heap.size]? = _
    rw [Array.getElem?_push_size];rfl
   ·have hzc:zMove.cells.size = 4:=rfl
    simp only [Array.size_append,zeroCells_size,hzc,List.size_toArray,List.length_append,hus4,hcsl];omega
   ·rw [Array.getElem?_append_left (by simp [hcsl,hus4];omega),List.getElem?_toArray,List.getElem?_append,hcsl]
    by_cases e1:j < i * 4
    ·rw [if_pos e1,if_pos e1]
    ·rw [if_neg e1,if_neg e1,if_pos (by omega)]
   ·exact heap_push_lt h1
   ·show c.w.heap.size≤(c.w.heap.push _).size
    rw [Array.size_push];omega
 ·have hin':i < n:=by omega
  by_cases hk:n+1≤k
  ·refine (Tryz.insM_shift b n k i b' c' cs us c.w hin' hk (by omega) hvb hcsl hus4 hcsc (hsp hk) (fun j _=>hfz _) husc hcs1 hus1 t_Move t_Move va.size vs0.size (by simp [World.shape?,va1]) (by simp [World.shape?,r1]) (by omega) (by simp [World.frozen?,va1]) (by simp [World.frozen?,va1])).mono ?_
   rintro e w' ⟨rfl,rfl⟩
   have hdl:(cs.drop (i * 4)).length = (n - i) * 4:=by rw [List.length_drop,hcsl];omega
   have hsp':∀ j,j < (n+1) * 4→(c.w.drew.cell? ⟨b,j,none⟩).isSome = true:=hsp hk
   obtain ⟨g1,g2,g3,g4,g5,g6⟩:=heap_setCells b (cs.drop (i * 4)) ((i+1) * 4) c.w.drew
   obtain ⟨vsA,g7,g8⟩:=g3 _ _ _ r1
   generalize hW1:c.w.drew.setCells b ((i+1) * 4) (cs.drop (i * 4)) = W1 at g1 g2 g3 g4 g5 g6 g7 ⊢
   obtain ⟨f1,f2,f3,f4,f5,f6⟩:=heap_setCells b us (i * 4) W1
   obtain ⟨vs1,f7,f8⟩:=f3 _ _ _ g7
   have hw:∀ j,vs1[j]? = (W1.setCells b (i * 4) us).cell? ⟨b,j,none⟩:=fun j=>by simp only [World.cell?,f7];rfl
   refine ins_go hc hH hn hi (bN:=b) (kN:=k) (vs0:=vs0) (vs1:=vs1) (us:=us) (cs:=cs) (.inl ⟨k,hρ0⟩) (by omega) f7 (by rw [f8,g8,r2]) hk r4 r6 hcsg hnewf (fun j hj=>?_) (fun b1 _ h2=>by rw [f2 b1 h2,g2 b1 h2];rfl) (by rw [f1,g1];exact Nat.le_refl _) (by rw [f4,g4];rfl) (by rw [f5,g5];rfl) (by rw [f6,g6];rfl)
   rw [hw]
   have hsp1:∀ j,j < (n+1) * 4→(W1.cell? ⟨b,j,none⟩).isSome = true:=fun j hj=>by
    rw [← hW1]
    exact isSome_setCells b _ _ c.w.drew (fun t ht=>hsp' ((i+1) * 4+t) (by rw [hdl] at ht;omega)) _ (hsp' j hj)
   by_cases e1:j < i * 4
   ·rw [if_pos e1,World.cell?_setCells_out b _ _ _ _ (fun _ _=>.inl e1),← hW1,World.cell?_setCells_out b _ _ _ _ (fun _ _=>.inl (by show j < (i+1) * 4;omega))]
    show c.w.cell? ⟨b,j,none⟩ = _
    rw [hcell,hcsg j (by omega)]
   ·rw [if_neg e1]
    by_cases e2:j < i * 4+4
    ·rw [if_pos e2]
     have:=World.cell?_setCells_in b us (i * 4) W1 (fun t ht=>hsp1 _ (by omega)) (j - i * 4) (by omega)
     rw [show i * 4+(j - i * 4) = j by omega] at this
     rw [this,List.getElem?_eq_getElem]
    ·rw [if_neg e2,World.cell?_setCells_out b _ _ _ _ (fun _ _=>.inr (by show i * 4+us.length≤j;omega)),← hW1]
     have:=World.cell?_setCells_in b (cs.drop (i * 4)) ((i+1) * 4) c.w.drew (fun t ht=>hsp' _ (by omega)) (j - (i+1) * 4) (by omega)
     rw [show (i+1) * 4+(j - (i+1) * 4) = j by omega] at this
     rw [this,← List.getElem?_eq_getElem,List.getElem?_drop,show i * 4+(j - (i+1) * 4) = j - 4 by omega]
  ·refine (Tryz.insM_grow b n k i b' c' cs us c.w hin' r3 (by omega) (by omega) hcsl hus4 hcsc husc hcs1 hus1).mono ?_
   rintro e w' ⟨rfl,rfl⟩
   have hG:=grownCap_ge c.w (n+1) k 128
   have hG2:=grownCap_le_maxLen c.w (n+1) k 128 (by unfold maxLen;omega)
   generalize grownCap c.w (n+1) k 128 = G at hG hG2 ⊢
   have hdl:(cs.drop (i * 4)).length = (n - i) * 4:=by rw [List.length_drop,hcsl];omega
   have hzc:zMove.cells.size = 4:=rfl
   generalize hR:(cs.take (i * 4)).toArray++Builtin.zeroCells zMove.cells (n+1 - i)++Builtin.zeroCells zMove.cells (G - (n+1)) = ROW
   have hRs:ROW.size = G * 4:=by
    rw [← hR]
    simp only [Array.size_append,zeroCells_size,hzc,List.size_toArray,List.length_take,hcsl];omega
   have hRg:∀ j,j < i * 4→ROW[j]? = cs[j]?:=fun j hj=>by
    rw [← hR,Array.getElem?_append_left (by simp [zeroCells_size,hzc,hcsl];omega),Array.getElem?_append_left (by simp [hcsl];omega),List.getElem?_toArray,List.getElem?_take,if_pos hj]
   generalize hN:c.w.heap.size = N
   have hNb:∀ j,(c.w.alloc (.cells ROW 128)).cell? ⟨N,j,none⟩ = ROW[j]?:=fun j=>World.cell?_alloc_at (w:=c.w) ROW _ N j hN.symm
   generalize hW0:(c.w.alloc (.cells ROW 128)).drew = W0
   have hW0c:∀ j,W0.cell? ⟨N,j,none⟩ = ROW[j]?:=fun j=>by rw [← hW0];exact hNb j
   have hW0h:W0.heap = c.w.heap.push (.cells ROW 128):=by rw [← hW0];rfl
   obtain ⟨g1,g2,g3,g4,g5,g6⟩:=heap_setCells N us (i * 4) W0
   obtain ⟨vsA,g7,g8⟩:=g3 ROW t_Move (0,0) (by rw [hW0h,← hN,Array.getElem?_push_size];rfl)
   have hsA:∀ j,j < (n+1) * 4→((W0.setCells N (i * 4) us).cell? ⟨N,j,none⟩).isSome = true:=fun j hj =>
    isSome_setCells N us _ W0 (fun t ht=>by rw [hW0c,Array.getElem?_eq_getElem (by omega)];rfl) _ (by rw [hW0c,Array.getElem?_eq_getElem (by omega)];rfl)
   generalize hW1:W0.setCells N (i * 4) us = W1 at g1 g2 g3 g4 g5 g6 g7 hsA ⊢
   obtain ⟨f1,f2,f3,f4,f5,f6⟩:=heap_setCells N (cs.drop (i * 4)) ((i+1) * 4) W1.drew
   obtain ⟨vs1,f7,f8⟩:=f3 _ _ _ g7
   have hw:∀ j,vs1[j]? = (W1.drew.setCells N ((i+1) * 4) (cs.drop (i * 4))).cell? ⟨N,j,none⟩:=fun j=>by simp only [World.cell?,f7];rfl
   have hold:∀ b1,b1 < c.w.heap.size→b1 ≠ N→W0.heap[b1]? = c.w.heap[b1]?:=fun b1 h _=>by rw [hW0h];exact heap_push_lt h
   refine ins_go hc hH hn hi (bN:=N) (kN:=G) (vs0:=vs0) (vs1:=vs1) (us:=us) (cs:=cs) (.inr (by omega)) (by omega) f7 (by rw [f8,g8,hRs]) hG (by unfold maxLen at hG2;omega) r6 hcsg hnewf (fun j hj=>?_) (fun b1 h1 h2=>?_) ?_ ?_ ?_ ?_
   ·rw [hw]
    by_cases e1:j < i * 4
    ·rw [if_pos e1,World.cell?_setCells_out N _ _ _ _ (fun _ _=>.inl (by show j < (i+1) * 4;omega))]
     show W1.cell? ⟨N,j,none⟩ = _
     rw [← hW1,World.cell?_setCells_out N _ _ _ _ (fun _ _=>.inl e1),hW0c,hRg j e1]
    ·rw [if_neg e1]
     by_cases e2:j < i * 4+4
     ·rw [if_pos e2,World.cell?_setCells_out N _ _ _ _ (fun _ _=>.inl (by show j < (i+1) * 4;omega))]
      show W1.cell? ⟨N,j,none⟩ = _
      rw [← hW1]
      have:=World.cell?_setCells_in N us (i * 4) W0 (fun t ht=>by rw [hW0c,Array.getElem?_eq_getElem (by omega)];rfl) (j - i * 4) (by omega)
      rw [show i * 4+(j - i * 4) = j by omega] at this
      rw [this,List.getElem?_eq_getElem]
     ·rw [if_neg e2]
      have:=World.cell?_setCells_in N (cs.drop (i * 4)) ((i+1) * 4) W1.drew (fun t ht=>hsA _ (by omega)) (j - (i+1) * 4) (by omega)
      rw [show (i+1) * 4+(j - (i+1) * 4) = j by omega] at this
      rw [this,← List.getElem?_eq_getElem,List.getElem?_drop,show i * 4+(j - (i+1) * 4) = j - 4 by omega]
   ·rw [f2 b1 h2]
    show W1.heap[b1]? = _
    rw [g2 b1 h2,hold b1 h1 h2]
   ·rw [f1]
    show c.w.heap.size≤W1.heap.size
    rw [g1,hW0h,Array.size_push];omega
   ·rw [f4]
    show W1.os = _
    rw [g4,← hW0];rfl
   ·rw [f5]
    show W1.tape = _
    rw [g5,← hW0];rfl
   ·rw [f6]
    show W1.output = _
    rw [g6,← hW0];rfl
end Go.Dw
end
section
namespace Go.Dw
theorem BinarySearch_mv (s:List AMove) (x:AMove) (hs:SortedM s) (hl:s.length < 2^61) :
  PF n_slices_BinarySearchFunc_s_Move_Move_Move [encMvs s,encMv x,.fn (.func n_bounds_compare) [] []] (.tup [.int .i64 (lbM x s),.bool (foundM x s)]):=by
 refine pf_of slices_BinarySearchFunc_s_Move_Move_Move.ok rfl ?_
 have hle:=lbM_le x s
 push_cast
 have key:∀ (m i j:Nat),j - i≤m→i≤lbM x s→lbM x s≤j→j≤s.length→slices_BinarySearchFunc_s_Move_Move_Move.L3 (encMvs s) (.fn (.func n_bounds_compare) [] []) (.ro (cMv x) 0) (.int .i64 s.length) (.int .i64 i) (.int .i64 j) 0 []
   (Ends 0 slices_BinarySearchFunc_s_Move_Move_Move.rs fun x' H'=>x' = .tup [.int .i64 (lbM x s),.bool (foundM x s)]∧H' = []):=by
  intro m
  induction m with
  | zero =>
   intro i j hm h1 h2 h3
   have hij:i = lbM x s:=by omega
   refine slices_BinarySearchFunc_s_Move_Move_Move.G3 ?_
   push_cast [inlt (show j≤i by omega)]
   unfold foundM
   by_cases hi:i < s.length
   ·push_cast [ilt hi]
    refine .of (bounds_compare_s _ _) ?_
    push_cast
    refine pf_ret ?_
    push_cast [slices_BinarySearchFunc_s_Move_Move_Move.rs,cmpM_zero,hij]
    rw [hij] at hi
    simp [hi]
   ·push_cast [inlt (show s.length≤i by omega)]
    refine pf_ret ?_
    push_cast [slices_BinarySearchFunc_s_Move_Move_Move.rs,hij]
    simp;omega
  | succ m ih =>
   intro i j hm h1 h2 h3
   by_cases hij:i < j
   ·refine slices_BinarySearchFunc_s_Move_Move_Move.G3 ?_
    have hh:=half (i:=i) (j:=j) (by omega) (by omega)
    generalize hq:(i+j) / 2 = h at hh
    have hk:h < s.length:=by omega
    push_cast [ilt hij]
    simp only [hh]
    push_cast [ilt hk]
    refine .of (bounds_compare_s _ _) ?_
    push_cast [w64 (show h < 2^62 by omega),cmpM_neg]
    refine ⟨fun hc=>ih (h+1) j (by omega) ?_ h2 h3,fun hc=>ih i h (by omega) h1 ?_ (by omega)⟩
    ·rcases Nat.lt_or_ge h (lbM x s) with h4 | h4
     ·omega
     ·rw [lbM_ge hs h4 hk] at hc;cases hc
    ·rcases Nat.lt_or_ge h (lbM x s) with h4 | h4
     ·rw [lbM_lt h4] at hc;simp at hc
     ·exact h4
   ·exact ih i j (by omega) h1 h2 h3
 exact key s.length 0 s.length (by omega) (by omega) hle (Nat.le_refl _)
theorem rens_cMvs {σ:Nat→Option Nat} {l:List AMove}:(l.map cMv).map (rens σ) = l.map cMv:=by rw [List.map_map];rfl
theorem Clone_mv (l:List AMove) (hl:l.length < 2^38):Spec prog n_slices_Clone_s_Move_Move [encMvs l] [] fun x H'=>x = .rw 0 4 l.length∧H' = [.row t_Move 4 (l.map cMv)]:=by
 refine spec_of_run mixed slices_Clone_s_Move_Move.ok rfl ?_
 push_cast
 intro c hc
 cases c with
 | true =>
  have hnil:l = []:=by simpa using hc rfl
  subst hnil
  push_cast
  refine ⟨fun _=>?_,fun h=>absurd h (by decide)⟩
  exact ends_ex (.inl rfl) [1] (x:=.rw 1 4 0) (by simp) (by simp) rfl ⟨rfl,rfl⟩
 | false =>
  push_cast
  refine ⟨fun h=>absurd h (by decide),fun _=>⟨by rw [List.length_map];unfold maxEls;omega,?_⟩⟩
  rw [List.length_map]
  refine ends_ex (.inl rfl) [2] (x:=.rw 2 4 l.length) (by simp) (by simp) rfl ⟨rfl,?_⟩
  show [renOb _ (.row t_Move 4 (l.map cMv))] = _
  rw [renOb_row,rens_cMvs]
def insA (a:AAut) (x:AMove):AAut:=⟨a.states,a.bound,insM x a.moves⟩
def insV (a:AAut) (x:AMove):V:=.tup [encAu (insA a x),.bool (decide ((insA a x).moves.length≤4096))]
theorem bounds_insert_s (a:AAut) (x:AMove) (hs:SortedM a.moves) (hl:a.moves.length < 2^38):PF n_bounds_insert [encAu a,encMv x] (insV a x):=by
 refine pf_of bounds_insert.ok rfl ?_
 push_cast
 refine .of (BinarySearch_mv a.moves x hs (by omega)) ?_
 have hlb:=lbM_le x a.moves
 have hlen:(((insM x a.moves).length:Int)≤4096) = ((insM x a.moves).length≤4096):=propext ⟨fun h=>by omega,fun h=>by omega⟩
 have hV:insV a x = .tup [encAu (insA a x),.bool (decide ((insM x a.moves).length≤4096))]:=rfl
 cases hf:foundM x a.moves with
 | true =>
  have hi:insM x a.moves = a.moves:=by unfold insM;rw [hf];rfl
  rw [hi] at hlen hV
  have hA:insA a x = a:=by unfold insA;rw [hi]
  rw [hA] at hV
  push_cast
  refine (?_:Run prog bounds_insert.nd 0 [.r [],.c (.n 0)] _ _ (Ends 0 bounds_insert.rs _))
  push_cast [hlen]
  exact pf_ret (by push_cast [bounds_insert.rs];exact hV.symm)
 | false =>
  have hi:insM x a.moves = a.moves.take (lbM x a.moves)++x :: a.moves.drop (lbM x a.moves):=by unfold insM;rw [hf];rfl
  have hi2:(a.moves.map cMv).take (lbM x a.moves)++cMv x :: (a.moves.map cMv).drop (lbM x a.moves) = (insM x a.moves).map cMv:=by rw [hi];simp
  have hil:a.moves.length+1 = (insM x a.moves).length:=by rw [hi];simp;omega
  have hcl:=Clone_mv a.moves hl
  have hin:=insertM_row (a.moves.map cMv) (cMv x) (lbM x a.moves) a.moves.length (by simp) hlb (by unfold maxEls;omega)
  rw [hi2,hil] at hin
  have hsl:V.sl 4 ((insM x a.moves).map cMv) = encMvs (insM x a.moves):=rfl
  have hput:∀ v,put 2 [v] (cAu a) = [.int .i64 a.states,.int .i64 a.bound,v]:=fun _=>rfl
  have hagg:[V.int .i64 a.states,V.int .i64 a.bound,encMvs (insM x a.moves)] = cAu (insA a x):=rfl
  have hp3:∀ u v w,put 0 (cAu (insA a x)) [u,v,w] = cAu (insA a x):=fun _ _ _=>rfl
  have hlen2:(((insA a x).moves.length:Int)≤4096) = ((insM x a.moves).length≤4096):=hlen
  push_cast
  refine ⟨?_,?_⟩
  ·refine CallG.some [] List.nodup_nil (fun i hi=>by cases hi) (R:=fun x' H'=>x' = .rw 0 4 a.moves.length∧H' = [.row t_Move 4 (a.moves.map cMv)]) (by rw [pos_nil];push_cast;exact hcl) ?_
   rintro x' H' ⟨rfl,rfl⟩ _
   rw [takeB_none]
   have hbk:back [] 2 = fun i=>some (2+i):=by funext i;simp [back]
   push_cast [hbk,rens_cMvs]
   refine CallG.some [2,3] (by simp) (by simp) (R:=fun x' H'=>x' = .rw 0 4 (insM x a.moves).length∧H' = [.row t_Move 4 ((insM x a.moves).map cMv),.arr t_Move 4 1]) ?_ ?_
   ·have hg:∀ a b c d:Ob,give [2,3] [a,b,c,d] = [renOb (pos? [2,3]) c,renOb (pos? [2,3]) d]:=fun _ _ _ _=>rfl
    have h2:pos? [2,3] 2 = some 0:=rfl
    have h3:pos? [2,3] 3 = some 1:=rfl
    rw [hg]
    push_cast [h2,h3,rens_cMvs]
    exact hin
   ·rintro x' H' ⟨rfl,rfl⟩ _
    have ht:∀ a b c d e f:Ob,takeB [2,3] [a,b,c,d] [e,f] = [a,b,renOb (back [2,3] 4) e,renOb (back [2,3] 4) f]:=fun _ _ _ _ _ _=>rfl
    have hb0:∀ n,back [2,3] n 0 = some 2:=fun _=>rfl
    rw [ht]
    push_cast [hb0,hput,rens_cMvs,hsl,hagg,hlen2,hp3,List.length_map]
    exact pf_ret (by push_cast [bounds_insert.rs];exact hV.symm)
  ·refine CallG.some [] List.nodup_nil (fun i hi=>by cases hi) (R:=fun x' H'=>x' = .rw 0 4 a.moves.length∧H' = [.row t_Move 4 (a.moves.map cMv)]) (by rw [pos_nil];push_cast;exact hcl) ?_
   rintro x' H' ⟨rfl,rfl⟩ _
   rw [takeB_none]
   have hbk:back [] 3 = fun i=>some (3+i):=by funext i;simp [back]
   push_cast [hbk,rens_cMvs]
   refine CallG.some [3,2] (by simp) (by simp) (R:=fun x' H'=>x' = .rw 0 4 (insM x a.moves).length∧H' = [.row t_Move 4 ((insM x a.moves).map cMv),.arr t_Move 4 1]) ?_ ?_
   ·have hg:∀ a b c d:Ob,give [3,2] [a,b,c,d] = [renOb (pos? [3,2]) d,renOb (pos? [3,2]) c]:=fun _ _ _ _=>rfl
    have h2:pos? [3,2] 3 = some 0:=rfl
    have h3:pos? [3,2] 2 = some 1:=rfl
    rw [hg]
    push_cast [h2,h3,rens_cMvs]
    exact hin
   ·rintro x' H' ⟨rfl,rfl⟩ _
    have ht:∀ a b c d e f:Ob,takeB [3,2] [a,b,c,d] [e,f] = [a,b,renOb (back [3,2] 4) f,renOb (back [3,2] 4) e]:=fun _ _ _ _ _ _=>rfl
    have hb0:∀ n,back [3,2] n 0 = some 3:=fun _=>rfl
    rw [ht]
    push_cast [hb0,hput,rens_cMvs,hsl,hagg,hlen2,hp3,List.length_map]
    exact pf_ret (by push_cast [bounds_insert.rs];exact hV.symm)
end Go.Dw
end
section
namespace Go.Dw
theorem longest_1_s (h t:Int):PF n_bounds_longest_1 [.int .i64 h,.ro [.int .i64 t] 0] (.bool (decide (h = t))):=by
 refine pf_of bounds_longest_1.ok rfl ?_
 push_cast
 exact pf_ret (by push_cast [bounds_longest_1.rs])
def longGo (mv:List AMove) (p:Int) (w:List Str) (h:Int):Nat→Int × Nat
 | 0=>(p,0)
 | n+1=>match (readsL mv (fun x=>decide (x = h)) p (w.take (n+1))).getLast? with
  | some s=>(s.1,n+1)
  | none=>longGo mv p w h n
def longestM (mv:List AMove) (p:Int) (w:List Str) (h:Int):Int × Nat:=longGo mv p w h (w.length - 1)
theorem bounds_longest_s (mv:List AMove) (ho:OkA mv) (p:Int) (hp:0≤p∧p < 256) (w:List Str) (h:Int) (hw:w.length < 2^38) (hw1:0 < w.length) (hmv:mv.length < 2^38) :
  Spec prog n_bounds_longest [.map 0,.int .i64 p,encSs w,.int .i64 h] [.map (encGr (fromM mv))] fun x H'=>x = .tup [.int .i64 (longestM mv p w h).1,.int .i64 (longestM mv p w h).2]∧H' = [.map (encGr (fromM mv))]:=by
 refine spec_of_run mixed bounds_longest.ok rfl ?_
 push_cast
 rw [wrap64 (by omega) (by omega)]
 unfold longestM
 generalize hR:longGo mv p w h (w.length - 1) = R
 have key:∀ n,n < w.length→longGo mv p w h n = R→bounds_longest.L3 (.map 0) (.int .i64 p) (encSs w) (.ro [.int .i64 h] 0) (.int .i64 n) 1 [.map (encGr (fromM mv))] (Ends 1 bounds_longest.rs fun x H'=>x = .tup [.int .i64 R.1,.int .i64 R.2]∧H' = [.map (encGr (fromM mv))]):=by
  intro n
  induction n with
  | zero =>
   intro hn hq
   refine bounds_longest.G3 ?_
   push_cast
   simp only [longGo] at hq
   subst hq
   exact ends_keep (H:=[.map (encGr (fromM mv))]) (J:=[]) (n:=1) ⟨rfl,by push_cast⟩ rfl ⟨rfl,rfl⟩
  | succ n ih =>
   intro hn hq
   refine bounds_longest.G3 ?_
   have h0:(0 < (((n+1:Nat)):Int)) = True:=eq_true (by omega)
   have htn:(((n+1:Nat):Int)).toNat = n+1:=by omega
   have hle:n+1≤w.length:=by omega
   have hge:(0≤(((n+1:Nat)):Int)) = True:=eq_true (by omega)
   generalize hm:n+1 = m at *
   push_cast [h0,hge,htn,hle,Nat.sub_zero,List.drop_zero,Nat.zero_le]
   refine CallG.all (R:=fun x H'=>x = encSps (readsL mv (fun x=>decide (x = h)) p (w.take m))∧H' = [.map (encGr (fromM mv))]) ?_ ?_
   ·exact bounds_graph_reads_t (f:=n_bounds_longest_1) (caps:=[.ro [.int .i64 h] 0]) (fun x=>decide (x = h)) (fun _=>rfl) mv (fun x _=>longest_1_s x.h h) p (w.take m) (by simp;omega) (by omega) (fun k _=>by have:=readL_len ho (fun x=>decide (x = h)) hp ((w.take m).take k);omega)
   rintro x H' ⟨rfl,rfl⟩
   have hsl:=readsL_len ho (fun x=>decide (x = h)) hp (w.take m)
   subst hm
   simp only [longGo] at hq
   generalize readsL mv (fun x=>decide (x = h)) p (w.take (n+1)) = sl at hsl hq ⊢
   have hwm:IntKind.i64.wrap (((n+1:Nat):Int) - 1) = (n:Int):=by rw [wrap64 (by omega) (by omega)];omega
   cases hgl:sl.getLast? with
   | none =>
    have hnil:sl = []:=List.getLast?_eq_none_iff.1 hgl
    rw [hgl] at hq
    subst hnil
    generalize hm:n+1 = m at *
    push_cast [hwm]
    have:=ih (by omega) hq
    push_cast at this
    exact this
   | some s =>
    rw [hgl] at hq
    simp only at hq
    have hlen:0 < sl.length:=by
     cases sl with
     | nil=>cases hgl
     | cons a l=>simp
    have h1:(0 < (sl.length:Int)) = True:=eq_true (by omega)
    have h2:IntKind.i64.wrap ((sl.length:Int) - 1) = ((sl.length - 1:Nat):Int):=by rw [wrap64 (by omega) (by omega)];omega
    have h3:sl.getD (sl.length - 1) default = s:=by
     rw [List.getLast?_eq_getElem?] at hgl
     rw [List.getD_eq_getElem?_getD,hgl];rfl
    have h4:sl.length - 1 < sl.length:=by omega
    have h5:(((sl.length - 1:Nat):Int) < (sl.length:Int)) = True:=eq_true (by omega)
    generalize hm:n+1 = m at *
    generalize sl.length - 1 = q at h2 h3 h4 h5
    push_cast [h1,h2,h3,h4,h5]
    subst hq
    exact ends_keep (H:=[.map (encGr (fromM mv))]) (J:=[]) (n:=1) ⟨rfl,by push_cast⟩ rfl ⟨rfl,rfl⟩
 have:=key (w.length - 1) (by omega) hR
 rw [show ((w.length - 1:Nat):Int) = (w.length:Int) - 1 by omega] at this
 exact this
end Go.Dw
end
section
namespace Go.Dw
theorem cMs_0 (m:AMs):(cMs m)[0]? = some (.int .i64 m.p):=rfl
theorem cMs_1 (m:AMs):(cMs m)[1]? = some (.int .i64 m.q):=rfl
theorem cMs_2 (m:AMs):(cMs m)[2]? = some (.int .i64 m.h):=rfl
theorem cMs_3 (m:AMs):(cMs m)[3]? = some (encSs m.word):=rfl
theorem cMs_len (m:AMs):(cMs m).length = 4:=rfl
theorem sto_encMs (m:AMs):sto (encMs m) = some (cMs m):=rfl
theorem ren_encMs {σ:Nat→Option Nat} (m:AMs):ren σ (encMs m) = encMs m:=rfl
theorem rens_cMs {σ:Nat→Option Nat} (m:AMs):rens σ (cMs m) = cMs m:=rfl
theorem agg_cMs (m:AMs):V.agg (cMs m) = encMs m:=rfl
theorem sub_cMs (m:AMs):sub 0 4 (cMs m) = cMs m:=rfl
attribute [push_cast] cMs_0 cMs_1 cMs_2 cMs_3 cMs_len sto_encMs ren_encMs rens_cMs agg_cMs sub_cMs
def setSt (a:AAut):AAut:=⟨a.states+1,a.bound,a.moves⟩
def addTo (m:AMs) (a:AAut) (w:List Str):Int:=if w = [] then m.q else a.states
def addA (m:AMs) (a:AAut) (at_:Int) (c:Str) (w:List Str):AAut:=insA (if w = [] then a else setSt a) ⟨at_,addTo m a w,c,m.h⟩
def addWd (m:AMs):List Str→AAut→Int→AAut × Bool
 | [],a,at_=>(a,true)
 | c :: w,a,at_=>if (addA m a at_ c w).moves.length≤4096 then addWd m w (addA m a at_ c w) (addTo m a w) else (addA m a at_ c w,false)
def addEnd (r:AAut × Bool) (states:Int):AAut × Bool:=(r.1,r.2 && decide (r.1.states≤states))
def addM (a:AAut) (m:AMs) (states:Int):AAut × Bool :=
 if a.bound < m.h ∨ m.word = [] then (a,false) else addEnd (addWd m (m.word.drop (longestM a.moves m.p m.word m.h).2) a (longestM a.moves m.p m.word m.h).1) states
theorem addWd_cons (m:AMs) (c:Str) (w:List Str) (a:AAut) (at_:Int):addWd m (c :: w) a at_ = if (addA m a at_ c w).moves.length≤4096 then addWd m w (addA m a at_ c w) (addTo m a w) else (addA m a at_ c w,false):=rfl
theorem put_cAu (a:AAut) (u v w:V):put 0 (cAu a) [u,v,w] = cAu a:=rfl
theorem put_st (a:AAut):put 0 [V.int .i64 (a.states+1)] (cAu a) = cAu (setSt a):=rfl
theorem put_cAu2 (a b:AAut):put 0 (cAu a) (cAu b) = cAu a:=rfl
attribute [push_cast] put_cAu put_cAu2
abbrev zAu:List V:=[.int .i64 0,.int .i64 0,.sl 4 []]
abbrev adH (a:AAut) (G:Ob):List Ob:=[.cells t_Automaton (cAu a),.cells t_Automaton zAu,G]
theorem add_fin (a:AAut) (m:AMs) (states:Int) (ok:Bool) (at_ n:V) (G:Ob) (T:AAut × Bool) (hT:(a,ok && decide (a.states≤states)) = T) (hn:∃ k:Nat,n = .int .i64 k∧(ok = true→m.word.length≤k)) :
  bounds_add.L4 (.int .i64 states) (.ptr 0 0) (.ro (cMs m) 0) (.ptr 1 0) at_ n (.bool ok) 0 (adH a G) (Ends 0 bounds_add.rs fun x' H'=>x' = .tup [encAu T.1,.bool T.2]∧H' = []):=by
 obtain ⟨k,rfl,hk⟩:=hn
 subst hT
 refine bounds_add.G4 ?_
 cases ok with
 | false =>
  by_cases hc:k < m.word.length
  ·push_cast [ilt hc]
   exact pf_ret (by push_cast [bounds_add.rs])
  ·push_cast [inlt (show m.word.length≤k by omega)]
   exact pf_ret (by push_cast [bounds_add.rs])
 | true =>
  push_cast [inlt (hk rfl)]
  exact pf_ret (by push_cast [bounds_add.rs])
theorem add_walk (m:AMs) (states:Int) (G:Ob) (hG:∀ σ,renOb (clip σ) G = G) (T:AAut × Bool) (hw:m.word.length < 2^37):∀ (k n:Nat) (a:AAut) (at_:Int),n+k = m.word.length→SortedM a.moves→a.moves.length+k < 2^38→0≤a.states→a.states+k < 2^38 →
  addEnd (addWd m (m.word.drop n) a at_) states = T →
  bounds_add.L4 (.int .i64 states) (.ptr 0 0) (.ro (cMs m) 0) (.ptr 1 0) (.int .i64 at_) (.int .i64 n) (.bool true) 0 (adH a G) (Ends 0 bounds_add.rs fun x' H'=>x' = .tup [encAu T.1,.bool T.2]∧H' = []):=by
 intro k
 induction k with
 | zero =>
  intro n a at_ hn _ _ _ _ hT
  rw [List.drop_of_length_le (by omega)] at hT
  unfold addWd addEnd at hT
  exact add_fin a m states true _ _ G T hT ⟨n,rfl,fun _=>by omega⟩
 | succ k ih =>
  intro n a at_ hn hs hl hst1 hst2 hT
  have hnl:n < m.word.length:=by omega
  rw [drop_getD hnl] at hT
  have hwd:m.word.drop (n+1) = [] ↔ n+1 = m.word.length:=by rw [List.drop_eq_nil_iff];omega
  have ih':=ih (n+1)
  generalize hR:m.word.drop (n+1) = R at hT hwd ih'
  refine bounds_add.G4 ?_
  have hcx:m.word.getD n default = m.word.getD n default:=rfl
  generalize hc0:m.word.getD n default = c at hT
  rw [addWd_cons] at hT
  have hlm:IntKind.i64.wrap ((m.word.length:Int) - 1) = ((m.word.length - 1:Nat):Int):=by rw [wrap64 (by omega) (by omega)];omega
  have hbd4:∀ u v s h,V.agg [V.int .i64 u,V.int .i64 v,V.str s,V.int .i64 h] = encMv ⟨u,v,s,h⟩:=fun _ _ _ _=>rfl
  have step:∀ (a1:AAut),SortedM a1.moves→a1.moves.length = a.moves.length→0≤a1.states→a1.states≤a.states+1→addA m a at_ c R = insA a1 ⟨at_,addTo m a R,c,m.h⟩ →
    (∀ b:Bool,bounds_add.L4 (.int .i64 states) (.ptr 0 0) (.ro (cMs m) 0) (.ptr 1 0) (.int .i64 (addTo m a R)) (.int .i64 ((n:Int)+1)) (.bool (decide ((addA m a at_ c R).moves.length≤4096))) 0 (adH (addA m a at_ c R) G) (Ends 0 bounds_add.rs fun x' H'=>x' = .tup [encAu T.1,.bool T.2]∧H' = [])):=by
   intro a1 h1 h2 h3 h4 h5 b
   by_cases hle:(addA m a at_ c R).moves.length≤4096
   ·rw [if_pos hle] at hT
    rw [decide_eq_true hle]
    have hlen:(addA m a at_ c R).moves.length≤a.moves.length+1:=by
     rw [h5];unfold insA;simp only;rw [insM_len h1];split <;> omega
    have hst:(addA m a at_ c R).states = a1.states:=by rw [h5];rfl
    have:=ih' (addA m a at_ c R) (addTo m a R) (by omega) (by rw [h5];exact insM_sorted h1) (by omega) (by omega) (by omega) hT
    push_cast at this
    exact this
   ·rw [if_neg hle] at hT
    rw [decide_eq_false hle]
    unfold addEnd at hT
    have:=add_fin (addA m a at_ c R) m states false (.int .i64 (addTo m a R)) (.int .i64 ((n+1:Nat):Int)) G T hT ⟨n+1,rfl,fun h=>by cases h⟩
    push_cast at this
    exact this
  by_cases hlast:n+1 = m.word.length
  ·have hRn:=hwd.2 hlast
   have hto:addTo m a R = m.q:=by unfold addTo;rw [if_pos hRn]
   have hA:addA m a at_ c R = insA a ⟨at_,addTo m a R,c,m.h⟩:=by unfold addA;rw [if_pos hRn]
   have hfin:=step a hs rfl hst1 (by omega) hA true
   have hnl2:((n:Int) < ((m.word.length - 1:Nat):Int)) = False:=eq_false (by omega)
   generalize m.word.length - 1 = L1 at hlm hnl2
   push_cast [ilt hnl,hnl,hlm,hnl2,hc0,hbd4]
   refine .of (bounds_insert_s a ⟨at_,m.q,c,m.h⟩ hs (by omega)) ?_
   rw [hto] at hA hfin
   rw [hA] at hfin
   unfold insV
   push_cast [w64 (show n < 2^62 by omega),hG]
   push_cast at hfin
   exact hfin
  ·have hRn:R ≠ []:=fun h=>hlast (hwd.1 h)
   have hto:addTo m a R = a.states:=by unfold addTo;rw [if_neg hRn]
   have hA:addA m a at_ c R = insA (setSt a) ⟨at_,addTo m a R,c,m.h⟩:=by unfold addA;rw [if_neg hRn]
   have hfin:=step (setSt a) hs rfl (by show 0≤a.states+1;omega) (Int.le_refl _) hA true
   have hnl2:((n:Int) < ((m.word.length - 1:Nat):Int)) = True:=eq_true (by omega)
   generalize m.word.length - 1 = L1 at hlm hnl2
   have hws:IntKind.i64.wrap (a.states+1) = a.states+1:=wrap64 (by omega) (by omega)
   push_cast [ilt hnl,hnl,hlm,hnl2,hc0,hbd4,hws,put_st]
   refine .of (bounds_insert_s (setSt a) ⟨at_,a.states,c,m.h⟩ hs (by show a.moves.length < _;omega)) ?_
   rw [hto] at hA hfin
   rw [hA] at hfin
   unfold insV
   push_cast [w64 (show n < 2^62 by omega),hG]
   push_cast at hfin
   exact hfin
theorem longGo_le (mv:List AMove) (p:Int) (w:List Str) (h:Int):∀ n,(longGo mv p w h n).2≤n
 | 0=>Nat.le_refl _
 | n+1=>by
  simp only [longGo]
  split
  ·exact Nat.le_refl _
  ·exact Nat.le_trans (longGo_le mv p w h n) (Nat.le_succ n)
theorem bounds_add_s (a:AAut) (m:AMs) (states:Int) (hs:SortedM a.moves) (ho:OkA a.moves) (hl:a.moves.length < 2^37) (hst:0≤a.states∧a.states < 2^37) (hp:0≤m.p∧m.p < 256) (hw:m.word.length < 2^37) :
  PF n_bounds_add [encAu a,encMs m,.int .i64 states] (.tup [encAu (addM a m states).1,.bool (addM a m states).2]):=by
 refine pf_of bounds_add.ok rfl ?_
 generalize hT:addM a m states = T
 unfold addM at hT
 by_cases h1:a.bound < m.h
 ·rw [if_pos (.inl h1)] at hT
  subst hT
  push_cast [eq_true h1]
  exact pf_ret (by push_cast [bounds_add.rs])
 by_cases h2:m.word = []
 ·rw [if_pos (.inr h2)] at hT
  subst hT
  push_cast [eq_false h1,h2]
  exact pf_ret (by push_cast [bounds_add.rs])
 have h2l:0 < m.word.length:=by
  cases hm:m.word with
  | nil=>exact absurd hm h2
  | cons=>simp
 have h2i:((m.word.length:Int) = 0) = False:=eq_false (by omega)
 rw [if_neg (by simp [h1,h2])] at hT
 push_cast [eq_false h1,h2i]
 refine CallG.some [] List.nodup_nil (fun i hi=>by cases hi) (R:=fun x H'=>x = .map 0∧H' = [.map (encGr (fromM a.moves))]) (by rw [pos_nil];push_cast;exact bounds_from_s a (by omega)) ?_
 rintro x H' ⟨rfl,rfl⟩ _
 rw [takeB_none]
 have hbk:back [] 2 = fun i=>some (2+i):=by funext i;simp [back]
 push_cast [hbk]
 have hlg:(longestM a.moves m.p m.word m.h).2≤m.word.length:=Nat.le_trans (longGo_le _ _ _ _ _) (Nat.sub_le _ _)
 refine CallG.some [2] (by simp) (by simp) (R:=fun x H'=>x = .tup [.int .i64 (longestM a.moves m.p m.word m.h).1,.int .i64 (longestM a.moves m.p m.word m.h).2]∧H' = [.map (encGr (fromM a.moves))]) ?_ ?_
 ·have hg:∀ a b c:Ob,give [2] [a,b,c] = [renOb (pos? [2]) c]:=fun _ _ _=>rfl
  rw [hg]
  push_cast
  exact bounds_longest_s a.moves ho m.p hp m.word m.h (by omega) h2l (by omega)
 rintro x H' ⟨rfl,rfl⟩ _
 have ht:∀ a b c d:Ob,takeB [2] [a,b,c] [d] = [a,b,renOb (back [2] 3) d]:=fun _ _ _ _=>rfl
 rw [ht]
 generalize longestM a.moves m.p m.word m.h = lg at hT hlg ⊢
 push_cast
 exact add_walk m states (.map (encGr (fromM a.moves))) (fun σ=>by push_cast) T hw (m.word.length - lg.2) lg.2 a lg.1 (by omega) hs (by omega) hst.1 (by omega) hT
end Go.Dw
end
section
namespace Go.Dw
structure In0 (a:AAut):Prop where
 st:1≤a.states
 ord:SortedM a.moves
 mv:∀ x∈a.moves,(0≤x.src∧x.src < a.states)∧(0≤x.dst∧x.dst < a.states)∧0≤x.h∧x.h≤a.bound
theorem In0.insA {a:AAut} {x:AMove} (h:In0 a) (hx:(0≤x.src∧x.src < a.states)∧(0≤x.dst∧x.dst < a.states)∧0≤x.h∧x.h≤a.bound):In0 (insA a x) :=
 ⟨h.st,insM_sorted h.ord,fun y hy=>by
  rcases (insM_mem h.ord).1 hy with hy | rfl
  ·exact h.mv y hy
  ·exact hx⟩
theorem In0.setSt {a:AAut} (h:In0 a):In0 (setSt a) :=
 ⟨by have:=h.st;show 1≤a.states+1;omega,h.ord,fun y hy=>by
  have:=h.mv y hy
  show (0≤y.src∧y.src < a.states+1)∧(0≤y.dst∧y.dst < a.states+1)∧0≤y.h∧y.h≤a.bound
  omega⟩
theorem addA_in {m:AMs} {a:AAut} {at_:Int} {c:Str} {w:List Str} (h:In0 a) (hat:0≤at_∧at_ < a.states) (hq:0≤m.q∧m.q < a.states) (hh:0≤m.h∧m.h≤a.bound) :
  In0 (addA m a at_ c w)∧(addA m a at_ c w).bound = a.bound∧a.states≤(addA m a at_ c w).states∧(0≤addTo m a w∧addTo m a w < (addA m a at_ c w).states):=by
 have hst:=h.st
 unfold addA addTo
 by_cases hw:w = []
 ·simp only [if_pos hw]
  exact ⟨h.insA ⟨hat,hq,hh⟩,rfl,Int.le_refl _,hq⟩
 ·simp only [if_neg hw]
  refine ⟨h.setSt.insA ⟨?_,?_,hh⟩,rfl,?_,?_⟩
  ·show 0≤at_∧at_ < a.states+1;omega
  ·show 0≤a.states∧a.states < a.states+1;omega
  ·show a.states≤a.states+1;omega
  ·show 0≤a.states∧a.states < a.states+1;omega
theorem addA_mem {m:AMs} {a:AAut} {at_:Int} {c:Str} {w:List Str} (h:In0 a) {y:AMove}:y∈(addA m a at_ c w).moves ↔ y∈a.moves ∨ y = ⟨at_,addTo m a w,c,m.h⟩:=by
 unfold addA
 split
 ·exact insM_mem h.ord
 ·exact insM_mem (l:=(setSt a).moves) h.ord
theorem addA_len {m:AMs} {a:AAut} {at_:Int} {c:Str} {w:List Str} (h:In0 a):(addA m a at_ c w).moves.length = if (⟨at_,addTo m a w,c,m.h⟩:AMove)∈a.moves then a.moves.length else a.moves.length+1:=by
 unfold addA
 split
 ·exact insM_len h.ord
 ·exact insM_len (l:=(setSt a).moves) h.ord
theorem addWd_in {m:AMs}:∀ (w:List Str) {a:AAut} {at_:Int},In0 a→(0≤at_∧at_ < a.states)→(0≤m.q∧m.q < a.states)→(0≤m.h∧m.h≤a.bound) →
  In0 (addWd m w a at_).1∧(addWd m w a at_).1.bound = a.bound∧a.states≤(addWd m w a at_).1.states∧a.moves.length≤(addWd m w a at_).1.moves.length∧(∀ y∈a.moves,y∈(addWd m w a at_).1.moves) ∧
   (∀ y∈(addWd m w a at_).1.moves,y∈a.moves ∨ y.h = m.h∧y.name∈w)∧((addWd m w a at_).2 = true→w ≠ []→(addWd m w a at_).1.moves.length≤4096)
 | [],a,at_,h,h1,h2,h3=>⟨h,rfl,Int.le_refl _,Nat.le_refl _,fun y hy=>hy,fun y hy=>.inl hy,fun _ hn=>absurd rfl hn⟩
 | c :: w,a,at_,h,h1,h2,h3=>by
  obtain ⟨k1,k2,k3,k4⟩:=addA_in (c:=c) (w:=w) h h1 h2 h3
  have k5:a.moves.length≤(addA m a at_ c w).moves.length:=by rw [addA_len h];split <;> omega
  rw [addWd_cons]
  split
  ·rename_i hle
   obtain ⟨i1,i2,i3,i4,i5,i6,i7⟩:=addWd_in (m:=m) w k1 k4 ⟨h2.1,Int.lt_of_lt_of_le h2.2 k3⟩ (by rw [k2];exact h3)
   refine ⟨i1,by rw [i2,k2],by omega,by omega,fun y hy=>i5 y ((addA_mem h).2 (.inl hy)),fun y hy=>?_,fun ht _=>?_⟩
   ·rcases i6 y hy with hy | ⟨e1,e2⟩
    ·rcases (addA_mem h).1 hy with hy | rfl
     ·exact .inl hy
     ·exact .inr ⟨rfl,by simp⟩
    ·exact .inr ⟨e1,by simp [e2]⟩
   ·by_cases hw:w = []
    ·subst hw;exact hle
    ·exact i7 ht hw
  ·refine ⟨k1,k2,k3,k5,fun y hy=>(addA_mem h).2 (.inl hy),fun y hy=>?_,fun ht=>by cases ht⟩
   rcases (addA_mem h).1 hy with hy | rfl
   ·exact .inl hy
   ·exact .inr ⟨rfl,by simp⟩
theorem longGo_path (mv:List AMove) (p:Int) (w:List Str) (h:Int):∀ n,∃ s∈readL mv (fun x=>decide (x = h)) (p,17) (w.take (longGo mv p w h n).2),s.1 = (longGo mv p w h n).1
 | 0=>⟨(p,17),by simp [longGo,readL],rfl⟩
 | n+1=>by
  simp only [longGo]
  cases hl:(readsL mv (fun x=>decide (x = h)) p (w.take (n+1))).getLast? with
  | none=>exact longGo_path mv p w h n
  | some s=>exact ⟨s,readsL_mem.1 (List.mem_of_getLast? hl),rfl⟩
theorem readL_st {a:AAut} (h:In0 a) (fit:Int→Bool) {p:Int} (hp:0≤p∧p < a.states) (w:List Str):∀ s∈readL a.moves fit (p,17) w,0≤s.1∧s.1 < a.states:=by
 intro s hs
 rcases List.eq_nil_or_concat w with rfl | ⟨w,n,rfl⟩
 ·have:s = (p,17):=by simpa [readL] using hs
  rw [this];exact hp
 ·rw [List.concat_eq_append,readL_snoc,nextL_mem] at hs
  obtain ⟨u,_,hs⟩:=hs
  obtain ⟨x,hx,rfl⟩:=List.mem_map.1 hs
  exact (h.mv x (List.mem_filter.1 (List.mem_filter.1 hx).1).1).2.1
theorem lacks_some {mv:List AMove} {S:Nat} {l:List ARl} {m:AMs} (h:lacksM mv S l = some m):∃ x∈l,∃ p,p < S∧∃ s∈readL mv (fun _=>true) ((p:Int),17) x.left,m = ⟨p,s.1,s.2+1,x.right⟩∧linkedM mv p s.1 x.right (s.2+1) = false:=by
 obtain ⟨x,hx,h1⟩:=List.exists_of_findSome?_eq_some h
 obtain ⟨p,hp,h2⟩:=List.exists_of_findSome?_eq_some h1
 obtain ⟨s,hs,h3⟩:=List.exists_of_findSome?_eq_some h2
 refine ⟨x,hx,p,List.mem_range.1 hp,s,readsL_mem.1 hs,?_⟩
 unfold spotF at h3
 split at h3
 ·cases h3
 ·rename_i hl
  cases h3
  exact ⟨rfl,by simpa using hl⟩
theorem add_grows {a:AAut} {m:AMs} {states:Int} {l:List ARl} (h:In0 a) (ho:OkA a.moves) (hs2:a.states≤256) (hl:lacksM a.moves a.states.toNat l = some m) (hok:(addM a m states).2 = true) :
  In0 (addM a m states).1∧(addM a m states).1.bound = a.bound∧(addM a m states).1.states≤states∧a.moves.length < (addM a m states).1.moves.length∧(addM a m states).1.moves.length≤4096 ∧
   (∀ y∈a.moves,y∈(addM a m states).1.moves)∧∀ y∈(addM a m states).1.moves,y∈a.moves ∨ y.h = m.h∧y.name∈m.word:=by
 obtain ⟨x,hx,p,hp,s,hs,rfl,hlk⟩:=lacks_some hl
 have hst:=h.st
 have hpi:0≤(p:Int)∧(p:Int) < a.states:=by omega
 have hsq:=readL_st h _ hpi _ s hs
 have hs3:=(readL_in ho (fun _=>true) (show 0≤(p:Int)∧(p:Int) < 256 by omega) _ s hs).2
 unfold addM at hok ⊢
 by_cases hc:a.bound < s.2+1 ∨ x.right = []
 ·rw [if_pos hc] at hok;cases hok
 ·rw [if_neg hc] at hok ⊢
  have hc1:¬ a.bound < s.2+1:=fun h=>hc (.inl h)
  have hc2:x.right ≠ []:=fun h=>hc (.inr h)
  simp only at hok ⊢
  have hlg:(longestM a.moves p x.right (s.2+1)).2≤x.right.length - 1:=longGo_le _ _ _ _ _
  have hpath:=longGo_path a.moves p x.right (s.2+1) (x.right.length - 1)
  change ∃ t∈readL a.moves (fun y=>decide (y = s.2+1)) ((p:Int),17) (x.right.take (longestM a.moves p x.right (s.2+1)).2),t.1 = (longestM a.moves p x.right (s.2+1)).1 at hpath
  generalize longestM a.moves p x.right (s.2+1) = lg at hok hlg hpath ⊢
  obtain ⟨t,ht,hte⟩:=hpath
  have htr:=readL_st h _ hpi _ t ht
  rw [hte] at htr
  have hwl:0 < x.right.length:=List.length_pos_iff.2 hc2
  have hn:lg.2 < x.right.length:=by omega
  have hdr:=drop_getD hn
  have hwd:=addWd_in (m:=⟨p,s.1,s.2+1,x.right⟩) (x.right.drop lg.2) h htr hsq ⟨by show 0≤s.2+1;omega,by show s.2+1≤a.bound;omega⟩
  obtain ⟨w1,w2,w3,w4,w5,w6,w7⟩:=hwd
  unfold addEnd at hok ⊢
  rw [Bool.and_eq_true,decide_eq_true_eq] at hok
  refine ⟨w1,w2,hok.2,?_,w7 hok.1 (by rw [hdr];simp),w5,fun y hy=>(w6 y hy).imp id fun ⟨e1,e2⟩=>⟨e1,List.mem_of_mem_drop e2⟩⟩
  rw [hdr] at hok ⊢
  generalize hcc:x.right.getD lg.2 default = c at hok ⊢
  generalize hR:x.right.drop (lg.2+1) = R at hok ⊢
  rw [addWd_cons]
  have hnew:(⟨lg.1,addTo ⟨p,s.1,s.2+1,x.right⟩ a R,c,s.2+1⟩:AMove) ∉ a.moves:=by
   intro hm
   by_cases hRn:R = []
   ·unfold addTo at hm
    rw [if_pos hRn] at hm
    have hlast:lg.2+1 = x.right.length:=by
     rw [hRn] at hR
     have:=List.drop_eq_nil_iff.1 hR;omega
    have:linkedM a.moves p s.1 x.right (s.2+1) = true:=by
     rw [linked_iff]
     have e:x.right = x.right.take lg.2++[c]:=by
      rw [← hcc,← take_succ_getD hn,hlast,List.take_length]
     refine ⟨(s.1,if s.2+1 < t.2 then s.2+1 else t.2),?_,rfl⟩
     rw [e,readL_snoc,nextL_mem]
     exact ⟨t,ht,List.mem_map.2 ⟨_,List.mem_filter.2 ⟨List.mem_filter.2 ⟨hm,by simp [hte]⟩,by simp⟩,rfl⟩⟩
    rw [hlk] at this;cases this
   ·unfold addTo at hm
    rw [if_neg hRn] at hm
    have:=(h.mv _ hm).2.1.2
    simp only at this;omega
  have k5:(addA ⟨p,s.1,s.2+1,x.right⟩ a lg.1 c R).moves.length = a.moves.length+1:=by rw [addA_len h,if_neg hnew]
  split
  ·obtain ⟨k1,k2,k3,k4⟩:=addA_in (m:=⟨p,s.1,s.2+1,x.right⟩) (c:=c) (w:=R) h htr hsq ⟨by show 0≤s.2+1;omega,by show s.2+1≤a.bound;omega⟩
   have:=(addWd_in (m:=⟨p,s.1,s.2+1,x.right⟩) R k1 k4 ⟨hsq.1,Int.lt_of_lt_of_le hsq.2 k3⟩ ⟨by show 0≤s.2+1;omega,by rw [k2];show s.2+1≤a.bound;omega⟩).2.2.2.1
   rw [k5] at this
   exact this
  ·show _ < (addA ⟨p,s.1,s.2+1,x.right⟩ a lg.1 c R).moves.length
   omega
end Go.Dw
end
section
namespace Go.Dw
def zA:AAut:=⟨0,0,[]⟩
def findGo (r:List ARule) (l:List ARl) (states:Int):Nat→AAut→AAut × Int
 | 0,_=>(zA,12)
 | f+1,a=>match lacksM a.moves a.states.toNat l with
  | none=>if checkB r a ≠ 0 then (zA,12) else (a,0)
  | some m=>if (addM a m states).2 then findGo r l states f (addM a m states).1 else (zA,12)
def initA (bound:Int) (l:List Str):AAut:=l.foldl (fun a n=>insA a ⟨0,0,n,0⟩) ⟨1,bound,[]⟩
def findB (r:List ARule) (bound states:Int):AAut × Int :=
 if (systemE r).2 ≠ 0 then (zA,(systemE r).2) else if bound < 0 ∨ 16 < bound ∨ states < 1 ∨ 256 < states then (zA,2) else findGo r (systemE r).1 states 4098 (initA bound (namesM (systemE r).1))
def findV (x:AAut × Int):V:=.tup [encAu x.1,.int .i64 x.2]
theorem wordT_name:∀ (n:Nat) (t:Term),size t≤n→∀ c∈(wordT t).1,c.length < tb t
 | 0,t,h=>by have:=size_args t;omega
 | n+1,t,h=>by
  have hs:=size_args t
  intro c hc
  rw [wordT_step] at hc
  split at hc
  ·rename_i hcc
   have hmem:=getD_mem (l:=t.args) (k:=0) (by omega)
   have hm:=size_mem hmem
   rcases List.mem_cons.1 hc with rfl | hc
   ·obtain ⟨nm,v,l⟩:=t
    simp only [Term.name,tb];omega
   ·have h1:=wordT_name n (t.args.getD 0 default) (by omega) c hc
    have h2:=tb_mem hmem
    obtain ⟨nm,v,l⟩:=t
    simp only [tb]
    simp only [Term.args] at h1 h2
    simp only [tbs] at h2
    omega
  ·cases hc
theorem symR_name:∀ (r:List ARule),∀ c∈symbolsR r,c.length < rbs r
 | [],c,hc=>by cases hc
 | x :: r,c,hc=>by
  simp only [symbolsR,List.mem_append] at hc
  simp only [rbs]
  rcases hc with (hc | hc) | hc
  ·have:=wordT_name _ x.left (Nat.le_refl _) c hc;omega
  ·have:=wordT_name _ x.right (Nat.le_refl _) c hc;omega
  ·have:=symR_name r c hc;omega
theorem sys_name {r:List ARule} (hr:rbs r < 2^28):∀ c∈allN (systemE r).1,c.length < 2^28:=by
 intro c hc
 unfold systemE at hc
 split at hc
 ·cases hc
 ·split at hc
  ·rw [allN_rl] at hc
   have:=symR_name r c hc;omega
  ·cases hc
theorem sys_word {r:List ARule} (hr:rbs r < 2^28):∀ x∈(systemE r).1,x.right.length < 2^28:=by
 intro x hx
 unfold systemE at hx
 split at hx
 ·cases hx
 ·split at hx
  ·obtain ⟨y,hy,rfl⟩:=List.mem_map.1 hx
   have hm:=rbs_mem hy
   have h2:=wordT_len _ y.right (Nat.le_refl _)
   have h5:=size_le_tb y.right
   simp only [toRl];omega
  ·cases hx
theorem mem_allN {l:List ARl} {x:ARl} (hx:x∈l) {c:Str} (hc:c∈x.right):c∈allN l:=by
 induction l with
 | nil=>cases hx
 | cons y l ih =>
  simp only [allN,List.mem_append]
  rcases List.mem_cons.1 hx with rfl | hx
  ·exact .inl (.inr hc)
  ·exact .inr (ih hx)
structure FInv (l:List ARl) (bound states:Int) (a:AAut):Prop where
 in0:In0 a
 bd:a.bound = bound
 st:a.states≤states
 nm:∀ x∈a.moves,x.name∈allN l
theorem FInv.okA {l:List ARl} {bound states:Int} {a:AAut} (h:FInv l bound states a) (hb:bound≤16) (hs:states≤256):OkA a.moves:=fun x hx=>by
 have h1:=h.in0.mv x hx
 have h2:=h.st
 have h3:=h.bd
 omega
theorem initA_inv {l:List ARl} {bound states:Int} (hb:0≤bound) (hs:1≤states):∀ (ns:List Str) (a:AAut),FInv l bound states a→a.states = 1→(∀ n∈ns,n∈allN l) →
  FInv l bound states (ns.foldl (fun a n=>insA a ⟨0,0,n,0⟩) a)∧(ns.foldl (fun a n=>insA a ⟨0,0,n,0⟩) a).states = 1∧(ns.foldl (fun a n=>insA a ⟨0,0,n,0⟩) a).moves.length≤a.moves.length+ns.length
 | [],a,h,h1,_=>⟨h,h1,Nat.le_refl _⟩
 | n :: ns,a,h,h1,hn=>by
  have hi:FInv l bound states (insA a ⟨0,0,n,0⟩):=⟨h.in0.insA ⟨by simp only;omega,by simp only;omega,by simp only;have:=h.bd;omega⟩,h.bd,h.st,fun x hx=>by
   rcases (insM_mem h.in0.ord).1 hx with hx | rfl
   ·exact h.nm x hx
   ·exact hn n (by simp)⟩
  have hl:(insA a ⟨0,0,n,0⟩).moves.length≤a.moves.length+1:=by
   show (insM _ _).length≤_
   rw [insM_len h.in0.ord];split <;> omega
  obtain ⟨k1,k2,k3⟩:=initA_inv hb hs ns (insA a ⟨0,0,n,0⟩) hi h1 fun c hc=>hn c (by simp [hc])
  exact ⟨k1,k2,by simp only [List.foldl_cons,List.length_cons];omega⟩
theorem find_loop (r:List ARule) (hr:rbs r < 2^28) (bound states:Int) (hb:0≤bound∧bound≤16) (hs:1≤states∧states≤256) (l:List ARl) (hl:l = (systemE r).1) (T:AAut × Int) :
  ∀ (f:Nat) (a:AAut),1≤f→4097≤f+a.moves.length→FInv l bound states a→a.moves.length < 2^36→findGo r l states f a = T →
   bounds_Find.L4 (encRs r) (.int .i64 states) (.ptr 0 0) (encRls l) (.ptr 1 0) 0 [.cells t_Automaton zAu,.cells t_Automaton (cAu a)] (Ends 0 bounds_Find.rs fun x' H'=>x' = findV T∧H' = []):=by
 intro f
 induction f with
 | zero=>intro a h1;omega
 | succ f ih =>
  intro a _ hf hi hlen hT
  have hz:=sys_sz (r:=r) (by omega)
  rw [← hl] at hz
  obtain ⟨z1,z2,z3⟩:=hz
  have hst:=hi.in0.st
  have hst2:=hi.st
  have hok:=hi.okA hb.2 hs.2
  have hsz:Sz r a:=⟨hr,by omega,fun x hx=>by
   have:=sys_name hr x.name (by rw [← hl];exact hi.nm x hx)
   omega⟩
  refine bounds_Find.G4 ?_
  push_cast
  refine .of (bounds_lacks_s l a a.states.toNat (by omega) (by omega) hok (by omega) z1 z3) ?_
  simp only [findGo] at hT
  cases hlk:lacksM a.moves a.states.toNat l with
  | none =>
   rw [hlk] at hT
   simp only at hT
   push_cast [lackV]
   refine .of (bounds_Check_s r a hsz) ?_
   by_cases hc:checkB r a = 0
   ·rw [if_neg (by simpa using hc)] at hT
    subst hT
    push_cast [hc]
    exact pf_ret (by push_cast [bounds_Find.rs];rfl)
   ·rw [if_pos hc] at hT
    subst hT
    push_cast [hc]
    exact pf_ret (by push_cast [bounds_Find.rs];rfl)
  | some m =>
   rw [hlk] at hT
   simp only at hT
   obtain ⟨x,hx,p,hp,s,hs',hme,_⟩:=lacks_some hlk
   have hw:=sys_word hr x (by rw [← hl];exact hx)
   push_cast [lackV]
   refine .of (bounds_add_s a m states hi.in0.ord hok (by omega) (by omega) (by rw [hme];simp only;omega) (by rw [hme];simp only;omega)) ?_
   cases hk:(addM a m states).2 with
   | false =>
    rw [hk,if_neg (by simp)] at hT
    subst hT
    push_cast
    exact pf_ret (by push_cast [bounds_Find.rs];rfl)
   | true =>
    rw [hk,if_pos rfl] at hT
    obtain ⟨g1,g2,g3,g4,g5,g6,g7⟩:=add_grows hi.in0 hok (by omega) hlk hk
    have hi2:FInv l bound states (addM a m states).1:=⟨g1,by rw [g2,hi.bd],g3,fun y hy=>by
     rcases g7 y hy with hy | ⟨_,hy⟩
     ·exact hi.nm y hy
     ·rw [hme] at hy;exact mem_allN hx hy⟩
    push_cast
    exact ih _ (by omega) (by omega) hi2 (by omega) hT
theorem bounds_Find_s (r:List ARule) (bound states:Int) (hr:rbs r < 2^28):PF n_bounds_Find [encRs r,.int .i64 bound,.int .i64 states] (findV (findB r bound states)):=by
 refine pf_of bounds_Find.ok rfl ?_
 generalize hT:findB r bound states = T
 unfold findB at hT
 push_cast
 refine .of (bounds_system_s r (by omega)) ?_
 obtain ⟨z1,z2,z3⟩:=sys_sz (r:=r) (by omega)
 have hnm:=sys_name hr
 by_cases h1:¬ (systemE r).2 = 0
 ·rw [if_pos h1] at hT
  subst hT
  push_cast [eq_false h1]
  exact pf_ret (by push_cast [bounds_Find.rs];rfl)
 have h1:(systemE r).2 = 0:=Classical.not_not.1 h1
 rw [h1,if_neg (by simp)] at hT
 rw [h1]
 by_cases h2:bound < 0
 ·rw [if_pos (.inl h2)] at hT
  subst hT
  push_cast [eq_true h2]
  exact pf_ret (by push_cast [bounds_Find.rs];rfl)
 by_cases h3:16 < bound
 ·rw [if_pos (.inr (.inl h3))] at hT
  subst hT
  push_cast [eq_false h2,eq_true h3]
  exact pf_ret (by push_cast [bounds_Find.rs];rfl)
 by_cases h4:states < 1
 ·rw [if_pos (.inr (.inr (.inl h4)))] at hT
  subst hT
  push_cast [eq_false h2,eq_false h3,eq_true h4]
  exact pf_ret (by push_cast [bounds_Find.rs];rfl)
 by_cases h5:256 < states
 ·rw [if_pos (.inr (.inr (.inr h5)))] at hT
  subst hT
  push_cast [eq_false h2,eq_false h3,eq_false h4,eq_true h5]
  exact pf_ret (by push_cast [bounds_Find.rs];rfl)
 rw [if_neg (by omega)] at hT
 generalize hl:(systemE r).1 = l at z1 z2 z3 hnm hT
 have h0:[V.int .i64 1,V.int .i64 bound,V.sl 4 []] = cAu ⟨1,bound,[]⟩:=rfl
 push_cast [eq_false h2,eq_false h3,eq_false h4,eq_false h5,hl,h0]
 refine .of (bounds_names_s l z1 z2) ?_
 have hnl:(namesM l).length≤(allN l).length:=by
  have:=Go.Dw.comp_le (Proofs.sortS (allN l))
  rw [show (Proofs.sortS (allN l)).length = (allN l).length from (List.mergeSort_perm _ _).length_eq] at this
  exact this
 have hrl:=symbolsR_len r
 have hal:(allN l).length≤rbs r:=by
  rw [← hl];unfold systemE
  split
  ·simp [allN]
  ·split
   ·rw [allN_rl];exact hrl
   ·simp [allN]
 have hnn:∀ n∈namesM l,n∈allN l:=fun n hn=>namesM_mem.1 hn
 have hi0:FInv l bound states ⟨1,bound,[]⟩:=⟨⟨Int.le_refl _,List.Pairwise.nil,fun x hx=>by cases hx⟩,rfl,by show 1≤states;omega,fun x hx=>by cases hx⟩
 have hinv:∀ k,FInv l bound states (initA bound ((namesM l).take k))∧(initA bound ((namesM l).take k)).states = 1∧(initA bound ((namesM l).take k)).moves.length≤((namesM l).take k).length:=fun k=>by
  have:=initA_inv (l:=l) (bound:=bound) (states:=states) (by omega) (by omega) ((namesM l).take k) ⟨1,bound,[]⟩ hi0 rfl fun n hn=>hnn n (List.mem_of_mem_take hn)
  refine ⟨this.1,this.2.1,?_⟩
  have h3:=this.2.2
  simp only [List.length_nil,Nat.zero_add] at h3
  exact h3
 unfold initA at hT
 generalize namesM l = ns at hT hnl hnn hinv ⊢
 have hns:ns.length < 2^28:=by omega
 have hbd4:∀ s,V.agg [V.int .i64 0,V.int .i64 0,V.str s,V.int .i64 0] = encMv ⟨0,0,s,0⟩:=fun _=>rfl
 push_cast
 refine loop_up (n:=ns.length) (R:=fun k=>bounds_Find.L8 (encRs r) (.int .i64 states) (.ptr 0 0) (encRls l) (.ptr 1 0) (encSs ns) (.int .i64 ns.length) (.int .i64 k) 0 [.cells t_Automaton zAu,.cells t_Automaton (cAu (initA bound (ns.take k)))] (Ends 0 bounds_Find.rs fun x' H'=>x' = findV T∧H' = [])) ?_ ?_ 0 (Nat.zero_le _)
 ·intro k hk ih
  refine bounds_Find.G8 ?_
  obtain ⟨i1,i2,i3⟩:=hinv k
  have htk:ns.take (k+1) = ns.take k++[ns.getD k default]:=take_succ_getD hk
  have hst:initA bound (ns.take (k+1)) = insA (initA bound (ns.take k)) ⟨0,0,ns.getD k default,0⟩:=by
   unfold initA;rw [htk,List.foldl_append];rfl
  generalize hn0:ns.getD k default = n at hst
  rw [hst] at ih
  have htl:(ns.take k).length≤ns.length:=by simp;omega
  generalize initA bound (ns.take k) = a at i1 i2 i3 ih ⊢
  push_cast [ilt hk,hn0,hbd4]
  refine .of (bounds_insert_s a ⟨0,0,n,0⟩ i1.in0.ord (by omega)) ?_
  unfold insV
  push_cast [w64 (show k < 2^62 by omega)]
  push_cast at ih
  exact ih
 ·refine bounds_Find.G8 ?_
  obtain ⟨i1,i2,i3⟩:=hinv ns.length
  rw [List.take_length] at i1 i2 i3 ⊢
  push_cast [inlt (Nat.le_refl _)]
  exact find_loop r hr bound states ⟨by omega,by omega⟩ ⟨by omega,by omega⟩ l hl.symm T 4098 (initA bound ns) (by omega) (by omega) i1 (by omega) hT
end Go.Dw
end
section
namespace Go.Dw
def swapR:List ARule:=[⟨.mk [97] false [.mk [98] false [.mk [120] true []]],.mk [99] false [.mk [120] true []]⟩]
def loopA0:AAut:=⟨1,1,[⟨0,0,[97],0⟩,⟨0,0,[98],0⟩,⟨0,0,[99],0⟩]⟩
def loopA:AAut:=⟨1,1,[⟨0,0,[97],0⟩,⟨0,0,[98],0⟩,⟨0,0,[99],0⟩,⟨0,0,[99],1⟩]⟩
theorem swap_sys:checkSystem swapR = 0:=by decide +kernel
theorem swap_str:swapR.all strR = true:=by decide
theorem swap_rl:swapR.map toRl = [⟨[[97],[98]],[[99]]⟩]:=by rfl
theorem swap_names:namesM [⟨[[97],[98]],[[99]]⟩] = [[97],[98],[99]]:=by
 unfold namesM
 have:allN [⟨[[97],[98]],[[99]]⟩] = [[97],[98],[99]]:=rfl
 rw [this]
 have:Proofs.sortS [[97],[98],[99]] = [[97],[98],[99]]:=by
  unfold Proofs.sortS
  exact List.mergeSort_of_pairwise (by decide)
 rw [this];rfl
theorem linked_any (mv:List AMove) (p q:Int) (w:List Str) (h:Int):linkedM mv p q w h = (readL mv (fun x=>decide (x = h)) (p,17) w).any fun s=>decide (s.1 = q):=by
 unfold linkedM readsL sortSp
 have e:((readL mv (fun x=>decide (x = h)) (p,17) w).mergeSort fun x y=>!decide (cfS y x < 0)).Perm (readL mv (fun x=>decide (x = h)) (p,17) w):=List.mergeSort_perm _ _
 exact e.any_eq
theorem swap_reads (mv:List AMove) (h:readL mv (fun _=>true) (0,17) [[97],[98]] = [(0,0)]):readsL mv (fun _=>true) 0 [[97],[98]] = [(0,0)]:=by
 unfold readsL sortSp;rw [h];simp
theorem swap_lacks0:lacksM loopA0.moves 1 [⟨[[97],[98]],[[99]]⟩] = some ⟨0,0,1,[[99]]⟩:=by
 have h1:=swap_reads loopA0.moves (by decide)
 have h2:linkedM loopA0.moves 0 0 [[99]] 1 = false:=by rw [linked_any];decide
 simp [lacksM,ruleF,stateF,List.range_succ,h1,spotF,h2]
theorem swap_lacks1:lacksM loopA.moves 1 [⟨[[97],[98]],[[99]]⟩] = none:=by
 have h1:=swap_reads loopA.moves (by decide)
 have h2:linkedM loopA.moves 0 0 [[99]] 1 = true:=by rw [linked_any];decide
 simp [lacksM,ruleF,stateF,List.range_succ,h1,spotF,h2]
theorem swap_system:systemE swapR = ([⟨[[97],[98]],[[99]]⟩],0):=by
 unfold systemE
 rw [if_neg (by simp [swap_sys]),if_pos swap_str,swap_rl]
theorem swap_check:checkB swapR loopA = 0:=by
 unfold checkB
 rw [swap_system]
 have h1:formE loopA = 0:=by decide
 have h2:loopsM [⟨[[97],[98]],[[99]]⟩] loopA.moves = true:=by
  unfold loopsM
  rw [swap_names]
  have a1:linkedM loopA.moves 0 0 [[97]] 0 = true:=by rw [linked_any];decide
  have a2:linkedM loopA.moves 0 0 [[98]] 0 = true:=by rw [linked_any];decide
  have a3:linkedM loopA.moves 0 0 [[99]] 0 = true:=by rw [linked_any];decide
  simp [a1,a2,a3]
 have h3:lacksM loopA.moves loopA.states.toNat [⟨[[97],[98]],[[99]]⟩] = none:=swap_lacks1
 simp [h1,h2,h3]
theorem swap_length:lenB swapR loopA 2 = (4,0):=by
 unfold lenB
 rw [swap_check]
 rfl
theorem swap_find:findB swapR 1 4 = (loopA,0):=by
 unfold findB
 rw [swap_system]
 simp only
 rw [swap_names]
 have h0:initA 1 [[97],[98],[99]] = loopA0:=by decide
 rw [h0]
 have h1:addM loopA0 ⟨0,0,1,[[99]]⟩ 4 = (loopA,true):=by decide
 have e1:lacksM loopA0.moves loopA0.states.toNat [⟨[[97],[98]],[[99]]⟩] = some ⟨0,0,1,[[99]]⟩:=swap_lacks0
 have e2:lacksM loopA.moves loopA.states.toNat [⟨[[97],[98]],[[99]]⟩] = none:=swap_lacks1
 rw [if_neg (by simp),if_neg (by simp)]
 simp only [findGo,e1,h1,if_true,e2,swap_check]
 rfl
theorem l24_swap_s:PF n_l24_swap [] (encRs swapR):=by
 refine pf_of l24_swap.ok rfl ?_
 push_cast
 exact pf_ret (by push_cast [l24_swap.rs];rfl)
theorem l24_loops_s:PF n_l24_loops [] (encAu loopA):=by
 refine pf_of l24_loops.ok rfl ?_
 push_cast
 exact pf_ret (by push_cast [l24_loops.rs];rfl)
theorem swap_sz:Sz swapR loopA:=⟨by decide,by decide,by decide⟩
theorem alive24:PF n_l24_alive [] (.bool true):=by
 refine pf_of l24_alive.ok rfl ?_
 push_cast
 refine .of l24_swap_s ?_
 push_cast
 refine .of l24_loops_s ?_
 push_cast
 refine .of (bounds_Length_s swapR loopA 2 swap_sz) ?_
 rw [swap_length]
 push_cast
 refine .of l24_swap_s ?_
 push_cast
 refine .of (bounds_Find_s swapR 1 4 swap_sz.r) ?_
 rw [swap_find]
 unfold findV
 push_cast
 refine .of l24_swap_s ?_
 push_cast
 refine .of l24_loops_s ?_
 push_cast
 refine .of (bounds_Check_s swapR loopA swap_sz) ?_
 rw [swap_check]
 push_cast
 refine .of l24_swap_s ?_
 push_cast
 refine .of (r24_Check_s swapR loopA swap_sz) ?_
 rw [← checkB_eq,swap_check]
 push_cast
 exact pf_ret (by push_cast [l24_alive.rs])
end Go.Dw
end
section
namespace Go.Dw
theorem symR_mem {r:List ARule} {n:Str}:n∈symbolsR r ↔ ∃ x∈r,n∈(wordT x.left).1 ∨ n∈(wordT x.right).1:=by
 induction r with
 | nil=>simp [symbolsR]
 | cons x r ih=>simp [symbolsR,ih,or_assoc]
theorem word_nil {t:Term} (hv:t.var = false) (h:(wordT t).2.var = true):(wordT t).1 ≠ []:=by
 intro h0
 rw [wordT_step] at h0 h
 split at h0
 ·cases h0
 ·rename_i hc
  rw [if_neg hc] at h
  simp only at h
  rw [hv] at h;cases h
theorem findGo_ok {r:List ARule} {bound states:Int} (hb:0≤bound∧bound≤16) (hst:1≤states∧states≤256) (l:List ARl) (f:Nat):∀ (a:AAut),FInv l bound states a →
  (findGo (r:=r) l states f a = (zA,12)) ∨ ((findGo (r:=r) l states f a).2 = 0∧(findGo (r:=r) l states f a).1.bound = bound∧(findGo (r:=r) l states f a).1.states≤states∧checkB r (findGo (r:=r) l states f a).1 = 0 ∧
   FInv l bound states (findGo (r:=r) l states f a).1):=by
 induction f with
 | zero=>intro a _;exact .inl rfl
 | succ f ih =>
  intro a hi
  simp only [findGo]
  cases hl:lacksM a.moves a.states.toNat l with
  | none =>
   simp only
   by_cases hc:checkB r a = 0
   ·rw [if_neg (by simpa using hc)];exact .inr ⟨rfl,hi.bd,hi.st,hc,hi⟩
   ·rw [if_pos hc];exact .inl rfl
  | some m =>
   simp only
   cases hk:(addM a m states).2 with
   | false=>exact .inl rfl
   | true =>
    rw [if_pos rfl]
    have hst2:=hi.st
    obtain ⟨g1,g2,g3,g4,g5,g6,g7⟩:=add_grows hi.in0 (hi.okA hb.2 hst.2) (by omega) hl hk
    obtain ⟨x,hx,p,hp,s,hs',hme,_⟩:=lacks_some hl
    exact ih _ ⟨g1,by rw [g2,hi.bd],g3,fun y hy=>by
     rcases g7 y hy with hy | ⟨_,hy⟩
     ·exact hi.nm y hy
     ·rw [hme] at hy;exact mem_allN hx hy⟩
theorem findB_ok {r:List ARule} {bound states:Int} (h1:(systemE r).2 = 0) (hb:0≤bound∧bound≤16) (hst:1≤states∧states≤256) :
  findB r bound states = (zA,12) ∨ ((findB r bound states).2 = 0∧(findB r bound states).1.bound = bound∧(findB r bound states).1.states≤states∧checkB r (findB r bound states).1 = 0 ∧
   FInv (systemE r).1 bound states (findB r bound states).1):=by
 unfold findB
 rw [if_neg (by simpa using h1),if_neg (by omega)]
 have hi0:FInv (systemE r).1 bound states ⟨1,bound,[]⟩:=⟨⟨Int.le_refl _,List.Pairwise.nil,fun x hx=>by cases hx⟩,rfl,hst.1,fun x hx=>by cases hx⟩
 obtain ⟨i1,i2,i3⟩:=initA_inv hb.1 hst.1 (namesM (systemE r).1) ⟨1,bound,[]⟩ hi0 rfl fun n hn=>namesM_mem.1 hn
 exact findGo_ok hb hst _ 4098 (initA bound (namesM (systemE r).1)) i1
end Go.Dw
end
