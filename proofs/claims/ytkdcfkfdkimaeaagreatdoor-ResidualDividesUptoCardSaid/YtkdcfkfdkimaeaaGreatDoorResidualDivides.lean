/-
  ResidualDivides: Residual and Union return the residual and the union of two multisteps from one term, or the specified error.
  Conditions: what is read has bulk at most 1048576.
-/
import Derived.Deep.DeepHandedRow
import Derived.Lib.LaidTab
import Derived.Stop.LaidErr
import Derived.Test.YtkdcfkfdkimaeaaGreatDoorCards
import Derived.Test.YtkdcfkfdkimaeaaGreatDoorTie
import Derived.Test.YtkdcfkfdkimaeaaGreatDoorVaf
import Derived.Test.YtkdcfkfdkimaeaaGreatDoorVag
import Derived.Test.YtkdcfkfdkimaeaaGreatDoorVai
set_option linter.unusedVariables false
set_option linter.unusedSimpArgs false
set_option maxRecDepth 100000
namespace Go.Proofs.YtkdcfkfdkimaeaaGreatDoor.residualDivides
open Go.ChangeShapes Go.WideShapes Go.ChangeAt Go.RowKit Go.Dw
theorem own:ownKnob Tryz.prog.godebug=none:=by kernel_rfl
theorem laid:laidOutB Tryz.prog=true:=by kernel_rfl
theorem kids:Kids Tryz.prog (·<Tryz.prog.types.size):=kids_rows laid (by kernel_rfl)
theorem Aep:∀ t e,t<Tryz.prog.types.size->Tryz.prog.underlying t=some (.slice e)->0<Tryz.prog.cellsOf e:=slices_full_of Tryz.prog (by kernel_rfl)
theorem few:64<Tryz.prog.types.size:=by
 have:decide (64<Tryz.prog.types.size)=true:=by kernel_rfl
 exact of_decide_eq_true this
theorem contract (H:Type)(enc:TypeId×Value->H)(W:World)(base:Nat)(args:Array Value)(ds gs:List (DataW H))(before:List MemPlace)
  (hval:∀ (j:Nat) t v,Tryz.f4.params[j]?=some t->args[j]?=some v->Value.okWide Tryz.prog W .any base t v)
  (hW:DataW.Whole enc Tryz.prog Tryz.f4.params.toList Rows.residualDividesSpec.vars false W args.toList ds gs before) (hk:Rows.uptoSmall H (ds++gs)=true) (hL:laidMetH Tryz.prog Rows.residualDividesUptoRow.laid W) :
  Calls Tryz.prog 4 args W fun e W'=>∃ v,e=.returned v/\Rows.residualDividesSpec.post enc Tryz.prog Tryz.f4 false true false false W args v W':=by
 have hW':=hW
 obtain⟨p,q,hA0,hV,rfl,hfz,hnd⟩:=hW
 have hA:DataW.TrodAll enc Tryz.prog W 0 (fun _=>true) true Tryz.f4.params.toList args.toList ds p:=hA0
 have hAk:=hA
 rw[Tryz.params4]at hA hval
 obtain⟨v0,vs0,d0,ds0,p0,q0,hargs,rfl,rfl,h0,r0⟩:=trodAll_cons hA
 obtain⟨v1,vs1,d1,ds1,p1,q1,rfl,rfl,rfl,h1,r1⟩:=trodAll_cons r0
 obtain⟨v2,vs2,d2,ds2,p2,q2,rfl,rfl,rfl,h2,r2⟩:=trodAll_cons r1
 obtain⟨rfl,rfl,rfl⟩:=trodAll_nil r2
 obtain rfl:args=#[v0,v1,v2]:=by cases args;simp_all
 obtain⟨rfl,rfl⟩:=trodVars_none hV
 have hk:Rows.uptoBulkAll ([d0,d1,d2]++[])<=1048576:=of_decide_eq_true hk
 simp only[List.append_nil,Rows.uptoBulkAll]at hk
 obtain⟨a0,len0,cap0,rfl⟩:=okWide_slice Tryz.underlying22 (hval 0 22 v0 rfl rfl)
 obtain⟨cs1,rfl,_⟩:=okWide_struct Tryz.underlying25 (hval 1 25 v1 rfl rfl)
 obtain⟨cs2,rfl,_⟩:=okWide_struct Tryz.underlying25 (hval 2 25 v2 rfl rfl)
 obtain⟨fu0,g0⟩:=h0
 obtain⟨fu1,g1⟩:=h1
 obtain⟨fu2,g2⟩:=h2
 obtain⟨r,b0,e0⟩:=sn _ _ g0 (by show Rows.uptoBulk d0<=_;omega)
 dsimp only at b0
 obtain⟨a,b1,e1⟩:=Wx fu1 _ _ g1 (by show Rows.uptoBulk d1<=_;omega)
 dsimp only at b1
 obtain⟨b,b2,e2⟩:=Wx fu2 _ _ g2 (by show Rows.uptoBulk d2<=_;omega)
 dsimp only at b2
 let c:Cx:=⟨W,okW W,fun _=>none,[]⟩
 have hc:B5 c:=⟨fun i j b k k' hi _ _ _=>by simp[c]at hi,fun b o h=>h,fun i o h=>by simp[c]at h,og hL rfl⟩
 have hr0:BD c (Ak r) (.slice a0 len0 cap0):=by
  obtain⟨v,vs,e,h1,h2⟩:=e0.1
  have h2:vs=[]:=h2
  subst h2
  have e:[Value.slice a0 len0 cap0]=[v]:=e
  simp only[List.cons.injEq,and_true]at e
  subst e
  exact EY (c:=c) h1
 have hr1:BD c (Ar a) (.agg cs1):=EY (c:=c) (x:=.agg (cM a)) ⟨cs1,rfl,e1.1,e1.2⟩
 have hr2:BD c (Ar b) (.agg cs2):=EY (c:=c) (x:=.agg (cM b)) ⟨cs2,rfl,e2.1,e2.2⟩
 have hrep:D2 c [Ak r,Ar a,Ar b] [.slice a0 len0 cap0,.agg cs1,.agg cs2]:=⟨_,_,rfl,hr0,_,_,rfl,hr1,_,_,rfl,hr2,rfl⟩
 obtain⟨_,hcall⟩:=Tl (r:=r) (a:=a) (b:=b) (by omega) (by omega) (by omega) c _ rfl hc hrep
 refine hcall.mono fun e W' ⟨v,x,c',he,hw,⟨hx,hH⟩,hc',hv,hf⟩=>?_
 subst he;subst hw;subst hx
 have hv:v=.bool true:=hv
 subst hv
 have hh:∀ b,b<W.heap.size->c'.w.heap[b]?=W.heap[b]?:=fun b hb=>hf.heap b hb fun ⟨i,k,hi,_⟩=>by simp[c]at hi
 refine⟨_,rfl,mF (pa:=p0++(p1++(p2++[]))) (pv:=[]) hW' (fun _ _ _=>(trodAll_cons_mk (shut_bool Tryz.underlying4 _) trodAll_mk0)) (fun sp hsp=>?_) (fun _ _=>rfl) rfl ⟨hf.os,hf.output,fun i hi=>?_⟩ (fun a ha=>?_)
  (ok_one (by kernel_rfl) rfl (okWide_bool_mk Tryz.underlying4 _))⟩
 ·refine DataW.TrodAll.respare kids Aep (fun t ht=>?_) (UY hh hAk) fun x hx=>hsp x (by simpa using hx)
  rw[Tryz.params4]at ht
  have:=few
  simp only[List.mem_cons,List.not_mem_nil,or_false]at ht
  rcases ht with rfl | rfl | rfl<;>(show _<Tryz.prog.types.size;omega)
 ·rw[hh i hi]
  exact (World.keptBut_refl W (·∈_)).2.2 i hi
 ·unfold World.frozen?
  rw[hh _ ha]
noncomputable def TZ (os:Os):World :=
 ir (World.holding Tryz.prog os ⟨#[],#[],[]⟩)
abbrev ky:Array Value:=#[.slice none 0 0,.agg #[.int .i64 0,.string ⟨#[]⟩,.bool false,.slice none 0 0],.agg #[.int .i64 0,.string ⟨#[]⟩,.bool false,.slice none 0 0]]
theorem sk (os:Os):laidMet Tryz.prog Rows.residualDividesUptoRow.laid ((TZ os).forCall (fun _ _=>0) ⟨#[],ky,[]⟩).memory :=
 laidMet_of_run' 8 (by kernel_rfl) (by kernel_rfl)
theorem AcD (os:Os){H:Type}(enc:TypeId×Value->H):∃ places,DataW.whole enc Tryz.prog ((TZ os).forCall (fun _ _=>0) ⟨#[],ky,[]⟩).memory Tryz.f4.params.toList Rows.residualDividesSpec.vars false ky.toList 8=some ([.nil,.agg [.lit (.int .i64 0),.lit (.string []),.lit (.bool false),.nil],.agg [.lit (.int .i64 0),.lit (.string []),.lit (.bool false),.nil]],[],places) :=
 ⟨[],by kernel_rfl⟩
theorem lifted (os:Os)(started:os.Started)(H:Type)(enc:TypeId×Value->H)(F:Stop.Interp) :
  ReturnsInHanded {} Tryz.checked os 4 .any ((Rows.OpenSpec.upto Rows.residualDividesSpec).preRow enc Tryz.prog Tryz.f4 Rows.residualDividesUptoRow.domain false Rows.residualDividesUptoRow.laid) (((Rows.OpenSpec.upto Rows.residualDividesSpec).at F).post enc Tryz.prog Tryz.f4 false true false false):=by
 obtain⟨places,hx⟩:=AcD os enc
 refine returnsInHanded_of_row (C:=Tryz.checked) (s:=Rows.OpenSpec.upto Rows.residualDividesSpec) own started (by kernel_rfl) Tryz.func4
  (witness_row_at (enc:=enc) (C:=Tryz.checked) false (TZ os) ky rfl (by kernel_rfl) (by kernel_rfl) (by kernel_rfl)
   (OpenSpec.preRow_of_cond 8 hx (by kernel_rfl) (fun k hk=>by cases hk;kernel_rfl) (by kernel_rfl) (sk os))) ?_
 intro W base args ds gs before hval hW _ hk _ hL _ _
 exact contract H enc W base args ds gs before hval hW (hk _ rfl) hL
theorem pM:Tryz.pinned.checked.prog.funcNamed Rows.residualDividesUptoRow.func=some 4:=by kernel_rfl
theorem ovA:(Rows.residualDividesUptoRow.inPlace==Tryz.pinned.checked.prog.inPlace 4)=true:=by kernel_rfl
theorem ovB:(Rows.residualDividesUptoRow.unfollowed==Tryz.pinned.checked.prog.unfollowed 4)=true:=by kernel_rfl
theorem ovC:(Rows.residualDividesUptoRow.recurses==Tryz.pinned.checked.prog.recurses 4)=true:=by kernel_rfl
theorem ovD:(Rows.residualDividesUptoRow.named==Tryz.pinned.checked.prog.varsNamed 4)=true:=by kernel_rfl
theorem wc:joinedFacts Tryz.pinned.checked.prog 4 Tryz.f4 (Rows.OpenSpec.upto Rows.residualDividesSpec).bare Rows.residualDividesUptoRow=true:=by
 unfold joinedFacts
 rw[ovA,ovB,ovC,ovD]
 kernel_rfl
theorem Abl:Tryz.f4.isInstance Tryz.pinned.checked.prog Rows.residualDividesUptoRow.origin Rows.residualDividesUptoRow.targs:=of_decide_eq_true (by kernel_rfl)
theorem Aas:Tryz.f4.isWrapper Tryz.pinned.checked.prog Rows.residualDividesUptoRow.wrapper Rows.residualDividesUptoRow.mainSum:=by
 unfold Func.isWrapper
 first | (rw[if_pos (by decide +kernel)];kernel_rfl) | (rw[if_neg (by decide +kernel)];exact⟨rfl,rfl⟩)
theorem over:Rows.residualDividesUptoRow.holds Tryz.pinned (Rows.OpenSpec.upto Rows.residualDividesSpec) :=
 OpenClaim.holds_of_cond 4 Tryz.f4 rfl rfl rfl rfl rfl rfl rfl ⟨rfl,rfl,rfl,rfl,rfl⟩ rfl rfl rfl rfl rfl pM Tryz.func4 wc Abl Aas
  (fun os started H enc _ F=>by rw[OpenClaim.pre_eq_preRow];exact lifted os started H enc F)
theorem AcE (f:FuncId)(fn:Func)(hf:Tryz.pinned.checked.prog.funcNamed Rows.residualDividesUptoRow.func=some f)(hfn:Tryz.pinned.checked.prog.funcs[f]?=some fn) :
  false=Tryz.pinned.checked.prog.looks []/\∀ (j:Nat) t,fn.params[j]?=some t->Tryz.pinned.checked.prog.wantsStandIn t=false:=by
 obtain rfl:f=4:=Option.some.inj (pM.symm.trans hf) |>.symm
 obtain rfl:fn=Tryz.f4:=(Option.some.inj (Tryz.func4.symm.trans hfn)).symm
 refine⟨by kernel_rfl,fun j t ht=>?_⟩
 rw[Tryz.params4]at ht
 have hm:t∈[22,25]:=by
  have:=Array.mem_of_getElem? ht
  simpa using this
 have hall:([22,25].all fun u=>!Tryz.prog.wantsStandIn u)=true:=by kernel_rfl
 exact (show Tryz.prog.wantsStandIn t=false by simpa using List.all_eq_true.1 hall t hm)
theorem Abh:false=Rows.residualDividesUptoRow.goesBy Tryz.pinned.checked.prog:=by kernel_rfl
theorem proved:Rows.ResidualDividesUptoCardSaid :=
 Claim7.holds_tied_plain_at .later [] _ _ _ _ over (fun _ h=>by cases h) (by kernel_rfl) (fun _ h=>by cases h) residualDividesUpto_row_tie rfl ⟨rfl,rfl⟩ (by kernel_rfl) rfl AcE Abh
end Go.Proofs.YtkdcfkfdkimaeaaGreatDoor.residualDivides
