/-
  ResidualProjects: Project returns the projections of two sequences of multisteps over each other, or the specified error (sequences of at most 6 multisteps).
  Conditions: what is read has bulk at most 1048576.
-/
import Derived.Deep.DeepHandedRow
import Derived.Lib.LaidTab
import Derived.Stop.LaidErr
import Derived.Test.YtkdcfkfdkimaeaaGreatDoorCards
import Derived.Test.YtkdcfkfdkimaeaaGreatDoorTie
import Derived.Test.YtkdcfkfdkimaeaaGreatDoorPaf
import Derived.Test.YtkdcfkfdkimaeaaGreatDoorPag
import Derived.Test.YtkdcfkfdkimaeaaGreatDoorPaj
set_option linter.unusedVariables false
set_option linter.unusedSimpArgs false
set_option maxRecDepth 100000
namespace Go.Proofs.YtkdcfkfdkimaeaaGreatDoor.residualProjects
open Go.ChangeShapes Go.WideShapes Go.ChangeAt Go.RowKit Go.Dw
theorem own:ownKnob Tryz.prog.godebug=none:=by kernel_rfl
theorem laid:laidOutB Tryz.prog=true:=by kernel_rfl
theorem kids:Kids Tryz.prog (·<Tryz.prog.types.size):=kids_rows laid (by kernel_rfl)
theorem AeH:∀ t e,t<Tryz.prog.types.size->Tryz.prog.underlying t=some (.slice e)->0<Tryz.prog.cellsOf e:=slices_full_of Tryz.prog (by kernel_rfl)
theorem few:64<Tryz.prog.types.size:=by
 have:decide (64<Tryz.prog.types.size)=true:=by kernel_rfl
 exact of_decide_eq_true this
theorem contract (H:Type)(enc:TypeId×Value->H)(W:World)(base:Nat)(args:Array Value)(ds gs:List (DataW H))(before:List MemPlace)
  (hval:∀ (j:Nat) t v,Tryz.f6.params[j]?=some t->args[j]?=some v->Value.okWide Tryz.prog W .any base t v)
  (hW:DataW.Whole enc Tryz.prog Tryz.f6.params.toList Rows.residualProjectsSpec.vars false W args.toList ds gs before) (hk:Rows.uptoSmall H (ds++gs)=true) (hL:laidMetH Tryz.prog Rows.residualProjectsUptoRow.laid W) :
  Calls Tryz.prog 6 args W fun e W'=>∃ v,e=.returned v/\Rows.residualProjectsSpec.post enc Tryz.prog Tryz.f6 false true false false W args v W':=by
 have hW':=hW
 obtain⟨p,q,hA0,hV,rfl,hfz,hnd⟩:=hW
 have hA:DataW.TrodAll enc Tryz.prog W 0 (fun _=>true) true Tryz.f6.params.toList args.toList ds p:=hA0
 have hAk:=hA
 rw[Tryz.params6]at hA hval
 obtain⟨v0,vs0,d0,ds0,p0,q0,hargs,rfl,rfl,h0,r0⟩:=trodAll_cons hA
 obtain⟨v1,vs1,d1,ds1,p1,q1,rfl,rfl,rfl,h1,r1⟩:=trodAll_cons r0
 obtain⟨v2,vs2,d2,ds2,p2,q2,rfl,rfl,rfl,h2,r2⟩:=trodAll_cons r1
 obtain⟨rfl,rfl,rfl⟩:=trodAll_nil r2
 obtain rfl:args=#[v0,v1,v2]:=by cases args;simp_all
 obtain⟨rfl,rfl⟩:=trodVars_none hV
 have hk:Rows.uptoBulkAll ([d0,d1,d2]++[])<=1048576:=of_decide_eq_true hk
 simp only[List.append_nil,Rows.uptoBulkAll]at hk
 obtain⟨a0,len0,cap0,rfl⟩:=okWide_slice Tryz.underlying22 (hval 0 22 v0 rfl rfl)
 obtain⟨a1,len1,cap1,rfl⟩:=okWide_slice Tryz.underlying23 (hval 1 23 v1 rfl rfl)
 obtain⟨a2,len2,cap2,rfl⟩:=okWide_slice Tryz.underlying23 (hval 2 23 v2 rfl rfl)
 obtain⟨fu0,g0⟩:=h0
 obtain⟨fu1,g1⟩:=h1
 obtain⟨fu2,g2⟩:=h2
 obtain⟨r,b0,e0⟩:=uS _ _ g0 (by show Rows.uptoBulk d0<=_;omega)
 dsimp only at b0
 obtain⟨l1,b1,e1⟩:=aH _ _ g1 (by show Rows.uptoBulk d1<=_;omega)
 dsimp only at b1
 obtain⟨l2,b2,e2⟩:=aH _ _ g2 (by show Rows.uptoBulk d2<=_;omega)
 dsimp only at b2
 let c:Cx:=⟨W,okW W,fun _=>none,[]⟩
 have hc:Bb c:=⟨fun i j b k k' hi _ _ _=>by simp[c]at hi,fun b o h=>h,fun i o h=>by simp[c]at h,nV hL rfl⟩
 have hr0:BI c (Al r) (.slice a0 len0 cap0):=by
  obtain⟨v,vs,e,h1,h2⟩:=e0.1
  have h2:vs=[]:=h2
  subst h2
  have e:[Value.slice a0 len0 cap0]=[v]:=e
  simp only[List.cons.injEq,and_true]at e
  subst e
  exact Fg (c:=c) h1
 have hr1:BI c (Av l1) (.slice a1 len1 cap1):=by
  obtain⟨v,vs,e,h1,h2⟩:=e1.1
  have h2:vs=[]:=h2
  subst h2
  have e:[Value.slice a1 len1 cap1]=[v]:=e
  simp only[List.cons.injEq,and_true]at e
  subst e
  exact Fg (c:=c) h1
 have hr2:BI c (Av l2) (.slice a2 len2 cap2):=by
  obtain⟨v,vs,e,h1,h2⟩:=e2.1
  have h2:vs=[]:=h2
  subst h2
  have e:[Value.slice a2 len2 cap2]=[v]:=e
  simp only[List.cons.injEq,and_true]at e
  subst e
  exact Fg (c:=c) h1
 have hrep:CZ c [Al r,Av l1,Av l2] [.slice a0 len0 cap0,.slice a1 len1 cap1,.slice a2 len2 cap2]:=⟨_,_,rfl,hr0,_,_,rfl,hr1,_,_,rfl,hr2,rfl⟩
 obtain⟨_,hcall⟩:=Sx (r:=r) (x:=l1) (y:=l2) (by omega) (fun m hm=>by have:=cX hm;omega) (fun m hm=>by have:=cX hm;omega) c _ rfl hc hrep
 refine hcall.mono fun e W' ⟨v,x,c',he,hw,⟨hx,hH⟩,hc',hv,hf⟩=>?_
 subst he;subst hw;subst hx
 have hv:v=.bool true:=hv
 subst hv
 have hh:∀ b,b<W.heap.size->c'.w.heap[b]?=W.heap[b]?:=fun b hb=>hf.heap b hb fun ⟨i,k,hi,_⟩=>by simp[c]at hi
 refine⟨_,rfl,nO (pa:=p0++(p1++(p2++[]))) (pv:=[]) hW' (fun _ _ _=>(trodAll_cons_mk (shut_bool Tryz.underlying4 _) trodAll_mk0)) (fun sp hsp=>?_) (fun _ _=>rfl) rfl ⟨hf.os,hf.output,fun i hi=>?_⟩ (fun a ha=>?_)
  (ok_one (by kernel_rfl) rfl (okWide_bool_mk Tryz.underlying4 _))⟩
 ·refine DataW.TrodAll.respare kids AeH (fun t ht=>?_) (VN hh hAk) fun x hx=>hsp x (by simpa using hx)
  rw[Tryz.params6]at ht
  have:=few
  simp only[List.mem_cons,List.not_mem_nil,or_false]at ht
  rcases ht with rfl | rfl | rfl<;>(show _<Tryz.prog.types.size;omega)
 ·rw[hh i hi]
  exact (World.keptBut_refl W (·∈_)).2.2 i hi
 ·unfold World.frozen?
  rw[hh _ ha]
noncomputable def Ug (os:Os):World :=
 ky (World.holding Tryz.prog os ⟨#[],#[],[]⟩)
abbrev lM:Array Value:=#[.slice none 0 0,.slice none 0 0,.slice none 0 0]
theorem tU (os:Os):laidMet Tryz.prog Rows.residualProjectsUptoRow.laid ((Ug os).forCall (fun _ _=>0) ⟨#[],lM,[]⟩).memory :=
 laidMet_of_run' 8 (by kernel_rfl) (by kernel_rfl)
theorem Ac5 (os:Os){H:Type}(enc:TypeId×Value->H):∃ places,DataW.whole enc Tryz.prog ((Ug os).forCall (fun _ _=>0) ⟨#[],lM,[]⟩).memory Tryz.f6.params.toList Rows.residualProjectsSpec.vars false lM.toList 8=some ([.nil,.nil,.nil],[],places) :=
 ⟨[],by kernel_rfl⟩
theorem lifted (os:Os)(started:os.Started)(H:Type)(enc:TypeId×Value->H)(F:Stop.Interp) :
  ReturnsInHanded {} Tryz.checked os 6 .any ((Rows.OpenSpec.upto Rows.residualProjectsSpec).preRow enc Tryz.prog Tryz.f6 Rows.residualProjectsUptoRow.domain false Rows.residualProjectsUptoRow.laid) (((Rows.OpenSpec.upto Rows.residualProjectsSpec).at F).post enc Tryz.prog Tryz.f6 false true false false):=by
 obtain⟨places,hx⟩:=Ac5 os enc
 refine returnsInHanded_of_row (C:=Tryz.checked) (s:=Rows.OpenSpec.upto Rows.residualProjectsSpec) own started (by kernel_rfl) Tryz.func6
  (witness_row_at (enc:=enc) (C:=Tryz.checked) false (Ug os) lM rfl (by kernel_rfl) (by kernel_rfl) (by kernel_rfl)
   (OpenSpec.preRow_of_cond 8 hx (by kernel_rfl) (fun k hk=>by cases hk;kernel_rfl) (by kernel_rfl) (tU os))) ?_
 intro W base args ds gs before hval hW _ hk _ hL _ _
 exact contract H enc W base args ds gs before hval hW (hk _ rfl) hL
theorem qU:Tryz.pinned.checked.prog.funcNamed Rows.residualProjectsUptoRow.func=some 6:=by kernel_rfl
theorem ovA:(Rows.residualProjectsUptoRow.inPlace==Tryz.pinned.checked.prog.inPlace 6)=true:=by kernel_rfl
theorem ovB:(Rows.residualProjectsUptoRow.unfollowed==Tryz.pinned.checked.prog.unfollowed 6)=true:=by kernel_rfl
theorem ovC:(Rows.residualProjectsUptoRow.recurses==Tryz.pinned.checked.prog.recurses 6)=true:=by kernel_rfl
theorem ovD:(Rows.residualProjectsUptoRow.named==Tryz.pinned.checked.prog.varsNamed 6)=true:=by kernel_rfl
theorem vU:joinedFacts Tryz.pinned.checked.prog 6 Tryz.f6 (Rows.OpenSpec.upto Rows.residualProjectsSpec).bare Rows.residualProjectsUptoRow=true:=by
 unfold joinedFacts
 rw[ovA,ovB,ovC,ovD]
 kernel_rfl
theorem AbS:Tryz.f6.isInstance Tryz.pinned.checked.prog Rows.residualProjectsUptoRow.origin Rows.residualProjectsUptoRow.targs:=of_decide_eq_true (by kernel_rfl)
theorem AcA:Tryz.f6.isWrapper Tryz.pinned.checked.prog Rows.residualProjectsUptoRow.wrapper Rows.residualProjectsUptoRow.mainSum:=by
 unfold Func.isWrapper
 first | (rw[if_pos (by decide +kernel)];kernel_rfl) | (rw[if_neg (by decide +kernel)];exact⟨rfl,rfl⟩)
theorem over:Rows.residualProjectsUptoRow.holds Tryz.pinned (Rows.OpenSpec.upto Rows.residualProjectsSpec) :=
 OpenClaim.holds_of_cond 6 Tryz.f6 rfl rfl rfl rfl rfl rfl rfl ⟨rfl,rfl,rfl,rfl,rfl⟩ rfl rfl rfl rfl rfl qU Tryz.func6 vU AbS AcA
  (fun os started H enc _ F=>by rw[OpenClaim.pre_eq_preRow];exact lifted os started H enc F)
theorem Adz (f:FuncId)(fn:Func)(hf:Tryz.pinned.checked.prog.funcNamed Rows.residualProjectsUptoRow.func=some f)(hfn:Tryz.pinned.checked.prog.funcs[f]?=some fn) :
  false=Tryz.pinned.checked.prog.looks []/\∀ (j:Nat) t,fn.params[j]?=some t->Tryz.pinned.checked.prog.wantsStandIn t=false:=by
 obtain rfl:f=6:=Option.some.inj (qU.symm.trans hf) |>.symm
 obtain rfl:fn=Tryz.f6:=(Option.some.inj (Tryz.func6.symm.trans hfn)).symm
 refine⟨by kernel_rfl,fun j t ht=>?_⟩
 rw[Tryz.params6]at ht
 have hm:t∈[22,23]:=by
  have:=Array.mem_of_getElem? ht
  simpa using this
 have hall:([22,23].all fun u=>!Tryz.prog.wantsStandIn u)=true:=by kernel_rfl
 exact (show Tryz.prog.wantsStandIn t=false by simpa using List.all_eq_true.1 hall t hm)
theorem AbR:false=Rows.residualProjectsUptoRow.goesBy Tryz.pinned.checked.prog:=by kernel_rfl
theorem proved:Rows.ResidualProjectsUptoCardSaid :=
 Claim7.holds_tied_plain_at .later [] _ _ _ _ over (fun _ h=>by cases h) (by kernel_rfl) (fun _ h=>by cases h) residualProjectsUpto_row_tie rfl ⟨rfl,rfl⟩ (by kernel_rfl) rfl Adz AbR
end Go.Proofs.YtkdcfkfdkimaeaaGreatDoor.residualProjects
