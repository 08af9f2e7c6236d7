/-
  BoundsEnds: If an automaton is found, every derivation from a string term keeps its heights within the bound and is at most as long as Length.
  Conditions: what is read has bulk at most 1048576.
-/
import Derived.Test.YtobangnijcppaaaGreatChecked
import Derived.Test.YtobangnijcppaaaGreatLcf
import Derived.Test.YtobangnijcppaaaGreatLcg
import Derived.Test.YtobangnijcppaaaGreatLch
set_option linter.unusedVariables false
set_option linter.unusedSimpArgs false
set_option maxRecDepth 100000
namespace Go.Proofs.YtobangnijcppaaaGreat.boundsEnds
open Go.ChangeShapes Go.WideShapes Go.ChangeAt Go.RowKit Go.Dw
theorem own:ownKnob Tryz.prog.godebug = none:=by kernel_rfl
theorem laid:laidOutB Tryz.prog = true:=by kernel_rfl
theorem kids:Kids Tryz.prog (· < Tryz.prog.types.size):=kids_rows laid (by kernel_rfl)
theorem full:∀ t e,t < Tryz.prog.types.size→Tryz.prog.underlying t = some (.slice e)→0 < Tryz.prog.cellsOf e:=slices_full_of Tryz.prog (by kernel_rfl)
theorem few:64 < Tryz.prog.types.size:=by
 have:decide (64 < Tryz.prog.types.size) = true:=by kernel_rfl
 exact of_decide_eq_true this
theorem contract (H:Type) (enc:TypeId × Value→H) (W:World) (base:Nat) (args:Array Value) (ds gs:List (DataW H)) (before:List MemPlace)
  (hval:∀ (j:Nat) t v,Tryz.f10.params[j]? = some t→args[j]? = some v→Value.okWide Tryz.prog W .any base t v)
  (hW:DataW.Whole enc Tryz.prog Tryz.f10.params.toList Rows.boundsEndsSpec.vars false W args.toList ds gs before) (hk:Rows.uptoSmall H (ds++gs) = true) :
  Calls Tryz.prog 10 args W fun e W'=>∃ v,e = .returned v∧Rows.boundsEndsSpec.post enc Tryz.prog Tryz.f10 false true false false W args v W':=by
 have hW':=hW
 obtain ⟨p,q,hA0,hV,rfl,hfz,hnd⟩:=hW
 have hA:DataW.TrodAll enc Tryz.prog W 0 (fun _=>true) true Tryz.f10.params.toList args.toList ds p:=hA0
 have hAk:=hA
 rw [Tryz.params10] at hA hval
 obtain ⟨v0,vs0,d0,ds0,p0,q0,hargs,rfl,rfl,h0,r0⟩:=trodAll_cons hA
 obtain ⟨v1,vs1,d1,ds1,p1,q1,rfl,rfl,rfl,h1,r1⟩:=trodAll_cons r0
 obtain ⟨v2,vs2,d2,ds2,p2,q2,rfl,rfl,rfl,h2,r2⟩:=trodAll_cons r1
 obtain ⟨v3,vs3,d3,ds3,p3,q3,rfl,rfl,rfl,h3,r3⟩:=trodAll_cons r2
 obtain ⟨rfl,rfl,rfl⟩:=trodAll_nil r3
 obtain rfl:args = #[v0,v1,v2,v3]:=by cases args;simp_all
 obtain ⟨rfl,rfl⟩:=trodVars_none hV
 have hk:Rows.uptoBulkAll ([d0,d1,d2,d3]++[])≤1048576:=of_decide_eq_true hk
 simp only [List.append_nil,Rows.uptoBulkAll] at hk
 obtain ⟨a0,len0,cap0,rfl⟩:=okWide_slice Tryz.underlying22 (hval 0 22 v0 rfl rfl)
 obtain ⟨b,rfl,rfl,rfl,wn1⟩:=open_int Tryz.underlying3 (hval 1 3 v1 rfl rfl) h1
 obtain ⟨st,rfl,rfl,rfl,wn2⟩:=open_int Tryz.underlying3 (hval 2 3 v2 rfl rfl) h2
 obtain ⟨cs3,rfl,_⟩:=okWide_struct Tryz.underlying41 (hval 3 41 v3 rfl rfl)
 obtain ⟨fu0,g0⟩:=h0
 obtain ⟨fu3,g3⟩:=h3
 obtain ⟨r,b0,e0⟩:=br_rules _ _ g0 (by show Rows.uptoBulk d0≤_;omega)
 dsimp only at b0
 have hn1:-9223372036854775808≤b∧b≤9223372036854775807:=by simpa [Lit.wf,IntKind.min,IntKind.max,IntKind.signed,IntKind.bits] using wn1
 have hn2:-9223372036854775808≤st∧st≤9223372036854775807:=by simpa [Lit.wf,IntKind.min,IntKind.max,IntKind.signed,IntKind.bits] using wn2
 obtain ⟨ch,b3,e3⟩:=br_chain fu3 _ _ g3 (by show Rows.uptoBulk d3≤_;omega)
 dsimp only at b3
 let c:Cx:=⟨W,okW W,fun _=>none,[]⟩
 have hc:Conc c:=⟨fun i j b k k' hi _ _ _=>by simp [c] at hi,fun b o h=>h,fun i o h=>by simp [c] at h⟩
 have hr0:rep c (encRs r) (.slice a0 len0 cap0):=by
  obtain ⟨v,vs,e,h1,h2⟩:=e0.1
  have h2:vs = []:=h2
  subst h2
  have e:[Value.slice a0 len0 cap0] = [v]:=e
  simp only [List.cons.injEq,and_true] at e
  subst e
  exact rep_of_prep (c:=c) h1
 have hr3:rep c (encC ch) (.agg cs3):=rep_of_prep (c:=c) (x:=.agg (cC ch)) ⟨cs3,rfl,e3.1,e3.2⟩
 have hrep:repL c [encRs r,.int .i64 b,.int .i64 st,encC ch] [.slice a0 len0 cap0,.int .i64 b,.int .i64 st,.agg cs3]:=⟨_,_,rfl,hr0,_,_,rfl,rfl,_,_,rfl,rfl,_,_,rfl,hr3,rfl⟩
 obtain ⟨_,hcall⟩:=BoundsEnds_t r b st ch (by omega) (by omega) c _ rfl hc hrep
 refine hcall.mono fun e W' ⟨v,x,c',he,hw,⟨hx,hH⟩,hc',hv,hf⟩=>?_
 subst he;subst hw;subst hx
 have hv:v = .bool true:=hv
 subst hv
 have hh:∀ b,b < W.heap.size→c'.w.heap[b]? = W.heap[b]?:=fun b hb=>hf.heap b hb fun ⟨i,k,hi,_⟩=>by simp [c] at hi
 refine ⟨_,rfl,post_same (pa:=p0++([]++([]++(p3++[])))) (pv:=[]) hW' (fun _ _ _=>(trodAll_cons_mk (shut_bool Tryz.underlying4 _) trodAll_mk0)) (fun sp hsp=>?_) (fun _ _=>rfl) rfl ⟨hf.os,hf.output,fun i hi=>?_⟩ (fun a ha=>?_)
  (ok_one (by kernel_rfl) rfl (okWide_bool_mk Tryz.underlying4 _))⟩
 ·refine DataW.TrodAll.respare kids full (fun t ht=>?_) (trodAll_old hh hAk) fun x hx=>hsp x (by simpa using hx)
  rw [Tryz.params10] at ht
  have:=few
  simp only [List.mem_cons,List.not_mem_nil,or_false] at ht
  rcases ht with rfl | rfl | rfl | rfl <;> (show _ < Tryz.prog.types.size;omega)
 ·rw [hh i hi]
  exact (World.keptBut_refl W (·∈_)).2.2 i hi
 ·unfold World.frozen?
  rw [hh _ ha]
theorem lifted (os:Os) (started:os.Started) (H:Type) (enc:TypeId × Value→H) (F:Stop.Interp) :
  ReturnsInHanded {} Tryz.checked os 10 .any ((Rows.OpenSpec.upto Rows.boundsEndsSpec).pre6 enc Tryz.prog Tryz.f10 Rows.boundsEndsUptoRow.domain false) (((Rows.OpenSpec.upto Rows.boundsEndsSpec).at F).post enc Tryz.prog Tryz.f10 false true false false):=by
 refine returnsInHanded_of_cond (C:=Tryz.checked) (s:=Rows.OpenSpec.upto Rows.boundsEndsSpec) (k:=Rows.uptoSmall) rfl own started (by kernel_rfl) Tryz.func10
  (OpenSpec.witness (enc:=enc) (C:=Tryz.checked) (s:=Rows.OpenSpec.upto Rows.boundsEndsSpec) (k:=Rows.uptoSmall) rfl false ⟨#[],#[.slice none 0 0,.int .i64 0,.int .i64 0,.agg #[.string ⟨#[]⟩,.bool false,.slice none 0 0,.slice none 0 0]],[]⟩ 8 (by kernel_rfl) (by kernel_rfl) (by kernel_rfl)
   (x:=([.nil,.lit (.int .i64 0),.lit (.int .i64 0),.agg [.agg [.lit (.string []),.lit (.bool false),.nil],.nil]],[],[])) (by kernel_rfl) rfl (by kernel_rfl)) ?_
 intro W base args ds gs before hval hW _ hk _
 exact contract H enc W base args ds gs before hval hW hk
theorem ovFunc:Tryz.pinned.checked.prog.funcNamed Rows.boundsEndsUptoRow.func = some 10:=by kernel_rfl
theorem ovA:(Rows.boundsEndsUptoRow.inPlace == Tryz.pinned.checked.prog.inPlace 10) = true:=by kernel_rfl
theorem ovB:(Rows.boundsEndsUptoRow.unfollowed == Tryz.pinned.checked.prog.unfollowed 10) = true:=by kernel_rfl
theorem ovC:(Rows.boundsEndsUptoRow.recurses == Tryz.pinned.checked.prog.recurses 10) = true:=by kernel_rfl
theorem ovD:(Rows.boundsEndsUptoRow.named == Tryz.pinned.checked.prog.varsNamed 10) = true:=by kernel_rfl
theorem ovFacts:joinedFacts Tryz.pinned.checked.prog 10 Tryz.f10 (Rows.OpenSpec.upto Rows.boundsEndsSpec).bare Rows.boundsEndsUptoRow = true:=by
 unfold joinedFacts
 rw [ovA,ovB,ovC,ovD]
 kernel_rfl
theorem ovInst:Tryz.f10.isInstance Tryz.pinned.checked.prog Rows.boundsEndsUptoRow.origin Rows.boundsEndsUptoRow.targs:=of_decide_eq_true (by kernel_rfl)
theorem ovWrap:Tryz.f10.isWrapper Tryz.pinned.checked.prog Rows.boundsEndsUptoRow.wrapper Rows.boundsEndsUptoRow.mainSum:=by
 unfold Func.isWrapper
 first | (rw [if_pos (by decide +kernel)];kernel_rfl) | (rw [if_neg (by decide +kernel)];exact ⟨rfl,rfl⟩)
theorem over:Rows.boundsEndsUptoRow.holds Tryz.pinned (Rows.OpenSpec.upto Rows.boundsEndsSpec) :=
 OpenClaim.holds_of_cond 10 Tryz.f10 rfl rfl rfl rfl rfl rfl rfl ⟨rfl,rfl,rfl,rfl,rfl⟩ rfl rfl rfl rfl rfl ovFunc Tryz.func10 ovFacts ovInst ovWrap
  (fun os started H enc _ F=>lifted os started H enc F)
theorem proved:Rows.BoundsEndsUptoSaid :=
 over
end Go.Proofs.YtobangnijcppaaaGreat.boundsEnds
