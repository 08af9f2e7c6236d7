/-
  MultiDevelops: Both developments of a proof term are derivations from its source to its target.
  Conditions: what is read has bulk at most 1048576.
-/
import Derived.Test.YtobangnijcppaaaGreatChecked
import Derived.Test.YtobangnijcppaaaGreatMee
import Derived.Test.YtobangnijcppaaaGreatMef
set_option linter.unusedVariables false
set_option linter.unusedSimpArgs false
set_option maxRecDepth 100000
namespace Go.Proofs.YtobangnijcppaaaGreat.multiDevelops
open Go.ChangeShapes Go.WideShapes Go.ChangeAt Go.RowKit Go.Dw
theorem own:ownKnob Tryz.prog.godebug = none:=by kernel_rfl
theorem laid:laidOutB Tryz.prog = true:=by kernel_rfl
theorem kids:Kids Tryz.prog (· < Tryz.prog.types.size):=kids_rows laid (by kernel_rfl)
theorem full:∀ t e,t < Tryz.prog.types.size→Tryz.prog.underlying t = some (.slice e)→0 < Tryz.prog.cellsOf e:=slices_full_of Tryz.prog (by kernel_rfl)
theorem few:64 < Tryz.prog.types.size:=by
 have:decide (64 < Tryz.prog.types.size) = true:=by kernel_rfl
 exact of_decide_eq_true this
theorem contract (H:Type) (enc:TypeId × Value→H) (W:World) (base:Nat) (args:Array Value) (ds gs:List (DataW H)) (before:List MemPlace)
  (hval:∀ (j:Nat) t v,Tryz.f7.params[j]? = some t→args[j]? = some v→Value.okWide Tryz.prog W .any base t v)
  (hW:DataW.Whole enc Tryz.prog Tryz.f7.params.toList Rows.multiDevelopsSpec.vars false W args.toList ds gs before) (hk:Rows.uptoSmall H (ds++gs) = true) :
  Calls Tryz.prog 7 args W fun e W'=>∃ v,e = .returned v∧Rows.multiDevelopsSpec.post enc Tryz.prog Tryz.f7 false true false false W args v W':=by
 have hW':=hW
 obtain ⟨p,q,hA0,hV,rfl,hfz,hnd⟩:=hW
 have hA:DataW.TrodAll enc Tryz.prog W 0 (fun _=>true) true Tryz.f7.params.toList args.toList ds p:=hA0
 have hAk:=hA
 rw [Tryz.params7] at hA hval
 obtain ⟨v0,vs0,d0,ds0,p0,q0,hargs,rfl,rfl,h0,r0⟩:=trodAll_cons hA
 obtain ⟨v1,vs1,d1,ds1,p1,q1,rfl,rfl,rfl,h1,r1⟩:=trodAll_cons r0
 obtain ⟨rfl,rfl,rfl⟩:=trodAll_nil r1
 obtain rfl:args = #[v0,v1]:=by cases args;simp_all
 obtain ⟨rfl,rfl⟩:=trodVars_none hV
 have hk:Rows.uptoBulkAll ([d0,d1]++[])≤1048576:=of_decide_eq_true hk
 simp only [List.append_nil,Rows.uptoBulkAll] at hk
 obtain ⟨a0,len0,cap0,rfl⟩:=okWide_slice Tryz.underlying22 (hval 0 22 v0 rfl rfl)
 obtain ⟨cs1,rfl,_⟩:=okWide_struct Tryz.underlying25 (hval 1 25 v1 rfl rfl)
 obtain ⟨fu0,g0⟩:=h0
 obtain ⟨fu1,g1⟩:=h1
 obtain ⟨r,b0,e0⟩:=br_rules _ _ g0 (by show Rows.uptoBulk d0≤_;omega)
 dsimp only at b0
 obtain ⟨m,b1,e1⟩:=br_multi fu1 _ _ g1 (by show Rows.uptoBulk d1≤_;omega)
 dsimp only at b1
 let c:Cx:=⟨W,okW W,fun _=>none,[]⟩
 have hc:Conc c:=⟨fun i j b k k' hi _ _ _=>by simp [c] at hi,fun b o h=>h,fun i o h=>by simp [c] at h⟩
 have hr0:rep c (encRs r) (.slice a0 len0 cap0):=by
  obtain ⟨v,vs,e,h1,h2⟩:=e0.1
  have h2:vs = []:=h2
  subst h2
  have e:[Value.slice a0 len0 cap0] = [v]:=e
  simp only [List.cons.injEq,and_true] at e
  subst e
  exact rep_of_prep (c:=c) h1
 have hr1:rep c (encM m) (.agg cs1):=rep_of_prep (c:=c) (x:=.agg (cM m)) ⟨cs1,rfl,e1.1,e1.2⟩
 have hrep:repL c [encRs r,encM m] [.slice a0 len0 cap0,.agg cs1]:=⟨_,_,rfl,hr0,_,_,rfl,hr1,rfl⟩
 obtain ⟨_,hcall⟩:=MultiDevelops_s r m (by omega) (by omega) c _ rfl hc hrep
 refine hcall.mono fun e W' ⟨v,x,c',he,hw,⟨hx,hH⟩,hc',hv,hf⟩=>?_
 subst he;subst hw;subst hx
 have hv:v = .bool true:=hv
 subst hv
 have hh:∀ b,b < W.heap.size→c'.w.heap[b]? = W.heap[b]?:=fun b hb=>hf.heap b hb fun ⟨i,k,hi,_⟩=>by simp [c] at hi
 refine ⟨_,rfl,post_same (pa:=p0++(p1++[])) (pv:=[]) hW' (fun _ _ _=>(trodAll_cons_mk (shut_bool Tryz.underlying4 _) trodAll_mk0)) (fun sp hsp=>?_) (fun _ _=>rfl) rfl ⟨hf.os,hf.output,fun i hi=>?_⟩ (fun a ha=>?_)
  (ok_one (by kernel_rfl) rfl (okWide_bool_mk Tryz.underlying4 _))⟩
 ·refine DataW.TrodAll.respare kids full (fun t ht=>?_) (trodAll_old hh hAk) fun x hx=>hsp x (by simpa using hx)
  rw [Tryz.params7] at ht
  have:=few
  simp only [List.mem_cons,List.not_mem_nil,or_false] at ht
  rcases ht with rfl | rfl <;> (show _ < Tryz.prog.types.size;omega)
 ·rw [hh i hi]
  exact (World.keptBut_refl W (·∈_)).2.2 i hi
 ·unfold World.frozen?
  rw [hh _ ha]
theorem lifted (os:Os) (started:os.Started) (H:Type) (enc:TypeId × Value→H) (F:Stop.Interp) :
  ReturnsInHanded {} Tryz.checked os 7 .any ((Rows.OpenSpec.upto Rows.multiDevelopsSpec).pre6 enc Tryz.prog Tryz.f7 Rows.multiDevelopsUptoRow.domain false) (((Rows.OpenSpec.upto Rows.multiDevelopsSpec).at F).post enc Tryz.prog Tryz.f7 false true false false):=by
 refine returnsInHanded_of_cond (C:=Tryz.checked) (s:=Rows.OpenSpec.upto Rows.multiDevelopsSpec) (k:=Rows.uptoSmall) rfl own started (by kernel_rfl) Tryz.func7
  (OpenSpec.witness (enc:=enc) (C:=Tryz.checked) (s:=Rows.OpenSpec.upto Rows.multiDevelopsSpec) (k:=Rows.uptoSmall) rfl false ⟨#[],#[.slice none 0 0,.agg #[.int .i64 0,.string ⟨#[]⟩,.bool false,.slice none 0 0]],[]⟩ 8 (by kernel_rfl) (by kernel_rfl) (by kernel_rfl)
   (x:=([.nil,.agg [.lit (.int .i64 0),.lit (.string []),.lit (.bool false),.nil]],[],[])) (by kernel_rfl) rfl (by kernel_rfl)) ?_
 intro W base args ds gs before hval hW _ hk _
 exact contract H enc W base args ds gs before hval hW hk
theorem ovFunc:Tryz.pinned.checked.prog.funcNamed Rows.multiDevelopsUptoRow.func = some 7:=by kernel_rfl
theorem ovA:(Rows.multiDevelopsUptoRow.inPlace == Tryz.pinned.checked.prog.inPlace 7) = true:=by kernel_rfl
theorem ovB:(Rows.multiDevelopsUptoRow.unfollowed == Tryz.pinned.checked.prog.unfollowed 7) = true:=by kernel_rfl
theorem ovC:(Rows.multiDevelopsUptoRow.recurses == Tryz.pinned.checked.prog.recurses 7) = true:=by kernel_rfl
theorem ovD:(Rows.multiDevelopsUptoRow.named == Tryz.pinned.checked.prog.varsNamed 7) = true:=by kernel_rfl
theorem ovFacts:joinedFacts Tryz.pinned.checked.prog 7 Tryz.f7 (Rows.OpenSpec.upto Rows.multiDevelopsSpec).bare Rows.multiDevelopsUptoRow = true:=by
 unfold joinedFacts
 rw [ovA,ovB,ovC,ovD]
 kernel_rfl
theorem ovInst:Tryz.f7.isInstance Tryz.pinned.checked.prog Rows.multiDevelopsUptoRow.origin Rows.multiDevelopsUptoRow.targs:=of_decide_eq_true (by kernel_rfl)
theorem ovWrap:Tryz.f7.isWrapper Tryz.pinned.checked.prog Rows.multiDevelopsUptoRow.wrapper Rows.multiDevelopsUptoRow.mainSum:=by
 unfold Func.isWrapper
 first | (rw [if_pos (by decide +kernel)];kernel_rfl) | (rw [if_neg (by decide +kernel)];exact ⟨rfl,rfl⟩)
theorem over:Rows.multiDevelopsUptoRow.holds Tryz.pinned (Rows.OpenSpec.upto Rows.multiDevelopsSpec) :=
 OpenClaim.holds_of_cond 7 Tryz.f7 rfl rfl rfl rfl rfl rfl rfl ⟨rfl,rfl,rfl,rfl,rfl⟩ rfl rfl rfl rfl rfl ovFunc Tryz.func7 ovFacts ovInst ovWrap
  (fun os started H enc _ F=>lifted os started H enc F)
theorem proved:Rows.MultiDevelopsUptoSaid :=
 over
end Go.Proofs.YtobangnijcppaaaGreat.multiDevelops
