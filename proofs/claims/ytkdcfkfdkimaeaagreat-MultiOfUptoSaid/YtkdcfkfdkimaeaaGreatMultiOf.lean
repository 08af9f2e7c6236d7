/-
  MultiOf: Of returns the proof term that contracts the given steps of a term, and Steps returns these steps, ordered by position; or Of returns the specified error.
  Conditions: what is read has bulk at most 1048576.
-/
import Derived.Test.YtkdcfkfdkimaeaaGreatChecked
import Derived.Test.YtkdcfkfdkimaeaaGreatOe
import Derived.Test.YtkdcfkfdkimaeaaGreatOg
import Derived.Test.YtkdcfkfdkimaeaaGreatOh
set_option linter.unusedVariables false
set_option linter.unusedSimpArgs false
set_option maxRecDepth 100000
namespace Go.Proofs.YtkdcfkfdkimaeaaGreat.multiOf
open Go.ChangeShapes Go.WideShapes Go.ChangeAt Go.RowKit Go.Dw
theorem own:ownKnob Tryz.prog.godebug = none:=by kernel_rfl
theorem laid:laidOutB Tryz.prog = true:=by kernel_rfl
theorem kids:Kids Tryz.prog (· < Tryz.prog.types.size):=kids_rows laid (by kernel_rfl)
theorem full:∀ t e,t < Tryz.prog.types.size→Tryz.prog.underlying t = some (.slice e)→0 < Tryz.prog.cellsOf e:=slices_full_of Tryz.prog (by kernel_rfl)
theorem few:64 < Tryz.prog.types.size:=by
 have:decide (64 < Tryz.prog.types.size) = true:=by kernel_rfl
 exact of_decide_eq_true this
theorem contract (H:Type) (enc:TypeId × Value→H) (W:World) (base:Nat) (args:Array Value) (ds gs:List (DataW H)) (before:List MemPlace)
  (hval:∀ (j:Nat) t v,Tryz.f4.params[j]? = some t→args[j]? = some v→Value.okWide Tryz.prog W .any base t v)
  (hW:DataW.Whole enc Tryz.prog Tryz.f4.params.toList Rows.multiOfSpec.vars false W args.toList ds gs before) (hk:Rows.uptoSmall H (ds++gs) = true) :
  Calls Tryz.prog 4 args W fun e W'=>∃ v,e = .returned v∧Rows.multiOfSpec.post enc Tryz.prog Tryz.f4 false true false false W args v W':=by
 have hW':=hW
 obtain ⟨p,q,hA0,hV,rfl,hfz,hnd⟩:=hW
 have hA:DataW.TrodAll enc Tryz.prog W 0 (fun _=>true) true Tryz.f4.params.toList args.toList ds p:=hA0
 have hAk:=hA
 rw [Tryz.params4] at hA hval
 obtain ⟨v0,vs0,d0,ds0,p0,q0,hargs,rfl,rfl,h0,r0⟩:=trodAll_cons hA
 obtain ⟨v1,vs1,d1,ds1,p1,q1,rfl,rfl,rfl,h1,r1⟩:=trodAll_cons r0
 obtain ⟨v2,vs2,d2,ds2,p2,q2,rfl,rfl,rfl,h2,r2⟩:=trodAll_cons r1
 obtain ⟨rfl,rfl,rfl⟩:=trodAll_nil r2
 obtain rfl:args = #[v0,v1,v2]:=by cases args;simp_all
 obtain ⟨rfl,rfl⟩:=trodVars_none hV
 have hk:Rows.uptoBulkAll ([d0,d1,d2]++[])≤1048576:=of_decide_eq_true hk
 simp only [List.append_nil,Rows.uptoBulkAll] at hk
 obtain ⟨a0,len0,cap0,rfl⟩:=okWide_slice Tryz.underlying22 (hval 0 22 v0 rfl rfl)
 obtain ⟨cs1,rfl,_⟩:=okWide_struct Tryz.underlying37 (hval 1 37 v1 rfl rfl)
 obtain ⟨a2,len2,cap2,rfl⟩:=okWide_slice Tryz.underlying27 (hval 2 27 v2 rfl rfl)
 obtain ⟨fu0,g0⟩:=h0
 obtain ⟨fu1,g1⟩:=h1
 obtain ⟨fu2,g2⟩:=h2
 obtain ⟨r,b0,e0⟩:=br_rules _ _ g0 (by show Rows.uptoBulk d0≤_;omega)
 dsimp only at b0
 obtain ⟨t,b1,e1⟩:=br_term fu1 _ _ g1 (by show Rows.uptoBulk d1≤_;omega)
 dsimp only at b1
 obtain ⟨l,b2,e2⟩:=br_steps _ _ g2 (by show Rows.uptoBulk d2≤_;omega)
 dsimp only at b2
 let c:Cx:=⟨W,okW W,fun _=>none,[]⟩
 have hc:Conc c:=⟨fun i j b k k' hi _ _ _=>by simp [c] at hi,fun b o h=>h,fun i o h=>by simp [c] at h,fun p hp=>by simp [tabs] at hp⟩
 have hr0:rep c (encRs r) (.slice a0 len0 cap0):=by
  obtain ⟨v,vs,e,h1,h2⟩:=e0.1
  have h2:vs = []:=h2
  subst h2
  have e:[Value.slice a0 len0 cap0] = [v]:=e
  simp only [List.cons.injEq,and_true] at e
  subst e
  exact rep_of_prep (c:=c) h1
 have hr1:rep c (encT t) (.agg cs1):=rep_of_prep (c:=c) (x:=.agg (cT t)) ⟨cs1,rfl,e1.1,e1.2⟩
 have hr2:rep c (encSts l) (.slice a2 len2 cap2):=by
  obtain ⟨v,vs,e,h1,h2⟩:=e2.1
  have h2:vs = []:=h2
  subst h2
  have e:[Value.slice a2 len2 cap2] = [v]:=e
  simp only [List.cons.injEq,and_true] at e
  subst e
  exact rep_of_prep (c:=c) h1
 have hrep:repL c [encRs r,encT t,encSts l] [.slice a0 len0 cap0,.agg cs1,.slice a2 len2 cap2]:=⟨_,_,rfl,hr0,_,_,rfl,hr1,_,_,rfl,hr2,rfl⟩
 obtain ⟨_,hcall⟩:=MultiOf_s r t l (by omega) (by omega) (by have:=steps_len (l:=l);omega) (fun s hs=>by have:=steps_pos hs;omega) c _ rfl hc hrep
 refine hcall.mono fun e W' ⟨v,x,c',he,hw,⟨hx,hH⟩,hc',hv,hf⟩=>?_
 subst he;subst hw;subst hx
 have hv:v = .bool true:=hv
 subst hv
 have hh:∀ b,b < W.heap.size→c'.w.heap[b]? = W.heap[b]?:=fun b hb=>hf.heap b hb fun ⟨i,k,hi,_⟩=>by simp [c] at hi
 refine ⟨_,rfl,post_same (pa:=p0++(p1++(p2++[]))) (pv:=[]) hW' (fun _ _ _=>(trodAll_cons_mk (shut_bool Tryz.underlying4 _) trodAll_mk0)) (fun sp hsp=>?_) (fun _ _=>rfl) rfl ⟨hf.os,hf.output,fun i hi=>?_⟩ (fun a ha=>?_)
  (ok_one (by kernel_rfl) rfl (okWide_bool_mk Tryz.underlying4 _))⟩
 ·refine DataW.TrodAll.respare kids full (fun t ht=>?_) (trodAll_old hh hAk) fun x hx=>hsp x (by simpa using hx)
  rw [Tryz.params4] at ht
  have:=few
  simp only [List.mem_cons,List.not_mem_nil,or_false] at ht
  rcases ht with rfl | rfl | rfl <;> (show _ < Tryz.prog.types.size;omega)
 ·rw [hh i hi]
  exact (World.keptBut_refl W (·∈_)).2.2 i hi
 ·unfold World.frozen?
  rw [hh _ ha]
theorem lifted (os:Os) (started:os.Started) (H:Type) (enc:TypeId × Value→H) (F:Stop.Interp) :
  ReturnsInHanded {} Tryz.checked os 4 .any ((Rows.OpenSpec.upto Rows.multiOfSpec).pre6 enc Tryz.prog Tryz.f4 Rows.multiOfUptoRow.domain false) (((Rows.OpenSpec.upto Rows.multiOfSpec).at F).post enc Tryz.prog Tryz.f4 false true false false):=by
 refine returnsInHanded_of_cond (C:=Tryz.checked) (s:=Rows.OpenSpec.upto Rows.multiOfSpec) (k:=Rows.uptoSmall) rfl own started (by kernel_rfl) Tryz.func4
  (OpenSpec.witness (enc:=enc) (C:=Tryz.checked) (s:=Rows.OpenSpec.upto Rows.multiOfSpec) (k:=Rows.uptoSmall) rfl false ⟨#[],#[.slice none 0 0,.agg #[.string ⟨#[]⟩,.bool false,.slice none 0 0],.slice none 0 0],[]⟩ 8 (by kernel_rfl) (by kernel_rfl) (by kernel_rfl)
   (x:=([.nil,.agg [.lit (.string []),.lit (.bool false),.nil],.nil],[],[])) (by kernel_rfl) rfl (by kernel_rfl)) ?_
 intro W base args ds gs before hval hW _ hk _
 exact contract H enc W base args ds gs before hval hW hk
theorem ovFunc:Tryz.pinned.checked.prog.funcNamed Rows.multiOfUptoRow.func = some 4:=by kernel_rfl
theorem ovA:(Rows.multiOfUptoRow.inPlace == Tryz.pinned.checked.prog.inPlace 4) = true:=by kernel_rfl
theorem ovB:(Rows.multiOfUptoRow.unfollowed == Tryz.pinned.checked.prog.unfollowed 4) = true:=by kernel_rfl
theorem ovC:(Rows.multiOfUptoRow.recurses == Tryz.pinned.checked.prog.recurses 4) = true:=by kernel_rfl
theorem ovD:(Rows.multiOfUptoRow.named == Tryz.pinned.checked.prog.varsNamed 4) = true:=by kernel_rfl
theorem ovFacts:joinedFacts Tryz.pinned.checked.prog 4 Tryz.f4 (Rows.OpenSpec.upto Rows.multiOfSpec).bare Rows.multiOfUptoRow = true:=by
 unfold joinedFacts
 rw [ovA,ovB,ovC,ovD]
 kernel_rfl
theorem ovInst:Tryz.f4.isInstance Tryz.pinned.checked.prog Rows.multiOfUptoRow.origin Rows.multiOfUptoRow.targs:=of_decide_eq_true (by kernel_rfl)
theorem ovWrap:Tryz.f4.isWrapper Tryz.pinned.checked.prog Rows.multiOfUptoRow.wrapper Rows.multiOfUptoRow.mainSum:=by
 unfold Func.isWrapper
 first | (rw [if_pos (by decide +kernel)];kernel_rfl) | (rw [if_neg (by decide +kernel)];exact ⟨rfl,rfl⟩)
theorem over:Rows.multiOfUptoRow.holds Tryz.pinned (Rows.OpenSpec.upto Rows.multiOfSpec) :=
 OpenClaim.holds_of_cond 4 Tryz.f4 rfl rfl rfl rfl rfl rfl rfl ⟨rfl,rfl,rfl,rfl,rfl⟩ rfl rfl rfl rfl rfl ovFunc Tryz.func4 ovFacts ovInst ovWrap
  (fun os started H enc _ F=>lifted os started H enc F)
theorem proved:Rows.MultiOfUptoSaid :=
 over
end Go.Proofs.YtkdcfkfdkimaeaaGreat.multiOf
