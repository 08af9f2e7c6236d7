/-
  The table of the functions' texts.
-/
import Derived.Test.YtokdinonifchaaaGreatTa
import Derived.Test.YtokdinonifchaaaGreatTb
import Derived.Test.YtokdinonifchaaaGreatTc
import Derived.Test.YtokdinonifchaaaGreatTd
import Derived.Test.YtokdinonifchaaaGreatDe
set_option linter.unusedVariables false
set_option maxRecDepth 100000
namespace Go.Dw
/-- A function's text with its proof. -/
structure FK where
  f : Nat
  fd : FD
  ok : okF prog f fd.nd fd.c fd.n fd.rs = true
def lookF (f : Nat) : List FK → Option FD
  | [] => none
  | x :: l => bif Nat.beq x.f f then some x.fd else lookF f l
theorem lookF_ok {f : Nat} {fd : FD} : ∀ {l : List FK}, lookF f l = some fd → okF prog f fd.nd fd.c fd.n fd.rs = true
  | [], h => by cases h
  | x :: l, h => by
    simp only [lookF] at h
    cases hb : Nat.beq x.f f with
    | true =>
      rw [hb] at h
      simp only [cond_true, Option.some.injEq] at h
      subst h
      rw [← Nat.eq_of_beq_eq_true hb]
      exact x.ok
    | false => rw [hb] at h; exact lookF_ok h
def tab : List FK := [
  ⟨n_loop_Check, ⟨loop_Check.nd, loop_Check.body, 2, loop_Check.rs⟩, loop_Check.ok⟩,
  ⟨n_loop_Unroll, ⟨loop_Unroll.nd, loop_Unroll.body, 3, loop_Unroll.rs⟩, loop_Unroll.ok⟩,
  ⟨n_l14_alive, ⟨l14_alive.nd, l14_alive.body, 0, l14_alive.rs⟩, l14_alive.ok⟩,
  ⟨n_loop_Find, ⟨loop_Find.nd, loop_Find.body, 3, loop_Find.rs⟩, loop_Find.ok⟩,
  ⟨n_r14_Same, ⟨r14_Same.nd, r14_Same.body, 2, r14_Same.rs⟩, r14_Same.ok⟩,
  ⟨n_r01_CheckSystem, ⟨r01_CheckSystem.nd, r01_CheckSystem.body, 1, r01_CheckSystem.rs⟩, r01_CheckSystem.ok⟩,
  ⟨n_r01_Equal, ⟨r01_Equal.nd, r01_Equal.body, 2, r01_Equal.rs⟩, r01_Equal.ok⟩,
  ⟨n_derive_Terms, ⟨derive_Terms.nd, derive_Terms.body, 2, derive_Terms.rs⟩, derive_Terms.ok⟩,
  ⟨n_term_Sub, ⟨term_Sub.nd, term_Sub.body, 2, term_Sub.rs⟩, term_Sub.ok⟩,
  ⟨n_term_Apply, ⟨term_Apply.nd, term_Apply.body, 2, term_Apply.rs⟩, term_Apply.ok⟩,
  ⟨n_term_Equal, ⟨term_Equal.nd, term_Equal.body, 2, term_Equal.rs⟩, term_Equal.ok⟩,
  ⟨n_term_Own, ⟨term_Own.nd, term_Own.body, 1, term_Own.rs⟩, term_Own.ok⟩,
  ⟨n_derive_Run, ⟨derive_Run.nd, derive_Run.body, 2, derive_Run.rs⟩, derive_Run.ok⟩,
  ⟨n_l14_example, ⟨l14_example.nd, l14_example.body, 0, l14_example.rs⟩, l14_example.ok⟩,
  ⟨n_r01_SamePos, ⟨r01_SamePos.nd, r01_SamePos.body, 2, r01_SamePos.rs⟩, r01_SamePos.ok⟩,
  ⟨n_derive_Explore, ⟨derive_Explore.nd, derive_Explore.body, 3, derive_Explore.rs⟩, derive_Explore.ok⟩,
  ⟨n_loop_chain, ⟨loop_chain.nd, loop_chain.body, 2, loop_chain.rs⟩, loop_chain.ok⟩,
  ⟨n_r01_Check, ⟨r01_Check.nd, r01_Check.body, 1, r01_Check.rs⟩, r01_Check.ok⟩,
  ⟨n_r01_SameSubst, ⟨r01_SameSubst.nd, r01_SameSubst.body, 2, r01_SameSubst.rs⟩, r01_SameSubst.ok⟩,
  ⟨n_r01_IsName, ⟨r01_IsName.nd, r01_IsName.body, 2, r01_IsName.rs⟩, r01_IsName.ok⟩,
  ⟨n_r01_Rules, ⟨r01_Rules.nd, r01_Rules.body, 1, r01_Rules.rs⟩, r01_Rules.ok⟩,
  ⟨n_r01_Symbols, ⟨r01_Symbols.nd, r01_Symbols.body, 1, r01_Symbols.rs⟩, r01_Symbols.ok⟩,
  ⟨n_r01_Within, ⟨r01_Within.nd, r01_Within.body, 2, r01_Within.rs⟩, r01_Within.ok⟩,
  ⟨n_r01_Has, ⟨r01_Has.nd, r01_Has.body, 2, r01_Has.rs⟩, r01_Has.ok⟩,
  ⟨n_r01_CompareNames, ⟨r01_CompareNames.nd, r01_CompareNames.body, 2, r01_CompareNames.rs⟩, r01_CompareNames.ok⟩,
  ⟨n_r01_Compare, ⟨r01_Compare.nd, r01_Compare.body, 2, r01_Compare.rs⟩, r01_Compare.ok⟩,
  ⟨n_term_CheckSubst, ⟨term_CheckSubst.nd, term_CheckSubst.body, 1, term_CheckSubst.rs⟩, term_CheckSubst.ok⟩,
  ⟨n_term_Check, ⟨term_Check.nd, term_Check.body, 1, term_Check.rs⟩, term_Check.ok⟩,
  ⟨n_term_Instance, ⟨term_Instance.nd, term_Instance.body, 2, term_Instance.rs⟩, term_Instance.ok⟩,
  ⟨n_slices_EqualFunc_s_Term_s_Term_Term_Term, ⟨slices_EqualFunc_s_Term_s_Term_Term_Term.nd, slices_EqualFunc_s_Term_s_Term_Term_Term.body, 3, slices_EqualFunc_s_Term_s_Term_Term_Term.rs⟩, slices_EqualFunc_s_Term_s_Term_Term_Term.ok⟩,
  ⟨n_rewrite_Do, ⟨rewrite_Do.nd, rewrite_Do.body, 3, rewrite_Do.rs⟩, rewrite_Do.ok⟩,
  ⟨n_r02_System, ⟨r02_System.nd, r02_System.body, 1, r02_System.rs⟩, r02_System.ok⟩,
  ⟨n_r02_Term, ⟨r02_Term.nd, r02_Term.body, 2, r02_Term.rs⟩, r02_Term.ok⟩,
  ⟨n_rewrite_Both, ⟨rewrite_Both.nd, rewrite_Both.body, 2, rewrite_Both.rs⟩, rewrite_Both.ok⟩,
  ⟨n_derive_explore, ⟨derive_explore.nd, derive_explore.body, 3, derive_explore.rs⟩, derive_explore.ok⟩,
  ⟨n_slices_IndexFunc_s_Edge_Edge, ⟨slices_IndexFunc_s_Edge_Edge.nd, slices_IndexFunc_s_Edge_Edge.body, 2, slices_IndexFunc_s_Edge_Edge.rs⟩, slices_IndexFunc_s_Edge_Edge.ok⟩,
  ⟨n_loop_chain_1, ⟨loop_chain_1.nd, loop_chain_1.body, 2, loop_chain_1.rs⟩, loop_chain_1.ok⟩,
  ⟨n_slices_Reverse_s_Step_Step, ⟨slices_Reverse_s_Step_Step.nd, slices_Reverse_s_Step_Step.body, 1, slices_Reverse_s_Step_Step.rs⟩, slices_Reverse_s_Step_Step.ok⟩,
  ⟨n_r01_Formed, ⟨r01_Formed.nd, r01_Formed.body, 1, r01_Formed.rs⟩, r01_Formed.ok⟩,
  ⟨n_r01_Size, ⟨r01_Size.nd, r01_Size.body, 1, r01_Size.rs⟩, r01_Size.ok⟩,
  ⟨n_r01_Depth, ⟨r01_Depth.nd, r01_Depth.body, 1, r01_Depth.rs⟩, r01_Depth.ok⟩,
  ⟨n_term_IsName, ⟨term_IsName.nd, term_IsName.body, 2, term_IsName.rs⟩, term_IsName.ok⟩,
  ⟨n_r01_Marked, ⟨r01_Marked.nd, r01_Marked.body, 1, r01_Marked.rs⟩, r01_Marked.ok⟩,
  ⟨n_r01_Letters, ⟨r01_Letters.nd, r01_Letters.body, 1, r01_Letters.rs⟩, r01_Letters.ok⟩,
  ⟨n_r01_CheckAll, ⟨r01_CheckAll.nd, r01_CheckAll.body, 1, r01_CheckAll.rs⟩, r01_CheckAll.ok⟩,
  ⟨n_r01_symbols, ⟨r01_symbols.nd, r01_symbols.body, 2, r01_symbols.rs⟩, r01_symbols.ok⟩,
  ⟨n_r01_Vars, ⟨r01_Vars.nd, r01_Vars.body, 1, r01_Vars.rs⟩, r01_Vars.ok⟩,
  ⟨n_r01_Count, ⟨r01_Count.nd, r01_Count.body, 2, r01_Count.rs⟩, r01_Count.ok⟩,
  ⟨n_r01_CompareInts, ⟨r01_CompareInts.nd, r01_CompareInts.body, 2, r01_CompareInts.rs⟩, r01_CompareInts.ok⟩,
  ⟨n_term_formed, ⟨term_formed.nd, term_formed.body, 1, term_formed.rs⟩, term_formed.ok⟩,
  ⟨n_term_fits, ⟨term_fits.nd, term_fits.body, 1, term_fits.rs⟩, term_fits.ok⟩,
  ⟨n_term_measure, ⟨term_measure.nd, term_measure.body, 2, term_measure.rs⟩, term_measure.ok⟩,
  ⟨n_term_replace, ⟨term_replace.nd, term_replace.body, 2, term_replace.rs⟩, term_replace.ok⟩,
  ⟨n_rewrite_find, ⟨rewrite_find.nd, rewrite_find.body, 3, rewrite_find.rs⟩, rewrite_find.ok⟩,
  ⟨n_term_Fit, ⟨term_Fit.nd, term_Fit.body, 1, term_Fit.rs⟩, term_Fit.ok⟩,
  ⟨n_term_Set, ⟨term_Set.nd, term_Set.body, 3, term_Set.rs⟩, term_Set.ok⟩,
  ⟨n_r02_parser_take, ⟨r02_parser_take.nd, r02_parser_take.body, 2, r02_parser_take.rs⟩, r02_parser_take.ok⟩,
  ⟨n_r02_parser_may, ⟨r02_parser_may.nd, r02_parser_may.body, 2, r02_parser_may.rs⟩, r02_parser_may.ok⟩,
  ⟨n_r02_parser_declare, ⟨r02_parser_declare.nd, r02_parser_declare.body, 1, r02_parser_declare.rs⟩, r02_parser_declare.ok⟩,
  ⟨n_r02_parser_term, ⟨r02_parser_term.nd, r02_parser_term.body, 1, r02_parser_term.rs⟩, r02_parser_term.ok⟩,
  ⟨n_r02_parser_end, ⟨r02_parser_end.nd, r02_parser_end.body, 1, r02_parser_end.rs⟩, r02_parser_end.ok⟩,
  ⟨n_derive_explorer_add, ⟨derive_explorer_add.nd, derive_explorer_add.body, 2, derive_explorer_add.rs⟩, derive_explorer_add.ok⟩,
  ⟨n_strings_TrimSuffix, ⟨strings_TrimSuffix.nd, strings_TrimSuffix.body, 2, strings_TrimSuffix.rs⟩, strings_TrimSuffix.ok⟩,
  ⟨n_slices_ContainsFunc_s_byte_byte, ⟨slices_ContainsFunc_s_byte_byte.nd, slices_ContainsFunc_s_byte_byte.body, 2, slices_ContainsFunc_s_byte_byte.rs⟩, slices_ContainsFunc_s_byte_byte.ok⟩,
  ⟨n_term_IsName_1, ⟨term_IsName_1.nd, term_IsName_1.body, 1, term_IsName_1.rs⟩, term_IsName_1.ok⟩,
  ⟨n_term_inName, ⟨term_inName.nd, term_inName.body, 1, term_inName.rs⟩, term_inName.ok⟩,
  ⟨n_r01_letter, ⟨r01_letter.nd, r01_letter.body, 1, r01_letter.rs⟩, r01_letter.ok⟩,
  ⟨n_r01_collect, ⟨r01_collect.nd, r01_collect.body, 2, r01_collect.rs⟩, r01_collect.ok⟩,
  ⟨n_slices_ContainsFunc_s_Term_Term, ⟨slices_ContainsFunc_s_Term_Term.nd, slices_ContainsFunc_s_Term_Term.body, 2, slices_ContainsFunc_s_Term_Term.rs⟩, slices_ContainsFunc_s_Term_Term.ok⟩,
  ⟨n_term_formed_1, ⟨term_formed_1.nd, term_formed_1.body, 1, term_formed_1.rs⟩, term_formed_1.ok⟩,
  ⟨n_term_Size, ⟨term_Size.nd, term_Size.body, 1, term_Size.rs⟩, term_Size.ok⟩,
  ⟨n_term_Depth, ⟨term_Depth.nd, term_Depth.body, 1, term_Depth.rs⟩, term_Depth.ok⟩,
  ⟨n_term_Image, ⟨term_Image.nd, term_Image.body, 2, term_Image.rs⟩, term_Image.ok⟩,
  ⟨n_r02_Next, ⟨r02_Next.nd, r02_Next.body, 2, r02_Next.rs⟩, r02_Next.ok⟩,
  ⟨n_r02_parser_fail, ⟨r02_parser_fail.nd, r02_parser_fail.body, 2, r02_parser_fail.rs⟩, r02_parser_fail.ok⟩,
  ⟨n_r02_isName, ⟨r02_isName.nd, r02_isName.body, 1, r02_isName.rs⟩, r02_isName.ok⟩,
  ⟨n_r02_parser_name, ⟨r02_parser_name.nd, r02_parser_name.body, 1, r02_parser_name.rs⟩, r02_parser_name.ok⟩,
  ⟨n_derive_key, ⟨derive_key.nd, derive_key.body, 1, derive_key.rs⟩, derive_key.ok⟩,
  ⟨n_stringslite_TrimSuffix, ⟨stringslite_TrimSuffix.nd, stringslite_TrimSuffix.body, 2, stringslite_TrimSuffix.rs⟩, stringslite_TrimSuffix.ok⟩,
  ⟨n_slices_IndexFunc_s_byte_byte, ⟨slices_IndexFunc_s_byte_byte.nd, slices_IndexFunc_s_byte_byte.body, 2, slices_IndexFunc_s_byte_byte.rs⟩, slices_IndexFunc_s_byte_byte.ok⟩,
  ⟨n_r01_Insert, ⟨r01_Insert.nd, r01_Insert.body, 2, r01_Insert.rs⟩, r01_Insert.ok⟩,
  ⟨n_stringslite_HasSuffix, ⟨stringslite_HasSuffix.nd, stringslite_HasSuffix.body, 2, stringslite_HasSuffix.rs⟩, stringslite_HasSuffix.ok⟩,
  ⟨n_slices_IndexFunc_s_Term_Term, ⟨slices_IndexFunc_s_Term_Term.nd, slices_IndexFunc_s_Term_Term.body, 2, slices_IndexFunc_s_Term_Term.rs⟩, slices_IndexFunc_s_Term_Term.ok⟩,
  ⟨n_slices_BinarySearchFunc_s_Bind_Bind_string, ⟨slices_BinarySearchFunc_s_Bind_Bind_string.nd, slices_BinarySearchFunc_s_Bind_Bind_string.body, 3, slices_BinarySearchFunc_s_Bind_Bind_string.rs⟩, slices_BinarySearchFunc_s_Bind_Bind_string.ok⟩,
  ⟨n_term_Image_1, ⟨term_Image_1.nd, term_Image_1.body, 2, term_Image_1.rs⟩, term_Image_1.ok⟩,
  ⟨n_strings_Compare, ⟨strings_Compare.nd, strings_Compare.body, 2, strings_Compare.rs⟩, strings_Compare.ok⟩,
  ⟨n_r02_blank, ⟨r02_blank.nd, r02_blank.body, 1, r02_blank.rs⟩, r02_blank.ok⟩,
  ⟨n_r02_part, ⟨r02_part.nd, r02_part.body, 1, r02_part.rs⟩, r02_part.ok⟩,
  ⟨n_bytealg_CompareString, ⟨bytealg_CompareString.nd, bytealg_CompareString.body, 2, bytealg_CompareString.rs⟩, bytealg_CompareString.ok⟩]
def code : Code := fun f => lookF f tab
theorem code_ok : ∀ f fd, code f = some fd → okF prog f fd.nd fd.c fd.n fd.rs = true := fun f fd h => lookF_ok h
end Go.Dw
