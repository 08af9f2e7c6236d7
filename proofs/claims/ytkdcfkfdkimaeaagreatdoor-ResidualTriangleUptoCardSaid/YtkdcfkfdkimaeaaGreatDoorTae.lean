/-
  Contracts and lemmas for ResidualTriangle: part e of 9.
-/
import Derived.Test.YtkdcfkfdkimaeaaGreatDoorTad
import Derived.Lib.Bytealg
import Derived.Laws.Externs
import Derived.Ground.NamesProg
import Derived.Shelf.Slices.In.SortAlone
import Derived.Shelf.Slices.In.SortNone
import Derived.Sort.EveryDepth
import Derived.Sort.Grow
import Derived.Sort.KeysCollected
import Derived.Shelf.Spec.SlicesInsert
import Derived.Lib.AppendZerosOnto
import Derived.ArgAppend
set_option linter.unusedVariables false
set_option linter.unusedSimpArgs false
set_option maxRecDepth 100000
section
namespace Go.Dw
variable {s:List K} {B:Nat} {t:T} {H:List Ob} {Q:X→T→List Ob→Prop}
namespace overlap_one
def nd:Nat→C
 | 0=>.seq (.reg [.call (some 83) n_term_Standard [],.mv 20 (.s 83)]) (.seq (.dr [0,1,2,3,5,6,8] [.mv 84 (.s 2),.callp (some 85) n_slices_Clone_s_int_int [.s 84],.mv 86 (.s 20),.lar 87 3 (.s 14),.mv 89 (.s 20),.lar 90 3 (.s 16),.mv 92 (.s 20),.alt [([4],[.callv (some 88) (.s 86) [.s 87],.alt [([7,9,10,11,12,13,14],[.callv (some 91) (.s 89) [.s 90],.la 93 3 (.s 18),.callv (some 94) (.s 92) [.s 93],.bd 95 [.int .i64 0,.int .i64 0,.sl 1 [],.str [],.bool false,.sl 3 [],.str [],.bool false,.sl 3 [],.str [],.bool false,.sl 3 []] [(2,1,(.s 85)),(3,3,(.s 88)),(6,3,(.s 91)),(9,3,(.s 94))],.st 12 (.s 8) (.s 95),.mv 9 (.c (.bool true)),.mv 10 (.i 0)]),([9,7,10,11,12,13,14],[.la 93 3 (.s 18),.callv (some 91) (.s 89) [.s 90],.callv (some 94) (.s 92) [.s 93],.bd 95 [.int .i64 0,.int .i64 0,.sl 1 [],.str [],.bool false,.sl 3 [],.str [],.bool false,.sl 3 [],.str [],.bool false,.sl 3 []] [(2,1,(.s 85)),(3,3,(.s 88)),(6,3,(.s 91)),(9,3,(.s 94))],.st 12 (.s 8) (.s 95),.mv 9 (.c (.bool true)),.mv 10 (.i 0)])]]),([9,4,7,10,11,12,13,14],[.la 93 3 (.s 18),.callv (some 88) (.s 86) [.s 87],.callv (some 91) (.s 89) [.s 90],.callv (some 94) (.s 92) [.s 93],.bd 95 [.int .i64 0,.int .i64 0,.sl 1 [],.str [],.bool false,.sl 3 [],.str [],.bool false,.sl 3 [],.str [],.bool false,.sl 3 []] [(2,1,(.s 85)),(3,3,(.s 88)),(6,3,(.s 91)),(9,3,(.s 94))],.st 12 (.s 8) (.s 95),.mv 9 (.c (.bool true)),.mv 10 (.i 0)])]]) (.ret))
 | 1=>.seq (.reg [.la 72 3 (.s 14),.mv 73 (.s 2),.la 74 3 (.s 18),.callp (some 75) n_term_Set [.s 72,.s 73,.s 74],.callp (some 76) n_term_Fit [.s 75],.mv 71 (.s 76),.ex 77 (.s 71) 0,.ex 78 (.s 71) 1,.st 3 (.s 18) (.s 77),.mv 13 (.s 78)]) (.seq (.seq (.reg [.mv 79 (.s 13),.bin 80 .neq (.s 79) (.i 0)]) (.cond (.s 80) (.seq (.reg [.bd 81 [.int .i64 0,.int .i64 0,.sl 1 [],.str [],.bool false,.sl 3 [],.str [],.bool false,.sl 3 [],.str [],.bool false,.sl 3 []] [],.mv 82 (.s 13),.st 12 (.s 8) (.s 81),.mv 9 (.c (.bool false)),.mv 10 (.s 82)]) (.ret)) (.skip))) (.n 0))
 | 2=>.seq (.reg [.mv 40 (.s 11),.fa 41 0 (.s 4),.la 42 3 (.s 41),.callp (some 43) n_term_Instance [.s 40,.s 42],.mv 39 (.s 43),.ex 44 (.s 39) 0,.ex 45 (.s 39) 1,.al 14 t_Term [.str [],.bool false,.sl 3 []],.sf 14 3 (.s 44),.mv 15 (.s 45)]) (.seq (.reg [.mv 47 (.s 11),.fa 48 3 (.s 4),.la 49 3 (.s 48),.callp (some 50) n_term_Instance [.s 47,.s 49],.mv 46 (.s 50),.ex 51 (.s 46) 0,.ex 52 (.s 46) 1,.al 16 t_Term [.str [],.bool false,.sl 3 []],.sf 16 3 (.s 51),.mv 17 (.s 52)]) (.seq (.reg [.mv 54 (.s 11),.fa 55 3 (.s 5),.la 56 3 (.s 55),.callp (some 57) n_term_Instance [.s 54,.s 56],.mv 53 (.s 57),.ex 58 (.s 53) 0,.ex 59 (.s 53) 1,.al 18 t_Term [.str [],.bool false,.sl 3 []],.st 3 (.s 18) (.s 58),.mv 19 (.s 59)]) (.seq (.seq (.reg [.mv 60 (.s 15),.bin 61 .neq (.s 60) (.i 0),.mv 62 (.s 61),.gd (.s 62) false [63,64] [.mv 63 (.s 17),.bin 64 .neq (.s 63) (.i 0)],.pick 65 (.s 62) (.c (.bool true)) (.s 64),.mv 66 (.s 65),.gd (.s 66) false [67,68] [.mv 67 (.s 19),.bin 68 .neq (.s 67) (.i 0)],.pick 69 (.s 66) (.c (.bool true)) (.s 68)]) (.cond (.s 69) (.seq (.reg [.bd 70 [.int .i64 0,.int .i64 0,.sl 1 [],.str [],.bool false,.sl 3 [],.str [],.bool false,.sl 3 [],.str [],.bool false,.sl 3 []] [],.st 12 (.s 8) (.s 70),.mv 9 (.c (.bool false)),.mv 10 (.i 3)]) (.ret)) (.skip))) (.n 1))))
 | _=>.skip
def body:C:=.seq (.reg [.br 4 t_Rule (.s 0),.br 5 t_Rule (.s 1),.br 7 t_Term (.s 3),.al 8 t_Overlap [.int .i64 0,.int .i64 0,.sl 1 [],.str [],.bool false,.sl 3 [],.str [],.bool false,.sl 3 [],.str [],.bool false,.sl 3 []],.mv 9 (.c (.bool false)),.mv 10 (.i 0)]) (.seq (.reg [.la 22 3 (.s 7),.fa 23 0 (.s 5),.la 24 3 (.s 23),.bd 25 [.str [],.bool false,.sl 3 [],.str [],.bool false,.sl 3 []] [(0,3,(.s 22)),(3,3,(.s 24))],.bs 26 6 [.s 25],.callp (some 27) n_unify_Solve [.s 26],.mv 21 (.s 27),.ex 28 (.s 21) 0,.ex 29 (.s 21) 1,.ex 30 (.s 21) 2,.mv 11 (.s 28),.mv 12 (.s 29),.mv 13 (.s 30)]) (.seq (.seq (.reg [.mv 31 (.s 13),.bin 32 .neq (.s 31) (.i 0),.mv 33 (.s 32),.gd (.s 33) false [34,35] [.mv 34 (.s 12),.un 35 .not (.s 34)],.pick 36 (.s 33) (.c (.bool true)) (.s 35)]) (.cond (.s 36) (.seq (.reg [.bd 37 [.int .i64 0,.int .i64 0,.sl 1 [],.str [],.bool false,.sl 3 [],.str [],.bool false,.sl 3 [],.str [],.bool false,.sl 3 []] [],.mv 38 (.s 13),.st 12 (.s 8) (.s 37),.mv 9 (.c (.bool false)),.mv 10 (.s 38)]) (.ret)) (.skip))) (.n 2)))
def rs:List RV:=[.a 8 12,.t 9,.t 10]
attribute [push_cast] nd body
theorem ok:okF prog n_overlap_one nd body 4 rs = true:=by kernel_rfl
end overlap_one
namespace overlap_inner
def nd (_:Nat):C:=.skip
def body:C:=.seq (.reg [.br 1 t_Rule (.s 0),.al 2 t_Rule [.str [],.bool false,.sl 3 [],.str [],.bool false,.sl 3 []]]) (.seq (.reg [.mkm 6,.al 3 t_m_string_string [.nilm],.st 1 (.s 3) (.s 6)]) (.seq (.reg [.mf 7 n_overlap_inner_1 [] [.s 3],.mv 4 (.s 7)]) (.seq (.reg [.fa 8 0 (.s 1),.la 9 3 (.s 8),.mv 10 (.s 4),.call (some 11) n_term_Renamed [.s 9,.s 10],.al 5 t_Term [.str [],.bool false,.sl 3 []],.sf 5 3 (.s 11)]) (.seq (.dr [0,1,2,3,4,5,6] [.lar 12 3 (.s 5),.far 13 3 (.s 1),.lar 14 3 (.s 13),.mv 15 (.s 4),.call (some 16) n_term_Renamed [.s 14,.s 15],.bd 17 [.str [],.bool false,.sl 3 [],.str [],.bool false,.sl 3 []] [(0,3,(.s 12)),(3,3,(.s 16))],.st 6 (.s 2) (.s 17)]) (.ret)))))
def rs:List RV:=[.a 2 6]
attribute [push_cast] nd body
theorem ok:okF prog n_overlap_inner nd body 1 rs = true:=by kernel_rfl
end overlap_inner
namespace overlap_Linear_1
def nd (_:Nat):C:=.skip
def body:C:=.seq (.reg [.mv 3 (.c (.bool false))]) (.seq (.reg [.la 4 3 (.s 1),.mv 5 (.s 0),.callp (some 6) n_term_Count [.s 4,.s 5],.bin 7 .gtr (.s 6) (.i 1),.mv 3 (.s 7)]) (.ret))
def rs:List RV:=[.t 3]
attribute [push_cast] nd body
theorem ok:okF prog n_overlap_Linear_1 nd body 2 rs = true:=by kernel_rfl
end overlap_Linear_1
namespace term_Count
def nd:Nat→C
 | 0=>.seq (.reg [.mv 31 (.s 5),.mv 4 (.s 31)]) (.ret)
 | 1=>.gh [.ks 0 [1,5,19,20,21]] (.m 3)
 | 2=>.seq (.blk 1 (.seq (.reg [.ia 23 3 (.s 19) (.s 21),.la 24 3 (.s 23),.al 7 t_Term [.str [],.bool false,.sl 3 []],.sf 7 3 (.s 24)]) (.reg [.mv 25 (.s 5),.la 26 3 (.s 7),.mv 27 (.s 1),.callp (some 28) n_term_Count [.s 26,.s 27],.bin 29 .add (.s 25) (.s 28),.mv 5 (.s 29)]))) (.reg [.bin 30 .add (.s 21) (.i 1),.mv 21 (.s 30)])
 | 3=>.seq (.reg [.bin 22 .lss (.s 21) (.s 20)]) (.seq (.cond (.s 22) (.skip) (.exit 0)) (.n 2))
 | 4=>.seq (.seq (.reg [.fa 18 2 (.s 2),.ld 19 (.s 18),.len 20 (.s 19),.mv 21 (.i 0)]) (.blk 0 (.loop (.n 1)))) (.n 0)
 | _=>.skip
def body:C:=.seq (.reg [.br 2 t_Term (.s 0),.mv 4 (.i 0)]) (.seq (.reg [.mv 5 (.i 0)]) (.seq (.seq (.reg [.fa 8 1 (.s 2),.ld 9 (.s 8),.mv 10 (.s 9),.gd (.s 10) true [11,12,13,14] [.fa 11 0 (.s 2),.ld 12 (.s 11),.mv 13 (.s 1),.bin 14 .eql (.s 12) (.s 13)],.pick 15 (.s 10) (.s 14) (.c (.bool false))]) (.cond (.s 15) (.reg [.mv 16 (.s 5),.bin 17 .add (.s 16) (.i 1),.mv 5 (.s 17)]) (.skip))) (.n 4)))
def rs:List RV:=[.t 4]
attribute [push_cast] nd body
theorem ok:okF prog n_term_Count nd body 2 rs = true:=by kernel_rfl
abbrev L3 (v1 v5 v19 v20 v21:V) (B:Nat) (H:List Ob) (Q:X→T→List Ob→Prop):Prop:=Run prog nd B [.c (.m 3),.c (.loop (.n 1)),.mk 0,.c (.n 0)] [(1,v1),(5,v5),(19,v19),(20,v20),(21,v21)] H Q
theorem G3 (h:Run prog nd B (.c (nd 3) :: s) t H Q):Run prog nd B (.c (.m 3) :: s) t H Q:=run_m.2 h
end term_Count
namespace stringslite_TrimSuffix
def nd:Nat→C
 | 0=>.seq (.reg [.mv 15 (.s 0),.mv 4 (.s 15)]) (.ret)
 | _=>.skip
def body:C:=.seq (.reg [.mv 4 (.c (.str []))]) (.seq (.seq (.reg [.mv 5 (.s 0),.mv 6 (.s 1),.callp (some 7) n_stringslite_HasSuffix [.s 5,.s 6]]) (.cond (.s 7) (.seq (.reg [.mv 8 (.s 0),.mv 9 (.s 0),.lens 10 (.s 9),.mv 11 (.s 1),.lens 12 (.s 11),.bin 13 .sub (.s 10) (.s 12),.sxs 14 (.s 8) none (some (.s 13)),.mv 4 (.s 14)]) (.ret)) (.skip))) (.n 0))
def rs:List RV:=[.t 4]
attribute [push_cast] nd body
theorem ok:okF prog n_stringslite_TrimSuffix nd body 2 rs = true:=by kernel_rfl
end stringslite_TrimSuffix
namespace slices_IndexFunc_s_byte_byte
def nd:Nat→C
 | 0=>.seq (.reg [.mv 4 (.i (-1))]) (.ret)
 | 1=>.gh [.ks 0 [0,1,7,8]] (.m 3)
 | 2=>.seq (.blk 1 (.seq (.reg [.mv 10 (.s 8),.mv 5 (.s 10)]) (.seq (.reg [.mv 11 (.s 1),.mv 12 (.s 0),.mv 13 (.s 5),.ia 14 1 (.s 12) (.s 13),.ld 15 (.s 14),.callvp (some 16) (.s 11) [.s 15]]) (.cond (.s 16) (.seq (.reg [.mv 17 (.s 5),.mv 4 (.s 17)]) (.ret)) (.skip))))) (.reg [.bin 18 .add (.s 8) (.i 1),.mv 8 (.s 18)])
 | 3=>.seq (.reg [.bin 9 .lss (.s 8) (.s 7)]) (.seq (.cond (.s 9) (.skip) (.exit 0)) (.n 2))
 | _=>.skip
def body:C:=.seq (.reg [.mv 4 (.i 0)]) (.seq (.seq (.reg [.mv 6 (.s 0),.len 7 (.s 6),.mv 8 (.i 0)]) (.blk 0 (.loop (.n 1)))) (.n 0))
def rs:List RV:=[.t 4]
attribute [push_cast] nd body
theorem ok:okF prog n_slices_IndexFunc_s_byte_byte nd body 2 rs = true:=by kernel_rfl
abbrev L3 (v0 v1 v7 v8:V) (B:Nat) (H:List Ob) (Q:X→T→List Ob→Prop):Prop:=Run prog nd B [.c (.m 3),.c (.loop (.n 1)),.mk 0,.c (.n 0)] [(0,v0),(1,v1),(7,v7),(8,v8)] H Q
theorem G3 (h:Run prog nd B (.c (nd 3) :: s) t H Q):Run prog nd B (.c (.m 3) :: s) t H Q:=run_m.2 h
end slices_IndexFunc_s_byte_byte
namespace term_Image
def nd:Nat→C
 | 0=>.seq (.reg [.mv 17 (.s 0),.mv 18 (.s 6),.ia 19 4 (.s 17) (.s 18),.fa 20 1 (.s 19),.la 21 3 (.s 20),.st 3 (.s 4) (.s 21),.mv 5 (.c (.bool true))]) (.ret)
 | _=>.skip
def body:C:=.seq (.reg [.al 4 t_Term [.str [],.bool false,.sl 3 []],.mv 5 (.c (.bool false))]) (.seq (.reg [.mv 9 (.s 0),.mv 10 (.s 1),.call (some 11) n_slices_BinarySearchFunc_s_Bind_Bind_string [.s 9,.s 10,(.f n_term_Image_1)],.mv 8 (.s 11),.ex 12 (.s 8) 0,.ex 13 (.s 8) 1,.mv 6 (.s 12),.mv 7 (.s 13)]) (.seq (.seq (.reg [.mv 14 (.s 7),.un 15 .not (.s 14)]) (.cond (.s 15) (.seq (.reg [.bd 16 [.str [],.bool false,.sl 3 []] [],.st 3 (.s 4) (.s 16),.mv 5 (.c (.bool false))]) (.ret)) (.skip))) (.n 0)))
def rs:List RV:=[.a 4 3,.t 5]
attribute [push_cast] nd body
theorem ok:okF prog n_term_Image nd body 2 rs = true:=by kernel_rfl
end term_Image
namespace unify_bind
def nd (_:Nat):C:=.skip
def body:C:=.seq (.reg [.br 5 t_Term (.s 2),.mv 6 (.c (.sl 4 []))]) (.seq (.reg [.mv 10 (.s 0),.mv 11 (.s 1),.call (some 12) n_slices_BinarySearchFunc_s_Bind_Bind_string [.s 10,.s 11,(.f n_unify_bind_1)],.mv 9 (.s 12),.ex 13 (.s 9) 0,.ex 14 (.s 9) 1,.mv 7 (.s 13),.mv 8 (.s 14)]) (.seq (.reg [.mv 15 (.s 0),.mv 16 (.s 7),.mv 17 (.s 1),.la 18 3 (.s 5),.bd 19 [.str [],.str [],.bool false,.sl 3 []] [(0,1,(.s 17)),(1,3,(.s 18))],.bo 20 t_Bind 4 [.s 19],.call (some 21) n_slices_Insert_s_Bind_Bind [.s 15,.s 16,.s 20],.mv 6 (.s 21)]) (.ret)))
def rs:List RV:=[.t 6]
attribute [push_cast] nd body
theorem ok:okF prog n_unify_bind nd body 3 rs = true:=by kernel_rfl
end unify_bind
namespace term_measure
def nd:Nat→C
 | 0=>.seq (.reg [.fa 51 1 (.s 7),.ld 52 (.s 51),.bin 53 .add (.s 52) (.i 1),.fa 54 1 (.s 7),.st 1 (.s 54) (.s 53)]) (.seq (.reg [.la 55 2 (.s 7),.st 2 (.s 4) (.s 55)]) (.ret))
 | 1=>.gh [.ks 2 [0,4,7,29,30,31]] (.m 3)
 | 2=>.seq (.blk 1 (.seq (.reg [.ia 33 3 (.s 29) (.s 31),.la 34 3 (.s 33),.al 9 t_Term [.str [],.bool false,.sl 3 []],.sf 9 3 (.s 34)]) (.seq (.reg [.mv 35 (.s 0),.la 36 3 (.s 9),.callp (some 37) n_term_measure [.s 35,.s 36],.al 10 t_term_meter [.int .i64 0,.int .i64 0],.sf 10 2 (.s 37)]) (.dr [0,1,2,3,4,5,6,7,10] [.fa 38 0 (.s 7),.ld 39 (.s 38),.fa 40 0 (.s 10),.ld 41 (.s 40),.bin 42 .add (.s 39) (.s 41),.fa 43 1 (.s 7),.ld 44 (.s 43),.fa 45 1 (.s 10),.fa 48 0 (.s 7),.alt [([8,9,11,12,13],[.ld 46 (.s 45),.mx 47 (.s 44) (.s 46),.st 1 (.s 48) (.s 42),.fa 49 1 (.s 7),.st 1 (.s 49) (.s 47)]),([11,8,9,12,13],[.st 1 (.s 48) (.s 42),.ld 46 (.s 45),.mx 47 (.s 44) (.s 46),.fa 49 1 (.s 7),.st 1 (.s 49) (.s 47)])]])))) (.reg [.bin 50 .add (.s 31) (.i 1),.mv 31 (.s 50)])
 | 3=>.seq (.reg [.bin 32 .lss (.s 31) (.s 30)]) (.seq (.cond (.s 32) (.skip) (.exit 0)) (.n 2))
 | 4=>.seq (.reg [.bd 27 [.int .i64 0,.int .i64 0] [(0,1,(.i 1)),(1,1,(.i 0))],.al 7 t_term_meter [.int .i64 0,.int .i64 0],.st 2 (.s 7) (.s 27)]) (.seq (.seq (.reg [.fa 28 2 (.s 3),.ld 29 (.s 28),.len 30 (.s 29),.mv 31 (.i 0)]) (.blk 0 (.loop (.n 1)))) (.n 0))
 | 5=>.seq (.reg [.bd 26 [.int .i64 0,.int .i64 0] [(0,1,(.i 1)),(1,1,(.i 1))],.st 2 (.s 4) (.s 26)]) (.ret)
 | _=>.skip
def body:C:=.seq (.reg [.br 3 t_Term (.s 1),.al 4 t_term_meter [.int .i64 0,.int .i64 0]]) (.seq (.seq (.reg [.fa 11 1 (.s 3),.ld 12 (.s 11)]) (.cond (.s 12) (.seq (.seq (.reg [.mv 14 (.s 0),.fa 15 0 (.s 3),.ld 16 (.s 15),.callp (some 17) n_term_Image [.s 14,.s 16],.mv 13 (.s 17),.ex 18 (.s 13) 0,.ex 19 (.s 13) 1,.al 5 t_Term [.str [],.bool false,.sl 3 []],.sf 5 3 (.s 18),.mv 6 (.s 19)]) (.seq (.reg [.mv 20 (.s 6)]) (.cond (.s 20) (.seq (.dr [0,1,2,3,4,5] [.la 21 3 (.s 5),.callp (some 22) n_term_Size [.s 21],.la 23 3 (.s 5),.callp (some 24) n_term_Depth [.s 23],.bd 25 [.int .i64 0,.int .i64 0] [(0,1,(.s 22)),(1,1,(.s 24))],.st 2 (.s 4) (.s 25)]) (.ret)) (.skip)))) (.n 5)) (.skip))) (.n 4))
def rs:List RV:=[.a 4 2]
attribute [push_cast] nd body
theorem ok:okF prog n_term_measure nd body 2 rs = true:=by kernel_rfl
abbrev L3 (v0 v4 v7 v29 v30 v31:V) (B:Nat) (H:List Ob) (Q:X→T→List Ob→Prop):Prop:=Run prog nd B [.c (.m 3),.c (.loop (.n 1)),.mk 0,.c (.n 0)] [(0,v0),(4,v4),(7,v7),(29,v29),(30,v30),(31,v31)] H Q
theorem G3 (h:Run prog nd B (.c (nd 3) :: s) t H Q):Run prog nd B (.c (.m 3) :: s) t H Q:=run_m.2 h
end term_measure
namespace term_replace
def nd:Nat→C
 | 0=>.seq (.reg [.la 44 3 (.s 7),.st 3 (.s 4) (.s 44)]) (.ret)
 | 1=>.gh [.ks 3 [0,4,7,29,30,31]] (.m 3)
 | 2=>.seq (.blk 1 (.seq (.reg [.ia 33 3 (.s 29) (.s 31),.la 34 3 (.s 33),.al 9 t_Term [.str [],.bool false,.sl 3 []],.sf 9 3 (.s 34)]) (.dr [0,1,2,3,4,5,6,7,8] [.fa 35 2 (.s 7),.ld 36 (.s 35),.mv 37 (.s 0),.la 38 3 (.s 9),.callp (some 39) n_term_replace [.s 37,.s 38],.bs 40 3 [.s 39],.app 41 t_Term 3 48 (.s 36) (.s 40),.fa 42 2 (.s 7),.st 1 (.s 42) (.s 41)]))) (.reg [.bin 43 .add (.s 31) (.i 1),.mv 31 (.s 43)])
 | 3=>.seq (.reg [.bin 32 .lss (.s 31) (.s 30)]) (.seq (.cond (.s 32) (.skip) (.exit 0)) (.n 2))
 | 4=>.seq (.reg [.fa 25 0 (.s 3),.ld 26 (.s 25),.bd 27 [.str [],.bool false,.nil] [(0,1,(.s 26))],.al 7 t_Term [.str [],.bool false,.nil],.st 3 (.s 7) (.s 27),.ono t_Term 3 2 (.s 7)]) (.seq (.seq (.reg [.fa 28 2 (.s 3),.ld 29 (.s 28),.len 30 (.s 29),.mv 31 (.i 0)]) (.blk 0 (.loop (.n 1)))) (.n 0))
 | 5=>.seq (.reg [.fa 22 0 (.s 3),.ld 23 (.s 22),.bd 24 [.str [],.bool false,.sl 3 []] [(0,1,(.s 23)),(1,1,(.c (.bool true)))],.st 3 (.s 4) (.s 24)]) (.ret)
 | _=>.skip
def body:C:=.seq (.reg [.br 3 t_Term (.s 1),.al 4 t_Term [.str [],.bool false,.sl 3 []]]) (.seq (.seq (.reg [.fa 10 1 (.s 3),.ld 11 (.s 10)]) (.cond (.s 11) (.seq (.seq (.reg [.mv 13 (.s 0),.fa 14 0 (.s 3),.ld 15 (.s 14),.callp (some 16) n_term_Image [.s 13,.s 15],.mv 12 (.s 16),.ex 17 (.s 12) 0,.ex 18 (.s 12) 1,.al 5 t_Term [.str [],.bool false,.sl 3 []],.sf 5 3 (.s 17),.mv 6 (.s 18)]) (.seq (.reg [.mv 19 (.s 6)]) (.cond (.s 19) (.seq (.reg [.la 20 3 (.s 5),.callp (some 21) n_term_Own [.s 20],.st 3 (.s 4) (.s 21)]) (.ret)) (.skip)))) (.n 5)) (.skip))) (.n 4))
def rs:List RV:=[.a 4 3]
attribute [push_cast] nd body
theorem ok:okF prog n_term_replace nd body 2 rs = true:=by kernel_rfl
abbrev L3 (v0 v4 v7 v29 v30 v31:V) (B:Nat) (H:List Ob) (Q:X→T→List Ob→Prop):Prop:=Run prog nd B [.c (.m 3),.c (.loop (.n 1)),.mk 0,.c (.n 0)] [(0,v0),(4,v4),(7,v7),(29,v29),(30,v30),(31,v31)] H Q
theorem G3 (h:Run prog nd B (.c (nd 3) :: s) t H Q):Run prog nd B (.c (.m 3) :: s) t H Q:=run_m.2 h
end term_replace
namespace stringslite_HasSuffix
def nd (_:Nat):C:=.skip
def body:C:=.seq (.reg [.mv 4 (.c (.bool false))]) (.seq (.reg [.mv 5 (.s 0),.lens 6 (.s 5),.mv 7 (.s 1),.lens 8 (.s 7),.bin 9 .geq (.s 6) (.s 8),.mv 10 (.s 9),.gd (.s 10) true [11,12,13,14,15,16,17,18,19] [.mv 11 (.s 0),.mv 12 (.s 0),.lens 13 (.s 12),.mv 14 (.s 1),.lens 15 (.s 14),.bin 16 .sub (.s 13) (.s 15),.sxs 17 (.s 11) (some (.s 16)) none,.mv 18 (.s 1),.bin 19 .eql (.s 17) (.s 18)],.pick 20 (.s 10) (.s 19) (.c (.bool false)),.mv 4 (.s 20)]) (.ret))
def rs:List RV:=[.t 4]
attribute [push_cast] nd body
theorem ok:okF prog n_stringslite_HasSuffix nd body 2 rs = true:=by kernel_rfl
end stringslite_HasSuffix
namespace slices_IndexFunc_s_string_string
def nd:Nat→C
 | 0=>.seq (.reg [.mv 4 (.i (-1))]) (.ret)
 | 1=>.gh [.ks 0 [0,1,7,8]] (.m 3)
 | 2=>.seq (.blk 1 (.seq (.reg [.mv 10 (.s 8),.mv 5 (.s 10)]) (.seq (.reg [.mv 11 (.s 1),.mv 12 (.s 0),.mv 13 (.s 5),.ia 14 1 (.s 12) (.s 13),.ld 15 (.s 14),.callvp (some 16) (.s 11) [.s 15]]) (.cond (.s 16) (.seq (.reg [.mv 17 (.s 5),.mv 4 (.s 17)]) (.ret)) (.skip))))) (.reg [.bin 18 .add (.s 8) (.i 1),.mv 8 (.s 18)])
 | 3=>.seq (.reg [.bin 9 .lss (.s 8) (.s 7)]) (.seq (.cond (.s 9) (.skip) (.exit 0)) (.n 2))
 | _=>.skip
def body:C:=.seq (.reg [.mv 4 (.i 0)]) (.seq (.seq (.reg [.mv 6 (.s 0),.len 7 (.s 6),.mv 8 (.i 0)]) (.blk 0 (.loop (.n 1)))) (.n 0))
def rs:List RV:=[.t 4]
attribute [push_cast] nd body
theorem ok:okF prog n_slices_IndexFunc_s_string_string nd body 2 rs = true:=by kernel_rfl
abbrev L3 (v0 v1 v7 v8:V) (B:Nat) (H:List Ob) (Q:X→T→List Ob→Prop):Prop:=Run prog nd B [.c (.m 3),.c (.loop (.n 1)),.mk 0,.c (.n 0)] [(0,v0),(1,v1),(7,v7),(8,v8)] H Q
theorem G3 (h:Run prog nd B (.c (nd 3) :: s) t H Q):Run prog nd B (.c (.m 3) :: s) t H Q:=run_m.2 h
end slices_IndexFunc_s_string_string
namespace term_Standard_1
def nd (_:Nat):C:=.skip
def body:C:=.seq (.reg [.br 2 t_Term (.s 0),.al 3 t_Term [.str [],.bool false,.sl 3 []]]) (.seq (.reg [.la 4 3 (.s 2),.mf 5 n_term_Standard_1_1 [] [.s 1],.call (some 6) n_term_Renamed [.s 4,.s 5],.st 3 (.s 3) (.s 6)]) (.ret))
def rs:List RV:=[.a 3 3]
attribute [push_cast] nd body
theorem ok:okF prog n_term_Standard_1 nd body 2 rs = true:=by kernel_rfl
end term_Standard_1
namespace term_Renamed
def nd:Nat→C
 | 0=>.seq (.reg [.la 34 3 (.s 5),.st 3 (.s 4) (.s 34)]) (.ret)
 | 1=>.gh [.ks 3 [1,4,5,19,20,21]] (.m 3)
 | 2=>.seq (.blk 1 (.seq (.reg [.ia 23 3 (.s 19) (.s 21),.la 24 3 (.s 23),.al 7 t_Term [.str [],.bool false,.sl 3 []],.sf 7 3 (.s 24)]) (.dr [2,3] [.la 27 3 (.s 7),.mv 28 (.s 1),.alt [([0],[.fa 25 2 (.s 5),.alt [([1,4,5,6,7,8],[.ld 26 (.s 25),.call (some 29) n_term_Renamed [.s 27,.s 28],.bs 30 3 [.s 29],.app 31 t_Term 3 48 (.s 26) (.s 30),.fa 32 2 (.s 5),.st 1 (.s 32) (.s 31)]),([4,1,5,6,7,8],[.call (some 29) n_term_Renamed [.s 27,.s 28],.ld 26 (.s 25),.bs 30 3 [.s 29],.app 31 t_Term 3 48 (.s 26) (.s 30),.fa 32 2 (.s 5),.st 1 (.s 32) (.s 31)])]]),([4,0,1,5,6,7,8],[.call (some 29) n_term_Renamed [.s 27,.s 28],.fa 25 2 (.s 5),.ld 26 (.s 25),.bs 30 3 [.s 29],.app 31 t_Term 3 48 (.s 26) (.s 30),.fa 32 2 (.s 5),.st 1 (.s 32) (.s 31)])]]))) (.reg [.bin 33 .add (.s 21) (.i 1),.mv 21 (.s 33)])
 | 3=>.seq (.reg [.bin 22 .lss (.s 21) (.s 20)]) (.seq (.cond (.s 22) (.skip) (.exit 0)) (.n 2))
 | 4=>.seq (.reg [.fa 15 0 (.s 2),.ld 16 (.s 15),.bd 17 [.str [],.bool false,.nil] [(0,1,(.s 16))],.al 5 t_Term [.str [],.bool false,.nil],.st 3 (.s 5) (.s 17),.ono t_Term 3 2 (.s 5)]) (.seq (.seq (.reg [.fa 18 2 (.s 2),.ld 19 (.s 18),.len 20 (.s 19),.mv 21 (.i 0)]) (.blk 0 (.loop (.n 1)))) (.n 0))
 | _=>.skip
def body:C:=.seq (.reg [.br 2 t_Term (.s 0),.al 4 t_Term [.str [],.bool false,.sl 3 []]]) (.seq (.seq (.reg [.fa 8 1 (.s 2),.ld 9 (.s 8)]) (.cond (.s 9) (.seq (.reg [.mv 10 (.s 1),.fa 11 0 (.s 2),.ld 12 (.s 11),.callv (some 13) (.s 10) [.s 12],.bd 14 [.str [],.bool false,.sl 3 []] [(0,1,(.s 13)),(1,1,(.c (.bool true)))],.st 3 (.s 4) (.s 14)]) (.ret)) (.skip))) (.n 4))
def rs:List RV:=[.a 4 3]
attribute [push_cast] nd body
theorem ok:okF prog n_term_Renamed nd body 2 rs = true:=by kernel_rfl
abbrev L3 (v1 v4 v5 v19 v20 v21:V) (B:Nat) (H:List Ob) (Q:X→T→List Ob→Prop):Prop:=Run prog nd B [.c (.m 3),.c (.loop (.n 1)),.mk 0,.c (.n 0)] [(1,v1),(4,v4),(5,v5),(19,v19),(20,v20),(21,v21)] H Q
theorem G3 (h:Run prog nd B (.c (nd 3) :: s) t H Q):Run prog nd B (.c (.m 3) :: s) t H Q:=run_m.2 h
end term_Renamed
namespace term_Standard_1_1
def nd:Nat→C
 | 0=>.seq (.reg [.ld 14 (.s 1),.mv 15 (.s 0),.lkp 16 true false (.str []) (.s 14) (.s 15),.mv 3 (.s 16)]) (.ret)
 | _=>.skip
def body:C:=.seq (.reg [.mv 3 (.c (.str []))]) (.seq (.seq (.reg [.ld 4 (.s 1),.mv 5 (.s 0),.lkp 6 true false (.str []) (.s 4) (.s 5),.bin 7 .eql (.s 6) (.c (.str []))]) (.cond (.s 7) (.dr [0,1,2,3,4,5,6] [.ld 8 (.s 1),.mv 9 (.s 0),.ld 10 (.s 1),.lnm 11 (.s 10),.callp (some 12) n_strconv_Itoa [.s 11],.bin 13 .add (.c (.str [120])) (.s 12),.mup true (.s 8) (.s 9) (.s 13)]) (.skip))) (.n 0))
def rs:List RV:=[.t 3]
attribute [push_cast] nd body
theorem ok:okF prog n_term_Standard_1_1 nd body 2 rs = true:=by kernel_rfl
end term_Standard_1_1
namespace strconv_Itoa
def nd (_:Nat):C:=.skip
def body:C:=.seq (.reg [.mv 2 (.c (.str []))]) (.seq (.reg [.mv 3 (.s 0),.callp (some 4) n_strconv_Itoa_ [.s 3],.mv 2 (.s 4)]) (.ret))
def rs:List RV:=[.t 2]
attribute [push_cast] nd body
theorem ok:okF prog n_strconv_Itoa nd body 1 rs = true:=by kernel_rfl
end strconv_Itoa
namespace unify_Solve
def nd:Nat→C
 | 0=>.seq (.reg [.frz 8,.mv 61 (.s 8),.mv 2 (.s 61),.mv 3 (.c (.bool true)),.mv 4 (.i 0)]) (.ret)
 | 1=>.gh [.ks 6 [5,8,9,36]] (.m 3)
 | 2=>.blk 3 (.seq (.reg [.en 39 (.s 36),.ex 40 (.s 39) 0,.mv 10 (.s 40)]) (.seq (.reg [.mv 41 (.s 10),.bd 42 [.str [],.bool false,.sl 3 []] [(0,1,(.s 41)),(1,1,(.c (.bool true)))],.al 11 t_Term [.str [],.bool false,.sl 3 []],.sf 11 3 (.s 42)]) (.seq (.seq (.reg [.mv 43 (.s 5),.la 44 3 (.s 11),.mv 45 (.s 9),.call (some 46) n_unify_unifier_measure [.s 43,.s 44,.s 45],.al 12 t_unify_meter [.int .i64 0,.int .i64 0],.sf 12 2 (.s 46)]) (.seq (.reg [.fa 47 0 (.s 12),.ld 48 (.s 47),.bin 49 .gtr (.s 48) (.i 4000),.mv 50 (.s 49),.gd (.s 50) false [51,52,53] [.fa 51 1 (.s 12),.ld 52 (.s 51),.bin 53 .gtr (.s 52) (.i 200)],.pick 54 (.s 50) (.c (.bool true)) (.s 53)]) (.cond (.s 54) (.seq (.reg [.mv 2 (.c (.sl 4 [])),.mv 3 (.c (.bool false)),.mv 4 (.i 3)]) (.ret)) (.skip)))) (.reg [.mv 55 (.s 8),.mv 56 (.s 10),.mv 57 (.s 5),.la 58 3 (.s 11),.call (some 59) n_unify_unifier_whole [.s 57,.s 58],.call (some 60) n_unify_bind [.s 55,.s 56,.s 59],.mv 8 (.s 60)]))))
 | 3=>.seq (.reg [.nx 37 (.s 36),.ex 38 (.s 37) 0]) (.seq (.cond (.s 38) (.skip) (.exit 2)) (.n 2))
 | 4=>.seq (.reg [.mv 8 (.c .nil),.rnon 8 t_Bind 4]) (.seq (.reg [.mkm 31,.mv 9 (.s 31)]) (.seq (.seq (.reg [.mv 32 (.s 5),.nc 33 (.s 32),.fa 34 0 (.s 33),.ld 35 (.s 34),.rg 36 (.s 35)]) (.blk 2 (.loop (.n 1)))) (.n 0)))
 | 5=>.gh [.ks 3 [5,17,18,19]] (.m 7)
 | 6=>.seq (.blk 1 (.seq (.reg [.ia 21 6 (.s 17) (.s 19),.la 22 6 (.s 21),.al 7 t_Rule [.str [],.bool false,.sl 3 [],.str [],.bool false,.sl 3 []],.sf 7 6 (.s 22)]) (.seq (.reg [.mv 23 (.s 5),.fa 24 0 (.s 7),.la 25 3 (.s 24),.fa 26 3 (.s 7),.la 27 3 (.s 26),.call (some 28) n_unify_unifier_solve [.s 23,.s 25,.s 27],.un 29 .not (.s 28)]) (.cond (.s 29) (.seq (.reg [.mv 2 (.c (.sl 4 [])),.mv 3 (.c (.bool false)),.mv 4 (.i 0)]) (.ret)) (.skip))))) (.reg [.bin 30 .add (.s 19) (.i 1),.mv 19 (.s 30)])
 | 7=>.seq (.reg [.bin 20 .lss (.s 19) (.s 18)]) (.seq (.cond (.s 20) (.skip) (.exit 0)) (.n 6))
 | _=>.skip
def body:C:=.seq (.reg [.mv 2 (.c (.sl 4 [])),.mv 3 (.c (.bool false)),.mv 4 (.i 0)]) (.seq (.reg [.mkm 13,.mkm 14,.bd 15 [.nilm,.nilm] [(0,1,(.s 13)),(1,1,(.s 14))],.bx 16 t_unify_unifier (.s 15),.mv 5 (.s 16)]) (.seq (.seq (.reg [.mv 17 (.s 0),.len 18 (.s 17),.mv 19 (.i 0)]) (.blk 0 (.loop (.n 5)))) (.n 4)))
def rs:List RV:=[.t 2,.t 3,.t 4]
attribute [push_cast] nd body
theorem ok:okF prog n_unify_Solve nd body 1 rs = true:=by kernel_rfl
abbrev L3 (v5 v8 v9 v36:V) (B:Nat) (H:List Ob) (Q:X→T→List Ob→Prop):Prop:=Run prog nd B [.c (.m 3),.c (.loop (.n 1)),.mk 2,.c (.n 0)] [(5,v5),(8,v8),(9,v9),(36,v36)] H Q
theorem G3 (h:Run prog nd B (.c (nd 3) :: s) t H Q):Run prog nd B (.c (.m 3) :: s) t H Q:=run_m.2 h
abbrev L7 (v5 v17 v18 v19:V) (B:Nat) (H:List Ob) (Q:X→T→List Ob→Prop):Prop:=Run prog nd B [.c (.m 7),.c (.loop (.n 5)),.mk 0,.c (.n 4)] [(5,v5),(17,v17),(18,v18),(19,v19)] H Q
theorem G7 (h:Run prog nd B (.c (nd 7) :: s) t H Q):Run prog nd B (.c (.m 7) :: s) t H Q:=run_m.2 h
end unify_Solve
namespace overlap_inner_1
def nd:Nat→C
 | 0=>.seq (.reg [.ld 14 (.s 1),.mv 15 (.s 0),.lkp 16 true false (.str []) (.s 14) (.s 15),.mv 3 (.s 16)]) (.ret)
 | _=>.skip
def body:C:=.seq (.reg [.mv 3 (.c (.str []))]) (.seq (.seq (.reg [.ld 4 (.s 1),.mv 5 (.s 0),.lkp 6 true false (.str []) (.s 4) (.s 5),.bin 7 .eql (.s 6) (.c (.str []))]) (.cond (.s 7) (.dr [0,1,2,3,4,5,6] [.ld 8 (.s 1),.mv 9 (.s 0),.ld 10 (.s 1),.lnm 11 (.s 10),.callp (some 12) n_strconv_Itoa [.s 11],.bin 13 .add (.c (.str [121])) (.s 12),.mup true (.s 8) (.s 9) (.s 13)]) (.skip))) (.n 0))
def rs:List RV:=[.t 3]
attribute [push_cast] nd body
theorem ok:okF prog n_overlap_inner_1 nd body 2 rs = true:=by kernel_rfl
end overlap_inner_1
namespace slices_BinarySearchFunc_s_Bind_Bind_string
def nd:Nat→C
 | 0=>.seq (.reg [.mv 35 (.s 9),.mv 36 (.s 9),.mv 37 (.s 8),.bin 38 .lss (.s 36) (.s 37),.mv 39 (.s 38),.gd (.s 39) true [40,41,42,43,44,45,46,47] [.mv 40 (.s 2),.mv 41 (.s 0),.mv 42 (.s 9),.ia 43 4 (.s 41) (.s 42),.la 44 4 (.s 43),.mv 45 (.s 1),.callvp (some 46) (.s 40) [.s 44,.s 45],.bin 47 .eql (.s 46) (.i 0)],.pick 48 (.s 39) (.s 47) (.c (.bool false)),.mv 6 (.s 35),.mv 7 (.s 48)]) (.ret)
 | 1=>.gh [.ks 0 [0,1,2,8,9,10]] (.m 3)
 | 2=>.blk 1 (.seq (.reg [.mv 18 (.s 9),.mv 19 (.s 10),.bin 20 .add (.s 18) (.s 19),.cvi 21 .u64 (.s 20),.sh 22 .shr (.s 21) (.c (.int .u64 1)),.cvi 23 .i64 (.s 22),.mv 11 (.s 23)]) (.seq (.reg [.mv 24 (.s 2),.mv 25 (.s 0),.mv 26 (.s 11),.ia 27 4 (.s 25) (.s 26),.la 28 4 (.s 27),.mv 29 (.s 1),.callvp (some 30) (.s 24) [.s 28,.s 29],.bin 31 .lss (.s 30) (.i 0)]) (.cond (.s 31) (.reg [.mv 32 (.s 11),.bin 33 .add (.s 32) (.i 1),.mv 9 (.s 33)]) (.reg [.mv 34 (.s 11),.mv 10 (.s 34)]))))
 | 3=>.seq (.seq (.reg [.mv 15 (.s 9),.mv 16 (.s 10),.bin 17 .lss (.s 15) (.s 16)]) (.cond (.s 17) (.skip) (.exit 0))) (.n 2)
 | _=>.skip
def body:C:=.seq (.reg [.mv 6 (.i 0),.mv 7 (.c (.bool false))]) (.seq (.reg [.mv 12 (.s 0),.len 13 (.s 12),.mv 8 (.s 13)]) (.seq (.reg [.mv 14 (.s 8),.mv 9 (.i 0),.mv 10 (.s 14)]) (.seq (.blk 0 (.loop (.n 1))) (.n 0))))
def rs:List RV:=[.t 6,.t 7]
attribute [push_cast] nd body
theorem ok:okF prog n_slices_BinarySearchFunc_s_Bind_Bind_string nd body 3 rs = true:=by kernel_rfl
abbrev L3 (v0 v1 v2 v8 v9 v10:V) (B:Nat) (H:List Ob) (Q:X→T→List Ob→Prop):Prop:=Run prog nd B [.c (.m 3),.c (.loop (.n 1)),.mk 0,.c (.n 0)] [(0,v0),(1,v1),(2,v2),(8,v8),(9,v9),(10,v10)] H Q
theorem G3 (h:Run prog nd B (.c (nd 3) :: s) t H Q):Run prog nd B (.c (.m 3) :: s) t H Q:=run_m.2 h
end slices_BinarySearchFunc_s_Bind_Bind_string
namespace term_Image_1
def nd (_:Nat):C:=.skip
def body:C:=.seq (.reg [.br 2 t_Bind (.s 0),.mv 4 (.i 0)]) (.seq (.reg [.fa 5 0 (.s 2),.ld 6 (.s 5),.mv 7 (.s 1),.callp (some 8) n_strings_Compare [.s 6,.s 7],.mv 4 (.s 8)]) (.ret))
def rs:List RV:=[.t 4]
attribute [push_cast] nd body
theorem ok:okF prog n_term_Image_1 nd body 2 rs = true:=by kernel_rfl
end term_Image_1
namespace strings_Compare
def nd (_:Nat):C:=.skip
def body:C:=.seq (.reg [.mv 4 (.i 0)]) (.seq (.reg [.mv 5 (.s 0),.mv 6 (.s 1),.callp (some 7) n_bytealg_CompareString [.s 5,.s 6],.mv 4 (.s 7)]) (.ret))
def rs:List RV:=[.t 4]
attribute [push_cast] nd body
theorem ok:okF prog n_strings_Compare nd body 2 rs = true:=by kernel_rfl
end strings_Compare
namespace unify_bind_1
def nd (_:Nat):C:=.skip
def body:C:=.seq (.reg [.br 2 t_Bind (.s 0),.mv 4 (.i 0)]) (.seq (.reg [.fa 5 0 (.s 2),.ld 6 (.s 5),.mv 7 (.s 1),.callp (some 8) n_strings_Compare [.s 6,.s 7],.mv 4 (.s 8)]) (.ret))
def rs:List RV:=[.t 4]
attribute [push_cast] nd body
theorem ok:okF prog n_unify_bind_1 nd body 2 rs = true:=by kernel_rfl
end unify_bind_1
namespace strconv_Itoa_
def nd (_:Nat):C:=.skip
def body:C:=.seq (.reg [.mv 2 (.c (.str []))]) (.seq (.reg [.mv 3 (.s 0),.callp (some 4) n_strconv_FormatInt [.s 3,(.i 10)],.mv 2 (.s 4)]) (.ret))
def rs:List RV:=[.t 2]
attribute [push_cast] nd body
theorem ok:okF prog n_strconv_Itoa_ nd body 1 rs = true:=by kernel_rfl
end strconv_Itoa_
namespace unify_unifier_solve
def nd:Nat→C
 | 0=>.seq (.reg [.mv 6 (.c (.bool true))]) (.ret)
 | 1=>.gh [.ks 2 [0,4,5,84,85]] (.m 3)
 | 2=>.seq (.blk 2 (.seq (.reg [.mv 87 (.s 85),.mv 8 (.s 87)]) (.seq (.dr [0,1,2,3,4,5,6,7,8,9,10,11,12] [.mv 88 (.s 0),.fa 89 2 (.s 4),.ld 90 (.s 89),.mv 91 (.s 8),.ia 92 3 (.s 90) (.s 91),.la 93 3 (.s 92),.fa 94 2 (.s 5),.ld 95 (.s 94),.mv 96 (.s 8),.ia 97 3 (.s 95) (.s 96),.la 98 3 (.s 97),.call (some 99) n_unify_unifier_solve [.s 88,.s 93,.s 98],.un 100 .not (.s 99)]) (.cond (.s 100) (.seq (.reg [.mv 6 (.c (.bool false))]) (.ret)) (.skip))))) (.reg [.bin 101 .add (.s 85) (.i 1),.mv 85 (.s 101)])
 | 3=>.seq (.reg [.bin 86 .lss (.s 85) (.s 84)]) (.seq (.cond (.s 86) (.skip) (.exit 1)) (.n 2))
 | 4=>.seq (.seq (.reg [.fa 82 2 (.s 4),.ld 83 (.s 82),.len 84 (.s 83),.mv 85 (.i 0)]) (.blk 1 (.loop (.n 1)))) (.n 0)
 | 5=>.seq (.dr [0,1,3] [.mv 31 (.s 0),.la 32 3 (.s 4),.mv 34 (.s 0),.alt [([2,4,5,6,7],[.call (some 33) n_unify_unifier_head [.s 31,.s 32],.la 35 3 (.s 5),.call (some 36) n_unify_unifier_head [.s 34,.s 35],.st 3 (.s 4) (.s 33),.st 3 (.s 5) (.s 36)]),([4,2,5,6,7],[.la 35 3 (.s 5),.call (some 33) n_unify_unifier_head [.s 31,.s 32],.call (some 36) n_unify_unifier_head [.s 34,.s 35],.st 3 (.s 4) (.s 33),.st 3 (.s 5) (.s 36)])]]) (.seq (.blk 0 (.seq (.reg [.fa 38 1 (.s 4),.ld 39 (.s 38),.mv 40 (.s 39),.gd (.s 40) true [41,42] [.fa 41 1 (.s 5),.ld 42 (.s 41)],.pick 43 (.s 40) (.s 42) (.c (.bool false)),.mv 44 (.s 43),.gd (.s 44) true [45,46,47,48,49] [.fa 45 0 (.s 4),.ld 46 (.s 45),.fa 47 0 (.s 5),.ld 48 (.s 47),.bin 49 .eql (.s 46) (.s 48)],.pick 50 (.s 44) (.s 49) (.c (.bool false)),.mv 37 (.s 50)]) (.cond (.s 37) (.seq (.reg [.mv 6 (.c (.bool true))]) (.ret)) (.seq (.reg [.fa 52 1 (.s 4),.ld 53 (.s 52),.mv 51 (.s 53)]) (.cond (.s 51) (.seq (.reg [.mv 54 (.s 0),.fa 55 0 (.s 4),.ld 56 (.s 55),.la 57 3 (.s 5),.call (some 58) n_unify_unifier_set [.s 54,.s 56,.s 57],.mv 6 (.s 58)]) (.ret)) (.seq (.reg [.fa 60 1 (.s 5),.ld 61 (.s 60),.mv 59 (.s 61)]) (.cond (.s 59) (.seq (.reg [.mv 62 (.s 0),.fa 63 0 (.s 5),.ld 64 (.s 63),.la 65 3 (.s 4),.call (some 66) n_unify_unifier_set [.s 62,.s 64,.s 65],.mv 6 (.s 66)]) (.ret)) (.seq (.reg [.fa 68 0 (.s 4),.ld 69 (.s 68),.fa 70 0 (.s 5),.ld 71 (.s 70),.bin 72 .neq (.s 69) (.s 71),.mv 73 (.s 72),.gd (.s 73) false [74,75,76,77,78,79,80] [.fa 74 2 (.s 4),.ld 75 (.s 74),.len 76 (.s 75),.fa 77 2 (.s 5),.ld 78 (.s 77),.len 79 (.s 78),.bin 80 .neq (.s 76) (.s 79)],.pick 81 (.s 73) (.c (.bool true)) (.s 80),.mv 67 (.s 81)]) (.cond (.s 67) (.seq (.reg [.mv 6 (.c (.bool false))]) (.ret)) (.skip)))))))))) (.n 4))
 | _=>.skip
def body:C:=.seq (.reg [.bx 4 t_Term (.s 1),.bx 5 t_Term (.s 2),.mv 6 (.c (.bool false))]) (.seq (.seq (.reg [.fa 9 1 (.s 4),.ld 10 (.s 9),.mv 11 (.s 10),.gd (.s 11) true [12,13] [.fa 12 1 (.s 5),.ld 13 (.s 12)],.pick 14 (.s 11) (.s 13) (.c (.bool false))]) (.cond (.s 14) (.seq (.reg [.fa 15 0 (.s 4),.ld 16 (.s 15),.fa 17 0 (.s 5),.ld 18 (.s 17),.bd 19 [.str [],.str []] [(0,1,(.s 16)),(1,1,(.s 18))],.al 7 t_a2_string [.str [],.str []],.sf 7 2 (.s 19)]) (.seq (.seq (.dr [0,1,2,3,4,5] [.mv 20 (.s 0),.nc 21 (.s 20),.fa 22 1 (.s 21),.ld 23 (.s 22),.la 24 2 (.s 7),.lkq 25 [true,true] false (.bool false) (.s 23) (.s 24)]) (.cond (.s 25) (.seq (.reg [.mv 6 (.c (.bool true))]) (.ret)) (.skip))) (.dr [0,1,2,3,4,5] [.mv 26 (.s 0),.nc 27 (.s 26),.fa 28 1 (.s 27),.ld 29 (.s 28),.la 30 2 (.s 7),.muq [true,true] (.s 29) (.s 30) (.c (.bool true))]))) (.skip))) (.n 5))
def rs:List RV:=[.t 6]
attribute [push_cast] nd body
theorem ok:okF prog n_unify_unifier_solve nd body 3 rs = true:=by kernel_rfl
abbrev L3 (v0 v4 v5 v84 v85:V) (B:Nat) (H:List Ob) (Q:X→T→List Ob→Prop):Prop:=Run prog nd B [.c (.m 3),.c (.loop (.n 1)),.mk 1,.c (.n 0)] [(0,v0),(4,v4),(5,v5),(84,v84),(85,v85)] H Q
theorem G3 (h:Run prog nd B (.c (nd 3) :: s) t H Q):Run prog nd B (.c (.m 3) :: s) t H Q:=run_m.2 h
end unify_unifier_solve
namespace unify_unifier_measure
def nd:Nat→C
 | 0=>.seq (.reg [.fa 75 1 (.s 12),.ld 76 (.s 75),.bin 77 .add (.s 76) (.i 1),.fa 78 1 (.s 12),.st 1 (.s 78) (.s 77)]) (.seq (.reg [.la 79 2 (.s 12),.st 2 (.s 6) (.s 79)]) (.ret))
 | 1=>.gh [.ks 2 [0,2,6,12,51,52,53]] (.m 3)
 | 2=>.seq (.blk 1 (.seq (.reg [.ia 55 3 (.s 51) (.s 53),.la 56 3 (.s 55),.al 14 t_Term [.str [],.bool false,.sl 3 []],.sf 14 3 (.s 56)]) (.seq (.reg [.mv 57 (.s 0),.la 58 3 (.s 14),.mv 59 (.s 2),.call (some 60) n_unify_unifier_measure [.s 57,.s 58,.s 59],.al 15 t_unify_meter [.int .i64 0,.int .i64 0],.sf 15 2 (.s 60)]) (.dr [0,1,2,3,4,5,6,7,8,11] [.fa 61 0 (.s 12),.ld 62 (.s 61),.fa 63 0 (.s 15),.ld 64 (.s 63),.bin 65 .add (.s 62) (.s 64),.mn 66 (.s 65) (.i 4001),.fa 67 1 (.s 12),.ld 68 (.s 67),.fa 69 1 (.s 15),.fa 72 0 (.s 12),.alt [([9,10,12,13,14],[.ld 70 (.s 69),.mx 71 (.s 68) (.s 70),.st 1 (.s 72) (.s 66),.fa 73 1 (.s 12),.st 1 (.s 73) (.s 71)]),([12,9,10,13,14],[.st 1 (.s 72) (.s 66),.ld 70 (.s 69),.mx 71 (.s 68) (.s 70),.fa 73 1 (.s 12),.st 1 (.s 73) (.s 71)])]])))) (.reg [.bin 74 .add (.s 53) (.i 1),.mv 53 (.s 74)])
 | 3=>.seq (.reg [.bin 54 .lss (.s 53) (.s 52)]) (.seq (.cond (.s 54) (.skip) (.exit 0)) (.n 2))
 | 4=>.seq (.reg [.bd 49 [.int .i64 0,.int .i64 0] [(0,1,(.i 1)),(1,1,(.i 0))],.al 12 t_unify_meter [.int .i64 0,.int .i64 0],.st 2 (.s 12) (.s 49)]) (.seq (.seq (.reg [.fa 50 2 (.s 4),.ld 51 (.s 50),.len 52 (.s 51),.mv 53 (.i 0)]) (.blk 0 (.loop (.n 1)))) (.n 0))
 | 5=>.seq (.reg [.mv 40 (.s 0),.la 41 3 (.s 7),.mv 42 (.s 2),.call (some 43) n_unify_unifier_measure [.s 40,.s 41,.s 42],.al 11 t_unify_meter [.int .i64 0,.int .i64 0],.sf 11 2 (.s 43)]) (.seq (.reg [.mv 44 (.s 2),.fa 45 0 (.s 4),.ld 46 (.s 45),.la 47 2 (.s 11),.mup true (.s 44) (.s 46) (.s 47)]) (.seq (.reg [.la 48 2 (.s 11),.st 2 (.s 6) (.s 48)]) (.ret)))
 | 6=>.seq (.seq (.reg [.mv 32 (.s 2),.fa 33 0 (.s 4),.ld 34 (.s 33),.lkp 35 true true (.agg [.int .i64 0,.int .i64 0]) (.s 32) (.s 34),.mv 31 (.s 35),.ex 36 (.s 31) 0,.ex 37 (.s 31) 1,.al 9 t_unify_meter [.int .i64 0,.int .i64 0],.sf 9 2 (.s 36),.mv 10 (.s 37)]) (.seq (.reg [.mv 38 (.s 10)]) (.cond (.s 38) (.seq (.reg [.la 39 2 (.s 9),.st 2 (.s 6) (.s 39)]) (.ret)) (.skip)))) (.n 5)
 | _=>.skip
def body:C:=.seq (.reg [.br 4 t_Term (.s 1),.al 6 t_unify_meter [.int .i64 0,.int .i64 0]]) (.seq (.seq (.reg [.fa 16 1 (.s 4),.ld 17 (.s 16)]) (.cond (.s 17) (.seq (.dr [0,1,2,3,4,5,6,7,8,9,10,11,12] [.mv 19 (.s 0),.nc 20 (.s 19),.fa 21 0 (.s 20),.ld 22 (.s 21),.fa 23 0 (.s 4),.ld 24 (.s 23),.lkp 25 true true (.agg [.str [],.bool false,.sl 3 []]) (.s 22) (.s 24),.mv 18 (.s 25),.ex 26 (.s 18) 0,.ex 27 (.s 18) 1,.al 7 t_Term [.str [],.bool false,.sl 3 []],.sf 7 3 (.s 26),.mv 8 (.s 27)]) (.seq (.seq (.reg [.mv 28 (.s 8),.un 29 .not (.s 28)]) (.cond (.s 29) (.seq (.reg [.bd 30 [.int .i64 0,.int .i64 0] [(0,1,(.i 1)),(1,1,(.i 1))],.st 2 (.s 6) (.s 30)]) (.ret)) (.skip))) (.n 6))) (.skip))) (.n 4))
def rs:List RV:=[.a 6 2]
attribute [push_cast] nd body
theorem ok:okF prog n_unify_unifier_measure nd body 3 rs = true:=by kernel_rfl
abbrev L3 (v0 v2 v6 v12 v51 v52 v53:V) (B:Nat) (H:List Ob) (Q:X→T→List Ob→Prop):Prop:=Run prog nd B [.c (.m 3),.c (.loop (.n 1)),.mk 0,.c (.n 0)] [(0,v0),(2,v2),(6,v6),(12,v12),(51,v51),(52,v52),(53,v53)] H Q
theorem G3 (h:Run prog nd B (.c (nd 3) :: s) t H Q):Run prog nd B (.c (.m 3) :: s) t H Q:=run_m.2 h
end unify_unifier_measure
namespace unify_unifier_whole
def nd:Nat→C
 | 0=>.seq (.reg [.la 48 3 (.s 7),.st 3 (.s 4) (.s 48)]) (.ret)
 | 1=>.gh [.ks 3 [0,4,7,33,34,35]] (.m 3)
 | 2=>.seq (.blk 1 (.seq (.reg [.ia 37 3 (.s 33) (.s 35),.la 38 3 (.s 37),.al 9 t_Term [.str [],.bool false,.sl 3 []],.sf 9 3 (.s 38)]) (.dr [2,3] [.mv 41 (.s 0),.la 42 3 (.s 9),.alt [([0],[.fa 39 2 (.s 7),.alt [([1,4,5,6,7,8],[.ld 40 (.s 39),.call (some 43) n_unify_unifier_whole [.s 41,.s 42],.bs 44 3 [.s 43],.app 45 t_Term 3 48 (.s 40) (.s 44),.fa 46 2 (.s 7),.st 1 (.s 46) (.s 45)]),([4,1,5,6,7,8],[.call (some 43) n_unify_unifier_whole [.s 41,.s 42],.ld 40 (.s 39),.bs 44 3 [.s 43],.app 45 t_Term 3 48 (.s 40) (.s 44),.fa 46 2 (.s 7),.st 1 (.s 46) (.s 45)])]]),([4,0,1,5,6,7,8],[.call (some 43) n_unify_unifier_whole [.s 41,.s 42],.fa 39 2 (.s 7),.ld 40 (.s 39),.bs 44 3 [.s 43],.app 45 t_Term 3 48 (.s 40) (.s 44),.fa 46 2 (.s 7),.st 1 (.s 46) (.s 45)])]]))) (.reg [.bin 47 .add (.s 35) (.i 1),.mv 35 (.s 47)])
 | 3=>.seq (.reg [.bin 36 .lss (.s 35) (.s 34)]) (.seq (.cond (.s 36) (.skip) (.exit 0)) (.n 2))
 | 4=>.seq (.reg [.fa 29 0 (.s 3),.ld 30 (.s 29),.bd 31 [.str [],.bool false,.nil] [(0,1,(.s 30))],.al 7 t_Term [.str [],.bool false,.nil],.st 3 (.s 7) (.s 31),.ono t_Term 3 2 (.s 7)]) (.seq (.seq (.reg [.fa 32 2 (.s 3),.ld 33 (.s 32),.len 34 (.s 33),.mv 35 (.i 0)]) (.blk 0 (.loop (.n 1)))) (.n 0))
 | 5=>.seq (.reg [.fa 26 0 (.s 3),.ld 27 (.s 26),.bd 28 [.str [],.bool false,.sl 3 []] [(0,1,(.s 27)),(1,1,(.c (.bool true)))],.st 3 (.s 4) (.s 28)]) (.ret)
 | _=>.skip
def body:C:=.seq (.reg [.br 3 t_Term (.s 1),.al 4 t_Term [.str [],.bool false,.sl 3 []]]) (.seq (.seq (.reg [.fa 10 1 (.s 3),.ld 11 (.s 10)]) (.cond (.s 11) (.seq (.seq (.dr [0,1,2,3,4,5,6,7,8,9,10,11,12] [.mv 13 (.s 0),.nc 14 (.s 13),.fa 15 0 (.s 14),.ld 16 (.s 15),.fa 17 0 (.s 3),.ld 18 (.s 17),.lkp 19 true true (.agg [.str [],.bool false,.sl 3 []]) (.s 16) (.s 18),.mv 12 (.s 19),.ex 20 (.s 12) 0,.ex 21 (.s 12) 1,.al 5 t_Term [.str [],.bool false,.sl 3 []],.sf 5 3 (.s 20),.mv 6 (.s 21)]) (.seq (.reg [.mv 22 (.s 6)]) (.cond (.s 22) (.seq (.reg [.mv 23 (.s 0),.la 24 3 (.s 5),.call (some 25) n_unify_unifier_whole [.s 23,.s 24],.st 3 (.s 4) (.s 25)]) (.ret)) (.skip)))) (.n 5)) (.skip))) (.n 4))
def rs:List RV:=[.a 4 3]
attribute [push_cast] nd body
theorem ok:okF prog n_unify_unifier_whole nd body 2 rs = true:=by kernel_rfl
abbrev L3 (v0 v4 v7 v33 v34 v35:V) (B:Nat) (H:List Ob) (Q:X→T→List Ob→Prop):Prop:=Run prog nd B [.c (.m 3),.c (.loop (.n 1)),.mk 0,.c (.n 0)] [(0,v0),(4,v4),(7,v7),(33,v33),(34,v34),(35,v35)] H Q
theorem G3 (h:Run prog nd B (.c (nd 3) :: s) t H Q):Run prog nd B (.c (.m 3) :: s) t H Q:=run_m.2 h
end unify_unifier_whole
namespace bytealg_CompareString
def nd (_:Nat):C:=.skip
def body:C:=.seq (.reg [.mv 4 (.i 0)]) (.seq (.reg [.mv 5 (.s 0),.mv 6 (.s 1),.callp (some 7) n_bytealg_abigen_runtime_cmpstring [.s 5,.s 6],.mv 4 (.s 7)]) (.ret))
def rs:List RV:=[.t 4]
attribute [push_cast] nd body
theorem ok:okF prog n_bytealg_CompareString nd body 2 rs = true:=by kernel_rfl
end bytealg_CompareString
namespace unify_unifier_head
def nd:Nat→C
 | 0=>.seq (.reg [.la 22 3 (.s 3),.st 3 (.s 4) (.s 22)]) (.ret)
 | 1=>.gh [.ks 2 [0,3,4]] (.m 3)
 | 2=>.blk 1 (.seq (.dr [0,1,2,3,4,5,6,7,8,9,10,11,12] [.mv 10 (.s 0),.nc 11 (.s 10),.fa 12 0 (.s 11),.ld 13 (.s 12),.fa 14 0 (.s 3),.ld 15 (.s 14),.lkp 16 true true (.agg [.str [],.bool false,.sl 3 []]) (.s 13) (.s 15),.mv 9 (.s 16),.ex 17 (.s 9) 0,.ex 18 (.s 9) 1,.al 5 t_Term [.str [],.bool false,.sl 3 []],.sf 5 3 (.s 17),.mv 6 (.s 18)]) (.seq (.seq (.reg [.mv 19 (.s 6),.un 20 .not (.s 19)]) (.cond (.s 20) (.exit 0) (.skip))) (.reg [.la 21 3 (.s 5),.st 3 (.s 3) (.s 21)])))
 | 3=>.seq (.seq (.reg [.fa 7 1 (.s 3),.ld 8 (.s 7)]) (.cond (.s 8) (.skip) (.exit 0))) (.n 2)
 | _=>.skip
def body:C:=.seq (.reg [.bx 3 t_Term (.s 1),.al 4 t_Term [.str [],.bool false,.sl 3 []]]) (.seq (.blk 0 (.loop (.n 1))) (.n 0))
def rs:List RV:=[.a 4 3]
attribute [push_cast] nd body
theorem ok:okF prog n_unify_unifier_head nd body 2 rs = true:=by kernel_rfl
abbrev L3 (v0 v3 v4:V) (B:Nat) (H:List Ob) (Q:X→T→List Ob→Prop):Prop:=Run prog nd B [.c (.m 3),.c (.loop (.n 1)),.mk 0,.c (.n 0)] [(0,v0),(3,v3),(4,v4)] H Q
theorem G3 (h:Run prog nd B (.c (nd 3) :: s) t H Q):Run prog nd B (.c (.m 3) :: s) t H Q:=run_m.2 h
end unify_unifier_head
namespace unify_unifier_set
def nd:Nat→C
 | 0=>.seq (.dr [0,1,2,3,4,5,6] [.mv 12 (.s 0),.nc 13 (.s 12),.fa 14 0 (.s 13),.ld 15 (.s 14),.mv 16 (.s 1),.la 17 3 (.s 5),.mup true (.s 15) (.s 16) (.s 17)]) (.seq (.reg [.mv 6 (.c (.bool true))]) (.ret))
 | _=>.skip
def body:C:=.seq (.reg [.br 5 t_Term (.s 2),.mv 6 (.c (.bool false))]) (.seq (.seq (.reg [.mv 7 (.s 0),.mv 8 (.s 1),.la 9 3 (.s 5),.mkm 10,.call (some 11) n_unify_unifier_occurs [.s 7,.s 8,.s 9,.s 10]]) (.cond (.s 11) (.seq (.reg [.mv 6 (.c (.bool false))]) (.ret)) (.skip))) (.n 0))
def rs:List RV:=[.t 6]
attribute [push_cast] nd body
theorem ok:okF prog n_unify_unifier_set nd body 3 rs = true:=by kernel_rfl
end unify_unifier_set
end Go.Dw
end
section
namespace Go.Dw
variable {s:List K} {B:Nat} {t:T} {H:List Ob} {Q:X→T→List Ob→Prop}
namespace unify_unifier_occurs
def nd:Nat→C
 | 0=>.seq (.reg [.fa 43 2 (.s 6),.ld 44 (.s 43),.mf 45 n_unify_unifier_occurs_1 [] [.s 4,.s 5,.s 7],.call (some 46) n_slices_ContainsFunc_s_Term_Term [.s 44,.s 45],.mv 8 (.s 46)]) (.ret)
 | 1=>.seq (.reg [.ld 35 (.s 7),.fa 36 0 (.s 6),.ld 37 (.s 36),.mup true (.s 35) (.s 37) (.c (.bool true))]) (.seq (.reg [.ld 38 (.s 4),.ld 39 (.s 5),.la 40 3 (.s 9),.ld 41 (.s 7),.call (some 42) n_unify_unifier_occurs [.s 38,.s 39,.s 40,.s 41],.mv 8 (.s 42)]) (.ret))
 | 2=>.seq (.dr [0,1,2,3,4,5,6,7,8,9,10,11,12] [.ld 18 (.s 4),.nc 19 (.s 18),.fa 20 0 (.s 19),.ld 21 (.s 20),.fa 22 0 (.s 6),.ld 23 (.s 22),.lkp 24 true true (.agg [.str [],.bool false,.sl 3 []]) (.s 21) (.s 23),.mv 17 (.s 24),.ex 25 (.s 17) 0,.ex 26 (.s 17) 1,.al 9 t_Term [.str [],.bool false,.sl 3 []],.sf 9 3 (.s 25),.mv 10 (.s 26)]) (.seq (.seq (.reg [.mv 27 (.s 10),.un 28 .not (.s 27),.mv 29 (.s 28),.gd (.s 29) false [30,31,32,33] [.ld 30 (.s 7),.fa 31 0 (.s 6),.ld 32 (.s 31),.lkp 33 true false (.bool false) (.s 30) (.s 32)],.pick 34 (.s 29) (.c (.bool true)) (.s 33)]) (.cond (.s 34) (.seq (.reg [.mv 8 (.c (.bool false))]) (.ret)) (.skip))) (.n 1))
 | _=>.skip
def body:C:=.seq (.reg [.bx 4 t_p_unify_unifier (.s 0),.br 5 t_string (.s 1),.br 6 t_Term (.s 2),.bx 7 t_m_string_bool (.s 3),.mv 8 (.c (.bool false))]) (.seq (.seq (.reg [.fa 11 1 (.s 6),.ld 12 (.s 11)]) (.cond (.s 12) (.seq (.seq (.reg [.fa 13 0 (.s 6),.ld 14 (.s 13),.ld 15 (.s 5),.bin 16 .eql (.s 14) (.s 15)]) (.cond (.s 16) (.seq (.reg [.mv 8 (.c (.bool true))]) (.ret)) (.skip))) (.n 2)) (.skip))) (.n 0))
def rs:List RV:=[.t 8]
attribute [push_cast] nd body
theorem ok:okF prog n_unify_unifier_occurs nd body 4 rs = true:=by kernel_rfl
end unify_unifier_occurs
namespace unify_unifier_occurs_1
def nd (_:Nat):C:=.skip
def body:C:=.seq (.reg [.br 4 t_Term (.s 0),.mv 5 (.c (.bool false))]) (.seq (.reg [.ld 6 (.s 1),.ld 7 (.s 2),.la 8 3 (.s 4),.ld 9 (.s 3),.call (some 10) n_unify_unifier_occurs [.s 6,.s 7,.s 8,.s 9],.mv 5 (.s 10)]) (.ret))
def rs:List RV:=[.t 5]
attribute [push_cast] nd body
theorem ok:okF prog n_unify_unifier_occurs_1 nd body 4 rs = true:=by kernel_rfl
end unify_unifier_occurs_1
end Go.Dw
end
section
namespace Go.Dw
theorem term_Size_s (t:Term) (hs:size t < 2^62):PF n_term_Size [encT t] (.int .i64 (size t)):=by
 induction t using term_ind with
 | h t ih =>
 refine pf_of term_Size.ok rfl ?_
 have hst:=size_args t
 have hl:=length_le_sizes t.args
 push_cast
 refine loop_up (n:=t.args.length) (R:=fun k=>term_Size.L3 (.int .i64 ((1+sizes (t.args.take k):Nat):Int)) (encTs t.args) (.int .i64 t.args.length) (.int .i64 k) 0 [] _) ?_ ?_ 0 (by omega)
 ·intro k hk ih2
  have h1:=sizes_take_succ _ _ hk
  have h2:=sizes_take_le t.args (k+1)
  have hm:=getD_mem hk
  refine term_Size.G3 ?_
  push_cast [ilt hk]
  refine .of (ih _ hm (by omega)) ?_
  push_cast [w64 (show k < 2^62 by omega)]
  rw [wrap64 (by omega) (by omega)]
  rw [h1] at ih2
  simpa [Int.add_assoc] using ih2
 ·refine term_Size.G3 ?_
  push_cast [inlt (Nat.le_refl _)]
  refine pf_ret ?_
  push_cast [term_Size.rs,List.take_length,hst]
theorem EqualFunc_s {f:Term→Term→Bool} {g:Nat} (l m:List Term) (hl:l.length < 2^62) (h:∀ a∈l,∀ b,PF g [encT a,encT b] (.bool (f a b))) :
  PF n_slices_EqualFunc_s_Term_s_Term_Term_Term [encTs l,encTs m,.fn (.func g) [] []] (.bool (eqf f l m)):=by
 refine pf_of slices_EqualFunc_s_Term_s_Term_Term_Term.ok rfl ?_
 push_cast
 refine ⟨fun hne=>pf_ret ?_,fun he=>?_⟩
 ·push_cast [slices_EqualFunc_s_Term_s_Term_Term_Term.rs]
  cases hq:eqf f l m with
  | false=>rfl
  | true=>have:=eqf_len hq;omega
 ·have he:l.length = m.length:=by omega
  refine loop_up (n:=l.length) (R:=fun k=>eqf f (l.drop k) (m.drop k) = eqf f l m→slices_EqualFunc_s_Term_s_Term_Term_Term.L3 (encTs m) (.fn (.func g) [] []) (encTs l) (.int .i64 l.length) (.int .i64 k) 0 [] _) ?_ ?_ 0 (by omega) (by simp)
  ·intro k hk ih hq
   have hkm:k < m.length:=by omega
   refine slices_EqualFunc_s_Term_s_Term_Term_Term.G3 ?_
   push_cast [ilt hk,ilt hkm]
   refine .of (h _ (getD_mem hk) _) ?_
   push_cast [w64 (show k < 2^62 by omega)]
   rw [drop_getD hk,drop_getD hkm] at hq
   simp only [eqf] at hq
   refine ⟨fun hf=>pf_ret ?_,fun hf=>?_⟩
   ·push_cast [slices_EqualFunc_s_Term_s_Term_Term_Term.rs]
    simp only [Bool.not_eq_true'] at hf
    rw [hf,Bool.false_and] at hq
    exact hq
   ·simp only [Bool.not_eq_false'] at hf
    simp only [hf,Bool.true_and] at hq
    exact ih hq
  ·intro hq
   refine slices_EqualFunc_s_Term_s_Term_Term_Term.G3 ?_
   push_cast [inlt (Nat.le_refl _)]
   refine pf_ret ?_
   push_cast [slices_EqualFunc_s_Term_s_Term_Term_Term.rs]
   rw [List.drop_eq_nil_of_le (by omega),List.drop_eq_nil_of_le (by omega)] at hq
   simpa [eqf] using hq
theorem term_Equal_s (a b:Term) (hs:size a < 2^62):PF n_term_Equal [encT a,encT b] (.bool (decide (a = b))):=by
 induction a using term_ind generalizing b with
 | h a ih =>
 have hst:=size_args a
 have hl:=length_le_sizes a.args
 refine pf_of term_Equal.ok rfl ?_
 have hE:=EqualFunc_s (f:=fun a b=>decide (a = b)) (g:=n_term_Equal) a.args b.args (by omega) fun x hx y=>ih x hx y (by have:=size_mem hx;omega)
 rw [eqf_eq fun _ _ _=>rfl] at hE
 have hi:=term_eq_iff a b
 by_cases h1:a.name = b.name <;> by_cases h2:a.var = b.var <;> push_cast [h1,h2,beq_self_eq_true,show ∀ x y:Bool,(x == y) = decide (x = y) from fun x y=>by cases x <;> cases y <;> rfl]
 ·refine .of hE ?_
  push_cast
  refine pf_ret ?_
  push_cast [term_Equal.rs]
  simp [hi,h1,h2]
 all_goals
  refine pf_ret ?_
  push_cast [term_Equal.rs]
  simp [hi,h1,h2]
end Go.Dw
end
section
namespace Go.Dw
theorem slices_IndexFunc_s_byte_byte_s {p:UInt8→Bool} {g:Nat} {caps:List V} (hc:∀ σ,rens σ caps = caps) (l:List UInt8) (hl:l.length < 2^62) (h:∀ a∈l,PF g (.int .u8 a.toNat :: caps) (.bool (p a))) :
  PF n_slices_IndexFunc_s_byte_byte [encL cU8 1 l,.fn (.func g) [] caps] (.int .i64 (idxI p l)):=by
 refine pf_of slices_IndexFunc_s_byte_byte.ok rfl ?_
 push_cast [hc]
 refine loop_up (n:=l.length) (R:=fun k=>(∀ j,j < k→p (l.getD j default) = false)→slices_IndexFunc_s_byte_byte.L3 (encL cU8 1 l) (.fn (.func g) [] caps) (.int .i64 l.length) (.int .i64 k) 0 [] _) ?_ ?_ 0 (by omega) (by intro j hj;omega)
 ·intro k hk ih hq
  refine slices_IndexFunc_s_byte_byte.G3 ?_
  push_cast [ilt hk,cU8_0,cS_0,hc]
  refine .of (h _ (getD_mem hk)) ?_
  push_cast [w64 (show k < 2^62 by omega),hc]
  refine ⟨fun hp=>pf_ret ?_,fun hp=>?_⟩
  ·push_cast [slices_IndexFunc_s_byte_byte.rs]
   rw [idxI_some hk hp hq]
  ·exact ih fun j hj=>by rcases Nat.lt_succ_iff_lt_or_eq.1 hj with h | rfl;exact hq j h;exact hp
 ·intro hq
  refine slices_IndexFunc_s_byte_byte.G3 ?_
  push_cast [inlt (Nat.le_refl _)]
  refine pf_ret ?_
  push_cast [slices_IndexFunc_s_byte_byte.rs]
  rw [idxI_none hq]
theorem slices_ContainsFunc_s_byte_byte_s {p:UInt8→Bool} {g:Nat} {caps:List V} (hc:∀ σ,rens σ caps = caps) (l:List UInt8) (hl:l.length < 2^62) (h:∀ a∈l,PF g (.int .u8 a.toNat :: caps) (.bool (p a))) :
  PF n_slices_ContainsFunc_s_byte_byte [encL cU8 1 l,.fn (.func g) [] caps] (.bool (l.any p)):=by
 refine pf_of slices_ContainsFunc_s_byte_byte.ok rfl ?_
 push_cast [hc]
 refine .of (slices_IndexFunc_s_byte_byte_s hc l hl h) ?_
 push_cast [hc]
 refine pf_ret ?_
 push_cast [slices_ContainsFunc_s_byte_byte.rs,idxI_any]
theorem slices_IndexFunc_s_Term_Term_s {p:Term→Bool} {g:Nat} {caps:List V} (hc:∀ σ,rens σ caps = caps) (l:List Term) (hl:l.length < 2^62) (h:∀ a∈l,PF g (encT a :: caps) (.bool (p a))) :
  PF n_slices_IndexFunc_s_Term_Term [encL cT 3 l,.fn (.func g) [] caps] (.int .i64 (idxI p l)):=by
 refine pf_of slices_IndexFunc_s_Term_Term.ok rfl ?_
 push_cast [hc]
 refine loop_up (n:=l.length) (R:=fun k=>(∀ j,j < k→p (l.getD j default) = false)→slices_IndexFunc_s_Term_Term.L3 (encL cT 3 l) (.fn (.func g) [] caps) (.int .i64 l.length) (.int .i64 k) 0 [] _) ?_ ?_ 0 (by omega) (by intro j hj;omega)
 ·intro k hk ih hq
  refine slices_IndexFunc_s_Term_Term.G3 ?_
  push_cast [ilt hk,cU8_0,cS_0,hc]
  refine .of (h _ (getD_mem hk)) ?_
  push_cast [w64 (show k < 2^62 by omega),hc]
  refine ⟨fun hp=>pf_ret ?_,fun hp=>?_⟩
  ·push_cast [slices_IndexFunc_s_Term_Term.rs]
   rw [idxI_some hk hp hq]
  ·exact ih fun j hj=>by rcases Nat.lt_succ_iff_lt_or_eq.1 hj with h | rfl;exact hq j h;exact hp
 ·intro hq
  refine slices_IndexFunc_s_Term_Term.G3 ?_
  push_cast [inlt (Nat.le_refl _)]
  refine pf_ret ?_
  push_cast [slices_IndexFunc_s_Term_Term.rs]
  rw [idxI_none hq]
theorem slices_ContainsFunc_s_Term_Term_s {p:Term→Bool} {g:Nat} {caps:List V} (hc:∀ σ,rens σ caps = caps) (l:List Term) (hl:l.length < 2^62) (h:∀ a∈l,PF g (encT a :: caps) (.bool (p a))) :
  PF n_slices_ContainsFunc_s_Term_Term [encL cT 3 l,.fn (.func g) [] caps] (.bool (l.any p)):=by
 refine pf_of slices_ContainsFunc_s_Term_Term.ok rfl ?_
 push_cast [hc]
 refine .of (slices_IndexFunc_s_Term_Term_s hc l hl h) ?_
 push_cast [hc]
 refine pf_ret ?_
 push_cast [slices_ContainsFunc_s_Term_Term.rs,idxI_any]
theorem slices_IndexFunc_s_Rule_Rule_s {p:ARule→Bool} {g:Nat} {caps:List V} (hc:∀ σ,rens σ caps = caps) (l:List ARule) (hl:l.length < 2^62) (h:∀ a∈l,PF g (encR a :: caps) (.bool (p a))) :
  PF n_slices_IndexFunc_s_Rule_Rule [encL cR 6 l,.fn (.func g) [] caps] (.int .i64 (idxI p l)):=by
 refine pf_of slices_IndexFunc_s_Rule_Rule.ok rfl ?_
 push_cast [hc]
 refine loop_up (n:=l.length) (R:=fun k=>(∀ j,j < k→p (l.getD j default) = false)→slices_IndexFunc_s_Rule_Rule.L3 (encL cR 6 l) (.fn (.func g) [] caps) (.int .i64 l.length) (.int .i64 k) 0 [] _) ?_ ?_ 0 (by omega) (by intro j hj;omega)
 ·intro k hk ih hq
  refine slices_IndexFunc_s_Rule_Rule.G3 ?_
  push_cast [ilt hk,cU8_0,cS_0,hc]
  refine .of (h _ (getD_mem hk)) ?_
  push_cast [w64 (show k < 2^62 by omega),hc]
  refine ⟨fun hp=>pf_ret ?_,fun hp=>?_⟩
  ·push_cast [slices_IndexFunc_s_Rule_Rule.rs]
   rw [idxI_some hk hp hq]
  ·exact ih fun j hj=>by rcases Nat.lt_succ_iff_lt_or_eq.1 hj with h | rfl;exact hq j h;exact hp
 ·intro hq
  refine slices_IndexFunc_s_Rule_Rule.G3 ?_
  push_cast [inlt (Nat.le_refl _)]
  refine pf_ret ?_
  push_cast [slices_IndexFunc_s_Rule_Rule.rs]
  rw [idxI_none hq]
theorem slices_ContainsFunc_s_Rule_Rule_s {p:ARule→Bool} {g:Nat} {caps:List V} (hc:∀ σ,rens σ caps = caps) (l:List ARule) (hl:l.length < 2^62) (h:∀ a∈l,PF g (encR a :: caps) (.bool (p a))) :
  PF n_slices_ContainsFunc_s_Rule_Rule [encL cR 6 l,.fn (.func g) [] caps] (.bool (l.any p)):=by
 refine pf_of slices_ContainsFunc_s_Rule_Rule.ok rfl ?_
 push_cast [hc]
 refine .of (slices_IndexFunc_s_Rule_Rule_s hc l hl h) ?_
 push_cast [hc]
 refine pf_ret ?_
 push_cast [slices_ContainsFunc_s_Rule_Rule.rs,idxI_any]
theorem slices_IndexFunc_s_string_string_s {p:Str→Bool} {g:Nat} {caps:List V} (hc:∀ σ,rens σ caps = caps) (l:List Str) (hl:l.length < 2^62) (h:∀ a∈l,PF g (.str a :: caps) (.bool (p a))) :
  PF n_slices_IndexFunc_s_string_string [encL cS 1 l,.fn (.func g) [] caps] (.int .i64 (idxI p l)):=by
 refine pf_of slices_IndexFunc_s_string_string.ok rfl ?_
 push_cast [hc]
 refine loop_up (n:=l.length) (R:=fun k=>(∀ j,j < k→p (l.getD j default) = false)→slices_IndexFunc_s_string_string.L3 (encL cS 1 l) (.fn (.func g) [] caps) (.int .i64 l.length) (.int .i64 k) 0 [] _) ?_ ?_ 0 (by omega) (by intro j hj;omega)
 ·intro k hk ih hq
  refine slices_IndexFunc_s_string_string.G3 ?_
  push_cast [ilt hk,cU8_0,cS_0,hc]
  refine .of (h _ (getD_mem hk)) ?_
  push_cast [w64 (show k < 2^62 by omega),hc]
  refine ⟨fun hp=>pf_ret ?_,fun hp=>?_⟩
  ·push_cast [slices_IndexFunc_s_string_string.rs]
   rw [idxI_some hk hp hq]
  ·exact ih fun j hj=>by rcases Nat.lt_succ_iff_lt_or_eq.1 hj with h | rfl;exact hq j h;exact hp
 ·intro hq
  refine slices_IndexFunc_s_string_string.G3 ?_
  push_cast [inlt (Nat.le_refl _)]
  refine pf_ret ?_
  push_cast [slices_IndexFunc_s_string_string.rs]
  rw [idxI_none hq]
theorem slices_ContainsFunc_s_string_string_s {p:Str→Bool} {g:Nat} {caps:List V} (hc:∀ σ,rens σ caps = caps) (l:List Str) (hl:l.length < 2^62) (h:∀ a∈l,PF g (.str a :: caps) (.bool (p a))) :
  PF n_slices_ContainsFunc_s_string_string [encL cS 1 l,.fn (.func g) [] caps] (.bool (l.any p)):=by
 refine pf_of slices_ContainsFunc_s_string_string.ok rfl ?_
 push_cast [hc]
 refine .of (slices_IndexFunc_s_string_string_s hc l hl h) ?_
 push_cast [hc]
 refine pf_ret ?_
 push_cast [slices_ContainsFunc_s_string_string.rs,idxI_any]
end Go.Dw
end
section
namespace Go.Dw
def letter (c:UInt8):Bool:=decide (97≤c.toNat∧c.toNat≤122) || decide (65≤c.toNat∧c.toNat≤90) || decide (48≤c.toNat∧c.toNat≤57) || decide (c.toNat = 95) || decide (c.toNat = 39)
theorem letter_cases {p:Prop} (c:UInt8)
  (h:∀ b1 b2 b3 b4 b5 b6 b7 b8:Bool,((97:Int)≤(c.toNat:Int)) = (b1 = true)→((c.toNat:Int)≤122) = (b2 = true)→((65:Int)≤(c.toNat:Int)) = (b3 = true)→((c.toNat:Int)≤90) = (b4 = true)→((48:Int)≤(c.toNat:Int)) = (b5 = true)→((c.toNat:Int)≤57) = (b6 = true) →
   ((c.toNat:Int) = 95) = (b7 = true)→((c.toNat:Int) = 39) = (b8 = true)→letter c = ((b1 && b2) || (b3 && b4) || (b5 && b6) || b7 || b8) →
   (b1,b2,b3,b4,b5,b6,b7,b8)∈[(false,true,false,true,false,true,false,false),(false,true,false,true,false,true,false,true),(false,true,false,true,true,true,false,false),(false,true,false,true,true,false,false,false),(false,true,true,true,true,false,false,false),(false,true,true,false,true,false,false,false),(false,true,true,false,true,false,true,false),(true,true,true,false,true,false,false,false),(true,false,true,false,true,false,false,false)]→p):p:=by
 have hr:(c.toNat < 39 ∨ 40≤c.toNat∧c.toNat < 48) ∨ (c.toNat = 39) ∨ (48≤c.toNat∧c.toNat≤57) ∨ (58≤c.toNat∧c.toNat < 65) ∨ (65≤c.toNat∧c.toNat≤90) ∨ (91≤c.toNat∧c.toNat < 97∧c.toNat ≠ 95) ∨ (c.toNat = 95) ∨ (97≤c.toNat∧c.toNat≤122) ∨ (122 < c.toNat):=by omega
 rcases hr with hr | hr | hr | hr | hr | hr | hr | hr | hr
 ·refine h false true false true false true false false ?_ ?_ ?_ ?_ ?_ ?_ ?_ ?_ ?_ (by simp)
  case refine_9=>simp [letter];omega
  all_goals (simp;omega)
 ·refine h false true false true false true false true ?_ ?_ ?_ ?_ ?_ ?_ ?_ ?_ ?_ (by simp)
  case refine_9=>simp [letter];omega
  all_goals (simp;omega)
 ·refine h false true false true true true false false ?_ ?_ ?_ ?_ ?_ ?_ ?_ ?_ ?_ (by simp)
  case refine_9=>simp [letter];omega
  all_goals (simp;omega)
 ·refine h false true false true true false false false ?_ ?_ ?_ ?_ ?_ ?_ ?_ ?_ ?_ (by simp)
  case refine_9=>simp [letter];omega
  all_goals (simp;omega)
 ·refine h false true true true true false false false ?_ ?_ ?_ ?_ ?_ ?_ ?_ ?_ ?_ (by simp)
  case refine_9=>simp [letter];omega
  all_goals (simp;omega)
 ·refine h false true true false true false false false ?_ ?_ ?_ ?_ ?_ ?_ ?_ ?_ ?_ (by simp)
  case refine_9=>simp [letter];omega
  all_goals (simp;omega)
 ·refine h false true true false true false true false ?_ ?_ ?_ ?_ ?_ ?_ ?_ ?_ ?_ (by simp)
  case refine_9=>simp [letter];omega
  all_goals (simp;omega)
 ·refine h true true true false true false false false ?_ ?_ ?_ ?_ ?_ ?_ ?_ ?_ ?_ (by simp)
  case refine_9=>simp [letter];omega
  all_goals (simp;omega)
 ·refine h true false true false true false false false ?_ ?_ ?_ ?_ ?_ ?_ ?_ ?_ ?_ (by simp)
  case refine_9=>simp [letter];omega
  all_goals (simp;omega)
theorem term_inName_s (c:UInt8):PF n_term_inName [.int .u8 c.toNat] (.bool (letter c)):=by
 refine pf_of term_inName.ok rfl ?_
 refine letter_cases c fun b1 b2 b3 b4 b5 b6 b7 b8 e1 e2 e3 e4 e5 e6 e7 e8 hl hm=>?_
 rw [hl];clear hl
 simp only [List.mem_cons,Prod.mk.injEq,List.not_mem_nil,or_false] at hm
 rcases hm with h | h | h | h | h | h | h | h | h <;> obtain ⟨rfl,rfl,rfl,rfl,rfl,rfl,rfl,rfl⟩:=h <;> push_cast [e1,e2,e3,e4,e5,e6,e7,e8] <;> refine pf_ret ?_ <;> push_cast [term_inName.rs] <;> rfl
end Go.Dw
end
section
namespace Go.Dw
def hasSuf (s p:Str):Bool:=decide (p.length≤s.length) && decide (s.drop (s.length - p.length) = p)
theorem isub {a b:Nat} (h:b≤a) (h2:a < 2^62):IntKind.i64.wrap ((a:Int) - (b:Int)) = ((a - b:Nat):Int):=by rw [wrap64 (by omega) (by omega)];omega
theorem stringslite_HasSuffix_s (s p:Str) (h1:s.length < 2^62) (h2:p.length < 2^62):PF n_stringslite_HasSuffix [.str s,.str p] (.bool (hasSuf s p)):=by
 refine pf_of stringslite_HasSuffix.ok rfl ?_
 by_cases h:p.length≤s.length
 ·have hi:((p.length:Int)≤(s.length:Int)) = True:=eq_true (by omega)
  push_cast [hi,isub h h1]
  refine ⟨by omega,pf_ret ?_⟩
  push_cast [stringslite_HasSuffix.rs,hasSuf,h]
  rw [List.take_of_length_le (by simp)]
 ·have hi:((p.length:Int)≤(s.length:Int)) = False:=eq_false (by omega)
  push_cast [hi]
  refine pf_ret ?_
  push_cast [stringslite_HasSuffix.rs,hasSuf,h]
def trimSuf (s p:Str):Str:=if hasSuf s p then s.take (s.length - p.length) else s
theorem stringslite_TrimSuffix_s (s p:Str) (h1:s.length < 2^62) (h2:p.length < 2^62):PF n_stringslite_TrimSuffix [.str s,.str p] (.str (trimSuf s p)):=by
 refine pf_of stringslite_TrimSuffix.ok rfl ?_
 push_cast
 refine .of (stringslite_HasSuffix_s s p h1 h2) ?_
 push_cast
 refine ⟨fun h=>?_,fun h=>pf_ret ?_⟩
 ·have hl:p.length≤s.length:=by simp only [hasSuf,Bool.and_eq_true,decide_eq_true_eq] at h;exact h.1
  push_cast [isub hl h1]
  refine ⟨by omega,pf_ret ?_⟩
  push_cast [stringslite_TrimSuffix.rs,trimSuf,h]
  simp
 ·push_cast [stringslite_TrimSuffix.rs,trimSuf,h]
theorem strings_TrimSuffix_s (s p:Str) (h1:s.length < 2^62) (h2:p.length < 2^62):PF n_strings_TrimSuffix [.str s,.str p] (.str (trimSuf s p)):=by
 refine pf_of strings_TrimSuffix.ok rfl ?_
 push_cast
 refine .of (stringslite_TrimSuffix_s s p h1 h2) ?_
 push_cast
 exact pf_ret (by push_cast [strings_TrimSuffix.rs])
theorem strings_HasSuffix_s (s p:Str) (h1:s.length < 2^62) (h2:p.length < 2^62):PF n_strings_HasSuffix [.str s,.str p] (.bool (hasSuf s p)):=by
 refine pf_of strings_HasSuffix.ok rfl ?_
 push_cast
 refine .of (stringslite_HasSuffix_s s p h1 h2) ?_
 push_cast
 exact pf_ret (by push_cast [strings_HasSuffix.rs])
theorem term_Marked_s (s:Str) (h1:s.length < 2^62):PF n_term_Marked [.str s] (.bool (hasSuf s [35])):=by
 refine pf_of term_Marked.ok rfl ?_
 push_cast
 refine .of (strings_HasSuffix_s s [35] h1 (by decide)) ?_
 push_cast
 exact pf_ret (by push_cast [term_Marked.rs])
theorem term_IsName_1_s (c:UInt8):PF n_term_IsName_1 [.int .u8 c.toNat] (.bool (!letter c)):=by
 refine pf_of term_IsName_1.ok rfl ?_
 push_cast
 refine .of (term_inName_s c) ?_
 push_cast
 exact pf_ret (by push_cast [term_IsName_1.rs])
def nameOf (s:Str) (marked:Bool):Str:=if marked then trimSuf s [35] else s
def isName (s:Str) (marked:Bool):Bool:=decide (s.length≤24) && (!decide (nameOf s marked = []) && (nameOf s marked).all letter)
theorem any_not {α:Type} (p:α→Bool) (l:List α):(!l.any fun a=>!p a) = l.all p:=by induction l with | nil=>rfl | cons a l ih=>simp_all
theorem trimSuf_len (s p:Str):(trimSuf s p).length≤s.length:=by unfold trimSuf;split <;> simp
theorem nameOf_len (s:Str) (m:Bool):(nameOf s m).length≤s.length:=by unfold nameOf;split;exact trimSuf_len _ _;exact Nat.le_refl _
theorem term_IsName_s (s:Str) (m:Bool) (h1:s.length < 2^62):PF n_term_IsName [.str s,.bool m] (.bool (isName s m)):=by
 refine pf_of term_IsName.ok rfl ?_
 push_cast
 refine ⟨fun h=>pf_ret ?_,fun h=>?_⟩
 ·push_cast [term_IsName.rs,isName]
  rw [show decide (s.length≤24) = false from decide_eq_false (by omega)];rfl
 ·have hlen:s.length≤24:=by omega
  have fin:∀ u:Str,u.length≤24→u = nameOf s m→PF n_slices_ContainsFunc_s_byte_byte [encL cU8 1 u,.fn (.func n_term_IsName_1) [] []] (.bool (u.any fun c=>!letter c)):=fun u hu _=>slices_ContainsFunc_s_byte_byte_s (p:=fun c=>!letter c) (caps:=[]) (fun _=>by push_cast) u (by omega) fun c _=>term_IsName_1_s c
  have hnl:=nameOf_len s m
  have hmx:(nameOf s m).length≤maxEls:=by unfold maxEls;omega
  cases m with
  | true =>
   push_cast
   refine .of (strings_TrimSuffix_s s [35] h1 (by decide)) ?_
   have hn:trimSuf s [35] = nameOf s true:=rfl
   rw [hn]
   push_cast
   by_cases hu:nameOf s true = []
   ·push_cast [hu]
    exact pf_ret (by push_cast [term_IsName.rs,isName,hu])
   ·push_cast [hu,hmx]
    refine .of (fin _ (by omega) rfl) ?_
    push_cast
    exact pf_ret (by push_cast [term_IsName.rs,isName,hu,hlen,any_not])
  | false =>
   have hn:s = nameOf s false:=rfl
   have hmx':s.length≤maxEls:=by unfold maxEls;omega
   push_cast
   by_cases hu:s = []
   ·push_cast [hu]
    exact pf_ret (by push_cast [term_IsName.rs,isName];simp [hu,nameOf])
   ·push_cast [hu,hmx']
    refine .of (fin _ (by omega) rfl) ?_
    push_cast
    exact pf_ret (by push_cast [term_IsName.rs,isName,← hn,hu,hlen,any_not])
end Go.Dw
end
section
namespace Go.Dw
mutual
def depth:Term→Nat
 | .mk _ _ l=>depths l+1
def depths:List Term→Nat
 | []=>0
 | a :: l=>max (depth a) (depths l)
end
theorem depth_args (t:Term):depth t = depths t.args+1:=by cases t;simp [depth,Term.args]
theorem depths_append (a b:List Term):depths (a++b) = max (depths a) (depths b):=by
 induction a with
 | nil=>simp [depths]
 | cons x xs ih=>simp [depths,ih,Nat.max_assoc]
theorem depths_take_succ (l:List Term) (k:Nat) (h:k < l.length):depths (l.take (k+1)) = max (depths (l.take k)) (depth (l.getD k default)):=by
 rw [take_succ_getD h,depths_append];simp [depths]
mutual
theorem depth_le_size:∀ t,depth t≤size t
 | .mk _ _ l=>by simp only [depth,size];have:=depths_le_sizes l;omega
theorem depths_le_sizes:∀ l,depths l≤sizes l
 | []=>by simp [depths,sizes]
 | a :: l=>by simp only [depths,sizes];have:=depth_le_size a;have:=depths_le_sizes l;omega
end
theorem depths_take_le (l:List Term) (k:Nat):depths (l.take k)≤depths l:=by
 conv=>rhs;rw [← List.take_append_drop k l]
 rw [depths_append];omega
theorem imax {a b:Nat}:(if (b:Int) > (a:Int) then (b:Int) else (a:Int)) = ((max a b:Nat):Int):=by split <;> omega
attribute [push_cast] imax
theorem term_Depth_s (t:Term) (hs:size t < 2^62):PF n_term_Depth [encT t] (.int .i64 (depth t)):=by
 induction t using term_ind with
 | h t ih =>
 refine pf_of term_Depth.ok rfl ?_
 have hst:=size_args t
 have hl:=length_le_sizes t.args
 have hd:=depths_le_sizes t.args
 push_cast
 refine loop_up (n:=t.args.length) (R:=fun k=>term_Depth.L3 (.int .i64 (depths (t.args.take k):Nat)) (encTs t.args) (.int .i64 t.args.length) (.int .i64 k) 0 [] _) ?_ ?_ 0 (by omega)
 ·intro k hk ih2
  have h1:=depths_take_succ _ _ hk
  have hm:=getD_mem hk
  have:=size_mem hm
  refine term_Depth.G3 ?_
  push_cast [ilt hk]
  refine .of (ih _ hm (by omega)) ?_
  push_cast [w64 (show k < 2^62 by omega)]
  rw [h1] at ih2
  exact ih2
 ·refine term_Depth.G3 ?_
  push_cast [inlt (Nat.le_refl _)]
  rw [wrap64 (by have:=depths_take_le t.args t.args.length;omega) (by have:=depths_take_le t.args t.args.length;omega)]
  refine pf_ret ?_
  push_cast [term_Depth.rs,List.take_length,depth_args t]
def tb:Term→Nat
 | .mk n _ l=>1+n.length+tbs l
where tbs:List Term→Nat
 | []=>0
 | a :: l=>tb a+tbs l
abbrev tbs:=tb.tbs
theorem tb_args (t:Term):tb t = 1+t.name.length+tbs t.args:=by cases t;simp [tb,Term.name,Term.args]
theorem tb_mem {l:List Term} {a:Term} (h:a∈l):tb a≤tbs l:=by
 induction l with
 | nil=>cases h
 | cons x xs ih=>rcases List.mem_cons.1 h with rfl | h <;> simp [tbs,tb.tbs];have:=ih h;simp only [tbs] at this;omega
mutual
theorem size_le_tb:∀ t,size t≤tb t
 | .mk _ _ l=>by simp only [size,tb];have:=sizes_le_tbs l;simp only [tbs] at this;omega
theorem sizes_le_tbs:∀ l,sizes l≤tbs l
 | []=>by simp [sizes]
 | a :: l=>by simp only [sizes,tbs,tb.tbs];have:=size_le_tb a;have:=sizes_le_tbs l;simp only [tbs] at this;omega
end
mutual
def formed:Term→Bool
 | .mk n v l=>if v then decide (l.length = 0) && isName n false else decide (l.length≤8) && (isName n true && formeds l)
def formeds:List Term→Bool
 | []=>true
 | a :: l=>formed a && formeds l
end
theorem formeds_all (l:List Term):formeds l = l.all formed:=by induction l with | nil=>rfl | cons a l ih=>simp [formeds,ih]
theorem formed_eq (t:Term):formed t = if t.var then decide (t.args.length = 0) && isName t.name false else decide (t.args.length≤8) && (isName t.name true && t.args.all formed):=by
 cases t with | mk n v l=>cases v <;> simp [formed,formeds_all,Term.var,Term.args,Term.name] <;> rfl
theorem length_le_tbs (l:List Term):l.length≤tbs l:=Nat.le_trans (length_le_sizes l) (sizes_le_tbs l)
theorem term_formed_s (t:Term) (hs:tb t < 2^62):PF n_term_formed [encT t] (.bool (formed t)):=by
 induction t using term_ind with
 | h t ih =>
 have htb:=tb_args t
 have hl:=length_le_tbs t.args
 have hI:∀ m,PF n_term_IsName [.str t.name,.bool m] (.bool (isName t.name m)):=fun m=>term_IsName_s _ m (by omega)
 have hC:=slices_ContainsFunc_s_Term_Term_s (p:=fun a=>!formed a) (g:=n_term_formed_1) (caps:=[]) (fun _=>by push_cast) t.args (by omega) fun a ha=>by
  refine pf_of term_formed_1.ok rfl ?_
  push_cast
  refine .of (ih a ha (by have:=tb_mem ha;omega)) ?_
  push_cast
  exact pf_ret (by push_cast [term_formed_1.rs])
 refine pf_of term_formed.ok rfl ?_
 cases hv:t.var with
 | true =>
  by_cases h0:t.args.length = 0
  ·push_cast [hv,h0]
   refine .of (hI false) ?_
   push_cast
   exact pf_ret (by push_cast [term_formed.rs,formed_eq t,hv,h0])
  ·have hi:((t.args.length:Int) = 0) = False:=eq_false (by omega)
   push_cast [hv,hi]
   exact pf_ret (by push_cast [term_formed.rs,formed_eq t,hv,h0])
 | false =>
  by_cases h0:t.args.length≤8
  ·have hi:((t.args.length:Int)≤8) = True:=eq_true (by omega)
   push_cast [hv,hi]
   refine .of (hI true) ?_
   cases hn:isName t.name true
   ·push_cast
    exact pf_ret (by push_cast [term_formed.rs,formed_eq t,hv,h0,hn])
   ·push_cast
    refine .of hC ?_
    push_cast
    exact pf_ret (by push_cast [term_formed.rs,formed_eq t,hv,h0,hn,any_not])
  ·have hi:((t.args.length:Int)≤8) = False:=eq_false (by omega)
   push_cast [hv,hi]
   exact pf_ret (by push_cast [term_formed.rs,formed_eq t,hv,h0])
def fits (t:Term):Bool:=decide (size t≤4000) && decide (depth t≤200)
theorem term_fits_s (t:Term) (hs:size t < 2^62):PF n_term_fits [encT t] (.bool (fits t)):=by
 refine pf_of term_fits.ok rfl ?_
 push_cast
 refine .of (term_Size_s t hs) ?_
 push_cast
 by_cases h:size t≤4000
 ·have hi:((size t:Int)≤4000) = True:=eq_true (by omega)
  push_cast [hi]
  refine .of (term_Depth_s t hs) ?_
  push_cast
  exact pf_ret (by push_cast [term_fits.rs,fits,h];simp;omega)
 ·have hi:((size t:Int)≤4000) = False:=eq_false (by omega)
  push_cast [hi]
  exact pf_ret (by push_cast [term_fits.rs,fits,h])
def check (t:Term):Int:=if formed t then (if fits t then 0 else 3) else 4
theorem term_Check_s (t:Term) (hs:tb t < 2^62):PF n_term_Check [encT t] (.int .i64 (check t)):=by
 refine pf_of term_Check.ok rfl ?_
 push_cast
 refine .of (term_formed_s t hs) ?_
 cases hf:formed t
 ·push_cast
  exact pf_ret (by push_cast [term_Check.rs,check,hf])
 ·push_cast
  refine .of (term_fits_s t (by have:=size_le_tb t;omega)) ?_
  cases hg:fits t <;> push_cast <;> exact pf_ret (by push_cast [term_Check.rs,check,hf,hg])
end Go.Dw
end
section
namespace Go.Dw
theorem room {n b:Nat} (h:n < 2^40) (hb:b≤64):(n+1) * b≤maxEls:=by
 have:(n+1) * b≤(2^40) * 64:=Nat.mul_le_mul (by omega) hb
 unfold maxEls;omega
theorem term_Own_s (t:Term) (hs:size t < 2^40):PF n_term_Own [encT t] (encT t):=by
 induction t using term_ind with
 | h t ih =>
 refine pf_of term_Own.ok rfl ?_
 have hst:=size_args t
 have hl:=length_le_sizes t.args
 push_cast
 refine loop_up (n:=t.args.length) (R:=fun k=>term_Own.L3 (.ptr 0 0) (.ptr 1 0) (encTs t.args) (.int .i64 t.args.length) (.int .i64 k) 0
  [.cells t_Term [.str [],.bool false,.sl 3 []],.cells t_Term [.str t.name,.bool t.var,ownL cT 2 3 (t.args.take k)],.arr t_Term 3 k] _) ?_ ?_ 0 (by omega)
 ·intro k hk ih2
  have hm:=getD_mem hk
  have hsm:=size_mem hm
  have hlt:(t.args.take k).length = k:=by simp;omega
  refine term_Own.G3 ?_
  push_cast [ilt hk]
  refine .of (ih _ hm (by omega)) ?_
  push_cast [hlt,room (show k < 2^40 by omega) (show 48≤64 by omega),w64 (show k < 2^62 by omega)]
  rw [take_succ_getD hk] at ih2
  exact ih2
 ·refine term_Own.G3 ?_
  push_cast [inlt (Nat.le_refl _)]
  refine pf_ret ?_
  push_cast [term_Own.rs,List.take_length]
  rw [encT,cT_eq]
def subT (t:Term):List Int→Option Term
 | []=>some t
 | i :: p=>if 0≤i∧i < t.args.length then subT (t.args.getD i.toNat default) p else none
def noT:Term:=.mk [] false []
def encOT:Option Term→V
 | some t=>.tup [encT t,.bool true]
 | none=>.tup [encT noT,.bool false]
theorem drop_of_none {p:List Int} {k:Nat} (h:¬ k < p.length):p.drop k = []:=List.drop_eq_nil_of_le (by omega)
theorem term_Sub_s (t:Term) (p:List Int) (hp:p.length < 2^62):PF n_term_Sub [encT t,encP p] (encOT (subT t p)):=by
 refine pf_of term_Sub.ok rfl ?_
 push_cast
 have key:∀ (n k:Nat) (u:Term),k+n = p.length→subT u (p.drop k) = subT t p→term_Sub.L3 (.ptr 0 0) (.ptr 1 0) (encP p) (.int .i64 p.length) (.int .i64 k) 0 [.cells t_Term (cT u),.cells t_Term [.str [],.bool false,.sl 3 []]]
   (Ends 0 term_Sub.rs fun x' H'=>x' = encOT (subT t p)∧H' = []):=by
  intro n
  induction n with
  | zero =>
   intro k u hk hq
   refine term_Sub.G3 ?_
   push_cast [inlt (show p.length≤k by omega)]
   refine pf_ret ?_
   rw [drop_of_none (by omega)] at hq
   push_cast [term_Sub.rs,← hq]
   rfl
  | succ n ih =>
   intro k u hk hq
   have hkl:k < p.length:=by omega
   rw [drop_getD hkl] at hq
   refine term_Sub.G3 ?_
   generalize hi:p.getD k default = i at hq
   by_cases h0:i < 0
   ·push_cast [ilt hkl,hi,h0]
    refine pf_ret ?_
    push_cast [term_Sub.rs]
    rw [← hq,subT,if_neg (by omega)];rfl
   ·by_cases h1:(u.args.length:Int)≤i
    ·push_cast [ilt hkl,hi,h0,h1]
     refine pf_ret ?_
     push_cast [term_Sub.rs]
     rw [← hq,subT,if_neg (by omega)];rfl
    ·push_cast [ilt hkl,hi,h0,h1,w64 (show k < 2^62 by omega)]
     refine ⟨by omega,ih (k+1) _ (by omega) ?_⟩
     rw [← hq,subT,if_pos (by omega)]
 exact key p.length 0 t (by omega) rfl
def setT (t:Term) (p:List Int) (x:Term):Term:=match p with
 | []=>x
 | i :: p=>.mk t.name t.var (if 0≤i∧i < t.args.length then t.args.set i.toNat (setT (t.args.getD i.toNat default) p x) else t.args)
theorem setT_args {t x:Term} {i:Int} {p:List Int}:(setT t (i :: p) x).args = if 0≤i∧i < t.args.length then t.args.set i.toNat (setT (t.args.getD i.toNat default) p x) else t.args:=rfl
theorem setT_args_get {t x:Term} {i:Int} {p:List Int} {k:Nat} (hk:k < t.args.length):(setT t (i :: p) x).args.getD k default = if (k:Int) = i then setT (t.args.getD k default) p x else t.args.getD k default:=by
 rw [setT_args]
 by_cases h:0≤i∧i < t.args.length
 ·rw [if_pos h]
  by_cases e:(k:Int) = i
  ·rw [if_pos e]
   subst e
   simp [List.getD_eq_getElem?_getD,hk]
  ·rw [if_neg e]
   simp only [List.getD_eq_getElem?_getD]
   rw [List.getElem?_set_ne (by omega)]
 ·rw [if_neg h,if_neg (by omega)]
theorem setT_args_len {t x:Term} {i:Int} {p:List Int}:(setT t (i :: p) x).args.length = t.args.length:=by
 rw [setT_args];split <;> simp
theorem setT_nv {t x:Term} {i:Int} {p:List Int}:(setT t (i :: p) x).name = t.name∧(setT t (i :: p) x).var = t.var:=⟨rfl,rfl⟩
theorem term_Set_s (p:List Int):∀ (t x:Term),size t < 2^40→size x < 2^40→p.length < 2^40→PF n_term_Set [encT t,encP p,encT x] (encT (setT t p x)):=by
 induction p with
 | nil =>
  intro t x ht hx hp
  refine pf_of term_Set.ok rfl ?_
  push_cast [List.length_nil]
  refine .of (term_Own_s x hx) ?_
  push_cast
  refine pf_ret ?_
  push_cast [term_Set.rs]
  rfl
 | cons i p ih =>
  intro t x ht hx hp
  have hst:=size_args t
  have hl:=length_le_sizes t.args
  have hpl:(i :: p).length = p.length+1:=rfl
  refine pf_of term_Set.ok rfl ?_
  have hne:((p.length:Int)+1 = 0) = False:=eq_false (by omega)
  push_cast [hne]
  have hal:=setT_args_len (t:=t) (x:=x) (i:=i) (p:=p)
  refine loop_up (n:=t.args.length) (R:=fun k=>term_Set.L3 (encP (i :: p)) (.ro (cT x) 0) (.ptr 0 0) (.ptr 1 0) (encTs t.args) (.int .i64 t.args.length) (.int .i64 k) 0
   [.cells t_Term [.str [],.bool false,.sl 3 []],.cells t_Term [.str t.name,.bool t.var,ownL cT 2 3 ((setT t (i :: p) x).args.take k)],.arr t_Term 3 k] _) ?_ ?_ 0 (by omega)
  ·intro k hk ih2
   have hm:=getD_mem hk
   have hsm:=size_mem hm
   have hlt:((setT t (i :: p) x).args.take k).length = k:=by simp;omega
   rw [take_succ_getD (by omega),setT_args_get hk] at ih2
   refine term_Set.G3 ?_
   have h0:((0:Int) < (p.length:Int)+1) = True:=eq_true (by omega)
   have hb:(1≤p.length+1) = True:=eq_true (by omega)
   by_cases he:(k:Int) = i
   ·rw [if_pos he] at ih2
    subst he
    push_cast [ilt hk,h0,List.getD_cons_zero,hb,List.drop_succ_cons,List.drop_zero,List.take_length]
    refine .of (ih _ _ (by omega) hx (by simp at hp;omega)) ?_
    push_cast [hlt,room (show k < 2^40 by omega) (show 48≤64 by omega),w64 (show k < 2^62 by omega)]
    exact ih2
   ·rw [if_neg he] at ih2
    push_cast [ilt hk,h0,List.getD_cons_zero,he,hb]
    refine .of (term_Own_s _ (by omega)) ?_
    push_cast [hlt,room (show k < 2^40 by omega) (show 48≤64 by omega),w64 (show k < 2^62 by omega)]
    exact ih2
  ·refine term_Set.G3 ?_
   push_cast [inlt (Nat.le_refl _)]
   refine pf_ret ?_
   rw [List.take_of_length_le (by omega)]
   push_cast [term_Set.rs]
   rw [encT,cT_eq,setT_nv.1,setT_nv.2]
def encTE (r:Option Term) (e:Int):V:=match r with
 | some t=>.tup [encT t,.int .i64 e]
 | none=>.tup [encT noT,.int .i64 e]
theorem term_Fit_s (t:Term) (hs:size t < 2^62):PF n_term_Fit [encT t] (if fits t then encTE (some t) 0 else encTE none 3):=by
 refine pf_of term_Fit.ok rfl ?_
 push_cast
 refine .of (term_fits_s t hs) ?_
 cases hf:fits t <;> push_cast <;> exact pf_ret (by push_cast [term_Fit.rs];rfl)
def checks:List Term→Int
 | []=>0
 | a :: l=>if check a ≠ 0 then check a else checks l
theorem term_All_s (l:List Term) (hl:l.length < 2^62) (hs:∀ t∈l,tb t < 2^62):PF n_term_All [encTs l] (.int .i64 (checks l)):=by
 refine pf_of term_All.ok rfl ?_
 push_cast
 refine loop_up (n:=l.length) (R:=fun k=>checks (l.drop k) = checks l→term_All.L3 (encTs l) (.int .i64 l.length) (.int .i64 k) 0 [] _) ?_ ?_ 0 (by omega) rfl
 ·intro k hk ih hq
  refine term_All.G3 ?_
  push_cast [ilt hk]
  refine .of (term_Check_s _ (hs _ (getD_mem hk))) ?_
  rw [drop_getD hk] at hq
  simp only [checks] at hq
  push_cast [w64 (show k < 2^62 by omega)]
  refine ⟨fun h=>pf_ret ?_,fun h=>ih ?_⟩
  ·push_cast [term_All.rs]
   rw [← hq,if_pos h]
  ·rw [← hq,if_neg h]
 ·intro hq
  refine term_All.G3 ?_
  push_cast [inlt (Nat.le_refl _)]
  refine pf_ret ?_
  push_cast [term_All.rs]
  rw [← hq,List.drop_eq_nil_of_le (Nat.le_refl _)];rfl
end Go.Dw
end
section
namespace Go.Dw
abbrev cmpS:Str→Str→Int:=Lib.compareBytes
theorem u8_lt_of {a b:UInt8} (h1:¬ a < b) (h2:¬ b < a):a = b:=UInt8.le_antisymm (UInt8.not_lt.1 h2) (UInt8.not_lt.1 h1)
theorem cmpS_eq:∀ a b:Str,cmpS a b = if a < b then -1 else if b < a then 1 else 0
 | [],[]=>by simp [cmpS,Lib.compareBytes]
 | [],_ :: _=>by simp [cmpS,Lib.compareBytes]
 | _ :: _,[]=>by simp [cmpS,Lib.compareBytes]
 | x :: a,y :: b=>by
  have ih:=cmpS_eq a b
  simp only [cmpS,Lib.compareBytes,List.cons_lt_cons_iff] at ih ⊢
  by_cases h1:x < y
  ·simp [h1]
  ·by_cases h2:y < x
   ·have hne:x ≠ y:=fun e=>by subst e;exact h1 h2
    have hne':y ≠ x:=fun e=>hne e.symm
    simp [h1,h2,hne]
   ·have:=u8_lt_of h1 h2
    subst this
    simp [h1,ih]
theorem slt_trans {a b c:Str} (h:a < b) (h2:b < c):a < c:=List.lt_trans h h2
theorem slt_asymm {a b:Str} (h:a < b):¬ b < a:=List.lt_asymm h
theorem slt_irrefl (a:Str):¬ a < a:=List.lt_irrefl a
theorem slt_eq {a b:Str} (h:¬ a < b) (h2:¬ b < a):a = b:=List.le_antisymm h2 h
theorem cmpS_neg {a b:Str}:cmpS a b < 0 ↔ a < b:=by
 rw [cmpS_eq]
 by_cases h:a < b
 ·simp [h]
 ·by_cases h2:b < a <;> simp [h,h2]
theorem cmpS_zero {a b:Str}:cmpS a b = 0 ↔ a = b:=by
 rw [cmpS_eq]
 by_cases h:a < b
 ·simp only [h,if_true];constructor
  ·intro e;omega
  ·intro e;subst e;exact absurd h (slt_irrefl a)
 ·by_cases h2:b < a
  ·simp only [h,h2,if_true,if_false];constructor
   ·intro e;omega
   ·intro e;subst e;exact absurd h2 (slt_irrefl a)
  ·simp only [h,h2,if_false,true_iff];exact slt_eq h h2
theorem bytesLess_eq:∀ a b:Str,Op.bytesLess a b = decide (a < b)
 | [],[]=>by simp [Op.bytesLess]
 | [],_ :: _=>by simp [Op.bytesLess]
 | _ :: _,[]=>by simp [Op.bytesLess]
 | x :: a,y :: b=>by
  simp only [Op.bytesLess,List.cons_lt_cons_iff,bytesLess_eq a b]
  rw [Bool.eq_iff_iff];simp
def Sorted (s:List ABind):Prop:=s.Pairwise fun a b=>a.name < b.name
def lbd (v:Str):List ABind→Nat
 | []=>0
 | b :: s=>if b.name < v then lbd v s+1 else 0
theorem lbd_le (v:Str):∀ s,lbd v s≤s.length
 | []=>Nat.le_refl _
 | b :: s=>by simp only [lbd,List.length_cons];have:=lbd_le v s;split <;> omega
theorem lbd_lt {v:Str}:∀ {s:List ABind} {j:Nat},j < lbd v s→(s.getD j default).name < v
 | [],j,h=>by simp [lbd] at h
 | b :: s,j,h=>by
  simp only [lbd] at h
  split at h
  ·rename_i hb
   cases j with
   | zero=>simpa using hb
   | succ j=>simpa using lbd_lt (s:=s) (j:=j) (by omega)
  ·omega
theorem lbd_ge {v:Str}:∀ {s:List ABind} {j:Nat},Sorted s→lbd v s≤j→j < s.length→¬ (s.getD j default).name < v
 | [],j,_,_,h=>by simp at h
 | b :: s,j,hs,h,hj=>by
  obtain ⟨h1,h2⟩:=List.pairwise_cons.1 hs
  simp only [lbd] at h
  split at h
  ·rename_i hb
   cases j with
   | zero=>omega
   | succ j=>simpa using lbd_ge (s:=s) (j:=j) h2 (by omega) (by simpa using hj)
  ·rename_i hb
   cases j with
   | zero=>simpa using hb
   | succ j =>
    have hm:s.getD j default∈s:=getD_mem (by simpa using hj)
    have:=h1 _ hm
    intro hlt
    simp only [List.getD_cons_succ] at hlt
    exact hb (slt_trans this hlt)
def image:List ABind→Str→Option Term
 | [],_=>none
 | b :: s,v=>if b.name = v then some b.term else image s v
def bound (s:List ABind) (v:Str):Bool:=(image s v).isSome
theorem image_lbd {v:Str}:∀ {s:List ABind},Sorted s→image s v = if lbd v s < s.length∧(s.getD (lbd v s) default).name = v then some (s.getD (lbd v s) default).term else none
 | [],_=>by simp [image]
 | b :: s,hs=>by
  obtain ⟨h1,h2⟩:=List.pairwise_cons.1 hs
  simp only [image,lbd]
  by_cases hb:b.name < v
  ·have hne:b.name ≠ v:=fun e=>by rw [e] at hb;exact slt_irrefl v hb
   simp only [hne,if_false,hb,if_true,image_lbd h2,List.getD_cons_succ,List.length_cons,Nat.add_lt_add_iff_right]
  ·simp only [hb,if_false,List.getD_cons_zero,List.length_cons]
   by_cases he:b.name = v
   ·simp [he]
   ·simp only [he,if_false,and_false]
    have:∀ c∈s,c.name ≠ v:=fun c hc e=>by
     have h3:=h1 c hc
     rw [e] at h3
     exact hb h3
    clear h1 h2 hs
    induction s with
    | nil=>rfl
    | cons c s ih=>simp only [image];rw [if_neg (this c (by simp)),ih fun d hd=>this d (by simp [hd])]
end Go.Dw
end
section
namespace Go.Dw
theorem cmpstring_s (a b:Str):PF n_bytealg_abigen_runtime_cmpstring [.str a,.str b] (.int .i64 (cmpS a b)):=by
 intro c vs hH hc hr
 obtain ⟨v1,vs1,rfl,h1,v2,vs2,rfl,h2,h3⟩:=hr
 have h1:v1 = .string ⟨⟨a⟩⟩:=h1
 have h2:v2 = .string ⟨⟨b⟩⟩:=h2
 have h3:vs2 = []:=h3
 subst h1 h2 h3
 right
 refine ⟨_,c.w,?_,_,.int .i64 (cmpS a b),c,rfl,rfl,⟨rfl,hH⟩,hc,rfl,.refl c⟩
 rw [run_callFunc_extern at_bytealg_abigen_runtime_cmpstring (by kernel_rfl) (by kernel_rfl) (by kernel_rfl) (e:=Extern.BytealgCompare.compare) (by kernel_rfl)]
 have:=Lib.run_compareString (P:=prog) ⟨⟨a⟩⟩ ⟨⟨b⟩⟩ c.w
 rw [this];rfl
theorem CompareString_s (a b:Str):PF n_bytealg_CompareString [.str a,.str b] (.int .i64 (cmpS a b)):=by
 refine pf_of bytealg_CompareString.ok rfl ?_
 push_cast
 refine .of (cmpstring_s a b) ?_
 push_cast
 exact pf_ret (by push_cast [bytealg_CompareString.rs])
theorem strings_Compare_s (a b:Str):PF n_strings_Compare [.str a,.str b] (.int .i64 (cmpS a b)):=by
 refine pf_of strings_Compare.ok rfl ?_
 push_cast
 refine .of (CompareString_s a b) ?_
 push_cast
 exact pf_ret (by push_cast [strings_Compare.rs])
theorem term_Image_1_s (b:ABind) (v:Str):PF n_term_Image_1 [encB b,.str v] (.int .i64 (cmpS b.name v)):=by
 refine pf_of term_Image_1.ok rfl ?_
 push_cast
 refine .of (strings_Compare_s _ _) ?_
 push_cast
 exact pf_ret (by push_cast [term_Image_1.rs])
theorem unify_bind_1_s (b:ABind) (v:Str):PF n_unify_bind_1 [encB b,.str v] (.int .i64 (cmpS b.name v)):=by
 refine pf_of unify_bind_1.ok rfl ?_
 push_cast
 refine .of (strings_Compare_s _ _) ?_
 push_cast
 exact pf_ret (by push_cast [unify_bind_1.rs])
theorem half {i j:Nat} (hi:i < 2^61) (hj:j < 2^61):IntKind.i64.wrap ((IntKind.u64.wrap (IntKind.i64.wrap ((i:Int)+(j:Int)))).fdiv (2^min 1 IntKind.u64.bits)) = (((i+j) / 2:Nat):Int):=by
 rw [wrap64 (x:=(i:Int)+j) (by omega) (by omega)]
 have h1:IntKind.u64.wrap ((i:Int)+(j:Int)) = ((i+j:Nat):Int):=by unfold IntKind.wrap IntKind.bits IntKind.signed;simp;omega
 rw [h1]
 have h2:(2^min 1 IntKind.u64.bits:Int) = 2:=by decide
 rw [h2]
 have h3:((i+j:Nat):Int).fdiv 2 = (((i+j) / 2:Nat):Int):=by
  rw [Int.fdiv_eq_ediv_of_nonneg _ (by omega)];omega
 rw [h3,wrap64 (by omega) (by omega)]
theorem BinarySearch_s {g:Nat} (hg:∀ b v,PF g [encB b,.str v] (.int .i64 (cmpS b.name v))) (s:List ABind) (v:Str) (hs:Sorted s) (hl:s.length < 2^61) :
  PF n_slices_BinarySearchFunc_s_Bind_Bind_string [encBs s,.str v,.fn (.func g) [] []] (.tup [.int .i64 (lbd v s),.bool (bound s v)]):=by
 refine pf_of slices_BinarySearchFunc_s_Bind_Bind_string.ok rfl ?_
 have hle:=lbd_le v s
 push_cast
 have key:∀ (m i j:Nat),j - i≤m→i≤lbd v s→lbd v s≤j→j≤s.length→slices_BinarySearchFunc_s_Bind_Bind_string.L3 (encBs s) (.str v) (.fn (.func g) [] []) (.int .i64 s.length) (.int .i64 i) (.int .i64 j) 0 []
   (Ends 0 slices_BinarySearchFunc_s_Bind_Bind_string.rs fun x' H'=>x' = .tup [.int .i64 (lbd v s),.bool (bound s v)]∧H' = []):=by
  intro m
  induction m with
  | zero =>
   intro i j hm h1 h2 h3
   have hij:i = lbd v s:=by omega
   refine slices_BinarySearchFunc_s_Bind_Bind_string.G3 ?_
   push_cast [inlt (show j≤i by omega)]
   unfold bound
   rw [image_lbd hs]
   by_cases hi:i < s.length
   ·push_cast [ilt hi]
    refine .of (hg _ _) ?_
    push_cast
    refine pf_ret ?_
    push_cast [slices_BinarySearchFunc_s_Bind_Bind_string.rs,cmpS_zero,hij]
    rw [hij] at hi
    by_cases hn:(s.getD (lbd v s) default).name = v
    ·rw [if_pos ⟨hi,hn⟩];simp only [hn];rfl
    ·rw [if_neg (fun h=>hn h.2)];simp only [hn];rfl
   ·push_cast [inlt (show s.length≤i by omega)]
    refine pf_ret ?_
    push_cast [slices_BinarySearchFunc_s_Bind_Bind_string.rs,hij]
    rw [if_neg (fun h=>hi (by omega))]
    rfl
  | succ m ih =>
   intro i j hm h1 h2 h3
   by_cases hij:i < j
   ·refine slices_BinarySearchFunc_s_Bind_Bind_string.G3 ?_
    have hh:=half (i:=i) (j:=j) (by omega) (by omega)
    generalize hq:(i+j) / 2 = h at hh
    have hk:h < s.length:=by omega
    push_cast [ilt hij]
    simp only [hh]
    push_cast [ilt hk]
    refine .of (hg _ _) ?_
    push_cast [w64 (show h < 2^62 by omega),cmpS_neg]
    refine ⟨fun hc=>ih (h+1) j (by omega) ?_ h2 h3,fun hc=>ih i h (by omega) h1 ?_ (by omega)⟩
    ·rcases Nat.lt_or_ge h (lbd v s) with h4 | h4
     ·omega
     ·exact absurd hc (lbd_ge hs h4 hk)
    ·rcases Nat.lt_or_ge h (lbd v s) with h4 | h4
     ·exact absurd (lbd_lt h4) hc
     ·exact h4
   ·exact ih i j (by omega) h1 h2 h3
 exact key s.length 0 s.length (by omega) (by omega) hle (Nat.le_refl _)
theorem term_Image_s (s:List ABind) (v:Str) (hs:Sorted s) (hl:s.length < 2^61):PF n_term_Image [encBs s,.str v] (encOT (image s v)):=by
 have hB:=BinarySearch_s term_Image_1_s s v hs hl
 have hi:=image_lbd (v:=v) hs
 refine pf_of term_Image.ok rfl ?_
 push_cast
 refine callG_new hB ?_
 push_cast
 unfold bound
 by_cases hc:lbd v s < s.length∧(s.getD (lbd v s) default).name = v
 ·rw [if_pos hc] at hi
  push_cast [hi,Option.isSome_some,ilt hc.1]
  refine pf_ret ?_
  push_cast [term_Image.rs]
  rfl
 ·rw [if_neg hc] at hi
  push_cast [hi,Option.isSome_none]
  refine pf_ret ?_
  push_cast [term_Image.rs]
  rfl
end Go.Dw
end
section
namespace Go.Dw
def bbs:List ABind→Nat
 | []=>0
 | b :: s=>1+b.name.length+tb b.term+bbs s
theorem bbs_mem {s:List ABind} {b:ABind} (h:b∈s):1+b.name.length+tb b.term≤bbs s:=by
 induction s with
 | nil=>cases h
 | cons x xs ih=>rcases List.mem_cons.1 h with rfl | h <;> simp [bbs];have:=ih h;omega
theorem length_le_bbs (s:List ABind):s.length≤bbs s:=by
 induction s with
 | nil=>simp
 | cons x xs ih=>simp only [bbs,List.length_cons];omega
theorem drop_map_none {α:Type} {l:List α}:l.drop l.length = []:=List.drop_eq_nil_of_le (Nat.le_refl _)
theorem sle {a b:Str}:(decide (a < b) || a == b) = !decide (b < a):=by
 by_cases h:b < a
 ·have h1:¬ a < b:=slt_asymm h
  have h2:a ≠ b:=fun e=>by subst e;exact slt_irrefl _ h
  simp [h,h1,h2]
 ·by_cases h1:a < b
  ·simp [h,h1]
  ·have:=slt_eq h1 h
   simp [h,this]
theorem strOpV_leq {a b:List UInt8}:strOpV .leq a b = some (.bool (!decide (b < a))):=by unfold strOpV;simp only [bytesLess_eq];rw [← sle]
theorem strOpV_gtr {a b:List UInt8}:strOpV .gtr a b = some (.bool (decide (b < a))):=by unfold strOpV;simp only [bytesLess_eq];rw [sle,Bool.not_not]
theorem strOpV_geq {a b:List UInt8}:strOpV .geq a b = some (.bool (!decide (a < b))):=by unfold strOpV;simp only [bytesLess_eq]
attribute [push_cast] strOpV_leq strOpV_gtr strOpV_geq bytesLess_eq
end Go.Dw
end
section
namespace Go.Dw
mutual
def inst (s:List ABind):Term→Term
 | .mk n v l=>if v then (image s n).getD (.mk n true []) else .mk n false (insts s l)
def insts (s:List ABind):List Term→List Term
 | []=>[]
 | a :: l=>inst s a :: insts s l
end
theorem insts_map (s:List ABind) (l:List Term):insts s l = l.map (inst s):=by induction l with | nil=>rfl | cons a l ih=>simp [insts,ih]
theorem inst_eq (s:List ABind) (t:Term):inst s t = if t.var then (image s t.name).getD (.mk t.name true []) else .mk t.name false (t.args.map (inst s)):=by
 cases t with | mk n v l=>simp only [inst,insts_map,Term.var,Term.name,Term.args];rfl
theorem image_mem {s:List ABind} {v:Str} {x:Term} (h:image s v = some x):∃ b∈s,b.name = v∧b.term = x:=by
 induction s with
 | nil=>cases h
 | cons b s ih =>
  simp only [image] at h
  split at h
  ·rename_i h2;exact ⟨b,by simp,h2,by simpa using h⟩
  ·obtain ⟨c,hc,h3⟩:=ih h;exact ⟨c,by simp [hc],h3⟩
theorem image_size {s:List ABind} {v:Str} {x:Term} (h:image s v = some x):tb x≤bbs s:=by
 obtain ⟨b,hb,_,rfl⟩:=image_mem h
 have:=bbs_mem hb;omega
theorem sizes_map_le {f:Term→Term} {m:Nat}:∀ {l:List Term},(∀ a∈l,size (f a)≤size a * m)→sizes (l.map f)≤sizes l * m
 | [],_=>by simp [sizes]
 | a :: l,h=>by
  have h1:=h a (by simp)
  have h2:=sizes_map_le (l:=l) fun b hb=>h b (by simp [hb])
  simp only [List.map_cons,sizes,Nat.add_mul];omega
theorem inst_size (s:List ABind) (t:Term):size (inst s t)≤size t * (1+bbs s):=by
 induction t using term_ind with
 | h t ih =>
  rw [inst_eq]
  have h1:1 * (1+bbs s)≤size t * (1+bbs s):=Nat.mul_le_mul_right _ (by rw [size_args];omega)
  split
  ·cases hx:image s t.name with
   | some x=>have:=image_size hx;have:=size_le_tb x;simp only [Option.getD_some];omega
   | none=>simp only [Option.getD_none,size,sizes];omega
  ·have:=sizes_map_le (f:=inst s) (m:=1+bbs s) ih
   simp only [size,size_args t,Nat.add_mul];omega
theorem term_replace_s (s:List ABind) (hs:Sorted s) (hb:bbs s < 2^40) (t:Term) (ht:tb t < 2^40):PF n_term_replace [encBs s,encT t] (encT (inst s t)):=by
 have hl:=length_le_bbs s
 induction t using term_ind with
 | h t ih =>
 have hI:=term_Image_s s t.name hs (by omega)
 have htb:=tb_args t
 have hlt:=length_le_tbs t.args
 refine pf_of term_replace.ok rfl ?_
 cases hv:t.var with
 | true =>
  push_cast [hv]
  refine .of hI ?_
  rw [inst_eq,hv]
  cases hx:image s t.name with
  | some x =>
   have h1:=image_size hx
   have h2:=size_le_tb x
   push_cast [encOT]
   refine .of (term_Own_s x (by omega)) ?_
   push_cast
   refine pf_ret ?_
   push_cast [term_replace.rs]
   rfl
  | none =>
   push_cast [encOT]
   refine pf_ret ?_
   push_cast [term_replace.rs]
   rfl
 | false =>
  have he:inst s t = .mk t.name false (t.args.map (inst s)):=by rw [inst_eq,hv];rfl
  rw [he]
  push_cast [hv]
  refine loop_up (n:=t.args.length) (R:=fun k=>term_replace.L3 (encBs s) (.ptr 0 0) (.ptr 1 0) (encTs t.args) (.int .i64 t.args.length) (.int .i64 k) 0
   [.cells t_Term [.str [],.bool false,.sl 3 []],.cells t_Term [.str t.name,.bool false,ownL cT 2 3 ((t.args.take k).map (inst s))],.arr t_Term 3 k] _) ?_ ?_ 0 (by omega)
  ·intro k hk ih2
   have hm:=getD_mem hk
   have htm:=tb_mem hm
   have hlt:((t.args.take k).map (inst s)).length = k:=by simp;omega
   rw [take_succ_getD hk,List.map_append] at ih2
   refine term_replace.G3 ?_
   push_cast [ilt hk]
   refine .of (ih _ hm (by omega)) ?_
   push_cast [hlt,room (show k < 2^40 by omega) (show 48≤64 by omega),w64 (show k < 2^62 by omega)]
   exact ih2
  ·refine term_replace.G3 ?_
   push_cast [inlt (Nat.le_refl _)]
   refine pf_ret ?_
   push_cast [term_replace.rs,List.take_length,cT_mk]
theorem inst_none (s:List ABind) (t:Term):(if 4000 < size (inst s t) ∨ 200 < depth (inst s t) then encTE none 3 else encTE (some (inst s t)) 0) = if fits (inst s t) then encTE (some (inst s t)) 0 else encTE none 3:=by
 unfold fits
 by_cases h1:4000 < size (inst s t)
 ·rw [if_pos (.inl h1),if_neg (by simp;omega)]
 ·by_cases h2:200 < depth (inst s t)
  ·rw [if_pos (.inr h2),if_neg (by simp;omega)]
  ·rw [if_neg (by omega),if_pos (by simp;omega)]
end Go.Dw
end
section
namespace Go.Dw
theorem ends_one {rs:List RV} {t:T} {H:List Ob} {Q:V→List Ob→Prop} {e:X} (k:Nat) {x:V} {o:Ob} (h:retV rs t H = some x) (hk:H[k]? = some o) (hq:Q (ren (pos? [k]) x) [renOb (pos? [k]) o])
  (he:e = .ret ∨ e = .fall:=by first | exact .inl rfl | exact .inr rfl):Ends 0 rs Q e t H:=by
 refine ends_ex (B:=0) he [k] (by simp) (fun i hi=>?_) h ?_
 ·simp only [List.mem_singleton] at hi;subst hi;exact (List.getElem?_eq_some_iff.1 hk).1
 ·have:give (List.range 0++[k]) H = [renOb (pos? [k]) o]:=by
   simp only [List.range_zero,List.nil_append,give,List.map_cons,List.map_nil,List.getD_eq_getElem?_getD,hk,Option.getD_some]
  rw [this];exact hq
theorem slices_Clone_int_s (p:List Int) (hp:p.length < 2^40):Spec prog n_slices_Clone_s_int_int [encP p] [] fun x' H'=>x' = ownL cI 0 1 p∧H' = [.arr t_int 1 p.length]:=by
 refine spec_of_run mixed slices_Clone_s_int_int.ok rfl ?_
 push_cast
 intro c hc
 refine ⟨fun h=>?_,fun h=>⟨by rw [List.length_map];unfold maxEls;omega,?_⟩⟩
 ·have hp0:p = []:=by simpa using hc (by cases c <;> simp_all)
  subst hp0
  exact ends_one 1 rfl rfl ⟨rfl,rfl⟩
 ·exact ends_one 1 rfl rfl ⟨rfl,by simp [renOb]⟩
section
variable {α:Type} {H l:List α} {n:Nat} (h:H.length = n)
include h
theorem get_off (k:Nat):(H++l)[n+k]? = l[k]?:=by rw [List.getElem?_append_right (by omega)];congr 1;omega
theorem get_off0:(H++l)[n]? = l[0]?:=get_off h 0
theorem set_off (k:Nat) (x:α):(H++l).set (n+k) x = H++l.set k x:=by rw [List.set_append_right _ _ (by omega)];congr 2;omega
theorem set_off0 (x:α):(H++l).set n x = H++l.set 0 x:=set_off h 0 x
theorem take_off:(H++l).take n = H:=List.take_left' h
end
theorem shut_clip {n:Nat} {H:List Ob} (h:Shut n H):H.map (renOb (clip n)) = H:=h.2
theorem pos_range (n:Nat):pos? (List.range n) = clip n:=by
 funext i
 unfold pos? clip
 by_cases h:i < n
 ·rw [if_pos h,List.findIdx?_eq_some_iff_getElem]
  refine ⟨by simpa using h,by simp,fun j hj=>by simp;omega⟩
 ·rw [if_neg h,List.findIdx?_eq_none_iff]
  intro x hx
  have:=List.mem_range.1 hx
  simp;omega
theorem give_keep {n:Nat} {H J:List Ob} (h:Shut n H):give (List.range n) (H++J) = H:=by
 have h2:=h.2
 unfold give
 rw [pos_range]
 conv=>rhs;rw [← h2]
 apply List.ext_getElem
 ·simp [h.1]
 ·intro i hi1 hi2
  have hi:i < H.length:=by simpa [h.1] using hi1
  simp [List.getD_eq_getElem?_getD,List.getElem?_append_left hi,hi]
theorem takeB_keep {n:Nat} {H J H':List Ob} (h:Shut n H) (h':Shut n H'):takeB (List.range n) (H++J) H' = H'++J:=by
 have hb:∀ i,i < n→back (List.range n) (H++J).length i = some i:=fun i hi=>by simp [back,hi]
 unfold takeB
 rw [List.length_range,List.drop_of_length_le (by rw [h'.1];exact Nat.le_refl _),List.map_nil,List.append_nil,shut_map h'.2 hb]
 unfold takeG
 rw [pos_range]
 apply List.ext_getElem
 ·simp [h.1,h'.1]
 ·intro i hi1 hi2
  simp only [List.getElem_map,List.getElem_range]
  unfold clip
  by_cases hi:i < n
  ·have:i < H'.length:=by rw [h'.1];exact hi
   rw [if_pos hi,List.getElem_append_left this]
   simp [List.getD_eq_getElem?_getD,this]
  ·rw [if_neg hi,List.getElem_append_right (by rw [h'.1];omega)]
   have:H.length≤i:=by rw [h.1];omega
   simp only [List.getD_eq_getElem?_getD]
   rw [List.getElem?_append_right this]
   have h3:i - H.length < J.length:=by simp only [List.length_append,h'.1] at hi2;rw [h.1];omega
   simp only [h.1,h'.1] at h3 ⊢
   simp [h3]
section
variable {N:Nat→C} {B:Nat} {s:List K} {t:T} {H:List Ob} {Q:X→T→List Ob→Prop}
theorem callG_keep {d:Option Nat} {l:List S} {F:Fn} {vs vs':List V} {n:Nat} {J:List Ob} {R:V→List Ob→Prop} (h:Shut n H) (hvs:rens (clip n) vs = vs') (hs:SpecF prog F vs' H R) (hR:∀ x H',R x H'→Shut n H')
  (k:∀ x H',R x H'→Run prog N B (.r l :: s) (setO d (ren (back (List.range n) (H++J).length) x) t) (H'++J) Q):CallG prog N B d l s t Q F vs (H++J):=by
 refine CallG.some (List.range n) List.nodup_range (fun i hi=>by have:=List.mem_range.1 hi;rw [List.length_append,h.1];omega) (R:=R) ?_ ?_
 ·rw [give_keep h,pos_range,hvs];exact hs
 ·intro x H' hx _
  rw [takeB_keep h (hR x H' hx)]
  exact k x H' hx
end
theorem ends_keep {rs:List RV} {t:T} {n:Nat} {H J:List Ob} {Q:V→List Ob→Prop} {e:X} {x:V} (h:Shut n H) (hr:retV rs t (H++J) = some x) (hq:Q (ren (clip n) x) H)
  (he:e = .ret ∨ e = .fall:=by first | exact .inl rfl | exact .inr rfl):Ends n rs Q e t (H++J):=by
 refine ends_ex (B:=n) he [] (by simp [List.nodup_range]) (fun i hi=>by cases hi) hr ?_
 rw [List.append_nil,give_keep h,pos_range];exact hq
mutual
def visit:Term→List Int→List (List Int × Term)
 | .mk n v l,p=>(p,.mk n v l) :: visits l p 0
def visits:List Term→List Int→Nat→List (List Int × Term)
 | [],_,_=>[]
 | a :: l,p,i=>visit a (p++[(i:Int)])++visits l p (i+1)
end
theorem visit_eq (t:Term) (p:List Int):visit t p = (p,t) :: visits t.args p 0:=by cases t;simp [visit,Term.args]
theorem visits_append (a b:List Term) (p:List Int) (i:Nat):visits (a++b) p i = visits a p i++visits b p (i+a.length):=by
 induction a generalizing i with
 | nil=>simp [visits]
 | cons x xs ih=>simp only [List.cons_append,visits,ih,List.append_assoc,List.length_cons];congr 3;omega
theorem visits_take_succ {l:List Term} {p:List Int} {k:Nat} (h:k < l.length):visits (l.take (k+1)) p 0 = visits (l.take k) p 0++visit (l.getD k default) (p++[(k:Int)]):=by
 rw [take_succ_getD h,visits_append]
 have:(l.take k).length = k:=by simp;omega
 simp [visits,this]
theorem visits_drop {l:List Term} {p:List Int} {k:Nat} (h:k < l.length):visits l p 0 = visits (l.take k) p 0++(visit (l.getD k default) (p++[(k:Int)])++visits (l.drop (k+1)) p (k+1)):=by
 have h1:l = l.take k++(l.getD k default :: l.drop (k+1)):=by rw [← drop_getD h,List.take_append_drop]
 have:(l.take k).length = k:=by simp;omega
 conv=>lhs;rw [h1,visits_append]
 rw [visits,this,Nat.zero_add]
def encIt (x:List Int × Term):List V:=[encP x.1,encT x.2]
theorem at_app {α:Type} {l a b c:List α} {k:Nat} (h:l.drop k = a++(b++c)):l.drop (k+a.length) = b++c:=by
 rw [← List.drop_drop,h,List.drop_left]
theorem at_get {α:Type} {l b:List α} {a:α} {k:Nat} (h:l.drop k = a :: b):l[k]? = some a:=by
 have:=List.getElem?_drop (xs:=l) (i:=k) (j:=0)
 rw [h] at this;simpa using this.symm
theorem term_walk_s {F:Fn} {G:Nat→List Ob→Prop} {S:List Ob→Prop} {n:Nat} {its:List (List Int × Term)} (hG:∀ k H,G k H→Shut n H) (hS:∀ H,S H→Shut n H)
  (hF:∀ k it H,its[k]? = some it→G k H→SpecF prog F (encIt it) H fun x H'=>x = .bool true∧G (k+1) H' ∨ x = .bool false∧S H') (t:Term) :
  ∀ (p:List Int) (k:Nat) (rest:List (List Int × Term)),its.drop k = visit t p++rest→p.length+size t < 2^40→∀ H,G k H→Spec prog n_term_walk [encT t,encP p,.fn F [] []] H fun x H'=>x = .bool true∧G (k+(visit t p).length) H' ∨ x = .bool false∧S H':=by
 induction t using term_ind with
 | h t ih =>
 intro p k rest hd hsz H hg
 have hH:=hG _ _ hg
 have hl:=length_le_sizes t.args
 have hst:=size_args t
 rw [visit_eq,List.cons_append] at hd
 refine spec_of_run mixed term_walk.ok rfl ?_
 push_cast
 refine .all (hF k _ H (at_get hd) hg) ?_
 rintro x H1 (⟨rfl,hg1⟩ | ⟨rfl,hs1⟩)
 case inr =>
  push_cast
  refine ends_all (.inl rfl) rfl (.inr ⟨rfl,hs1⟩)
 case inl =>
  have hH1:=hG _ _ hg1
  have hkp:∀ H1,Shut n H1→(H1.take H.length).map (renOb (clip H.length)) = H1:=fun H1 h=>by rw [hH.1,List.take_of_length_le (Nat.le_of_eq h.1),h.2]
  push_cast [hkp H1 hH1]
  have hd1:its.drop (k+1) = visits t.args p 0++rest:=by rw [← List.drop_drop,hd];rfl
  refine loop_up (n:=t.args.length) (R:=fun j=>∀ H1,G (k+1+(visits (t.args.take j) p 0).length) H1→term_walk.L3 (encP p) (.fn F [] []) (encTs t.args) (.int .i64 t.args.length) (.int .i64 j) H.length H1 _) ?_ ?_ 0 (by omega) H1 hg1
  ·intro j hj ih2 H1 hg1
   have hm:=getD_mem hj
   have hsm:=size_mem hm
   have hH1:=hG _ _ hg1
   have hn:H.length = n:=hH.1
   rw [hn]
   refine term_walk.G3 ?_
   push_cast [ilt hj,hH1.1,get_off0 hH1.1,get_off hH1.1,set_off hH1.1,set_off0 hH1.1,w64 (show j < 2^62 by omega)]
   have hp1:(p++[(j:Int)]).length+size (t.args.getD j default) < 2^40:=by rw [List.length_append,List.length_singleton];omega
   have hd2:its.drop (k+1+(visits (t.args.take j) p 0).length) = visit (t.args.getD j default) (p++[(j:Int)])++(visits (t.args.drop (j+1)) p (j+1)++rest):=by
    refine at_app ?_
    rw [hd1,visits_drop hj];simp
   have hw:SpecF prog (.func n_term_walk) _ _ _:=specF_func ▸ ih _ hm _ _ _ hd2 hp1 H1 hg1
   rw [visits_take_succ hj,List.length_append] at ih2
   refine ⟨?_,?_⟩ <;>
   ·refine callG_new (slices_Clone_int_s p (by omega)) ?_
    push_cast [hH1.1,get_off0 hH1.1,get_off hH1.1,set_off hH1.1,set_off0 hH1.1]
    refine ⟨by unfold maxEls;omega,?_⟩
    refine callG_keep hH1 (vs':=[encT (t.args.getD j default),encP (p++[(j:Int)]),.fn F [] []]) ?_ hw ?_ ?_
    ·push_cast
     rw [if_neg (by omega)]
     simp [encL,cI]
    ·rintro x H2 (⟨_,h⟩ | ⟨_,h⟩)
     ·exact hG _ _ h
     ·exact hS _ h
    ·rintro x H2 (⟨rfl,h⟩ | ⟨rfl,h⟩)
     ·have hH2:=hG _ _ h
      push_cast [w64 (show j < 2^62 by omega),take_off hH2.1,shut_clip hH2]
      have:=ih2 H2 (by rw [← Nat.add_assoc];exact h)
      rw [hn] at this
      exact this
     ·have hH2:=hS _ h
      push_cast
      exact ends_keep hH2 rfl (.inr ⟨rfl,h⟩)
  ·intro H1 hg1
   refine term_walk.G3 ?_
   push_cast [inlt (Nat.le_refl _)]
   refine ends_all (.inl rfl) rfl (.inl ⟨rfl,?_⟩)
   rw [List.take_length] at hg1
   rw [visit_eq,List.length_cons,Nat.add_comm _ 1,← Nat.add_assoc]
   exact hg1
theorem term_Walk_iter (t:Term) (hs:size t < 2^40):IterSpec prog n_term_Walk_1 [] [.ro (cT t) 0] ((visit t []).map encIt):=by
 intro F G S n hG hS hF H hg
 have hH:=hG _ _ hg
 refine spece_of_run mixed term_Walk_1.ok rfl ?_
 push_cast
 have hw:=term_walk_s (F:=F) (n:=n) (its:=visit t []) hG hS (fun k it H' hit=>hF k (encIt it) H' (by rw [List.getElem?_map,hit];rfl)) t [] 0 [] (by simp) (by simpa using hs) H hg
 have hw:SpecF prog (.func n_term_walk) _ _ _:=specF_func ▸ hw
 refine CallG.all hw ?_
 rintro x H1 (⟨rfl,h⟩ | ⟨rfl,h⟩)
 ·push_cast
  exact ends_all (.inr rfl) rfl (.inl (by rw [Nat.zero_add] at h;rw [List.length_map];exact h))
 ·push_cast
  exact ends_all (.inr rfl) rfl (.inr h)
theorem term_Walk_s (t:Term):PF n_term_Walk [encT t] (.fn (.func n_term_Walk_1) [] [.ro (cT t) 0]):=by
 refine pf_of term_Walk.ok rfl ?_
 push_cast
 exact pf_ret (by push_cast [term_Walk.rs])
end Go.Dw
end
section
namespace Go.Proofs
open Go.RowKit Go.Shelf Go.Sort
def Tryz.laysSort_ren:Go.Shelf.Ren:=⟨fun | 190=>125 | 125=>182 | 258=>181 | 128=>243 | 129=>244 | 302=>234 | 303=>235 | 304=>236 | 305=>237 | 306=>238 | 307=>239 | 308=>240 | 309=>241 | 310=>242 | 333=>273 | 329=>274 | 330=>275 | 334=>276 | 335=>277 | 336=>278 | 344=>298 | n=>n,fun | 31=>108 | 9=>9 | 3=>3 | 46=>208 | 0=>0 | 51=>252 | 53=>254 | 4=>4 | 183=>246 | 182=>245 | 131=>238 | 5=>5 | 218=>274 | 222=>278 | 228=>296 | 229=>117 | n=>n,fun | n=>n⟩
theorem Tryz.laysSort:Go.Proofs.Lays.n190 Tryz.prog Tryz.laysSort_ren:={
 mixed:=by kernel_rfl
 f125:=Tryz.func182.trans (congrArg some (by kernel_rfl))
 f128:=Tryz.func243.trans (congrArg some (by kernel_rfl))
 f129:=Tryz.func244.trans (congrArg some (by kernel_rfl))
 f190:=Tryz.func125.trans (congrArg some (by kernel_rfl))
 f258:=Tryz.func181.trans (congrArg some (by kernel_rfl))
 f302:=Tryz.func234.trans (congrArg some (by kernel_rfl))
 f303:=Tryz.func235.trans (congrArg some (by kernel_rfl))
 f304:=Tryz.func236.trans (congrArg some (by kernel_rfl))
 f305:=Tryz.func237.trans (congrArg some (by kernel_rfl))
 f306:=Tryz.func238.trans (congrArg some (by kernel_rfl))
 f307:=Tryz.func239.trans (congrArg some (by kernel_rfl))
 f308:=Tryz.func240.trans (congrArg some (by kernel_rfl))
 f309:=Tryz.func241.trans (congrArg some (by kernel_rfl))
 f310:=Tryz.func242.trans (congrArg some (by kernel_rfl))
 f329:=Tryz.func274.trans (congrArg some (by kernel_rfl))
 f330:=Tryz.func275.trans (congrArg some (by kernel_rfl))
 f333:=Tryz.func273.trans (congrArg some (by kernel_rfl))
 f334:=Tryz.func276.trans (congrArg some (by kernel_rfl))
 f335:=Tryz.func277.trans (congrArg some (by kernel_rfl))
 f336:=Tryz.func278.trans (congrArg some (by kernel_rfl))
 f344:=Tryz.func298.trans (congrArg some (by kernel_rfl))
 t0:=Tryz.underlying0
 a0:=Tryz.isAgg0
 z0:=Tryz.sizeOf0
 v0:=Tryz.zeroValue0
 t3:=Tryz.underlying3
 a3:=Tryz.isAgg3
 z3:=Tryz.sizeOf3
 v3:=Tryz.zeroValue3
 t4:=Tryz.underlying4
 a4:=Tryz.isAgg4
 z4:=Tryz.sizeOf4
 v4:=Tryz.zeroValue4
 t5:=Tryz.underlying5
 a5:=Tryz.isAgg5
 z5:=Tryz.sizeOf5
 v5:=Tryz.zeroValue5
 t9:=Tryz.underlying9
 a9:=Tryz.isAgg9
 z9:=Tryz.sizeOf9
 v9:=Tryz.zeroValue9
 t31:=Tryz.underlying108
 a31:=Tryz.isAgg108
 z31:=Tryz.sizeOf108
 v31:=Tryz.zeroValue108
 t46:=Tryz.underlying208
 a46:=Tryz.isAgg208
 z46:=Tryz.sizeOf208
 v46:=Tryz.zeroValue208
 t51:=Tryz.underlying252
 a51:=Tryz.isAgg252
 z51:=Tryz.sizeOf252
 v51:=Tryz.zeroValue252
 t53:=Tryz.underlying254
 a53:=Tryz.isAgg254
 z53:=Tryz.sizeOf254
 v53:=Tryz.zeroValue254
 t131:=Tryz.underlying238
 a131:=Tryz.isAgg238
 z131:=Tryz.sizeOf238
 v131:=Tryz.zeroValue238
 t182:=Tryz.underlying245
 a182:=Tryz.isAgg245
 z182:=Tryz.sizeOf245
 v182:=Tryz.zeroValue245
 t183:=Tryz.underlying246
 a183:=Tryz.isAgg246
 z183:=Tryz.sizeOf246
 v183:=Tryz.zeroValue246
 t218:=Tryz.underlying274
 a218:=Tryz.isAgg274
 z218:=Tryz.sizeOf274
 v218:=Tryz.zeroValue274
 t222:=Tryz.underlying278
 a222:=Tryz.isAgg278
 z222:=Tryz.sizeOf278
 v222:=Tryz.zeroValue278
 t228:=Tryz.underlying296
 a228:=Tryz.isAgg296
 z228:=Tryz.sizeOf296
 v228:=Tryz.zeroValue296
 t229:=Tryz.underlying117
 a229:=Tryz.isAgg117
 z229:=Tryz.sizeOf117
 v229:=Tryz.zeroValue117 }
theorem Tryz.sort_num:Tryz.laysSort_ren.f 190 = Go.Dw.n_slices_Sort_s_string_string:=by kernel_rfl
theorem Tryz.sort_in (args:Array Value) (w:World):(callFunc Go.Dw.n_slices_Sort_s_string_string args).run Tryz.prog w = .ok (.enter Go.Dw.n_slices_Sort_s_string_string args) w:=by
 have:=enters_of (P:=Tryz.prog) Tryz.laysSort.f190 (by kernel_rfl) rfl args w
 rw [Tryz.sort_num] at this
 exact this
abbrev sortS (l:List (List UInt8)):List (List UInt8):=l.mergeSort fun x y=>decide (x≤y)
theorem Tryz.sort_c (blk off cap:Nat) (zs:List (List UInt8)) (w:World) (hH:Holds encStr w blk off zs.toArray) (hblk:blk < w.heap.size) (hsz:zs.length < 4611686018427387904) :
  Calls Tryz.prog Go.Dw.n_slices_Sort_s_string_string #[.slice (some ⟨blk,off,none⟩) zs.length cap] w fun e w' =>
   e = .returned (.tuple #[])∧∃ n os,w' = grow (putRow encStr (Sort.ahead w n) blk off (sortS zs).toArray) os:=by
 have:=calls_of_every_depth fun D=>AnyS.slices_Sort_string_alone Tryz.laysSort D blk off cap zs w hH hblk hsz
 rw [Tryz.sort_num] at this
 exact this
theorem Tryz.sort_n (cap:Nat) (w:World):Calls Tryz.prog Go.Dw.n_slices_Sort_s_string_string #[.slice none 0 cap] w fun e w'=>e = .returned (.tuple #[])∧w' = w:=by
 have:=calls_of_every_depth fun D=>AnyS.slices_Sort_string_none_alone Tryz.laysSort D none cap w
 rw [Tryz.sort_num] at this
 exact this
end Go.Proofs
namespace Go.Dw
open Go.Proofs Go.Sort
theorem sort_row (l:List (List UInt8)):Spec prog n_slices_Sort_s_string_string [.rw 0 1 l.length] [.row t_string 1 (l.map fun s=>[V.str s])] fun x H'=>x = .tup []∧H' = [.row t_string 1 ((sortS l).map fun s=>[V.str s])]:=by
 intro c vs hH hc hr
 obtain ⟨v,vs',rfl,h1,h2⟩:=hr
 have h2:vs' = []:=h2
 subst h2
 left
 have h0:c.H[0]? = some (.row t_string 1 (l.map fun s=>[V.str s])):=by rw [hH];rfl
 obtain ⟨q1,q2⟩:=hc.obj 0 _ h0
 obtain ⟨p1,⟨a,k,p2,p3,p4⟩,p5⟩:=h1
 have hcur:=(p5 _ _ _ h0).2.2 (by simp)
 have hperm:(sortS l).length = l.length:=(List.mergeSort_perm l _).length_eq
 refine ⟨Tryz.sort_in _ _,?_⟩
 cases hρ:c.ρ 0 with
 | none =>
  have hl:l = []:=by simpa using q1 hρ
  subst hl
  rw [hρ] at hcur
  have hcur:v = .slice none 0 0:=hcur
  subst hcur
  refine (Tryz.sort_n 0 c.w).mono ?_
  rintro e w' ⟨rfl,rfl⟩
  exact ⟨_,.tup [],c,rfl,rfl,⟨rfl,by rw [hH];simp⟩,hc,⟨#[],rfl,rfl⟩,.refl c⟩
 | some bk =>
  obtain ⟨b,m⟩:=bk
  rw [hρ] at hcur
  have hcur:v = .slice (some ⟨b,0,none⟩) l.length m:=hcur
  subst hcur
  obtain ⟨vs,r1,r2,r3,r4,r5,r6⟩:=q2 b m hρ
  have hblt:b < c.w.heap.size:=(Array.getElem?_eq_some_iff.1 r1).1
  have hcell:∀ j (s:List UInt8),l[j]? = some s→vs[j]? = some (encStr s):=fun j s hj=>by
   obtain ⟨_,hx⟩:=r6 j [V.str s] (by rw [List.getElem?_map,hj];rfl)
   obtain ⟨v,e1,_,e3⟩:=hx 0 _ rfl
   have e3:v = .string ⟨⟨s⟩⟩:=e3
   rw [Nat.mul_one,Nat.add_zero] at e1
   rw [e1,e3]
  have hHolds:Holds encStr c.w b 0 l.toArray:=fun j hj=>by
   have hj:j < l.length:=by simpa using hj
   have hg:l[j]? = some l[j]:=by simp [hj]
   have:=hcell j _ hg
   have hgd:l.toArray[j]! = l[j]:=by simp [hj]
   refine ⟨?_,?_⟩
   ·simp only [World.cell?,r1,Nat.zero_add,hgd]
    exact this
   ·simp [World.frozen?,r1]
  refine (Tryz.sort_c b 0 m l c.w hHolds hblt (by unfold maxEls at p3;omega)).mono ?_
  rintro e w' ⟨rfl,n,os,rfl⟩
  generalize hso:sortS l = so at hperm
  generalize hw':grow (putRow encStr (Sort.ahead c.w n) b 0 so.toArray) os = w'
  have hsz:w'.heap.size = c.w.heap.size+os.size:=by subst hw';simp [grow,putRow,mapBlock,Sort.ahead]
  have hoth:∀ b',b' < c.w.heap.size→b' ≠ b→w'.heap[b']? = c.w.heap[b']?:=fun b' h1 h2=>by
   subst hw'
   simp only [grow,putRow,mapBlock,Sort.ahead]
   rw [Array.getElem?_append_left (by simpa using h1),Array.getElem?_modify,if_neg (Ne.symm h2)]
  have hsame:w'.heap[b]? = some (.cells (putCells encStr 0 so.toArray vs) t_string (0,0)):=by
   subst hw'
   simp only [grow,putRow,mapBlock,Sort.ahead]
   rw [Array.getElem?_append_left (by simpa using hblt),Array.getElem?_modify,if_pos rfl,r1]
   rfl
  have howns:∀ b',c.owns b' ↔ b' = b:=fun b'=>by
   constructor
   ·rintro ⟨i,k',h1,h2⟩
    have:i = 0:=by rw [hH] at h1;simpa using h1
    subst this
    rw [hρ] at h2;cases h2;rfl
   ·rintro rfl;exact ⟨0,m,p1,hρ⟩
  refine ⟨_,.tup [],⟨w',c.ok,c.ρ,[.row t_string 1 (so.map fun s=>[V.str s])]⟩,rfl,rfl,⟨rfl,rfl⟩,?_,⟨#[],rfl,rfl⟩,?_⟩
  ·refine ⟨fun i j b1 k1 k2 h1 h2 _ _=>?_,fun b' o h=>?_,fun i o hi=>?_,hc.glob.keep (fun b' hb hno=>hoth b' hb fun e=>hno ((howns b').2 e)) fun b' ⟨i,k',h1,h2⟩=>.inl ⟨i,k',by rw [hH];exact h1,h2⟩⟩
   ·simp only [List.length_singleton] at h1 h2;omega
   ·have:=hc.okLt _ _ h;show b' < w'.heap.size;omega
   ·cases i with
    | succ i=>simp at hi
    | zero =>
     simp only [List.getElem?_cons_zero,Option.some.injEq] at hi
     subst hi
     refine ⟨fun h=>?_,fun b' k' h=>?_⟩
     ·have h:c.ρ 0 = none:=h
      rw [hρ] at h;cases h
     ·have h:c.ρ 0 = some (b',k'):=h
      rw [hρ] at h;cases h
      refine ⟨putCells encStr 0 so.toArray vs,hsame,by simpa [putCells] using r2,by simpa [hperm] using r3,r4,r5,fun i el hi=>?_⟩
      rw [List.getElem?_map] at hi
      cases hs:so[i]? with
      | none=>rw [hs] at hi;cases hi
      | some s =>
       rw [hs] at hi;cases hi
       refine ⟨rfl,fun j x hx=>?_⟩
       cases j with
       | succ j=>simp at hx
       | zero =>
        simp only [List.getElem?_cons_zero,Option.some.injEq] at hx
        subst hx
        have hil:i < so.length:=(List.getElem?_eq_some_iff.1 hs).1
        have hsi:so[i] = s:=(List.getElem?_eq_some_iff.1 hs).2
        have hiv:i < vs.size:=by rw [List.length_map] at r3;omega
        refine ⟨encStr s,?_,rfl,rfl⟩
        rw [Nat.mul_one,Nat.add_zero]
        simp only [putCells,Array.getElem?_mapIdx,Array.getElem?_eq_getElem hiv,Option.map_some]
        rw [if_pos (by simpa using hil)]
        simp [hil,hsi]
  ·refine ⟨fun _ _ h=>h,fun b' o h=>?_,by show c.w.heap.size≤w'.heap.size;omega,fun _ _ h=>.inl h,fun b' hb hno=>hoth b' hb (fun e=>hno ((howns b').2 e)),fun b' hb=>.inl ?_,fun j o hj=>?_,?_,?_,?_,?_⟩
   ·have hne:b' ≠ b:=fun e=>r5 o (e ▸ h)
    simp only [World.cell?]
    rw [hoth b' (hc.okLt _ _ h) hne]
   ·obtain ⟨i,k',h1,h2⟩:=hb
    exact ⟨i,k',by rw [hH];exact h1,h2⟩
   ·rw [hH] at hj
    cases j with
    | succ j=>simp at hj
    | zero =>
     simp only [List.getElem?_cons_zero,Option.some.injEq] at hj
     subst hj
     exact ⟨_,rfl,rfl,rfl,by simp [hperm],fun _=>rfl⟩
   ·subst hw';rfl
   ·subst hw';rfl
   ·subst hw';rfl
   ·subst hw';exact Nat.le_add_right _ _
end Go.Dw
end
section
namespace Go.Dw
open Go.Proofs (sortS)
theorem rens_strs {σ:Nat→Option Nat} {l:List Str}:(l.map fun s=>[V.str s]).map (rens σ) = l.map fun s=>[V.str s]:=by rw [List.map_map];rfl
attribute [push_cast] rens_strs
theorem take_2 (a b c d o:Ob):takeB [2] [a,b,c,d] [o] = [a,b,renOb (back [2] 4) o,d]:=rfl
theorem give_2 (a b c d:Ob):give [2] [a,b,c,d] = [renOb (pos? [2]) c]:=rfl
def addS (ks:List Str) (n:Str):List Str:=if n∈ks then ks else ks++[n]
def encKs (ks:List Str):List (V × V):=ks.map fun k=>(.str k,.bool true)
theorem ren_encKs {σ:Nat→Option Nat} {ks:List Str}:((encKs ks).map fun p=>(ren σ p.1,ren σ p.2)) = encKs ks:=by
 unfold encKs;rw [List.map_map];rfl
attribute [push_cast] ren_encKs
theorem findM_encKs (n:Str):∀ (ks:List Str) (i:Nat),findM (.str n) (encKs ks) i = some (if n∈ks then some (i+ks.idxOf n,.bool true) else none)
 | [],i=>by simp [findM,encKs]
 | k :: ks,i=>by
  have ih:=findM_encKs n ks (i+1)
  unfold encKs at ih ⊢
  by_cases h:k = n
  ·subst h;simp [findM,sameK]
  ·have h':n ≠ k:=fun e=>h e.symm
   have e:sameK (.str n) (.str k) = some false:=by simp [sameK,h']
   have hb:(k == n) = false:=by simp [h]
   simp only [List.map_cons,findM,e,ih,List.mem_cons,h',false_or,List.idxOf_cons,hb,cond_false]
   split
   ·congr 3;omega
   ·rfl
theorem updM_encKs (n:Str) (ks:List Str):updM (.str n) (.bool true) (encKs ks) = some (encKs (addS ks n)):=by
 unfold updM
 rw [findM_encKs]
 unfold addS
 by_cases h:n∈ks
 ·simp only [h,if_true]
  congr 1
  unfold encKs
  apply List.ext_getElem (by simp)
  intro i h1 h2
  rw [List.getElem_set]
  split
  ·rename_i e
   subst e
   simp [List.getElem_idxOf]
  ·rfl
 ·simp only [h,if_false]
  simp [encKs]
def varsIn (l:List (List Int × Term)):List Str:=(l.filter fun x=>x.2.var).map fun x=>x.2.name
def vset (ks:List Str) (l:List (List Int × Term)):List Str:=(varsIn l).foldl addS ks
def vsetT (ks:List Str) (l:List Term):List Str:=l.foldl (fun ks t=>vset ks (visit t [])) ks
def varsOf (l:List Term):List Str:=sortS (vsetT [] l)
mutual
theorem visit_len:∀ (t:Term) (p:List Int),(visit t p).length = size t
 | .mk n v l,p=>by simp only [visit,size,List.length_cons,visits_len l p 0];omega
theorem visits_len:∀ (l:List Term) (p:List Int) (i:Nat),(visits l p i).length = sizes l
 | [],p,i=>rfl
 | a :: l,p,i=>by simp only [visits,sizes,List.length_append,visit_len a,visits_len l]
end
theorem addS_len (ks:List Str) (n:Str):(addS ks n).length≤ks.length+1:=by unfold addS;split <;> simp
theorem foldl_addS_len:∀ (l:List Str) (ks:List Str),(l.foldl addS ks).length≤ks.length+l.length
 | [],ks=>by simp
 | n :: l,ks=>by have:=foldl_addS_len l (addS ks n);have:=addS_len ks n;simp only [List.foldl_cons,List.length_cons];omega
theorem vset_len (ks:List Str) (l:List (List Int × Term)):(vset ks l).length≤ks.length+l.length:=by
 have h1:=foldl_addS_len (varsIn l) ks
 have h2:(varsIn l).length≤l.length:=by unfold varsIn;rw [List.length_map];exact List.length_filter_le _ _
 unfold vset;omega
theorem vsetT_len:∀ (l:List Term) (ks:List Str),(vsetT ks l).length≤ks.length+sizes l
 | [],ks=>by simp [vsetT,sizes]
 | t :: l,ks=>by
  have h1:=vsetT_len l (vset ks (visit t []))
  have h2:=vset_len ks (visit t [])
  rw [visit_len] at h2
  simp only [vsetT,List.foldl_cons,sizes] at h1 ⊢;omega
theorem term_VarsOf_s (l:List Term) (hs:sizes l < 2^40):PF n_term_VarsOf [encTs l] (encSs (varsOf l)):=by
 have hl:=length_le_sizes l
 refine pf_of term_VarsOf.ok rfl ?_
 push_cast
 refine loop_up (n:=l.length) (R:=fun k=>term_VarsOf.L8 (.ptr 1 0) .any (encTs l) (.int .i64 l.length) (.int .i64 k) 0 [.map (encKs (vsetT [] (l.take k))),.cells t_m_string_bool [.map 0]] _) ?_ ?_ 0 (by omega)
 ·intro k hk ih
  have hm:=getD_mem hk
  have hsm:=size_mem hm
  refine term_VarsOf.G8 ?_
  push_cast [ilt hk]
  refine .of (term_Walk_s _) ?_
  push_cast
  have hks:vsetT [] (l.take (k+1)) = vset (vsetT [] (l.take k)) (visit (l.getD k default) []):=by rw [take_succ_getD hk];simp [vsetT]
  rw [hks] at ih
  generalize vsetT [] (l.take k) = ks at ih ⊢
  generalize l.getD k default = u at ih hsm ⊢
  refine Run.rf n_term_Walk_1 [] [.ro (cT u) 0] ((visit u []).map encIt) (fun j H1=>H1 = [.map (encKs (vset ks ((visit u []).take j))),.cells t_m_string_bool [.map 0],.dead]) (fun _ _=>False) rfl (term_Walk_iter u (by omega)) ?_ (by simp [vset,varsIn]) ?_ ?_ (fun _ _ h=>h.elim) ?_ ?_ (fun _ _ h=>h.elim)
  ·intro it hit
   obtain ⟨x,_,rfl⟩:=List.mem_map.1 hit
   rfl
  ·push_cast
  ·rintro j H1 rfl
   refine ⟨rfl,?_⟩
   push_cast
  ·rintro lo r j it H1 hit rfl
   rw [List.getElem?_map] at hit
   cases hx:(visit u [])[j]? with
   | none=>rw [hx] at hit;cases hit
   | some x =>
   rw [hx] at hit
   have hit:it = encIt x:=by simpa using hit.symm
   subst hit
   have hj:j < (visit u []).length:=(List.getElem?_eq_some_iff.1 hx).1
   have hxj:(visit u [])[j] = x:=(List.getElem?_eq_some_iff.1 hx).2
   have htk:(visit u []).take (j+1) = (visit u []).take j++[x]:=by rw [List.take_succ_eq_append_getElem hj,hxj]
   push_cast [setPs,encIt]
   refine run_m.2 ?_
   cases hv:x.2.var with
   | false =>
    have hvs:vset ks ((visit u []).take (j+1)) = vset ks ((visit u []).take j):=by rw [htk];simp [vset,varsIn,hv]
    push_cast [hv]
    refine ⟨rfl,?_⟩
    push_cast [cut,hvs]
   | true =>
    have hvs:vset ks ((visit u []).take (j+1)) = addS (vset ks ((visit u []).take j)) x.2.name:=by rw [htk];simp [vset,varsIn,hv]
    push_cast [hv,updM_encKs,ksB]
    refine ⟨rfl,?_⟩
    push_cast [cut,hvs]
  ·rintro H1 rfl
   push_cast [w64 (show k < 2^62 by omega)]
   have:(visit u []).take ((visit u []).map encIt).length = visit u []:=by rw [List.length_map,List.take_length]
   rw [this]
   exact ih
 ·refine term_VarsOf.G8 ?_
  push_cast [inlt (Nat.le_refl _)]
  unfold varsOf
  rw [List.take_length]
  have hkl:=vsetT_len l []
  generalize vsetT [] l = ks at hkl ⊢
  simp only [List.length_nil,Nat.zero_add] at hkl
  have hlen:(encKs ks).length = ks.length:=by unfold encKs;rw [List.length_map]
  rw [hlen]
  have fin:∀ (seen:List Nat),seen.Nodup→(∀ i∈seen,i < ks.length)→(∀ k,k < ks.length→k∈seen)→sortS (seen.map fun i=>ks.getD i []) = sortS ks:=fun seen h1 h2 h3=>by
   refine Go.mergeSort_of_perm ?_
   have hp:seen.Perm (List.range ks.length):=(List.perm_ext_iff_of_nodup h1 List.nodup_range).2 fun i=>by rw [List.mem_range];exact ⟨h2 i,h3 i⟩
   have he:(List.range ks.length).map (fun i=>ks.getD i []) = ks:=by
    apply List.ext_getElem (by simp)
    intro i a b
    have hi:i < ks.length:=by simpa using b
    simp [List.getD_eq_getElem?_getD,hi]
   have:=hp.map fun i=>ks.getD i []
   rw [he] at this
   exact this
  have key:∀ (m:Nat) (seen:List Nat),ks.length - seen.length≤m→seen.Nodup→(∀ i∈seen,i < ks.length)→term_VarsOf.L3 (.rw 2 1 seen.length) (.it 3) 0
    [.map (encKs ks),.cells t_m_string_bool [.map 0],.row t_string 1 ((seen.map fun i=>ks.getD i []).map fun s=>[V.str s]),.iter (some 0) ks.length seen]
    (Ends 0 term_VarsOf.rs fun x' H'=>x' = encSs (sortS ks)∧H' = []):=by
   intro m
   induction m with
   | zero =>
    intro seen hm hnd hlt
    refine term_VarsOf.G3 ?_
    push_cast
    refine nxP_of 0 ks.length seen (encKs ks) rfl rfl hlen.symm (fun hall=>?_) (fun k p hp hk=>?_)
    ·have hsl:(seen.map fun i=>ks.getD i []).length = seen.length:=by simp
     have hc:=sort_row (seen.map fun i=>ks.getD i [])
     have hso:(sortS (seen.map fun i=>ks.getD i [])).length = seen.length:=by rw [(List.mergeSort_perm _ _).length_eq,hsl]
     rw [hsl,fin seen hnd hlt hall] at hc
     rw [fin seen hnd hlt hall] at hso
     push_cast
     refine CallG.some [2] (by simp) (by simp) (R:=fun x H'=>x = .tup []∧H' = [.row t_string 1 ((sortS ks).map fun s=>[V.str s])]) (by rw [give_2,renOb_row,rens_strs];exact hc) ?_
     rintro x H' ⟨rfl,rfl⟩ _
     rw [take_2]
     push_cast
     refine ⟨by rw [List.length_map];exact hso,pf_ret ?_⟩
     push_cast [term_VarsOf.rs]
     rfl
    ·have:(seen++[k]).length≤(List.range ks.length).length:=List.Nodup.length_le_of_subset (by simp [List.nodup_append,hnd];intro a ha e;exact hk (e ▸ ha)) (by
      intro i hi
      rw [List.mem_range]
      rcases List.mem_append.1 hi with h | h
      ·exact hlt i h
      ·simp only [List.mem_singleton] at h;subst h;rw [← hlen];exact (List.getElem?_eq_some_iff.1 hp).1)
     simp at this;omega
   | succ m ih =>
    intro seen hm hnd hlt
    refine term_VarsOf.G3 ?_
    push_cast
    refine nxP_of 0 ks.length seen (encKs ks) rfl rfl hlen.symm (fun hall=>?_) (fun k p hp hk=>?_)
    ·have hsl:(seen.map fun i=>ks.getD i []).length = seen.length:=by simp
     have hc:=sort_row (seen.map fun i=>ks.getD i [])
     have hso:(sortS (seen.map fun i=>ks.getD i [])).length = seen.length:=by rw [(List.mergeSort_perm _ _).length_eq,hsl]
     rw [hsl,fin seen hnd hlt hall] at hc
     rw [fin seen hnd hlt hall] at hso
     push_cast
     refine CallG.some [2] (by simp) (by simp) (R:=fun x H'=>x = .tup []∧H' = [.row t_string 1 ((sortS ks).map fun s=>[V.str s])]) (by rw [give_2,renOb_row,rens_strs];exact hc) ?_
     rintro x H' ⟨rfl,rfl⟩ _
     rw [take_2]
     push_cast
     refine ⟨by rw [List.length_map];exact hso,pf_ret ?_⟩
     push_cast [term_VarsOf.rs]
     rfl
    ·have hkl:k < ks.length:=by rw [← hlen];exact (List.getElem?_eq_some_iff.1 hp).1
     have hpe:p = (.str (ks.getD k []),.bool true):=by
      unfold encKs at hp
      rw [List.getElem?_map] at hp
      simp [hkl] at hp
      rw [← hp];simp [List.getD_eq_getElem?_getD,hkl]
     have hen:∀ a b,enV [.map (encKs ks),a,b,.iter (some 0) ks.length (seen++[k])] (.it 3) = some (.tup [p.1,p.2]):=fun a b=>by
      simp [enV,hlen,hp]
     subst hpe
     push_cast [hen]
     refine ⟨?_,?_⟩
     ·have:(seen.map fun i=>ks.getD i []).length = seen.length:=by simp
      have h2:seen.length≤ks.length:=by simpa using List.Nodup.length_le_of_subset hnd (l₂:=List.range ks.length) fun i hi=>List.mem_range.2 (hlt i hi)
      exact ⟨by simp,room (n:=seen.length) (b:=16) (by omega) (by omega)⟩
     ·have hnd2:(seen++[k]).Nodup:=by simp [List.nodup_append,hnd];intro a ha e;exact hk (e ▸ ha)
      have hlt2:∀ i∈seen++[k],i < ks.length:=fun i hi=>by
       rcases List.mem_append.1 hi with h | h
       ·exact hlt i h
       ·simp only [List.mem_singleton] at h;subst h;exact hkl
      have:=ih (seen++[k]) (by simp;omega) hnd2 hlt2
      simp only [List.map_append,List.map_cons,List.map_nil,List.length_append,List.length_singleton] at this
      rw [List.map_append,rens_strs]
      exact this
  exact key ks.length [] (by simp) List.nodup_nil (by simp)
end Go.Dw
end
section
namespace Go.Dw
open Go.Proofs (sortS)
def rbs:List ARule→Nat
 | []=>0
 | x :: r=>1+tb x.left+tb x.right+rbs r
theorem rbs_mem {r:List ARule} {x:ARule} (h:x∈r):1+tb x.left+tb x.right≤rbs r:=by
 induction r with
 | nil=>cases h
 | cons y ys ih=>rcases List.mem_cons.1 h with rfl | h <;> simp [rbs];have:=ih h;omega
theorem length_le_rbs (r:List ARule):r.length≤rbs r:=by
 induction r with
 | nil=>simp
 | cons x xs ih=>simp only [rbs,List.length_cons];omega
section
variable (r:ARule)
theorem cR_0:(cR r)[0]? = some (.str r.left.name):=rfl
theorem cR_1:(cR r)[1]? = some (.bool r.left.var):=rfl
theorem cR_2:(cR r)[2]? = some (encTs r.left.args):=by show some (V.sl 3 (argC r.left)) = _;rw [argC_eq];rfl
theorem cR_3:(cR r)[3]? = some (.str r.right.name):=rfl
theorem cR_4:(cR r)[4]? = some (.bool r.right.var):=rfl
theorem cR_5:(cR r)[5]? = some (encTs r.right.args):=by show some (V.sl 3 (argC r.right)) = _;rw [argC_eq];rfl
end
attribute [push_cast] cR_0 cR_1 cR_2 cR_3 cR_4 cR_5
def checkPairs:List ARule→Int
 | []=>0
 | x :: r=>if checks [x.left,x.right] ≠ 0 then checks [x.left,x.right] else checkPairs r
def checkRules (r:List ARule):Int:=if 64 < r.length then 3 else checkPairs r
theorem term_CheckRules_s (r:List ARule) (hs:rbs r < 2^61):PF n_term_CheckRules [encRs r] (.int .i64 (checkRules r)):=by
 have hl:=length_le_rbs r
 refine pf_of term_CheckRules.ok rfl ?_
 by_cases h64:64 < r.length
 ·have hi:((64:Int) < (r.length:Int)) = True:=eq_true (by omega)
  push_cast [hi]
  refine pf_ret ?_
  push_cast [term_CheckRules.rs,checkRules,h64]
 ·have hi:((64:Int) < (r.length:Int)) = False:=eq_false (by omega)
  push_cast [hi,checkRules,h64]
  refine loop_up (n:=r.length) (R:=fun k=>checkPairs (r.drop k) = checkPairs r→term_CheckRules.L3 (encRs r) (.int .i64 r.length) (.int .i64 k) 0 [] _) ?_ ?_ 0 (by omega) rfl
  ·intro k hk ih hq
   have hm:=rbs_mem (getD_mem hk)
   refine term_CheckRules.G3 ?_
   rw [drop_getD hk] at hq
   simp only [checkPairs] at hq
   generalize hx:r.getD k default = x at hm hq
   have hA:=term_All_s [x.left,x.right] (by simp) (by simp;omega)
   push_cast [ilt hk,hx]
   refine .of hA ?_
   push_cast [w64 (show k < 2^62 by omega)]
   refine ⟨fun h=>pf_ret ?_,fun h=>ih ?_⟩
   ·push_cast [term_CheckRules.rs]
    rw [← hq,if_pos h]
   ·rw [← hq,if_neg h]
  ·intro hq
   refine term_CheckRules.G3 ?_
   push_cast [inlt (Nat.le_refl _)]
   refine pf_ret ?_
   push_cast [term_CheckRules.rs]
   rw [← hq,drop_map_none];rfl
theorem slices_Index_str_s (l:List Str) (v:Str) (hl:l.length < 2^62):PF n_slices_Index_s_string_string [encSs l,.str v] (.int .i64 (idxI (fun x=>decide (v = x)) l)):=by
 refine pf_of slices_Index_s_string_string.ok rfl ?_
 push_cast
 refine loop_up (n:=l.length) (R:=fun k=>(∀ j,j < k→decide (v = l.getD j default) = false)→slices_Index_s_string_string.L3 (encSs l) (.str v) (.int .i64 l.length) (.int .i64 k) 0 [] _) ?_ ?_ 0 (by omega) (by intro j hj;omega)
 ·intro k hk ih hq
  refine slices_Index_s_string_string.G3 ?_
  push_cast [ilt hk,w64 (show k < 2^62 by omega)]
  refine ⟨fun hp=>pf_ret ?_,fun hp=>?_⟩
  ·push_cast [slices_Index_s_string_string.rs]
   rw [idxI_some hk (by simpa using hp) hq]
  ·refine ih fun j hj=>?_
   rcases Nat.lt_succ_iff_lt_or_eq.1 hj with h | rfl
   ·exact hq j h
   ·simpa using hp
 ·intro hq
  refine slices_Index_s_string_string.G3 ?_
  push_cast [inlt (Nat.le_refl _)]
  refine pf_ret ?_
  push_cast [slices_Index_s_string_string.rs]
  rw [idxI_none hq]
theorem slices_Contains_str_s (l:List Str) (v:Str) (hl:l.length < 2^62):PF n_slices_Contains_s_string_string [encSs l,.str v] (.bool (decide (v∈l))):=by
 refine pf_of slices_Contains_s_string_string.ok rfl ?_
 push_cast
 refine .of (slices_Index_str_s l v hl) ?_
 push_cast
 refine pf_ret ?_
 push_cast [slices_Contains_s_string_string.rs,idxI_any]
 rw [Bool.eq_iff_iff];simp
def extra (x:ARule):Bool:=x.left.var || (varsOf [x.right]).any fun v=>!decide (v∈varsOf [x.left])
theorem varsOf_len (l:List Term):(varsOf l).length≤sizes l:=by
 have:=vsetT_len l []
 unfold varsOf;rw [(List.mergeSort_perm _ _).length_eq];simpa using this
theorem term_extra_s (x:ARule) (hs:tb x.left+tb x.right < 2^39):PF n_term_extra [encR x] (.bool (extra x)):=by
 have h1:=size_le_tb x.left
 have h2:=size_le_tb x.right
 have e1:∀ t,sizes [t] = size t:=fun t=>by simp [sizes]
 have hv:=varsOf_len [x.left]
 have hv2:=varsOf_len [x.right]
 rw [e1] at hv hv2
 have hL:=term_VarsOf_s [x.left] (by rw [e1];omega)
 have hR:=term_VarsOf_s [x.right] (by rw [e1];omega)
 refine pf_of term_extra.ok rfl ?_
 push_cast
 refine .of hL ?_
 cases hvar:x.left.var with
 | true =>
  push_cast [hvar]
  refine pf_ret ?_
  push_cast [term_extra.rs,extra,hvar]
  rfl
 | false =>
  push_cast [hvar]
  refine .of hR ?_
  push_cast
  refine .of (slices_ContainsFunc_s_string_string_s (p:=fun v=>!decide (v∈varsOf [x.left])) (caps:=[.ro [encSs (varsOf [x.left])] 0]) (fun _=>rfl) _ (by omega) fun v hv=>?_) ?_
  ·refine pf_of term_extra_1.ok rfl ?_
   push_cast
   refine .of (slices_Contains_str_s _ _ (by omega)) ?_
   push_cast
   exact pf_ret (by push_cast [term_extra_1.rs])
  ·push_cast
   refine pf_ret ?_
   push_cast [term_extra.rs,extra,hvar]
   rfl
end Go.Dw
end
section
namespace Go.Dw
abbrev Ars:=List (Str × Nat)
def getA:Ars→Str→Option Nat
 | [],_=>none
 | p :: m,n=>if p.1 = n then some p.2 else getA m n
def arStep (m:Ars) (u:Term):Option Ars:=if u.var then some m else match getA m u.name with
 | some n=>if n = u.args.length then some m else none
 | none=>some (m++[(u.name,u.args.length)])
def arAll (m:Ars):List (List Int × Term)→Option Ars
 | []=>some m
 | x :: l=>(arStep m x.2).bind fun m'=>arAll m' l
def arRules (m:Ars):List ARule→Option Ars
 | []=>some m
 | x :: r=>(arAll m (visit x.left [])).bind fun m1=>(arAll m1 (visit x.right [])).bind fun m2=>arRules m2 r
theorem arAll_append:∀ (a b:List (List Int × Term)) (m:Ars),arAll m (a++b) = (arAll m a).bind fun m'=>arAll m' b
 | [],b,m=>rfl
 | x :: a,b,m=>by simp only [List.cons_append,arAll];cases arStep m x.2 <;> simp [arAll_append a b]
def encAr (m:Ars):List (V × V):=m.map fun p=>(.str p.1,.int .i64 p.2)
theorem ren_encAr {σ:Nat→Option Nat} {m:Ars}:((encAr m).map fun p=>(ren σ p.1,ren σ p.2)) = encAr m:=by
 unfold encAr;rw [List.map_map];rfl
attribute [push_cast] ren_encAr
theorem findM_encAr (n:Str):∀ (m:Ars) (i:Nat),match getA m n with
  | none=>findM (.str n) (encAr m) i = some none
  | some a=>∃ j,findM (.str n) (encAr m) i = some (some (i+j,.int .i64 a))∧(encAr m)[j]? = some (.str n,.int .i64 a)
 | [],i=>rfl
 | p :: m,i=>by
  have ih:=findM_encAr n m (i+1)
  unfold getA
  by_cases h:p.1 = n
  ·rw [if_pos h]
   refine ⟨0,?_,?_⟩
   ·simp [encAr,findM,sameK,h]
   ·simp [encAr,h]
  ·rw [if_neg h]
   have h':n ≠ p.1:=fun e=>h e.symm
   have hb:(n == p.1) = false:=by simpa using h'
   have e:∀ (k:Nat) ,findM (.str n) (encAr (p :: m)) k = findM (.str n) (encAr m) (k+1):=fun k=>by simp [encAr,findM,sameK,hb]
   cases hg:getA m n with
   | none=>rw [hg] at ih;simp only at ih ⊢;rw [e];exact ih
   | some a =>
    rw [hg] at ih
    obtain ⟨j,h1,h2⟩:=ih
    refine ⟨j+1,?_,?_⟩
    ·rw [e,h1];congr 3;omega
    ·simp only [encAr,List.map_cons,List.getElem?_cons_succ];exact h2
theorem look_encAr (m:Ars) (n:Str) {H:List Ob} {k:Nat} (hk:H[k]? = some (.map (encAr m))):lookV H true true (.int .i64 0) (.map k) (.str n) = some (.tup [.int .i64 ((getA m n).getD 0:Nat),.bool (getA m n).isSome]):=by
 have h:=findM_encAr n m 0
 have he:entsV H (.map k) = some (encAr m):=by simp [entsV,hk]
 unfold lookV
 rw [he]
 cases hg:getA m n with
 | none=>rw [hg] at h;simp only at h;simp [ksB,h,foundX]
 | some a=>rw [hg] at h;obtain ⟨j,h1,h2⟩:=h;simp [ksB,h1,foundX]
theorem upd_encAr {m m':Ars} {u:Term} (hv:u.var = false) (h:arStep m u = some m'):updM (.str u.name) (.int .i64 u.args.length) (encAr m) = some (encAr m'):=by
 have hf:=findM_encAr u.name m 0
 unfold arStep at h
 rw [hv] at h
 simp only [Bool.false_eq_true,if_false] at h
 unfold updM
 cases hg:getA m u.name with
 | none =>
  rw [hg] at h hf
  simp only [Option.some.injEq] at h hf
  subst h
  rw [hf];simp [encAr]
 | some a =>
  rw [hg] at h hf
  simp only at h
  split at h
  ·rename_i ha
   cases h
   obtain ⟨j,h1,h2⟩:=hf
   rw [h1]
   subst ha
   simp only [Nat.zero_add,Option.some.injEq]
   obtain ⟨h3,h4⟩:=List.getElem?_eq_some_iff.1 h2
   rw [← h4,List.set_getElem_self]
  ·cases h
def arOut (o:Option Ars) (x:V) (H:List Ob):Prop:=match o with
 | none=>x = .tup [.nilm,.bool false]∧H = []
 | some m=>x = .tup [.map 0,.bool true]∧H = [.map (encAr m)]
abbrev arH (m:Ars) (l:List Ob):List Ob:=.cells t_m_string_int [.nilm] :: .cells t_bool [.bool false] :: .map (encAr m) :: .cells t_m_string_int [.map 2] :: l
theorem ar_pass {u:Term} {m:Ars} {r:List ARule} {v24:V} {j k n:Nat} (hs:size u < 2^40) (hj:j < 2) (hra:∀ σ,ren σ v24 = v24) (hix:ixaV 3 2 (some 3) v24 (.int .i64 j) = some (encT u)) (hnone:arAll m (visit u []) = none→arRules [] r = none)
  (hsome:∀ m',arAll m (visit u []) = some m'→term_Arities.L6 (.ptr 0 0) (.ptr 1 0) (.ptr 3 0) .any (encRs r) (.int .i64 n) (.int .i64 k) v24 (.int .i64 (j+1:Nat)) 0 (arH m' [.dead]) (Ends 0 term_Arities.rs (arOut (arRules [] r)))) :
  term_Arities.L6 (.ptr 0 0) (.ptr 1 0) (.ptr 3 0) .any (encRs r) (.int .i64 n) (.int .i64 k) v24 (.int .i64 j) 0 (arH m [.dead]) (Ends 0 term_Arities.rs (arOut (arRules [] r))):=by
 have hj2:((j:Int) < 2) = True:=eq_true (by omega)
 refine term_Arities.G6 ?_
 push_cast [hj2,hix]
 refine .of (term_Walk_s _) ?_
 push_cast
 refine Run.rf n_term_Walk_1 [] [.ro (cT u) 0] ((visit u []).map encIt) (fun i H1=>∃ m',arAll m ((visit u []).take i) = some m'∧H1 = arH m' [.dead,.dead]) (fun e H1=>e = .ret∧arAll m (visit u []) = none∧∃ m',H1 = arH m' [.dead,.dead]) rfl (term_Walk_iter u hs) ?_ ⟨m,rfl,rfl⟩ ?_ ?_ ?_ ?_ ?_ ?_
 ·intro it hit
  obtain ⟨x,_,rfl⟩:=List.mem_map.1 hit
  rfl
 ·push_cast [hra]
 ·rintro i H1 ⟨m',_,rfl⟩
  refine ⟨rfl,?_⟩
  push_cast
 ·rintro i H1 ⟨_,_,m',rfl⟩
  refine ⟨rfl,?_⟩
  push_cast
 ·rintro lo rr i it H1 hit ⟨m',hm',rfl⟩
  rw [List.getElem?_map] at hit
  cases hx:(visit u [])[i]? with
  | none=>rw [hx] at hit;cases hit
  | some x =>
  rw [hx] at hit
  have hit:it = encIt x:=by simpa using hit.symm
  subst hit
  have hi:i < (visit u []).length:=(List.getElem?_eq_some_iff.1 hx).1
  have hxi:(visit u [])[i] = x:=(List.getElem?_eq_some_iff.1 hx).2
  have htk:(visit u []).take (i+1) = (visit u []).take i++[x]:=by rw [List.take_succ_eq_append_getElem hi,hxi]
  have hst:arAll m ((visit u []).take (i+1)) = arStep m' x.2:=by rw [htk,arAll_append,hm'];simp [arAll]
  have hlk:∀ (a b:Ob) l,lookV (a :: b :: .map (encAr m') :: l) true true (.int .i64 0) (.map 2) (.str x.2.name) = some (.tup [.int .i64 ((getA m' x.2.name).getD 0:Nat),.bool (getA m' x.2.name).isSome]):=fun a b l=>look_encAr m' _ rfl
  push_cast [setPs,encIt]
  refine run_m.2 ?_
  cases hv:x.2.var with
  | true =>
   have hst2:arStep m' x.2 = some m':=by unfold arStep;rw [hv];rfl
   push_cast [hv]
   refine ⟨rfl,?_⟩
   refine ⟨m',by rw [hst,hst2],?_⟩
   push_cast [cut]
  | false =>
   cases hg:getA m' x.2.name with
   | none =>
    have hst2:arStep m' x.2 = some (m'++[(x.2.name,x.2.args.length)]):=by unfold arStep;rw [hv,hg];rfl
    have hup:=upd_encAr hv hst2
    push_cast [hv,hlk,hg,Option.isSome_none,hup,ksB]
    refine ⟨rfl,?_⟩
    refine ⟨_,by rw [hst,hst2],?_⟩
    push_cast [cut]
   | some a =>
    by_cases ha:a = x.2.args.length
    ·have hst2:arStep m' x.2 = some m':=by unfold arStep;rw [hv,hg];simp [ha]
     have hup:=upd_encAr hv hst2
     have ha':((a:Int) = (x.2.args.length:Int)) = True:=eq_true (by omega)
     push_cast [hv,hlk,hg,Option.isSome_some,Option.getD_some,ha',hup,ksB]
     refine ⟨rfl,?_⟩
     refine ⟨_,by rw [hst,hst2],?_⟩
     push_cast [cut]
    ·have hst2:arStep m' x.2 = none:=by unfold arStep;rw [hv,hg];simp [ha]
     have ha':((a:Int) = (x.2.args.length:Int)) = False:=eq_false (by omega)
     push_cast [hv,hlk,hg,Option.isSome_some,Option.getD_some,ha',ksB]
     refine ⟨rfl,?_⟩
     have hall:arAll m (visit u []) = none:=by
      have:visit u [] = (visit u []).take (i+1)++(visit u []).drop (i+1):=(List.take_append_drop _ _).symm
      rw [this,arAll_append,hst,hst2];rfl
     refine ⟨rfl,hall,m',?_⟩
     push_cast [cut]
 ·rintro H1 ⟨m',hm',rfl⟩
  rw [List.length_map,List.take_length] at hm'
  have:=hsome m' hm'
  push_cast [hra,w64 (show j < 2^62 by omega)]
  push_cast at this
  exact this
 ·rintro e H1 ⟨rfl,hn,m',rfl⟩
  simp only [jumpC]
  push_cast
  rw [hnone hn]
  exact ends_nil (.inl rfl) rfl ⟨rfl,rfl⟩
theorem term_Arities_s (r:List ARule) (hs:rbs r < 2^40):Spec prog n_term_Arities [encRs r] [] (arOut (arRules [] r)):=by
 have hl:=length_le_rbs r
 refine spec_of_run mixed term_Arities.ok rfl ?_
 push_cast
 refine loop_up (n:=r.length) (R:=fun k=>∀ m,arRules m (r.drop k) = arRules [] r→term_Arities.L8 (.ptr 0 0) (.ptr 1 0) (.ptr 3 0) .any (encRs r) (.int .i64 r.length) (.int .i64 k) 0 (arH m []) (Ends 0 term_Arities.rs (arOut (arRules [] r)))) ?_ ?_ 0 (by omega) [] rfl
 ·intro k hk ih m hm
  have hmm:=rbs_mem (getD_mem hk)
  rw [drop_getD hk] at hm
  refine term_Arities.G8 ?_
  generalize hx:r.getD k default = x at hm hmm
  have h1:=size_le_tb x.left
  have h2:=size_le_tb x.right
  simp only [arRules] at hm
  have hr24:∀ σ,rens σ (cT x.left++cT x.right) = cT x.left++cT x.right:=fun σ=>rfl
  push_cast [ilt hk,hx,hr24]
  refine ar_pass (j:=0) (u:=x.left) (by omega) (by omega) (fun σ=>by rw [ren_agg,hr24]) rfl (fun h=>by rw [← hm,h];rfl) fun m1 hm1=>?_
  rw [hm1,Option.bind_some] at hm
  refine ar_pass (j:=1) (u:=x.right) (by omega) (by omega) (fun σ=>by rw [ren_agg,hr24]) rfl (fun h=>by rw [← hm,h];rfl) fun m2 hm2=>?_
  rw [hm2,Option.bind_some] at hm
  refine term_Arities.G6 ?_
  push_cast [w64 (show k < 2^62 by omega)]
  exact ih m2 hm
 ·intro m hm
  refine term_Arities.G8 ?_
  push_cast [inlt (Nat.le_refl _)]
  rw [drop_map_none] at hm
  rw [← hm]
  refine ends_one 2 rfl rfl ⟨rfl,?_⟩
  push_cast
end Go.Dw
end
section
namespace Go.Dw
def marked (n:Str):Bool:=hasSuf n [35]
def checkSystem (r:List ARule):Int:=if checkRules r ≠ 0 then checkRules r else match arRules [] r with
 | none=>6
 | some m=>if m.any (fun p=>marked p.1) then 6 else if r.any extra then 7 else 0
theorem seen_all {n:Nat} {seen:List Nat} {k:Nat} (hm:n≤seen.length) (hnd:seen.Nodup) (hlt:∀ i∈seen,i < n) (hk:k ∉ seen) (hkn:k < n):False:=by
 have h1:(seen++[k]).Nodup:=by simp [List.nodup_append,hnd];intro a ha e;exact hk (e ▸ ha)
 have h2:(seen++[k]).length≤(List.range n).length:=List.Nodup.length_le_of_subset h1 (by
  intro i hi
  rw [List.mem_range]
  rcases List.mem_append.1 hi with h | h
  ·exact hlt i h
  ·simp only [List.mem_singleton] at h;subst h;exact hkn)
 simp at h2;omega
theorem seen_snoc {n:Nat} {seen:List Nat} {k:Nat} (hnd:seen.Nodup) (hlt:∀ i∈seen,i < n) (hk:k ∉ seen) (hkn:k < n):(seen++[k]).Nodup∧∀ i∈seen++[k],i < n:=by
 refine ⟨by simp [List.nodup_append,hnd];intro a ha e;exact hk (e ▸ ha),fun i hi=>?_⟩
 rcases List.mem_append.1 hi with h | h
 ·exact hlt i h
 ·simp only [List.mem_singleton] at h;subst h;exact hkn
theorem term_CheckSystem_s (r:List ARule) (hs:rbs r < 2^38) (hn:∀ m,arRules [] r = some m→∀ p∈m,p.1.length < 2^62):PF n_term_CheckSystem [encRs r] (.int .i64 (checkSystem r)):=by
 have hl:=length_le_rbs r
 refine pf_of term_CheckSystem.ok rfl ?_
 push_cast
 refine .of (term_CheckRules_s r (by omega)) ?_
 unfold checkSystem
 by_cases h1:checkRules r = 0
 ·rw [if_neg (by simpa using h1)]
  push_cast [h1]
  refine CallG.all (show SpecF prog (.func n_term_Arities) [encRs r] [] (arOut (arRules [] r)) from specF_func ▸ term_Arities_s r (by omega)) ?_
  intro x H' h
  cases hr:arRules [] r with
  | none =>
   rw [hr] at h
   obtain ⟨rfl,rfl⟩:=h
   push_cast
   refine pf_ret ?_
   push_cast [term_CheckSystem.rs]
  | some m =>
   have hnm:=hn m hr
   rw [hr] at h
   obtain ⟨rfl,rfl⟩:=h
   push_cast
   have hlen:(encAr m).length = m.length:=by unfold encAr;rw [List.length_map]
   rw [hlen]
   have key:∀ (f:Nat) (seen:List Nat),m.length - seen.length < f→seen.Nodup→(∀ i∈seen,i < m.length)→(∀ i∈seen,marked (m.getD i default).1 = false)→term_CheckSystem.L4 (encRs r) (.it 1) 0
     [.map (encAr m),.iter (some 0) m.length seen] (Ends 0 term_CheckSystem.rs fun x' H'=>x' = .int .i64 (if m.any (fun p=>marked p.1) then 6 else if r.any extra then 7 else 0)∧H' = []):=by
    intro f
    induction f with
    | zero =>
     intro seen hm hnd hlt hun
     omega
    | succ f ih =>
     intro seen hm hnd hlt hun
     refine term_CheckSystem.G4 ?_
     push_cast
     refine nxP_of 0 m.length seen (encAr m) rfl rfl hlen.symm (fun hall=>?_) (fun k p hp hk=>?_)
     ·have hany:m.any (fun p=>marked p.1) = false:=by
       rw [List.any_eq_false]
       intro p hp
       obtain ⟨i,hi,rfl⟩:=List.getElem_of_mem hp
       have:=hun i (hall i hi)
       simp only [List.getD_eq_getElem?_getD,hi,List.getElem?_eq_getElem,Option.getD_some] at this
       simp [this]
      push_cast [hany]
      refine .of (slices_ContainsFunc_s_Rule_Rule_s (p:=extra) (g:=n_term_extra) (caps:=[]) (fun _=>rfl) r (by omega) fun x hx=>term_extra_s x (by have:=rbs_mem hx;omega)) ?_
      push_cast
      refine ⟨fun h=>pf_ret ?_,fun h=>pf_ret ?_⟩ <;> push_cast [term_CheckSystem.rs,h]
     ·have hkl:k < m.length:=by rw [← hlen];exact (List.getElem?_eq_some_iff.1 hp).1
      have hpe:p = (.str (m.getD k default).1,.int .i64 (m.getD k default).2):=by
       unfold encAr at hp
       rw [List.getElem?_map] at hp
       simp [hkl] at hp
       rw [← hp];simp [List.getD_eq_getElem?_getD,hkl]
      have hen:enV [.map (encAr m),.iter (some 0) m.length (seen++[k])] (.it 1) = some (.tup [p.1,p.2]):=by
       simp [enV,hlen,hp]
      subst hpe
      have hmem:m.getD k default∈m:=getD_mem hkl
      push_cast [hen]
      refine .of (term_Marked_s _ (hnm _ hmem)) ?_
      cases hmk:marked (m.getD k default).1 with
      | true =>
       have hany:m.any (fun p=>marked p.1) = true:=List.any_eq_true.2 ⟨_,hmem,hmk⟩
       unfold marked at hmk
       push_cast [hmk]
       refine pf_ret ?_
       push_cast [term_CheckSystem.rs,hany]
      | false =>
       have h2:=seen_snoc hnd hlt hk hkl
       have hlt':seen.length < m.length:=by
        rcases Nat.lt_or_ge seen.length m.length with h | h
        ·exact h
        ·exact (seen_all h hnd hlt hk hkl).elim
       have:=ih (seen++[k]) (by simp;omega) h2.1 h2.2 (fun i hi=>by
        rcases List.mem_append.1 hi with h | h
        ·exact hun i h
        ·simp only [List.mem_singleton] at h;subst h;exact hmk)
       unfold marked at hmk
       push_cast [hmk]
       exact this
   exact key (m.length+1) [] (by simp) List.nodup_nil (by simp) (by simp)
 ·rw [if_pos h1]
  push_cast [h1]
  refine pf_ret ?_
  push_cast [term_CheckSystem.rs]
end Go.Dw
end
section
namespace Go.Proofs
open Go.Shelf Go.RowKit Go.Lib
theorem run_copy_cellsZ {P:Program} (w:World) (dT sT ty elem:TypeId) (b o dLen dCap:Nat) (a:Addr) (sLen sCap z:Nat) (cs:List Value)
  (hu:P.underlying dT = some (.slice elem)) (hs:(P.info? elem).map (·.size) = some z) (hn:cs.length = Nat.min sLen dLen * z)
  (hsrc:∀ j v,cs[j]? = some v→w.cell? (a.add j) = some v) (hc:∀ j,j < cs.length→(w.cell? ⟨b,o+j,none⟩).isSome = true) (hf:∀ j,j < cs.length→w.frozen? ⟨b,o+j,none⟩ = false) (h1:∀ v∈cs,v.oneCell' = true) :
  (Builtin.copy_ #[dT,sT] ty #[.slice (some ⟨b,o,none⟩) dLen dCap,.slice (some a) sLen sCap]).run P w = .ok (goInt (Nat.min sLen dLen)) (w.setCells b o cs):=by
 have hl:=run_loadCells_list (P:=P) w a cs hsrc
 have hst:=run_storeCells_cells (P:=P) b o cs 0 w (by simpa using hc) (by simpa using hf) h1
 cases hq:P.info? elem with
 | none=>simp [hq] at hs
 | some i =>
  have hi:i.size = z:=by simpa [hq] using hs
  simp [Builtin.copy_,run_underlying hu,Builtin.lenOf,Builtin.firstCells,sizeOf,typeInfo,hq,hi,← hn,hl,hst]
theorem Tryz.bind_size:(Tryz.prog.info? 148).map (·.size) = some 4:=by kernel_rfl
set_option maxHeartbeats 4000000 in
set_option maxRecDepth 100000 in
theorem Tryz.ins_shift (b n c i vb vc:Nat) (cs vs:List Value) (w:World) (hi:i < n) (hroom:n+1≤c) (hc63:c≤9223372036854775807) (hvb:vb ≠ b)
  (hcl:cs.length = n * 4) (hvl:vs.length = 4)
  (hcs:∀ j v,cs[j]? = some v→w.cell? ⟨b,j,none⟩ = some v) (hsp:∀ j,j < (n+1) * 4→(w.cell? ⟨b,j,none⟩).isSome = true) (hfz:∀ j,j < (n+1) * 4→w.frozen? ⟨b,j,none⟩ = false)
  (hvs:∀ j v,vs[j]? = some v→w.cell? ⟨vb,j,none⟩ = some v) (h1c:∀ v∈cs,v.oneCell' = true) (h1v:∀ v∈vs,v.oneCell' = true)
  (tA tB:TypeId) (kA kB:Nat) (hsa:w.shape? vb = some (tA,kA)) (hsb:w.shape? b = some (tB,kB)) (hkB:kB ≠ 0) (hfa:w.frozen? ⟨vb,0,none⟩ = false) (hfe:w.frozen? ⟨vb,kA,none⟩ = false) :
  Calls Tryz.prog 297 #[.slice (some ⟨b,0,none⟩) n c,.int .i64 i,.slice (some ⟨vb,0,none⟩) 1 vc] w fun e w' =>
   e = .returned (.slice (some ⟨b,0,none⟩) (n+1) c)∧w' = (w.drew.setCells b ((i+1) * 4) (cs.drop (i * 4))).setCells b (i * 4) vs:=by
 have hz2:¬ ((i:Int) = (n:Int)):=by omega
 have hsz:=Tryz.bind_size
 have hov:∀ lb cb,(callFunc 308 #[.slice (some ⟨vb,0,none⟩) 1 vc,.slice (some ⟨b,(i+1) * 4,none⟩) lb cb]).run Tryz.prog w = .ok (.value (.bool false)) w:=fun lb cb=>by
  rw [run_callFunc_extern Tryz.func308 (by kernel_rfl) (by kernel_rfl) (by kernel_rfl) (e:=Extern.SlicesOverlaps.overlaps #[144,144] #[4]) (by kernel_rfl),
   Lib.run_overlaps_apart w 144 4 148 Tryz.underlying144 4 Tryz.sizeOf148 ⟨vb,0,none⟩ ⟨b,(i+1) * 4,none⟩ 1 vc lb cb hvb tA tB kA kB hsa hsb hkB hfa hfe]
  rfl
 have hdl:(cs.drop (i * 4)).length = (n - i) * 4:=by rw [List.length_drop,hcl];omega
 have hw1:IntKind.i64.wrap ((i:Int)+1) = (i:Int)+1:=by rw [IntKind.wrap_i64];omega
 have mixed:=Go.Dw.mixed
 have hb1:(0:Int)≤(i:Int)+1:=by omega
 have hin:i≤n:=by omega
 have htn:((i:Int)+1).toNat = i+1:=by omega
 have hb2:¬ (c = i+1):=by omega
 have hb3:(i:Int)≤(n:Int)+1:=by omega
 have hb4:¬ (c = i):=by omega
 have hcp1:∀ ty dc sc,(Builtin.copy_ #[144,144] ty #[.slice (some ⟨b,(i+1) * 4,none⟩) (n - i) dc,.slice (some ⟨b,i * 4,none⟩) (n+1 - i) sc]).run Tryz.prog w.drew = .ok (goInt (Nat.min (n+1 - i) (n - i))) (w.drew.setCells b ((i+1) * 4) (cs.drop (i * 4))):=fun ty dc sc =>
  run_copy_cellsZ w.drew _ _ ty 148 b ((i+1) * 4) (n - i) dc ⟨b,i * 4,none⟩ (n+1 - i) sc 4 (cs.drop (i * 4)) Tryz.underlying144 hsz (by rw [hdl];simp only [Nat.min_def];split <;> omega)
   (fun j v hj=>by rw [Addr.add_lit];exact hcs (i * 4+j) v (by rwa [List.getElem?_drop] at hj))
   (fun j hj=>hsp _ (by omega)) (fun j hj=>hfz _ (by omega)) (fun v hv=>h1c v (List.mem_of_mem_drop hv))
 obtain ⟨W1,hW1⟩:∃ W1,W1 = w.drew.setCells b ((i+1) * 4) (cs.drop (i * 4)):=⟨_,rfl⟩
 have hsp1:∀ k,k < (n+1) * 4→(W1.cell? ⟨b,k,none⟩).isSome = true:=fun k hk=>by
  rw [hW1]
  exact isSome_setCells b _ _ w.drew (fun j hj=>hsp ((i+1) * 4+j) (by rw [hdl] at hj;omega)) _ (hsp k hk)
 have hcp2:∀ (W:World),(∀ x,W.cell? x = W1.cell? x)→(∀ x,W.frozen? x = W1.frozen? x)→∀ ty dc,(Builtin.copy_ #[144,144] ty #[.slice (some ⟨b,i * 4,none⟩) (n+1 - i) dc,.slice (some ⟨vb,0,none⟩) 1 vc]).run Tryz.prog W = .ok (goInt (Nat.min 1 (n+1 - i))) (W.setCells b (i * 4) vs):=fun W hWc hWf ty dc =>
  run_copy_cellsZ W _ _ ty 148 b (i * 4) (n+1 - i) dc ⟨vb,0,none⟩ 1 vc 4 vs Tryz.underlying144 hsz (by rw [hvl];simp only [Nat.min_def];split <;> omega)
   (fun j v hj=>by
    rw [Addr.add_lit,hWc,hW1,World.cell?_setCells_out b _ _ _ _ (fun h _=>absurd h hvb),Nat.zero_add]
    exact hvs j v hj)
   (fun j hj=>by rw [hWc];exact hsp1 _ (by omega)) (fun j hj=>by rw [hWf,hW1,World.frozen?_setCells];exact hfz _ (by omega)) h1v
 rw [← hW1] at hcp1
 go_enter Tryz.func297,Tryz.ntmps297
 go_wp2_with (simp only [hov])
 go_region_law_o (refine step_copy_runI rfl _ _ 144 144 rfl _ _ (by simp [Act.eval,Act.put]) (by simp [Act.eval,Act.put]) (hcp1 _ _ _) ?_)
 go_wp2_with (at_builtin;refine wpList_copy_runI _ rfl _ _ 144 144 rfl _ _ rfl rfl (hcp2 _ (fun _=>rfl) (fun _=>rfl) _ _) ?_)
 go_ret
 first | exact ⟨rfl,rfl⟩ | exact ⟨rfl,by rw [hW1]⟩
end Go.Proofs
end
section
namespace Go.Proofs
open Go.Shelf Go.RowKit Go.Lib
def zBind:Value:=.agg #[.string ⟨#[]⟩,.string ⟨#[]⟩,.bool false,.slice none 0 0]
theorem Tryz.bind_info:(Tryz.prog.info? 148).map (fun i=>(i.zero,i.size,i.bytes)) = some (some zBind,4,64):=by kernel_rfl
theorem zeroCells_size (cs:Array Value) (k:Nat):(Builtin.zeroCells cs k).size = k * cs.size:=by
 simp [Builtin.zeroCells]
set_option maxHeartbeats 4000000 in
set_option maxRecDepth 100000 in
theorem Tryz.ins_grow (b n c i vb vc:Nat) (cs vs:List Value) (w:World) (hi:i < n) (hnc:n≤c) (hroom:c < n+1) (hbig:(n+1) * 64≤140737488355328)
  (hcl:cs.length = n * 4) (hvl:vs.length = 4)
  (hcs:∀ j v,cs[j]? = some v→w.cell? ⟨b,j,none⟩ = some v)
  (hvs:∀ j v,vs[j]? = some v→w.cell? ⟨vb,j,none⟩ = some v) (h1c:∀ v∈cs,v.oneCell' = true) (h1v:∀ v∈vs,v.oneCell' = true) :
  Calls Tryz.prog 297 #[.slice (some ⟨b,0,none⟩) n c,.int .i64 i,.slice (some ⟨vb,0,none⟩) 1 vc] w fun e w' =>
   e = .returned (.slice (some ⟨w.heap.size,0,none⟩) (n+1) (grownCap w (n+1) c 148)) ∧
   w' = (((w.alloc (.cells ((cs.take (i * 4)).toArray++Builtin.zeroCells zBind.cells (n+1 - i)++Builtin.zeroCells zBind.cells (grownCap w (n+1) c 148 - (n+1))) 148)).drew.setCells w.heap.size (i * 4) vs).drew).setCells w.heap.size ((i+1) * 4) (cs.drop (i * 4)):=by
 have mixed:=Go.Dw.mixed
 obtain ⟨i0,hi0,hz0,hzs,hzb⟩:=info_parts Tryz.bind_info
 have hz2:¬ ((i:Int) = (n:Int)):=by omega
 have hz3:(c:Int) < (n:Int)+1:=by omega
 have hsz:=Tryz.bind_size
 have hbw:b < w.heap.size:=block_lt_of_cell (hcs 0 _ (List.getElem?_eq_getElem (by omega)))
 have hvw:vb < w.heap.size:=block_lt_of_cell (hvs 0 _ (List.getElem?_eq_getElem (by omega)))
 have hkk:(n:Int)+1 - (i:Int) = ((n+1 - i:Nat):Int):=by omega
 have hik:i+(n+1 - i) = n+1:=by omega
 have hold:(Builtin.firstCells i0.size i (.slice (some ⟨b,0,none⟩) i c)).run Tryz.prog w.drew = .ok (cs.take (i * 4)).toArray w.drew:=by
  rw [hzs]
  exact run_firstCells_some w.drew 4 i ⟨b,0,none⟩ i c (cs.take (i * 4)) (by rw [List.length_take];omega) (fun j v hj=>by
   rw [Addr.add_lit,Nat.zero_add]
   rw [List.getElem?_take] at hj
   split at hj
   ·exact hcs j v hj
   ·cases hj)
 have hrz:∀ ty,(Builtin.append_ #[144,3] ty #[.slice (some ⟨b,0,none⟩) i c,.int .i64 ((n:Int)+1 - (i:Int))]).run Tryz.prog w =
   .ok (.slice (some ⟨w.heap.size,0,none⟩) (n+1) (grownCap w (n+1) c 148)) (w.drew.alloc (.cells ((cs.take (i * 4)).toArray++Builtin.zeroCells zBind.cells (n+1 - i)++Builtin.zeroCells zBind.cells (grownCap w (n+1) c 148 - (n+1))) 148)):=fun ty=>by
  have h:=Lib.run_append_grow_zeros w 144 3 ty 148 i0 _ .i64 .i64 Tryz.underlying144 Tryz.underlying3 hi0 hz0 (some ⟨b,0,none⟩) i c (cs.take (i * 4)) hold (n+1 - i) (by omega) (by omega) (by omega) (by omega) (by rw [hzb];omega) (by rw [hzb,hik];exact growslice_fits hroom hbig)
  rw [hik] at h
  rw [hkk]
  exact h
 obtain ⟨G,hG⟩:∃ G,G = grownCap w (n+1) c 148:=⟨_,rfl⟩
 obtain ⟨ROW,hROW⟩:∃ ROW:Array Value,ROW = (cs.take (i * 4)).toArray++Builtin.zeroCells zBind.cells (n+1 - i)++Builtin.zeroCells zBind.cells (G - (n+1)):=⟨_,rfl⟩
 rw [← hG] at hrz ⊢
 rw [← hROW] at hrz ⊢
 have hRl:(n+1) * 4≤ROW.size:=by
  rw [hROW]
  have hzc:zBind.cells.size = 4:=rfl
  simp only [Array.size_append,zeroCells_size,hzc,List.size_toArray,List.length_take,hcl]
  omega
 obtain ⟨W1,hW1⟩:∃ W1,W1 = w.drew.alloc (.cells ROW 148):=⟨_,rfl⟩
 rw [← hW1] at hrz
 have hN:∀ j,j < (n+1) * 4→(W1.cell? ⟨w.heap.size,j,none⟩).isSome = true:=fun j hj=>by
  rw [hW1,World.cell?_alloc_at (w:=w.drew) ROW _ w.heap.size j rfl,Array.getElem?_eq_getElem (by omega)];rfl
 have hNf:∀ j,W1.frozen? ⟨w.heap.size,j,none⟩ = false:=fun j=>by rw [hW1];exact World.frozen?_alloc_at (w:=w.drew) ROW _ w.heap.size j rfl
 have hOb:∀ j v,w.cell? ⟨b,j,none⟩ = some v→W1.cell? ⟨b,j,none⟩ = some v:=fun j v h=>by rw [hW1,World.cell?_alloc_past (w:=w.drew) _ b j hbw];exact h
 have hOv:∀ j v,w.cell? ⟨vb,j,none⟩ = some v→W1.cell? ⟨vb,j,none⟩ = some v:=fun j v h=>by rw [hW1,World.cell?_alloc_past (w:=w.drew) _ vb j hvw];exact h
 have hcpA:∀ (W:World),(∀ x,W.cell? x = W1.cell? x)→(∀ x,W.frozen? x = W1.frozen? x)→∀ ty dc,(Builtin.copy_ #[144,144] ty #[.slice (some ⟨w.heap.size,i * 4,none⟩) (n+1 - i) dc,.slice (some ⟨vb,0,none⟩) 1 vc]).run Tryz.prog W = .ok (goInt (Nat.min 1 (n+1 - i))) (W.setCells w.heap.size (i * 4) vs):=fun W hWc hWf ty dc =>
  run_copy_cellsZ W _ _ ty 148 w.heap.size (i * 4) (n+1 - i) dc ⟨vb,0,none⟩ 1 vc 4 vs Tryz.underlying144 hsz (by rw [hvl];simp only [Nat.min_def];split <;> omega)
   (fun j v hj=>by rw [Addr.add_lit,hWc,Nat.zero_add];exact hOv _ v (hvs j v hj))
   (fun j hj=>by rw [hWc];exact hN _ (by omega)) (fun j hj=>by rw [hWf];exact hNf _) h1v
 have hGn:n+1≤G:=by rw [hG];exact grownCap_ge w _ _ _
 have hG63:G≤9223372036854775807:=by
  have:=grownCap_le_maxLen w (n+1) c 148 (by unfold maxLen;omega)
  rw [← hG] at this
  unfold maxLen at this
  omega
 have hGi:¬ (G = i):=by omega
 have hGim:¬ (G = i+1):=by omega
 have hci:¬ (c = i):=by omega
 have hbN:b ≠ w.heap.size:=by omega
 have hdl:(cs.drop (i * 4)).length = (n - i) * 4:=by rw [List.length_drop,hcl];omega
 have hcpB:∀ (W:World),(∀ x,W.cell? x = (W1.setCells w.heap.size (i * 4) vs).cell? x)→(∀ x,W.frozen? x = (W1.setCells w.heap.size (i * 4) vs).frozen? x)→∀ ty dc sc,(Builtin.copy_ #[144,144] ty #[.slice (some ⟨w.heap.size,(i+1) * 4,none⟩) (n - i) dc,.slice (some ⟨b,i * 4,none⟩) (n - i) sc]).run Tryz.prog W = .ok (goInt (Nat.min (n - i) (n - i))) (W.setCells w.heap.size ((i+1) * 4) (cs.drop (i * 4))):=fun W hWc hWf ty dc sc =>
  run_copy_cellsZ W _ _ ty 148 w.heap.size ((i+1) * 4) (n - i) dc ⟨b,i * 4,none⟩ (n - i) sc 4 (cs.drop (i * 4)) Tryz.underlying144 hsz (by rw [hdl];simp only [Nat.min_def];split <;> omega)
   (fun j v hj=>by
    rw [Addr.add_lit,hWc,World.cell?_setCells_out _ _ _ _ _ (fun h _=>absurd h hbN)]
    exact hOb _ v (hcs (i * 4+j) v (by rwa [List.getElem?_drop] at hj)))
   (fun j hj=>by rw [hWc];exact isSome_setCells _ _ _ W1 (fun t ht=>hN (i * 4+t) (by omega)) _ (hN ((i+1) * 4+j) (by omega)))
   (fun j hj=>by rw [hWf,World.frozen?_setCells];exact hNf _) (fun v hv=>h1c v (List.mem_of_mem_drop hv))
 subst hW1
 have hE1:∀ x,((w.alloc (.cells ROW 148)).drew).cell? x = (w.drew.alloc (.cells ROW 148)).cell? x:=fun x=>rfl
 have hE2:∀ x,((w.alloc (.cells ROW 148)).drew).frozen? x = (w.drew.alloc (.cells ROW 148)).frozen? x:=fun x=>rfl
 have hF1:∀ x,(((w.alloc (.cells ROW 148)).drew.setCells w.heap.size (i * 4) vs).drew).cell? x = ((w.drew.alloc (.cells ROW 148)).setCells w.heap.size (i * 4) vs).cell? x:=fun x=>rfl
 have hF2:∀ x,(((w.alloc (.cells ROW 148)).drew.setCells w.heap.size (i * 4) vs).drew).frozen? x = ((w.drew.alloc (.cells ROW 148)).setCells w.heap.size (i * 4) vs).frozen? x:=fun x=>rfl
 have hw1:IntKind.i64.wrap ((i:Int)+1) = (i:Int)+1:=by rw [IntKind.wrap_i64];omega
 have hb1:(0:Int)≤(i:Int)+1:=by omega
 have hin:i≤n:=by omega
 have htn:((i:Int)+1).toNat = i+1:=by omega
 have hb3:(i:Int)≤(n:Int):=by omega
 clear hkk hik hold hROW hG hRl
 go_enter Tryz.func297,Tryz.ntmps297
 go_wp2_with (first
  | (at_builtin;refine Lib.wpList_append_run _ rfl _ _ _ _ rfl _ _ rfl rfl _ _ (hrz _) ?_)
  | (at_builtin;refine wpList_copy_runI _ rfl _ _ 144 144 rfl _ _ rfl rfl (hcpA _ hE1 hE2 _ _) ?_)
  | (at_builtin;refine wpList_copy_runI _ rfl _ _ 144 144 rfl _ _ rfl rfl (hcpB _ (fun _=>rfl) (fun _=>rfl) _ _ _) ?_))
 go_region_law_o (refine step_copy_runI rfl _ _ 144 144 rfl (.slice (some ⟨w.heap.size,(i+1) * 4,none⟩) (n - i) (G - (i+1))) (.slice (some ⟨b,i * 4,none⟩) (n - i) (c - i)) (by simp [Act.eval,Act.put]) (by simp [Act.eval,Act.put]) (hcpB _ hF1 hF2 3 (G - (i+1)) (c - i)) ?_)
 go_wp2
 go_ret
 exact ⟨rfl,rfl⟩
end Go.Proofs
end
section
namespace Go.Proofs
open Go.Shelf Go.RowKit Go.Lib
set_option maxHeartbeats 4000000 in
set_option maxRecDepth 100000 in
theorem Tryz.ins_end_grow (base:Option Addr) (n c vb vc:Nat) (cs vs:List Value) (w:World) (hnc:n≤c) (hroom:c < n+1) (hbig:(n+1) * 64≤140737488355328)
  (hcl:cs.length = n * 4) (hvl:vs.length = 4) (hnil:base = none→n = 0)
  (hcs:∀ a,base = some a→∀ j v,cs[j]? = some v→w.cell? (a.add j) = some v)
  (hvs:∀ j v,vs[j]? = some v→w.cell? ⟨vb,j,none⟩ = some v) (h1v:∀ v∈vs,v.oneCell' = true) :
  Calls Tryz.prog 297 #[.slice base n c,.int .i64 n,.slice (some ⟨vb,0,none⟩) 1 vc] w fun e w' =>
   e = .returned (.slice (some ⟨w.heap.size,0,none⟩) (n+1) (grownCap w (n+1) c 148)) ∧
   w' = w.drew.alloc (.cells ((cs++vs).toArray++Builtin.zeroCells zBind.cells (grownCap w (n+1) c 148 - (n+1))) 148):=by
 have mixed:=Go.Dw.mixed
 obtain ⟨i0,hi0,hz0,hzs,hzb⟩:=info_parts Tryz.bind_info
 have hsrc:Src Tryz.prog i0.size 144 (.slice (some ⟨vb,0,none⟩) 1 vc) 1 vs w:=by
  rw [hzs]
  exact Src.ofSlice w Tryz.underlying144 ⟨vb,0,none⟩ 1 vc vs (by omega) (fun j u hj=>by rw [Addr.add_lit,Nat.zero_add];exact hvs j u hj) h1v
 have hold:(Builtin.firstCells i0.size n (.slice base n c)).run Tryz.prog w.drew = .ok cs.toArray w.drew:=by
  rw [hzs]
  cases base with
  | none =>
   have h0:=hnil rfl
   subst h0
   have hc0:cs = []:=List.length_eq_zero_iff.1 (by omega)
   rw [hc0]
   exact run_firstCells_none w.drew 4 0 0 c
  | some a=>exact run_firstCells_some w.drew 4 n a n c cs (by omega) (fun j v hj=>hcs a rfl j v hj)
 have hrun:∀ ty,(Builtin.append_ #[144,144] ty #[.slice base n c,.slice (some ⟨vb,0,none⟩) 1 vc]).run Tryz.prog w = .ok (.slice (some ⟨w.heap.size,0,none⟩) (n+1) (grownCap w (n+1) c 148)) (w.drew.alloc (.cells ((cs++vs).toArray++Builtin.zeroCells zBind.cells (grownCap w (n+1) c 148 - (n+1))) 148)):=fun ty =>
  run_append_grow_src w 144 144 ty 148 i0 zBind Tryz.underlying144 hi0 hz0 base n c cs hold _ 1 vs hsrc hroom (by omega) (by rw [hzb];exact growslice_fits hroom hbig)
 obtain ⟨ROW,hROW⟩:∃ ROW:Array Value,ROW = (cs++vs).toArray++Builtin.zeroCells zBind.cells (grownCap w (n+1) c 148 - (n+1)):=⟨_,rfl⟩
 rw [← hROW] at hrun ⊢
 clear hROW
 go_enter Tryz.func297,Tryz.ntmps297
 cases base with
 | none =>
  have h0:=hnil rfl
  subst h0
  go_wp2_with (at_builtin;refine Lib.wpList_append_run _ rfl _ _ _ _ rfl _ _ rfl rfl _ _ (hrun _) ?_)
  go_ret
  exact ⟨rfl,rfl⟩
 | some a =>
  obtain ⟨ab,ao,asp⟩:=a
  go_wp2_with (at_builtin;refine Lib.wpList_append_run _ rfl _ _ _ _ rfl _ _ rfl rfl _ _ (hrun _) ?_)
  all_goals (go_ret;exact ⟨rfl,rfl⟩)
set_option maxHeartbeats 4000000 in
set_option maxRecDepth 100000 in
theorem Tryz.ins_end_room (b n c vb vc:Nat) (vs:List Value) (w:World) (hroom:n+1≤c) (hc63:c≤9223372036854775807)
  (hvl:vs.length = 4) (hsp:∀ j,j < 4→(w.cell? ⟨b,n * 4+j,none⟩).isSome = true) (hfz:∀ j,j < 4→w.frozen? ⟨b,n * 4+j,none⟩ = false)
  (hvs:∀ j v,vs[j]? = some v→w.cell? ⟨vb,j,none⟩ = some v) (h1v:∀ v∈vs,v.oneCell' = true) :
  Calls Tryz.prog 297 #[.slice (some ⟨b,0,none⟩) n c,.int .i64 n,.slice (some ⟨vb,0,none⟩) 1 vc] w fun e w' =>
   e = .returned (.slice (some ⟨b,0,none⟩) (n+1) c)∧w' = w.setCells b (n * 4) vs:=by
 have mixed:=Go.Dw.mixed
 obtain ⟨i0,hi0,hz0,hzs,hzb⟩:=info_parts Tryz.bind_info
 have hrun:∀ ty,(Builtin.append_ #[144,144] ty #[.slice (some ⟨b,0,none⟩) n c,.slice (some ⟨vb,0,none⟩) 1 vc]).run Tryz.prog w = .ok (.slice (some ⟨b,0,none⟩) (n+1) c) (w.setCells b (n * 4) vs):=fun ty=>by
  have h:=run_append_room_cells (P:=Tryz.prog) w 144 ty 148 i0 Tryz.underlying144 hi0 b 0 n c ⟨vb,0,none⟩ 1 vc vs (by rw [hzs];omega) (fun j u hj=>by rw [Addr.add_lit,Nat.zero_add];exact hvs j u hj) h1v hroom
   (fun j hj=>by rw [hzs,Nat.zero_add];exact hsp j (by omega)) (fun j hj=>by rw [hzs,Nat.zero_add];exact hfz j (by omega))
  rw [hzs,Nat.zero_add] at h
  exact h
 obtain ⟨W,hW⟩:∃ W,W = w.setCells b (n * 4) vs:=⟨_,rfl⟩
 rw [← hW] at hrun ⊢
 clear hW
 go_enter Tryz.func297,Tryz.ntmps297
 go_wp2_with (at_builtin;refine Lib.wpList_append_run _ rfl _ _ _ _ rfl _ _ rfl rfl _ _ (hrun _) ?_)
 go_ret
 exact ⟨rfl,rfl⟩
end Go.Proofs
end
section
namespace Go.Dw
open Go.Proofs Go.Sort Go.Lib
theorem heap_setCells (b:Nat):∀ (us:List Value) (o:Nat) (w:World),(w.setCells b o us).heap.size = w.heap.size∧(∀ b',b' ≠ b→(w.setCells b o us).heap[b']? = w.heap[b']?) ∧
  (∀ vs t fr,w.heap[b]? = some (.cells vs t fr)→∃ vs1,(w.setCells b o us).heap[b]? = some (.cells vs1 t fr)∧vs1.size = vs.size)∧(w.setCells b o us).os = w.os∧(w.setCells b o us).tape = w.tape∧(w.setCells b o us).output = w.output
 | [],o,w=>⟨rfl,fun _ _=>rfl,fun vs t fr h=>⟨vs,h,rfl⟩,rfl,rfl,rfl⟩
 | u :: us,o,w=>by
  obtain ⟨h1,h2,h3,h4,h5,h6⟩:=heap_setCells b us (o+1) (w.setCell ⟨b,o,none⟩ u)
  have e1:(w.setCell ⟨b,o,none⟩ u).heap.size = w.heap.size:=by rw [setCell_eq];simp [mapBlock]
  have e2:∀ b',b' ≠ b→(w.setCell ⟨b,o,none⟩ u).heap[b']? = w.heap[b']?:=fun b' hb=>by
   rw [setCell_eq];simp only [mapBlock];rw [Array.getElem?_modify,if_neg (Ne.symm hb)]
  refine ⟨by rw [World.setCells,h1,e1],fun b' hb=>by rw [World.setCells,h2 b' hb,e2 b' hb],fun vs t fr h=>?_,?_,?_,?_⟩
  ·have:(w.setCell ⟨b,o,none⟩ u).heap[b]? = some (.cells (vs.setIfInBounds o u) t fr):=by
    rw [setCell_eq];simp only [mapBlock];rw [Array.getElem?_modify,if_pos rfl,h];rfl
   obtain ⟨vs1,q1,q2⟩:=h3 _ _ _ this
   exact ⟨vs1,by rw [World.setCells];exact q1,by rw [q2];simp⟩
  ·rw [World.setCells,h4,setCell_eq];rfl
  ·rw [World.setCells,h5,setCell_eq];rfl
  ·rw [World.setCells,h6,setCell_eq];rfl
theorem drawn_setCells (b:Nat):∀ (us:List Value) (o:Nat) (w:World),(w.setCells b o us).drawn = w.drawn
 | [],o,w=>rfl
 | u :: us,o,w=>by rw [World.setCells,drawn_setCells b us,setCell_eq];rfl
theorem ins_fin {c:Cx} (hc:Conc c) {els:List (List V)} {new:List V} {e i n z:Nat} (hH:c.H = [.row e z els,.arr e z 1]) (hn:els.length = n) (hi:i≤n) {w':World} {bN kN:Nat} {vs1:Array Value} {us:List Value}
  (hb:(∃ k,c.ρ 0 = some (bN,k)) ∨ c.w.heap.size≤bN) (hmax:n+1≤maxEls)
  (h1:w'.heap[bN]? = some (.cells vs1 e (0,0))) (h2:vs1.size = kN * z) (h3:n+1≤kN) (h4:kN≤capMax)
  (hold:∀ (l:Nat) (el:List V),els[l]? = some el→el.length = z∧∀ (j:Nat) (x:V),el[j]? = some x→∃ v,vs1[(if l < i then l else l+1) * z+j]? = some v∧oneC v = true∧rep c x v)
  (hnew:new.length = z∧∀ (j:Nat) (x:V),new[j]? = some x→∃ v,vs1[i * z+j]? = some v∧oneC v = true∧rep c x v)
  (hoth:∀ b',b' < c.w.heap.size→b' ≠ bN→w'.heap[b']? = c.w.heap[b']?) (hsz:c.w.heap.size≤w'.heap.size) (hos:w'.os = c.w.os) (htp:w'.tape = c.w.tape) (hou:w'.output = c.w.output) (hdr:c.w.drawn≤w'.drawn) :
  ∃ v x c',Ending.returned (.slice (some ⟨bN,0,none⟩) (n+1) kN) = .returned v∧c'.w = w'∧(x = .rw 0 z (n+1)∧c'.H = [.row e z (els.take i++new :: els.drop i),.arr e z 1])∧Conc c'∧rep c' x v∧Fr c c':=by
 have hH0:c.H[0]? = some (.row e z els):=by rw [hH];rfl
 have hH1:c.H[1]? = some (.arr e z 1):=by rw [hH];rfl
 have hHl:c.H.length = 2:=by rw [hH];rfl
 obtain ⟨o1,o2⟩:=hc.obj 0 _ hH0
 have hnok:∀ o,¬ c.ok bN o:=fun o ho=>by
  rcases hb with ⟨k,hk⟩ | hb
  ·obtain ⟨_,_,_,_,_,h5,_⟩:=o2 bN k hk;exact h5 o ho
  ·have:=hc.okLt _ _ ho;omega
 have h1ne:∀ b' k',c.ρ 1 = some (b',k')→b' ≠ bN∧b' < c.w.heap.size:=fun b' k' h=>by
  have hlt:=own_lt hc (show 1 < c.H.length by omega) h
  refine ⟨fun e1=>?_,hlt⟩
  subst e1
  rcases hb with ⟨k,hk⟩ | hb
  ·exact absurd (hc.inj 0 1 b' k k' (by omega) (by omega) hk h) (by decide)
  ·omega
 generalize hc':(⟨w',c.ok,upd c.ρ 0 (some (bN,kN)),[.row e z (els.take i++new :: els.drop i),.arr e z 1]⟩:Cx) = c'
 have hw:c'.w = w':=by rw [← hc']
 have hk':c'.ok = c.ok:=by rw [← hc']
 have hρ0:c'.ρ 0 = some (bN,kN):=by rw [← hc'];simp [upd]
 have hρ1:∀ j,j ≠ 0→c'.ρ j = c.ρ j:=fun j hj=>by rw [← hc'];exact upd_ne hj
 have hH':c'.H = [.row e z (els.take i++new :: els.drop i),.arr e z 1]:=by rw [← hc']
 have hlen':(els.take i++new :: els.drop i).length = n+1:=by simp;omega
 have hf:Fr c c':=by
  refine ⟨fun _ _ h=>by rw [hk'];exact h,fun b' o h=>?_,by rw [hw];exact hsz,fun _ _ h=>.inl (by rw [hk'] at h;exact h),fun b' hlt hno=>?_,fun b' hb'=>?_,fun j o hj=>?_,by rw [hw];exact hos,by rw [hw];exact htp,by rw [hw];exact hou,by rw [hw];exact hdr⟩
  ·have hne:b' ≠ bN:=fun e=>hnok o (e ▸ h)
   simp only [World.cell?,hw]
   rw [hoth b' (hc.okLt _ _ h) hne]
  ·rw [hw]
   refine hoth b' hlt fun e1=>?_
   subst e1
   rcases hb with ⟨k,hk⟩ | hb
   ·exact hno ⟨0,k,by omega,hk⟩
   ·omega
  ·obtain ⟨j,k',hj,hr⟩:=hb'
   have hj:j < 2:=by rw [hH'] at hj;simpa using hj
   by_cases e0:j = 0
   ·subst e0
    rw [hρ0] at hr;cases hr
    rcases hb with ⟨k,hk⟩ | hb
    ·exact .inl ⟨0,k,by omega,hk⟩
    ·exact .inr hb
   ·rw [hρ1 j e0] at hr
    exact .inl ⟨j,k',by omega,hr⟩
  ·rw [hH] at hj
   match j,hj with
   | 0,hj =>
    simp only [List.getElem?_cons_zero,Option.some.injEq] at hj
    subst hj
    exact ⟨.row e z (els.take i++new :: els.drop i),by rw [hH'];rfl,rfl,rfl,by omega,fun h=>by omega⟩
   | 1,hj =>
    simp only [List.getElem?_cons_succ,List.getElem?_cons_zero,Option.some.injEq] at hj
    subst hj
    exact ⟨.arr e z 1,by rw [hH'];rfl,rfl,rfl,Nat.le_refl _,fun _=>hρ1 1 (by omega)⟩
   | j+2,hj=>simp at hj
 refine ⟨_,_,c',rfl,hw,⟨rfl,hH'⟩,?_,?_,hf⟩
 ·refine ⟨fun j1 j2 b' k1 k2 q1 q2 q3 q4=>?_,fun b' o h=>?_,fun j o hj=>?_,hc.globFr hf⟩
  ·rw [hH'] at q1 q2
   simp only [List.length_cons,List.length_nil] at q1 q2
   by_cases e1:j1 = 0 <;> by_cases e2:j2 = 0
   ·omega
   ·have:j2 = 1:=by omega
    subst e1 this
    rw [hρ0] at q3;cases q3
    rw [hρ1 1 (by omega)] at q4
    exact absurd rfl (h1ne _ _ q4).1
   ·have:j1 = 1:=by omega
    subst e2 this
    rw [hρ0] at q4;cases q4
    rw [hρ1 1 (by omega)] at q3
    exact absurd rfl (h1ne _ _ q3).1
   ·omega
  ·rw [hk'] at h;rw [hw];have:=hc.okLt _ _ h;omega
  ·rw [hH'] at hj
   match j,hj with
   | 0,hj =>
    simp only [List.getElem?_cons_zero,Option.some.injEq] at hj
    subst hj
    refine ⟨fun h=>(by rw [hρ0] at h;cases h),fun b' k' h=>?_⟩
    rw [hρ0] at h;cases h
    refine ⟨vs1,by rw [hw];exact h1,h2,by omega,h4,fun o ho=>hnok o (by rw [hk'] at ho;exact ho),fun l el hl=>?_⟩
    rw [List.getElem?_append] at hl
    have hti:(els.take i).length = i:=by rw [List.length_take];omega
    rw [hti] at hl
    by_cases e1:l < i
    ·rw [if_pos e1,List.getElem?_take,if_pos e1] at hl
     obtain ⟨q1,q2⟩:=hold l el hl
     refine ⟨q1,fun j x hx=>?_⟩
     obtain ⟨v,r1,r2,r3⟩:=q2 j x hx
     rw [if_pos e1] at r1
     exact ⟨v,r1,r2,rep_fr hf r3⟩
    ·rw [if_neg e1] at hl
     by_cases e2:l = i
     ·subst e2
      rw [Nat.sub_self,List.getElem?_cons_zero] at hl
      cases hl
      refine ⟨hnew.1,fun j x hx=>?_⟩
      obtain ⟨v,r1,r2,r3⟩:=hnew.2 j x hx
      exact ⟨v,r1,r2,rep_fr hf r3⟩
     ·obtain ⟨m,rfl⟩:∃ m,l = m+1:=⟨l - 1,by omega⟩
      have e3:m+1 - i = (m - i)+1:=by omega
      rw [e3,List.getElem?_cons_succ,List.getElem?_drop,show i+(m - i) = m by omega] at hl
      obtain ⟨q1,q2⟩:=hold m el hl
      refine ⟨q1,fun j x hx=>?_⟩
      obtain ⟨v,r1,r2,r3⟩:=q2 j x hx
      rw [if_neg (by omega)] at r1
      exact ⟨v,r1,r2,rep_fr hf r3⟩
   | 1,hj =>
    simp only [List.getElem?_cons_succ,List.getElem?_cons_zero,Option.some.injEq] at hj
    subst hj
    obtain ⟨a1,a2⟩:=hc.obj 1 _ hH1
    refine ⟨fun h=>a1 (by rw [← hρ1 1 (by omega)];exact h),fun b' k' h=>?_⟩
    rw [hρ1 1 (by omega)] at h
    obtain ⟨ne,hlt⟩:=h1ne _ _ h
    obtain ⟨vs,r1,r2,r3,r4,r5⟩:=a2 b' k' h
    exact ⟨vs,by rw [hw,hoth b' hlt ne];exact r1,r2,r3,r4,fun o ho=>by rw [hk'];exact r5 o ho⟩
   | j+2,hj=>simp at hj
 ·refine ⟨by rw [hH'];simp,⟨_,_,rfl,hmax,.inr ⟨_,_,rfl⟩⟩,fun e' sz' els' hh=>?_⟩
  rw [hH'] at hh
  simp only [List.getElem?_cons_zero,Option.some.injEq,Ob.row.injEq] at hh
  obtain ⟨rfl,rfl,rfl⟩:=hh
  exact ⟨rfl,by omega,fun _=>by rw [hρ0];rfl⟩
end Go.Dw
end
section
namespace Go.Dw
open Go.Proofs Go.Sort Go.Lib
theorem ins_in (args:Array Value) (w:World):(callFunc 297 args).run Tryz.prog w = .ok (.enter 297 args) w:=enters_of (P:=Tryz.prog) Tryz.func297 (by kernel_rfl) rfl args w
theorem ins_go {c:Cx} (hc:Conc c) {els:List (List V)} {new:List V} {e i n:Nat} (hH:c.H = [.row e 4 els,.arr e 4 1]) (hn:els.length = n) (hi:i≤n) {w':World} {bN kN:Nat} {vs0 vs1:Array Value} {us cs:List Value}
  (hb:(∃ k,c.ρ 0 = some (bN,k)) ∨ c.w.heap.size≤bN) (hmax:n+1≤maxEls) (h1:w'.heap[bN]? = some (.cells vs1 e (0,0))) (h2:vs1.size = kN * 4) (h3:n+1≤kN) (h4:kN≤capMax)
  (hrow:rowOk c 4 els vs0) (hcs:∀ j,j < n * 4→cs[j]? = vs0[j]?) (hus:new.length = 4∧∀ (j:Nat) (x:V),new[j]? = some x→∃ v,us[j]? = some v∧oneC v = true∧rep c x v)
  (hcell:∀ j,j < (n+1) * 4→vs1[j]? = if j < i * 4 then cs[j]? else if j < i * 4+4 then us[j - i * 4]? else cs[j - 4]?)
  (hoth:∀ b',b' < c.w.heap.size→b' ≠ bN→w'.heap[b']? = c.w.heap[b']?) (hsz:c.w.heap.size≤w'.heap.size) (hos:w'.os = c.w.os) (htp:w'.tape = c.w.tape) (hou:w'.output = c.w.output) (hdr:c.w.drawn≤w'.drawn:=by first | exact Nat.le_refl _ | exact Nat.le_succ _ | (simp only [drawn_setCells];first | exact Nat.le_refl _ | exact Nat.le_succ _) | (subst_vars;simp only [World.drew,World.alloc,drawn_setCells];omega)) :
  ∃ v x c',Ending.returned (.slice (some ⟨bN,0,none⟩) (n+1) kN) = .returned v∧c'.w = w'∧(x = .rw 0 4 (n+1)∧c'.H = [.row e 4 (els.take i++new :: els.drop i),.arr e 4 1])∧Conc c'∧rep c' x v∧Fr c c':=by
 refine ins_fin hc hH hn hi hb hmax h1 h2 h3 h4 (fun l el hl=>?_) ⟨hus.1,fun j x hx=>?_⟩ hoth hsz hos htp hou hdr (us:=us)
 ·obtain ⟨q1,q2⟩:=hrow l el hl
  refine ⟨q1,fun j x hx=>?_⟩
  obtain ⟨v,r1,r2,r3⟩:=q2 j x hx
  have hj:j < 4:=by rw [← q1];exact (List.getElem?_eq_some_iff.1 hx).1
  have hln:l < n:=by rw [← hn];exact (List.getElem?_eq_some_iff.1 hl).1
  refine ⟨v,?_,r2,r3⟩
  by_cases e1:l < i
  ·rw [if_pos e1,hcell _ (by omega),if_pos (by omega),hcs _ (by omega)];exact r1
  ·rw [if_neg e1,hcell _ (by omega),if_neg (by omega),if_neg (by omega),hcs _ (by omega),show (l+1) * 4+j - 4 = l * 4+j by omega];exact r1
 ·obtain ⟨v,r1,r2,r3⟩:=hus.2 j x hx
  have hj:j < 4:=by rw [← hus.1];exact (List.getElem?_eq_some_iff.1 hx).1
  refine ⟨v,?_,r2,r3⟩
  rw [hcell _ (by omega),if_neg (by omega),if_pos (by omega),show i * 4+j - i * 4 = j by omega];exact r1
theorem insert_row (els:List (List V)) (new:List V) (i n:Nat) (hn:els.length = n) (hi:i≤n) (hbig:(n+1) * 64≤maxEls) :
  Spec prog n_slices_Insert_s_Bind_Bind [.rw 0 4 n,.int .i64 i,.own 1 4 [new]] [.row t_Bind 4 els,.arr t_Bind 4 1] fun x H'=>x = .rw 0 4 (n+1)∧H' = [.row t_Bind 4 (els.take i++new :: els.drop i),.arr t_Bind 4 1]:=by
 intro c vs hH hc hr
 obtain ⟨v0,vs',rfl,hv0,v1,vs'',rfl,hv1,v2,vs3,rfl,hv2,hvn⟩:=hr
 have hvn:vs3 = []:=hvn
 subst hvn
 have hv1:v1 = .int .i64 i:=hv1
 subst hv1
 left
 have hH0:c.H[0]? = some (.row t_Bind 4 els):=by rw [hH];rfl
 have hH1:c.H[1]? = some (.arr t_Bind 4 1):=by rw [hH];rfl
 refine ⟨ins_in _ _,?_⟩
 obtain ⟨hp,_,q2⟩:=hv2
 have hcur:=(q2 _ _ _ hH1).2.2 rfl
 obtain ⟨a',c',b',o',e3,_,_,_,e4,e5⟩:=hp
 obtain ⟨us,s1,s2,s3⟩:=prepE_vals e5
 have he4:=e4.resolve_left (by simp)
 subst e3 he4
 cases hρ1:c.ρ 1 with
 | none=>rw [hρ1] at hcur;cases hcur
 | some bk =>
 obtain ⟨vb,kv⟩:=bk
 rw [hρ1] at hcur
 have hcur:Value.slice (some ⟨b',o',none⟩) 1 c' = .slice (some ⟨vb,0,none⟩) 1 kv:=hcur
 simp only [Value.slice.injEq,Option.some.injEq,Addr.mk.injEq,and_true,true_and] at hcur
 obtain ⟨⟨rfl,rfl⟩,rfl⟩:=hcur
 obtain ⟨va,va1,va2,va3,va4,_⟩:=(hc.obj 1 _ hH1).2 _ _ hρ1
 have hus4:us.length = 4:=by simpa using s1
 have husc:∀ j v,us[j]? = some v→c.w.cell? ⟨b',j,none⟩ = some v:=fun j v hj=>by have:=(s2 j v hj).1;simpa using this
 have hus1:∀ v∈us,v.oneCell' = true:=fun v hv=>by
  obtain ⟨j,hj,e⟩:=List.getElem_of_mem hv
  rw [oneC_eq];exact (s2 j v (by rw [List.getElem?_eq_getElem hj,e])).2
 have hnewf:new.length = 4∧∀ (j:Nat) (x:V),new[j]? = some x→∃ v,us[j]? = some v∧oneC v = true∧rep c x v:=by
  obtain ⟨t1,t2⟩:=s3 0 new rfl
  refine ⟨t1,fun j x hx=>?_⟩
  obtain ⟨v,u1,u2⟩:=t2 j x hx
  have u1:us[j]? = some v:=by simpa using u1
  exact ⟨v,u1,(s2 j v u1).2,rep_of_prep u2⟩
 have hvlt:b' < c.w.heap.size:=(Array.getElem?_eq_some_iff.1 va1).1
 have hmx:maxEls = 140737488355328:=rfl
 have hcm:capMax = 9223372036854775807:=rfl
 obtain ⟨_,⟨a0,k0,hv0,hle0,_⟩,q3⟩:=hv0
 have hcur0:=(q3 _ _ _ hH0).2.2 hn
 obtain ⟨o1,o2⟩:=hc.obj 0 _ hH0
 cases hρ0:c.ρ 0 with
 | none =>
  have hels:=o1 hρ0
  subst hels
  have hn0:n = 0:=hn.symm
  subst hn0
  have hi0:i = 0:=by omega
  subst hi0
  rw [hρ0] at hcur0
  have hcur0:v0 = .slice none 0 0:=hcur0
  subst hcur0
  refine (Tryz.ins_end_grow none 0 0 b' c' [] us c.w (by omega) (by omega) (by omega) rfl hus4 (fun _=>rfl) (fun a h=>by cases h) husc hus1).mono ?_
  rintro e w' ⟨rfl,rfl⟩
  have hG:=grownCap_ge c.w 1 0 148
  have hG2:=grownCap_le_maxLen c.w 1 0 148 (by unfold maxLen;omega)
  generalize grownCap c.w (0+1) 0 148 = G at hG hG2 ⊢
  refine ins_go hc hH rfl (Nat.le_refl 0) (bN:=c.w.heap.size) (kN:=G) (vs0:=#[]) (vs1:=([]++us).toArray++Builtin.zeroCells zBind.cells (G - 1)) (us:=us) (cs:=[]) (.inr (Nat.le_refl _)) (by omega) ?_ ?_ hG (by unfold maxLen at hG2;omega) (fun l el hl=>by simp at hl) (fun j hj=>by omega) hnewf (fun j hj=>?_) (fun b1 h1 h2=>?_) ?_ rfl rfl rfl
  ·show (c.w.heap.push _)[c.w.heap.size]? = _
   rw [Array.getElem?_push_size];rfl
  ·have hzc:zBind.cells.size = 4:=rfl
   simp only [Array.size_append,zeroCells_size,hzc,List.size_toArray,List.nil_append,hus4];omega
  ·rw [if_neg (by omega),if_pos (by omega),Array.getElem?_append_left (by simp;omega)]
   simp
  ·exact heap_push_lt h1
  ·show c.w.heap.size≤(c.w.heap.push _).size
   rw [Array.size_push];omega
 | some bk =>
 obtain ⟨b,k⟩:=bk
 rw [hρ0] at hcur0
 have hcur0:v0 = .slice (some ⟨b,0,none⟩) n k:=hcur0
 subst hcur0
 obtain ⟨vs0,r1,r2,r3,r4,r5,r6⟩:=o2 b k hρ0
 rw [hn] at r3
 have hblt:b < c.w.heap.size:=(Array.getElem?_eq_some_iff.1 r1).1
 have hvb:b' ≠ b:=fun e=>by
  have:=hc.inj 0 1 b k c' (by rw [hH];simp) (by rw [hH];simp) hρ0 (e ▸ hρ1)
  omega
 generalize hcs:vs0.toList.take (n * 4) = cs
 have hcsl:cs.length = n * 4:=by rw [← hcs,List.length_take,Array.length_toList,r2];omega
 have hcsg:∀ j,j < n * 4→cs[j]? = vs0[j]?:=fun j hj=>by rw [← hcs,List.getElem?_take,if_pos hj];simp
 have hcell:∀ j,c.w.cell? ⟨b,j,none⟩ = vs0[j]?:=fun j=>by simp only [World.cell?,r1];rfl
 have hfz:∀ j,c.w.frozen? ⟨b,j,none⟩ = false:=fun j=>by simp [World.frozen?,r1]
 have hcsc:∀ j v,cs[j]? = some v→c.w.cell? ⟨b,j,none⟩ = some v:=fun j v hj=>by
  have hjl:j < n * 4:=by rw [← hcsl];exact (List.getElem?_eq_some_iff.1 hj).1
  rw [hcell,← hcsg j hjl];exact hj
 have hcs1:∀ v∈cs,v.oneCell' = true:=fun v hv=>by
  obtain ⟨j,hj,e⟩:=List.getElem_of_mem hv
  have hjl:j < n * 4:=by rw [← hcsl];exact hj
  have hl:j / 4 < els.length:=by omega
  obtain ⟨t1,t2⟩:=r6 (j / 4) els[j / 4] (List.getElem?_eq_getElem hl)
  obtain ⟨u,u1,u2,_⟩:=t2 (j % 4) (els[j / 4][j % 4]'(by omega)) (List.getElem?_eq_getElem (by omega))
  rw [show j / 4 * 4+j % 4 = j by omega,← hcsg j hjl,List.getElem?_eq_getElem hj,e] at u1
  cases u1
  rw [oneC_eq];exact u2
 have hsp:k ≥ n+1→∀ j,j < (n+1) * 4→(c.w.cell? ⟨b,j,none⟩).isSome = true:=fun hk j hj=>by
  rw [hcell,Array.getElem?_eq_getElem (by omega)];rfl
 by_cases hin:i = n
 ·subst hin
  by_cases hk:i+1≤k
  ·refine (Tryz.ins_end_room b i k b' c' us c.w hk (by omega) hus4 (fun j hj=>hsp hk _ (by omega)) (fun j _=>hfz _) husc hus1).mono ?_
   rintro e w' ⟨rfl,rfl⟩
   obtain ⟨g1,g2,g3,g4,g5,g6⟩:=heap_setCells b us (i * 4) c.w
   obtain ⟨vs1,g7,g8⟩:=g3 _ _ _ r1
   have hw:∀ j,vs1[j]? = (c.w.setCells b (i * 4) us).cell? ⟨b,j,none⟩:=fun j=>by simp only [World.cell?,g7];rfl
   refine ins_go hc hH hn hi (bN:=b) (kN:=k) (vs0:=vs0) (vs1:=vs1) (us:=us) (cs:=cs) (.inl ⟨k,hρ0⟩) (by omega) g7 (by rw [g8,r2]) hk r4 r6 hcsg hnewf (fun j hj=>?_) (fun b1 _ h2=>g2 b1 h2) (by rw [g1];exact Nat.le_refl _) g4 g5 g6
   rw [hw]
   by_cases e1:j < i * 4
   ·rw [if_pos e1,World.cell?_setCells_out b _ _ _ _ (fun _ _=>.inl e1),hcell,hcsg j e1]
   ·rw [if_neg e1,if_pos (by omega)]
    have:=World.cell?_setCells_in b us (i * 4) c.w (fun t ht=>hsp hk _ (by omega)) (j - i * 4) (by omega)
    rw [show i * 4+(j - i * 4) = j by omega] at this
    rw [this,List.getElem?_eq_getElem]
  ·refine (Tryz.ins_end_grow (some ⟨b,0,none⟩) i k b' c' cs us c.w r3 (by omega) (by omega) hcsl hus4 (fun h=>by cases h) (fun a h j v hj=>by cases h;rw [Addr.add_lit,Nat.zero_add];exact hcsc j v hj) husc hus1).mono ?_
   rintro e w' ⟨rfl,rfl⟩
   have hG:=grownCap_ge c.w (i+1) k 148
   have hG2:=grownCap_le_maxLen c.w (i+1) k 148 (by unfold maxLen;omega)
   generalize grownCap c.w (i+1) k 148 = G at hG hG2 ⊢
   refine ins_go hc hH hn hi (bN:=c.w.heap.size) (kN:=G) (vs0:=vs0) (vs1:=(cs++us).toArray++Builtin.zeroCells zBind.cells (G - (i+1))) (us:=us) (cs:=cs) (.inr (Nat.le_refl _)) (by omega) ?_ ?_ hG (by unfold maxLen at hG2;omega) r6 hcsg hnewf (fun j hj=>?_) (fun b1 h1 h2=>?_) ?_ rfl rfl rfl
   ·show (c.w.heap.push _)[c.w.heap.size]? = _
    rw [Array.getElem?_push_size];rfl
   ·have hzc:zBind.cells.size = 4:=rfl
    simp only [Array.size_append,zeroCells_size,hzc,List.size_toArray,List.length_append,hus4,hcsl];omega
   ·rw [Array.getElem?_append_left (by simp [hcsl,hus4];omega),List.getElem?_toArray,List.getElem?_append,hcsl]
    by_cases e1:j < i * 4
    ·rw [if_pos e1,if_pos e1]
    ·rw [if_neg e1,if_neg e1,if_pos (by omega)]
   ·exact heap_push_lt h1
   ·show c.w.heap.size≤(c.w.heap.push _).size
    rw [Array.size_push];omega
 ·have hin':i < n:=by omega
  by_cases hk:n+1≤k
  ·refine (Tryz.ins_shift b n k i b' c' cs us c.w hin' hk (by omega) hvb hcsl hus4 hcsc (hsp hk) (fun j _=>hfz _) husc hcs1 hus1 t_Bind t_Bind va.size vs0.size (by simp [World.shape?,va1]) (by simp [World.shape?,r1]) (by omega) (by simp [World.frozen?,va1]) (by simp [World.frozen?,va1])).mono ?_
   rintro e w' ⟨rfl,rfl⟩
   have hdl:(cs.drop (i * 4)).length = (n - i) * 4:=by rw [List.length_drop,hcsl];omega
   have hsp':∀ j,j < (n+1) * 4→(c.w.drew.cell? ⟨b,j,none⟩).isSome = true:=hsp hk
   obtain ⟨g1,g2,g3,g4,g5,g6⟩:=heap_setCells b (cs.drop (i * 4)) ((i+1) * 4) c.w.drew
   obtain ⟨vsA,g7,g8⟩:=g3 _ _ _ r1
   generalize hW1:c.w.drew.setCells b ((i+1) * 4) (cs.drop (i * 4)) = W1 at g1 g2 g3 g4 g5 g6 g7 ⊢
   obtain ⟨f1,f2,f3,f4,f5,f6⟩:=heap_setCells b us (i * 4) W1
   obtain ⟨vs1,f7,f8⟩:=f3 _ _ _ g7
   have hw:∀ j,vs1[j]? = (W1.setCells b (i * 4) us).cell? ⟨b,j,none⟩:=fun j=>by simp only [World.cell?,f7];rfl
   refine ins_go hc hH hn hi (bN:=b) (kN:=k) (vs0:=vs0) (vs1:=vs1) (us:=us) (cs:=cs) (.inl ⟨k,hρ0⟩) (by omega) f7 (by rw [f8,g8,r2]) hk r4 r6 hcsg hnewf (fun j hj=>?_) (fun b1 _ h2=>by rw [f2 b1 h2,g2 b1 h2];rfl) (by rw [f1,g1];exact Nat.le_refl _) (by rw [f4,g4];rfl) (by rw [f5,g5];rfl) (by rw [f6,g6];rfl)
   rw [hw]
   have hsp1:∀ j,j < (n+1) * 4→(W1.cell? ⟨b,j,none⟩).isSome = true:=fun j hj=>by
    rw [← hW1]
    exact isSome_setCells b _ _ c.w.drew (fun t ht=>hsp' ((i+1) * 4+t) (by rw [hdl] at ht;omega)) _ (hsp' j hj)
   by_cases e1:j < i * 4
   ·rw [if_pos e1,World.cell?_setCells_out b _ _ _ _ (fun _ _=>.inl e1),← hW1,World.cell?_setCells_out b _ _ _ _ (fun _ _=>.inl (by show j < (i+1) * 4;omega))]
    show c.w.cell? ⟨b,j,none⟩ = _
    rw [hcell,hcsg j (by omega)]
   ·rw [if_neg e1]
    by_cases e2:j < i * 4+4
    ·rw [if_pos e2]
     have:=World.cell?_setCells_in b us (i * 4) W1 (fun t ht=>hsp1 _ (by omega)) (j - i * 4) (by omega)
     rw [show i * 4+(j - i * 4) = j by omega] at this
     rw [this,List.getElem?_eq_getElem]
    ·rw [if_neg e2,World.cell?_setCells_out b _ _ _ _ (fun _ _=>.inr (by show i * 4+us.length≤j;omega)),← hW1]
     have:=World.cell?_setCells_in b (cs.drop (i * 4)) ((i+1) * 4) c.w.drew (fun t ht=>hsp' _ (by omega)) (j - (i+1) * 4) (by omega)
     rw [show (i+1) * 4+(j - (i+1) * 4) = j by omega] at this
     rw [this,← List.getElem?_eq_getElem,List.getElem?_drop,show i * 4+(j - (i+1) * 4) = j - 4 by omega]
  ·refine (Tryz.ins_grow b n k i b' c' cs us c.w hin' r3 (by omega) (by omega) hcsl hus4 hcsc husc hcs1 hus1).mono ?_
   rintro e w' ⟨rfl,rfl⟩
   have hG:=grownCap_ge c.w (n+1) k 148
   have hG2:=grownCap_le_maxLen c.w (n+1) k 148 (by unfold maxLen;omega)
   generalize grownCap c.w (n+1) k 148 = G at hG hG2 ⊢
   have hdl:(cs.drop (i * 4)).length = (n - i) * 4:=by rw [List.length_drop,hcsl];omega
   have hzc:zBind.cells.size = 4:=rfl
   generalize hR:(cs.take (i * 4)).toArray++Builtin.zeroCells zBind.cells (n+1 - i)++Builtin.zeroCells zBind.cells (G - (n+1)) = ROW
   have hRs:ROW.size = G * 4:=by
    rw [← hR]
    simp only [Array.size_append,zeroCells_size,hzc,List.size_toArray,List.length_take,hcsl];omega
   have hRg:∀ j,j < i * 4→ROW[j]? = cs[j]?:=fun j hj=>by
    rw [← hR,Array.getElem?_append_left (by simp [zeroCells_size,hzc,hcsl];omega),Array.getElem?_append_left (by simp [hcsl];omega),List.getElem?_toArray,List.getElem?_take,if_pos hj]
   generalize hN:c.w.heap.size = N
   have hNb:∀ j,(c.w.alloc (.cells ROW 148)).cell? ⟨N,j,none⟩ = ROW[j]?:=fun j=>World.cell?_alloc_at (w:=c.w) ROW _ N j hN.symm
   generalize hW0:(c.w.alloc (.cells ROW 148)).drew = W0
   have hW0c:∀ j,W0.cell? ⟨N,j,none⟩ = ROW[j]?:=fun j=>by rw [← hW0];exact hNb j
   have hW0h:W0.heap = c.w.heap.push (.cells ROW 148):=by rw [← hW0];rfl
   obtain ⟨g1,g2,g3,g4,g5,g6⟩:=heap_setCells N us (i * 4) W0
   obtain ⟨vsA,g7,g8⟩:=g3 ROW t_Bind (0,0) (by rw [hW0h,← hN,Array.getElem?_push_size];rfl)
   have hsA:∀ j,j < (n+1) * 4→((W0.setCells N (i * 4) us).cell? ⟨N,j,none⟩).isSome = true:=fun j hj =>
    isSome_setCells N us _ W0 (fun t ht=>by rw [hW0c,Array.getElem?_eq_getElem (by omega)];rfl) _ (by rw [hW0c,Array.getElem?_eq_getElem (by omega)];rfl)
   generalize hW1:W0.setCells N (i * 4) us = W1 at g1 g2 g3 g4 g5 g6 g7 hsA ⊢
   obtain ⟨f1,f2,f3,f4,f5,f6⟩:=heap_setCells N (cs.drop (i * 4)) ((i+1) * 4) W1.drew
   obtain ⟨vs1,f7,f8⟩:=f3 _ _ _ g7
   have hw:∀ j,vs1[j]? = (W1.drew.setCells N ((i+1) * 4) (cs.drop (i * 4))).cell? ⟨N,j,none⟩:=fun j=>by simp only [World.cell?,f7];rfl
   have hold:∀ b1,b1 < c.w.heap.size→b1 ≠ N→W0.heap[b1]? = c.w.heap[b1]?:=fun b1 h _=>by rw [hW0h];exact heap_push_lt h
   refine ins_go hc hH hn hi (bN:=N) (kN:=G) (vs0:=vs0) (vs1:=vs1) (us:=us) (cs:=cs) (.inr (by omega)) (by omega) f7 (by rw [f8,g8,hRs]) hG (by unfold maxLen at hG2;omega) r6 hcsg hnewf (fun j hj=>?_) (fun b1 h1 h2=>?_) ?_ ?_ ?_ ?_
   ·rw [hw]
    by_cases e1:j < i * 4
    ·rw [if_pos e1,World.cell?_setCells_out N _ _ _ _ (fun _ _=>.inl (by show j < (i+1) * 4;omega))]
     show W1.cell? ⟨N,j,none⟩ = _
     rw [← hW1,World.cell?_setCells_out N _ _ _ _ (fun _ _=>.inl e1),hW0c,hRg j e1]
    ·rw [if_neg e1]
     by_cases e2:j < i * 4+4
     ·rw [if_pos e2,World.cell?_setCells_out N _ _ _ _ (fun _ _=>.inl (by show j < (i+1) * 4;omega))]
      show W1.cell? ⟨N,j,none⟩ = _
      rw [← hW1]
      have:=World.cell?_setCells_in N us (i * 4) W0 (fun t ht=>by rw [hW0c,Array.getElem?_eq_getElem (by omega)];rfl) (j - i * 4) (by omega)
      rw [show i * 4+(j - i * 4) = j by omega] at this
      rw [this,List.getElem?_eq_getElem]
     ·rw [if_neg e2]
      have:=World.cell?_setCells_in N (cs.drop (i * 4)) ((i+1) * 4) W1.drew (fun t ht=>hsA _ (by omega)) (j - (i+1) * 4) (by omega)
      rw [show (i+1) * 4+(j - (i+1) * 4) = j by omega] at this
      rw [this,← List.getElem?_eq_getElem,List.getElem?_drop,show i * 4+(j - (i+1) * 4) = j - 4 by omega]
   ·rw [f2 b1 h2]
    show W1.heap[b1]? = _
    rw [g2 b1 h2,hold b1 h1 h2]
   ·rw [f1]
    show c.w.heap.size≤W1.heap.size
    rw [g1,hW0h,Array.size_push];omega
   ·rw [f4]
    show W1.os = _
    rw [g4,← hW0];rfl
   ·rw [f5]
    show W1.tape = _
    rw [g5,← hW0];rfl
   ·rw [f6]
    show W1.output = _
    rw [g6,← hW0];rfl
end Go.Dw
end
section
namespace Go.Dw
theorem rens_cBs {σ:Nat→Option Nat} {s:List ABind}:(s.map cB).map (rens σ) = s.map cB:=by rw [List.map_map];rfl
attribute [push_cast] rens_cBs
theorem row_get {s:List ABind} {k:Nat} (h:k < s.length):(s.map cB)[k]? = some (cB (s.getD k default)):=by
 rw [List.getElem?_map];simp [List.getD_eq_getElem?_getD,h]
abbrev rowB (s:List ABind):Ob:=.row t_Bind 4 (s.map cB)
theorem BinarySearch_row {g:Nat} (hg:∀ b v,PF g [encB b,.str v] (.int .i64 (cmpS b.name v))) (s:List ABind) (v:Str) (hs:Sorted s) (hl:s.length < 2^61) :
  Spec prog n_slices_BinarySearchFunc_s_Bind_Bind_string [.rw 0 4 s.length,.str v,.fn (.func g) [] []] [rowB s] fun x H'=>x = .tup [.int .i64 (lbd v s),.bool (bound s v)]∧H' = [rowB s]:=by
 refine spec_of_run mixed slices_BinarySearchFunc_s_Bind_Bind_string.ok rfl ?_
 have hle:=lbd_le v s
 push_cast
 have key:∀ (m i j:Nat),j - i≤m→i≤lbd v s→lbd v s≤j→j≤s.length→slices_BinarySearchFunc_s_Bind_Bind_string.L3 (.rw 0 4 s.length) (.str v) (.fn (.func g) [] []) (.int .i64 s.length) (.int .i64 i) (.int .i64 j) 1 [rowB s]
   (Ends 1 slices_BinarySearchFunc_s_Bind_Bind_string.rs fun x' H'=>x' = .tup [.int .i64 (lbd v s),.bool (bound s v)]∧H' = [rowB s]):=by
  intro m
  induction m with
  | zero =>
   intro i j hm h1 h2 h3
   have hij:i = lbd v s:=by omega
   refine slices_BinarySearchFunc_s_Bind_Bind_string.G3 ?_
   push_cast [inlt (show j≤i by omega)]
   unfold bound
   rw [image_lbd hs]
   by_cases hi:i < s.length
   ·push_cast [ilt hi,row_get hi,List.length_map]
    refine .of (hg _ _) ?_
    push_cast
    refine ends_all (.inl rfl) rfl ⟨?_,rfl⟩
    push_cast [cmpS_zero,hij]
    rw [hij] at hi
    by_cases hn:(s.getD (lbd v s) default).name = v
    ·rw [if_pos ⟨hi,hn⟩];simp only [hn];rfl
    ·rw [if_neg (fun h=>hn h.2)];simp only [hn];rfl
   ·push_cast [inlt (show s.length≤i by omega)]
    refine ends_all (.inl rfl) rfl ⟨?_,rfl⟩
    push_cast [hij]
    rw [if_neg (fun h=>hi (by omega))]
    rfl
  | succ m ih =>
   intro i j hm h1 h2 h3
   by_cases hij:i < j
   ·refine slices_BinarySearchFunc_s_Bind_Bind_string.G3 ?_
    have hh:=half (i:=i) (j:=j) (by omega) (by omega)
    generalize hq:(i+j) / 2 = h at hh
    have hk:h < s.length:=by omega
    push_cast [ilt hij]
    simp only [hh]
    push_cast [ilt hk,row_get hk,List.length_map]
    refine .of (hg _ _) ?_
    push_cast [w64 (show h < 2^62 by omega),cmpS_neg]
    refine ⟨fun hc=>ih (h+1) j (by omega) ?_ h2 h3,fun hc=>ih i h (by omega) h1 ?_ (by omega)⟩
    ·rcases Nat.lt_or_ge h (lbd v s) with h4 | h4
     ·omega
     ·exact absurd hc (lbd_ge hs h4 hk)
    ·rcases Nat.lt_or_ge h (lbd v s) with h4 | h4
     ·exact absurd (lbd_lt h4) hc
     ·exact h4
   ·exact ih i j (by omega) h1 h2 h3
 exact key s.length 0 s.length (by omega) (by omega) hle (Nat.le_refl _)
theorem term_Image_row (s:List ABind) (v:Str) (hs:Sorted s) (hl:s.length < 2^61):Spec prog n_term_Image [.rw 0 4 s.length,.str v] [rowB s] fun x H'=>x = encOT (image s v)∧H' = [rowB s]:=by
 have hB:=BinarySearch_row term_Image_1_s s v hs hl
 have hi:=image_lbd (v:=v) hs
 refine spec_of_run mixed term_Image.ok rfl ?_
 push_cast
 have hsh:Shut 1 [rowB s]:=⟨rfl,by show [renOb (clip 1) (rowB s)] = _;rw [renOb_row,rens_cBs]⟩
 refine CallG.some [0] (by simp) (by simp) (R:=fun x H'=>x = .tup [.int .i64 (lbd v s),.bool (bound s v)]∧H' = [rowB s]) (by
  have:give [0] [rowB s,.cells t_Term [.str [],.bool false,.sl 3 []]] = [rowB s]:=by
   show [renOb (pos? [0]) (rowB s)] = _
   rw [renOb_row,rens_cBs]
  rw [this];exact hB) ?_
 rintro x H' ⟨rfl,rfl⟩ _
 have ht:takeB [0] [rowB s,.cells t_Term [.str [],.bool false,.sl 3 []]] [rowB s] = [rowB s,.cells t_Term [.str [],.bool false,.sl 3 []]]:=by
  show [renOb (back [0] 2) (rowB s),.cells t_Term [.str [],.bool false,.sl 3 []]] = _
  rw [renOb_row,rens_cBs]
 rw [ht]
 unfold bound
 by_cases hc:lbd v s < s.length∧(s.getD (lbd v s) default).name = v
 ·rw [if_pos hc] at hi
  push_cast [hi,Option.isSome_some,ilt hc.1,row_get hc.1,List.length_map]
  exact ends_keep (H:=[rowB s]) (J:=[_]) hsh rfl ⟨rfl,rfl⟩
 ·rw [if_neg hc] at hi
  push_cast [hi,Option.isSome_none]
  exact ends_keep (H:=[rowB s]) (J:=[_]) hsh rfl ⟨rfl,rfl⟩
end Go.Dw
end
section
namespace Go.Dw
def bindT (s:List ABind) (v:Str) (t:Term):List ABind:=s.take (lbd v s)++⟨v,t⟩ :: s.drop (lbd v s)
theorem bindT_len (s:List ABind) (v:Str) (t:Term):(bindT s v t).length = s.length+1:=by
 have:=lbd_le v s
 unfold bindT;simp;omega
theorem shut_row (s:List ABind):Shut 1 [rowB s]:=⟨rfl,by show [renOb (clip 1) (rowB s)] = _;rw [renOb_row,rens_cBs]⟩
theorem unify_bind_row (s:List ABind) (v:Str) (t:Term) (hs:Sorted s) (hl:s.length < 2^40):Spec prog n_unify_bind [.rw 0 4 s.length,.str v,encT t] [rowB s] fun x H'=>x = .rw 0 4 (s.length+1)∧H' = [rowB (bindT s v t)]:=by
 have hB:=BinarySearch_row unify_bind_1_s s v hs (by omega)
 have hle:=lbd_le v s
 have hI:=insert_row (s.map cB) (cB ⟨v,t⟩) (lbd v s) s.length (by simp) hle (by unfold maxEls;omega)
 have hbt:(s.map cB).take (lbd v s)++cB ⟨v,t⟩ :: (s.map cB).drop (lbd v s) = (bindT s v t).map cB:=by unfold bindT;simp
 rw [hbt] at hI
 refine spec_of_run mixed unify_bind.ok rfl ?_
 push_cast
 refine CallG.all (specF_func ▸ hB) ?_
 rintro x H' ⟨rfl,rfl⟩
 push_cast
 refine CallG.all (specF_func ▸ hI) ?_
 rintro x H' ⟨rfl,rfl⟩
 push_cast
 exact ends_keep (H:=[rowB (bindT s v t)]) (J:=[_]) (shut_row _) rfl ⟨rfl,rfl⟩
end Go.Dw
end
section
namespace Go.Dw
theorem bindT_sorted {s:List ABind} {v:Str} {t:Term} (hs:Sorted s) (hn:image s v = none):Sorted (bindT s v t):=by
 have hle:=lbd_le v s
 have h1:∀ b∈s.take (lbd v s),b.name < v:=fun b hb=>by
  obtain ⟨j,hj,rfl⟩:=List.getElem_of_mem hb
  have hjl:j < lbd v s:=by rw [List.length_take] at hj;omega
  have:=lbd_lt hjl
  simpa [List.getD_eq_getElem?_getD,show j < s.length by omega] using this
 have h2:∀ b∈s.drop (lbd v s),v < b.name:=fun b hb=>by
  obtain ⟨j,hj,rfl⟩:=List.getElem_of_mem hb
  have hjl:lbd v s+j < s.length:=by rw [List.length_drop] at hj;omega
  have h3:=lbd_ge hs (Nat.le_add_right (lbd v s) j) hjl
  have he:(s.drop (lbd v s))[j] = s.getD (lbd v s+j) default:=by simp [List.getD_eq_getElem?_getD,hjl]
  rw [he]
  have hne:(s.getD (lbd v s+j) default).name ≠ v:=fun e=>by
   have hi:=image_lbd (v:=v) hs
   rw [hn] at hi
   split at hi
   ·cases hi
   ·rename_i hc
    refine hc ⟨by omega,?_⟩
    rcases Nat.eq_zero_or_pos j with h0 | h0
    ·subst h0;exact e
    ·have h5:(s.getD (lbd v s) default).name < (s.getD (lbd v s+j) default).name:=by
      have:=List.pairwise_iff_getElem.1 hs (lbd v s) (lbd v s+j) (by omega) hjl (by omega)
      simpa [List.getD_eq_getElem?_getD,hjl,show lbd v s < s.length by omega] using this
     rw [e] at h5
     exact absurd h5 (lbd_ge hs (Nat.le_refl _) (by omega))
  rcases Classical.em (v < (s.getD (lbd v s+j) default).name) with h | h
  ·exact h
  ·exact absurd (slt_eq h3 h) hne
 unfold bindT
 refine List.pairwise_append.2 ⟨List.Pairwise.sublist (List.take_sublist _ _) hs,List.pairwise_cons.2 ⟨h2,List.Pairwise.sublist (List.drop_sublist _ _) hs⟩,fun a ha b hb=>?_⟩
 rcases List.mem_cons.1 hb with rfl | hb
 ·exact h1 a ha
 ·exact slt_trans (h1 a ha) (h2 b hb)
theorem bindT_mem {s:List ABind} {v:Str} {t:Term} {b:ABind} (h:b∈bindT s v t):b∈s ∨ b = ⟨v,t⟩:=by
 unfold bindT at h
 rcases List.mem_append.1 h with h | h
 ·exact .inl (List.mem_of_mem_take h)
 ·rcases List.mem_cons.1 h with h | h
  ·exact .inr h
  ·exact .inl (List.mem_of_mem_drop h)
end Go.Dw
end
section
namespace Go.Dw
mutual
def matchT (s:List ABind):Term→Term→List ABind × Bool
 | .mk n v l,t=>if v then (match image s n with | some x=>(s,decide (x = t)) | none=>(bindT s n t,true)) else
  if t.var ∨ n ≠ t.name ∨ l.length ≠ t.args.length then (s,false) else matchTs s l t.args
def matchTs (s:List ABind):List Term→List Term→List ABind × Bool
 | [],_=>(s,true)
 | _ :: _,[]=>(s,false)
 | a :: l,b :: m=>if (matchT s a b).2 then matchTs (matchT s a b).1 l m else ((matchT s a b).1,false)
end
theorem matchT_eq (s:List ABind) (p t:Term):matchT s p t = if p.var then (match image s p.name with | some x=>(s,decide (x = t)) | none=>(bindT s p.name t,true)) else
  if t.var ∨ p.name ≠ t.name ∨ p.args.length ≠ t.args.length then (s,false) else matchTs s p.args t.args:=by
 cases p with | mk n v l=>simp only [matchT,Term.var,Term.name,Term.args];rfl
structure MOk (M:Nat) (s:List ABind) (n:Nat) (s':List ABind):Prop where
 sorted:Sorted s'
 small:∀ b∈s',size b.term < M
 len:s'.length≤s.length+n
theorem matchT_ok {M:Nat} (p:Term):∀ (s:List ABind) (t:Term),Sorted s→(∀ b∈s,size b.term < M)→size t < M→MOk M s (size p) (matchT s p t).1:=by
 induction p using term_ind with
 | h p ih =>
 intro s t hs hb ht
 have hst:=size_args t
 have hsp:=size_args p
 rw [matchT_eq]
 cases hv:p.var with
 | true =>
  rw [if_pos rfl]
  cases hx:image s p.name with
  | some x=>exact ⟨hs,hb,Nat.le_add_right _ _⟩
  | none =>
   refine ⟨bindT_sorted hs hx,fun b h=>?_,by rw [bindT_len];omega⟩
   rcases bindT_mem h with h | rfl
   ·exact hb b h
   ·exact ht
 | false =>
  rw [if_neg (by simp)]
  by_cases hc:t.var ∨ p.name ≠ t.name ∨ p.args.length ≠ t.args.length
  ·rw [if_pos hc];exact ⟨hs,hb,Nat.le_add_right _ _⟩
  ·rw [if_neg hc]
   have key:∀ (l m:List Term) (s:List ABind),(∀ a∈l,a∈p.args)→(∀ a∈m,size a < M)→Sorted s→(∀ b∈s,size b.term < M)→MOk M s (sizes l) (matchTs s l m).1:=by
    intro l
    induction l with
    | nil=>intro m s _ _ h1 h2;exact ⟨h1,h2,Nat.le_add_right _ _⟩
    | cons a l ihl =>
     intro m s hl hm h1 h2
     cases m with
     | nil=>exact ⟨h1,h2,Nat.le_add_right _ _⟩
     | cons b m =>
      have h3:=ih a (hl a (by simp)) s b h1 h2 (hm b (by simp))
      simp only [matchTs]
      split
      ·have h4:=ihl m _ (fun x hx=>hl x (by simp [hx])) (fun x hx=>hm x (by simp [hx])) h3.sorted h3.small
       exact ⟨h4.sorted,h4.small,by have:=h4.len;have:=h3.len;simp only [sizes];omega⟩
      ·exact ⟨h3.sorted,h3.small,by have:=h3.len;simp only [sizes];omega⟩
   have h5:=key p.args t.args s (fun _ h=>h) (fun a ha=>by have:=size_mem ha;omega) hs hb
   exact ⟨h5.sorted,h5.small,by have:=h5.len;omega⟩
abbrev mH (s:List ABind):List Ob:=[.cells t_unify_matcher [.rw 1 4 s.length],rowB s]
theorem shut_m (s:List ABind):Shut 2 (mH s):=⟨rfl,by show [renOb (clip 2) _,renOb (clip 2) (rowB s)] = _;rw [renOb_row,rens_cBs];rfl⟩
theorem back_one (s:List ABind) (n k:Nat):renOb (back [k] n) (rowB s) = rowB s:=by rw [renOb_row,rens_cBs]
theorem give_1 (a:Ob) (s:List ABind) (J:List Ob):give [1] (a :: rowB s :: J) = [rowB s]:=by
 show [renOb (pos? [1]) (rowB s)] = _
 rw [renOb_row,rens_cBs]
theorem take_1 (a:Ob) (s s':List ABind):takeB [1] [a,rowB s] [rowB s'] = [a,rowB s']:=by
 show [a,renOb (back [1] 2) (rowB s')] = _
 rw [back_one]
theorem take_1' (a b:Ob) (s s':List ABind):takeB [1] [a,rowB s,b] [rowB s'] = [a,rowB s',b]:=by
 show [a,renOb (back [1] 3) (rowB s'),b] = _
 rw [back_one]
section
variable {N:Nat→C} {B:Nat} {k:List K} {t:T} {Q:X→T→List Ob→Prop} {a b:Ob} {s s':List ABind} {d:Option Nat} {l:List S} {f:Nat} {vs vs':List V} {x:V}
theorem callG_r2 (hv:rens (pos? [1]) vs = vs') (h:Spec prog f vs' [rowB s] fun x' H'=>x' = x∧H' = [rowB s']) (k':Run prog N B (.r l :: k) (setO d (ren (back [1] 2) x) t) [a,rowB s'] Q):CallG prog N B d l k t Q (.func f) vs [a,rowB s]:=by
 refine CallG.some [1] (by simp) (by simp) (R:=fun x' H'=>x' = x∧H' = [rowB s']) (by rw [give_1,hv];exact h) ?_
 rintro x' H' ⟨rfl,rfl⟩ _
 rw [take_1];exact k'
theorem callG_r3 (hv:rens (pos? [1]) vs = vs') (h:Spec prog f vs' [rowB s] fun x' H'=>x' = x∧H' = [rowB s']) (k':Run prog N B (.r l :: k) (setO d (ren (back [1] 3) x) t) [a,rowB s',b] Q):CallG prog N B d l k t Q (.func f) vs [a,rowB s,b]:=by
 refine CallG.some [1] (by simp) (by simp) (R:=fun x' H'=>x' = x∧H' = [rowB s']) (by rw [give_1,hv];exact h) ?_
 rintro x' H' ⟨rfl,rfl⟩ _
 rw [take_1'];exact k'
end
theorem unify_match_s (p:Term):∀ (s:List ABind) (t:Term),Sorted s→(∀ b∈s,size b.term < 2^62)→size t < 2^62→s.length+size p < 2^39→Spec prog n_unify_matcher_match [.ptr 0 0,encT p,encT t] (mH s) fun x H'=>x = .bool (matchT s p t).2∧H' = mH (matchT s p t).1:=by
 induction p using term_ind with
 | h p ih =>
 intro s t hs hb ht hl
 refine spec_of_run mixed unify_matcher_match.ok rfl ?_
 rw [matchT_eq]
 cases hv:p.var with
 | true =>
  have hI:=term_Image_row s p.name hs (by omega)
  push_cast [hv]
  cases hx:image s p.name with
  | some x =>
   rw [hx] at hI
   refine ⟨callG_r2 (vs':=[.rw 0 4 s.length,.str p.name]) rfl hI ?_,callG_r3 (vs':=[.rw 0 4 s.length,.str p.name]) rfl hI ?_⟩ <;>
   ·push_cast [encOT]
    refine .of (term_Equal_s x t (by obtain ⟨b,hb1,_,rfl⟩:=image_mem hx;exact hb b hb1)) ?_
    push_cast
    exact ends_keep (H:=mH s) (J:=[_]) (shut_m s) rfl ⟨rfl,rfl⟩
  | none =>
   rw [hx] at hI
   refine ⟨callG_r2 (vs':=[.rw 0 4 s.length,.str p.name]) rfl hI ?_,callG_r3 (vs':=[.rw 0 4 s.length,.str p.name]) rfl hI ?_⟩ <;>
   ·push_cast [encOT]
    refine callG_r3 (vs':=[.rw 0 4 s.length,.str p.name,encT t]) rfl (unify_bind_row s p.name t hs (by omega)) ?_
    have h0:back [1] 3 0 = some 1:=rfl
    push_cast [h0]
    rw [← bindT_len s p.name t]
    exact ends_keep (H:=mH (bindT s p.name t)) (J:=[_]) (shut_m _) rfl ⟨rfl,rfl⟩
 | false =>
  cases ht:t.var with
  | true =>
   push_cast [hv,ht]
   rw [if_pos (.inl trivial)]
   exact ends_all (.inl rfl) rfl ⟨rfl,rfl⟩
  | false =>
   by_cases hn:p.name = t.name
   ·by_cases hlen:p.args.length = t.args.length
    ·have hlen':((p.args.length:Int) = (t.args.length:Int)) = True:=eq_true (by omega)
     push_cast [hv,ht,hn,hlen']
     rw [if_neg (by simp [hlen])]
     have hsp:=size_args p
     have hst:=size_args t
     refine loop_up (n:=p.args.length) (R:=fun k=>∀ s',matchTs s p.args t.args = matchTs s' (p.args.drop k) (t.args.drop k)→Sorted s'→(∀ b∈s',size b.term < 2^62)→s'.length+sizes (p.args.drop k)≤s.length+sizes p.args →
      unify_matcher_match.L3 (.ptr 0 0) (.ro (cT p) 0) (.ro (cT t) 0) (.int .i64 p.args.length) (.int .i64 k) 2 (mH s') (Ends 2 unify_matcher_match.rs fun x H'=>x = .bool (matchTs s p.args t.args).2∧H' = mH (matchTs s p.args t.args).1)) ?_ ?_ 0 (by omega) s rfl hs hb (Nat.le_refl _)
     ·intro k hk ih2 s' he hs' hb' hl'
      have hk2:k < t.args.length:=by omega
      have hm:=getD_mem hk
      have hm2:=getD_mem hk2
      have hsm:=size_mem hm2
      have hlp:=length_le_sizes p.args
      rw [drop_getD hk,drop_getD hk2] at he
      rw [drop_getD hk] at hl'
      simp only [matchTs,sizes] at he hl'
      have hc:=ih _ hm s' (t.args.getD k default) hs' hb' (by omega) (by omega)
      have hok:=matchT_ok (M:=2^62) (p.args.getD k default) s' (t.args.getD k default) hs' hb' (by omega)
      refine unify_matcher_match.G3 ?_
      push_cast [ilt hk,ilt hk2]
      refine CallG.all (specF_func ▸ hc) ?_
      rintro x H' ⟨rfl,rfl⟩
      cases hr:(matchT s' (p.args.getD k default) (t.args.getD k default)).2 with
      | true =>
       rw [hr,if_pos rfl] at he
       have:=ih2 _ he hok.sorted hok.small (by have:=hok.len;omega)
       push_cast [w64 (show k < 2^62 by omega)]
       exact this
      | false =>
       rw [hr,if_neg (by simp)] at he
       push_cast
       rw [he]
       exact ends_all (.inl rfl) rfl ⟨rfl,rfl⟩
     ·intro s' he hs' hb' hl'
      refine unify_matcher_match.G3 ?_
      push_cast [inlt (Nat.le_refl _)]
      rw [drop_map_none] at he
      rw [he]
      exact ends_all (.inl rfl) rfl ⟨rfl,rfl⟩
    ·have hlen':((p.args.length:Int) = (t.args.length:Int)) = False:=eq_false (by omega)
     push_cast [hv,ht,hn,hlen']
     rw [if_pos (.inr (.inr hlen))]
     exact ends_all (.inl rfl) rfl ⟨rfl,rfl⟩
   ·push_cast [hv,ht,hn]
    rw [if_pos (.inr (.inl trivial))]
    exact ends_all (.inl rfl) rfl ⟨rfl,rfl⟩
theorem unify_Find_s (p t:Term) (hp:size p < 2^38) (ht:size t < 2^62):PF n_unify_Find [encT p,encT t] (.tup [encBs (matchT [] p t).1,.bool (matchT [] p t).2]):=by
 have hm:=unify_match_s p [] t List.Pairwise.nil (by simp) ht (by simp;omega)
 refine pf_of unify_Find.ok rfl ?_
 push_cast
 refine CallG.all (specF_func ▸ hm) ?_
 rintro x H' ⟨rfl,rfl⟩
 push_cast
 refine ⟨by simp,pf_ret ?_⟩
 push_cast [unify_Find.rs]
 rfl
end Go.Dw
end
section
namespace Go.Dw
theorem subT_size:∀ (p:List Int) (t x:Term),subT t p = some x→size x≤size t
 | [],t,x,h=>by cases h;exact Nat.le_refl _
 | i :: p,t,x,h=>by
  simp only [subT] at h
  split at h
  ·rename_i hc
   have h1:=subT_size p _ x h
   have h2:=size_mem (getD_mem (l:=t.args) (k:=i.toNat) (by omega))
   have h3:=size_args t
   omega
  ·cases h
end Go.Dw
end
section
namespace Go.Dw
mutual
def short:Term→Bool
 | .mk n v l=>decide (n.length≤24) && ((!v || l.isEmpty) && shorts l)
def shorts:List Term→Bool
 | []=>true
 | a :: l=>short a && shorts l
end
theorem shorts_iff {l:List Term}:shorts l = true ↔ ∀ a∈l,short a = true:=by
 induction l with
 | nil=>simp [shorts]
 | cons a l ih=>simp [shorts,ih]
theorem short_iff {t:Term}:short t = true ↔ t.name.length≤24∧(t.var = true→t.args = [])∧∀ a∈t.args,short a = true:=by
 cases t with | mk n v l=>cases v <;> simp [short,shorts_iff,Term.name,Term.var,Term.args]
theorem formed_short (t:Term):formed t = true→short t = true:=by
 induction t using term_ind with
 | h t ih =>
 intro h
 rw [formed_eq] at h
 rw [short_iff]
 split at h
 ·simp only [Bool.and_eq_true,decide_eq_true_eq,isName] at h
  refine ⟨h.2.1,fun _=>List.length_eq_zero_iff.1 h.1,fun a ha=>?_⟩
  rw [List.length_eq_zero_iff.1 h.1] at ha;cases ha
 ·rename_i hv
  simp only [Bool.and_eq_true,decide_eq_true_eq,isName,List.all_eq_true] at h
  exact ⟨h.2.1.1,fun hv2=>absurd hv2 hv,fun a ha=>ih a ha (h.2.2 a ha)⟩
mutual
theorem tb_short:∀ t,short t = true→tb t≤25 * size t
 | .mk n v l,h=>by
  simp only [short,Bool.and_eq_true,decide_eq_true_eq] at h
  have:=tbs_short l h.2.2
  simp only [tb,size]
  simp only [tbs] at this
  omega
theorem tbs_short:∀ l,shorts l = true→tbs l≤25 * sizes l
 | [],_=>by simp [tbs,tb.tbs,sizes]
 | a :: l,h=>by
  simp only [shorts,Bool.and_eq_true] at h
  have h1:=tb_short a h.1
  have h2:=tbs_short l h.2
  simp only [tbs,tb.tbs,sizes] at h2 ⊢
  omega
end
theorem sizes_set {l:List Term} {k:Nat} {x:Term} (hk:k < l.length):sizes (l.set k x)+size (l.getD k default) = sizes l+size x:=by
 induction l generalizing k with
 | nil=>simp at hk
 | cons a l ih =>
  cases k with
  | zero=>simp [sizes];omega
  | succ k =>
   have:=ih (k:=k) (by simpa using hk)
   simp only [List.set_cons_succ,sizes,List.getD_cons_succ]
   omega
theorem setT_size:∀ (p:List Int) (t x:Term),size (setT t p x)≤size t+size x
 | [],t,x=>by simp only [setT];omega
 | i :: p,t,x=>by
  have h1:=size_args t
  have h2:=size_args (setT t (i :: p) x)
  rw [h2,setT_args]
  split
  ·rename_i hi
   have hk:i.toNat < t.args.length:=by omega
   have h3:=sizes_set (x:=setT (t.args.getD i.toNat default) p x) hk
   have h4:=setT_size p (t.args.getD i.toNat default) x
   omega
  ·omega
theorem fits_size {t:Term} (h:fits t = true):size t≤4000:=by
 simp only [fits,Bool.and_eq_true,decide_eq_true_eq] at h;exact h.1
def good (t:Term):Prop:=short t = true∧size t≤4000
theorem check_good {t:Term} (h:check t = 0):good t:=by
 unfold check at h
 split at h
 ·rename_i h1
  split at h
  ·rename_i h2;exact ⟨formed_short t h1,fits_size h2⟩
  ·omega
 ·omega
end Go.Dw
end
