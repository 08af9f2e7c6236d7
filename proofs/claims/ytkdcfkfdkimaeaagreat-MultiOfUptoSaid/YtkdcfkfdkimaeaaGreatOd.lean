/-
  Contracts and lemmas for MultiOf: part d of 9.
-/
import Derived.Test.YtkdcfkfdkimaeaaGreatOc
set_option linter.unusedVariables false
set_option linter.unusedSimpArgs false
set_option maxRecDepth 100000
section
namespace Go.Dw
variable {s:List K} {B:Nat} {t:T} {H:List Ob} {Q:X→T→List Ob→Prop}
namespace l17_MultiOf
def nd:Nat→C
 | 0=>.seq (.reg [.mv 40 (.s 0),.la 41 4 (.s 7),.callp (some 42) n_multi_Steps [.s 40,.s 41],.mv 39 (.s 42),.ex 43 (.s 39) 0,.ex 44 (.s 39) 1,.mv 11 (.s 43),.mv 12 (.s 44)]) (.seq (.reg [.mv 45 (.s 12),.bin 46 .eql (.s 45) (.i 0),.mv 47 (.s 46),.gd (.s 47) true [48,49,50] [.mv 48 (.s 11),.mv 49 (.s 2),.callp (some 50) n_r17_SameSet [.s 48,.s 49]],.pick 51 (.s 47) (.s 50) (.c (.bool false)),.mv 52 (.s 51),.gd (.s 52) true [53] [.callp (some 53) n_l17_alive []],.pick 54 (.s 52) (.s 53) (.c (.bool false)),.mv 6 (.s 54)]) (.ret))
 | 1=>.seq (.seq (.reg [.mv 36 (.s 8),.bin 37 .neq (.s 36) (.i 0)]) (.cond (.s 37) (.seq (.reg [.callp (some 38) n_l17_alive [],.mv 6 (.s 38)]) (.ret)) (.skip))) (.n 0)
 | _=>.skip
def body:C:=.seq (.reg [.br 4 t_Term (.s 1),.mv 6 (.c (.bool false))]) (.seq (.reg [.mv 14 (.s 0),.la 15 3 (.s 4),.mv 16 (.s 2),.callp (some 17) n_multi_Of [.s 14,.s 15,.s 16],.mv 13 (.s 17),.ex 18 (.s 13) 0,.ex 19 (.s 13) 1,.al 7 t_Multi [.int .i64 0,.str [],.bool false,.sl 4 []],.sf 7 4 (.s 18),.mv 8 (.s 19)]) (.seq (.reg [.mv 21 (.s 0),.la 22 3 (.s 4),.mv 23 (.s 2),.callp (some 24) n_r17_Of [.s 21,.s 22,.s 23],.mv 20 (.s 24),.ex 25 (.s 20) 0,.ex 26 (.s 20) 1,.al 9 t_Multi [.int .i64 0,.str [],.bool false,.sl 4 []],.sf 9 4 (.s 25),.mv 10 (.s 26)]) (.seq (.seq (.reg [.mv 27 (.s 8),.mv 28 (.s 10),.bin 29 .neq (.s 27) (.s 28),.mv 30 (.s 29),.gd (.s 30) false [31,32,33,34] [.la 31 4 (.s 7),.la 32 4 (.s 9),.callp (some 33) n_r17_Same [.s 31,.s 32],.un 34 .not (.s 33)],.pick 35 (.s 30) (.c (.bool true)) (.s 34)]) (.cond (.s 35) (.seq (.reg [.mv 6 (.c (.bool false))]) (.ret)) (.skip))) (.n 1))))
def rs:List RV:=[.t 6]
attribute [push_cast] nd body
theorem ok:okF prog n_l17_MultiOf nd body 3 rs = true:=by kernel_rfl
end l17_MultiOf
namespace multi_Steps
def nd:Nat→C
 | 0=>.seq (.reg [.ld 23 (.s 8),.call (some 24) n_slices_SortFunc_s_Step_Step [.s 23,(.f n_multi_Steps_2)]]) (.seq (.reg [.frc 0 (.s 8),.ld 25 (.s 8),.mv 4 (.s 25),.mv 5 (.i 0)]) (.ret))
 | 1=>.seq (.reg [.al 8 t_s_Step [.nil],.rono t_Step 2 0 (.s 8)]) (.seq (.seq (.reg [.mv 18 (.s 0),.la 19 4 (.s 3),.mf 20 n_multi_Steps_1 [] [.s 8],.call (some 21) n_multi_walk [.s 18,.s 19,(.c (.sl 1 [])),.s 20],.un 22 .not (.s 21)]) (.cond (.s 22) (.seq (.reg [.mv 4 (.c (.sl 2 [])),.mv 5 (.i 3)]) (.ret)) (.skip))) (.n 0))
 | _=>.skip
def body:C:=.seq (.reg [.br 3 t_Multi (.s 1),.mv 4 (.c (.sl 2 [])),.mv 5 (.i 0)]) (.seq (.seq (.reg [.mv 10 (.s 0),.la 11 4 (.s 3),.callp (some 12) n_multi_Source [.s 10,.s 11],.mv 9 (.s 12),.ex 13 (.s 9) 0,.ex 14 (.s 9) 1,.al 6 t_Term [.str [],.bool false,.sl 3 []],.sf 6 3 (.s 13),.mv 7 (.s 14)]) (.seq (.reg [.mv 15 (.s 7),.bin 16 .neq (.s 15) (.i 0)]) (.cond (.s 16) (.seq (.reg [.mv 17 (.s 7),.mv 4 (.c (.sl 2 [])),.mv 5 (.s 17)]) (.ret)) (.skip)))) (.n 1))
def rs:List RV:=[.t 4,.t 5]
attribute [push_cast] nd body
theorem ok:okF prog n_multi_Steps nd body 2 rs = true:=by kernel_rfl
end multi_Steps
namespace l17_alive
def nd (_:Nat):C:=.skip
def body:C:=.seq (.reg [.mv 0 (.c (.bool false))]) (.seq (.reg [.bd 10 [.int .i64 0,.str [],.bool false,.sl 4 []] [(1,1,(.c (.str [97])))],.bs 11 4 [.s 10],.bd 12 [.int .i64 0,.str [],.bool false,.sl 4 []] [(0,1,(.i 1)),(3,1,(.s 11))],.bs 13 4 [.s 12],.bd 14 [.int .i64 0,.str [],.bool false,.sl 4 []] [(0,1,(.i 1)),(3,1,(.s 13))],.al 1 t_Multi [.int .i64 0,.str [],.bool false,.sl 4 []],.sf 1 4 (.s 14)]) (.seq (.dr [0,1,2,3,4,5,6,7,8] [.callp (some 16) n_l17_double [],.la 17 4 (.s 1),.callp (some 18) n_multi_Target [.s 16,.s 17],.mv 15 (.s 18),.ex 19 (.s 15) 0,.ex 20 (.s 15) 1,.al 2 t_Term [.str [],.bool false,.sl 3 []],.sf 2 3 (.s 19),.mv 3 (.s 20)]) (.seq (.dr [0,1,2,3,4,5,6,7,8] [.callp (some 22) n_l17_double [],.la 23 4 (.s 1),.callp (some 24) n_multi_Chain [.s 22,.s 23],.mv 21 (.s 24),.ex 25 (.s 21) 0,.ex 26 (.s 21) 1,.al 4 t_Chain [.str [],.bool false,.sl 3 [],.sl 2 []],.sf 4 4 (.s 25),.mv 5 (.s 26)]) (.seq (.dr [0,1,2,3,4,5,6,7,8] [.callp (some 28) n_l17_double [],.la 29 4 (.s 1),.callp (some 30) n_multi_Inner [.s 28,.s 29],.mv 27 (.s 30),.ex 31 (.s 27) 0,.ex 32 (.s 27) 1,.al 6 t_Chain [.str [],.bool false,.sl 3 [],.sl 2 []],.sf 6 4 (.s 31),.mv 7 (.s 32)]) (.seq (.dr [0,1,2,3,4,5,6,7] [.callp (some 34) n_l17_double [],.la 35 4 (.s 1),.callp (some 36) n_multi_Steps [.s 34,.s 35],.mv 33 (.s 36),.ex 37 (.s 33) 0,.ex 38 (.s 33) 1,.mv 8 (.s 37),.mv 9 (.s 38)]) (.seq (.dr [0,1,2,3,4,5,6,7,8,9,10,11,12,13,14,15,16,17,18,19,20,21,22,23,24,25,26,27,28,29,30,31,32,33,34,35,36,37,38,39,40,41,42,43,44,45,46,47] [.callp (some 39) n_l17_double [],.la 40 4 (.s 1),.callp (some 41) n_multi_Check [.s 39,.s 40],.bin 42 .eql (.s 41) (.i 0),.mv 43 (.s 42),.gd (.s 43) true [44] [.la 44 4 (.s 1)],.gd (.s 43) true [45] [.callp (some 45) n_multi_Count [.s 44]],.gd (.s 43) true [46] [.bin 46 .eql (.s 45) (.i 2)],.pick 47 (.s 43) (.s 46) (.c (.bool false)),.mv 48 (.s 47),.gd (.s 48) true [49] [.mv 49 (.s 3)],.gd (.s 48) true [50] [.bin 50 .eql (.s 49) (.i 0)],.pick 51 (.s 48) (.s 50) (.c (.bool false)),.mv 52 (.s 51),.gd (.s 52) true [53] [.la 53 3 (.s 2)],.gd (.s 52) true [54] [.callp (some 54) n_r01_Size [.s 53]],.gd (.s 52) true [55] [.bin 55 .eql (.s 54) (.i 7)],.pick 56 (.s 52) (.s 55) (.c (.bool false)),.mv 57 (.s 56),.gd (.s 57) true [58] [.mv 58 (.s 5)],.gd (.s 57) true [59] [.bin 59 .eql (.s 58) (.i 0)],.pick 60 (.s 57) (.s 59) (.c (.bool false)),.mv 61 (.s 60),.gd (.s 61) true [62] [.fa 62 3 (.s 4)],.gd (.s 61) true [63] [.ld 63 (.s 62)],.gd (.s 61) true [64] [.len 64 (.s 63)],.gd (.s 61) true [65] [.bin 65 .eql (.s 64) (.i 3)],.pick 66 (.s 61) (.s 65) (.c (.bool false)),.mv 67 (.s 66),.gd (.s 67) true [68] [.mv 68 (.s 7)],.gd (.s 67) true [69] [.bin 69 .eql (.s 68) (.i 0)],.pick 70 (.s 67) (.s 69) (.c (.bool false)),.mv 71 (.s 70),.gd (.s 71) true [72] [.fa 72 3 (.s 6)],.gd (.s 71) true [73] [.ld 73 (.s 72)],.gd (.s 71) true [74] [.len 74 (.s 73)],.gd (.s 71) true [75] [.bin 75 .eql (.s 74) (.i 2)],.pick 76 (.s 71) (.s 75) (.c (.bool false)),.mv 77 (.s 76),.gd (.s 77) true [78] [.mv 78 (.s 9)],.gd (.s 77) true [79] [.bin 79 .eql (.s 78) (.i 0)],.pick 80 (.s 77) (.s 79) (.c (.bool false)),.mv 81 (.s 80),.gd (.s 81) true [82] [.mv 82 (.s 8)],.gd (.s 81) true [83] [.len 83 (.s 82)],.gd (.s 81) true [84] [.bin 84 .eql (.s 83) (.i 2)],.pick 85 (.s 81) (.s 84) (.c (.bool false)),.mv 0 (.s 85)]) (.ret)))))))
def rs:List RV:=[.t 0]
attribute [push_cast] nd body
theorem ok:okF prog n_l17_alive nd body 0 rs = true:=by kernel_rfl
end l17_alive
namespace multi_Source
def nd (_:Nat):C:=.skip
def body:C:=.seq (.reg [.br 3 t_Multi (.s 1),.al 4 t_Term [.str [],.bool false,.sl 3 []],.mv 5 (.i 0)]) (.seq (.reg [.mv 6 (.s 0),.la 7 4 (.s 3),.callp (some 8) n_multi_end [.s 6,.s 7,(.f n_multi_Source_1)],.ex 9 (.s 8) 0,.ex 10 (.s 8) 1,.st 3 (.s 4) (.s 9),.mv 5 (.s 10)]) (.ret))
def rs:List RV:=[.a 4 3,.t 5]
attribute [push_cast] nd body
theorem ok:okF prog n_multi_Source nd body 2 rs = true:=by kernel_rfl
end multi_Source
namespace multi_Of
def nd:Nat→C
 | 0=>.seq (.reg [.mv 42 (.s 0),.la 43 3 (.s 4),.mv 44 (.s 2),.callp (some 45) n_multi_Bare [.s 42,.s 43,.s 44],.ex 46 (.s 45) 0,.ex 47 (.s 45) 1,.st 4 (.s 6) (.s 46),.mv 7 (.s 47)]) (.ret)
 | 1=>.gh [.ks 1 [0,2,4,6,24,25,26]] (.m 3)
 | 2=>.seq (.blk 1 (.seq (.reg [.ia 28 2 (.s 24) (.s 26),.la 29 2 (.s 28),.al 10 t_Step [.int .i64 0,.sl 1 []],.sf 10 2 (.s 29)]) (.seq (.reg [.mv 31 (.s 0),.la 32 3 (.s 4),.la 33 2 (.s 10),.callp (some 34) n_rewrite_Do [.s 31,.s 32,.s 33],.mv 30 (.s 34),.ex 35 (.s 30) 0,.ex 36 (.s 30) 1,.al 11 t_Term [.str [],.bool false,.sl 3 []],.sf 11 3 (.s 35),.mv 12 (.s 36)]) (.seq (.reg [.mv 37 (.s 12),.bin 38 .neq (.s 37) (.i 0)]) (.cond (.s 38) (.seq (.reg [.bd 39 [.int .i64 0,.str [],.bool false,.sl 4 []] [],.mv 40 (.s 12),.st 4 (.s 6) (.s 39),.mv 7 (.s 40)]) (.ret)) (.skip)))))) (.reg [.bin 41 .add (.s 26) (.i 1),.mv 26 (.s 41)])
 | 3=>.seq (.reg [.bin 27 .lss (.s 26) (.s 25)]) (.seq (.cond (.s 27) (.skip) (.exit 0)) (.n 2))
 | 4=>.seq (.seq (.reg [.mv 24 (.s 2),.len 25 (.s 24),.mv 26 (.i 0)]) (.blk 0 (.loop (.n 1)))) (.n 0)
 | 5=>.seq (.seq (.reg [.mv 20 (.s 2),.len 21 (.s 20),.bin 22 .gtr (.s 21) (.i 4096)]) (.cond (.s 22) (.seq (.reg [.bd 23 [.int .i64 0,.str [],.bool false,.sl 4 []] [],.st 4 (.s 6) (.s 23),.mv 7 (.i 3)]) (.ret)) (.skip))) (.n 4)
 | _=>.skip
def body:C:=.seq (.reg [.br 4 t_Term (.s 1),.al 6 t_Multi [.int .i64 0,.str [],.bool false,.sl 4 []],.mv 7 (.i 0)]) (.seq (.seq (.reg [.mv 13 (.s 0),.la 14 3 (.s 4),.callp (some 15) n_rewrite_Both [.s 13,.s 14],.mv 8 (.s 15)]) (.seq (.reg [.mv 16 (.s 8),.bin 17 .neq (.s 16) (.i 0)]) (.cond (.s 17) (.seq (.reg [.bd 18 [.int .i64 0,.str [],.bool false,.sl 4 []] [],.mv 19 (.s 8),.st 4 (.s 6) (.s 18),.mv 7 (.s 19)]) (.ret)) (.skip)))) (.n 5))
def rs:List RV:=[.a 6 4,.t 7]
attribute [push_cast] nd body
theorem ok:okF prog n_multi_Of nd body 3 rs = true:=by kernel_rfl
abbrev L3 (v0 v2 v4 v6 v24 v25 v26:V) (B:Nat) (H:List Ob) (Q:X→T→List Ob→Prop):Prop:=Run prog nd B [.c (.m 3),.c (.loop (.n 1)),.mk 0,.c (.n 0)] [(0,v0),(2,v2),(4,v4),(6,v6),(24,v24),(25,v25),(26,v26)] H Q
theorem G3 (h:Run prog nd B (.c (nd 3) :: s) t H Q):Run prog nd B (.c (.m 3) :: s) t H Q:=run_m.2 h
end multi_Of
namespace r17_Same
def nd:Nat→C
 | 0=>.seq (.reg [.mv 4 (.c (.bool true))]) (.ret)
 | 1=>.gh [.ks 0 [2,3,36,37]] (.m 3)
 | 2=>.seq (.blk 1 (.seq (.reg [.mv 39 (.s 37),.mv 5 (.s 39)]) (.seq (.dr [0,1,2,3,4,5,6,7,8,9,10,11] [.fa 40 3 (.s 2),.ld 41 (.s 40),.mv 42 (.s 5),.ia 43 4 (.s 41) (.s 42),.la 44 4 (.s 43),.fa 45 3 (.s 3),.ld 46 (.s 45),.mv 47 (.s 5),.ia 48 4 (.s 46) (.s 47),.la 49 4 (.s 48),.callp (some 50) n_r17_Same [.s 44,.s 49],.un 51 .not (.s 50)]) (.cond (.s 51) (.seq (.reg [.mv 4 (.c (.bool false))]) (.ret)) (.skip))))) (.reg [.bin 52 .add (.s 37) (.i 1),.mv 37 (.s 52)])
 | 3=>.seq (.reg [.bin 38 .lss (.s 37) (.s 36)]) (.seq (.cond (.s 38) (.skip) (.exit 0)) (.n 2))
 | 4=>.seq (.seq (.reg [.fa 34 3 (.s 2),.ld 35 (.s 34),.len 36 (.s 35),.mv 37 (.i 0)]) (.blk 0 (.loop (.n 1)))) (.n 0)
 | _=>.skip
def body:C:=.seq (.reg [.br 2 t_Multi (.s 0),.br 3 t_Multi (.s 1),.mv 4 (.c (.bool false))]) (.seq (.seq (.reg [.fa 6 0 (.s 2),.ld 7 (.s 6),.fa 8 0 (.s 3),.ld 9 (.s 8),.bin 10 .neq (.s 7) (.s 9),.mv 11 (.s 10),.gd (.s 11) false [12,13,14,15,16] [.fa 12 1 (.s 2),.ld 13 (.s 12),.fa 14 1 (.s 3),.ld 15 (.s 14),.bin 16 .neq (.s 13) (.s 15)],.pick 17 (.s 11) (.c (.bool true)) (.s 16),.mv 18 (.s 17),.gd (.s 18) false [19,20,21,22,23] [.fa 19 2 (.s 2),.ld 20 (.s 19),.fa 21 2 (.s 3),.ld 22 (.s 21),.bb 23 .neq (.s 20) (.s 22)],.pick 24 (.s 18) (.c (.bool true)) (.s 23),.mv 25 (.s 24),.gd (.s 25) false [26,27,28,29,30,31,32] [.fa 26 3 (.s 2),.ld 27 (.s 26),.len 28 (.s 27),.fa 29 3 (.s 3),.ld 30 (.s 29),.len 31 (.s 30),.bin 32 .neq (.s 28) (.s 31)],.pick 33 (.s 25) (.c (.bool true)) (.s 32)]) (.cond (.s 33) (.seq (.reg [.mv 4 (.c (.bool false))]) (.ret)) (.skip))) (.n 4))
def rs:List RV:=[.t 4]
attribute [push_cast] nd body
theorem ok:okF prog n_r17_Same nd body 2 rs = true:=by kernel_rfl
abbrev L3 (v2 v3 v36 v37:V) (B:Nat) (H:List Ob) (Q:X→T→List Ob→Prop):Prop:=Run prog nd B [.c (.m 3),.c (.loop (.n 1)),.mk 0,.c (.n 0)] [(2,v2),(3,v3),(36,v36),(37,v37)] H Q
theorem G3 (h:Run prog nd B (.c (nd 3) :: s) t H Q):Run prog nd B (.c (.m 3) :: s) t H Q:=run_m.2 h
end r17_Same
namespace r17_Of
def nd:Nat→C
 | 0=>.seq (.reg [.la 59 4 (.s 13),.mv 60 (.s 14),.st 4 (.s 6) (.s 59),.mv 7 (.s 60)]) (.ret)
 | 1=>.seq (.reg [.mv 45 (.s 0),.la 46 3 (.s 4),.mv 47 (.s 2),.callp (some 48) n_r17_of [.s 45,.s 46,.s 47],.mv 44 (.s 48),.ex 49 (.s 44) 0,.ex 50 (.s 44) 1,.al 13 t_Multi [.int .i64 0,.str [],.bool false,.sl 4 []],.sf 13 4 (.s 49),.mv 14 (.s 50)]) (.seq (.seq (.reg [.mv 51 (.s 14),.bin 52 .eql (.s 51) (.i 0),.mv 53 (.s 52),.gd (.s 53) true [54,55,56] [.la 54 4 (.s 13),.callp (some 55) n_r17_Small [.s 54],.un 56 .not (.s 55)],.pick 57 (.s 53) (.s 56) (.c (.bool false))]) (.cond (.s 57) (.seq (.reg [.bd 58 [.int .i64 0,.str [],.bool false,.sl 4 []] [],.st 4 (.s 6) (.s 58),.mv 7 (.i 3)]) (.ret)) (.skip))) (.n 0))
 | 2=>.gh [.ks 1 [0,2,4,6,26,27,28]] (.m 4)
 | 3=>.seq (.blk 1 (.seq (.reg [.ia 30 2 (.s 26) (.s 28),.la 31 2 (.s 30),.al 10 t_Step [.int .i64 0,.sl 1 []],.sf 10 2 (.s 31)]) (.seq (.reg [.mv 33 (.s 0),.la 34 3 (.s 4),.la 35 2 (.s 10),.callp (some 36) n_r04_Step [.s 33,.s 34,.s 35],.mv 32 (.s 36),.ex 37 (.s 32) 0,.ex 38 (.s 32) 1,.al 11 t_Term [.str [],.bool false,.sl 3 []],.sf 11 3 (.s 37),.mv 12 (.s 38)]) (.seq (.reg [.mv 39 (.s 12),.bin 40 .neq (.s 39) (.i 0)]) (.cond (.s 40) (.seq (.reg [.bd 41 [.int .i64 0,.str [],.bool false,.sl 4 []] [],.mv 42 (.s 12),.st 4 (.s 6) (.s 41),.mv 7 (.s 42)]) (.ret)) (.skip)))))) (.reg [.bin 43 .add (.s 28) (.i 1),.mv 28 (.s 43)])
 | 4=>.seq (.reg [.bin 29 .lss (.s 28) (.s 27)]) (.seq (.cond (.s 29) (.skip) (.exit 0)) (.n 3))
 | 5=>.seq (.seq (.reg [.mv 26 (.s 2),.len 27 (.s 26),.mv 28 (.i 0)]) (.blk 0 (.loop (.n 2)))) (.n 1)
 | 6=>.seq (.seq (.reg [.mv 22 (.s 2),.len 23 (.s 22),.bin 24 .gtr (.s 23) (.i 4096)]) (.cond (.s 24) (.seq (.reg [.bd 25 [.int .i64 0,.str [],.bool false,.sl 4 []] [],.st 4 (.s 6) (.s 25),.mv 7 (.i 3)]) (.ret)) (.skip))) (.n 5)
 | _=>.skip
def body:C:=.seq (.reg [.br 4 t_Term (.s 1),.al 6 t_Multi [.int .i64 0,.str [],.bool false,.sl 4 []],.mv 7 (.i 0)]) (.seq (.seq (.reg [.mv 15 (.s 0),.la 16 3 (.s 4),.callp (some 17) n_r04_Check [.s 15,.s 16],.mv 8 (.s 17)]) (.seq (.reg [.mv 18 (.s 8),.bin 19 .neq (.s 18) (.i 0)]) (.cond (.s 19) (.seq (.reg [.bd 20 [.int .i64 0,.str [],.bool false,.sl 4 []] [],.mv 21 (.s 8),.st 4 (.s 6) (.s 20),.mv 7 (.s 21)]) (.ret)) (.skip)))) (.n 6))
def rs:List RV:=[.a 6 4,.t 7]
attribute [push_cast] nd body
theorem ok:okF prog n_r17_Of nd body 3 rs = true:=by kernel_rfl
abbrev L4 (v0 v2 v4 v6 v26 v27 v28:V) (B:Nat) (H:List Ob) (Q:X→T→List Ob→Prop):Prop:=Run prog nd B [.c (.m 4),.c (.loop (.n 2)),.mk 0,.c (.n 1)] [(0,v0),(2,v2),(4,v4),(6,v6),(26,v26),(27,v27),(28,v28)] H Q
theorem G4 (h:Run prog nd B (.c (nd 4) :: s) t H Q):Run prog nd B (.c (.m 4) :: s) t H Q:=run_m.2 h
end r17_Of
namespace r17_SameSet
def nd:Nat→C
 | 0=>.seq (.reg [.mv 18 (.s 0),.len 19 (.s 18),.mv 20 (.s 1),.len 21 (.s 20),.bin 22 .eql (.s 19) (.s 21),.mv 4 (.s 22)]) (.ret)
 | 1=>.gh [.ks 0 [0,1,7,8,9]] (.m 3)
 | 2=>.seq (.blk 1 (.seq (.reg [.ia 11 2 (.s 7) (.s 9),.la 12 2 (.s 11),.al 6 t_Step [.int .i64 0,.sl 1 []],.sf 6 2 (.s 12)]) (.seq (.reg [.mv 13 (.s 1),.la 14 2 (.s 6),.callp (some 15) n_r17_contains [.s 13,.s 14],.un 16 .not (.s 15)]) (.cond (.s 16) (.seq (.reg [.mv 4 (.c (.bool false))]) (.ret)) (.skip))))) (.reg [.bin 17 .add (.s 9) (.i 1),.mv 9 (.s 17)])
 | 3=>.seq (.reg [.bin 10 .lss (.s 9) (.s 8)]) (.seq (.cond (.s 10) (.skip) (.exit 0)) (.n 2))
 | _=>.skip
def body:C:=.seq (.reg [.mv 4 (.c (.bool false))]) (.seq (.seq (.reg [.mv 7 (.s 0),.len 8 (.s 7),.mv 9 (.i 0)]) (.blk 0 (.loop (.n 1)))) (.n 0))
def rs:List RV:=[.t 4]
attribute [push_cast] nd body
theorem ok:okF prog n_r17_SameSet nd body 2 rs = true:=by kernel_rfl
abbrev L3 (v0 v1 v7 v8 v9:V) (B:Nat) (H:List Ob) (Q:X→T→List Ob→Prop):Prop:=Run prog nd B [.c (.m 3),.c (.loop (.n 1)),.mk 0,.c (.n 0)] [(0,v0),(1,v1),(7,v7),(8,v8),(9,v9)] H Q
theorem G3 (h:Run prog nd B (.c (nd 3) :: s) t H Q):Run prog nd B (.c (.m 3) :: s) t H Q:=run_m.2 h
end r17_SameSet
namespace multi_walk
def nd:Nat→C
 | 0=>.seq (.reg [.mv 8 (.c (.bool true))]) (.ret)
 | 1=>.gh [.ks 0 [0,2,3,5,9,42,43,44]] (.m 7)
 | 2=>.gh [.ks 1 [0,2,3,5,9,11,42,43,44,67,68,69]] (.m 4)
 | 3=>.seq (.blk 3 (.seq (.reg [.ia 71 1 (.s 67) (.s 69),.ld 72 (.s 71),.mv 14 (.s 72)]) (.seq (.dr [0,1,2,3,4,5,6,7,8] [.mv 73 (.s 0),.la 74 4 (.s 11),.mv 75 (.s 2),.mv 76 (.s 14),.bs 77 1 [.s 75,.s 76],.callp (some 78) n_slices_Concat_s_int_int [.s 77],.mv 79 (.s 3),.call (some 80) n_multi_walk [.s 73,.s 74,.s 78,.s 79],.un 81 .not (.s 80)]) (.cond (.s 81) (.seq (.reg [.mv 8 (.c (.bool false))]) (.ret)) (.skip))))) (.reg [.bin 82 .add (.s 69) (.i 1),.mv 69 (.s 82)])
 | 4=>.seq (.reg [.bin 70 .lss (.s 69) (.s 68)]) (.seq (.cond (.s 70) (.skip) (.exit 2)) (.n 3))
 | 5=>.seq (.reg [.mv 67 (.s 12),.len 68 (.s 67),.mv 69 (.i 0)]) (.blk 2 (.loop (.n 2)))
 | 6=>.seq (.blk 1 (.seq (.reg [.mv 46 (.s 44),.ia 47 4 (.s 42) (.s 44),.la 48 4 (.s 47),.al 11 t_Multi [.int .i64 0,.str [],.bool false,.sl 4 []],.mv 10 (.s 46),.sf 11 4 (.s 48)]) (.seq (.reg [.mv 49 (.s 10),.bs 50 1 [.s 49],.bs 51 1 [.s 50],.mv 12 (.s 51)]) (.seq (.seq (.reg [.fa 52 0 (.s 5),.ld 53 (.s 52),.bin 54 .gtr (.s 53) (.i 0)]) (.cond (.s 54) (.dr [0,1,2,3,4,5,6,7,8,9,10,11,12] [.mv 55 (.s 0),.fa 56 0 (.s 5),.ld 57 (.s 56),.bin 58 .sub (.s 57) (.i 1),.ia 59 6 (.s 55) (.s 58),.fa 60 0 (.s 59),.la 61 3 (.s 60),.mv 62 (.s 9),.mv 63 (.s 10),.ia 64 1 (.s 62) (.s 63),.ld 65 (.s 64),.callp (some 66) n_multi_occurrences [.s 61,.s 65],.mv 12 (.s 66)]) (.skip))) (.n 5))))) (.reg [.bin 83 .add (.s 44) (.i 1),.mv 44 (.s 83)])
 | 7=>.seq (.reg [.bin 45 .lss (.s 44) (.s 43)]) (.seq (.cond (.s 45) (.skip) (.exit 0)) (.n 6))
 | 8=>.seq (.seq (.reg [.fa 41 3 (.s 5),.ld 42 (.s 41),.len 43 (.s 42),.mv 44 (.i 0)]) (.blk 0 (.loop (.n 1)))) (.n 0)
 | 9=>.seq (.reg [.mv 9 (.c (.sl 1 []))]) (.seq (.seq (.reg [.fa 29 0 (.s 5),.ld 30 (.s 29),.bin 31 .gtr (.s 30) (.i 0)]) (.cond (.s 31) (.reg [.mv 32 (.s 0),.fa 33 0 (.s 5),.ld 34 (.s 33),.bin 35 .sub (.s 34) (.i 1),.ia 36 6 (.s 32) (.s 35),.fa 37 0 (.s 36),.la 38 3 (.s 37),.bs 39 3 [.s 38],.callp (some 40) n_term_VarsOf [.s 39],.mv 9 (.s 40)]) (.skip))) (.n 8))
 | _=>.skip
def body:C:=.seq (.reg [.br 5 t_Multi (.s 1),.mv 8 (.c (.bool false))]) (.seq (.seq (.dr [0,1,2,3,4,5,6,7,8,9,10,11,12,13] [.fa 15 0 (.s 5),.ld 16 (.s 15),.bin 17 .gtr (.s 16) (.i 0),.mv 18 (.s 17),.gd (.s 18) true [19] [.mv 19 (.s 3)],.gd (.s 18) true [20] [.fa 20 0 (.s 5)],.gd (.s 18) true [21] [.ld 21 (.s 20)],.gd (.s 18) true [22] [.bin 22 .sub (.s 21) (.i 1)],.gd (.s 18) true [23] [.mv 23 (.s 2)],.gd (.s 18) true [24] [.callp (some 24) n_slices_Clone_s_int_int [.s 23]],.gd (.s 18) true [25] [.bd 25 [.int .i64 0,.sl 1 []] [(0,1,(.s 22)),(1,1,(.s 24))]],.gd (.s 18) true [26] [.callv (some 26) (.s 19) [.s 25]],.gd (.s 18) true [27] [.un 27 .not (.s 26)],.pick 28 (.s 18) (.s 27) (.c (.bool false))]) (.cond (.s 28) (.seq (.reg [.mv 8 (.c (.bool false))]) (.ret)) (.skip))) (.n 9))
def rs:List RV:=[.t 8]
attribute [push_cast] nd body
theorem ok:okF prog n_multi_walk nd body 4 rs = true:=by kernel_rfl
abbrev L4 (v0 v2 v3 v5 v9 v11 v42 v43 v44 v67 v68 v69:V) (B:Nat) (H:List Ob) (Q:X→T→List Ob→Prop):Prop:=Run prog nd B [.c (.m 4),.c (.loop (.n 2)),.mk 2,.mk 1,.c (.reg [.bin 83 .add (.s 44) (.i 1),.mv 44 (.s 83)]),.c (.loop (.n 1)),.mk 0,.c (.n 0)] [(0,v0),(2,v2),(3,v3),(5,v5),(9,v9),(11,v11),(42,v42),(43,v43),(44,v44),(67,v67),(68,v68),(69,v69)] H Q
theorem G4 (h:Run prog nd B (.c (nd 4) :: s) t H Q):Run prog nd B (.c (.m 4) :: s) t H Q:=run_m.2 h
abbrev L7 (v0 v2 v3 v5 v9 v42 v43 v44:V) (B:Nat) (H:List Ob) (Q:X→T→List Ob→Prop):Prop:=Run prog nd B [.c (.m 7),.c (.loop (.n 1)),.mk 0,.c (.n 0)] [(0,v0),(2,v2),(3,v3),(5,v5),(9,v9),(42,v42),(43,v43),(44,v44)] H Q
theorem G7 (h:Run prog nd B (.c (nd 7) :: s) t H Q):Run prog nd B (.c (.m 7) :: s) t H Q:=run_m.2 h
end multi_walk
namespace multi_Steps_1
def nd (_:Nat):C:=.skip
def body:C:=.seq (.reg [.br 2 t_Step (.s 0),.mv 3 (.c (.bool false))]) (.seq (.reg [.ld 4 (.s 1),.la 5 2 (.s 2),.bs 6 2 [.s 5],.apr 7 t_Step 2 32 (.s 4) (.s 6),.st 1 (.s 1) (.s 7)]) (.seq (.reg [.ld 8 (.s 1),.len 9 (.s 8),.bin 10 .leq (.s 9) (.i 4096),.mv 3 (.s 10)]) (.ret)))
def rs:List RV:=[.t 3]
attribute [push_cast] nd body
theorem ok:okF prog n_multi_Steps_1 nd body 2 rs = true:=by kernel_rfl
end multi_Steps_1
namespace multi_Steps_2
def nd (_:Nat):C:=.skip
def body:C:=.seq (.reg [.br 2 t_Step (.s 0),.br 3 t_Step (.s 1),.mv 4 (.i 0)]) (.seq (.reg [.fa 5 1 (.s 2),.ld 6 (.s 5),.fa 7 1 (.s 3),.ld 8 (.s 7),.callp (some 9) n_slices_Compare_s_int_int [.s 6,.s 8],.mv 4 (.s 9)]) (.ret))
def rs:List RV:=[.t 4]
attribute [push_cast] nd body
theorem ok:okF prog n_multi_Steps_2 nd body 2 rs = true:=by kernel_rfl
end multi_Steps_2
namespace slices_Compare_s_int_int
def nd:Nat→C
 | 0=>.seq (.reg [.mv 4 (.i 0)]) (.ret)
 | 1=>.seq (.seq (.reg [.mv 31 (.s 0),.len 32 (.s 31),.mv 33 (.s 1),.len 34 (.s 33),.bin 35 .lss (.s 32) (.s 34)]) (.cond (.s 35) (.seq (.reg [.mv 4 (.i (-1))]) (.ret)) (.skip))) (.n 0)
 | 2=>.gh [.ks 0 [0,1,9,10,11]] (.m 5)
 | 3=>.seq (.reg [.mv 20 (.s 1),.mv 21 (.s 5),.ia 22 1 (.s 20) (.s 21),.ld 23 (.s 22),.mv 7 (.s 23)]) (.seq (.reg [.mv 24 (.s 6),.mv 25 (.s 7),.callp (some 26) n_cmp_Compare_int [.s 24,.s 25],.mv 8 (.s 26)]) (.seq (.reg [.mv 27 (.s 8),.bin 28 .neq (.s 27) (.i 0)]) (.cond (.s 28) (.seq (.reg [.mv 29 (.s 8),.mv 4 (.s 29)]) (.ret)) (.skip))))
 | 4=>.seq (.blk 1 (.seq (.reg [.mv 13 (.s 11),.ia 14 1 (.s 9) (.s 11),.ld 15 (.s 14),.mv 5 (.s 13),.mv 6 (.s 15)]) (.seq (.seq (.reg [.mv 16 (.s 5),.mv 17 (.s 1),.len 18 (.s 17),.bin 19 .geq (.s 16) (.s 18)]) (.cond (.s 19) (.seq (.reg [.mv 4 (.i 1)]) (.ret)) (.skip))) (.n 3)))) (.reg [.bin 30 .add (.s 11) (.i 1),.mv 11 (.s 30)])
 | 5=>.seq (.reg [.bin 12 .lss (.s 11) (.s 10)]) (.seq (.cond (.s 12) (.skip) (.exit 0)) (.n 4))
 | _=>.skip
def body:C:=.seq (.reg [.mv 4 (.i 0)]) (.seq (.seq (.reg [.mv 9 (.s 0),.len 10 (.s 9),.mv 11 (.i 0)]) (.blk 0 (.loop (.n 2)))) (.n 1))
def rs:List RV:=[.t 4]
attribute [push_cast] nd body
theorem ok:okF prog n_slices_Compare_s_int_int nd body 2 rs = true:=by kernel_rfl
abbrev L5 (v0 v1 v9 v10 v11:V) (B:Nat) (H:List Ob) (Q:X→T→List Ob→Prop):Prop:=Run prog nd B [.c (.m 5),.c (.loop (.n 2)),.mk 0,.c (.n 1)] [(0,v0),(1,v1),(9,v9),(10,v10),(11,v11)] H Q
theorem G5 (h:Run prog nd B (.c (nd 5) :: s) t H Q):Run prog nd B (.c (.m 5) :: s) t H Q:=run_m.2 h
end slices_Compare_s_int_int
namespace multi_Target
def nd (_:Nat):C:=.skip
def body:C:=.seq (.reg [.br 3 t_Multi (.s 1),.al 4 t_Term [.str [],.bool false,.sl 3 []],.mv 5 (.i 0)]) (.seq (.reg [.mv 6 (.s 0),.la 7 4 (.s 3),.callp (some 8) n_multi_end [.s 6,.s 7,(.f n_multi_Target_1)],.ex 9 (.s 8) 0,.ex 10 (.s 8) 1,.st 3 (.s 4) (.s 9),.mv 5 (.s 10)]) (.ret))
def rs:List RV:=[.a 4 3,.t 5]
attribute [push_cast] nd body
theorem ok:okF prog n_multi_Target nd body 2 rs = true:=by kernel_rfl
end multi_Target
namespace l17_double
def nd (_:Nat):C:=.skip
def body:C:=.seq (.reg [.mv 0 (.c (.sl 6 []))]) (.seq (.reg [.bd 2 [.str [],.bool false,.sl 3 []] [(0,1,(.c (.str [120]))),(1,1,(.c (.bool true)))],.al 1 t_Term [.str [],.bool false,.sl 3 []],.sf 1 3 (.s 2)]) (.seq (.reg [.la 3 3 (.s 1),.bs 4 3 [.s 3],.bd 5 [.str [],.bool false,.sl 3 []] [(0,1,(.c (.str [102]))),(2,1,(.s 4))],.la 6 3 (.s 1),.la 7 3 (.s 1),.bs 8 3 [.s 6,.s 7],.bd 9 [.str [],.bool false,.sl 3 []] [(0,1,(.c (.str [103]))),(2,1,(.s 8))],.bd 10 [.str [],.bool false,.sl 3 [],.str [],.bool false,.sl 3 []] [(0,3,(.s 5)),(3,3,(.s 9))],.bs 11 6 [.s 10],.mv 0 (.s 11)]) (.ret)))
def rs:List RV:=[.t 0]
attribute [push_cast] nd body
theorem ok:okF prog n_l17_double nd body 0 rs = true:=by kernel_rfl
end l17_double
namespace multi_Chain
def nd (_:Nat):C:=.skip
def body:C:=.seq (.reg [.br 3 t_Multi (.s 1),.al 4 t_Chain [.str [],.bool false,.sl 3 [],.sl 2 []],.mv 5 (.i 0)]) (.seq (.reg [.mv 6 (.s 0),.la 7 4 (.s 3),.callp (some 8) n_multi_develop [.s 6,.s 7,(.f n_multi_first)],.ex 9 (.s 8) 0,.ex 10 (.s 8) 1,.st 4 (.s 4) (.s 9),.mv 5 (.s 10)]) (.ret))
def rs:List RV:=[.a 4 4,.t 5]
attribute [push_cast] nd body
theorem ok:okF prog n_multi_Chain nd body 2 rs = true:=by kernel_rfl
end multi_Chain
namespace multi_Inner
def nd (_:Nat):C:=.skip
def body:C:=.seq (.reg [.br 3 t_Multi (.s 1),.al 4 t_Chain [.str [],.bool false,.sl 3 [],.sl 2 []],.mv 5 (.i 0)]) (.seq (.reg [.mv 6 (.s 0),.la 7 4 (.s 3),.callp (some 8) n_multi_develop [.s 6,.s 7,(.f n_multi_deep)],.ex 9 (.s 8) 0,.ex 10 (.s 8) 1,.st 4 (.s 4) (.s 9),.mv 5 (.s 10)]) (.ret))
def rs:List RV:=[.a 4 4,.t 5]
attribute [push_cast] nd body
theorem ok:okF prog n_multi_Inner nd body 2 rs = true:=by kernel_rfl
end multi_Inner
namespace multi_Check
def nd:Nat→C
 | 0=>.seq (.reg [.mv 4 (.i 0)]) (.ret)
 | 1=>.seq (.blk 0 (.seq (.reg [.la 12 4 (.s 3),.mf 13 n_multi_Check_1 [] [.s 2],.callp (some 14) n_multi_all [.s 12,.s 13],.un 15 .not (.s 14),.mv 11 (.s 15)]) (.cond (.s 11) (.seq (.reg [.mv 4 (.i 8)]) (.ret)) (.seq (.reg [.la 17 4 (.s 3),.mf 18 n_multi_Check_2 [] [.s 2],.callp (some 19) n_multi_all [.s 17,.s 18],.un 20 .not (.s 19),.mv 16 (.s 20)]) (.cond (.s 16) (.seq (.reg [.mv 4 (.i 4)]) (.ret)) (.seq (.reg [.la 22 4 (.s 3),.callp (some 23) n_multi_size [.s 22],.bin 24 .gtr (.s 23) (.i 4000),.mv 25 (.s 24),.gd (.s 25) false [26,27,28] [.la 26 4 (.s 3),.callp (some 27) n_multi_depth [.s 26],.bin 28 .gtr (.s 27) (.i 200)],.pick 29 (.s 25) (.c (.bool true)) (.s 28),.mv 21 (.s 29)]) (.cond (.s 21) (.seq (.reg [.mv 4 (.i 3)]) (.ret)) (.skip)))))))) (.n 0)
 | _=>.skip
def body:C:=.seq (.reg [.br 2 t_s_Rule (.s 0),.br 3 t_Multi (.s 1),.mv 4 (.i 0)]) (.seq (.seq (.reg [.ld 6 (.s 2),.callp (some 7) n_term_CheckSystem [.s 6],.mv 5 (.s 7)]) (.seq (.reg [.mv 8 (.s 5),.bin 9 .neq (.s 8) (.i 0)]) (.cond (.s 9) (.seq (.reg [.mv 10 (.s 5),.mv 4 (.s 10)]) (.ret)) (.skip)))) (.n 1))
def rs:List RV:=[.t 4]
attribute [push_cast] nd body
theorem ok:okF prog n_multi_Check nd body 2 rs = true:=by kernel_rfl
end multi_Check
namespace multi_Count
def nd:Nat→C
 | 0=>.seq (.reg [.mv 21 (.s 3),.mv 2 (.s 21)]) (.ret)
 | 1=>.gh [.ks 0 [3,10,11,12]] (.m 3)
 | 2=>.seq (.blk 1 (.seq (.reg [.ia 14 4 (.s 10) (.s 12),.la 15 4 (.s 14),.al 5 t_Multi [.int .i64 0,.str [],.bool false,.sl 4 []],.sf 5 4 (.s 15)]) (.reg [.mv 16 (.s 3),.la 17 4 (.s 5),.callp (some 18) n_multi_Count [.s 17],.bin 19 .add (.s 16) (.s 18),.mv 3 (.s 19)]))) (.reg [.bin 20 .add (.s 12) (.i 1),.mv 12 (.s 20)])
 | 3=>.seq (.reg [.bin 13 .lss (.s 12) (.s 11)]) (.seq (.cond (.s 13) (.skip) (.exit 0)) (.n 2))
 | 4=>.seq (.seq (.reg [.fa 9 3 (.s 1),.ld 10 (.s 9),.len 11 (.s 10),.mv 12 (.i 0)]) (.blk 0 (.loop (.n 1)))) (.n 0)
 | _=>.skip
def body:C:=.seq (.reg [.br 1 t_Multi (.s 0),.mv 2 (.i 0)]) (.seq (.reg [.mv 3 (.i 0)]) (.seq (.seq (.reg [.fa 6 0 (.s 1),.ld 7 (.s 6),.bin 8 .neq (.s 7) (.i 0)]) (.cond (.s 8) (.reg [.mv 3 (.i 1)]) (.skip))) (.n 4)))
def rs:List RV:=[.t 2]
attribute [push_cast] nd body
theorem ok:okF prog n_multi_Count nd body 1 rs = true:=by kernel_rfl
abbrev L3 (v3 v10 v11 v12:V) (B:Nat) (H:List Ob) (Q:X→T→List Ob→Prop):Prop:=Run prog nd B [.c (.m 3),.c (.loop (.n 1)),.mk 0,.c (.n 0)] [(3,v3),(10,v10),(11,v11),(12,v12)] H Q
theorem G3 (h:Run prog nd B (.c (nd 3) :: s) t H Q):Run prog nd B (.c (.m 3) :: s) t H Q:=run_m.2 h
end multi_Count
namespace r01_Size
def nd:Nat→C
 | 0=>.seq (.reg [.mv 18 (.s 3),.mv 2 (.s 18)]) (.ret)
 | 1=>.gh [.ks 0 [3,7,8,9]] (.m 3)
 | 2=>.seq (.blk 1 (.seq (.reg [.ia 11 3 (.s 7) (.s 9),.la 12 3 (.s 11),.al 5 t_Term [.str [],.bool false,.sl 3 []],.sf 5 3 (.s 12)]) (.reg [.mv 13 (.s 3),.la 14 3 (.s 5),.callp (some 15) n_r01_Size [.s 14],.bin 16 .add (.s 13) (.s 15),.mv 3 (.s 16)]))) (.reg [.bin 17 .add (.s 9) (.i 1),.mv 9 (.s 17)])
 | 3=>.seq (.reg [.bin 10 .lss (.s 9) (.s 8)]) (.seq (.cond (.s 10) (.skip) (.exit 0)) (.n 2))
 | _=>.skip
def body:C:=.seq (.reg [.br 1 t_Term (.s 0),.mv 2 (.i 0)]) (.seq (.reg [.mv 3 (.i 1)]) (.seq (.seq (.reg [.fa 6 2 (.s 1),.ld 7 (.s 6),.len 8 (.s 7),.mv 9 (.i 0)]) (.blk 0 (.loop (.n 1)))) (.n 0)))
def rs:List RV:=[.t 2]
attribute [push_cast] nd body
theorem ok:okF prog n_r01_Size nd body 1 rs = true:=by kernel_rfl
abbrev L3 (v3 v7 v8 v9:V) (B:Nat) (H:List Ob) (Q:X→T→List Ob→Prop):Prop:=Run prog nd B [.c (.m 3),.c (.loop (.n 1)),.mk 0,.c (.n 0)] [(3,v3),(7,v7),(8,v8),(9,v9)] H Q
theorem G3 (h:Run prog nd B (.c (nd 3) :: s) t H Q):Run prog nd B (.c (.m 3) :: s) t H Q:=run_m.2 h
end r01_Size
namespace r01_SamePos
def nd:Nat→C
 | 0=>.seq (.reg [.mv 4 (.c (.bool true))]) (.ret)
 | 1=>.gh [.ks 0 [0,1,12,13]] (.m 3)
 | 2=>.seq (.blk 1 (.seq (.reg [.mv 15 (.s 13),.mv 5 (.s 15)]) (.seq (.dr [0,1,2,3,4,5,6,7,8] [.mv 16 (.s 0),.mv 17 (.s 5),.ia 18 1 (.s 16) (.s 17),.ld 19 (.s 18),.mv 20 (.s 1),.mv 21 (.s 5),.ia 22 1 (.s 20) (.s 21),.ld 23 (.s 22),.bin 24 .neq (.s 19) (.s 23)]) (.cond (.s 24) (.seq (.reg [.mv 4 (.c (.bool false))]) (.ret)) (.skip))))) (.reg [.bin 25 .add (.s 13) (.i 1),.mv 13 (.s 25)])
 | 3=>.seq (.reg [.bin 14 .lss (.s 13) (.s 12)]) (.seq (.cond (.s 14) (.skip) (.exit 0)) (.n 2))
 | 4=>.seq (.seq (.reg [.mv 11 (.s 0),.len 12 (.s 11),.mv 13 (.i 0)]) (.blk 0 (.loop (.n 1)))) (.n 0)
 | _=>.skip
def body:C:=.seq (.reg [.mv 4 (.c (.bool false))]) (.seq (.seq (.reg [.mv 6 (.s 0),.len 7 (.s 6),.mv 8 (.s 1),.len 9 (.s 8),.bin 10 .neq (.s 7) (.s 9)]) (.cond (.s 10) (.seq (.reg [.mv 4 (.c (.bool false))]) (.ret)) (.skip))) (.n 4))
def rs:List RV:=[.t 4]
attribute [push_cast] nd body
theorem ok:okF prog n_r01_SamePos nd body 2 rs = true:=by kernel_rfl
abbrev L3 (v0 v1 v12 v13:V) (B:Nat) (H:List Ob) (Q:X→T→List Ob→Prop):Prop:=Run prog nd B [.c (.m 3),.c (.loop (.n 1)),.mk 0,.c (.n 0)] [(0,v0),(1,v1),(12,v12),(13,v13)] H Q
theorem G3 (h:Run prog nd B (.c (nd 3) :: s) t H Q):Run prog nd B (.c (.m 3) :: s) t H Q:=run_m.2 h
end r01_SamePos
namespace r17_Vars
def nd (_:Nat):C:=.skip
def body:C:=.seq (.reg [.br 1 t_Rule (.s 0),.mv 2 (.c (.sl 1 []))]) (.seq (.reg [.fa 3 0 (.s 1),.la 4 3 (.s 3),.bs 5 3 [.s 4],.callp (some 6) n_r01_Vars [.s 5],.mv 2 (.s 6)]) (.ret))
def rs:List RV:=[.t 2]
attribute [push_cast] nd body
theorem ok:okF prog n_r17_Vars nd body 1 rs = true:=by kernel_rfl
end r17_Vars
namespace multi_end
def nd:Nat→C
 | 0=>.seq (.reg [.la 24 3 (.s 9),.callp (some 25) n_term_Own [.s 24],.callp (some 26) n_term_Fit [.s 25],.ex 27 (.s 26) 0,.ex 28 (.s 26) 1,.st 3 (.s 6) (.s 27),.mv 7 (.s 28)]) (.ret)
 | 1=>.seq (.reg [.mv 17 (.s 0),.la 18 4 (.s 4),.mv 19 (.s 2),.callp (some 20) n_multi_side [.s 17,.s 18,.s 19],.al 9 t_Term [.str [],.bool false,.sl 3 []],.sf 9 3 (.s 20)]) (.seq (.seq (.reg [.la 21 3 (.s 9),.callp (some 22) n_multi_large [.s 21]]) (.cond (.s 22) (.seq (.reg [.bd 23 [.str [],.bool false,.sl 3 []] [],.st 3 (.s 6) (.s 23),.mv 7 (.i 3)]) (.ret)) (.skip))) (.n 0))
 | _=>.skip
def body:C:=.seq (.reg [.br 4 t_Multi (.s 1),.al 6 t_Term [.str [],.bool false,.sl 3 []],.mv 7 (.i 0)]) (.seq (.seq (.reg [.mv 10 (.s 0),.la 11 4 (.s 4),.callp (some 12) n_multi_Check [.s 10,.s 11],.mv 8 (.s 12)]) (.seq (.reg [.mv 13 (.s 8),.bin 14 .neq (.s 13) (.i 0)]) (.cond (.s 14) (.seq (.reg [.bd 15 [.str [],.bool false,.sl 3 []] [],.mv 16 (.s 8),.st 3 (.s 6) (.s 15),.mv 7 (.s 16)]) (.ret)) (.skip)))) (.n 1))
def rs:List RV:=[.a 6 3,.t 7]
attribute [push_cast] nd body
theorem ok:okF prog n_multi_end nd body 3 rs = true:=by kernel_rfl
end multi_end
namespace multi_Source_1
def nd (_:Nat):C:=.skip
def body:C:=.seq (.reg [.br 1 t_Rule (.s 0),.al 2 t_Term [.str [],.bool false,.sl 3 []]]) (.seq (.reg [.fa 3 0 (.s 1),.la 4 3 (.s 3),.st 3 (.s 2) (.s 4)]) (.ret))
def rs:List RV:=[.a 2 3]
attribute [push_cast] nd body
theorem ok:okF prog n_multi_Source_1 nd body 1 rs = true:=by kernel_rfl
end multi_Source_1
namespace rewrite_Both
def nd:Nat→C
 | 0=>.seq (.reg [.la 11 3 (.s 3),.callp (some 12) n_term_Check [.s 11],.mv 4 (.s 12)]) (.ret)
 | _=>.skip
def body:C:=.seq (.reg [.br 3 t_Term (.s 1),.mv 4 (.i 0)]) (.seq (.seq (.reg [.mv 6 (.s 0),.callp (some 7) n_term_CheckSystem [.s 6],.mv 5 (.s 7)]) (.seq (.reg [.mv 8 (.s 5),.bin 9 .neq (.s 8) (.i 0)]) (.cond (.s 9) (.seq (.reg [.mv 10 (.s 5),.mv 4 (.s 10)]) (.ret)) (.skip)))) (.n 0))
def rs:List RV:=[.t 4]
attribute [push_cast] nd body
theorem ok:okF prog n_rewrite_Both nd body 2 rs = true:=by kernel_rfl
end rewrite_Both
namespace rewrite_Do
def nd:Nat→C
 | 0=>.seq (.reg [.la 37 3 (.s 4),.fa 38 1 (.s 5),.ld 39 (.s 38),.la 40 3 (.s 10),.callp (some 41) n_term_Set [.s 37,.s 39,.s 40],.callp (some 42) n_term_Fit [.s 41],.ex 43 (.s 42) 0,.ex 44 (.s 42) 1,.st 3 (.s 6) (.s 43),.mv 7 (.s 44)]) (.ret)
 | 1=>.seq (.reg [.mv 23 (.s 8),.mv 24 (.s 0),.fa 25 0 (.s 5),.ld 26 (.s 25),.ia 27 6 (.s 24) (.s 26),.fa 28 3 (.s 27),.la 29 3 (.s 28),.callp (some 30) n_term_Instance [.s 23,.s 29],.mv 22 (.s 30),.ex 31 (.s 22) 0,.ex 32 (.s 22) 1,.al 10 t_Term [.str [],.bool false,.sl 3 []],.sf 10 3 (.s 31),.mv 9 (.s 32)]) (.seq (.seq (.reg [.mv 33 (.s 9),.bin 34 .neq (.s 33) (.i 0)]) (.cond (.s 34) (.seq (.reg [.bd 35 [.str [],.bool false,.sl 3 []] [],.mv 36 (.s 9),.st 3 (.s 6) (.s 35),.mv 7 (.s 36)]) (.ret)) (.skip))) (.n 0))
 | _=>.skip
def body:C:=.seq (.reg [.br 4 t_Term (.s 1),.br 5 t_Step (.s 2),.al 6 t_Term [.str [],.bool false,.sl 3 []],.mv 7 (.i 0)]) (.seq (.reg [.mv 12 (.s 0),.la 13 3 (.s 4),.la 14 2 (.s 5),.callp (some 15) n_rewrite_find [.s 12,.s 13,.s 14],.mv 11 (.s 15),.ex 16 (.s 11) 0,.ex 17 (.s 11) 1,.mv 8 (.s 16),.mv 9 (.s 17)]) (.seq (.seq (.reg [.mv 18 (.s 9),.bin 19 .neq (.s 18) (.i 0)]) (.cond (.s 19) (.seq (.reg [.bd 20 [.str [],.bool false,.sl 3 []] [],.mv 21 (.s 9),.st 3 (.s 6) (.s 20),.mv 7 (.s 21)]) (.ret)) (.skip))) (.n 1)))
def rs:List RV:=[.a 6 3,.t 7]
attribute [push_cast] nd body
theorem ok:okF prog n_rewrite_Do nd body 3 rs = true:=by kernel_rfl
end rewrite_Do
namespace multi_Bare
def nd:Nat→C
 | 0=>.seq (.reg [.la 40 4 (.s 11),.callp (some 41) n_multi_Fit [.s 40],.ex 42 (.s 41) 0,.ex 43 (.s 41) 1,.st 4 (.s 6) (.s 42),.mv 7 (.s 43)]) (.ret)
 | 1=>.seq (.reg [.mv 32 (.s 8),.la 33 3 (.s 4),.call (some 34) n_multi_builder_build [.s 32,.s 33,(.c (.sl 1 []))],.al 11 t_Multi [.int .i64 0,.str [],.bool false,.sl 4 []],.sf 11 4 (.s 34)]) (.seq (.seq (.reg [.mv 35 (.s 8),.nc 36 (.s 35),.fa 37 2 (.s 36),.ld 38 (.s 37)]) (.cond (.s 38) (.seq (.reg [.bd 39 [.int .i64 0,.str [],.bool false,.sl 4 []] [],.st 4 (.s 6) (.s 39),.mv 7 (.i 9)]) (.ret)) (.skip))) (.n 0))
 | 2=>.gh [.ks 2 [2,4,6,8,16,17,18]] (.m 4)
 | 3=>.seq (.blk 1 (.seq (.reg [.mv 20 (.s 18),.ia 21 2 (.s 16) (.s 18),.la 22 2 (.s 21),.al 10 t_Step [.int .i64 0,.sl 1 []],.mv 9 (.s 20),.sf 10 2 (.s 22)]) (.seq (.reg [.mv 23 (.s 2),.mv 24 (.s 9),.sx 25 2 (.s 23) none (some (.s 24)),.mf 26 n_multi_Bare_1 [] [.s 10],.callp (some 27) n_slices_ContainsFunc_s_Step_Step [.s 25,.s 26]]) (.cond (.s 27) (.reg [.mv 28 (.s 8),.nc 29 (.s 28),.fa 30 2 (.s 29),.st 1 (.s 30) (.c (.bool true))]) (.skip))))) (.reg [.bin 31 .add (.s 18) (.i 1),.mv 18 (.s 31)])
 | 4=>.seq (.reg [.bin 19 .lss (.s 18) (.s 17)]) (.seq (.cond (.s 19) (.skip) (.exit 0)) (.n 3))
 | _=>.skip
def body:C:=.seq (.reg [.br 4 t_Term (.s 1),.al 6 t_Multi [.int .i64 0,.str [],.bool false,.sl 4 []],.mv 7 (.i 0)]) (.seq (.reg [.mv 12 (.s 0),.mv 13 (.s 2),.bd 14 [.sl 6 [],.sl 2 [],.bool false] [(0,1,(.s 12)),(1,1,(.s 13))],.bx 15 t_multi_builder (.s 14),.mv 8 (.s 15)]) (.seq (.seq (.reg [.mv 16 (.s 2),.len 17 (.s 16),.mv 18 (.i 0)]) (.blk 0 (.loop (.n 2)))) (.n 1)))
def rs:List RV:=[.a 6 4,.t 7]
attribute [push_cast] nd body
theorem ok:okF prog n_multi_Bare nd body 3 rs = true:=by kernel_rfl
abbrev L4 (v2 v4 v6 v8 v16 v17 v18:V) (B:Nat) (H:List Ob) (Q:X→T→List Ob→Prop):Prop:=Run prog nd B [.c (.m 4),.c (.loop (.n 2)),.mk 0,.c (.n 1)] [(2,v2),(4,v4),(6,v6),(8,v8),(16,v16),(17,v17),(18,v18)] H Q
theorem G4 (h:Run prog nd B (.c (nd 4) :: s) t H Q):Run prog nd B (.c (.m 4) :: s) t H Q:=run_m.2 h
end multi_Bare
namespace r04_Step
def nd:Nat→C
 | 0=>.seq (.dr [0,1,2,3,4,5,6,7,8,9,10,11,12,13] [.la 50 3 (.s 4),.fa 51 1 (.s 5),.ld 52 (.s 51),.mv 53 (.s 8),.mv 54 (.s 0),.fa 55 0 (.s 5),.ld 56 (.s 55),.ia 57 6 (.s 54) (.s 56),.fa 58 3 (.s 57),.la 59 3 (.s 58),.callp (some 60) n_r01_Apply [.s 53,.s 59],.callp (some 61) n_r01_Put [.s 50,.s 52,.s 60],.st 3 (.s 6) (.s 61),.mv 7 (.i 0)]) (.ret)
 | 1=>.seq (.reg [.mv 24 (.s 8),.mv 25 (.s 0),.fa 26 0 (.s 5),.ld 27 (.s 26),.ia 28 6 (.s 25) (.s 27),.fa 29 3 (.s 28),.la 30 3 (.s 29),.callp (some 31) n_r01_Grown [.s 24,.s 30],.mv 23 (.s 31),.ex 32 (.s 23) 0,.ex 33 (.s 23) 1,.mv 10 (.s 32),.mv 11 (.s 33)]) (.seq (.reg [.la 35 3 (.s 4),.fa 36 1 (.s 5),.ld 37 (.s 36),.mv 38 (.s 10),.mv 39 (.s 11),.callp (some 40) n_r04_replaced [.s 35,.s 37,.s 38,.s 39],.mv 34 (.s 40),.ex 41 (.s 34) 0,.ex 42 (.s 34) 1,.mv 10 (.s 41),.mv 11 (.s 42)]) (.seq (.seq (.reg [.mv 43 (.s 10),.bin 44 .gtr (.s 43) (.i 4000),.mv 45 (.s 44),.gd (.s 45) false [46,47] [.mv 46 (.s 11),.bin 47 .gtr (.s 46) (.i 200)],.pick 48 (.s 45) (.c (.bool true)) (.s 47)]) (.cond (.s 48) (.seq (.reg [.bd 49 [.str [],.bool false,.sl 3 []] [],.st 3 (.s 6) (.s 49),.mv 7 (.i 3)]) (.ret)) (.skip))) (.n 0)))
 | _=>.skip
def body:C:=.seq (.reg [.br 4 t_Term (.s 1),.br 5 t_Step (.s 2),.al 6 t_Term [.str [],.bool false,.sl 3 []],.mv 7 (.i 0)]) (.seq (.reg [.mv 13 (.s 0),.la 14 3 (.s 4),.la 15 2 (.s 5),.callp (some 16) n_r04_Subst [.s 13,.s 14,.s 15],.mv 12 (.s 16),.ex 17 (.s 12) 0,.ex 18 (.s 12) 1,.mv 8 (.s 17),.mv 9 (.s 18)]) (.seq (.seq (.reg [.mv 19 (.s 9),.bin 20 .neq (.s 19) (.i 0)]) (.cond (.s 20) (.seq (.reg [.bd 21 [.str [],.bool false,.sl 3 []] [],.mv 22 (.s 9),.st 3 (.s 6) (.s 21),.mv 7 (.s 22)]) (.ret)) (.skip))) (.n 1)))
def rs:List RV:=[.a 6 3,.t 7]
attribute [push_cast] nd body
theorem ok:okF prog n_r04_Step nd body 3 rs = true:=by kernel_rfl
end r04_Step
namespace r04_Check
def nd:Nat→C
 | 0=>.seq (.reg [.la 11 3 (.s 3),.callp (some 12) n_r01_Check [.s 11],.mv 4 (.s 12)]) (.ret)
 | _=>.skip
def body:C:=.seq (.reg [.br 3 t_Term (.s 1),.mv 4 (.i 0)]) (.seq (.seq (.reg [.mv 6 (.s 0),.callp (some 7) n_r01_CheckSystem [.s 6],.mv 5 (.s 7)]) (.seq (.reg [.mv 8 (.s 5),.bin 9 .neq (.s 8) (.i 0)]) (.cond (.s 9) (.seq (.reg [.mv 10 (.s 5),.mv 4 (.s 10)]) (.ret)) (.skip)))) (.n 0))
def rs:List RV:=[.t 4]
attribute [push_cast] nd body
theorem ok:okF prog n_r04_Check nd body 2 rs = true:=by kernel_rfl
end r04_Check
namespace r17_of
def nd:Nat→C
 | 0=>.seq (.reg [.la 167 4 (.s 17),.st 4 (.s 6) (.s 167),.mv 7 (.i 0)]) (.ret)
 | 1=>.seq (.seq (.reg [.mv 162 (.s 18),.mv 163 (.s 2),.len 164 (.s 163),.bin 165 .neq (.s 162) (.s 164)]) (.cond (.s 165) (.seq (.reg [.bd 166 [.int .i64 0,.str [],.bool false,.sl 4 []] [],.st 4 (.s 6) (.s 166),.mv 7 (.i 9)]) (.ret)) (.skip))) (.n 0)
 | 2=>.gh [.ks 5 [0,2,4,6,16,17,18,107,108,109]] (.m 7)
 | 3=>.gh [.ks 5 [0,2,4,6,16,17,18,21,107,108,109,115,116,117]] (.m 5)
 | 4=>.seq (.blk 7 (.seq (.reg [.mv 119 (.s 117),.ia 120 1 (.s 115) (.s 117),.ld 121 (.s 120),.mv 22 (.s 119),.mv 23 (.s 121)]) (.seq (.reg [.mv 122 (.s 2),.mv 123 (.s 23),.callp (some 124) n_r17_Under [.s 122,.s 123],.mv 24 (.s 124)]) (.seq (.reg [.mv 125 (.s 18),.mv 126 (.s 24),.len 127 (.s 126),.bin 128 .add (.s 125) (.s 127),.mv 18 (.s 128)]) (.seq (.reg [.mv 129 (.s 22),.bin 130 .eql (.s 129) (.i 0)]) (.cond (.s 130) (.seq (.reg [.mv 131 (.s 24),.mv 21 (.s 131)]) (.seq (.reg [.la 133 3 (.s 4),.mv 134 (.s 23),.callp (some 135) n_r01_At [.s 133,.s 134],.mv 132 (.s 135),.ex 136 (.s 132) 0,.ex 137 (.s 132) 1,.al 25 t_Term [.str [],.bool false,.sl 3 []],.sf 25 3 (.s 136),.mv 26 (.s 137)]) (.seq (.reg [.mv 139 (.s 0),.la 140 3 (.s 25),.mv 141 (.s 24),.callp (some 142) n_r17_of [.s 139,.s 140,.s 141],.mv 138 (.s 142),.ex 143 (.s 138) 0,.ex 144 (.s 138) 1,.al 27 t_Multi [.int .i64 0,.str [],.bool false,.sl 4 []],.sf 27 4 (.s 143),.mv 28 (.s 144)]) (.seq (.seq (.reg [.mv 145 (.s 28),.bin 146 .neq (.s 145) (.i 0)]) (.cond (.s 146) (.seq (.reg [.bd 147 [.int .i64 0,.str [],.bool false,.sl 4 []] [],.mv 148 (.s 28),.st 4 (.s 6) (.s 147),.mv 7 (.s 148)]) (.ret)) (.skip))) (.reg [.fa 149 3 (.s 17),.ld 150 (.s 149),.la 151 4 (.s 27),.bs 152 4 [.s 151],.app 153 t_Multi 4 56 (.s 150) (.s 152),.fa 154 3 (.s 17),.st 1 (.s 154) (.s 153)]))))) (.seq (.reg [.mv 155 (.s 21),.mv 156 (.s 24),.callp (some 157) n_r17_SameSet [.s 155,.s 156],.un 158 .not (.s 157)]) (.cond (.s 158) (.seq (.reg [.bd 159 [.int .i64 0,.str [],.bool false,.sl 4 []] [],.st 4 (.s 6) (.s 159),.mv 7 (.i 9)]) (.ret)) (.skip))))))))) (.reg [.bin 160 .add (.s 117) (.i 1),.mv 117 (.s 160)])
 | 5=>.seq (.reg [.bin 118 .lss (.s 117) (.s 116)]) (.seq (.cond (.s 118) (.skip) (.exit 6)) (.n 4))
 | 6=>.seq (.blk 5 (.seq (.reg [.ia 111 1 (.s 107) (.s 109),.ld 112 (.s 111),.mv 20 (.s 112)]) (.seq (.reg [.mv 21 (.c (.sl 2 []))]) (.seq (.reg [.la 113 3 (.s 16),.mv 114 (.s 20),.callp (some 115) n_r17_Occurrences [.s 113,.s 114],.len 116 (.s 115),.mv 117 (.i 0)]) (.blk 6 (.loop (.n 3))))))) (.reg [.bin 161 .add (.s 109) (.i 1),.mv 109 (.s 161)])
 | 7=>.seq (.reg [.bin 110 .lss (.s 109) (.s 108)]) (.seq (.cond (.s 110) (.skip) (.exit 4)) (.n 6))
 | 8=>.seq (.reg [.mv 86 (.s 0),.mv 87 (.s 8),.ia 88 2 (.s 87) (.i 0),.fa 89 0 (.s 88),.ld 90 (.s 89),.ia 91 6 (.s 86) (.s 90),.fa 92 0 (.s 91),.la 93 3 (.s 92),.al 16 t_Term [.str [],.bool false,.sl 3 []],.sf 16 3 (.s 93)]) (.seq (.reg [.mv 94 (.s 8),.ia 95 2 (.s 94) (.i 0),.fa 96 0 (.s 95),.ld 97 (.s 96),.bin 98 .add (.s 97) (.i 1),.bd 99 [.int .i64 0,.str [],.bool false,.nil] [(0,1,(.s 98))],.al 17 t_Multi [.int .i64 0,.str [],.bool false,.nil],.st 4 (.s 17) (.s 99),.ono t_Multi 4 3 (.s 17)]) (.seq (.reg [.mv 18 (.i 1)]) (.seq (.seq (.reg [.mv 100 (.s 0),.mv 101 (.s 8),.ia 102 2 (.s 101) (.i 0),.fa 103 0 (.s 102),.ld 104 (.s 103),.ia 105 6 (.s 100) (.s 104),.la 106 6 (.s 105),.callp (some 107) n_r17_Vars [.s 106],.len 108 (.s 107),.mv 109 (.i 0)]) (.blk 4 (.loop (.n 2)))) (.n 1))))
 | 9=>.seq (.reg [.la 85 4 (.s 11),.st 4 (.s 6) (.s 85),.mv 7 (.i 0)]) (.ret)
 | 10=>.gh [.ks 4 [0,2,6,11,57,58,59]] (.m 12)
 | 11=>.seq (.blk 3 (.seq (.reg [.mv 61 (.s 59),.ia 62 3 (.s 57) (.s 59),.la 63 3 (.s 62),.al 13 t_Term [.str [],.bool false,.sl 3 []],.mv 12 (.s 61),.sf 13 3 (.s 63)]) (.seq (.dr [0,1,2,3,4,5,6,7,8,9,10,11,12] [.mv 65 (.s 0),.la 66 3 (.s 13),.mv 67 (.s 2),.mv 68 (.s 12),.bs 69 1 [.s 68],.callp (some 70) n_r17_Under [.s 67,.s 69],.callp (some 71) n_r17_of [.s 65,.s 66,.s 70],.mv 64 (.s 71),.ex 72 (.s 64) 0,.ex 73 (.s 64) 1,.al 14 t_Multi [.int .i64 0,.str [],.bool false,.sl 4 []],.sf 14 4 (.s 72),.mv 15 (.s 73)]) (.seq (.seq (.reg [.mv 74 (.s 15),.bin 75 .neq (.s 74) (.i 0)]) (.cond (.s 75) (.seq (.reg [.bd 76 [.int .i64 0,.str [],.bool false,.sl 4 []] [],.mv 77 (.s 15),.st 4 (.s 6) (.s 76),.mv 7 (.s 77)]) (.ret)) (.skip))) (.reg [.fa 78 3 (.s 11),.ld 79 (.s 78),.la 80 4 (.s 14),.bs 81 4 [.s 80],.app 82 t_Multi 4 56 (.s 79) (.s 81),.fa 83 3 (.s 11),.st 1 (.s 83) (.s 82)]))))) (.reg [.bin 84 .add (.s 59) (.i 1),.mv 59 (.s 84)])
 | 12=>.seq (.reg [.bin 60 .lss (.s 59) (.s 58)]) (.seq (.cond (.s 60) (.skip) (.exit 2)) (.n 11))
 | 13=>.seq (.seq (.reg [.mv 48 (.s 8),.len 49 (.s 48),.bin 50 .eql (.s 49) (.i 0)]) (.cond (.s 50) (.seq (.reg [.fa 51 0 (.s 4),.ld 52 (.s 51),.fa 53 1 (.s 4),.ld 54 (.s 53),.bd 55 [.int .i64 0,.str [],.bool false,.nil] [(1,1,(.s 52)),(2,1,(.s 54))],.al 11 t_Multi [.int .i64 0,.str [],.bool false,.nil],.st 4 (.s 11) (.s 55),.ono t_Multi 4 3 (.s 11)]) (.seq (.seq (.reg [.fa 56 2 (.s 4),.ld 57 (.s 56),.len 58 (.s 57),.mv 59 (.i 0)]) (.blk 2 (.loop (.n 10)))) (.n 9))) (.skip))) (.n 8)
 | 14=>.seq (.seq (.reg [.mv 44 (.s 8),.len 45 (.s 44),.bin 46 .gtr (.s 45) (.i 1)]) (.cond (.s 46) (.seq (.reg [.bd 47 [.int .i64 0,.str [],.bool false,.sl 4 []] [],.st 4 (.s 6) (.s 47),.mv 7 (.i 9)]) (.ret)) (.skip))) (.n 13)
 | 15=>.gh [.ks 2 [0,2,4,6,8,29,30,31]] (.m 17)
 | 16=>.seq (.blk 1 (.seq (.reg [.ia 33 2 (.s 29) (.s 31),.la 34 2 (.s 33),.al 10 t_Step [.int .i64 0,.sl 1 []],.sf 10 2 (.s 34)]) (.seq (.reg [.fa 35 1 (.s 10),.ld 36 (.s 35),.len 37 (.s 36),.bin 38 .eql (.s 37) (.i 0)]) (.cond (.s 38) (.reg [.mv 39 (.s 8),.la 40 2 (.s 10),.bs 41 2 [.s 40],.app 42 t_Step 2 32 (.s 39) (.s 41),.mv 8 (.s 42)]) (.skip))))) (.reg [.bin 43 .add (.s 31) (.i 1),.mv 31 (.s 43)])
 | 17=>.seq (.reg [.bin 32 .lss (.s 31) (.s 30)]) (.seq (.cond (.s 32) (.skip) (.exit 0)) (.n 16))
 | _=>.skip
def body:C:=.seq (.reg [.br 4 t_Term (.s 1),.al 6 t_Multi [.int .i64 0,.str [],.bool false,.sl 4 []],.mv 7 (.i 0)]) (.seq (.reg [.mv 8 (.c .nil),.non 8 t_Step 2]) (.seq (.seq (.reg [.mv 29 (.s 2),.len 30 (.s 29),.mv 31 (.i 0)]) (.blk 0 (.loop (.n 15)))) (.n 14)))
def rs:List RV:=[.a 6 4,.t 7]
attribute [push_cast] nd body
theorem ok:okF prog n_r17_of nd body 3 rs = true:=by kernel_rfl
abbrev L5 (v0 v2 v4 v6 v16 v17 v18 v21 v107 v108 v109 v115 v116 v117:V) (B:Nat) (H:List Ob) (Q:X→T→List Ob→Prop):Prop:=Run prog nd B [.c (.m 5),.c (.loop (.n 3)),.mk 6,.mk 5,.c (.reg [.bin 161 .add (.s 109) (.i 1),.mv 109 (.s 161)]),.c (.loop (.n 2)),.mk 4,.c (.n 1)] [(0,v0),(2,v2),(4,v4),(6,v6),(16,v16),(17,v17),(18,v18),(21,v21),(107,v107),(108,v108),(109,v109),(115,v115),(116,v116),(117,v117)] H Q
theorem G5 (h:Run prog nd B (.c (nd 5) :: s) t H Q):Run prog nd B (.c (.m 5) :: s) t H Q:=run_m.2 h
abbrev L7 (v0 v2 v4 v6 v16 v17 v18 v107 v108 v109:V) (B:Nat) (H:List Ob) (Q:X→T→List Ob→Prop):Prop:=Run prog nd B [.c (.m 7),.c (.loop (.n 2)),.mk 4,.c (.n 1)] [(0,v0),(2,v2),(4,v4),(6,v6),(16,v16),(17,v17),(18,v18),(107,v107),(108,v108),(109,v109)] H Q
theorem G7 (h:Run prog nd B (.c (nd 7) :: s) t H Q):Run prog nd B (.c (.m 7) :: s) t H Q:=run_m.2 h
abbrev L12 (v0 v2 v6 v11 v57 v58 v59:V) (B:Nat) (H:List Ob) (Q:X→T→List Ob→Prop):Prop:=Run prog nd B [.c (.m 12),.c (.loop (.n 10)),.mk 2,.c (.n 9),.c (.n 8)] [(0,v0),(2,v2),(6,v6),(11,v11),(57,v57),(58,v58),(59,v59)] H Q
theorem G12 (h:Run prog nd B (.c (nd 12) :: s) t H Q):Run prog nd B (.c (.m 12) :: s) t H Q:=run_m.2 h
abbrev L17 (v0 v2 v4 v6 v8 v29 v30 v31:V) (B:Nat) (H:List Ob) (Q:X→T→List Ob→Prop):Prop:=Run prog nd B [.c (.m 17),.c (.loop (.n 15)),.mk 0,.c (.n 14)] [(0,v0),(2,v2),(4,v4),(6,v6),(8,v8),(29,v29),(30,v30),(31,v31)] H Q
theorem G17 (h:Run prog nd B (.c (nd 17) :: s) t H Q):Run prog nd B (.c (.m 17) :: s) t H Q:=run_m.2 h
end r17_of
namespace r17_Small
def nd (_:Nat):C:=.skip
def body:C:=.seq (.reg [.br 1 t_Multi (.s 0),.mv 2 (.c (.bool false))]) (.seq (.reg [.la 6 4 (.s 1),.callp (some 7) n_r17_Size [.s 6],.mv 5 (.s 7),.ex 8 (.s 5) 0,.ex 9 (.s 5) 1,.mv 3 (.s 8),.mv 4 (.s 9)]) (.seq (.reg [.mv 10 (.s 3),.bin 11 .leq (.s 10) (.i 4000),.mv 12 (.s 11),.gd (.s 12) true [13,14] [.mv 13 (.s 4),.bin 14 .leq (.s 13) (.i 200)],.pick 15 (.s 12) (.s 14) (.c (.bool false)),.mv 2 (.s 15)]) (.ret)))
def rs:List RV:=[.t 2]
attribute [push_cast] nd body
theorem ok:okF prog n_r17_Small nd body 1 rs = true:=by kernel_rfl
end r17_Small
namespace r17_contains
def nd:Nat→C
 | 0=>.seq (.reg [.mv 4 (.c (.bool false))]) (.ret)
 | 1=>.gh [.ks 0 [3,7,8,9]] (.m 3)
 | 2=>.seq (.blk 1 (.seq (.reg [.ia 11 2 (.s 7) (.s 9),.la 12 2 (.s 11),.al 6 t_Step [.int .i64 0,.sl 1 []],.sf 6 2 (.s 12)]) (.seq (.reg [.fa 13 0 (.s 6),.ld 14 (.s 13),.fa 15 0 (.s 3),.ld 16 (.s 15),.bin 17 .eql (.s 14) (.s 16),.mv 18 (.s 17),.gd (.s 18) true [19,20,21,22,23] [.fa 19 1 (.s 6),.ld 20 (.s 19),.fa 21 1 (.s 3),.ld 22 (.s 21),.callp (some 23) n_r01_SamePos [.s 20,.s 22]],.pick 24 (.s 18) (.s 23) (.c (.bool false))]) (.cond (.s 24) (.seq (.reg [.mv 4 (.c (.bool true))]) (.ret)) (.skip))))) (.reg [.bin 25 .add (.s 9) (.i 1),.mv 9 (.s 25)])
 | 3=>.seq (.reg [.bin 10 .lss (.s 9) (.s 8)]) (.seq (.cond (.s 10) (.skip) (.exit 0)) (.n 2))
 | _=>.skip
def body:C:=.seq (.reg [.br 3 t_Step (.s 1),.mv 4 (.c (.bool false))]) (.seq (.seq (.reg [.mv 7 (.s 0),.len 8 (.s 7),.mv 9 (.i 0)]) (.blk 0 (.loop (.n 1)))) (.n 0))
def rs:List RV:=[.t 4]
attribute [push_cast] nd body
theorem ok:okF prog n_r17_contains nd body 2 rs = true:=by kernel_rfl
abbrev L3 (v3 v7 v8 v9:V) (B:Nat) (H:List Ob) (Q:X→T→List Ob→Prop):Prop:=Run prog nd B [.c (.m 3),.c (.loop (.n 1)),.mk 0,.c (.n 0)] [(3,v3),(7,v7),(8,v8),(9,v9)] H Q
theorem G3 (h:Run prog nd B (.c (nd 3) :: s) t H Q):Run prog nd B (.c (.m 3) :: s) t H Q:=run_m.2 h
end r17_contains
namespace slices_Clone_s_int_int
def nd:Nat→C
 | 0=>.seq (.reg [.bo 5 t_int 1 [],.mv 6 (.s 0),.app 7 t_int 1 8 (.s 5) (.s 6),.mv 2 (.s 7)]) (.ret)
 | _=>.skip
def body:C:=.seq (.reg [.mv 2 (.c .nil),.non 2 t_int 1]) (.seq (.seq (.reg [.mv 3 (.s 0),.nl 4 false (.s 3)]) (.cond (.s 4) (.seq (.reg [.mv 2 (.c .nil),.non 2 t_int 1]) (.ret)) (.skip))) (.n 0))
def rs:List RV:=[.t 2]
attribute [push_cast] nd body
theorem ok:okF prog n_slices_Clone_s_int_int nd body 1 rs = true:=by kernel_rfl
end slices_Clone_s_int_int
namespace term_VarsOf
def nd:Nat→C
 | 0=>.seq (.reg [.mv 37 (.s 8),.call (some 38) n_slices_Sort_s_string_string [.s 37],.frz 8]) (.seq (.reg [.mv 39 (.s 8),.mv 2 (.s 39)]) (.ret))
 | 1=>.gh [.ks 4 [8,28]] (.m 3)
 | 2=>.blk 5 (.seq (.reg [.en 31 (.s 28),.ex 32 (.s 31) 0,.mv 9 (.s 32)]) (.reg [.mv 33 (.s 8),.mv 34 (.s 9),.bs 35 1 [.s 34],.apr 36 t_string 1 16 (.s 33) (.s 35),.mv 8 (.s 36)]))
 | 3=>.seq (.reg [.nx 29 (.s 28),.ex 30 (.s 29) 0]) (.seq (.cond (.s 30) (.skip) (.exit 4)) (.n 2))
 | 4=>.seq (.reg [.mv 8 (.c .nil),.rnon 8 t_string 1]) (.seq (.seq (.reg [.ld 27 (.s 3),.rg 28 (.s 27)]) (.blk 4 (.loop (.n 1)))) (.n 0))
 | 5=>.gh [.ks 2 [3,7,11,12,13]] (.m 8)
 | 6=>.blk 3 (.seq (.reg [.fa 21 1 (.s 7),.ld 22 (.s 21)]) (.cond (.s 22) (.reg [.ld 23 (.s 3),.fa 24 0 (.s 7),.ld 25 (.s 24),.mup true (.s 23) (.s 25) (.c (.bool true))]) (.skip)))
 | 7=>.seq (.blk 1 (.seq (.reg [.ia 15 3 (.s 11) (.s 13),.la 16 3 (.s 15),.al 5 t_Term [.str [],.bool false,.sl 3 []],.sf 5 3 (.s 16)]) (.seq (.reg [.la 17 3 (.s 5),.callp (some 18) n_term_Walk [.s 17]]) (.blk 2 (.rf (.s 18) [19,20] (.reg [.al 7 t_Term [.str [],.bool false,.sl 3 []],.sf 7 3 (.s 20)]) (.m 6)))))) (.reg [.bin 26 .add (.s 13) (.i 1),.mv 13 (.s 26)])
 | 8=>.seq (.reg [.bin 14 .lss (.s 13) (.s 12)]) (.seq (.cond (.s 14) (.skip) (.exit 0)) (.n 7))
 | _=>.skip
def body:C:=.seq (.reg [.mv 2 (.c (.sl 1 []))]) (.seq (.reg [.mkm 10,.al 3 t_m_string_bool [.nilm],.st 1 (.s 3) (.s 10)]) (.seq (.seq (.reg [.mv 11 (.s 0),.len 12 (.s 11),.mv 13 (.i 0)]) (.blk 0 (.loop (.n 5)))) (.n 4)))
def rs:List RV:=[.t 2]
attribute [push_cast] nd body
theorem ok:okF prog n_term_VarsOf nd body 1 rs = true:=by kernel_rfl
abbrev L3 (v8 v28:V) (B:Nat) (H:List Ob) (Q:X→T→List Ob→Prop):Prop:=Run prog nd B [.c (.m 3),.c (.loop (.n 1)),.mk 4,.c (.n 0)] [(8,v8),(28,v28)] H Q
theorem G3 (h:Run prog nd B (.c (nd 3) :: s) t H Q):Run prog nd B (.c (.m 3) :: s) t H Q:=run_m.2 h
abbrev L8 (v3 v7 v11 v12 v13:V) (B:Nat) (H:List Ob) (Q:X→T→List Ob→Prop):Prop:=Run prog nd B [.c (.m 8),.c (.loop (.n 5)),.mk 0,.c (.n 4)] [(3,v3),(7,v7),(11,v11),(12,v12),(13,v13)] H Q
theorem G8 (h:Run prog nd B (.c (nd 8) :: s) t H Q):Run prog nd B (.c (.m 8) :: s) t H Q:=run_m.2 h
end term_VarsOf
namespace multi_occurrences
def nd:Nat→C
 | 0=>.seq (.reg [.ld 25 (.s 5),.mv 4 (.s 25)]) (.ret)
 | 1=>.blk 1 (.seq (.reg [.fa 12 1 (.s 7),.ld 13 (.s 12),.mv 14 (.s 13),.gd (.s 14) true [15,16,17,18] [.fa 15 0 (.s 7),.ld 16 (.s 15),.ld 17 (.s 3),.bin 18 .eql (.s 16) (.s 17)],.pick 19 (.s 14) (.s 18) (.c (.bool false))]) (.cond (.s 19) (.dr [0,1,2,3,4,5] [.ld 20 (.s 5),.mv 21 (.s 6),.callp (some 22) n_slices_Clone_s_int_int [.s 21],.bs 23 1 [.s 22],.app 24 t_s_int 1 24 (.s 20) (.s 23),.st 1 (.s 5) (.s 24)]) (.skip)))
 | _=>.skip
def body:C:=.seq (.reg [.br 2 t_Term (.s 0),.br 3 t_string (.s 1),.mv 4 (.c (.sl 1 []))]) (.seq (.reg [.al 5 t_s_s_int [.nil],.ono t_s_int 1 0 (.s 5)]) (.seq (.seq (.reg [.la 8 3 (.s 2),.callp (some 9) n_term_Walk [.s 8]]) (.blk 0 (.rf (.s 9) [10,11] (.seq (.reg [.mv 6 (.s 10)]) (.reg [.al 7 t_Term [.str [],.bool false,.sl 3 []],.sf 7 3 (.s 11)])) (.m 1)))) (.n 0)))
def rs:List RV:=[.t 4]
attribute [push_cast] nd body
theorem ok:okF prog n_multi_occurrences nd body 2 rs = true:=by kernel_rfl
end multi_occurrences
namespace slices_Concat_s_int_int
def nd:Nat→C
 | 0=>.seq (.reg [.mv 35 (.s 6),.mv 2 (.s 35)]) (.ret)
 | 1=>.gh [.ks 1 [6,25,26,27]] (.m 3)
 | 2=>.seq (.blk 3 (.seq (.reg [.ia 29 1 (.s 25) (.s 27),.ld 30 (.s 29),.mv 8 (.s 30)]) (.reg [.mv 31 (.s 6),.mv 32 (.s 8),.app 33 t_int 1 8 (.s 31) (.s 32),.mv 6 (.s 33)]))) (.reg [.bin 34 .add (.s 27) (.i 1),.mv 27 (.s 34)])
 | 3=>.seq (.reg [.bin 28 .lss (.s 27) (.s 26)]) (.seq (.cond (.s 28) (.skip) (.exit 2)) (.n 2))
 | 4=>.seq (.reg [.mv 23 (.s 3),.call (some 24) n_slices_Grow_s_int_int [(.c .nil),.s 23],.mv 6 (.s 24)]) (.seq (.seq (.reg [.mv 25 (.s 0),.len 26 (.s 25),.mv 27 (.i 0)]) (.blk 2 (.loop (.n 1)))) (.n 0))
 | 5=>.gh [.ks 0 [0,3,9,10,11]] (.m 7)
 | 6=>.seq (.blk 1 (.seq (.reg [.ia 13 1 (.s 9) (.s 11),.ld 14 (.s 13),.mv 5 (.s 14)]) (.seq (.reg [.mv 15 (.s 3),.mv 16 (.s 5),.len 17 (.s 16),.bin 18 .add (.s 15) (.s 17),.mv 3 (.s 18)]) (.seq (.reg [.mv 19 (.s 3),.bin 20 .lss (.s 19) (.i 0)]) (.cond (.s 20) (.bad) (.skip)))))) (.reg [.bin 22 .add (.s 11) (.i 1),.mv 11 (.s 22)])
 | 7=>.seq (.reg [.bin 12 .lss (.s 11) (.s 10)]) (.seq (.cond (.s 12) (.skip) (.exit 0)) (.n 6))
 | _=>.skip
def body:C:=.seq (.reg [.mv 2 (.c (.sl 1 []))]) (.seq (.reg [.mv 3 (.i 0)]) (.seq (.seq (.reg [.mv 9 (.s 0),.len 10 (.s 9),.mv 11 (.i 0)]) (.blk 0 (.loop (.n 5)))) (.n 4)))
def rs:List RV:=[.t 2]
attribute [push_cast] nd body
theorem ok:okF prog n_slices_Concat_s_int_int nd body 1 rs = true:=by kernel_rfl
abbrev L3 (v6 v25 v26 v27:V) (B:Nat) (H:List Ob) (Q:X→T→List Ob→Prop):Prop:=Run prog nd B [.c (.m 3),.c (.loop (.n 1)),.mk 2,.c (.n 0)] [(6,v6),(25,v25),(26,v26),(27,v27)] H Q
theorem G3 (h:Run prog nd B (.c (nd 3) :: s) t H Q):Run prog nd B (.c (.m 3) :: s) t H Q:=run_m.2 h
abbrev L7 (v0 v3 v9 v10 v11:V) (B:Nat) (H:List Ob) (Q:X→T→List Ob→Prop):Prop:=Run prog nd B [.c (.m 7),.c (.loop (.n 5)),.mk 0,.c (.n 4)] [(0,v0),(3,v3),(9,v9),(10,v10),(11,v11)] H Q
theorem G7 (h:Run prog nd B (.c (nd 7) :: s) t H Q):Run prog nd B (.c (.m 7) :: s) t H Q:=run_m.2 h
end slices_Concat_s_int_int
namespace cmp_Compare_int
def nd:Nat→C
 | 0=>.seq (.reg [.mv 4 (.i 0)]) (.ret)
 | 1=>.seq (.seq (.reg [.mv 17 (.s 0),.mv 18 (.s 1),.bin 19 .gtr (.s 17) (.s 18)]) (.cond (.s 19) (.seq (.reg [.mv 4 (.i 1)]) (.ret)) (.skip))) (.n 0)
 | 2=>.seq (.seq (.reg [.mv 14 (.s 0),.mv 15 (.s 1),.bin 16 .lss (.s 14) (.s 15)]) (.cond (.s 16) (.seq (.reg [.mv 4 (.i (-1))]) (.ret)) (.skip))) (.n 1)
 | 3=>.seq (.seq (.reg [.mv 13 (.s 6)]) (.cond (.s 13) (.seq (.reg [.mv 4 (.i 1)]) (.ret)) (.skip))) (.n 2)
 | 4=>.seq (.reg [.mv 4 (.i (-1))]) (.ret)
 | _=>.skip
def body:C:=.seq (.reg [.mv 4 (.i 0)]) (.seq (.reg [.mv 7 (.s 0),.callp (some 8) n_cmp_isNaN_int [.s 7],.mv 5 (.s 8)]) (.seq (.reg [.mv 9 (.s 1),.callp (some 10) n_cmp_isNaN_int [.s 9],.mv 6 (.s 10)]) (.seq (.seq (.reg [.mv 11 (.s 5)]) (.cond (.s 11) (.seq (.seq (.reg [.mv 12 (.s 6)]) (.cond (.s 12) (.seq (.reg [.mv 4 (.i 0)]) (.ret)) (.skip))) (.n 4)) (.skip))) (.n 3))))
def rs:List RV:=[.t 4]
attribute [push_cast] nd body
theorem ok:okF prog n_cmp_Compare_int nd body 2 rs = true:=by kernel_rfl
end cmp_Compare_int
namespace r01_CheckSystem
def nd:Nat→C
 | 0=>.seq (.reg [.mv 2 (.i 0)]) (.ret)
 | 1=>.gh [.ks 0 [20,21,22]] (.m 3)
 | 2=>.seq (.blk 1 (.seq (.reg [.ia 24 6 (.s 20) (.s 22),.la 25 6 (.s 24),.al 7 t_Rule [.str [],.bool false,.sl 3 [],.str [],.bool false,.sl 3 []],.sf 7 6 (.s 25)]) (.seq (.reg [.fa 26 0 (.s 7),.fa 27 1 (.s 26),.ld 28 (.s 27),.mv 29 (.s 28),.gd (.s 29) false [30,31,32,33,34,35] [.fa 30 3 (.s 7),.la 31 3 (.s 30),.fa 32 0 (.s 7),.la 33 3 (.s 32),.callp (some 34) n_r01_Within [.s 31,.s 33],.un 35 .not (.s 34)],.pick 36 (.s 29) (.c (.bool true)) (.s 35)]) (.cond (.s 36) (.seq (.reg [.mv 2 (.i 7)]) (.ret)) (.skip))))) (.reg [.bin 37 .add (.s 22) (.i 1),.mv 22 (.s 37)])
 | 3=>.seq (.reg [.bin 23 .lss (.s 22) (.s 21)]) (.seq (.cond (.s 23) (.skip) (.exit 0)) (.n 2))
 | 4=>.seq (.seq (.reg [.mv 20 (.s 0),.len 21 (.s 20),.mv 22 (.i 0)]) (.blk 0 (.loop (.n 1)))) (.n 0)
 | 5=>.seq (.seq (.reg [.mv 14 (.s 0),.callp (some 15) n_r01_Symbols [.s 14],.mv 13 (.s 15),.ex 16 (.s 13) 0,.ex 17 (.s 13) 1,.mv 4 (.s 16),.mv 5 (.s 17)]) (.seq (.reg [.mv 18 (.s 5),.un 19 .not (.s 18)]) (.cond (.s 19) (.seq (.reg [.mv 2 (.i 6)]) (.ret)) (.skip)))) (.n 4)
 | _=>.skip
def body:C:=.seq (.reg [.mv 2 (.i 0)]) (.seq (.seq (.reg [.mv 8 (.s 0),.callp (some 9) n_r01_Rules [.s 8],.mv 3 (.s 9)]) (.seq (.reg [.mv 10 (.s 3),.bin 11 .neq (.s 10) (.i 0)]) (.cond (.s 11) (.seq (.reg [.mv 12 (.s 3),.mv 2 (.s 12)]) (.ret)) (.skip)))) (.n 5))
def rs:List RV:=[.t 2]
attribute [push_cast] nd body
theorem ok:okF prog n_r01_CheckSystem nd body 1 rs = true:=by kernel_rfl
abbrev L3 (v20 v21 v22:V) (B:Nat) (H:List Ob) (Q:X→T→List Ob→Prop):Prop:=Run prog nd B [.c (.m 3),.c (.loop (.n 1)),.mk 0,.c (.n 0)] [(20,v20),(21,v21),(22,v22)] H Q
theorem G3 (h:Run prog nd B (.c (nd 3) :: s) t H Q):Run prog nd B (.c (.m 3) :: s) t H Q:=run_m.2 h
end r01_CheckSystem
namespace multi_Target_1
def nd (_:Nat):C:=.skip
def body:C:=.seq (.reg [.br 1 t_Rule (.s 0),.al 2 t_Term [.str [],.bool false,.sl 3 []]]) (.seq (.reg [.fa 3 3 (.s 1),.la 4 3 (.s 3),.st 3 (.s 2) (.s 4)]) (.ret))
def rs:List RV:=[.a 2 3]
attribute [push_cast] nd body
theorem ok:okF prog n_multi_Target_1 nd body 1 rs = true:=by kernel_rfl
end multi_Target_1
namespace multi_develop
def nd:Nat→C
 | 0=>.seq (.reg [.la 98 4 (.s 10),.st 4 (.s 6) (.s 98),.mv 7 (.i 0)]) (.ret)
 | 1=>.gh [.ks 6 [0,2,4,6,10,11,12,13]] (.m 7)
 | 2=>.seq (.dr [0,1,2,3,4,5,6,7,8,9,10,11] [.la 85 4 (.s 4),.mv 86 (.s 12),.mv 87 (.s 0),.la 88 4 (.s 14),.callp (some 89) n_multi_contract [.s 87,.s 88],.callp (some 90) n_multi_set [.s 85,.s 86,.s 89],.callp (some 91) n_multi_Fit [.s 90],.mv 84 (.s 91),.ex 92 (.s 84) 0,.ex 93 (.s 84) 1,.st 4 (.s 4) (.s 92),.mv 9 (.s 93)]) (.seq (.reg [.mv 94 (.s 9),.bin 95 .neq (.s 94) (.i 0)]) (.cond (.s 95) (.seq (.reg [.bd 96 [.str [],.bool false,.sl 3 [],.sl 2 []] [],.mv 97 (.s 9),.st 4 (.s 6) (.s 96),.mv 7 (.s 97)]) (.ret)) (.skip)))
 | 3=>.gh [.ks 7 [0,2,4,6,10,11,12,14,50,51,52]] (.m 5)
 | 4=>.seq (.blk 3 (.seq (.reg [.ia 54 1 (.s 50) (.s 52),.ld 55 (.s 54),.mv 16 (.s 55)]) (.seq (.reg [.fa 56 0 (.s 14),.ld 57 (.s 56),.bin 58 .sub (.s 57) (.i 1),.mv 59 (.s 16),.bd 60 [.int .i64 0,.sl 1 []] [(0,1,(.s 58)),(1,1,(.s 59))],.al 17 t_Step [.int .i64 0,.sl 1 []],.sf 17 2 (.s 60)]) (.seq (.seq (.reg [.mv 62 (.s 0),.la 63 3 (.s 11),.la 64 2 (.s 17),.callp (some 65) n_rewrite_Do [.s 62,.s 63,.s 64],.mv 61 (.s 65),.ex 66 (.s 61) 0,.ex 67 (.s 61) 1,.st 3 (.s 11) (.s 66),.mv 9 (.s 67)]) (.seq (.reg [.mv 68 (.s 9),.bin 69 .neq (.s 68) (.i 0),.mv 70 (.s 69),.gd (.s 70) false [71,72,73,74] [.fa 71 3 (.s 10),.ld 72 (.s 71),.len 73 (.s 72),.bin 74 .eql (.s 73) (.i 4096)],.pick 75 (.s 70) (.c (.bool true)) (.s 74)]) (.cond (.s 75) (.seq (.reg [.bd 76 [.str [],.bool false,.sl 3 [],.sl 2 []] [],.st 4 (.s 6) (.s 76),.mv 7 (.i 3)]) (.ret)) (.skip)))) (.reg [.fa 77 3 (.s 10),.ld 78 (.s 77),.la 79 2 (.s 17),.bs 80 2 [.s 79],.app 81 t_Step 2 32 (.s 78) (.s 80),.fa 82 3 (.s 10),.st 1 (.s 82) (.s 81)]))))) (.reg [.bin 83 .add (.s 52) (.i 1),.mv 52 (.s 83)])
 | 5=>.seq (.reg [.bin 53 .lss (.s 52) (.s 51)]) (.seq (.cond (.s 53) (.skip) (.exit 2)) (.n 4))
 | 6=>.seq (.blk 1 (.seq (.reg [.la 44 4 (.s 4),.mv 45 (.s 12),.callp (some 46) n_multi_node [.s 44,.s 45],.al 14 t_Multi [.int .i64 0,.str [],.bool false,.sl 4 []],.sf 14 4 (.s 46)]) (.seq (.seq (.reg [.mv 47 (.s 0),.la 48 4 (.s 4),.mv 49 (.s 12),.callp (some 50) n_multi_places [.s 47,.s 48,.s 49],.len 51 (.s 50),.mv 52 (.i 0)]) (.blk 2 (.loop (.n 3)))) (.n 2)))) (.reg [.mv 39 (.s 2),.la 40 4 (.s 4),.callvp (some 41) (.s 39) [.s 40,(.c (.sl 1 []))],.mv 38 (.s 41),.ex 42 (.s 38) 0,.ex 43 (.s 38) 1,.mv 12 (.s 42),.mv 13 (.s 43)])
 | 7=>.seq (.seq (.reg [.mv 37 (.s 13)]) (.cond (.s 37) (.skip) (.exit 0))) (.n 6)
 | 8=>.seq (.dr [0,1,2] [.lar 28 3 (.s 8),.bd 29 [.str [],.bool false,.sl 3 [],.nil] [(0,3,(.s 28))],.lar 30 3 (.s 8),.alt [([3,4,5,6],[.al 10 t_Chain [.str [],.bool false,.sl 3 [],.nil],.al 11 t_Term [.str [],.bool false,.sl 3 []],.st 4 (.s 10) (.s 29),.st 3 (.s 11) (.s 30)]),([4,3,5,6],[.al 11 t_Term [.str [],.bool false,.sl 3 []],.al 10 t_Chain [.str [],.bool false,.sl 3 [],.nil],.st 4 (.s 10) (.s 29),.st 3 (.s 11) (.s 30)])]]) (.gh [.ono t_Step 2 3 (.s 10)] (.seq (.seq (.reg [.mv 32 (.s 2),.la 33 4 (.s 4),.callvp (some 34) (.s 32) [.s 33,(.c (.sl 1 []))],.mv 31 (.s 34),.ex 35 (.s 31) 0,.ex 36 (.s 31) 1,.mv 12 (.s 35),.mv 13 (.s 36)]) (.blk 0 (.loop (.n 1)))) (.n 0)))
 | _=>.skip
def body:C:=.seq (.reg [.bx 4 t_Multi (.s 1),.al 6 t_Chain [.str [],.bool false,.sl 3 [],.sl 2 []],.mv 7 (.i 0)]) (.seq (.reg [.mv 19 (.s 0),.la 20 4 (.s 4),.callp (some 21) n_multi_Source [.s 19,.s 20],.mv 18 (.s 21),.ex 22 (.s 18) 0,.ex 23 (.s 18) 1,.al 8 t_Term [.str [],.bool false,.sl 3 []],.sf 8 3 (.s 22),.mv 9 (.s 23)]) (.seq (.seq (.reg [.mv 24 (.s 9),.bin 25 .neq (.s 24) (.i 0)]) (.cond (.s 25) (.seq (.reg [.bd 26 [.str [],.bool false,.sl 3 [],.sl 2 []] [],.mv 27 (.s 9),.st 4 (.s 6) (.s 26),.mv 7 (.s 27)]) (.ret)) (.skip))) (.n 8)))
def rs:List RV:=[.a 6 4,.t 7]
attribute [push_cast] nd body
theorem ok:okF prog n_multi_develop nd body 3 rs = true:=by kernel_rfl
abbrev L5 (v0 v2 v4 v6 v10 v11 v12 v14 v50 v51 v52:V) (B:Nat) (H:List Ob) (Q:X→T→List Ob→Prop):Prop:=Run prog nd B [.c (.m 5),.c (.loop (.n 3)),.mk 2,.c (.n 2),.mk 1,.c (.reg [.mv 39 (.s 2),.la 40 4 (.s 4),.callvp (some 41) (.s 39) [.s 40,(.c (.sl 1 []))],.mv 38 (.s 41),.ex 42 (.s 38) 0,.ex 43 (.s 38) 1,.mv 12 (.s 42),.mv 13 (.s 43)]),.c (.loop (.n 1)),.mk 0,.c (.n 0)] [(0,v0),(2,v2),(4,v4),(6,v6),(10,v10),(11,v11),(12,v12),(14,v14),(50,v50),(51,v51),(52,v52)] H Q
theorem G5 (h:Run prog nd B (.c (nd 5) :: s) t H Q):Run prog nd B (.c (.m 5) :: s) t H Q:=run_m.2 h
abbrev L7 (v0 v2 v4 v6 v10 v11 v12 v13:V) (B:Nat) (H:List Ob) (Q:X→T→List Ob→Prop):Prop:=Run prog nd B [.c (.m 7),.c (.loop (.n 1)),.mk 0,.c (.n 0)] [(0,v0),(2,v2),(4,v4),(6,v6),(10,v10),(11,v11),(12,v12),(13,v13)] H Q
theorem G7 (h:Run prog nd B (.c (nd 7) :: s) t H Q):Run prog nd B (.c (.m 7) :: s) t H Q:=run_m.2 h
end multi_develop
namespace multi_first
def nd:Nat→C
 | 0=>.seq (.reg [.mv 4 (.c (.sl 1 [])),.mv 5 (.c (.bool false))]) (.ret)
 | 1=>.gh [.ks 0 [1,15,16,17]] (.m 3)
 | 2=>.seq (.blk 1 (.seq (.reg [.mv 19 (.s 17),.ia 20 4 (.s 15) (.s 17),.la 21 4 (.s 20),.al 7 t_Multi [.int .i64 0,.str [],.bool false,.sl 4 []],.mv 6 (.s 19),.sf 7 4 (.s 21)]) (.seq (.dr [0,1,3,4,2,5,6,7,8,9,10,11] [.lar 23 4 (.s 7),.mv 24 (.s 1),.mv 26 (.s 6),.bs 27 1 [.s 26],.call (some 25) n_slices_Clone_s_int_int [.s 24],.app 28 t_int 1 8 (.s 25) (.s 27),.callp (some 29) n_multi_first [.s 23,.s 28],.mv 22 (.s 29),.ex 30 (.s 22) 0,.ex 31 (.s 22) 1,.mv 8 (.s 30),.mv 9 (.s 31)]) (.seq (.reg [.mv 32 (.s 9)]) (.cond (.s 32) (.seq (.reg [.mv 33 (.s 8),.mv 4 (.s 33),.mv 5 (.c (.bool true))]) (.ret)) (.skip)))))) (.reg [.bin 34 .add (.s 17) (.i 1),.mv 17 (.s 34)])
 | 3=>.seq (.reg [.bin 18 .lss (.s 17) (.s 16)]) (.seq (.cond (.s 18) (.skip) (.exit 0)) (.n 2))
 | 4=>.seq (.seq (.reg [.fa 14 3 (.s 2),.ld 15 (.s 14),.len 16 (.s 15),.mv 17 (.i 0)]) (.blk 0 (.loop (.n 1)))) (.n 0)
 | _=>.skip
def body:C:=.seq (.reg [.br 2 t_Multi (.s 0),.mv 4 (.c (.sl 1 [])),.mv 5 (.c (.bool false))]) (.seq (.seq (.reg [.fa 10 0 (.s 2),.ld 11 (.s 10),.bin 12 .gtr (.s 11) (.i 0)]) (.cond (.s 12) (.seq (.reg [.mv 13 (.s 1),.mv 4 (.s 13),.mv 5 (.c (.bool true))]) (.ret)) (.skip))) (.n 4))
def rs:List RV:=[.t 4,.t 5]
attribute [push_cast] nd body
theorem ok:okF prog n_multi_first nd body 2 rs = true:=by kernel_rfl
abbrev L3 (v1 v15 v16 v17:V) (B:Nat) (H:List Ob) (Q:X→T→List Ob→Prop):Prop:=Run prog nd B [.c (.m 3),.c (.loop (.n 1)),.mk 0,.c (.n 0)] [(1,v1),(15,v15),(16,v16),(17,v17)] H Q
theorem G3 (h:Run prog nd B (.c (nd 3) :: s) t H Q):Run prog nd B (.c (.m 3) :: s) t H Q:=run_m.2 h
end multi_first
namespace multi_deep
def nd:Nat→C
 | 0=>.seq (.dr [0,1,2,3,4,5] [.mv 31 (.s 1),.fa 32 0 (.s 2),.ld 33 (.s 32),.bin 34 .gtr (.s 33) (.i 0),.mv 4 (.s 31),.mv 5 (.s 34)]) (.ret)
 | 1=>.gh [.ks 0 [1,2,11,12,13]] (.m 3)
 | 2=>.seq (.blk 1 (.seq (.reg [.mv 15 (.s 13),.ia 16 4 (.s 11) (.s 13),.la 17 4 (.s 16),.al 7 t_Multi [.int .i64 0,.str [],.bool false,.sl 4 []],.mv 6 (.s 15),.sf 7 4 (.s 17)]) (.seq (.dr [0,1,3,4,2,5,6,7,8,9,10,11] [.lar 19 4 (.s 7),.mv 20 (.s 1),.mv 22 (.s 6),.bs 23 1 [.s 22],.call (some 21) n_slices_Clone_s_int_int [.s 20],.app 24 t_int 1 8 (.s 21) (.s 23),.callp (some 25) n_multi_deep [.s 19,.s 24],.mv 18 (.s 25),.ex 26 (.s 18) 0,.ex 27 (.s 18) 1,.mv 8 (.s 26),.mv 9 (.s 27)]) (.seq (.reg [.mv 28 (.s 9)]) (.cond (.s 28) (.seq (.reg [.mv 29 (.s 8),.mv 4 (.s 29),.mv 5 (.c (.bool true))]) (.ret)) (.skip)))))) (.reg [.bin 30 .add (.s 13) (.i 1),.mv 13 (.s 30)])
 | 3=>.seq (.reg [.bin 14 .lss (.s 13) (.s 12)]) (.seq (.cond (.s 14) (.skip) (.exit 0)) (.n 2))
 | _=>.skip
def body:C:=.seq (.reg [.br 2 t_Multi (.s 0),.mv 4 (.c (.sl 1 [])),.mv 5 (.c (.bool false))]) (.seq (.seq (.reg [.fa 10 3 (.s 2),.ld 11 (.s 10),.len 12 (.s 11),.mv 13 (.i 0)]) (.blk 0 (.loop (.n 1)))) (.n 0))
def rs:List RV:=[.t 4,.t 5]
attribute [push_cast] nd body
theorem ok:okF prog n_multi_deep nd body 2 rs = true:=by kernel_rfl
abbrev L3 (v1 v2 v11 v12 v13:V) (B:Nat) (H:List Ob) (Q:X→T→List Ob→Prop):Prop:=Run prog nd B [.c (.m 3),.c (.loop (.n 1)),.mk 0,.c (.n 0)] [(1,v1),(2,v2),(11,v11),(12,v12),(13,v13)] H Q
theorem G3 (h:Run prog nd B (.c (nd 3) :: s) t H Q):Run prog nd B (.c (.m 3) :: s) t H Q:=run_m.2 h
end multi_deep
namespace term_CheckSystem
def nd:Nat→C
 | 0=>.seq (.reg [.mv 2 (.i 0)]) (.ret)
 | 1=>.seq (.seq (.reg [.mv 27 (.s 0),.callp (some 28) n_slices_ContainsFunc_s_Rule_Rule [.s 27,(.f n_term_extra)]]) (.cond (.s 28) (.seq (.reg [.mv 2 (.i 7)]) (.ret)) (.skip))) (.n 0)
 | 2=>.gh [.ks 2 [0,20]] (.m 4)
 | 3=>.blk 1 (.seq (.reg [.en 23 (.s 20),.ex 24 (.s 23) 0,.mv 6 (.s 24)]) (.seq (.reg [.mv 25 (.s 6),.callp (some 26) n_term_Marked [.s 25]]) (.cond (.s 26) (.seq (.reg [.mv 2 (.i 6)]) (.ret)) (.skip))))
 | 4=>.seq (.reg [.nx 21 (.s 20),.ex 22 (.s 21) 0]) (.seq (.cond (.s 22) (.skip) (.exit 0)) (.n 3))
 | 5=>.seq (.seq (.reg [.mv 19 (.s 4),.rg 20 (.s 19)]) (.blk 0 (.loop (.n 2)))) (.n 1)
 | 6=>.seq (.reg [.mv 13 (.s 0),.call (some 14) n_term_Arities [.s 13],.mv 12 (.s 14),.ex 15 (.s 12) 0,.ex 16 (.s 12) 1,.mv 4 (.s 15),.mv 5 (.s 16)]) (.seq (.seq (.reg [.mv 17 (.s 5),.un 18 .not (.s 17)]) (.cond (.s 18) (.seq (.reg [.mv 2 (.i 6)]) (.ret)) (.skip))) (.n 5))
 | _=>.skip
def body:C:=.seq (.reg [.mv 2 (.i 0)]) (.seq (.seq (.reg [.mv 7 (.s 0),.callp (some 8) n_term_CheckRules [.s 7],.mv 3 (.s 8)]) (.seq (.reg [.mv 9 (.s 3),.bin 10 .neq (.s 9) (.i 0)]) (.cond (.s 10) (.seq (.reg [.mv 11 (.s 3),.mv 2 (.s 11)]) (.ret)) (.skip)))) (.n 6))
def rs:List RV:=[.t 2]
attribute [push_cast] nd body
theorem ok:okF prog n_term_CheckSystem nd body 1 rs = true:=by kernel_rfl
abbrev L4 (v0 v20:V) (B:Nat) (H:List Ob) (Q:X→T→List Ob→Prop):Prop:=Run prog nd B [.c (.m 4),.c (.loop (.n 2)),.mk 0,.c (.n 1)] [(0,v0),(20,v20)] H Q
theorem G4 (h:Run prog nd B (.c (nd 4) :: s) t H Q):Run prog nd B (.c (.m 4) :: s) t H Q:=run_m.2 h
end term_CheckSystem
namespace multi_all
def nd (_:Nat):C:=.skip
def body:C:=.seq (.reg [.br 2 t_Multi (.s 0),.br 3 t_func_Multi_bool (.s 1),.mv 4 (.c (.bool false))]) (.seq (.reg [.ld 5 (.s 3),.la 6 4 (.s 2),.callvp (some 7) (.s 5) [.s 6],.mv 8 (.s 7),.gd (.s 8) true [9,10,11,12,13] [.fa 9 3 (.s 2),.ld 10 (.s 9),.mf 11 n_multi_all_1 [] [.s 3],.callp (some 12) n_slices_ContainsFunc_s_Multi_Multi [.s 10,.s 11],.un 13 .not (.s 12)],.pick 14 (.s 8) (.s 13) (.c (.bool false)),.mv 4 (.s 14)]) (.ret))
def rs:List RV:=[.t 4]
attribute [push_cast] nd body
theorem ok:okF prog n_multi_all nd body 2 rs = true:=by kernel_rfl
end multi_all
end Go.Dw
end
section
namespace Go.Dw
variable {s:List K} {B:Nat} {t:T} {H:List Ob} {Q:X→T→List Ob→Prop}
namespace multi_Check_1
def nd (_:Nat):C:=.skip
def body:C:=.seq (.reg [.br 2 t_Multi (.s 0),.mv 3 (.c (.bool false))]) (.seq (.reg [.fa 4 0 (.s 2),.ld 5 (.s 4),.bin 6 .geq (.s 5) (.i 0),.mv 7 (.s 6),.gd (.s 7) true [8,9,10,11,12] [.fa 8 0 (.s 2),.ld 9 (.s 8),.ld 10 (.s 1),.len 11 (.s 10),.bin 12 .leq (.s 9) (.s 11)],.pick 13 (.s 7) (.s 12) (.c (.bool false)),.mv 3 (.s 13)]) (.ret))
def rs:List RV:=[.t 3]
attribute [push_cast] nd body
theorem ok:okF prog n_multi_Check_1 nd body 2 rs = true:=by kernel_rfl
end multi_Check_1
namespace multi_Check_2
def nd (_:Nat):C:=.skip
def body:C:=.seq (.reg [.br 2 t_Multi (.s 0),.mv 3 (.c (.bool false))]) (.seq (.reg [.ld 4 (.s 1),.la 5 4 (.s 2),.callp (some 6) n_multi_formed [.s 4,.s 5],.mv 3 (.s 6)]) (.ret))
def rs:List RV:=[.t 3]
attribute [push_cast] nd body
theorem ok:okF prog n_multi_Check_2 nd body 2 rs = true:=by kernel_rfl
end multi_Check_2
namespace multi_formed
def nd:Nat→C
 | 0=>.seq (.reg [.fa 45 3 (.s 3),.ld 46 (.s 45),.len 47 (.s 46),.bin 48 .leq (.s 47) (.i 8),.mv 49 (.s 48),.gd (.s 49) true [50,51,52] [.fa 50 1 (.s 3),.ld 51 (.s 50),.callp (some 52) n_term_IsName [.s 51,(.c (.bool true))]],.pick 53 (.s 49) (.s 52) (.c (.bool false)),.mv 4 (.s 53)]) (.ret)
 | _=>.skip
def body:C:=.seq (.reg [.br 3 t_Multi (.s 1),.mv 4 (.c (.bool false))]) (.seq (.blk 0 (.seq (.reg [.fa 6 0 (.s 3),.ld 7 (.s 6),.bin 8 .gtr (.s 7) (.i 0),.mv 5 (.s 8)]) (.cond (.s 5) (.seq (.dr [0,1,2,3,4,5,6,7,8,9,10,11,12,13,14,15,16,17,18,19,20,21,22,23,24] [.fa 9 1 (.s 3),.ld 10 (.s 9),.bin 11 .eql (.s 10) (.c (.str [])),.mv 12 (.s 11),.gd (.s 12) true [13] [.fa 13 2 (.s 3)],.gd (.s 12) true [14] [.ld 14 (.s 13)],.gd (.s 12) true [15] [.un 15 .not (.s 14)],.pick 16 (.s 12) (.s 15) (.c (.bool false)),.mv 17 (.s 16),.gd (.s 17) true [18] [.fa 18 3 (.s 3)],.gd (.s 17) true [19] [.ld 19 (.s 18)],.gd (.s 17) true [20] [.len 20 (.s 19)],.gd (.s 17) true [21] [.mv 21 (.s 0)],.gd (.s 17) true [22] [.fa 22 0 (.s 3)],.gd (.s 17) true [23] [.ld 23 (.s 22)],.gd (.s 17) true [24] [.bin 24 .sub (.s 23) (.i 1)],.gd (.s 17) true [25] [.ia 25 6 (.s 21) (.s 24)],.gd (.s 17) true [26] [.fa 26 0 (.s 25)],.gd (.s 17) true [27] [.la 27 3 (.s 26)],.gd (.s 17) true [28] [.bs 28 3 [.s 27]],.gd (.s 17) true [29] [.callp (some 29) n_term_VarsOf [.s 28]],.gd (.s 17) true [30] [.len 30 (.s 29)],.gd (.s 17) true [31] [.bin 31 .eql (.s 20) (.s 30)],.pick 32 (.s 17) (.s 31) (.c (.bool false)),.mv 4 (.s 32)]) (.ret)) (.seq (.reg [.fa 34 2 (.s 3),.ld 35 (.s 34),.mv 33 (.s 35)]) (.cond (.s 33) (.seq (.reg [.fa 36 3 (.s 3),.ld 37 (.s 36),.len 38 (.s 37),.bin 39 .eql (.s 38) (.i 0),.mv 40 (.s 39),.gd (.s 40) true [41,42,43] [.fa 41 1 (.s 3),.ld 42 (.s 41),.callp (some 43) n_term_IsName [.s 42,(.c (.bool false))]],.pick 44 (.s 40) (.s 43) (.c (.bool false)),.mv 4 (.s 44)]) (.ret)) (.skip)))))) (.n 0))
def rs:List RV:=[.t 4]
attribute [push_cast] nd body
theorem ok:okF prog n_multi_formed nd body 2 rs = true:=by kernel_rfl
end multi_formed
namespace multi_size
def nd:Nat→C
 | 0=>.seq (.reg [.mv 20 (.s 3),.mv 2 (.s 20)]) (.ret)
 | 1=>.gh [.ks 0 [3,7,8,9]] (.m 3)
 | 2=>.seq (.blk 1 (.seq (.reg [.ia 11 4 (.s 7) (.s 9),.la 12 4 (.s 11),.al 5 t_Multi [.int .i64 0,.str [],.bool false,.sl 4 []],.sf 5 4 (.s 12)]) (.seq (.reg [.mv 13 (.s 3),.la 14 4 (.s 5),.callp (some 15) n_multi_size [.s 14],.bin 16 .add (.s 13) (.s 15),.mv 3 (.s 16)]) (.seq (.reg [.mv 17 (.s 3),.bin 18 .gtr (.s 17) (.i 4000)]) (.cond (.s 18) (.exit 0) (.skip)))))) (.reg [.bin 19 .add (.s 9) (.i 1),.mv 9 (.s 19)])
 | 3=>.seq (.reg [.bin 10 .lss (.s 9) (.s 8)]) (.seq (.cond (.s 10) (.skip) (.exit 0)) (.n 2))
 | _=>.skip
def body:C:=.seq (.reg [.br 1 t_Multi (.s 0),.mv 2 (.i 0)]) (.seq (.reg [.mv 3 (.i 1)]) (.seq (.seq (.reg [.fa 6 3 (.s 1),.ld 7 (.s 6),.len 8 (.s 7),.mv 9 (.i 0)]) (.blk 0 (.loop (.n 1)))) (.n 0)))
def rs:List RV:=[.t 2]
attribute [push_cast] nd body
theorem ok:okF prog n_multi_size nd body 1 rs = true:=by kernel_rfl
abbrev L3 (v3 v7 v8 v9:V) (B:Nat) (H:List Ob) (Q:X→T→List Ob→Prop):Prop:=Run prog nd B [.c (.m 3),.c (.loop (.n 1)),.mk 0,.c (.n 0)] [(3,v3),(7,v7),(8,v8),(9,v9)] H Q
theorem G3 (h:Run prog nd B (.c (nd 3) :: s) t H Q):Run prog nd B (.c (.m 3) :: s) t H Q:=run_m.2 h
end multi_size
namespace multi_depth
def nd:Nat→C
 | 0=>.seq (.reg [.mv 18 (.s 3),.bin 19 .add (.s 18) (.i 1),.mv 2 (.s 19)]) (.ret)
 | 1=>.gh [.ks 0 [3,7,8,9]] (.m 3)
 | 2=>.seq (.blk 1 (.seq (.reg [.ia 11 4 (.s 7) (.s 9),.la 12 4 (.s 11),.al 5 t_Multi [.int .i64 0,.str [],.bool false,.sl 4 []],.sf 5 4 (.s 12)]) (.reg [.mv 13 (.s 3),.la 14 4 (.s 5),.callp (some 15) n_multi_depth [.s 14],.mx 16 (.s 13) (.s 15),.mv 3 (.s 16)]))) (.reg [.bin 17 .add (.s 9) (.i 1),.mv 9 (.s 17)])
 | 3=>.seq (.reg [.bin 10 .lss (.s 9) (.s 8)]) (.seq (.cond (.s 10) (.skip) (.exit 0)) (.n 2))
 | _=>.skip
def body:C:=.seq (.reg [.br 1 t_Multi (.s 0),.mv 2 (.i 0)]) (.seq (.reg [.mv 3 (.i 0)]) (.seq (.seq (.reg [.fa 6 3 (.s 1),.ld 7 (.s 6),.len 8 (.s 7),.mv 9 (.i 0)]) (.blk 0 (.loop (.n 1)))) (.n 0)))
def rs:List RV:=[.t 2]
attribute [push_cast] nd body
theorem ok:okF prog n_multi_depth nd body 1 rs = true:=by kernel_rfl
abbrev L3 (v3 v7 v8 v9:V) (B:Nat) (H:List Ob) (Q:X→T→List Ob→Prop):Prop:=Run prog nd B [.c (.m 3),.c (.loop (.n 1)),.mk 0,.c (.n 0)] [(3,v3),(7,v7),(8,v8),(9,v9)] H Q
theorem G3 (h:Run prog nd B (.c (nd 3) :: s) t H Q):Run prog nd B (.c (.m 3) :: s) t H Q:=run_m.2 h
end multi_depth
namespace r01_Vars
def nd:Nat→C
 | 0=>.seq (.reg [.mv 16 (.s 3),.mv 2 (.s 16)]) (.ret)
 | 1=>.gh [.ks 0 [3,6,7,8]] (.m 3)
 | 2=>.seq (.blk 1 (.seq (.reg [.ia 10 3 (.s 6) (.s 8),.la 11 3 (.s 10),.al 5 t_Term [.str [],.bool false,.sl 3 []],.sf 5 3 (.s 11)]) (.reg [.la 12 3 (.s 5),.mv 13 (.s 3),.callp (some 14) n_r01_collect [.s 12,.s 13],.mv 3 (.s 14)]))) (.reg [.bin 15 .add (.s 8) (.i 1),.mv 8 (.s 15)])
 | 3=>.seq (.reg [.bin 9 .lss (.s 8) (.s 7)]) (.seq (.cond (.s 9) (.skip) (.exit 0)) (.n 2))
 | _=>.skip
def body:C:=.seq (.reg [.mv 2 (.c (.sl 1 []))]) (.seq (.reg [.mv 3 (.c (.sl 1 []))]) (.seq (.seq (.reg [.mv 6 (.s 0),.len 7 (.s 6),.mv 8 (.i 0)]) (.blk 0 (.loop (.n 1)))) (.n 0)))
def rs:List RV:=[.t 2]
attribute [push_cast] nd body
theorem ok:okF prog n_r01_Vars nd body 1 rs = true:=by kernel_rfl
abbrev L3 (v3 v6 v7 v8:V) (B:Nat) (H:List Ob) (Q:X→T→List Ob→Prop):Prop:=Run prog nd B [.c (.m 3),.c (.loop (.n 1)),.mk 0,.c (.n 0)] [(3,v3),(6,v6),(7,v7),(8,v8)] H Q
theorem G3 (h:Run prog nd B (.c (nd 3) :: s) t H Q):Run prog nd B (.c (.m 3) :: s) t H Q:=run_m.2 h
end r01_Vars
namespace multi_side
def nd:Nat→C
 | 0=>.seq (.reg [.mv 35 (.s 0),.fa 36 0 (.s 4),.ld 37 (.s 36),.bin 38 .sub (.s 37) (.i 1),.ia 39 6 (.s 35) (.s 38),.la 40 6 (.s 39),.al 10 t_Rule [.str [],.bool false,.sl 3 [],.str [],.bool false,.sl 3 []],.sf 10 6 (.s 40)]) (.seq (.dr [0,1,2,3,4,5,6,7,8,9] [.mv 41 (.s 2),.la 42 6 (.s 10),.callvp (some 43) (.s 41) [.s 42],.fa 44 0 (.s 10),.la 45 3 (.s 44),.bs 46 3 [.s 45],.callp (some 47) n_term_VarsOf [.s 46],.mv 48 (.s 7),.callp (some 49) n_multi_plug [.s 43,.s 47,.s 48],.st 3 (.s 6) (.s 49)]) (.ret))
 | 1=>.seq (.seq (.reg [.fa 26 0 (.s 4),.ld 27 (.s 26),.bin 28 .eql (.s 27) (.i 0)]) (.cond (.s 28) (.seq (.reg [.fa 29 1 (.s 4),.ld 30 (.s 29),.fa 31 2 (.s 4),.ld 32 (.s 31),.mv 33 (.s 7),.bd 34 [.str [],.bool false,.sl 3 []] [(0,1,(.s 30)),(1,1,(.s 32)),(2,1,(.s 33))],.st 3 (.s 6) (.s 34)]) (.ret)) (.skip))) (.n 0)
 | 2=>.gh [.ks 2 [0,2,4,6,7,12,13,14]] (.m 4)
 | 3=>.seq (.blk 1 (.seq (.reg [.ia 16 4 (.s 12) (.s 14),.la 17 4 (.s 16),.al 9 t_Multi [.int .i64 0,.str [],.bool false,.sl 4 []],.sf 9 4 (.s 17)]) (.reg [.mv 18 (.s 7),.mv 19 (.s 0),.la 20 4 (.s 9),.mv 21 (.s 2),.callp (some 22) n_multi_side [.s 19,.s 20,.s 21],.bs 23 3 [.s 22],.app 24 t_Term 3 48 (.s 18) (.s 23),.mv 7 (.s 24)]))) (.reg [.bin 25 .add (.s 14) (.i 1),.mv 14 (.s 25)])
 | 4=>.seq (.reg [.bin 15 .lss (.s 14) (.s 13)]) (.seq (.cond (.s 15) (.skip) (.exit 0)) (.n 3))
 | _=>.skip
def body:C:=.seq (.reg [.br 4 t_Multi (.s 1),.al 6 t_Term [.str [],.bool false,.sl 3 []]]) (.seq (.reg [.mv 7 (.c .nil),.non 7 t_Term 3]) (.seq (.seq (.reg [.fa 11 3 (.s 4),.ld 12 (.s 11),.len 13 (.s 12),.mv 14 (.i 0)]) (.blk 0 (.loop (.n 2)))) (.n 1)))
def rs:List RV:=[.a 6 3]
attribute [push_cast] nd body
theorem ok:okF prog n_multi_side nd body 3 rs = true:=by kernel_rfl
abbrev L4 (v0 v2 v4 v6 v7 v12 v13 v14:V) (B:Nat) (H:List Ob) (Q:X→T→List Ob→Prop):Prop:=Run prog nd B [.c (.m 4),.c (.loop (.n 2)),.mk 0,.c (.n 1)] [(0,v0),(2,v2),(4,v4),(6,v6),(7,v7),(12,v12),(13,v13),(14,v14)] H Q
theorem G4 (h:Run prog nd B (.c (nd 4) :: s) t H Q):Run prog nd B (.c (.m 4) :: s) t H Q:=run_m.2 h
end multi_side
namespace multi_large
def nd (_:Nat):C:=.skip
def body:C:=.seq (.reg [.br 1 t_Term (.s 0),.mv 2 (.c (.bool false))]) (.seq (.reg [.al 3 t_int [.int .i64 0],.st 1 (.s 3) (.i 4000)]) (.seq (.reg [.al 4 t_func_Term_bool [.nilf]]) (.seq (.reg [.mf 5 n_multi_large_1 [] [.s 3,.s 4],.st 1 (.s 4) (.s 5)]) (.seq (.reg [.ld 6 (.s 4),.la 7 3 (.s 1),.callv (some 8) (.s 6) [.s 7],.mv 2 (.s 8)]) (.ret)))))
def rs:List RV:=[.t 2]
attribute [push_cast] nd body
theorem ok:okF prog n_multi_large nd body 1 rs = true:=by kernel_rfl
end multi_large
namespace term_Fit
def nd:Nat→C
 | 0=>.seq (.reg [.la 8 3 (.s 1),.st 3 (.s 2) (.s 8),.mv 3 (.i 0)]) (.ret)
 | _=>.skip
def body:C:=.seq (.reg [.br 1 t_Term (.s 0),.al 2 t_Term [.str [],.bool false,.sl 3 []],.mv 3 (.i 0)]) (.seq (.seq (.reg [.la 4 3 (.s 1),.callp (some 5) n_term_fits [.s 4],.un 6 .not (.s 5)]) (.cond (.s 6) (.seq (.reg [.bd 7 [.str [],.bool false,.sl 3 []] [],.st 3 (.s 2) (.s 7),.mv 3 (.i 3)]) (.ret)) (.skip))) (.n 0))
def rs:List RV:=[.a 2 3,.t 3]
attribute [push_cast] nd body
theorem ok:okF prog n_term_Fit nd body 1 rs = true:=by kernel_rfl
end term_Fit
namespace term_Own
def nd:Nat→C
 | 0=>.seq (.reg [.la 26 3 (.s 3),.st 3 (.s 2) (.s 26)]) (.ret)
 | 1=>.gh [.ks 3 [2,3,12,13,14]] (.m 3)
 | 2=>.seq (.blk 1 (.seq (.reg [.ia 16 3 (.s 12) (.s 14),.la 17 3 (.s 16),.al 5 t_Term [.str [],.bool false,.sl 3 []],.sf 5 3 (.s 17)]) (.dr [0,1,2,3,4,5,6,7] [.fa 18 2 (.s 3),.ld 19 (.s 18),.la 20 3 (.s 5),.callp (some 21) n_term_Own [.s 20],.bs 22 3 [.s 21],.app 23 t_Term 3 48 (.s 19) (.s 22),.fa 24 2 (.s 3),.st 1 (.s 24) (.s 23)]))) (.reg [.bin 25 .add (.s 14) (.i 1),.mv 14 (.s 25)])
 | 3=>.seq (.reg [.bin 15 .lss (.s 14) (.s 13)]) (.seq (.cond (.s 15) (.skip) (.exit 0)) (.n 2))
 | _=>.skip
def body:C:=.seq (.reg [.br 1 t_Term (.s 0),.al 2 t_Term [.str [],.bool false,.sl 3 []]]) (.seq (.reg [.fa 6 0 (.s 1),.ld 7 (.s 6),.fa 8 1 (.s 1),.ld 9 (.s 8),.bd 10 [.str [],.bool false,.nil] [(0,1,(.s 7)),(1,1,(.s 9))],.al 3 t_Term [.str [],.bool false,.nil],.st 3 (.s 3) (.s 10),.ono t_Term 3 2 (.s 3)]) (.seq (.seq (.reg [.fa 11 2 (.s 1),.ld 12 (.s 11),.len 13 (.s 12),.mv 14 (.i 0)]) (.blk 0 (.loop (.n 1)))) (.n 0)))
def rs:List RV:=[.a 2 3]
attribute [push_cast] nd body
theorem ok:okF prog n_term_Own nd body 1 rs = true:=by kernel_rfl
abbrev L3 (v2 v3 v12 v13 v14:V) (B:Nat) (H:List Ob) (Q:X→T→List Ob→Prop):Prop:=Run prog nd B [.c (.m 3),.c (.loop (.n 1)),.mk 0,.c (.n 0)] [(2,v2),(3,v3),(12,v12),(13,v13),(14,v14)] H Q
theorem G3 (h:Run prog nd B (.c (nd 3) :: s) t H Q):Run prog nd B (.c (.m 3) :: s) t H Q:=run_m.2 h
end term_Own
namespace term_Check
def nd:Nat→C
 | 0=>.seq (.reg [.mv 2 (.i 0)]) (.ret)
 | _=>.skip
def body:C:=.seq (.reg [.br 1 t_Term (.s 0),.mv 2 (.i 0)]) (.seq (.blk 0 (.seq (.reg [.la 4 3 (.s 1),.callp (some 5) n_term_formed [.s 4],.un 6 .not (.s 5),.mv 3 (.s 6)]) (.cond (.s 3) (.seq (.reg [.mv 2 (.i 4)]) (.ret)) (.seq (.reg [.la 8 3 (.s 1),.callp (some 9) n_term_fits [.s 8],.un 10 .not (.s 9),.mv 7 (.s 10)]) (.cond (.s 7) (.seq (.reg [.mv 2 (.i 3)]) (.ret)) (.skip)))))) (.n 0))
def rs:List RV:=[.t 2]
attribute [push_cast] nd body
theorem ok:okF prog n_term_Check nd body 1 rs = true:=by kernel_rfl
end term_Check
namespace rewrite_find
def nd:Nat→C
 | 0=>.seq (.reg [.mv 43 (.s 10),.mv 6 (.s 43),.mv 7 (.i 0)]) (.ret)
 | 1=>.seq (.dr [0,1,2,3,4,5,6,7,8,9,10,11,12] [.mv 31 (.s 0),.fa 32 0 (.s 5),.ld 33 (.s 32),.ia 34 6 (.s 31) (.s 33),.fa 35 0 (.s 34),.la 36 3 (.s 35),.la 37 3 (.s 8),.callp (some 38) n_unify_Find [.s 36,.s 37],.mv 30 (.s 38),.ex 39 (.s 30) 0,.ex 40 (.s 30) 1,.mv 10 (.s 39),.mv 9 (.s 40)]) (.seq (.seq (.reg [.mv 41 (.s 9),.un 42 .not (.s 41)]) (.cond (.s 42) (.seq (.reg [.mv 6 (.c (.sl 4 [])),.mv 7 (.i 9)]) (.ret)) (.skip))) (.n 0))
 | 2=>.seq (.reg [.la 22 3 (.s 4),.fa 23 1 (.s 5),.ld 24 (.s 23),.callp (some 25) n_term_Sub [.s 22,.s 24],.mv 21 (.s 25),.ex 26 (.s 21) 0,.ex 27 (.s 21) 1,.al 8 t_Term [.str [],.bool false,.sl 3 []],.sf 8 3 (.s 26),.mv 9 (.s 27)]) (.seq (.seq (.reg [.mv 28 (.s 9),.un 29 .not (.s 28)]) (.cond (.s 29) (.seq (.reg [.mv 6 (.c (.sl 4 [])),.mv 7 (.i 8)]) (.ret)) (.skip))) (.n 1))
 | _=>.skip
def body:C:=.seq (.reg [.br 4 t_Term (.s 1),.br 5 t_Step (.s 2),.mv 6 (.c (.sl 4 [])),.mv 7 (.i 0)]) (.seq (.seq (.reg [.fa 11 0 (.s 5),.ld 12 (.s 11),.bin 13 .lss (.s 12) (.i 0),.mv 14 (.s 13),.gd (.s 14) false [15,16,17,18,19] [.fa 15 0 (.s 5),.ld 16 (.s 15),.mv 17 (.s 0),.len 18 (.s 17),.bin 19 .geq (.s 16) (.s 18)],.pick 20 (.s 14) (.c (.bool true)) (.s 19)]) (.cond (.s 20) (.seq (.reg [.mv 6 (.c (.sl 4 [])),.mv 7 (.i 8)]) (.ret)) (.skip))) (.n 2))
def rs:List RV:=[.t 6,.t 7]
attribute [push_cast] nd body
theorem ok:okF prog n_rewrite_find nd body 3 rs = true:=by kernel_rfl
end rewrite_find
namespace term_Instance
def nd:Nat→C
 | 0=>.seq (.reg [.mv 19 (.s 0),.la 20 3 (.s 3),.callp (some 21) n_term_replace [.s 19,.s 20],.st 3 (.s 4) (.s 21),.mv 5 (.i 0)]) (.ret)
 | _=>.skip
def body:C:=.seq (.reg [.br 3 t_Term (.s 1),.al 4 t_Term [.str [],.bool false,.sl 3 []],.mv 5 (.i 0)]) (.seq (.seq (.reg [.mv 7 (.s 0),.la 8 3 (.s 3),.callp (some 9) n_term_measure [.s 7,.s 8],.al 6 t_term_meter [.int .i64 0,.int .i64 0],.sf 6 2 (.s 9)]) (.seq (.reg [.fa 10 0 (.s 6),.ld 11 (.s 10),.bin 12 .gtr (.s 11) (.i 4000),.mv 13 (.s 12),.gd (.s 13) false [14,15,16] [.fa 14 1 (.s 6),.ld 15 (.s 14),.bin 16 .gtr (.s 15) (.i 200)],.pick 17 (.s 13) (.c (.bool true)) (.s 16)]) (.cond (.s 17) (.seq (.reg [.bd 18 [.str [],.bool false,.sl 3 []] [],.st 3 (.s 4) (.s 18),.mv 5 (.i 3)]) (.ret)) (.skip)))) (.n 0))
def rs:List RV:=[.a 4 3,.t 5]
attribute [push_cast] nd body
theorem ok:okF prog n_term_Instance nd body 2 rs = true:=by kernel_rfl
end term_Instance
namespace term_Set
def nd:Nat→C
 | 0=>.seq (.reg [.la 47 3 (.s 7),.st 3 (.s 6) (.s 47)]) (.ret)
 | 1=>.gh [.ks 3 [1,5,6,7,21,22,23]] (.m 3)
 | 2=>.seq (.blk 1 (.seq (.reg [.mv 25 (.s 23),.ia 26 3 (.s 21) (.s 23),.la 27 3 (.s 26),.al 9 t_Term [.str [],.bool false,.sl 3 []],.mv 8 (.s 25),.st 3 (.s 9) (.s 27)]) (.seq (.seq (.reg [.mv 28 (.s 8),.mv 29 (.s 1),.ia 30 1 (.s 29) (.i 0),.ld 31 (.s 30),.bin 32 .eql (.s 28) (.s 31)]) (.cond (.s 32) (.dr [0,1,2,3,4,5] [.la 33 3 (.s 9),.mv 34 (.s 1),.sx 35 1 (.s 34) (some (.i 1)) none,.la 36 3 (.s 5),.callp (some 37) n_term_Set [.s 33,.s 35,.s 36],.st 3 (.s 9) (.s 37)]) (.reg [.la 38 3 (.s 9),.callp (some 39) n_term_Own [.s 38],.st 3 (.s 9) (.s 39)]))) (.reg [.fa 40 2 (.s 7),.ld 41 (.s 40),.la 42 3 (.s 9),.bs 43 3 [.s 42],.app 44 t_Term 3 48 (.s 41) (.s 43),.fa 45 2 (.s 7),.st 1 (.s 45) (.s 44)])))) (.reg [.bin 46 .add (.s 23) (.i 1),.mv 23 (.s 46)])
 | 3=>.seq (.reg [.bin 24 .lss (.s 23) (.s 22)]) (.seq (.cond (.s 24) (.skip) (.exit 0)) (.n 2))
 | 4=>.seq (.reg [.fa 15 0 (.s 3),.ld 16 (.s 15),.fa 17 1 (.s 3),.ld 18 (.s 17),.bd 19 [.str [],.bool false,.nil] [(0,1,(.s 16)),(1,1,(.s 18))],.al 7 t_Term [.str [],.bool false,.nil],.st 3 (.s 7) (.s 19),.ono t_Term 3 2 (.s 7)]) (.seq (.seq (.reg [.fa 20 2 (.s 3),.ld 21 (.s 20),.len 22 (.s 21),.mv 23 (.i 0)]) (.blk 0 (.loop (.n 1)))) (.n 0))
 | _=>.skip
def body:C:=.seq (.reg [.br 3 t_Term (.s 0),.br 5 t_Term (.s 2),.al 6 t_Term [.str [],.bool false,.sl 3 []]]) (.seq (.seq (.reg [.mv 10 (.s 1),.len 11 (.s 10),.bin 12 .eql (.s 11) (.i 0)]) (.cond (.s 12) (.seq (.reg [.la 13 3 (.s 5),.callp (some 14) n_term_Own [.s 13],.st 3 (.s 6) (.s 14)]) (.ret)) (.skip))) (.n 4))
def rs:List RV:=[.a 6 3]
attribute [push_cast] nd body
theorem ok:okF prog n_term_Set nd body 3 rs = true:=by kernel_rfl
abbrev L3 (v1 v5 v6 v7 v21 v22 v23:V) (B:Nat) (H:List Ob) (Q:X→T→List Ob→Prop):Prop:=Run prog nd B [.c (.m 3),.c (.loop (.n 1)),.mk 0,.c (.n 0)] [(1,v1),(5,v5),(6,v6),(7,v7),(21,v21),(22,v22),(23,v23)] H Q
theorem G3 (h:Run prog nd B (.c (nd 3) :: s) t H Q):Run prog nd B (.c (.m 3) :: s) t H Q:=run_m.2 h
end term_Set
namespace slices_ContainsFunc_s_Step_Step
def nd (_:Nat):C:=.skip
def body:C:=.seq (.reg [.mv 4 (.c (.bool false))]) (.seq (.reg [.mv 5 (.s 0),.mv 6 (.s 1),.callp (some 7) n_slices_IndexFunc_s_Step_Step [.s 5,.s 6],.bin 8 .geq (.s 7) (.i 0),.mv 4 (.s 8)]) (.ret))
def rs:List RV:=[.t 4]
attribute [push_cast] nd body
theorem ok:okF prog n_slices_ContainsFunc_s_Step_Step nd body 2 rs = true:=by kernel_rfl
end slices_ContainsFunc_s_Step_Step
namespace multi_Bare_1
def nd (_:Nat):C:=.skip
def body:C:=.seq (.reg [.br 2 t_Step (.s 0),.mv 3 (.c (.bool false))]) (.seq (.reg [.fa 4 1 (.s 2),.ld 5 (.s 4),.fa 6 1 (.s 1),.ld 7 (.s 6),.callp (some 8) n_slices_Equal_s_int_int [.s 5,.s 7],.mv 3 (.s 8)]) (.ret))
def rs:List RV:=[.t 3]
attribute [push_cast] nd body
theorem ok:okF prog n_multi_Bare_1 nd body 2 rs = true:=by kernel_rfl
end multi_Bare_1
namespace slices_Equal_s_int_int
def nd:Nat→C
 | 0=>.seq (.reg [.mv 4 (.c (.bool true))]) (.ret)
 | 1=>.gh [.ks 0 [0,1,12,13]] (.m 3)
 | 2=>.seq (.blk 1 (.seq (.reg [.mv 15 (.s 13),.mv 5 (.s 15)]) (.seq (.dr [0,1,2,3,4,5,6,7,8] [.mv 16 (.s 0),.mv 17 (.s 5),.ia 18 1 (.s 16) (.s 17),.ld 19 (.s 18),.mv 20 (.s 1),.mv 21 (.s 5),.ia 22 1 (.s 20) (.s 21),.ld 23 (.s 22),.bin 24 .neq (.s 19) (.s 23)]) (.cond (.s 24) (.seq (.reg [.mv 4 (.c (.bool false))]) (.ret)) (.skip))))) (.reg [.bin 25 .add (.s 13) (.i 1),.mv 13 (.s 25)])
 | 3=>.seq (.reg [.bin 14 .lss (.s 13) (.s 12)]) (.seq (.cond (.s 14) (.skip) (.exit 0)) (.n 2))
 | 4=>.seq (.seq (.reg [.mv 11 (.s 0),.len 12 (.s 11),.mv 13 (.i 0)]) (.blk 0 (.loop (.n 1)))) (.n 0)
 | _=>.skip
def body:C:=.seq (.reg [.mv 4 (.c (.bool false))]) (.seq (.seq (.reg [.mv 6 (.s 0),.len 7 (.s 6),.mv 8 (.s 1),.len 9 (.s 8),.bin 10 .neq (.s 7) (.s 9)]) (.cond (.s 10) (.seq (.reg [.mv 4 (.c (.bool false))]) (.ret)) (.skip))) (.n 4))
def rs:List RV:=[.t 4]
attribute [push_cast] nd body
theorem ok:okF prog n_slices_Equal_s_int_int nd body 2 rs = true:=by kernel_rfl
abbrev L3 (v0 v1 v12 v13:V) (B:Nat) (H:List Ob) (Q:X→T→List Ob→Prop):Prop:=Run prog nd B [.c (.m 3),.c (.loop (.n 1)),.mk 0,.c (.n 0)] [(0,v0),(1,v1),(12,v12),(13,v13)] H Q
theorem G3 (h:Run prog nd B (.c (nd 3) :: s) t H Q):Run prog nd B (.c (.m 3) :: s) t H Q:=run_m.2 h
end slices_Equal_s_int_int
namespace multi_Fit
def nd:Nat→C
 | 0=>.seq (.reg [.la 13 4 (.s 1),.callp (some 14) n_multi_own [.s 13],.st 4 (.s 2) (.s 14),.mv 3 (.i 0)]) (.ret)
 | _=>.skip
def body:C:=.seq (.reg [.br 1 t_Multi (.s 0),.al 2 t_Multi [.int .i64 0,.str [],.bool false,.sl 4 []],.mv 3 (.i 0)]) (.seq (.seq (.reg [.la 4 4 (.s 1),.callp (some 5) n_multi_size [.s 4],.bin 6 .gtr (.s 5) (.i 4000),.mv 7 (.s 6),.gd (.s 7) false [8,9,10] [.la 8 4 (.s 1),.callp (some 9) n_multi_depth [.s 8],.bin 10 .gtr (.s 9) (.i 200)],.pick 11 (.s 7) (.c (.bool true)) (.s 10)]) (.cond (.s 11) (.seq (.reg [.bd 12 [.int .i64 0,.str [],.bool false,.sl 4 []] [],.st 4 (.s 2) (.s 12),.mv 3 (.i 3)]) (.ret)) (.skip))) (.n 0))
def rs:List RV:=[.a 2 4,.t 3]
attribute [push_cast] nd body
theorem ok:okF prog n_multi_Fit nd body 1 rs = true:=by kernel_rfl
end multi_Fit
namespace r04_Subst
def nd:Nat→C
 | 0=>.seq (.reg [.mv 45 (.s 10),.mv 6 (.s 45),.mv 7 (.i 0)]) (.ret)
 | 1=>.seq (.dr [0,1,2,3,4,5,6,7,8,9,10,11,12] [.mv 33 (.s 0),.fa 34 0 (.s 5),.ld 35 (.s 34),.ia 36 6 (.s 33) (.s 35),.fa 37 0 (.s 36),.la 38 3 (.s 37),.la 39 3 (.s 8),.callp (some 40) n_r03_Match [.s 38,.s 39],.mv 32 (.s 40),.ex 41 (.s 32) 0,.ex 42 (.s 32) 1,.mv 10 (.s 41),.mv 9 (.s 42)]) (.seq (.seq (.reg [.mv 43 (.s 9),.un 44 .not (.s 43)]) (.cond (.s 44) (.seq (.reg [.mv 6 (.c (.sl 4 [])),.mv 7 (.i 9)]) (.ret)) (.skip))) (.n 0))
 | _=>.skip
def body:C:=.seq (.reg [.br 4 t_Term (.s 1),.br 5 t_Step (.s 2),.mv 6 (.c (.sl 4 [])),.mv 7 (.i 0)]) (.seq (.reg [.la 12 3 (.s 4),.fa 13 1 (.s 5),.ld 14 (.s 13),.callp (some 15) n_r01_At [.s 12,.s 14],.mv 11 (.s 15),.ex 16 (.s 11) 0,.ex 17 (.s 11) 1,.al 8 t_Term [.str [],.bool false,.sl 3 []],.sf 8 3 (.s 16),.mv 9 (.s 17)]) (.seq (.seq (.reg [.fa 18 0 (.s 5),.ld 19 (.s 18),.bin 20 .lss (.s 19) (.i 0),.mv 21 (.s 20),.gd (.s 21) false [22,23,24,25,26] [.fa 22 0 (.s 5),.ld 23 (.s 22),.mv 24 (.s 0),.len 25 (.s 24),.bin 26 .geq (.s 23) (.s 25)],.pick 27 (.s 21) (.c (.bool true)) (.s 26),.mv 28 (.s 27),.gd (.s 28) false [29,30] [.mv 29 (.s 9),.un 30 .not (.s 29)],.pick 31 (.s 28) (.c (.bool true)) (.s 30)]) (.cond (.s 31) (.seq (.reg [.mv 6 (.c (.sl 4 [])),.mv 7 (.i 8)]) (.ret)) (.skip))) (.n 1)))
def rs:List RV:=[.t 6,.t 7]
attribute [push_cast] nd body
theorem ok:okF prog n_r04_Subst nd body 3 rs = true:=by kernel_rfl
end r04_Subst
namespace r01_Grown
def nd:Nat→C
 | 0=>.seq (.reg [.mv 43 (.s 7),.mv 44 (.s 8),.bin 45 .add (.s 44) (.i 1),.mv 4 (.s 43),.mv 5 (.s 45)]) (.ret)
 | 1=>.gh [.ks 0 [0,7,8,24,25,26]] (.m 3)
 | 2=>.seq (.blk 1 (.seq (.reg [.ia 28 3 (.s 24) (.s 26),.la 29 3 (.s 28),.al 10 t_Term [.str [],.bool false,.sl 3 []],.sf 10 3 (.s 29)]) (.seq (.reg [.mv 31 (.s 0),.la 32 3 (.s 10),.callp (some 33) n_r01_Grown [.s 31,.s 32],.mv 30 (.s 33),.ex 34 (.s 30) 0,.ex 35 (.s 30) 1,.mv 11 (.s 34),.mv 12 (.s 35)]) (.reg [.mv 36 (.s 7),.mv 37 (.s 11),.bin 38 .add (.s 36) (.s 37),.mv 39 (.s 8),.mv 40 (.s 12),.mx 41 (.s 39) (.s 40),.mv 7 (.s 38),.mv 8 (.s 41)])))) (.reg [.bin 42 .add (.s 26) (.i 1),.mv 26 (.s 42)])
 | 3=>.seq (.reg [.bin 27 .lss (.s 26) (.s 25)]) (.seq (.cond (.s 27) (.skip) (.exit 0)) (.n 2))
 | 4=>.seq (.reg [.mv 7 (.i 1),.mv 8 (.i 0)]) (.seq (.seq (.reg [.fa 23 2 (.s 3),.ld 24 (.s 23),.len 25 (.s 24),.mv 26 (.i 0)]) (.blk 0 (.loop (.n 1)))) (.n 0))
 | _=>.skip
def body:C:=.seq (.reg [.br 3 t_Term (.s 1),.mv 4 (.i 0),.mv 5 (.i 0)]) (.seq (.seq (.reg [.fa 13 1 (.s 3),.ld 14 (.s 13)]) (.cond (.s 14) (.seq (.reg [.mv 15 (.s 0),.fa 16 0 (.s 3),.ld 17 (.s 16),.callp (some 18) n_r01_Image [.s 15,.s 17],.al 6 t_Term [.str [],.bool false,.sl 3 []],.sf 6 3 (.s 18)]) (.seq (.dr [0,1,2,3,4,5] [.la 19 3 (.s 6),.callp (some 20) n_r01_Size [.s 19],.la 21 3 (.s 6),.callp (some 22) n_r01_Depth [.s 21],.mv 4 (.s 20),.mv 5 (.s 22)]) (.ret))) (.skip))) (.n 4))
def rs:List RV:=[.t 4,.t 5]
attribute [push_cast] nd body
theorem ok:okF prog n_r01_Grown nd body 2 rs = true:=by kernel_rfl
abbrev L3 (v0 v7 v8 v24 v25 v26:V) (B:Nat) (H:List Ob) (Q:X→T→List Ob→Prop):Prop:=Run prog nd B [.c (.m 3),.c (.loop (.n 1)),.mk 0,.c (.n 0)] [(0,v0),(7,v7),(8,v8),(24,v24),(25,v25),(26,v26)] H Q
theorem G3 (h:Run prog nd B (.c (nd 3) :: s) t H Q):Run prog nd B (.c (.m 3) :: s) t H Q:=run_m.2 h
end r01_Grown
namespace r04_replaced
def nd:Nat→C
 | 0=>.seq (.reg [.mv 54 (.s 10),.mv 55 (.s 11),.bin 56 .add (.s 55) (.i 1),.mv 8 (.s 54),.mv 9 (.s 56)]) (.ret)
 | 1=>.gh [.ks 0 [1,2,3,10,11,22,23,24]] (.m 3)
 | 2=>.seq (.blk 1 (.seq (.reg [.mv 26 (.s 24),.ia 27 3 (.s 22) (.s 24),.la 28 3 (.s 27),.al 13 t_Term [.str [],.bool false,.sl 3 []],.mv 12 (.s 26),.sf 13 3 (.s 28)]) (.seq (.dr [0,1,2,3,4,5] [.la 29 3 (.s 13),.callp (some 30) n_r01_Size [.s 29],.la 31 3 (.s 13),.callp (some 32) n_r01_Depth [.s 31],.mv 14 (.s 30),.mv 15 (.s 32)]) (.seq (.seq (.reg [.mv 33 (.s 12),.mv 34 (.s 1),.ia 35 1 (.s 34) (.i 0),.ld 36 (.s 35),.bin 37 .eql (.s 33) (.s 36)]) (.cond (.s 37) (.dr [0,1,2,3,4,5,6,7,8,9,10] [.la 39 3 (.s 13),.mv 40 (.s 1),.sx 41 1 (.s 40) (some (.i 1)) none,.mv 42 (.s 2),.mv 43 (.s 3),.callp (some 44) n_r04_replaced [.s 39,.s 41,.s 42,.s 43],.mv 38 (.s 44),.ex 45 (.s 38) 0,.ex 46 (.s 38) 1,.mv 14 (.s 45),.mv 15 (.s 46)]) (.skip))) (.reg [.mv 47 (.s 10),.mv 48 (.s 14),.bin 49 .add (.s 47) (.s 48),.mv 50 (.s 11),.mv 51 (.s 15),.mx 52 (.s 50) (.s 51),.mv 10 (.s 49),.mv 11 (.s 52)]))))) (.reg [.bin 53 .add (.s 24) (.i 1),.mv 24 (.s 53)])
 | 3=>.seq (.reg [.bin 25 .lss (.s 24) (.s 23)]) (.seq (.cond (.s 25) (.skip) (.exit 0)) (.n 2))
 | 4=>.seq (.reg [.mv 10 (.i 1),.mv 11 (.i 0)]) (.seq (.seq (.reg [.fa 21 2 (.s 4),.ld 22 (.s 21),.len 23 (.s 22),.mv 24 (.i 0)]) (.blk 0 (.loop (.n 1)))) (.n 0))
 | _=>.skip
def body:C:=.seq (.reg [.br 4 t_Term (.s 0),.mv 8 (.i 0),.mv 9 (.i 0)]) (.seq (.seq (.reg [.mv 16 (.s 1),.len 17 (.s 16),.bin 18 .eql (.s 17) (.i 0)]) (.cond (.s 18) (.seq (.reg [.mv 19 (.s 2),.mv 20 (.s 3),.mv 8 (.s 19),.mv 9 (.s 20)]) (.ret)) (.skip))) (.n 4))
def rs:List RV:=[.t 8,.t 9]
attribute [push_cast] nd body
theorem ok:okF prog n_r04_replaced nd body 4 rs = true:=by kernel_rfl
abbrev L3 (v1 v2 v3 v10 v11 v22 v23 v24:V) (B:Nat) (H:List Ob) (Q:X→T→List Ob→Prop):Prop:=Run prog nd B [.c (.m 3),.c (.loop (.n 1)),.mk 0,.c (.n 0)] [(1,v1),(2,v2),(3,v3),(10,v10),(11,v11),(22,v22),(23,v23),(24,v24)] H Q
theorem G3 (h:Run prog nd B (.c (nd 3) :: s) t H Q):Run prog nd B (.c (.m 3) :: s) t H Q:=run_m.2 h
end r04_replaced
namespace r01_Put
def nd:Nat→C
 | 0=>.seq (.reg [.bo 12 t_Term 3 [],.op (.e2r 12),.fa 13 2 (.s 3),.ld 14 (.s 13),.apr 15 t_Term 3 48 (.s 12) (.s 14),.mv 7 (.s 15)]) (.seq (.dr [0,1,2,3,4,5,6,7,8,9,10,11,12,13,14,15] [.mv 16 (.s 7),.mv 17 (.s 1),.ia 18 1 (.s 17) (.i 0),.ld 19 (.s 18),.mv 20 (.s 7),.mv 21 (.s 1),.ia 22 1 (.s 21) (.i 0),.ld 23 (.s 22),.ia 24 3 (.s 20) (.s 23),.la 25 3 (.s 24),.mv 26 (.s 1),.sx 27 1 (.s 26) (some (.i 1)) none,.la 28 3 (.s 5),.callp (some 29) n_r01_Put [.s 25,.s 27,.s 28],.ia 30 3 (.s 16) (.s 19),.st 3 (.s 30) (.s 29)]) (.seq (.reg [.fa 31 0 (.s 3),.ld 32 (.s 31),.frz 7,.mv 33 (.s 7),.bd 34 [.str [],.bool false,.sl 3 []] [(0,1,(.s 32)),(2,1,(.s 33))],.st 3 (.s 6) (.s 34)]) (.ret)))
 | _=>.skip
def body:C:=.seq (.reg [.br 3 t_Term (.s 0),.br 5 t_Term (.s 2),.al 6 t_Term [.str [],.bool false,.sl 3 []]]) (.seq (.seq (.reg [.mv 8 (.s 1),.len 9 (.s 8),.bin 10 .eql (.s 9) (.i 0)]) (.cond (.s 10) (.seq (.reg [.la 11 3 (.s 5),.st 3 (.s 6) (.s 11)]) (.ret)) (.skip))) (.n 0))
def rs:List RV:=[.a 6 3]
attribute [push_cast] nd body
theorem ok:okF prog n_r01_Put nd body 3 rs = true:=by kernel_rfl
end r01_Put
namespace r01_Apply
def nd:Nat→C
 | 0=>.seq (.reg [.la 33 3 (.s 5),.st 3 (.s 4) (.s 33)]) (.ret)
 | 1=>.gh [.ks 3 [0,4,5,18,19,20]] (.m 3)
 | 2=>.seq (.blk 1 (.seq (.reg [.ia 22 3 (.s 18) (.s 20),.la 23 3 (.s 22),.al 7 t_Term [.str [],.bool false,.sl 3 []],.sf 7 3 (.s 23)]) (.dr [0,1,2,3,4,5,6,7,8] [.fa 24 2 (.s 5),.ld 25 (.s 24),.mv 26 (.s 0),.la 27 3 (.s 7),.callp (some 28) n_r01_Apply [.s 26,.s 27],.bs 29 3 [.s 28],.app 30 t_Term 3 48 (.s 25) (.s 29),.fa 31 2 (.s 5),.st 1 (.s 31) (.s 30)]))) (.reg [.bin 32 .add (.s 20) (.i 1),.mv 20 (.s 32)])
 | 3=>.seq (.reg [.bin 21 .lss (.s 20) (.s 19)]) (.seq (.cond (.s 21) (.skip) (.exit 0)) (.n 2))
 | 4=>.seq (.reg [.fa 14 0 (.s 3),.ld 15 (.s 14),.bd 16 [.str [],.bool false,.nil] [(0,1,(.s 15))],.al 5 t_Term [.str [],.bool false,.nil],.st 3 (.s 5) (.s 16),.ono t_Term 3 2 (.s 5)]) (.seq (.seq (.reg [.fa 17 2 (.s 3),.ld 18 (.s 17),.len 19 (.s 18),.mv 20 (.i 0)]) (.blk 0 (.loop (.n 1)))) (.n 0))
 | _=>.skip
def body:C:=.seq (.reg [.br 3 t_Term (.s 1),.al 4 t_Term [.str [],.bool false,.sl 3 []]]) (.seq (.seq (.reg [.fa 8 1 (.s 3),.ld 9 (.s 8)]) (.cond (.s 9) (.seq (.reg [.mv 10 (.s 0),.fa 11 0 (.s 3),.ld 12 (.s 11),.callp (some 13) n_r01_Image [.s 10,.s 12],.st 3 (.s 4) (.s 13)]) (.ret)) (.skip))) (.n 4))
def rs:List RV:=[.a 4 3]
attribute [push_cast] nd body
theorem ok:okF prog n_r01_Apply nd body 2 rs = true:=by kernel_rfl
abbrev L3 (v0 v4 v5 v18 v19 v20:V) (B:Nat) (H:List Ob) (Q:X→T→List Ob→Prop):Prop:=Run prog nd B [.c (.m 3),.c (.loop (.n 1)),.mk 0,.c (.n 0)] [(0,v0),(4,v4),(5,v5),(18,v18),(19,v19),(20,v20)] H Q
theorem G3 (h:Run prog nd B (.c (nd 3) :: s) t H Q):Run prog nd B (.c (.m 3) :: s) t H Q:=run_m.2 h
end r01_Apply
namespace r01_Check
def nd:Nat→C
 | 0=>.seq (.reg [.mv 2 (.i 0)]) (.ret)
 | 1=>.seq (.seq (.reg [.la 6 3 (.s 1),.callp (some 7) n_r01_Size [.s 6],.bin 8 .gtr (.s 7) (.i 4000),.mv 9 (.s 8),.gd (.s 9) false [10,11,12] [.la 10 3 (.s 1),.callp (some 11) n_r01_Depth [.s 10],.bin 12 .gtr (.s 11) (.i 200)],.pick 13 (.s 9) (.c (.bool true)) (.s 12)]) (.cond (.s 13) (.seq (.reg [.mv 2 (.i 3)]) (.ret)) (.skip))) (.n 0)
 | _=>.skip
def body:C:=.seq (.reg [.br 1 t_Term (.s 0),.mv 2 (.i 0)]) (.seq (.seq (.reg [.la 3 3 (.s 1),.callp (some 4) n_r01_Formed [.s 3],.un 5 .not (.s 4)]) (.cond (.s 5) (.seq (.reg [.mv 2 (.i 4)]) (.ret)) (.skip))) (.n 1))
def rs:List RV:=[.t 2]
attribute [push_cast] nd body
theorem ok:okF prog n_r01_Check nd body 1 rs = true:=by kernel_rfl
end r01_Check
namespace r17_Under
def nd:Nat→C
 | 0=>.seq (.reg [.mv 38 (.s 5),.mv 4 (.s 38)]) (.ret)
 | 1=>.gh [.ks 1 [1,5,8,9,10]] (.m 3)
 | 2=>.seq (.blk 1 (.seq (.reg [.ia 12 2 (.s 8) (.s 10),.la 13 2 (.s 12),.al 7 t_Step [.int .i64 0,.sl 1 []],.sf 7 2 (.s 13)]) (.seq (.reg [.fa 14 1 (.s 7),.ld 15 (.s 14),.mv 16 (.s 1),.callp (some 17) n_r01_SamePos [.s 15,.s 16],.mv 18 (.s 17),.gd (.s 18) false [19,20,21,22] [.fa 19 1 (.s 7),.ld 20 (.s 19),.mv 21 (.s 1),.callp (some 22) n_r04_Below [.s 20,.s 21]],.pick 23 (.s 18) (.c (.bool true)) (.s 22)]) (.cond (.s 23) (.dr [0,1,2,4,5,3,6,7,8,9,10,11,12,13] [.mv 24 (.s 5),.fa 25 0 (.s 7),.ld 26 (.s 25),.fa 28 1 (.s 7),.ld 29 (.s 28),.bo 27 t_int 1 [],.mv 30 (.s 1),.len 31 (.s 30),.sx 32 1 (.s 29) (some (.s 31)) none,.app 33 t_int 1 8 (.s 27) (.s 32),.bd 34 [.int .i64 0,.sl 1 []] [(0,1,(.s 26)),(1,1,(.s 33))],.bs 35 2 [.s 34],.app 36 t_Step 2 32 (.s 24) (.s 35),.mv 5 (.s 36)]) (.skip))))) (.reg [.bin 37 .add (.s 10) (.i 1),.mv 10 (.s 37)])
 | 3=>.seq (.reg [.bin 11 .lss (.s 10) (.s 9)]) (.seq (.cond (.s 11) (.skip) (.exit 0)) (.n 2))
 | _=>.skip
def body:C:=.seq (.reg [.mv 4 (.c (.sl 2 []))]) (.seq (.reg [.mv 5 (.c .nil),.non 5 t_Step 2]) (.seq (.seq (.reg [.mv 8 (.s 0),.len 9 (.s 8),.mv 10 (.i 0)]) (.blk 0 (.loop (.n 1)))) (.n 0)))
def rs:List RV:=[.t 4]
attribute [push_cast] nd body
theorem ok:okF prog n_r17_Under nd body 2 rs = true:=by kernel_rfl
abbrev L3 (v1 v5 v8 v9 v10:V) (B:Nat) (H:List Ob) (Q:X→T→List Ob→Prop):Prop:=Run prog nd B [.c (.m 3),.c (.loop (.n 1)),.mk 0,.c (.n 0)] [(1,v1),(5,v5),(8,v8),(9,v9),(10,v10)] H Q
theorem G3 (h:Run prog nd B (.c (nd 3) :: s) t H Q):Run prog nd B (.c (.m 3) :: s) t H Q:=run_m.2 h
end r17_Under
namespace r17_Occurrences
def nd:Nat→C
 | 0=>.seq (.reg [.mv 36 (.s 5),.mv 4 (.s 36)]) (.ret)
 | 1=>.gh [.ks 1 [1,2,5,11,12,13]] (.m 3)
 | 2=>.seq (.blk 1 (.seq (.reg [.ia 15 1 (.s 11) (.s 13),.ld 16 (.s 15),.mv 7 (.s 16)]) (.seq (.reg [.la 18 3 (.s 2),.mv 19 (.s 7),.callp (some 20) n_r01_At [.s 18,.s 19],.mv 17 (.s 20),.ex 21 (.s 17) 0,.ex 22 (.s 17) 1,.al 8 t_Term [.str [],.bool false,.sl 3 []],.sf 8 3 (.s 21),.mv 9 (.s 22)]) (.seq (.reg [.fa 23 1 (.s 8),.ld 24 (.s 23),.mv 25 (.s 24),.gd (.s 25) true [26,27,28,29] [.fa 26 0 (.s 8),.ld 27 (.s 26),.mv 28 (.s 1),.bin 29 .eql (.s 27) (.s 28)],.pick 30 (.s 25) (.s 29) (.c (.bool false))]) (.cond (.s 30) (.reg [.mv 31 (.s 5),.mv 32 (.s 7),.bs 33 1 [.s 32],.app 34 t_s_int 1 24 (.s 31) (.s 33),.mv 5 (.s 34)]) (.skip)))))) (.reg [.bin 35 .add (.s 13) (.i 1),.mv 13 (.s 35)])
 | 3=>.seq (.reg [.bin 14 .lss (.s 13) (.s 12)]) (.seq (.cond (.s 14) (.skip) (.exit 0)) (.n 2))
 | _=>.skip
def body:C:=.seq (.reg [.br 2 t_Term (.s 0),.mv 4 (.c (.sl 1 []))]) (.seq (.reg [.mv 5 (.c .nil),.non 5 t_s_int 1]) (.seq (.seq (.reg [.la 10 3 (.s 2),.callp (some 11) n_r01_Positions [.s 10],.len 12 (.s 11),.mv 13 (.i 0)]) (.blk 0 (.loop (.n 1)))) (.n 0)))
def rs:List RV:=[.t 4]
attribute [push_cast] nd body
theorem ok:okF prog n_r17_Occurrences nd body 2 rs = true:=by kernel_rfl
abbrev L3 (v1 v2 v5 v11 v12 v13:V) (B:Nat) (H:List Ob) (Q:X→T→List Ob→Prop):Prop:=Run prog nd B [.c (.m 3),.c (.loop (.n 1)),.mk 0,.c (.n 0)] [(1,v1),(2,v2),(5,v5),(11,v11),(12,v12),(13,v13)] H Q
theorem G3 (h:Run prog nd B (.c (nd 3) :: s) t H Q):Run prog nd B (.c (.m 3) :: s) t H Q:=run_m.2 h
end r17_Occurrences
namespace r01_At
def nd:Nat→C
 | 0=>.seq (.reg [.la 30 3 (.s 2),.st 3 (.s 4) (.s 30),.mv 5 (.c (.bool true))]) (.ret)
 | 1=>.gh [.ks 2 [2,4,8,9,10]] (.m 3)
 | 2=>.seq (.blk 1 (.seq (.reg [.ia 12 1 (.s 8) (.s 10),.ld 13 (.s 12),.mv 7 (.s 13)]) (.seq (.seq (.reg [.mv 14 (.s 7),.bin 15 .lss (.s 14) (.i 0),.mv 16 (.s 15),.gd (.s 16) false [17,18,19,20,21] [.mv 17 (.s 7),.fa 18 2 (.s 2),.ld 19 (.s 18),.len 20 (.s 19),.bin 21 .geq (.s 17) (.s 20)],.pick 22 (.s 16) (.c (.bool true)) (.s 21)]) (.cond (.s 22) (.seq (.reg [.bd 23 [.str [],.bool false,.sl 3 []] [],.st 3 (.s 4) (.s 23),.mv 5 (.c (.bool false))]) (.ret)) (.skip))) (.reg [.fa 24 2 (.s 2),.ld 25 (.s 24),.mv 26 (.s 7),.ia 27 3 (.s 25) (.s 26),.la 28 3 (.s 27),.st 3 (.s 2) (.s 28)])))) (.reg [.bin 29 .add (.s 10) (.i 1),.mv 10 (.s 29)])
 | 3=>.seq (.reg [.bin 11 .lss (.s 10) (.s 9)]) (.seq (.cond (.s 11) (.skip) (.exit 0)) (.n 2))
 | _=>.skip
def body:C:=.seq (.reg [.bx 2 t_Term (.s 0),.al 4 t_Term [.str [],.bool false,.sl 3 []],.mv 5 (.c (.bool false))]) (.seq (.seq (.reg [.mv 8 (.s 1),.len 9 (.s 8),.mv 10 (.i 0)]) (.blk 0 (.loop (.n 1)))) (.n 0))
def rs:List RV:=[.a 4 3,.t 5]
attribute [push_cast] nd body
theorem ok:okF prog n_r01_At nd body 2 rs = true:=by kernel_rfl
abbrev L3 (v2 v4 v8 v9 v10:V) (B:Nat) (H:List Ob) (Q:X→T→List Ob→Prop):Prop:=Run prog nd B [.c (.m 3),.c (.loop (.n 1)),.mk 0,.c (.n 0)] [(2,v2),(4,v4),(8,v8),(9,v9),(10,v10)] H Q
theorem G3 (h:Run prog nd B (.c (nd 3) :: s) t H Q):Run prog nd B (.c (.m 3) :: s) t H Q:=run_m.2 h
end r01_At
namespace r17_Size
def nd:Nat→C
 | 0=>.seq (.reg [.mv 29 (.s 4),.mv 30 (.s 5),.bin 31 .add (.s 30) (.i 1),.mv 2 (.s 29),.mv 3 (.s 31)]) (.ret)
 | 1=>.gh [.ks 0 [4,5,11,12,13]] (.m 3)
 | 2=>.seq (.blk 1 (.seq (.reg [.ia 15 4 (.s 11) (.s 13),.la 16 4 (.s 15),.al 7 t_Multi [.int .i64 0,.str [],.bool false,.sl 4 []],.sf 7 4 (.s 16)]) (.seq (.reg [.la 18 4 (.s 7),.callp (some 19) n_r17_Size [.s 18],.mv 17 (.s 19),.ex 20 (.s 17) 0,.ex 21 (.s 17) 1,.mv 8 (.s 20),.mv 9 (.s 21)]) (.seq (.reg [.mv 22 (.s 4),.mv 23 (.s 8),.bin 24 .add (.s 22) (.s 23),.mv 4 (.s 24)]) (.reg [.mv 25 (.s 5),.mv 26 (.s 9),.mx 27 (.s 25) (.s 26),.mv 5 (.s 27)]))))) (.reg [.bin 28 .add (.s 13) (.i 1),.mv 13 (.s 28)])
 | 3=>.seq (.reg [.bin 14 .lss (.s 13) (.s 12)]) (.seq (.cond (.s 14) (.skip) (.exit 0)) (.n 2))
 | _=>.skip
def body:C:=.seq (.reg [.br 1 t_Multi (.s 0),.mv 2 (.i 0),.mv 3 (.i 0)]) (.seq (.reg [.mv 4 (.i 1),.mv 5 (.i 0)]) (.seq (.seq (.reg [.fa 10 3 (.s 1),.ld 11 (.s 10),.len 12 (.s 11),.mv 13 (.i 0)]) (.blk 0 (.loop (.n 1)))) (.n 0)))
def rs:List RV:=[.t 2,.t 3]
attribute [push_cast] nd body
theorem ok:okF prog n_r17_Size nd body 1 rs = true:=by kernel_rfl
abbrev L3 (v4 v5 v11 v12 v13:V) (B:Nat) (H:List Ob) (Q:X→T→List Ob→Prop):Prop:=Run prog nd B [.c (.m 3),.c (.loop (.n 1)),.mk 0,.c (.n 0)] [(4,v4),(5,v5),(11,v11),(12,v12),(13,v13)] H Q
theorem G3 (h:Run prog nd B (.c (nd 3) :: s) t H Q):Run prog nd B (.c (.m 3) :: s) t H Q:=run_m.2 h
end r17_Size
namespace term_Walk
def nd (_:Nat):C:=.skip
def body:C:=.seq (.reg [.br 1 t_Term (.s 0),.mv 2 (.c .nilf)]) (.seq (.reg [.mf 3 n_term_Walk_1 [] [.s 1],.mv 2 (.s 3)]) (.ret))
def rs:List RV:=[.t 2]
attribute [push_cast] nd body
theorem ok:okF prog n_term_Walk nd body 1 rs = true:=by kernel_rfl
end term_Walk
namespace slices_insertionSortCmpFunc_Step
def nd:Nat→C
 | 0=>.gh [.ks 0 [0,1,2,3,8]] (.m 5)
 | 1=>.gh [.ks 0 [0,1,2,3,8,9]] (.m 3)
 | 2=>.seq (.blk 3 (.dr [0,1,2,3,4,5,6,7,8,9,10,11,12,13,14,15,16,17] [.mv 37 (.s 0),.mv 38 (.s 9),.mv 39 (.s 0),.mv 40 (.s 9),.bin 41 .sub (.s 40) (.i 1),.mv 42 (.s 0),.mv 43 (.s 9),.bin 44 .sub (.s 43) (.i 1),.ia 45 2 (.s 42) (.s 44),.la 46 2 (.s 45),.mv 47 (.s 0),.mv 48 (.s 9),.ia 49 2 (.s 47) (.s 48),.la 50 2 (.s 49),.ia 51 2 (.s 37) (.s 38),.st 2 (.s 51) (.s 46),.ia 52 2 (.s 39) (.s 41),.st 2 (.s 52) (.s 50)])) (.reg [.mv 35 (.s 9),.bin 36 .sub (.s 35) (.i 1),.mv 9 (.s 36)])
 | 3=>.seq (.seq (.dr [0,1,2,3,4,5,6,7,8,9,10,11,12,13,14,15,16] [.mv 18 (.s 9),.mv 19 (.s 1),.bin 20 .gtr (.s 18) (.s 19),.mv 21 (.s 20),.gd (.s 21) true [22] [.mv 22 (.s 3)],.gd (.s 21) true [23] [.mv 23 (.s 0)],.gd (.s 21) true [24] [.mv 24 (.s 9)],.gd (.s 21) true [25] [.ia 25 2 (.s 23) (.s 24)],.gd (.s 21) true [26] [.la 26 2 (.s 25)],.gd (.s 21) true [27] [.mv 27 (.s 0)],.gd (.s 21) true [28] [.mv 28 (.s 9)],.gd (.s 21) true [29] [.bin 29 .sub (.s 28) (.i 1)],.gd (.s 21) true [30] [.ia 30 2 (.s 27) (.s 29)],.gd (.s 21) true [31] [.la 31 2 (.s 30)],.gd (.s 21) true [32] [.callvp (some 32) (.s 22) [.s 26,.s 31]],.gd (.s 21) true [33] [.bin 33 .lss (.s 32) (.i 0)],.pick 34 (.s 21) (.s 33) (.c (.bool false))]) (.cond (.s 34) (.skip) (.exit 2))) (.n 2)
 | 4=>.seq (.blk 1 (.seq (.reg [.mv 17 (.s 8),.mv 9 (.s 17)]) (.blk 2 (.loop (.n 1))))) (.reg [.mv 15 (.s 8),.bin 16 .add (.s 15) (.i 1),.mv 8 (.s 16)])
 | 5=>.seq (.seq (.reg [.mv 12 (.s 8),.mv 13 (.s 2),.bin 14 .lss (.s 12) (.s 13)]) (.cond (.s 14) (.skip) (.exit 0))) (.n 4)
 | _=>.skip
def body:C:=.seq (.reg [.mv 10 (.s 1),.bin 11 .add (.s 10) (.i 1),.mv 8 (.s 11)]) (.blk 0 (.loop (.n 0)))
def rs:List RV:=[]
attribute [push_cast] nd body
theorem ok:okF prog n_slices_insertionSortCmpFunc_Step nd body 4 rs = true:=by kernel_rfl
abbrev L3 (v0 v1 v2 v3 v8 v9:V) (B:Nat) (H:List Ob) (Q:X→T→List Ob→Prop):Prop:=Run prog nd B [.c (.m 3),.c (.loop (.n 1)),.mk 2,.mk 1,.c (.reg [.mv 15 (.s 8),.bin 16 .add (.s 15) (.i 1),.mv 8 (.s 16)]),.c (.loop (.n 0)),.mk 0] [(0,v0),(1,v1),(2,v2),(3,v3),(8,v8),(9,v9)] H Q
theorem G3 (h:Run prog nd B (.c (nd 3) :: s) t H Q):Run prog nd B (.c (.m 3) :: s) t H Q:=run_m.2 h
abbrev L5 (v0 v1 v2 v3 v8:V) (B:Nat) (H:List Ob) (Q:X→T→List Ob→Prop):Prop:=Run prog nd B [.c (.m 5),.c (.loop (.n 0)),.mk 0] [(0,v0),(1,v1),(2,v2),(3,v3),(8,v8)] H Q
theorem G5 (h:Run prog nd B (.c (nd 5) :: s) t H Q):Run prog nd B (.c (.m 5) :: s) t H Q:=run_m.2 h
end slices_insertionSortCmpFunc_Step
namespace cmp_isNaN_int
def nd (_:Nat):C:=.skip
def body:C:=.seq (.reg [.mv 2 (.c (.bool false))]) (.seq (.reg [.mv 3 (.s 0),.mv 4 (.s 0),.bin 5 .neq (.s 3) (.s 4),.mv 2 (.s 5)]) (.ret))
def rs:List RV:=[.t 2]
attribute [push_cast] nd body
theorem ok:okF prog n_cmp_isNaN_int nd body 1 rs = true:=by kernel_rfl
end cmp_isNaN_int
namespace r01_Rules
def nd:Nat→C
 | 0=>.seq (.reg [.mv 2 (.i 0)]) (.ret)
 | 1=>.gh [.ks 0 [9,10,11]] (.m 3)
 | 2=>.seq (.blk 1 (.seq (.reg [.ia 13 6 (.s 9) (.s 11),.la 14 6 (.s 13),.al 4 t_Rule [.str [],.bool false,.sl 3 [],.str [],.bool false,.sl 3 []],.sf 4 6 (.s 14)]) (.seq (.reg [.fa 15 0 (.s 4),.la 16 3 (.s 15),.fa 17 3 (.s 4),.la 18 3 (.s 17),.bs 19 3 [.s 16,.s 18],.callp (some 20) n_r01_CheckAll [.s 19],.mv 5 (.s 20)]) (.seq (.reg [.mv 21 (.s 5),.bin 22 .neq (.s 21) (.i 0)]) (.cond (.s 22) (.seq (.reg [.mv 23 (.s 5),.mv 2 (.s 23)]) (.ret)) (.skip)))))) (.reg [.bin 24 .add (.s 11) (.i 1),.mv 11 (.s 24)])
 | 3=>.seq (.reg [.bin 12 .lss (.s 11) (.s 10)]) (.seq (.cond (.s 12) (.skip) (.exit 0)) (.n 2))
 | 4=>.seq (.seq (.reg [.mv 9 (.s 0),.len 10 (.s 9),.mv 11 (.i 0)]) (.blk 0 (.loop (.n 1)))) (.n 0)
 | _=>.skip
def body:C:=.seq (.reg [.mv 2 (.i 0)]) (.seq (.seq (.reg [.mv 6 (.s 0),.len 7 (.s 6),.bin 8 .gtr (.s 7) (.i 64)]) (.cond (.s 8) (.seq (.reg [.mv 2 (.i 3)]) (.ret)) (.skip))) (.n 4))
def rs:List RV:=[.t 2]
attribute [push_cast] nd body
theorem ok:okF prog n_r01_Rules nd body 1 rs = true:=by kernel_rfl
abbrev L3 (v9 v10 v11:V) (B:Nat) (H:List Ob) (Q:X→T→List Ob→Prop):Prop:=Run prog nd B [.c (.m 3),.c (.loop (.n 1)),.mk 0,.c (.n 0)] [(9,v9),(10,v10),(11,v11)] H Q
theorem G3 (h:Run prog nd B (.c (nd 3) :: s) t H Q):Run prog nd B (.c (.m 3) :: s) t H Q:=run_m.2 h
end r01_Rules
namespace r01_Symbols
def nd:Nat→C
 | 0=>.seq (.reg [.mv 38 (.s 4),.mv 2 (.s 38),.mv 3 (.c (.bool true))]) (.ret)
 | 1=>.gh [.ks 0 [4,11,12,13]] (.m 6)
 | 2=>.gh [.ks 1 [4,11,12,13,21,22,23]] (.m 4)
 | 3=>.seq (.blk 3 (.seq (.reg [.ia 25 3 (.s 21) (.s 23),.la 26 3 (.s 25),.al 8 t_Term [.str [],.bool false,.sl 3 []],.sf 8 3 (.s 26)]) (.seq (.reg [.la 28 3 (.s 8),.mv 29 (.s 4),.callp (some 30) n_r01_symbols [.s 28,.s 29],.mv 27 (.s 30),.ex 31 (.s 27) 0,.ex 32 (.s 27) 1,.mv 9 (.s 31),.mv 10 (.s 32)]) (.seq (.seq (.reg [.mv 33 (.s 10),.un 34 .not (.s 33)]) (.cond (.s 34) (.seq (.reg [.mv 2 (.c (.sl 2 [])),.mv 3 (.c (.bool false))]) (.ret)) (.skip))) (.reg [.mv 35 (.s 9),.mv 4 (.s 35)]))))) (.reg [.bin 36 .add (.s 23) (.i 1),.mv 23 (.s 36)])
 | 4=>.seq (.reg [.bin 24 .lss (.s 23) (.s 22)]) (.seq (.cond (.s 24) (.skip) (.exit 2)) (.n 3))
 | 5=>.seq (.blk 1 (.seq (.reg [.ia 15 6 (.s 11) (.s 13),.la 16 6 (.s 15),.al 6 t_Rule [.str [],.bool false,.sl 3 [],.str [],.bool false,.sl 3 []],.sf 6 6 (.s 16)]) (.seq (.reg [.fa 17 0 (.s 6),.la 18 3 (.s 17),.fa 19 3 (.s 6),.la 20 3 (.s 19),.bs 21 3 [.s 18,.s 20],.len 22 (.s 21),.mv 23 (.i 0)]) (.blk 2 (.loop (.n 2)))))) (.reg [.bin 37 .add (.s 13) (.i 1),.mv 13 (.s 37)])
 | 6=>.seq (.reg [.bin 14 .lss (.s 13) (.s 12)]) (.seq (.cond (.s 14) (.skip) (.exit 0)) (.n 5))
 | _=>.skip
def body:C:=.seq (.reg [.mv 2 (.c (.sl 2 [])),.mv 3 (.c (.bool false))]) (.seq (.reg [.mv 4 (.c (.sl 2 []))]) (.seq (.seq (.reg [.mv 11 (.s 0),.len 12 (.s 11),.mv 13 (.i 0)]) (.blk 0 (.loop (.n 1)))) (.n 0)))
def rs:List RV:=[.t 2,.t 3]
attribute [push_cast] nd body
theorem ok:okF prog n_r01_Symbols nd body 1 rs = true:=by kernel_rfl
abbrev L4 (v4 v11 v12 v13 v21 v22 v23:V) (B:Nat) (H:List Ob) (Q:X→T→List Ob→Prop):Prop:=Run prog nd B [.c (.m 4),.c (.loop (.n 2)),.mk 2,.mk 1,.c (.reg [.bin 37 .add (.s 13) (.i 1),.mv 13 (.s 37)]),.c (.loop (.n 1)),.mk 0,.c (.n 0)] [(4,v4),(11,v11),(12,v12),(13,v13),(21,v21),(22,v22),(23,v23)] H Q
theorem G4 (h:Run prog nd B (.c (nd 4) :: s) t H Q):Run prog nd B (.c (.m 4) :: s) t H Q:=run_m.2 h
abbrev L6 (v4 v11 v12 v13:V) (B:Nat) (H:List Ob) (Q:X→T→List Ob→Prop):Prop:=Run prog nd B [.c (.m 6),.c (.loop (.n 1)),.mk 0,.c (.n 0)] [(4,v4),(11,v11),(12,v12),(13,v13)] H Q
theorem G6 (h:Run prog nd B (.c (nd 6) :: s) t H Q):Run prog nd B (.c (.m 6) :: s) t H Q:=run_m.2 h
end r01_Symbols
namespace r01_Within
def nd:Nat→C
 | 0=>.seq (.reg [.mv 4 (.c (.bool true))]) (.ret)
 | 1=>.gh [.ks 0 [3,9,10,11]] (.m 3)
 | 2=>.seq (.blk 1 (.seq (.reg [.ia 13 1 (.s 9) (.s 11),.ld 14 (.s 13),.mv 6 (.s 14)]) (.seq (.reg [.la 15 3 (.s 3),.mv 16 (.s 6),.callp (some 17) n_r01_Count [.s 15,.s 16],.bin 18 .eql (.s 17) (.i 0)]) (.cond (.s 18) (.seq (.reg [.mv 4 (.c (.bool false))]) (.ret)) (.skip))))) (.reg [.bin 19 .add (.s 11) (.i 1),.mv 11 (.s 19)])
 | 3=>.seq (.reg [.bin 12 .lss (.s 11) (.s 10)]) (.seq (.cond (.s 12) (.skip) (.exit 0)) (.n 2))
 | _=>.skip
def body:C:=.seq (.reg [.br 2 t_Term (.s 0),.br 3 t_Term (.s 1),.mv 4 (.c (.bool false))]) (.seq (.seq (.reg [.la 7 3 (.s 2),.bs 8 3 [.s 7],.callp (some 9) n_r01_Vars [.s 8],.len 10 (.s 9),.mv 11 (.i 0)]) (.blk 0 (.loop (.n 1)))) (.n 0))
def rs:List RV:=[.t 4]
attribute [push_cast] nd body
theorem ok:okF prog n_r01_Within nd body 2 rs = true:=by kernel_rfl
abbrev L3 (v3 v9 v10 v11:V) (B:Nat) (H:List Ob) (Q:X→T→List Ob→Prop):Prop:=Run prog nd B [.c (.m 3),.c (.loop (.n 1)),.mk 0,.c (.n 0)] [(3,v3),(9,v9),(10,v10),(11,v11)] H Q
theorem G3 (h:Run prog nd B (.c (nd 3) :: s) t H Q):Run prog nd B (.c (.m 3) :: s) t H Q:=run_m.2 h
end r01_Within
namespace r01_IsName
def nd:Nat→C
 | 0=>.seq (.reg [.mv 18 (.s 0),.bin 19 .neq (.s 18) (.c (.str [])),.mv 20 (.s 19),.gd (.s 20) true [21,22] [.mv 21 (.s 0),.callp (some 22) n_r01_Letters [.s 21]],.pick 23 (.s 20) (.s 22) (.c (.bool false)),.mv 4 (.s 23)]) (.ret)
 | 1=>.seq (.seq (.reg [.mv 8 (.s 1),.mv 9 (.s 8),.gd (.s 9) true [10,11] [.mv 10 (.s 0),.callp (some 11) n_r01_Marked [.s 10]],.pick 12 (.s 9) (.s 11) (.c (.bool false))]) (.cond (.s 12) (.reg [.mv 13 (.s 0),.mv 14 (.s 0),.lens 15 (.s 14),.bin 16 .sub (.s 15) (.i 1),.sxs 17 (.s 13) none (some (.s 16)),.mv 0 (.s 17)]) (.skip))) (.n 0)
 | _=>.skip
def body:C:=.seq (.reg [.mv 4 (.c (.bool false))]) (.seq (.seq (.reg [.mv 5 (.s 0),.lens 6 (.s 5),.bin 7 .gtr (.s 6) (.i 24)]) (.cond (.s 7) (.seq (.reg [.mv 4 (.c (.bool false))]) (.ret)) (.skip))) (.n 1))
def rs:List RV:=[.t 4]
attribute [push_cast] nd body
theorem ok:okF prog n_r01_IsName nd body 2 rs = true:=by kernel_rfl
end r01_IsName
namespace multi_node
def nd:Nat→C
 | 0=>.seq (.reg [.la 19 4 (.s 2),.st 4 (.s 4) (.s 19)]) (.ret)
 | 1=>.gh [.ks 2 [2,4,7,8,9]] (.m 3)
 | 2=>.seq (.blk 1 (.seq (.reg [.ia 11 1 (.s 7) (.s 9),.ld 12 (.s 11),.mv 6 (.s 12)]) (.reg [.fa 13 3 (.s 2),.ld 14 (.s 13),.mv 15 (.s 6),.ia 16 4 (.s 14) (.s 15),.la 17 4 (.s 16),.st 4 (.s 2) (.s 17)]))) (.reg [.bin 18 .add (.s 9) (.i 1),.mv 9 (.s 18)])
 | 3=>.seq (.reg [.bin 10 .lss (.s 9) (.s 8)]) (.seq (.cond (.s 10) (.skip) (.exit 0)) (.n 2))
 | _=>.skip
def body:C:=.seq (.reg [.bx 2 t_Multi (.s 0),.al 4 t_Multi [.int .i64 0,.str [],.bool false,.sl 4 []]]) (.seq (.seq (.reg [.mv 7 (.s 1),.len 8 (.s 7),.mv 9 (.i 0)]) (.blk 0 (.loop (.n 1)))) (.n 0))
def rs:List RV:=[.a 4 4]
attribute [push_cast] nd body
theorem ok:okF prog n_multi_node nd body 2 rs = true:=by kernel_rfl
abbrev L3 (v2 v4 v7 v8 v9:V) (B:Nat) (H:List Ob) (Q:X→T→List Ob→Prop):Prop:=Run prog nd B [.c (.m 3),.c (.loop (.n 1)),.mk 0,.c (.n 0)] [(2,v2),(4,v4),(7,v7),(8,v8),(9,v9)] H Q
theorem G3 (h:Run prog nd B (.c (nd 3) :: s) t H Q):Run prog nd B (.c (.m 3) :: s) t H Q:=run_m.2 h
end multi_node
namespace multi_set
def nd:Nat→C
 | 0=>.seq (.reg [.fa 11 3 (.s 3),.ld 12 (.s 11),.call (some 13) n_slices_Clone_s_Multi_Multi [.s 12],.fa 14 3 (.s 3),.st 1 (.s 14) (.s 13)]) (.seq (.dr [0,1,2,3,4,5,6,7,8,9,10,11,12,13,14,15,16,17] [.fa 15 3 (.s 3),.ld 16 (.s 15),.mv 17 (.s 1),.ia 18 1 (.s 17) (.i 0),.ld 19 (.s 18),.fa 20 3 (.s 3),.ld 21 (.s 20),.mv 22 (.s 1),.ia 23 1 (.s 22) (.i 0),.ld 24 (.s 23),.ia 25 4 (.s 21) (.s 24),.la 26 4 (.s 25),.mv 27 (.s 1),.sx 28 1 (.s 27) (some (.i 1)) none,.la 29 4 (.s 5),.callp (some 30) n_multi_set [.s 26,.s 28,.s 29],.ia 31 4 (.s 16) (.s 19),.st 4 (.s 31) (.s 30)]) (.seq (.reg [.frc 3 (.s 3),.la 32 4 (.s 3),.st 4 (.s 6) (.s 32)]) (.ret)))
 | _=>.skip
def body:C:=.seq (.reg [.bx 3 t_Multi (.s 0),.br 5 t_Multi (.s 2),.al 6 t_Multi [.int .i64 0,.str [],.bool false,.sl 4 []]]) (.seq (.seq (.reg [.mv 7 (.s 1),.len 8 (.s 7),.bin 9 .eql (.s 8) (.i 0)]) (.cond (.s 9) (.seq (.reg [.la 10 4 (.s 5),.st 4 (.s 6) (.s 10)]) (.ret)) (.skip))) (.n 0))
def rs:List RV:=[.a 6 4]
attribute [push_cast] nd body
theorem ok:okF prog n_multi_set nd body 3 rs = true:=by kernel_rfl
end multi_set
namespace multi_contract
def nd (_:Nat):C:=.skip
def body:C:=.seq (.reg [.br 3 t_Multi (.s 1),.al 4 t_Multi [.int .i64 0,.str [],.bool false,.sl 4 []]]) (.seq (.reg [.mv 6 (.s 0),.fa 7 0 (.s 3),.ld 8 (.s 7),.bin 9 .sub (.s 8) (.i 1),.ia 10 6 (.s 6) (.s 9),.la 11 6 (.s 10),.al 5 t_Rule [.str [],.bool false,.sl 3 [],.str [],.bool false,.sl 3 []],.sf 5 6 (.s 11)]) (.seq (.dr [0,1,2,3,4,5,6,7,8,9] [.fa 12 3 (.s 5),.la 13 3 (.s 12),.fa 14 0 (.s 5),.la 15 3 (.s 14),.bs 16 3 [.s 15],.callp (some 17) n_term_VarsOf [.s 16],.fa 18 3 (.s 3),.ld 19 (.s 18),.callp (some 20) n_multi_Plug [.s 13,.s 17,.s 19],.st 4 (.s 4) (.s 20)]) (.ret)))
def rs:List RV:=[.a 4 4]
attribute [push_cast] nd body
theorem ok:okF prog n_multi_contract nd body 2 rs = true:=by kernel_rfl
end multi_contract
namespace term_CheckRules
def nd:Nat→C
 | 0=>.seq (.reg [.mv 2 (.i 0)]) (.ret)
 | 1=>.gh [.ks 0 [9,10,11]] (.m 3)
 | 2=>.seq (.blk 1 (.seq (.reg [.ia 13 6 (.s 9) (.s 11),.la 14 6 (.s 13),.al 4 t_Rule [.str [],.bool false,.sl 3 [],.str [],.bool false,.sl 3 []],.sf 4 6 (.s 14)]) (.seq (.reg [.fa 15 0 (.s 4),.la 16 3 (.s 15),.fa 17 3 (.s 4),.la 18 3 (.s 17),.bs 19 3 [.s 16,.s 18],.callp (some 20) n_term_All [.s 19],.mv 5 (.s 20)]) (.seq (.reg [.mv 21 (.s 5),.bin 22 .neq (.s 21) (.i 0)]) (.cond (.s 22) (.seq (.reg [.mv 23 (.s 5),.mv 2 (.s 23)]) (.ret)) (.skip)))))) (.reg [.bin 24 .add (.s 11) (.i 1),.mv 11 (.s 24)])
 | 3=>.seq (.reg [.bin 12 .lss (.s 11) (.s 10)]) (.seq (.cond (.s 12) (.skip) (.exit 0)) (.n 2))
 | 4=>.seq (.seq (.reg [.mv 9 (.s 0),.len 10 (.s 9),.mv 11 (.i 0)]) (.blk 0 (.loop (.n 1)))) (.n 0)
 | _=>.skip
def body:C:=.seq (.reg [.mv 2 (.i 0)]) (.seq (.seq (.reg [.mv 6 (.s 0),.len 7 (.s 6),.bin 8 .gtr (.s 7) (.i 64)]) (.cond (.s 8) (.seq (.reg [.mv 2 (.i 3)]) (.ret)) (.skip))) (.n 4))
def rs:List RV:=[.t 2]
attribute [push_cast] nd body
theorem ok:okF prog n_term_CheckRules nd body 1 rs = true:=by kernel_rfl
abbrev L3 (v9 v10 v11:V) (B:Nat) (H:List Ob) (Q:X→T→List Ob→Prop):Prop:=Run prog nd B [.c (.m 3),.c (.loop (.n 1)),.mk 0,.c (.n 0)] [(9,v9),(10,v10),(11,v11)] H Q
theorem G3 (h:Run prog nd B (.c (nd 3) :: s) t H Q):Run prog nd B (.c (.m 3) :: s) t H Q:=run_m.2 h
end term_CheckRules
namespace term_Arities
def nd:Nat→C
 | 0=>.seq (.reg [.ld 57 (.s 4),.st 1 (.s 2) (.s 57),.st 1 (.s 3) (.c (.bool true))]) (.ret)
 | 1=>.gh [.ks 4 [2,3,4,10,14,15,16]] (.m 8)
 | 2=>.gh [.ks 5 [2,3,4,10,14,15,16,24,25]] (.m 6)
 | 3=>.seq (.seq (.reg [.ld 35 (.s 4),.fa 36 0 (.s 10),.ld 37 (.s 36),.lkp 38 true true (.int .i64 0) (.s 35) (.s 37),.mv 34 (.s 38),.ex 39 (.s 34) 0,.ex 40 (.s 34) 1,.mv 11 (.s 39),.mv 12 (.s 40)]) (.seq (.reg [.mv 41 (.s 12),.mv 42 (.s 41),.gd (.s 42) true [43,44,45,46,47] [.mv 43 (.s 11),.fa 44 2 (.s 10),.ld 45 (.s 44),.len 46 (.s 45),.bin 47 .neq (.s 43) (.s 46)],.pick 48 (.s 42) (.s 47) (.c (.bool false))]) (.cond (.s 48) (.seq (.reg [.st 1 (.s 2) (.c .nilm),.st 1 (.s 3) (.c (.bool false))]) (.ret)) (.skip)))) (.reg [.ld 49 (.s 4),.fa 50 0 (.s 10),.ld 51 (.s 50),.fa 52 2 (.s 10),.ld 53 (.s 52),.len 54 (.s 53),.mup true (.s 49) (.s 51) (.s 54)])
 | 4=>.blk 5 (.seq (.seq (.reg [.fa 32 1 (.s 10),.ld 33 (.s 32)]) (.cond (.s 33) (.exit 5) (.skip))) (.n 3))
 | 5=>.seq (.blk 3 (.seq (.reg [.ixa 27 3 2 (some 3) (.s 24) (.s 25),.al 8 t_Term [.str [],.bool false,.sl 3 []],.sf 8 3 (.s 27)]) (.seq (.reg [.la 28 3 (.s 8),.callp (some 29) n_term_Walk [.s 28]]) (.blk 4 (.rf (.s 29) [30,31] (.reg [.al 10 t_Term [.str [],.bool false,.sl 3 []],.sf 10 3 (.s 31)]) (.m 4)))))) (.reg [.bin 55 .add (.s 25) (.i 1),.mv 25 (.s 55)])
 | 6=>.seq (.reg [.bin 26 .lss (.s 25) (.i 2)]) (.seq (.cond (.s 26) (.skip) (.exit 2)) (.n 5))
 | 7=>.seq (.blk 1 (.seq (.reg [.ia 18 6 (.s 14) (.s 16),.la 19 6 (.s 18),.al 6 t_Rule [.str [],.bool false,.sl 3 [],.str [],.bool false,.sl 3 []],.sf 6 6 (.s 19)]) (.seq (.reg [.fa 20 0 (.s 6),.la 21 3 (.s 20),.fa 22 3 (.s 6),.la 23 3 (.s 22),.bd 24 [.str [],.bool false,.sl 3 [],.str [],.bool false,.sl 3 []] [(0,3,(.s 21)),(3,3,(.s 23))],.mv 25 (.i 0)]) (.blk 2 (.loop (.n 2)))))) (.reg [.bin 56 .add (.s 16) (.i 1),.mv 16 (.s 56)])
 | 8=>.seq (.reg [.bin 17 .lss (.s 16) (.s 15)]) (.seq (.cond (.s 17) (.skip) (.exit 0)) (.n 7))
 | _=>.skip
def body:C:=.seq (.reg [.al 2 t_m_string_int [.nilm],.al 3 t_bool [.bool false]]) (.seq (.reg [.mkm 13,.al 4 t_m_string_int [.nilm],.st 1 (.s 4) (.s 13)]) (.seq (.seq (.reg [.mv 14 (.s 0),.len 15 (.s 14),.mv 16 (.i 0)]) (.blk 0 (.loop (.n 1)))) (.n 0)))
def rs:List RV:=[.c 2,.c 3]
attribute [push_cast] nd body
theorem ok:okF prog n_term_Arities nd body 1 rs = true:=by kernel_rfl
abbrev L6 (v2 v3 v4 v10 v14 v15 v16 v24 v25:V) (B:Nat) (H:List Ob) (Q:X→T→List Ob→Prop):Prop:=Run prog nd B [.c (.m 6),.c (.loop (.n 2)),.mk 2,.mk 1,.c (.reg [.bin 56 .add (.s 16) (.i 1),.mv 16 (.s 56)]),.c (.loop (.n 1)),.mk 0,.c (.n 0)] [(2,v2),(3,v3),(4,v4),(10,v10),(14,v14),(15,v15),(16,v16),(24,v24),(25,v25)] H Q
theorem G6 (h:Run prog nd B (.c (nd 6) :: s) t H Q):Run prog nd B (.c (.m 6) :: s) t H Q:=run_m.2 h
abbrev L8 (v2 v3 v4 v10 v14 v15 v16:V) (B:Nat) (H:List Ob) (Q:X→T→List Ob→Prop):Prop:=Run prog nd B [.c (.m 8),.c (.loop (.n 1)),.mk 0,.c (.n 0)] [(2,v2),(3,v3),(4,v4),(10,v10),(14,v14),(15,v15),(16,v16)] H Q
theorem G8 (h:Run prog nd B (.c (nd 8) :: s) t H Q):Run prog nd B (.c (.m 8) :: s) t H Q:=run_m.2 h
end term_Arities
namespace term_Marked
def nd (_:Nat):C:=.skip
def body:C:=.seq (.reg [.mv 2 (.c (.bool false))]) (.seq (.reg [.mv 3 (.s 0),.callp (some 4) n_strings_HasSuffix [.s 3,(.c (.str [35]))],.mv 2 (.s 4)]) (.ret))
def rs:List RV:=[.t 2]
attribute [push_cast] nd body
theorem ok:okF prog n_term_Marked nd body 1 rs = true:=by kernel_rfl
end term_Marked
namespace slices_ContainsFunc_s_Rule_Rule
def nd (_:Nat):C:=.skip
def body:C:=.seq (.reg [.mv 4 (.c (.bool false))]) (.seq (.reg [.mv 5 (.s 0),.mv 6 (.s 1),.callp (some 7) n_slices_IndexFunc_s_Rule_Rule [.s 5,.s 6],.bin 8 .geq (.s 7) (.i 0),.mv 4 (.s 8)]) (.ret))
def rs:List RV:=[.t 4]
attribute [push_cast] nd body
theorem ok:okF prog n_slices_ContainsFunc_s_Rule_Rule nd body 2 rs = true:=by kernel_rfl
end slices_ContainsFunc_s_Rule_Rule
namespace term_extra
def nd (_:Nat):C:=.skip
def body:C:=.seq (.reg [.br 1 t_Rule (.s 0),.mv 2 (.c (.bool false))]) (.seq (.reg [.fa 4 0 (.s 1),.la 5 3 (.s 4),.bs 6 3 [.s 5],.callp (some 7) n_term_VarsOf [.s 6],.al 3 t_s_string [.sl 1 []],.sf 3 1 (.s 7)]) (.seq (.reg [.fa 8 0 (.s 1),.fa 9 1 (.s 8),.ld 10 (.s 9),.mv 11 (.s 10),.gd (.s 11) false [12,13,14,15,16,17] [.fa 12 3 (.s 1),.la 13 3 (.s 12),.bs 14 3 [.s 13],.callp (some 15) n_term_VarsOf [.s 14],.mf 16 n_term_extra_1 [] [.s 3],.callp (some 17) n_slices_ContainsFunc_s_string_string [.s 15,.s 16]],.pick 18 (.s 11) (.c (.bool true)) (.s 17),.mv 2 (.s 18)]) (.ret)))
def rs:List RV:=[.t 2]
attribute [push_cast] nd body
theorem ok:okF prog n_term_extra nd body 1 rs = true:=by kernel_rfl
end term_extra
namespace slices_ContainsFunc_s_Multi_Multi
def nd (_:Nat):C:=.skip
def body:C:=.seq (.reg [.mv 4 (.c (.bool false))]) (.seq (.reg [.mv 5 (.s 0),.mv 6 (.s 1),.callp (some 7) n_slices_IndexFunc_s_Multi_Multi [.s 5,.s 6],.bin 8 .geq (.s 7) (.i 0),.mv 4 (.s 8)]) (.ret))
def rs:List RV:=[.t 4]
attribute [push_cast] nd body
theorem ok:okF prog n_slices_ContainsFunc_s_Multi_Multi nd body 2 rs = true:=by kernel_rfl
end slices_ContainsFunc_s_Multi_Multi
namespace multi_all_1
def nd (_:Nat):C:=.skip
def body:C:=.seq (.reg [.br 2 t_Multi (.s 0),.mv 3 (.c (.bool false))]) (.seq (.reg [.la 4 4 (.s 2),.ld 5 (.s 1),.callp (some 6) n_multi_all [.s 4,.s 5],.un 7 .not (.s 6),.mv 3 (.s 7)]) (.ret))
def rs:List RV:=[.t 3]
attribute [push_cast] nd body
theorem ok:okF prog n_multi_all_1 nd body 2 rs = true:=by kernel_rfl
end multi_all_1
namespace term_IsName
def nd:Nat→C
 | 0=>.seq (.reg [.mv 11 (.s 0),.bin 12 .neq (.s 11) (.c (.str [])),.mv 13 (.s 12),.gd (.s 13) true [14,15,16,17] [.mv 14 (.s 0),.s2b 15 (.s 14),.callp (some 16) n_slices_ContainsFunc_s_byte_byte [.s 15,(.f n_term_IsName_1)],.un 17 .not (.s 16)],.pick 18 (.s 13) (.s 17) (.c (.bool false)),.mv 4 (.s 18)]) (.ret)
 | 1=>.seq (.seq (.reg [.mv 8 (.s 1)]) (.cond (.s 8) (.reg [.mv 9 (.s 0),.callp (some 10) n_strings_TrimSuffix [.s 9,(.c (.str [35]))],.mv 0 (.s 10)]) (.skip))) (.n 0)
 | _=>.skip
def body:C:=.seq (.reg [.mv 4 (.c (.bool false))]) (.seq (.seq (.reg [.mv 5 (.s 0),.lens 6 (.s 5),.bin 7 .gtr (.s 6) (.i 24)]) (.cond (.s 7) (.seq (.reg [.mv 4 (.c (.bool false))]) (.ret)) (.skip))) (.n 1))
def rs:List RV:=[.t 4]
attribute [push_cast] nd body
theorem ok:okF prog n_term_IsName nd body 2 rs = true:=by kernel_rfl
end term_IsName
namespace r01_collect
def nd:Nat→C
 | 0=>.seq (.reg [.mv 24 (.s 1),.mv 4 (.s 24)]) (.ret)
 | 1=>.gh [.ks 0 [1,14,15,16]] (.m 3)
 | 2=>.seq (.blk 1 (.seq (.reg [.ia 18 3 (.s 14) (.s 16),.la 19 3 (.s 18),.al 6 t_Term [.str [],.bool false,.sl 3 []],.sf 6 3 (.s 19)]) (.reg [.la 20 3 (.s 6),.mv 21 (.s 1),.callp (some 22) n_r01_collect [.s 20,.s 21],.mv 1 (.s 22)]))) (.reg [.bin 23 .add (.s 16) (.i 1),.mv 16 (.s 23)])
 | 3=>.seq (.reg [.bin 17 .lss (.s 16) (.s 15)]) (.seq (.cond (.s 17) (.skip) (.exit 0)) (.n 2))
 | 4=>.seq (.seq (.reg [.fa 13 2 (.s 2),.ld 14 (.s 13),.len 15 (.s 14),.mv 16 (.i 0)]) (.blk 0 (.loop (.n 1)))) (.n 0)
 | _=>.skip
def body:C:=.seq (.reg [.br 2 t_Term (.s 0),.mv 4 (.c (.sl 1 []))]) (.seq (.seq (.reg [.fa 7 1 (.s 2),.ld 8 (.s 7)]) (.cond (.s 8) (.reg [.mv 9 (.s 1),.fa 10 0 (.s 2),.ld 11 (.s 10),.callp (some 12) n_r01_Insert [.s 9,.s 11],.mv 1 (.s 12)]) (.skip))) (.n 4))
def rs:List RV:=[.t 4]
attribute [push_cast] nd body
theorem ok:okF prog n_r01_collect nd body 2 rs = true:=by kernel_rfl
abbrev L3 (v1 v14 v15 v16:V) (B:Nat) (H:List Ob) (Q:X→T→List Ob→Prop):Prop:=Run prog nd B [.c (.m 3),.c (.loop (.n 1)),.mk 0,.c (.n 0)] [(1,v1),(14,v14),(15,v15),(16,v16)] H Q
theorem G3 (h:Run prog nd B (.c (nd 3) :: s) t H Q):Run prog nd B (.c (.m 3) :: s) t H Q:=run_m.2 h
end r01_collect
namespace multi_plug
def nd:Nat→C
 | 0=>.seq (.reg [.la 39 3 (.s 7),.st 3 (.s 6) (.s 39)]) (.ret)
 | 1=>.gh [.ks 3 [1,2,6,7,23,24,25]] (.m 3)
 | 2=>.seq (.blk 1 (.seq (.reg [.ia 27 3 (.s 23) (.s 25),.la 28 3 (.s 27),.al 9 t_Term [.str [],.bool false,.sl 3 []],.sf 9 3 (.s 28)]) (.dr [0,1,2,3,4,5,6,7,8,9] [.fa 29 2 (.s 7),.ld 30 (.s 29),.la 31 3 (.s 9),.mv 32 (.s 1),.mv 33 (.s 2),.callp (some 34) n_multi_plug [.s 31,.s 32,.s 33],.bs 35 3 [.s 34],.app 36 t_Term 3 48 (.s 30) (.s 35),.fa 37 2 (.s 7),.st 1 (.s 37) (.s 36)]))) (.reg [.bin 38 .add (.s 25) (.i 1),.mv 25 (.s 38)])
 | 3=>.seq (.reg [.bin 26 .lss (.s 25) (.s 24)]) (.seq (.cond (.s 26) (.skip) (.exit 0)) (.n 2))
 | 4=>.seq (.reg [.fa 19 0 (.s 3),.ld 20 (.s 19),.bd 21 [.str [],.bool false,.nil] [(0,1,(.s 20))],.al 7 t_Term [.str [],.bool false,.nil],.st 3 (.s 7) (.s 21),.ono t_Term 3 2 (.s 7)]) (.seq (.seq (.reg [.fa 22 2 (.s 3),.ld 23 (.s 22),.len 24 (.s 23),.mv 25 (.i 0)]) (.blk 0 (.loop (.n 1)))) (.n 0))
 | _=>.skip
def body:C:=.seq (.reg [.br 3 t_Term (.s 0),.al 6 t_Term [.str [],.bool false,.sl 3 []]]) (.seq (.seq (.reg [.fa 10 1 (.s 3),.ld 11 (.s 10)]) (.cond (.s 11) (.seq (.reg [.mv 12 (.s 2),.mv 13 (.s 1),.fa 14 0 (.s 3),.ld 15 (.s 14),.callp (some 16) n_slices_Index_s_string_string [.s 13,.s 15],.ia 17 3 (.s 12) (.s 16),.la 18 3 (.s 17),.st 3 (.s 6) (.s 18)]) (.ret)) (.skip))) (.n 4))
def rs:List RV:=[.a 6 3]
attribute [push_cast] nd body
theorem ok:okF prog n_multi_plug nd body 3 rs = true:=by kernel_rfl
abbrev L3 (v1 v2 v6 v7 v23 v24 v25:V) (B:Nat) (H:List Ob) (Q:X→T→List Ob→Prop):Prop:=Run prog nd B [.c (.m 3),.c (.loop (.n 1)),.mk 0,.c (.n 0)] [(1,v1),(2,v2),(6,v6),(7,v7),(23,v23),(24,v24),(25,v25)] H Q
theorem G3 (h:Run prog nd B (.c (nd 3) :: s) t H Q):Run prog nd B (.c (.m 3) :: s) t H Q:=run_m.2 h
end multi_plug
namespace multi_large_1
def nd (_:Nat):C:=.skip
def body:C:=.seq (.reg [.br 3 t_Term (.s 0),.mv 4 (.c (.bool false))]) (.seq (.reg [.ld 5 (.s 1),.bin 6 .sub (.s 5) (.i 1),.st 1 (.s 1) (.s 6)]) (.seq (.reg [.ld 7 (.s 1),.bin 8 .lss (.s 7) (.i 0),.mv 9 (.s 8),.gd (.s 9) false [10,11,12,13] [.fa 10 2 (.s 3),.ld 11 (.s 10),.ld 12 (.s 2),.call (some 13) n_slices_ContainsFunc_s_Term_Term [.s 11,.s 12]],.pick 14 (.s 9) (.c (.bool true)) (.s 13),.mv 4 (.s 14)]) (.ret)))
def rs:List RV:=[.t 4]
attribute [push_cast] nd body
theorem ok:okF prog n_multi_large_1 nd body 3 rs = true:=by kernel_rfl
end multi_large_1
end Go.Dw
end
section
namespace Go.Dw
variable {s:List K} {B:Nat} {t:T} {H:List Ob} {Q:X→T→List Ob→Prop}
namespace slices_ContainsFunc_s_Term_Term
def nd (_:Nat):C:=.skip
def body:C:=.seq (.reg [.mv 4 (.c (.bool false))]) (.seq (.reg [.mv 5 (.s 0),.mv 6 (.s 1),.callp (some 7) n_slices_IndexFunc_s_Term_Term [.s 5,.s 6],.bin 8 .geq (.s 7) (.i 0),.mv 4 (.s 8)]) (.ret))
def rs:List RV:=[.t 4]
attribute [push_cast] nd body
theorem ok:okF prog n_slices_ContainsFunc_s_Term_Term nd body 2 rs = true:=by kernel_rfl
end slices_ContainsFunc_s_Term_Term
namespace term_fits
def nd (_:Nat):C:=.skip
def body:C:=.seq (.reg [.br 1 t_Term (.s 0),.mv 2 (.c (.bool false))]) (.seq (.reg [.la 3 3 (.s 1),.callp (some 4) n_term_Size [.s 3],.bin 5 .leq (.s 4) (.i 4000),.mv 6 (.s 5),.gd (.s 6) true [7,8,9] [.la 7 3 (.s 1),.callp (some 8) n_term_Depth [.s 7],.bin 9 .leq (.s 8) (.i 200)],.pick 10 (.s 6) (.s 9) (.c (.bool false)),.mv 2 (.s 10)]) (.ret))
def rs:List RV:=[.t 2]
attribute [push_cast] nd body
theorem ok:okF prog n_term_fits nd body 1 rs = true:=by kernel_rfl
end term_fits
namespace term_formed
def nd:Nat→C
 | 0=>.seq (.reg [.fa 14 2 (.s 1),.ld 15 (.s 14),.len 16 (.s 15),.bin 17 .leq (.s 16) (.i 8),.mv 18 (.s 17),.gd (.s 18) true [19,20,21] [.fa 19 0 (.s 1),.ld 20 (.s 19),.callp (some 21) n_term_IsName [.s 20,(.c (.bool true))]],.pick 22 (.s 18) (.s 21) (.c (.bool false)),.mv 23 (.s 22),.gd (.s 23) true [24,25,26,27] [.fa 24 2 (.s 1),.ld 25 (.s 24),.callp (some 26) n_slices_ContainsFunc_s_Term_Term [.s 25,(.f n_term_formed_1)],.un 27 .not (.s 26)],.pick 28 (.s 23) (.s 27) (.c (.bool false)),.mv 2 (.s 28)]) (.ret)
 | _=>.skip
def body:C:=.seq (.reg [.br 1 t_Term (.s 0),.mv 2 (.c (.bool false))]) (.seq (.seq (.reg [.fa 3 1 (.s 1),.ld 4 (.s 3)]) (.cond (.s 4) (.seq (.reg [.fa 5 2 (.s 1),.ld 6 (.s 5),.len 7 (.s 6),.bin 8 .eql (.s 7) (.i 0),.mv 9 (.s 8),.gd (.s 9) true [10,11,12] [.fa 10 0 (.s 1),.ld 11 (.s 10),.callp (some 12) n_term_IsName [.s 11,(.c (.bool false))]],.pick 13 (.s 9) (.s 12) (.c (.bool false)),.mv 2 (.s 13)]) (.ret)) (.skip))) (.n 0))
def rs:List RV:=[.t 2]
attribute [push_cast] nd body
theorem ok:okF prog n_term_formed nd body 1 rs = true:=by kernel_rfl
end term_formed
namespace term_Sub
def nd:Nat→C
 | 0=>.seq (.reg [.la 30 3 (.s 2),.st 3 (.s 4) (.s 30),.mv 5 (.c (.bool true))]) (.ret)
 | 1=>.gh [.ks 2 [2,4,8,9,10]] (.m 3)
 | 2=>.seq (.blk 1 (.seq (.reg [.ia 12 1 (.s 8) (.s 10),.ld 13 (.s 12),.mv 7 (.s 13)]) (.seq (.seq (.reg [.mv 14 (.s 7),.bin 15 .lss (.s 14) (.i 0),.mv 16 (.s 15),.gd (.s 16) false [17,18,19,20,21] [.mv 17 (.s 7),.fa 18 2 (.s 2),.ld 19 (.s 18),.len 20 (.s 19),.bin 21 .geq (.s 17) (.s 20)],.pick 22 (.s 16) (.c (.bool true)) (.s 21)]) (.cond (.s 22) (.seq (.reg [.bd 23 [.str [],.bool false,.sl 3 []] [],.st 3 (.s 4) (.s 23),.mv 5 (.c (.bool false))]) (.ret)) (.skip))) (.reg [.fa 24 2 (.s 2),.ld 25 (.s 24),.mv 26 (.s 7),.ia 27 3 (.s 25) (.s 26),.la 28 3 (.s 27),.st 3 (.s 2) (.s 28)])))) (.reg [.bin 29 .add (.s 10) (.i 1),.mv 10 (.s 29)])
 | 3=>.seq (.reg [.bin 11 .lss (.s 10) (.s 9)]) (.seq (.cond (.s 11) (.skip) (.exit 0)) (.n 2))
 | _=>.skip
def body:C:=.seq (.reg [.bx 2 t_Term (.s 0),.al 4 t_Term [.str [],.bool false,.sl 3 []],.mv 5 (.c (.bool false))]) (.seq (.seq (.reg [.mv 8 (.s 1),.len 9 (.s 8),.mv 10 (.i 0)]) (.blk 0 (.loop (.n 1)))) (.n 0))
def rs:List RV:=[.a 4 3,.t 5]
attribute [push_cast] nd body
theorem ok:okF prog n_term_Sub nd body 2 rs = true:=by kernel_rfl
abbrev L3 (v2 v4 v8 v9 v10:V) (B:Nat) (H:List Ob) (Q:X→T→List Ob→Prop):Prop:=Run prog nd B [.c (.m 3),.c (.loop (.n 1)),.mk 0,.c (.n 0)] [(2,v2),(4,v4),(8,v8),(9,v9),(10,v10)] H Q
theorem G3 (h:Run prog nd B (.c (nd 3) :: s) t H Q):Run prog nd B (.c (.m 3) :: s) t H Q:=run_m.2 h
end term_Sub
namespace unify_Find
def nd (_:Nat):C:=.skip
def body:C:=.seq (.reg [.br 2 t_Term (.s 0),.br 3 t_Term (.s 1),.mv 4 (.c (.sl 4 [])),.mv 5 (.c (.bool false))]) (.seq (.reg [.al 6 t_unify_matcher [.nil],.rono t_Bind 4 0 (.s 6)]) (.seq (.reg [.la 8 3 (.s 2),.la 9 3 (.s 3),.call (some 10) n_unify_matcher_match [.s 6,.s 8,.s 9],.mv 7 (.s 10)]) (.seq (.reg [.fa 11 0 (.s 6),.ld 12 (.s 11),.frz 12,.mv 13 (.s 7),.mv 4 (.s 12),.mv 5 (.s 13)]) (.ret))))
def rs:List RV:=[.t 4,.t 5]
attribute [push_cast] nd body
theorem ok:okF prog n_unify_Find nd body 2 rs = true:=by kernel_rfl
end unify_Find
namespace term_measure
def nd:Nat→C
 | 0=>.seq (.reg [.fa 51 1 (.s 7),.ld 52 (.s 51),.bin 53 .add (.s 52) (.i 1),.fa 54 1 (.s 7),.st 1 (.s 54) (.s 53)]) (.seq (.reg [.la 55 2 (.s 7),.st 2 (.s 4) (.s 55)]) (.ret))
 | 1=>.gh [.ks 2 [0,4,7,29,30,31]] (.m 3)
 | 2=>.seq (.blk 1 (.seq (.reg [.ia 33 3 (.s 29) (.s 31),.la 34 3 (.s 33),.al 9 t_Term [.str [],.bool false,.sl 3 []],.sf 9 3 (.s 34)]) (.seq (.reg [.mv 35 (.s 0),.la 36 3 (.s 9),.callp (some 37) n_term_measure [.s 35,.s 36],.al 10 t_term_meter [.int .i64 0,.int .i64 0],.sf 10 2 (.s 37)]) (.dr [0,1,2,3,4,5,6,7,10] [.fa 38 0 (.s 7),.ld 39 (.s 38),.fa 40 0 (.s 10),.ld 41 (.s 40),.bin 42 .add (.s 39) (.s 41),.fa 43 1 (.s 7),.ld 44 (.s 43),.fa 45 1 (.s 10),.fa 48 0 (.s 7),.alt [([8,9,11,12,13],[.ld 46 (.s 45),.mx 47 (.s 44) (.s 46),.st 1 (.s 48) (.s 42),.fa 49 1 (.s 7),.st 1 (.s 49) (.s 47)]),([11,8,9,12,13],[.st 1 (.s 48) (.s 42),.ld 46 (.s 45),.mx 47 (.s 44) (.s 46),.fa 49 1 (.s 7),.st 1 (.s 49) (.s 47)])]])))) (.reg [.bin 50 .add (.s 31) (.i 1),.mv 31 (.s 50)])
 | 3=>.seq (.reg [.bin 32 .lss (.s 31) (.s 30)]) (.seq (.cond (.s 32) (.skip) (.exit 0)) (.n 2))
 | 4=>.seq (.reg [.bd 27 [.int .i64 0,.int .i64 0] [(0,1,(.i 1)),(1,1,(.i 0))],.al 7 t_term_meter [.int .i64 0,.int .i64 0],.st 2 (.s 7) (.s 27)]) (.seq (.seq (.reg [.fa 28 2 (.s 3),.ld 29 (.s 28),.len 30 (.s 29),.mv 31 (.i 0)]) (.blk 0 (.loop (.n 1)))) (.n 0))
 | 5=>.seq (.reg [.bd 26 [.int .i64 0,.int .i64 0] [(0,1,(.i 1)),(1,1,(.i 1))],.st 2 (.s 4) (.s 26)]) (.ret)
 | _=>.skip
def body:C:=.seq (.reg [.br 3 t_Term (.s 1),.al 4 t_term_meter [.int .i64 0,.int .i64 0]]) (.seq (.seq (.reg [.fa 11 1 (.s 3),.ld 12 (.s 11)]) (.cond (.s 12) (.seq (.seq (.reg [.mv 14 (.s 0),.fa 15 0 (.s 3),.ld 16 (.s 15),.callp (some 17) n_term_Image [.s 14,.s 16],.mv 13 (.s 17),.ex 18 (.s 13) 0,.ex 19 (.s 13) 1,.al 5 t_Term [.str [],.bool false,.sl 3 []],.sf 5 3 (.s 18),.mv 6 (.s 19)]) (.seq (.reg [.mv 20 (.s 6)]) (.cond (.s 20) (.seq (.dr [0,1,2,3,4,5] [.la 21 3 (.s 5),.callp (some 22) n_term_Size [.s 21],.la 23 3 (.s 5),.callp (some 24) n_term_Depth [.s 23],.bd 25 [.int .i64 0,.int .i64 0] [(0,1,(.s 22)),(1,1,(.s 24))],.st 2 (.s 4) (.s 25)]) (.ret)) (.skip)))) (.n 5)) (.skip))) (.n 4))
def rs:List RV:=[.a 4 2]
attribute [push_cast] nd body
theorem ok:okF prog n_term_measure nd body 2 rs = true:=by kernel_rfl
abbrev L3 (v0 v4 v7 v29 v30 v31:V) (B:Nat) (H:List Ob) (Q:X→T→List Ob→Prop):Prop:=Run prog nd B [.c (.m 3),.c (.loop (.n 1)),.mk 0,.c (.n 0)] [(0,v0),(4,v4),(7,v7),(29,v29),(30,v30),(31,v31)] H Q
theorem G3 (h:Run prog nd B (.c (nd 3) :: s) t H Q):Run prog nd B (.c (.m 3) :: s) t H Q:=run_m.2 h
end term_measure
namespace term_replace
def nd:Nat→C
 | 0=>.seq (.reg [.la 44 3 (.s 7),.st 3 (.s 4) (.s 44)]) (.ret)
 | 1=>.gh [.ks 3 [0,4,7,29,30,31]] (.m 3)
 | 2=>.seq (.blk 1 (.seq (.reg [.ia 33 3 (.s 29) (.s 31),.la 34 3 (.s 33),.al 9 t_Term [.str [],.bool false,.sl 3 []],.sf 9 3 (.s 34)]) (.dr [0,1,2,3,4,5,6,7,8] [.fa 35 2 (.s 7),.ld 36 (.s 35),.mv 37 (.s 0),.la 38 3 (.s 9),.callp (some 39) n_term_replace [.s 37,.s 38],.bs 40 3 [.s 39],.app 41 t_Term 3 48 (.s 36) (.s 40),.fa 42 2 (.s 7),.st 1 (.s 42) (.s 41)]))) (.reg [.bin 43 .add (.s 31) (.i 1),.mv 31 (.s 43)])
 | 3=>.seq (.reg [.bin 32 .lss (.s 31) (.s 30)]) (.seq (.cond (.s 32) (.skip) (.exit 0)) (.n 2))
 | 4=>.seq (.reg [.fa 25 0 (.s 3),.ld 26 (.s 25),.bd 27 [.str [],.bool false,.nil] [(0,1,(.s 26))],.al 7 t_Term [.str [],.bool false,.nil],.st 3 (.s 7) (.s 27),.ono t_Term 3 2 (.s 7)]) (.seq (.seq (.reg [.fa 28 2 (.s 3),.ld 29 (.s 28),.len 30 (.s 29),.mv 31 (.i 0)]) (.blk 0 (.loop (.n 1)))) (.n 0))
 | 5=>.seq (.reg [.fa 22 0 (.s 3),.ld 23 (.s 22),.bd 24 [.str [],.bool false,.sl 3 []] [(0,1,(.s 23)),(1,1,(.c (.bool true)))],.st 3 (.s 4) (.s 24)]) (.ret)
 | _=>.skip
def body:C:=.seq (.reg [.br 3 t_Term (.s 1),.al 4 t_Term [.str [],.bool false,.sl 3 []]]) (.seq (.seq (.reg [.fa 10 1 (.s 3),.ld 11 (.s 10)]) (.cond (.s 11) (.seq (.seq (.reg [.mv 13 (.s 0),.fa 14 0 (.s 3),.ld 15 (.s 14),.callp (some 16) n_term_Image [.s 13,.s 15],.mv 12 (.s 16),.ex 17 (.s 12) 0,.ex 18 (.s 12) 1,.al 5 t_Term [.str [],.bool false,.sl 3 []],.sf 5 3 (.s 17),.mv 6 (.s 18)]) (.seq (.reg [.mv 19 (.s 6)]) (.cond (.s 19) (.seq (.reg [.la 20 3 (.s 5),.callp (some 21) n_term_Own [.s 20],.st 3 (.s 4) (.s 21)]) (.ret)) (.skip)))) (.n 5)) (.skip))) (.n 4))
def rs:List RV:=[.a 4 3]
attribute [push_cast] nd body
theorem ok:okF prog n_term_replace nd body 2 rs = true:=by kernel_rfl
abbrev L3 (v0 v4 v7 v29 v30 v31:V) (B:Nat) (H:List Ob) (Q:X→T→List Ob→Prop):Prop:=Run prog nd B [.c (.m 3),.c (.loop (.n 1)),.mk 0,.c (.n 0)] [(0,v0),(4,v4),(7,v7),(29,v29),(30,v30),(31,v31)] H Q
theorem G3 (h:Run prog nd B (.c (nd 3) :: s) t H Q):Run prog nd B (.c (.m 3) :: s) t H Q:=run_m.2 h
end term_replace
namespace slices_IndexFunc_s_Step_Step
def nd:Nat→C
 | 0=>.seq (.reg [.mv 4 (.i (-1))]) (.ret)
 | 1=>.gh [.ks 0 [0,1,7,8]] (.m 3)
 | 2=>.seq (.blk 1 (.seq (.reg [.mv 10 (.s 8),.mv 5 (.s 10)]) (.seq (.reg [.mv 11 (.s 1),.mv 12 (.s 0),.mv 13 (.s 5),.ia 14 2 (.s 12) (.s 13),.la 15 2 (.s 14),.callvp (some 16) (.s 11) [.s 15]]) (.cond (.s 16) (.seq (.reg [.mv 17 (.s 5),.mv 4 (.s 17)]) (.ret)) (.skip))))) (.reg [.bin 18 .add (.s 8) (.i 1),.mv 8 (.s 18)])
 | 3=>.seq (.reg [.bin 9 .lss (.s 8) (.s 7)]) (.seq (.cond (.s 9) (.skip) (.exit 0)) (.n 2))
 | _=>.skip
def body:C:=.seq (.reg [.mv 4 (.i 0)]) (.seq (.seq (.reg [.mv 6 (.s 0),.len 7 (.s 6),.mv 8 (.i 0)]) (.blk 0 (.loop (.n 1)))) (.n 0))
def rs:List RV:=[.t 4]
attribute [push_cast] nd body
theorem ok:okF prog n_slices_IndexFunc_s_Step_Step nd body 2 rs = true:=by kernel_rfl
abbrev L3 (v0 v1 v7 v8:V) (B:Nat) (H:List Ob) (Q:X→T→List Ob→Prop):Prop:=Run prog nd B [.c (.m 3),.c (.loop (.n 1)),.mk 0,.c (.n 0)] [(0,v0),(1,v1),(7,v7),(8,v8)] H Q
theorem G3 (h:Run prog nd B (.c (nd 3) :: s) t H Q):Run prog nd B (.c (.m 3) :: s) t H Q:=run_m.2 h
end slices_IndexFunc_s_Step_Step
namespace multi_Equal
def nd (_:Nat):C:=.skip
def body:C:=.seq (.reg [.br 2 t_Multi (.s 0),.br 3 t_Multi (.s 1),.mv 4 (.c (.bool false))]) (.seq (.reg [.fa 5 0 (.s 2),.ld 6 (.s 5),.fa 7 0 (.s 3),.ld 8 (.s 7),.bin 9 .eql (.s 6) (.s 8),.mv 10 (.s 9),.gd (.s 10) true [11,12,13,14,15] [.fa 11 1 (.s 2),.ld 12 (.s 11),.fa 13 1 (.s 3),.ld 14 (.s 13),.bin 15 .eql (.s 12) (.s 14)],.pick 16 (.s 10) (.s 15) (.c (.bool false)),.mv 17 (.s 16),.gd (.s 17) true [18,19,20,21,22] [.fa 18 2 (.s 2),.ld 19 (.s 18),.fa 20 2 (.s 3),.ld 21 (.s 20),.bb 22 .eql (.s 19) (.s 21)],.pick 23 (.s 17) (.s 22) (.c (.bool false)),.mv 24 (.s 23),.gd (.s 24) true [25,26,27,28,29] [.fa 25 3 (.s 2),.ld 26 (.s 25),.fa 27 3 (.s 3),.ld 28 (.s 27),.callp (some 29) n_slices_EqualFunc_s_Multi_s_Multi_Multi_Multi [.s 26,.s 28,(.f n_multi_Equal)]],.pick 30 (.s 24) (.s 29) (.c (.bool false)),.mv 4 (.s 30)]) (.ret))
def rs:List RV:=[.t 4]
attribute [push_cast] nd body
theorem ok:okF prog n_multi_Equal nd body 2 rs = true:=by kernel_rfl
end multi_Equal
namespace multi_own
def nd:Nat→C
 | 0=>.seq (.reg [.la 23 4 (.s 1),.st 4 (.s 2) (.s 23)]) (.ret)
 | 1=>.gh [.ks 3 [1,2,9,10,11]] (.m 3)
 | 2=>.seq (.blk 1 (.seq (.reg [.ia 13 4 (.s 9) (.s 11),.la 14 4 (.s 13),.al 5 t_Multi [.int .i64 0,.str [],.bool false,.sl 4 []],.sf 5 4 (.s 14)]) (.dr [0,1,2,3,4,5,6,7] [.fa 15 3 (.s 1),.ld 16 (.s 15),.la 17 4 (.s 5),.callp (some 18) n_multi_own [.s 17],.bs 19 4 [.s 18],.app 20 t_Multi 4 56 (.s 16) (.s 19),.fa 21 3 (.s 1),.st 1 (.s 21) (.s 20)]))) (.reg [.bin 22 .add (.s 11) (.i 1),.mv 11 (.s 22)])
 | 3=>.seq (.reg [.bin 12 .lss (.s 11) (.s 10)]) (.seq (.cond (.s 12) (.skip) (.exit 0)) (.n 2))
 | _=>.skip
def body:C:=.seq (.reg [.bx 1 t_Multi (.s 0),.al 2 t_Multi [.int .i64 0,.str [],.bool false,.sl 4 []]]) (.seq (.reg [.fa 6 3 (.s 1),.ld 7 (.s 6),.mv 3 (.s 7)]) (.seq (.reg [.fa 8 3 (.s 1),.st 1 (.s 8) (.c .nil),.ono t_Multi 4 0 (.s 8)]) (.seq (.seq (.reg [.mv 9 (.s 3),.len 10 (.s 9),.mv 11 (.i 0)]) (.blk 0 (.loop (.n 1)))) (.n 0))))
def rs:List RV:=[.a 2 4]
attribute [push_cast] nd body
theorem ok:okF prog n_multi_own nd body 1 rs = true:=by kernel_rfl
abbrev L3 (v1 v2 v9 v10 v11:V) (B:Nat) (H:List Ob) (Q:X→T→List Ob→Prop):Prop:=Run prog nd B [.c (.m 3),.c (.loop (.n 1)),.mk 0,.c (.n 0)] [(1,v1),(2,v2),(9,v9),(10,v10),(11,v11)] H Q
theorem G3 (h:Run prog nd B (.c (nd 3) :: s) t H Q):Run prog nd B (.c (.m 3) :: s) t H Q:=run_m.2 h
end multi_own
namespace r03_Match
def nd (_:Nat):C:=.skip
def body:C:=.seq (.reg [.br 2 t_Term (.s 0),.br 3 t_Term (.s 1),.mv 4 (.c (.sl 4 [])),.mv 5 (.c (.bool false))]) (.seq (.reg [.la 6 3 (.s 2),.la 7 3 (.s 3),.callp (some 8) n_r03_match [(.c (.sl 4 [])),.s 6,.s 7],.ex 9 (.s 8) 0,.ex 10 (.s 8) 1,.mv 4 (.s 9),.mv 5 (.s 10)]) (.ret))
def rs:List RV:=[.t 4,.t 5]
attribute [push_cast] nd body
theorem ok:okF prog n_r03_Match nd body 2 rs = true:=by kernel_rfl
end r03_Match
namespace r01_Image
def nd:Nat→C
 | 0=>.seq (.reg [.mv 20 (.s 1),.bd 21 [.str [],.bool false,.sl 3 []] [(0,1,(.s 20)),(1,1,(.c (.bool true)))],.st 3 (.s 4) (.s 21)]) (.ret)
 | 1=>.gh [.ks 1 [1,4,7,8,9]] (.m 3)
 | 2=>.seq (.blk 1 (.seq (.reg [.ia 11 4 (.s 7) (.s 9),.la 12 4 (.s 11),.al 6 t_Bind [.str [],.str [],.bool false,.sl 3 []],.sf 6 4 (.s 12)]) (.seq (.reg [.fa 13 0 (.s 6),.ld 14 (.s 13),.mv 15 (.s 1),.bin 16 .eql (.s 14) (.s 15)]) (.cond (.s 16) (.seq (.reg [.fa 17 1 (.s 6),.la 18 3 (.s 17),.st 3 (.s 4) (.s 18)]) (.ret)) (.skip))))) (.reg [.bin 19 .add (.s 9) (.i 1),.mv 9 (.s 19)])
 | 3=>.seq (.reg [.bin 10 .lss (.s 9) (.s 8)]) (.seq (.cond (.s 10) (.skip) (.exit 0)) (.n 2))
 | _=>.skip
def body:C:=.seq (.reg [.al 4 t_Term [.str [],.bool false,.sl 3 []]]) (.seq (.seq (.reg [.mv 7 (.s 0),.len 8 (.s 7),.mv 9 (.i 0)]) (.blk 0 (.loop (.n 1)))) (.n 0))
def rs:List RV:=[.a 4 3]
attribute [push_cast] nd body
theorem ok:okF prog n_r01_Image nd body 2 rs = true:=by kernel_rfl
abbrev L3 (v1 v4 v7 v8 v9:V) (B:Nat) (H:List Ob) (Q:X→T→List Ob→Prop):Prop:=Run prog nd B [.c (.m 3),.c (.loop (.n 1)),.mk 0,.c (.n 0)] [(1,v1),(4,v4),(7,v7),(8,v8),(9,v9)] H Q
theorem G3 (h:Run prog nd B (.c (nd 3) :: s) t H Q):Run prog nd B (.c (.m 3) :: s) t H Q:=run_m.2 h
end r01_Image
namespace r01_Depth
def nd:Nat→C
 | 0=>.seq (.reg [.mv 18 (.s 3),.bin 19 .add (.s 18) (.i 1),.mv 2 (.s 19)]) (.ret)
 | 1=>.gh [.ks 0 [3,7,8,9]] (.m 3)
 | 2=>.seq (.blk 1 (.seq (.reg [.ia 11 3 (.s 7) (.s 9),.la 12 3 (.s 11),.al 5 t_Term [.str [],.bool false,.sl 3 []],.sf 5 3 (.s 12)]) (.reg [.mv 13 (.s 3),.la 14 3 (.s 5),.callp (some 15) n_r01_Depth [.s 14],.mx 16 (.s 13) (.s 15),.mv 3 (.s 16)]))) (.reg [.bin 17 .add (.s 9) (.i 1),.mv 9 (.s 17)])
 | 3=>.seq (.reg [.bin 10 .lss (.s 9) (.s 8)]) (.seq (.cond (.s 10) (.skip) (.exit 0)) (.n 2))
 | _=>.skip
def body:C:=.seq (.reg [.br 1 t_Term (.s 0),.mv 2 (.i 0)]) (.seq (.reg [.mv 3 (.i 0)]) (.seq (.seq (.reg [.fa 6 2 (.s 1),.ld 7 (.s 6),.len 8 (.s 7),.mv 9 (.i 0)]) (.blk 0 (.loop (.n 1)))) (.n 0)))
def rs:List RV:=[.t 2]
attribute [push_cast] nd body
theorem ok:okF prog n_r01_Depth nd body 1 rs = true:=by kernel_rfl
abbrev L3 (v3 v7 v8 v9:V) (B:Nat) (H:List Ob) (Q:X→T→List Ob→Prop):Prop:=Run prog nd B [.c (.m 3),.c (.loop (.n 1)),.mk 0,.c (.n 0)] [(3,v3),(7,v7),(8,v8),(9,v9)] H Q
theorem G3 (h:Run prog nd B (.c (nd 3) :: s) t H Q):Run prog nd B (.c (.m 3) :: s) t H Q:=run_m.2 h
end r01_Depth
namespace r01_Formed
def nd:Nat→C
 | 0=>.seq (.reg [.mv 2 (.c (.bool true))]) (.ret)
 | 1=>.gh [.ks 0 [27,28,29]] (.m 3)
 | 2=>.seq (.blk 1 (.seq (.reg [.ia 31 3 (.s 27) (.s 29),.la 32 3 (.s 31),.al 4 t_Term [.str [],.bool false,.sl 3 []],.sf 4 3 (.s 32)]) (.seq (.reg [.la 33 3 (.s 4),.callp (some 34) n_r01_Formed [.s 33],.un 35 .not (.s 34)]) (.cond (.s 35) (.seq (.reg [.mv 2 (.c (.bool false))]) (.ret)) (.skip))))) (.reg [.bin 36 .add (.s 29) (.i 1),.mv 29 (.s 36)])
 | 3=>.seq (.reg [.bin 30 .lss (.s 29) (.s 28)]) (.seq (.cond (.s 30) (.skip) (.exit 0)) (.n 2))
 | 4=>.seq (.seq (.reg [.fa 26 2 (.s 1),.ld 27 (.s 26),.len 28 (.s 27),.mv 29 (.i 0)]) (.blk 0 (.loop (.n 1)))) (.n 0)
 | 5=>.seq (.seq (.reg [.fa 16 0 (.s 1),.ld 17 (.s 16),.callp (some 18) n_r01_IsName [.s 17,(.c (.bool true))],.un 19 .not (.s 18),.mv 20 (.s 19),.gd (.s 20) false [21,22,23,24] [.fa 21 2 (.s 1),.ld 22 (.s 21),.len 23 (.s 22),.bin 24 .gtr (.s 23) (.i 8)],.pick 25 (.s 20) (.c (.bool true)) (.s 24)]) (.cond (.s 25) (.seq (.reg [.mv 2 (.c (.bool false))]) (.ret)) (.skip))) (.n 4)
 | _=>.skip
def body:C:=.seq (.reg [.br 1 t_Term (.s 0),.mv 2 (.c (.bool false))]) (.seq (.seq (.reg [.fa 5 1 (.s 1),.ld 6 (.s 5)]) (.cond (.s 6) (.seq (.reg [.fa 7 0 (.s 1),.ld 8 (.s 7),.callp (some 9) n_r01_IsName [.s 8,(.c (.bool false))],.mv 10 (.s 9),.gd (.s 10) true [11,12,13,14] [.fa 11 2 (.s 1),.ld 12 (.s 11),.len 13 (.s 12),.bin 14 .eql (.s 13) (.i 0)],.pick 15 (.s 10) (.s 14) (.c (.bool false)),.mv 2 (.s 15)]) (.ret)) (.skip))) (.n 5))
def rs:List RV:=[.t 2]
attribute [push_cast] nd body
theorem ok:okF prog n_r01_Formed nd body 1 rs = true:=by kernel_rfl
abbrev L3 (v27 v28 v29:V) (B:Nat) (H:List Ob) (Q:X→T→List Ob→Prop):Prop:=Run prog nd B [.c (.m 3),.c (.loop (.n 1)),.mk 0,.c (.n 0)] [(27,v27),(28,v28),(29,v29)] H Q
theorem G3 (h:Run prog nd B (.c (nd 3) :: s) t H Q):Run prog nd B (.c (.m 3) :: s) t H Q:=run_m.2 h
end r01_Formed
namespace r04_Below
def nd (_:Nat):C:=.skip
def body:C:=.seq (.reg [.mv 4 (.c (.bool false))]) (.seq (.reg [.mv 5 (.s 0),.len 6 (.s 5),.mv 7 (.s 1),.len 8 (.s 7),.bin 9 .gtr (.s 6) (.s 8),.mv 10 (.s 9),.gd (.s 10) true [11,12,13,14,15,16] [.mv 11 (.s 0),.mv 12 (.s 1),.len 13 (.s 12),.sx 14 1 (.s 11) none (some (.s 13)),.mv 15 (.s 1),.callp (some 16) n_r01_SamePos [.s 14,.s 15]],.pick 17 (.s 10) (.s 16) (.c (.bool false)),.mv 4 (.s 17)]) (.ret))
def rs:List RV:=[.t 4]
attribute [push_cast] nd body
theorem ok:okF prog n_r04_Below nd body 2 rs = true:=by kernel_rfl
end r04_Below
namespace r01_Positions
def nd:Nat→C
 | 0=>.seq (.reg [.mv 34 (.s 3),.mv 2 (.s 34)]) (.ret)
 | 1=>.gh [.ks 1 [3,11,12,13]] (.m 6)
 | 2=>.gh [.ks 2 [3,4,11,12,13,19,20,21]] (.m 4)
 | 3=>.seq (.blk 3 (.seq (.reg [.ia 23 1 (.s 19) (.s 21),.ld 24 (.s 23),.mv 7 (.s 24)]) (.reg [.mv 25 (.s 3),.mv 26 (.s 4),.bo 27 t_int 1 [.s 26],.mv 28 (.s 7),.app 29 t_int 1 8 (.s 27) (.s 28),.bs 30 1 [.s 29],.app 31 t_s_int 1 24 (.s 25) (.s 30),.mv 3 (.s 31)]))) (.reg [.bin 32 .add (.s 21) (.i 1),.mv 21 (.s 32)])
 | 4=>.seq (.reg [.bin 22 .lss (.s 21) (.s 20)]) (.seq (.cond (.s 22) (.skip) (.exit 2)) (.n 3))
 | 5=>.seq (.blk 1 (.seq (.reg [.mv 15 (.s 13),.ia 16 3 (.s 11) (.s 13),.la 17 3 (.s 16),.al 5 t_Term [.str [],.bool false,.sl 3 []],.mv 4 (.s 15),.sf 5 3 (.s 17)]) (.seq (.reg [.la 18 3 (.s 5),.callp (some 19) n_r01_Positions [.s 18],.len 20 (.s 19),.mv 21 (.i 0)]) (.blk 2 (.loop (.n 2)))))) (.reg [.bin 33 .add (.s 13) (.i 1),.mv 13 (.s 33)])
 | 6=>.seq (.reg [.bin 14 .lss (.s 13) (.s 12)]) (.seq (.cond (.s 14) (.skip) (.exit 0)) (.n 5))
 | _=>.skip
def body:C:=.seq (.reg [.br 1 t_Term (.s 0),.mv 2 (.c (.sl 1 []))]) (.seq (.reg [.bs 8 1 [],.bo 9 t_s_int 1 [.s 8],.mv 3 (.s 9)]) (.seq (.seq (.reg [.fa 10 2 (.s 1),.ld 11 (.s 10),.len 12 (.s 11),.mv 13 (.i 0)]) (.blk 0 (.loop (.n 1)))) (.n 0)))
def rs:List RV:=[.t 2]
attribute [push_cast] nd body
theorem ok:okF prog n_r01_Positions nd body 1 rs = true:=by kernel_rfl
abbrev L4 (v3 v4 v11 v12 v13 v19 v20 v21:V) (B:Nat) (H:List Ob) (Q:X→T→List Ob→Prop):Prop:=Run prog nd B [.c (.m 4),.c (.loop (.n 2)),.mk 2,.mk 1,.c (.reg [.bin 33 .add (.s 13) (.i 1),.mv 13 (.s 33)]),.c (.loop (.n 1)),.mk 0,.c (.n 0)] [(3,v3),(4,v4),(11,v11),(12,v12),(13,v13),(19,v19),(20,v20),(21,v21)] H Q
theorem G4 (h:Run prog nd B (.c (nd 4) :: s) t H Q):Run prog nd B (.c (.m 4) :: s) t H Q:=run_m.2 h
abbrev L6 (v3 v11 v12 v13:V) (B:Nat) (H:List Ob) (Q:X→T→List Ob→Prop):Prop:=Run prog nd B [.c (.m 6),.c (.loop (.n 1)),.mk 0,.c (.n 0)] [(3,v3),(11,v11),(12,v12),(13,v13)] H Q
theorem G6 (h:Run prog nd B (.c (nd 6) :: s) t H Q):Run prog nd B (.c (.m 6) :: s) t H Q:=run_m.2 h
end r01_Positions
namespace term_Walk_1
def nd (_:Nat):C:=.skip
def body:C:=.reg [.la 3 3 (.s 1),.mv 4 (.s 0),.call (some 5) n_term_walk [.s 3,(.c (.sl 1 [])),.s 4]]
def rs:List RV:=[]
attribute [push_cast] nd body
theorem ok:okF prog n_term_Walk_1 nd body 2 rs = true:=by kernel_rfl
end term_Walk_1
namespace term_walk
def nd:Nat→C
 | 0=>.seq (.reg [.mv 6 (.c (.bool true))]) (.ret)
 | 1=>.gh [.ks 0 [1,2,15,16,17]] (.m 3)
 | 2=>.seq (.blk 1 (.seq (.reg [.mv 19 (.s 17),.ia 20 3 (.s 15) (.s 17),.la 21 3 (.s 20),.al 8 t_Term [.str [],.bool false,.sl 3 []],.mv 7 (.s 19),.sf 8 3 (.s 21)]) (.seq (.dr [1,3,4,6] [.mv 23 (.s 1),.mv 25 (.s 7),.bs 26 1 [.s 25],.mv 28 (.s 2),.alt [([0,2,5,7,8],[.la 22 3 (.s 8),.call (some 24) n_slices_Clone_s_int_int [.s 23],.app 27 t_int 1 8 (.s 24) (.s 26),.call (some 29) n_term_walk [.s 22,.s 27,.s 28],.un 30 .not (.s 29)]),([2,0,5,7,8],[.call (some 24) n_slices_Clone_s_int_int [.s 23],.la 22 3 (.s 8),.app 27 t_int 1 8 (.s 24) (.s 26),.call (some 29) n_term_walk [.s 22,.s 27,.s 28],.un 30 .not (.s 29)])]]) (.cond (.s 30) (.seq (.reg [.mv 6 (.c (.bool false))]) (.ret)) (.skip))))) (.reg [.bin 31 .add (.s 17) (.i 1),.mv 17 (.s 31)])
 | 3=>.seq (.reg [.bin 18 .lss (.s 17) (.s 16)]) (.seq (.cond (.s 18) (.skip) (.exit 0)) (.n 2))
 | 4=>.seq (.seq (.reg [.fa 14 2 (.s 3),.ld 15 (.s 14),.len 16 (.s 15),.mv 17 (.i 0)]) (.blk 0 (.loop (.n 1)))) (.n 0)
 | _=>.skip
def body:C:=.seq (.reg [.br 3 t_Term (.s 0),.mv 6 (.c (.bool false))]) (.seq (.seq (.reg [.mv 9 (.s 2),.mv 10 (.s 1),.la 11 3 (.s 3),.callv (some 12) (.s 9) [.s 10,.s 11],.un 13 .not (.s 12)]) (.cond (.s 13) (.seq (.reg [.mv 6 (.c (.bool false))]) (.ret)) (.skip))) (.n 4))
def rs:List RV:=[.t 6]
attribute [push_cast] nd body
theorem ok:okF prog n_term_walk nd body 3 rs = true:=by kernel_rfl
abbrev L3 (v1 v2 v15 v16 v17:V) (B:Nat) (H:List Ob) (Q:X→T→List Ob→Prop):Prop:=Run prog nd B [.c (.m 3),.c (.loop (.n 1)),.mk 0,.c (.n 0)] [(1,v1),(2,v2),(15,v15),(16,v16),(17,v17)] H Q
theorem G3 (h:Run prog nd B (.c (nd 3) :: s) t H Q):Run prog nd B (.c (.m 3) :: s) t H Q:=run_m.2 h
end term_walk
namespace r01_CheckAll
def nd:Nat→C
 | 0=>.seq (.reg [.mv 2 (.i 0)]) (.ret)
 | 1=>.gh [.ks 0 [6,7,8]] (.m 3)
 | 2=>.seq (.blk 1 (.seq (.reg [.ia 10 3 (.s 6) (.s 8),.la 11 3 (.s 10),.al 4 t_Term [.str [],.bool false,.sl 3 []],.sf 4 3 (.s 11)]) (.seq (.reg [.la 12 3 (.s 4),.callp (some 13) n_r01_Check [.s 12],.mv 5 (.s 13)]) (.seq (.reg [.mv 14 (.s 5),.bin 15 .neq (.s 14) (.i 0)]) (.cond (.s 15) (.seq (.reg [.mv 16 (.s 5),.mv 2 (.s 16)]) (.ret)) (.skip)))))) (.reg [.bin 17 .add (.s 8) (.i 1),.mv 8 (.s 17)])
 | 3=>.seq (.reg [.bin 9 .lss (.s 8) (.s 7)]) (.seq (.cond (.s 9) (.skip) (.exit 0)) (.n 2))
 | _=>.skip
def body:C:=.seq (.reg [.mv 2 (.i 0)]) (.seq (.seq (.reg [.mv 6 (.s 0),.len 7 (.s 6),.mv 8 (.i 0)]) (.blk 0 (.loop (.n 1)))) (.n 0))
def rs:List RV:=[.t 2]
attribute [push_cast] nd body
theorem ok:okF prog n_r01_CheckAll nd body 1 rs = true:=by kernel_rfl
abbrev L3 (v6 v7 v8:V) (B:Nat) (H:List Ob) (Q:X→T→List Ob→Prop):Prop:=Run prog nd B [.c (.m 3),.c (.loop (.n 1)),.mk 0,.c (.n 0)] [(6,v6),(7,v7),(8,v8)] H Q
theorem G3 (h:Run prog nd B (.c (nd 3) :: s) t H Q):Run prog nd B (.c (.m 3) :: s) t H Q:=run_m.2 h
end r01_CheckAll
namespace r01_symbols
def nd:Nat→C
 | 0=>.seq (.reg [.mv 94 (.s 1),.mv 4 (.s 94),.mv 5 (.c (.bool true))]) (.ret)
 | 1=>.gh [.ks 0 [1,77,78,79]] (.m 3)
 | 2=>.seq (.blk 3 (.seq (.reg [.ia 81 3 (.s 77) (.s 79),.la 82 3 (.s 81),.al 8 t_Term [.str [],.bool false,.sl 3 []],.sf 8 3 (.s 82)]) (.seq (.reg [.la 84 3 (.s 8),.mv 85 (.s 1),.callp (some 86) n_r01_symbols [.s 84,.s 85],.mv 83 (.s 86),.ex 87 (.s 83) 0,.ex 88 (.s 83) 1,.mv 9 (.s 87),.mv 10 (.s 88)]) (.seq (.seq (.reg [.mv 89 (.s 10),.un 90 .not (.s 89)]) (.cond (.s 90) (.seq (.reg [.mv 91 (.s 1),.mv 4 (.s 91),.mv 5 (.c (.bool false))]) (.ret)) (.skip))) (.reg [.mv 92 (.s 9),.mv 1 (.s 92)]))))) (.reg [.bin 93 .add (.s 79) (.i 1),.mv 79 (.s 93)])
 | 3=>.seq (.reg [.bin 80 .lss (.s 79) (.s 78)]) (.seq (.cond (.s 80) (.skip) (.exit 2)) (.n 2))
 | 4=>.seq (.seq (.reg [.fa 76 2 (.s 2),.ld 77 (.s 76),.len 78 (.s 77),.mv 79 (.i 0)]) (.blk 2 (.loop (.n 1)))) (.n 0)
 | 5=>.seq (.seq (.dr [0,1,2,3,4,5,6,7,8] [.mv 66 (.s 1),.mv 67 (.s 6),.ia 68 2 (.s 66) (.s 67),.fa 69 1 (.s 68),.ld 70 (.s 69),.fa 71 2 (.s 2),.ld 72 (.s 71),.len 73 (.s 72),.bin 74 .neq (.s 70) (.s 73)]) (.cond (.s 74) (.seq (.reg [.mv 75 (.s 1),.mv 4 (.s 75),.mv 5 (.c (.bool false))]) (.ret)) (.skip))) (.n 4)
 | 6=>.seq (.seq (.dr [0,1,2,3,4,5,6,7,8,9,10,11,12,13] [.mv 35 (.s 6),.mv 36 (.s 1),.len 37 (.s 36),.bin 38 .eql (.s 35) (.s 37),.mv 39 (.s 38),.gd (.s 39) false [40] [.mv 40 (.s 1)],.gd (.s 39) false [41] [.mv 41 (.s 6)],.gd (.s 39) false [42] [.ia 42 2 (.s 40) (.s 41)],.gd (.s 39) false [43] [.fa 43 0 (.s 42)],.gd (.s 39) false [44] [.ld 44 (.s 43)],.gd (.s 39) false [45] [.fa 45 0 (.s 2)],.gd (.s 39) false [46] [.ld 46 (.s 45)],.gd (.s 39) false [47] [.bin 47 .neq (.s 44) (.s 46)],.pick 48 (.s 39) (.c (.bool true)) (.s 47)]) (.cond (.s 48) (.dr [1,2,3,5,6,7,8,0,4,9,10,11,12,13,14,15,16,17] [.mv 50 (.s 1),.mv 51 (.s 6),.sx 52 2 (.s 50) none (some (.s 51)),.fa 54 0 (.s 2),.ld 55 (.s 54),.fa 56 2 (.s 2),.ld 57 (.s 56),.bo 49 t_Symbol 2 [],.app 53 t_Symbol 2 24 (.s 49) (.s 52),.len 58 (.s 57),.bd 59 [.str [],.int .i64 0] [(0,1,(.s 55)),(1,1,(.s 58))],.bs 60 2 [.s 59],.app 61 t_Symbol 2 24 (.s 53) (.s 60),.mv 62 (.s 1),.mv 63 (.s 6),.sx 64 2 (.s 62) (some (.s 63)) none,.app 65 t_Symbol 2 24 (.s 61) (.s 64),.mv 1 (.s 65)]) (.skip))) (.n 5)
 | 7=>.gh [.ks 0 [1,2,6]] (.m 9)
 | 8=>.blk 1 (.reg [.mv 33 (.s 6),.bin 34 .add (.s 33) (.i 1),.mv 6 (.s 34)])
 | 9=>.seq (.seq (.dr [0,1,2,3,4,5,6,7,8,9,10,11,12,13,14] [.mv 18 (.s 6),.mv 19 (.s 1),.len 20 (.s 19),.bin 21 .lss (.s 18) (.s 20),.mv 22 (.s 21),.gd (.s 22) true [23] [.mv 23 (.s 1)],.gd (.s 22) true [24] [.mv 24 (.s 6)],.gd (.s 22) true [25] [.ia 25 2 (.s 23) (.s 24)],.gd (.s 22) true [26] [.fa 26 0 (.s 25)],.gd (.s 22) true [27] [.ld 27 (.s 26)],.gd (.s 22) true [28] [.fa 28 0 (.s 2)],.gd (.s 22) true [29] [.ld 29 (.s 28)],.gd (.s 22) true [30] [.callp (some 30) n_r01_CompareNames [.s 27,.s 29]],.gd (.s 22) true [31] [.bin 31 .lss (.s 30) (.i 0)],.pick 32 (.s 22) (.s 31) (.c (.bool false))]) (.cond (.s 32) (.skip) (.exit 0))) (.n 8)
 | 10=>.seq (.reg [.mv 6 (.i 0)]) (.seq (.blk 0 (.loop (.n 7))) (.n 6))
 | 11=>.seq (.seq (.reg [.fa 14 0 (.s 2),.ld 15 (.s 14),.callp (some 16) n_r01_Marked [.s 15]]) (.cond (.s 16) (.seq (.reg [.mv 17 (.s 1),.mv 4 (.s 17),.mv 5 (.c (.bool false))]) (.ret)) (.skip))) (.n 10)
 | _=>.skip
def body:C:=.seq (.reg [.br 2 t_Term (.s 0),.mv 4 (.c (.sl 2 [])),.mv 5 (.c (.bool false))]) (.seq (.seq (.reg [.fa 11 1 (.s 2),.ld 12 (.s 11)]) (.cond (.s 12) (.seq (.reg [.mv 13 (.s 1),.mv 4 (.s 13),.mv 5 (.c (.bool true))]) (.ret)) (.skip))) (.n 11))
def rs:List RV:=[.t 4,.t 5]
attribute [push_cast] nd body
theorem ok:okF prog n_r01_symbols nd body 2 rs = true:=by kernel_rfl
abbrev L3 (v1 v77 v78 v79:V) (B:Nat) (H:List Ob) (Q:X→T→List Ob→Prop):Prop:=Run prog nd B [.c (.m 3),.c (.loop (.n 1)),.mk 2,.c (.n 0)] [(1,v1),(77,v77),(78,v78),(79,v79)] H Q
theorem G3 (h:Run prog nd B (.c (nd 3) :: s) t H Q):Run prog nd B (.c (.m 3) :: s) t H Q:=run_m.2 h
abbrev L9 (v1 v2 v6:V) (B:Nat) (H:List Ob) (Q:X→T→List Ob→Prop):Prop:=Run prog nd B [.c (.m 9),.c (.loop (.n 7)),.mk 0,.c (.n 6)] [(1,v1),(2,v2),(6,v6)] H Q
theorem G9 (h:Run prog nd B (.c (nd 9) :: s) t H Q):Run prog nd B (.c (.m 9) :: s) t H Q:=run_m.2 h
end r01_symbols
namespace r01_Count
def nd:Nat→C
 | 0=>.seq (.reg [.mv 29 (.s 5),.mv 4 (.s 29)]) (.ret)
 | 1=>.gh [.ks 0 [1,5,17,18,19]] (.m 3)
 | 2=>.seq (.blk 1 (.seq (.reg [.ia 21 3 (.s 17) (.s 19),.la 22 3 (.s 21),.al 7 t_Term [.str [],.bool false,.sl 3 []],.sf 7 3 (.s 22)]) (.reg [.mv 23 (.s 5),.la 24 3 (.s 7),.mv 25 (.s 1),.callp (some 26) n_r01_Count [.s 24,.s 25],.bin 27 .add (.s 23) (.s 26),.mv 5 (.s 27)]))) (.reg [.bin 28 .add (.s 19) (.i 1),.mv 19 (.s 28)])
 | 3=>.seq (.reg [.bin 20 .lss (.s 19) (.s 18)]) (.seq (.cond (.s 20) (.skip) (.exit 0)) (.n 2))
 | 4=>.seq (.seq (.reg [.fa 16 2 (.s 2),.ld 17 (.s 16),.len 18 (.s 17),.mv 19 (.i 0)]) (.blk 0 (.loop (.n 1)))) (.n 0)
 | _=>.skip
def body:C:=.seq (.reg [.br 2 t_Term (.s 0),.mv 4 (.i 0)]) (.seq (.reg [.mv 5 (.i 0)]) (.seq (.seq (.reg [.fa 8 1 (.s 2),.ld 9 (.s 8),.mv 10 (.s 9),.gd (.s 10) true [11,12,13,14] [.fa 11 0 (.s 2),.ld 12 (.s 11),.mv 13 (.s 1),.bin 14 .eql (.s 12) (.s 13)],.pick 15 (.s 10) (.s 14) (.c (.bool false))]) (.cond (.s 15) (.reg [.mv 5 (.i 1)]) (.skip))) (.n 4)))
def rs:List RV:=[.t 4]
attribute [push_cast] nd body
theorem ok:okF prog n_r01_Count nd body 2 rs = true:=by kernel_rfl
abbrev L3 (v1 v5 v17 v18 v19:V) (B:Nat) (H:List Ob) (Q:X→T→List Ob→Prop):Prop:=Run prog nd B [.c (.m 3),.c (.loop (.n 1)),.mk 0,.c (.n 0)] [(1,v1),(5,v5),(17,v17),(18,v18),(19,v19)] H Q
theorem G3 (h:Run prog nd B (.c (nd 3) :: s) t H Q):Run prog nd B (.c (.m 3) :: s) t H Q:=run_m.2 h
end r01_Count
namespace r01_Marked
def nd (_:Nat):C:=.skip
def body:C:=.seq (.reg [.mv 2 (.c (.bool false))]) (.seq (.reg [.mv 3 (.s 0),.bin 4 .neq (.s 3) (.c (.str [])),.mv 5 (.s 4),.gd (.s 5) true [6,7,8,9,10,11] [.mv 6 (.s 0),.mv 7 (.s 0),.lens 8 (.s 7),.bin 9 .sub (.s 8) (.i 1),.ix 10 (.s 6) (.s 9),.bin 11 .eql (.s 10) (.c (.int .u8 35))],.pick 12 (.s 5) (.s 11) (.c (.bool false)),.mv 2 (.s 12)]) (.ret))
def rs:List RV:=[.t 2]
attribute [push_cast] nd body
theorem ok:okF prog n_r01_Marked nd body 1 rs = true:=by kernel_rfl
end r01_Marked
namespace r01_Letters
def nd:Nat→C
 | 0=>.seq (.reg [.mv 2 (.c (.bool true))]) (.ret)
 | 1=>.gh [.ks 0 [0,5,6]] (.m 3)
 | 2=>.seq (.blk 1 (.seq (.reg [.mv 8 (.s 6),.mv 3 (.s 8)]) (.seq (.reg [.mv 9 (.s 0),.mv 10 (.s 3),.ix 11 (.s 9) (.s 10),.callp (some 12) n_r01_letter [.s 11],.un 13 .not (.s 12)]) (.cond (.s 13) (.seq (.reg [.mv 2 (.c (.bool false))]) (.ret)) (.skip))))) (.reg [.bin 14 .add (.s 6) (.i 1),.mv 6 (.s 14)])
 | 3=>.seq (.reg [.bin 7 .lss (.s 6) (.s 5)]) (.seq (.cond (.s 7) (.skip) (.exit 0)) (.n 2))
 | _=>.skip
def body:C:=.seq (.reg [.mv 2 (.c (.bool false))]) (.seq (.seq (.reg [.mv 4 (.s 0),.lens 5 (.s 4),.mv 6 (.i 0)]) (.blk 0 (.loop (.n 1)))) (.n 0))
def rs:List RV:=[.t 2]
attribute [push_cast] nd body
theorem ok:okF prog n_r01_Letters nd body 1 rs = true:=by kernel_rfl
abbrev L3 (v0 v5 v6:V) (B:Nat) (H:List Ob) (Q:X→T→List Ob→Prop):Prop:=Run prog nd B [.c (.m 3),.c (.loop (.n 1)),.mk 0,.c (.n 0)] [(0,v0),(5,v5),(6,v6)] H Q
theorem G3 (h:Run prog nd B (.c (nd 3) :: s) t H Q):Run prog nd B (.c (.m 3) :: s) t H Q:=run_m.2 h
end r01_Letters
namespace slices_Clone_s_Multi_Multi
def nd:Nat→C
 | 0=>.seq (.reg [.bo 5 t_Multi 4 [],.op (.e2r 5),.mv 6 (.s 0),.apr 7 t_Multi 4 56 (.s 5) (.s 6),.mv 2 (.s 7)]) (.ret)
 | _=>.skip
def body:C:=.seq (.reg [.mv 2 (.c .nil),.rnon 2 t_Multi 4]) (.seq (.seq (.reg [.mv 3 (.s 0),.nl 4 false (.s 3)]) (.cond (.s 4) (.seq (.reg [.mv 2 (.c .nil),.rnon 2 t_Multi 4]) (.ret)) (.skip))) (.n 0))
def rs:List RV:=[.t 2]
attribute [push_cast] nd body
theorem ok:okF prog n_slices_Clone_s_Multi_Multi nd body 1 rs = true:=by kernel_rfl
end slices_Clone_s_Multi_Multi
namespace multi_Plug
def nd:Nat→C
 | 0=>.seq (.reg [.la 39 4 (.s 7),.st 4 (.s 6) (.s 39)]) (.ret)
 | 1=>.gh [.ks 3 [1,2,6,7,23,24,25]] (.m 3)
 | 2=>.seq (.blk 1 (.seq (.reg [.ia 27 3 (.s 23) (.s 25),.la 28 3 (.s 27),.al 9 t_Term [.str [],.bool false,.sl 3 []],.sf 9 3 (.s 28)]) (.dr [0,1,2,3,4,5,6,7,8,9] [.fa 29 3 (.s 7),.ld 30 (.s 29),.la 31 3 (.s 9),.mv 32 (.s 1),.mv 33 (.s 2),.callp (some 34) n_multi_Plug [.s 31,.s 32,.s 33],.bs 35 4 [.s 34],.app 36 t_Multi 4 56 (.s 30) (.s 35),.fa 37 3 (.s 7),.st 1 (.s 37) (.s 36)]))) (.reg [.bin 38 .add (.s 25) (.i 1),.mv 25 (.s 38)])
 | 3=>.seq (.reg [.bin 26 .lss (.s 25) (.s 24)]) (.seq (.cond (.s 26) (.skip) (.exit 0)) (.n 2))
 | 4=>.seq (.reg [.fa 19 0 (.s 3),.ld 20 (.s 19),.bd 21 [.int .i64 0,.str [],.bool false,.nil] [(1,1,(.s 20))],.al 7 t_Multi [.int .i64 0,.str [],.bool false,.nil],.st 4 (.s 7) (.s 21),.ono t_Multi 4 3 (.s 7)]) (.seq (.seq (.reg [.fa 22 2 (.s 3),.ld 23 (.s 22),.len 24 (.s 23),.mv 25 (.i 0)]) (.blk 0 (.loop (.n 1)))) (.n 0))
 | _=>.skip
def body:C:=.seq (.reg [.br 3 t_Term (.s 0),.al 6 t_Multi [.int .i64 0,.str [],.bool false,.sl 4 []]]) (.seq (.seq (.reg [.fa 10 1 (.s 3),.ld 11 (.s 10)]) (.cond (.s 11) (.seq (.reg [.mv 12 (.s 2),.mv 13 (.s 1),.fa 14 0 (.s 3),.ld 15 (.s 14),.callp (some 16) n_slices_Index_s_string_string [.s 13,.s 15],.ia 17 4 (.s 12) (.s 16),.la 18 4 (.s 17),.st 4 (.s 6) (.s 18)]) (.ret)) (.skip))) (.n 4))
def rs:List RV:=[.a 6 4]
attribute [push_cast] nd body
theorem ok:okF prog n_multi_Plug nd body 3 rs = true:=by kernel_rfl
abbrev L3 (v1 v2 v6 v7 v23 v24 v25:V) (B:Nat) (H:List Ob) (Q:X→T→List Ob→Prop):Prop:=Run prog nd B [.c (.m 3),.c (.loop (.n 1)),.mk 0,.c (.n 0)] [(1,v1),(2,v2),(6,v6),(7,v7),(23,v23),(24,v24),(25,v25)] H Q
theorem G3 (h:Run prog nd B (.c (nd 3) :: s) t H Q):Run prog nd B (.c (.m 3) :: s) t H Q:=run_m.2 h
end multi_Plug
namespace term_All
def nd:Nat→C
 | 0=>.seq (.reg [.mv 2 (.i 0)]) (.ret)
 | 1=>.gh [.ks 0 [6,7,8]] (.m 3)
 | 2=>.seq (.blk 1 (.seq (.reg [.ia 10 3 (.s 6) (.s 8),.la 11 3 (.s 10),.al 4 t_Term [.str [],.bool false,.sl 3 []],.sf 4 3 (.s 11)]) (.seq (.reg [.la 12 3 (.s 4),.callp (some 13) n_term_Check [.s 12],.mv 5 (.s 13)]) (.seq (.reg [.mv 14 (.s 5),.bin 15 .neq (.s 14) (.i 0)]) (.cond (.s 15) (.seq (.reg [.mv 16 (.s 5),.mv 2 (.s 16)]) (.ret)) (.skip)))))) (.reg [.bin 17 .add (.s 8) (.i 1),.mv 8 (.s 17)])
 | 3=>.seq (.reg [.bin 9 .lss (.s 8) (.s 7)]) (.seq (.cond (.s 9) (.skip) (.exit 0)) (.n 2))
 | _=>.skip
def body:C:=.seq (.reg [.mv 2 (.i 0)]) (.seq (.seq (.reg [.mv 6 (.s 0),.len 7 (.s 6),.mv 8 (.i 0)]) (.blk 0 (.loop (.n 1)))) (.n 0))
def rs:List RV:=[.t 2]
attribute [push_cast] nd body
theorem ok:okF prog n_term_All nd body 1 rs = true:=by kernel_rfl
abbrev L3 (v6 v7 v8:V) (B:Nat) (H:List Ob) (Q:X→T→List Ob→Prop):Prop:=Run prog nd B [.c (.m 3),.c (.loop (.n 1)),.mk 0,.c (.n 0)] [(6,v6),(7,v7),(8,v8)] H Q
theorem G3 (h:Run prog nd B (.c (nd 3) :: s) t H Q):Run prog nd B (.c (.m 3) :: s) t H Q:=run_m.2 h
end term_All
namespace strings_HasSuffix
def nd (_:Nat):C:=.skip
def body:C:=.seq (.reg [.mv 4 (.c (.bool false))]) (.seq (.reg [.mv 5 (.s 0),.mv 6 (.s 1),.callp (some 7) n_stringslite_HasSuffix [.s 5,.s 6],.mv 4 (.s 7)]) (.ret))
def rs:List RV:=[.t 4]
attribute [push_cast] nd body
theorem ok:okF prog n_strings_HasSuffix nd body 2 rs = true:=by kernel_rfl
end strings_HasSuffix
namespace slices_IndexFunc_s_Rule_Rule
def nd:Nat→C
 | 0=>.seq (.reg [.mv 4 (.i (-1))]) (.ret)
 | 1=>.gh [.ks 0 [0,1,7,8]] (.m 3)
 | 2=>.seq (.blk 1 (.seq (.reg [.mv 10 (.s 8),.mv 5 (.s 10)]) (.seq (.reg [.mv 11 (.s 1),.mv 12 (.s 0),.mv 13 (.s 5),.ia 14 6 (.s 12) (.s 13),.la 15 6 (.s 14),.callvp (some 16) (.s 11) [.s 15]]) (.cond (.s 16) (.seq (.reg [.mv 17 (.s 5),.mv 4 (.s 17)]) (.ret)) (.skip))))) (.reg [.bin 18 .add (.s 8) (.i 1),.mv 8 (.s 18)])
 | 3=>.seq (.reg [.bin 9 .lss (.s 8) (.s 7)]) (.seq (.cond (.s 9) (.skip) (.exit 0)) (.n 2))
 | _=>.skip
def body:C:=.seq (.reg [.mv 4 (.i 0)]) (.seq (.seq (.reg [.mv 6 (.s 0),.len 7 (.s 6),.mv 8 (.i 0)]) (.blk 0 (.loop (.n 1)))) (.n 0))
def rs:List RV:=[.t 4]
attribute [push_cast] nd body
theorem ok:okF prog n_slices_IndexFunc_s_Rule_Rule nd body 2 rs = true:=by kernel_rfl
abbrev L3 (v0 v1 v7 v8:V) (B:Nat) (H:List Ob) (Q:X→T→List Ob→Prop):Prop:=Run prog nd B [.c (.m 3),.c (.loop (.n 1)),.mk 0,.c (.n 0)] [(0,v0),(1,v1),(7,v7),(8,v8)] H Q
theorem G3 (h:Run prog nd B (.c (nd 3) :: s) t H Q):Run prog nd B (.c (.m 3) :: s) t H Q:=run_m.2 h
end slices_IndexFunc_s_Rule_Rule
namespace slices_ContainsFunc_s_string_string
def nd (_:Nat):C:=.skip
def body:C:=.seq (.reg [.mv 4 (.c (.bool false))]) (.seq (.reg [.mv 5 (.s 0),.mv 6 (.s 1),.callp (some 7) n_slices_IndexFunc_s_string_string [.s 5,.s 6],.bin 8 .geq (.s 7) (.i 0),.mv 4 (.s 8)]) (.ret))
def rs:List RV:=[.t 4]
attribute [push_cast] nd body
theorem ok:okF prog n_slices_ContainsFunc_s_string_string nd body 2 rs = true:=by kernel_rfl
end slices_ContainsFunc_s_string_string
namespace term_extra_1
def nd (_:Nat):C:=.skip
def body:C:=.seq (.reg [.mv 3 (.c (.bool false))]) (.seq (.reg [.ld 4 (.s 1),.mv 5 (.s 0),.callp (some 6) n_slices_Contains_s_string_string [.s 4,.s 5],.un 7 .not (.s 6),.mv 3 (.s 7)]) (.ret))
def rs:List RV:=[.t 3]
attribute [push_cast] nd body
theorem ok:okF prog n_term_extra_1 nd body 2 rs = true:=by kernel_rfl
end term_extra_1
namespace slices_Contains_s_string_string
def nd (_:Nat):C:=.skip
def body:C:=.seq (.reg [.mv 4 (.c (.bool false))]) (.seq (.reg [.mv 5 (.s 0),.mv 6 (.s 1),.callp (some 7) n_slices_Index_s_string_string [.s 5,.s 6],.bin 8 .geq (.s 7) (.i 0),.mv 4 (.s 8)]) (.ret))
def rs:List RV:=[.t 4]
attribute [push_cast] nd body
theorem ok:okF prog n_slices_Contains_s_string_string nd body 2 rs = true:=by kernel_rfl
end slices_Contains_s_string_string
namespace slices_IndexFunc_s_Multi_Multi
def nd:Nat→C
 | 0=>.seq (.reg [.mv 4 (.i (-1))]) (.ret)
 | 1=>.gh [.ks 0 [0,1,7,8]] (.m 3)
 | 2=>.seq (.blk 1 (.seq (.reg [.mv 10 (.s 8),.mv 5 (.s 10)]) (.seq (.reg [.mv 11 (.s 1),.mv 12 (.s 0),.mv 13 (.s 5),.ia 14 4 (.s 12) (.s 13),.la 15 4 (.s 14),.callvp (some 16) (.s 11) [.s 15]]) (.cond (.s 16) (.seq (.reg [.mv 17 (.s 5),.mv 4 (.s 17)]) (.ret)) (.skip))))) (.reg [.bin 18 .add (.s 8) (.i 1),.mv 8 (.s 18)])
 | 3=>.seq (.reg [.bin 9 .lss (.s 8) (.s 7)]) (.seq (.cond (.s 9) (.skip) (.exit 0)) (.n 2))
 | _=>.skip
def body:C:=.seq (.reg [.mv 4 (.i 0)]) (.seq (.seq (.reg [.mv 6 (.s 0),.len 7 (.s 6),.mv 8 (.i 0)]) (.blk 0 (.loop (.n 1)))) (.n 0))
def rs:List RV:=[.t 4]
attribute [push_cast] nd body
theorem ok:okF prog n_slices_IndexFunc_s_Multi_Multi nd body 2 rs = true:=by kernel_rfl
abbrev L3 (v0 v1 v7 v8:V) (B:Nat) (H:List Ob) (Q:X→T→List Ob→Prop):Prop:=Run prog nd B [.c (.m 3),.c (.loop (.n 1)),.mk 0,.c (.n 0)] [(0,v0),(1,v1),(7,v7),(8,v8)] H Q
theorem G3 (h:Run prog nd B (.c (nd 3) :: s) t H Q):Run prog nd B (.c (.m 3) :: s) t H Q:=run_m.2 h
end slices_IndexFunc_s_Multi_Multi
namespace strings_TrimSuffix
def nd (_:Nat):C:=.skip
def body:C:=.seq (.reg [.mv 4 (.c (.str []))]) (.seq (.reg [.mv 5 (.s 0),.mv 6 (.s 1),.callp (some 7) n_stringslite_TrimSuffix [.s 5,.s 6],.mv 4 (.s 7)]) (.ret))
def rs:List RV:=[.t 4]
attribute [push_cast] nd body
theorem ok:okF prog n_strings_TrimSuffix nd body 2 rs = true:=by kernel_rfl
end strings_TrimSuffix
namespace slices_ContainsFunc_s_byte_byte
def nd (_:Nat):C:=.skip
def body:C:=.seq (.reg [.mv 4 (.c (.bool false))]) (.seq (.reg [.mv 5 (.s 0),.mv 6 (.s 1),.callp (some 7) n_slices_IndexFunc_s_byte_byte [.s 5,.s 6],.bin 8 .geq (.s 7) (.i 0),.mv 4 (.s 8)]) (.ret))
def rs:List RV:=[.t 4]
attribute [push_cast] nd body
theorem ok:okF prog n_slices_ContainsFunc_s_byte_byte nd body 2 rs = true:=by kernel_rfl
end slices_ContainsFunc_s_byte_byte
namespace term_IsName_1
def nd (_:Nat):C:=.skip
def body:C:=.seq (.reg [.mv 2 (.c (.bool false))]) (.seq (.reg [.mv 3 (.s 0),.callp (some 4) n_term_inName [.s 3],.un 5 .not (.s 4),.mv 2 (.s 5)]) (.ret))
def rs:List RV:=[.t 2]
attribute [push_cast] nd body
theorem ok:okF prog n_term_IsName_1 nd body 1 rs = true:=by kernel_rfl
end term_IsName_1
namespace term_inName
def nd (_:Nat):C:=.skip
def body:C:=.seq (.reg [.mv 2 (.c (.bool false))]) (.seq (.reg [.mv 3 (.s 0),.bin 4 .geq (.s 3) (.c (.int .u8 97)),.mv 5 (.s 4),.gd (.s 5) true [6,7] [.mv 6 (.s 0),.bin 7 .leq (.s 6) (.c (.int .u8 122))],.pick 8 (.s 5) (.s 7) (.c (.bool false)),.mv 9 (.s 8),.gd (.s 9) false [10,11,12] [.mv 10 (.s 0),.bin 11 .geq (.s 10) (.c (.int .u8 65)),.mv 12 (.s 11)],.gd (.s 12) true [13,14] [.mv 13 (.s 0),.bin 14 .leq (.s 13) (.c (.int .u8 90))],.gd (.s 9) false [15] [.pick 15 (.s 12) (.s 14) (.c (.bool false))],.pick 16 (.s 9) (.c (.bool true)) (.s 15),.mv 17 (.s 16),.gd (.s 17) false [18,19,20] [.mv 18 (.s 0),.bin 19 .geq (.s 18) (.c (.int .u8 48)),.mv 20 (.s 19)],.gd (.s 20) true [21,22] [.mv 21 (.s 0),.bin 22 .leq (.s 21) (.c (.int .u8 57))],.gd (.s 17) false [23] [.pick 23 (.s 20) (.s 22) (.c (.bool false))],.pick 24 (.s 17) (.c (.bool true)) (.s 23),.mv 25 (.s 24),.gd (.s 25) false [26,27] [.mv 26 (.s 0),.bin 27 .eql (.s 26) (.c (.int .u8 95))],.pick 28 (.s 25) (.c (.bool true)) (.s 27),.mv 29 (.s 28),.gd (.s 29) false [30,31] [.mv 30 (.s 0),.bin 31 .eql (.s 30) (.c (.int .u8 39))],.pick 32 (.s 29) (.c (.bool true)) (.s 31),.mv 2 (.s 32)]) (.ret))
def rs:List RV:=[.t 2]
attribute [push_cast] nd body
theorem ok:okF prog n_term_inName nd body 1 rs = true:=by kernel_rfl
end term_inName
namespace r01_Insert
def nd:Nat→C
 | 0=>.seq (.dr [0,1,2,3,4,5,6,7,8,9,10,11,12] [.bo 34 t_string 1 [],.mv 35 (.s 0),.mv 36 (.s 5),.sx 37 1 (.s 35) none (some (.s 36)),.app 38 t_string 1 16 (.s 34) (.s 37),.mv 39 (.s 1),.bs 40 1 [.s 39],.app 41 t_string 1 16 (.s 38) (.s 40),.mv 42 (.s 0),.mv 43 (.s 5),.sx 44 1 (.s 42) (some (.s 43)) none,.app 45 t_string 1 16 (.s 41) (.s 44),.mv 4 (.s 45)]) (.ret)
 | 1=>.seq (.seq (.reg [.mv 21 (.s 5),.mv 22 (.s 0),.len 23 (.s 22),.bin 24 .lss (.s 21) (.s 23),.mv 25 (.s 24),.gd (.s 25) true [26,27,28,29,30,31] [.mv 26 (.s 0),.mv 27 (.s 5),.ia 28 1 (.s 26) (.s 27),.ld 29 (.s 28),.mv 30 (.s 1),.bin 31 .eql (.s 29) (.s 30)],.pick 32 (.s 25) (.s 31) (.c (.bool false))]) (.cond (.s 32) (.seq (.reg [.mv 33 (.s 0),.mv 4 (.s 33)]) (.ret)) (.skip))) (.n 0)
 | 2=>.gh [.ks 0 [0,1,5]] (.m 4)
 | 3=>.blk 1 (.reg [.mv 19 (.s 5),.bin 20 .add (.s 19) (.i 1),.mv 5 (.s 20)])
 | 4=>.seq (.seq (.reg [.mv 6 (.s 5),.mv 7 (.s 0),.len 8 (.s 7),.bin 9 .lss (.s 6) (.s 8),.mv 10 (.s 9),.gd (.s 10) true [11,12,13,14,15,16,17] [.mv 11 (.s 0),.mv 12 (.s 5),.ia 13 1 (.s 11) (.s 12),.ld 14 (.s 13),.mv 15 (.s 1),.callp (some 16) n_r01_CompareNames [.s 14,.s 15],.bin 17 .lss (.s 16) (.i 0)],.pick 18 (.s 10) (.s 17) (.c (.bool false))]) (.cond (.s 18) (.skip) (.exit 0))) (.n 3)
 | _=>.skip
def body:C:=.seq (.reg [.mv 4 (.c (.sl 1 []))]) (.seq (.reg [.mv 5 (.i 0)]) (.seq (.blk 0 (.loop (.n 2))) (.n 1)))
def rs:List RV:=[.t 4]
attribute [push_cast] nd body
theorem ok:okF prog n_r01_Insert nd body 2 rs = true:=by kernel_rfl
abbrev L4 (v0 v1 v5:V) (B:Nat) (H:List Ob) (Q:X→T→List Ob→Prop):Prop:=Run prog nd B [.c (.m 4),.c (.loop (.n 2)),.mk 0,.c (.n 1)] [(0,v0),(1,v1),(5,v5)] H Q
theorem G4 (h:Run prog nd B (.c (nd 4) :: s) t H Q):Run prog nd B (.c (.m 4) :: s) t H Q:=run_m.2 h
end r01_Insert
namespace slices_Index_s_string_string
def nd:Nat→C
 | 0=>.seq (.reg [.mv 4 (.i (-1))]) (.ret)
 | 1=>.gh [.ks 0 [0,1,7,8]] (.m 3)
 | 2=>.seq (.blk 1 (.seq (.reg [.mv 10 (.s 8),.mv 5 (.s 10)]) (.seq (.reg [.mv 11 (.s 1),.mv 12 (.s 0),.mv 13 (.s 5),.ia 14 1 (.s 12) (.s 13),.ld 15 (.s 14),.bin 16 .eql (.s 11) (.s 15)]) (.cond (.s 16) (.seq (.reg [.mv 17 (.s 5),.mv 4 (.s 17)]) (.ret)) (.skip))))) (.reg [.bin 18 .add (.s 8) (.i 1),.mv 8 (.s 18)])
 | 3=>.seq (.reg [.bin 9 .lss (.s 8) (.s 7)]) (.seq (.cond (.s 9) (.skip) (.exit 0)) (.n 2))
 | _=>.skip
def body:C:=.seq (.reg [.mv 4 (.i 0)]) (.seq (.seq (.reg [.mv 6 (.s 0),.len 7 (.s 6),.mv 8 (.i 0)]) (.blk 0 (.loop (.n 1)))) (.n 0))
def rs:List RV:=[.t 4]
attribute [push_cast] nd body
theorem ok:okF prog n_slices_Index_s_string_string nd body 2 rs = true:=by kernel_rfl
abbrev L3 (v0 v1 v7 v8:V) (B:Nat) (H:List Ob) (Q:X→T→List Ob→Prop):Prop:=Run prog nd B [.c (.m 3),.c (.loop (.n 1)),.mk 0,.c (.n 0)] [(0,v0),(1,v1),(7,v7),(8,v8)] H Q
theorem G3 (h:Run prog nd B (.c (nd 3) :: s) t H Q):Run prog nd B (.c (.m 3) :: s) t H Q:=run_m.2 h
end slices_Index_s_string_string
namespace slices_IndexFunc_s_Term_Term
def nd:Nat→C
 | 0=>.seq (.reg [.mv 4 (.i (-1))]) (.ret)
 | 1=>.gh [.ks 0 [0,1,7,8]] (.m 3)
 | 2=>.seq (.blk 1 (.seq (.reg [.mv 10 (.s 8),.mv 5 (.s 10)]) (.seq (.reg [.mv 11 (.s 1),.mv 12 (.s 0),.mv 13 (.s 5),.ia 14 3 (.s 12) (.s 13),.la 15 3 (.s 14),.callvp (some 16) (.s 11) [.s 15]]) (.cond (.s 16) (.seq (.reg [.mv 17 (.s 5),.mv 4 (.s 17)]) (.ret)) (.skip))))) (.reg [.bin 18 .add (.s 8) (.i 1),.mv 8 (.s 18)])
 | 3=>.seq (.reg [.bin 9 .lss (.s 8) (.s 7)]) (.seq (.cond (.s 9) (.skip) (.exit 0)) (.n 2))
 | _=>.skip
def body:C:=.seq (.reg [.mv 4 (.i 0)]) (.seq (.seq (.reg [.mv 6 (.s 0),.len 7 (.s 6),.mv 8 (.i 0)]) (.blk 0 (.loop (.n 1)))) (.n 0))
def rs:List RV:=[.t 4]
attribute [push_cast] nd body
theorem ok:okF prog n_slices_IndexFunc_s_Term_Term nd body 2 rs = true:=by kernel_rfl
abbrev L3 (v0 v1 v7 v8:V) (B:Nat) (H:List Ob) (Q:X→T→List Ob→Prop):Prop:=Run prog nd B [.c (.m 3),.c (.loop (.n 1)),.mk 0,.c (.n 0)] [(0,v0),(1,v1),(7,v7),(8,v8)] H Q
theorem G3 (h:Run prog nd B (.c (nd 3) :: s) t H Q):Run prog nd B (.c (.m 3) :: s) t H Q:=run_m.2 h
end slices_IndexFunc_s_Term_Term
namespace term_Size
def nd:Nat→C
 | 0=>.seq (.reg [.mv 18 (.s 3),.mv 2 (.s 18)]) (.ret)
 | 1=>.gh [.ks 0 [3,7,8,9]] (.m 3)
 | 2=>.seq (.blk 1 (.seq (.reg [.ia 11 3 (.s 7) (.s 9),.la 12 3 (.s 11),.al 5 t_Term [.str [],.bool false,.sl 3 []],.sf 5 3 (.s 12)]) (.reg [.mv 13 (.s 3),.la 14 3 (.s 5),.callp (some 15) n_term_Size [.s 14],.bin 16 .add (.s 13) (.s 15),.mv 3 (.s 16)]))) (.reg [.bin 17 .add (.s 9) (.i 1),.mv 9 (.s 17)])
 | 3=>.seq (.reg [.bin 10 .lss (.s 9) (.s 8)]) (.seq (.cond (.s 10) (.skip) (.exit 0)) (.n 2))
 | _=>.skip
def body:C:=.seq (.reg [.br 1 t_Term (.s 0),.mv 2 (.i 0)]) (.seq (.reg [.mv 3 (.i 1)]) (.seq (.seq (.reg [.fa 6 2 (.s 1),.ld 7 (.s 6),.len 8 (.s 7),.mv 9 (.i 0)]) (.blk 0 (.loop (.n 1)))) (.n 0)))
def rs:List RV:=[.t 2]
attribute [push_cast] nd body
theorem ok:okF prog n_term_Size nd body 1 rs = true:=by kernel_rfl
abbrev L3 (v3 v7 v8 v9:V) (B:Nat) (H:List Ob) (Q:X→T→List Ob→Prop):Prop:=Run prog nd B [.c (.m 3),.c (.loop (.n 1)),.mk 0,.c (.n 0)] [(3,v3),(7,v7),(8,v8),(9,v9)] H Q
theorem G3 (h:Run prog nd B (.c (nd 3) :: s) t H Q):Run prog nd B (.c (.m 3) :: s) t H Q:=run_m.2 h
end term_Size
namespace term_Depth
def nd:Nat→C
 | 0=>.seq (.reg [.mv 18 (.s 3),.bin 19 .add (.s 18) (.i 1),.mv 2 (.s 19)]) (.ret)
 | 1=>.gh [.ks 0 [3,7,8,9]] (.m 3)
 | 2=>.seq (.blk 1 (.seq (.reg [.ia 11 3 (.s 7) (.s 9),.la 12 3 (.s 11),.al 5 t_Term [.str [],.bool false,.sl 3 []],.sf 5 3 (.s 12)]) (.reg [.mv 13 (.s 3),.la 14 3 (.s 5),.callp (some 15) n_term_Depth [.s 14],.mx 16 (.s 13) (.s 15),.mv 3 (.s 16)]))) (.reg [.bin 17 .add (.s 9) (.i 1),.mv 9 (.s 17)])
 | 3=>.seq (.reg [.bin 10 .lss (.s 9) (.s 8)]) (.seq (.cond (.s 10) (.skip) (.exit 0)) (.n 2))
 | _=>.skip
def body:C:=.seq (.reg [.br 1 t_Term (.s 0),.mv 2 (.i 0)]) (.seq (.reg [.mv 3 (.i 0)]) (.seq (.seq (.reg [.fa 6 2 (.s 1),.ld 7 (.s 6),.len 8 (.s 7),.mv 9 (.i 0)]) (.blk 0 (.loop (.n 1)))) (.n 0)))
def rs:List RV:=[.t 2]
attribute [push_cast] nd body
theorem ok:okF prog n_term_Depth nd body 1 rs = true:=by kernel_rfl
abbrev L3 (v3 v7 v8 v9:V) (B:Nat) (H:List Ob) (Q:X→T→List Ob→Prop):Prop:=Run prog nd B [.c (.m 3),.c (.loop (.n 1)),.mk 0,.c (.n 0)] [(3,v3),(7,v7),(8,v8),(9,v9)] H Q
theorem G3 (h:Run prog nd B (.c (nd 3) :: s) t H Q):Run prog nd B (.c (.m 3) :: s) t H Q:=run_m.2 h
end term_Depth
namespace term_formed_1
def nd (_:Nat):C:=.skip
def body:C:=.seq (.reg [.br 1 t_Term (.s 0),.mv 2 (.c (.bool false))]) (.seq (.reg [.la 3 3 (.s 1),.callp (some 4) n_term_formed [.s 3],.un 5 .not (.s 4),.mv 2 (.s 5)]) (.ret))
def rs:List RV:=[.t 2]
attribute [push_cast] nd body
theorem ok:okF prog n_term_formed_1 nd body 1 rs = true:=by kernel_rfl
end term_formed_1
namespace unify_matcher_match
def nd:Nat→C
 | 0=>.seq (.reg [.mv 6 (.c (.bool true))]) (.ret)
 | 1=>.gh [.ks 0 [0,4,5,57,58]] (.m 3)
 | 2=>.seq (.blk 1 (.seq (.reg [.mv 60 (.s 58),.mv 9 (.s 60)]) (.seq (.dr [0,1,2,3,4,5,6,7,8,9,10,11,12] [.mv 61 (.s 0),.fa 62 2 (.s 4),.ld 63 (.s 62),.mv 64 (.s 9),.ia 65 3 (.s 63) (.s 64),.la 66 3 (.s 65),.fa 67 2 (.s 5),.ld 68 (.s 67),.mv 69 (.s 9),.ia 70 3 (.s 68) (.s 69),.la 71 3 (.s 70),.call (some 72) n_unify_matcher_match [.s 61,.s 66,.s 71],.un 73 .not (.s 72)]) (.cond (.s 73) (.seq (.reg [.mv 6 (.c (.bool false))]) (.ret)) (.skip))))) (.reg [.bin 74 .add (.s 58) (.i 1),.mv 58 (.s 74)])
 | 3=>.seq (.reg [.bin 59 .lss (.s 58) (.s 57)]) (.seq (.cond (.s 59) (.skip) (.exit 0)) (.n 2))
 | 4=>.seq (.seq (.reg [.fa 55 2 (.s 4),.ld 56 (.s 55),.len 57 (.s 56),.mv 58 (.i 0)]) (.blk 0 (.loop (.n 1)))) (.n 0)
 | 5=>.seq (.seq (.reg [.fa 37 1 (.s 5),.ld 38 (.s 37),.mv 39 (.s 38),.gd (.s 39) false [40,41,42,43,44] [.fa 40 0 (.s 4),.ld 41 (.s 40),.fa 42 0 (.s 5),.ld 43 (.s 42),.bin 44 .neq (.s 41) (.s 43)],.pick 45 (.s 39) (.c (.bool true)) (.s 44),.mv 46 (.s 45),.gd (.s 46) false [47,48,49,50,51,52,53] [.fa 47 2 (.s 4),.ld 48 (.s 47),.len 49 (.s 48),.fa 50 2 (.s 5),.ld 51 (.s 50),.len 52 (.s 51),.bin 53 .neq (.s 49) (.s 52)],.pick 54 (.s 46) (.c (.bool true)) (.s 53)]) (.cond (.s 54) (.seq (.reg [.mv 6 (.c (.bool false))]) (.ret)) (.skip))) (.n 4)
 | 6=>.seq (.dr [0,1,2,3,4,5,6,7,8,9,10,11] [.mv 26 (.s 0),.mv 27 (.s 0),.nc 28 (.s 27),.fa 29 0 (.s 28),.ld 30 (.s 29),.fa 31 0 (.s 4),.ld 32 (.s 31),.la 33 3 (.s 5),.call (some 34) n_unify_bind [.s 30,.s 32,.s 33],.nc 35 (.s 26),.fa 36 0 (.s 35),.st 1 (.s 36) (.s 34)]) (.seq (.reg [.mv 6 (.c (.bool true))]) (.ret))
 | _=>.skip
def body:C:=.seq (.reg [.br 4 t_Term (.s 1),.br 5 t_Term (.s 2),.mv 6 (.c (.bool false))]) (.seq (.seq (.reg [.fa 10 1 (.s 4),.ld 11 (.s 10)]) (.cond (.s 11) (.seq (.seq (.dr [0,1,2,3,4,5] [.mv 13 (.s 0),.nc 14 (.s 13),.fa 15 0 (.s 14),.ld 16 (.s 15),.fa 17 0 (.s 4),.ld 18 (.s 17),.alt [([6,7,8,9,10,11,12],[.call (some 19) n_term_Image [.s 16,.s 18],.mv 12 (.s 19),.ex 20 (.s 12) 0,.ex 21 (.s 12) 1,.al 7 t_Term [.str [],.bool false,.sl 3 []],.sf 7 3 (.s 20),.mv 8 (.s 21)]),([10,6,7,8,9,11,12],[.al 7 t_Term [.str [],.bool false,.sl 3 []],.call (some 19) n_term_Image [.s 16,.s 18],.mv 12 (.s 19),.ex 20 (.s 12) 0,.ex 21 (.s 12) 1,.sf 7 3 (.s 20),.mv 8 (.s 21)])]]) (.seq (.reg [.mv 22 (.s 8)]) (.cond (.s 22) (.seq (.reg [.la 23 3 (.s 7),.la 24 3 (.s 5),.callp (some 25) n_term_Equal [.s 23,.s 24],.mv 6 (.s 25)]) (.ret)) (.skip)))) (.n 6)) (.skip))) (.n 5))
def rs:List RV:=[.t 6]
attribute [push_cast] nd body
theorem ok:okF prog n_unify_matcher_match nd body 3 rs = true:=by kernel_rfl
abbrev L3 (v0 v4 v5 v57 v58:V) (B:Nat) (H:List Ob) (Q:X→T→List Ob→Prop):Prop:=Run prog nd B [.c (.m 3),.c (.loop (.n 1)),.mk 0,.c (.n 0)] [(0,v0),(4,v4),(5,v5),(57,v57),(58,v58)] H Q
theorem G3 (h:Run prog nd B (.c (nd 3) :: s) t H Q):Run prog nd B (.c (.m 3) :: s) t H Q:=run_m.2 h
end unify_matcher_match
namespace term_Image
def nd:Nat→C
 | 0=>.seq (.reg [.mv 17 (.s 0),.mv 18 (.s 6),.ia 19 4 (.s 17) (.s 18),.fa 20 1 (.s 19),.la 21 3 (.s 20),.st 3 (.s 4) (.s 21),.mv 5 (.c (.bool true))]) (.ret)
 | _=>.skip
def body:C:=.seq (.reg [.al 4 t_Term [.str [],.bool false,.sl 3 []],.mv 5 (.c (.bool false))]) (.seq (.reg [.mv 9 (.s 0),.mv 10 (.s 1),.call (some 11) n_slices_BinarySearchFunc_s_Bind_Bind_string [.s 9,.s 10,(.f n_term_Image_1)],.mv 8 (.s 11),.ex 12 (.s 8) 0,.ex 13 (.s 8) 1,.mv 6 (.s 12),.mv 7 (.s 13)]) (.seq (.seq (.reg [.mv 14 (.s 7),.un 15 .not (.s 14)]) (.cond (.s 15) (.seq (.reg [.bd 16 [.str [],.bool false,.sl 3 []] [],.st 3 (.s 4) (.s 16),.mv 5 (.c (.bool false))]) (.ret)) (.skip))) (.n 0)))
def rs:List RV:=[.a 4 3,.t 5]
attribute [push_cast] nd body
theorem ok:okF prog n_term_Image nd body 2 rs = true:=by kernel_rfl
end term_Image
namespace slices_EqualFunc_s_Multi_s_Multi_Multi_Multi
def nd:Nat→C
 | 0=>.seq (.reg [.mv 6 (.c (.bool true))]) (.ret)
 | 1=>.gh [.ks 0 [1,2,15,16,17]] (.m 3)
 | 2=>.seq (.blk 1 (.seq (.reg [.mv 19 (.s 17),.ia 20 4 (.s 15) (.s 17),.la 21 4 (.s 20),.al 8 t_Multi [.int .i64 0,.str [],.bool false,.sl 4 []],.mv 7 (.s 19),.sf 8 4 (.s 21)]) (.seq (.reg [.mv 22 (.s 1),.mv 23 (.s 7),.ia 24 4 (.s 22) (.s 23),.la 25 4 (.s 24),.al 9 t_Multi [.int .i64 0,.str [],.bool false,.sl 4 []],.sf 9 4 (.s 25)]) (.seq (.reg [.mv 26 (.s 2),.la 27 4 (.s 8),.la 28 4 (.s 9),.callvp (some 29) (.s 26) [.s 27,.s 28],.un 30 .not (.s 29)]) (.cond (.s 30) (.seq (.reg [.mv 6 (.c (.bool false))]) (.ret)) (.skip)))))) (.reg [.bin 31 .add (.s 17) (.i 1),.mv 17 (.s 31)])
 | 3=>.seq (.reg [.bin 18 .lss (.s 17) (.s 16)]) (.seq (.cond (.s 18) (.skip) (.exit 0)) (.n 2))
 | 4=>.seq (.seq (.reg [.mv 15 (.s 0),.len 16 (.s 15),.mv 17 (.i 0)]) (.blk 0 (.loop (.n 1)))) (.n 0)
 | _=>.skip
def body:C:=.seq (.reg [.mv 6 (.c (.bool false))]) (.seq (.seq (.reg [.mv 10 (.s 0),.len 11 (.s 10),.mv 12 (.s 1),.len 13 (.s 12),.bin 14 .neq (.s 11) (.s 13)]) (.cond (.s 14) (.seq (.reg [.mv 6 (.c (.bool false))]) (.ret)) (.skip))) (.n 4))
def rs:List RV:=[.t 6]
attribute [push_cast] nd body
theorem ok:okF prog n_slices_EqualFunc_s_Multi_s_Multi_Multi_Multi nd body 3 rs = true:=by kernel_rfl
abbrev L3 (v1 v2 v15 v16 v17:V) (B:Nat) (H:List Ob) (Q:X→T→List Ob→Prop):Prop:=Run prog nd B [.c (.m 3),.c (.loop (.n 1)),.mk 0,.c (.n 0)] [(1,v1),(2,v2),(15,v15),(16,v16),(17,v17)] H Q
theorem G3 (h:Run prog nd B (.c (nd 3) :: s) t H Q):Run prog nd B (.c (.m 3) :: s) t H Q:=run_m.2 h
end slices_EqualFunc_s_Multi_s_Multi_Multi_Multi
namespace r03_match
def nd:Nat→C
 | 0=>.seq (.reg [.mv 72 (.s 0),.mv 6 (.s 72),.mv 7 (.c (.bool true))]) (.ret)
 | 1=>.gh [.ks 0 [0,4,5,49,50]] (.m 3)
 | 2=>.seq (.blk 1 (.seq (.reg [.mv 52 (.s 50),.mv 8 (.s 52)]) (.seq (.dr [0,1,2,3,4,5,6,7,8,9,10,11,12,13,14,15,16] [.mv 54 (.s 0),.fa 55 2 (.s 4),.ld 56 (.s 55),.mv 57 (.s 8),.ia 58 3 (.s 56) (.s 57),.la 59 3 (.s 58),.fa 60 2 (.s 5),.ld 61 (.s 60),.mv 62 (.s 8),.ia 63 3 (.s 61) (.s 62),.la 64 3 (.s 63),.callp (some 65) n_r03_match [.s 54,.s 59,.s 64],.mv 53 (.s 65),.ex 66 (.s 53) 0,.ex 67 (.s 53) 1,.mv 9 (.s 66),.mv 10 (.s 67)]) (.seq (.seq (.reg [.mv 68 (.s 10),.un 69 .not (.s 68)]) (.cond (.s 69) (.seq (.reg [.mv 6 (.c (.sl 4 [])),.mv 7 (.c (.bool false))]) (.ret)) (.skip))) (.reg [.mv 70 (.s 9),.mv 0 (.s 70)]))))) (.reg [.bin 71 .add (.s 50) (.i 1),.mv 50 (.s 71)])
 | 3=>.seq (.reg [.bin 51 .lss (.s 50) (.s 49)]) (.seq (.cond (.s 51) (.skip) (.exit 0)) (.n 2))
 | 4=>.seq (.seq (.reg [.fa 47 2 (.s 5),.ld 48 (.s 47),.len 49 (.s 48),.mv 50 (.i 0)]) (.blk 0 (.loop (.n 1)))) (.n 0)
 | 5=>.seq (.seq (.reg [.fa 29 1 (.s 5),.ld 30 (.s 29),.mv 31 (.s 30),.gd (.s 31) false [32,33,34,35,36] [.fa 32 0 (.s 5),.ld 33 (.s 32),.fa 34 0 (.s 4),.ld 35 (.s 34),.bin 36 .neq (.s 33) (.s 35)],.pick 37 (.s 31) (.c (.bool true)) (.s 36),.mv 38 (.s 37),.gd (.s 38) false [39,40,41,42,43,44,45] [.fa 39 2 (.s 5),.ld 40 (.s 39),.len 41 (.s 40),.fa 42 2 (.s 4),.ld 43 (.s 42),.len 44 (.s 43),.bin 45 .neq (.s 41) (.s 44)],.pick 46 (.s 38) (.c (.bool true)) (.s 45)]) (.cond (.s 46) (.seq (.reg [.mv 6 (.c (.sl 4 [])),.mv 7 (.c (.bool false))]) (.ret)) (.skip))) (.n 4)
 | 6=>.seq (.reg [.mv 24 (.s 0),.fa 25 0 (.s 4),.ld 26 (.s 25),.la 27 3 (.s 5),.callp (some 28) n_r03_with [.s 24,.s 26,.s 27],.mv 6 (.s 28),.mv 7 (.c (.bool true))]) (.ret)
 | _=>.skip
def body:C:=.seq (.reg [.br 4 t_Term (.s 1),.br 5 t_Term (.s 2),.mv 6 (.c (.sl 4 [])),.mv 7 (.c (.bool false))]) (.seq (.seq (.reg [.fa 11 1 (.s 4),.ld 12 (.s 11)]) (.cond (.s 12) (.seq (.seq (.reg [.mv 13 (.s 0),.fa 14 0 (.s 4),.ld 15 (.s 14),.callp (some 16) n_r03_Bound [.s 13,.s 15]]) (.cond (.s 16) (.seq (.dr [0,1,2,3,4,5,6,7,8] [.mv 17 (.s 0),.mv 18 (.s 0),.fa 19 0 (.s 4),.ld 20 (.s 19),.callp (some 21) n_r01_Image [.s 18,.s 20],.la 22 3 (.s 5),.callp (some 23) n_r01_Equal [.s 21,.s 22],.mv 6 (.s 17),.mv 7 (.s 23)]) (.ret)) (.skip))) (.n 6)) (.skip))) (.n 5))
def rs:List RV:=[.t 6,.t 7]
attribute [push_cast] nd body
theorem ok:okF prog n_r03_match nd body 3 rs = true:=by kernel_rfl
abbrev L3 (v0 v4 v5 v49 v50:V) (B:Nat) (H:List Ob) (Q:X→T→List Ob→Prop):Prop:=Run prog nd B [.c (.m 3),.c (.loop (.n 1)),.mk 0,.c (.n 0)] [(0,v0),(4,v4),(5,v5),(49,v49),(50,v50)] H Q
theorem G3 (h:Run prog nd B (.c (nd 3) :: s) t H Q):Run prog nd B (.c (.m 3) :: s) t H Q:=run_m.2 h
end r03_match
end Go.Dw
end
section
namespace Go.Dw
variable {s:List K} {B:Nat} {t:T} {H:List Ob} {Q:X→T→List Ob→Prop}
namespace r01_CompareNames
def nd:Nat→C
 | 0=>.seq (.reg [.mv 31 (.s 0),.lens 32 (.s 31),.mv 33 (.s 1),.lens 34 (.s 33),.callp (some 35) n_r01_CompareInts [.s 32,.s 34],.mv 4 (.s 35)]) (.ret)
 | 1=>.gh [.ks 0 [0,1,10,11]] (.m 3)
 | 2=>.seq (.blk 1 (.seq (.reg [.mv 13 (.s 11),.mv 5 (.s 13)]) (.seq (.dr [0,1,2,3,4,5,6] [.mv 14 (.s 0),.mv 15 (.s 5),.ix 16 (.s 14) (.s 15),.mv 17 (.s 1),.mv 18 (.s 5),.ix 19 (.s 17) (.s 18),.bin 20 .neq (.s 16) (.s 19)]) (.cond (.s 20) (.seq (.dr [0,1,2,3,4,5,6,7,8,9] [.mv 21 (.s 0),.mv 22 (.s 5),.ix 23 (.s 21) (.s 22),.cvi 24 .i64 (.s 23),.mv 25 (.s 1),.mv 26 (.s 5),.ix 27 (.s 25) (.s 26),.cvi 28 .i64 (.s 27),.callp (some 29) n_r01_CompareInts [.s 24,.s 28],.mv 4 (.s 29)]) (.ret)) (.skip))))) (.reg [.bin 30 .add (.s 11) (.i 1),.mv 11 (.s 30)])
 | 3=>.seq (.reg [.bin 12 .lss (.s 11) (.s 10)]) (.seq (.cond (.s 12) (.skip) (.exit 0)) (.n 2))
 | _=>.skip
def body:C:=.seq (.reg [.mv 4 (.i 0)]) (.seq (.seq (.reg [.mv 6 (.s 0),.lens 7 (.s 6),.mv 8 (.s 1),.lens 9 (.s 8),.mn 10 (.s 7) (.s 9),.mv 11 (.i 0)]) (.blk 0 (.loop (.n 1)))) (.n 0))
def rs:List RV:=[.t 4]
attribute [push_cast] nd body
theorem ok:okF prog n_r01_CompareNames nd body 2 rs = true:=by kernel_rfl
abbrev L3 (v0 v1 v10 v11:V) (B:Nat) (H:List Ob) (Q:X→T→List Ob→Prop):Prop:=Run prog nd B [.c (.m 3),.c (.loop (.n 1)),.mk 0,.c (.n 0)] [(0,v0),(1,v1),(10,v10),(11,v11)] H Q
theorem G3 (h:Run prog nd B (.c (nd 3) :: s) t H Q):Run prog nd B (.c (.m 3) :: s) t H Q:=run_m.2 h
end r01_CompareNames
namespace r01_letter
def nd (_:Nat):C:=.skip
def body:C:=.seq (.reg [.mv 2 (.c (.bool false))]) (.seq (.reg [.mv 3 (.s 0),.bin 4 .geq (.s 3) (.c (.int .u8 65)),.mv 5 (.s 4),.gd (.s 5) true [6,7] [.mv 6 (.s 0),.bin 7 .leq (.s 6) (.c (.int .u8 90))],.pick 8 (.s 5) (.s 7) (.c (.bool false)),.mv 9 (.s 8),.gd (.s 9) false [10,11,12] [.mv 10 (.s 0),.bin 11 .geq (.s 10) (.c (.int .u8 97)),.mv 12 (.s 11)],.gd (.s 12) true [13,14] [.mv 13 (.s 0),.bin 14 .leq (.s 13) (.c (.int .u8 122))],.gd (.s 9) false [15] [.pick 15 (.s 12) (.s 14) (.c (.bool false))],.pick 16 (.s 9) (.c (.bool true)) (.s 15),.mv 17 (.s 16),.gd (.s 17) false [18,19,20] [.mv 18 (.s 0),.bin 19 .geq (.s 18) (.c (.int .u8 48)),.mv 20 (.s 19)],.gd (.s 20) true [21,22] [.mv 21 (.s 0),.bin 22 .leq (.s 21) (.c (.int .u8 57))],.gd (.s 17) false [23] [.pick 23 (.s 20) (.s 22) (.c (.bool false))],.pick 24 (.s 17) (.c (.bool true)) (.s 23),.mv 25 (.s 24),.gd (.s 25) false [26,27] [.mv 26 (.s 0),.bin 27 .eql (.s 26) (.c (.int .u8 95))],.pick 28 (.s 25) (.c (.bool true)) (.s 27),.mv 29 (.s 28),.gd (.s 29) false [30,31] [.mv 30 (.s 0),.bin 31 .eql (.s 30) (.c (.int .u8 39))],.pick 32 (.s 29) (.c (.bool true)) (.s 31),.mv 2 (.s 32)]) (.ret))
def rs:List RV:=[.t 2]
attribute [push_cast] nd body
theorem ok:okF prog n_r01_letter nd body 1 rs = true:=by kernel_rfl
end r01_letter
namespace stringslite_HasSuffix
def nd (_:Nat):C:=.skip
def body:C:=.seq (.reg [.mv 4 (.c (.bool false))]) (.seq (.reg [.mv 5 (.s 0),.lens 6 (.s 5),.mv 7 (.s 1),.lens 8 (.s 7),.bin 9 .geq (.s 6) (.s 8),.mv 10 (.s 9),.gd (.s 10) true [11,12,13,14,15,16,17,18,19] [.mv 11 (.s 0),.mv 12 (.s 0),.lens 13 (.s 12),.mv 14 (.s 1),.lens 15 (.s 14),.bin 16 .sub (.s 13) (.s 15),.sxs 17 (.s 11) (some (.s 16)) none,.mv 18 (.s 1),.bin 19 .eql (.s 17) (.s 18)],.pick 20 (.s 10) (.s 19) (.c (.bool false)),.mv 4 (.s 20)]) (.ret))
def rs:List RV:=[.t 4]
attribute [push_cast] nd body
theorem ok:okF prog n_stringslite_HasSuffix nd body 2 rs = true:=by kernel_rfl
end stringslite_HasSuffix
namespace slices_IndexFunc_s_string_string
def nd:Nat→C
 | 0=>.seq (.reg [.mv 4 (.i (-1))]) (.ret)
 | 1=>.gh [.ks 0 [0,1,7,8]] (.m 3)
 | 2=>.seq (.blk 1 (.seq (.reg [.mv 10 (.s 8),.mv 5 (.s 10)]) (.seq (.reg [.mv 11 (.s 1),.mv 12 (.s 0),.mv 13 (.s 5),.ia 14 1 (.s 12) (.s 13),.ld 15 (.s 14),.callvp (some 16) (.s 11) [.s 15]]) (.cond (.s 16) (.seq (.reg [.mv 17 (.s 5),.mv 4 (.s 17)]) (.ret)) (.skip))))) (.reg [.bin 18 .add (.s 8) (.i 1),.mv 8 (.s 18)])
 | 3=>.seq (.reg [.bin 9 .lss (.s 8) (.s 7)]) (.seq (.cond (.s 9) (.skip) (.exit 0)) (.n 2))
 | _=>.skip
def body:C:=.seq (.reg [.mv 4 (.i 0)]) (.seq (.seq (.reg [.mv 6 (.s 0),.len 7 (.s 6),.mv 8 (.i 0)]) (.blk 0 (.loop (.n 1)))) (.n 0))
def rs:List RV:=[.t 4]
attribute [push_cast] nd body
theorem ok:okF prog n_slices_IndexFunc_s_string_string nd body 2 rs = true:=by kernel_rfl
abbrev L3 (v0 v1 v7 v8:V) (B:Nat) (H:List Ob) (Q:X→T→List Ob→Prop):Prop:=Run prog nd B [.c (.m 3),.c (.loop (.n 1)),.mk 0,.c (.n 0)] [(0,v0),(1,v1),(7,v7),(8,v8)] H Q
theorem G3 (h:Run prog nd B (.c (nd 3) :: s) t H Q):Run prog nd B (.c (.m 3) :: s) t H Q:=run_m.2 h
end slices_IndexFunc_s_string_string
namespace stringslite_TrimSuffix
def nd:Nat→C
 | 0=>.seq (.reg [.mv 15 (.s 0),.mv 4 (.s 15)]) (.ret)
 | _=>.skip
def body:C:=.seq (.reg [.mv 4 (.c (.str []))]) (.seq (.seq (.reg [.mv 5 (.s 0),.mv 6 (.s 1),.callp (some 7) n_stringslite_HasSuffix [.s 5,.s 6]]) (.cond (.s 7) (.seq (.reg [.mv 8 (.s 0),.mv 9 (.s 0),.lens 10 (.s 9),.mv 11 (.s 1),.lens 12 (.s 11),.bin 13 .sub (.s 10) (.s 12),.sxs 14 (.s 8) none (some (.s 13)),.mv 4 (.s 14)]) (.ret)) (.skip))) (.n 0))
def rs:List RV:=[.t 4]
attribute [push_cast] nd body
theorem ok:okF prog n_stringslite_TrimSuffix nd body 2 rs = true:=by kernel_rfl
end stringslite_TrimSuffix
namespace slices_IndexFunc_s_byte_byte
def nd:Nat→C
 | 0=>.seq (.reg [.mv 4 (.i (-1))]) (.ret)
 | 1=>.gh [.ks 0 [0,1,7,8]] (.m 3)
 | 2=>.seq (.blk 1 (.seq (.reg [.mv 10 (.s 8),.mv 5 (.s 10)]) (.seq (.reg [.mv 11 (.s 1),.mv 12 (.s 0),.mv 13 (.s 5),.ia 14 1 (.s 12) (.s 13),.ld 15 (.s 14),.callvp (some 16) (.s 11) [.s 15]]) (.cond (.s 16) (.seq (.reg [.mv 17 (.s 5),.mv 4 (.s 17)]) (.ret)) (.skip))))) (.reg [.bin 18 .add (.s 8) (.i 1),.mv 8 (.s 18)])
 | 3=>.seq (.reg [.bin 9 .lss (.s 8) (.s 7)]) (.seq (.cond (.s 9) (.skip) (.exit 0)) (.n 2))
 | _=>.skip
def body:C:=.seq (.reg [.mv 4 (.i 0)]) (.seq (.seq (.reg [.mv 6 (.s 0),.len 7 (.s 6),.mv 8 (.i 0)]) (.blk 0 (.loop (.n 1)))) (.n 0))
def rs:List RV:=[.t 4]
attribute [push_cast] nd body
theorem ok:okF prog n_slices_IndexFunc_s_byte_byte nd body 2 rs = true:=by kernel_rfl
abbrev L3 (v0 v1 v7 v8:V) (B:Nat) (H:List Ob) (Q:X→T→List Ob→Prop):Prop:=Run prog nd B [.c (.m 3),.c (.loop (.n 1)),.mk 0,.c (.n 0)] [(0,v0),(1,v1),(7,v7),(8,v8)] H Q
theorem G3 (h:Run prog nd B (.c (nd 3) :: s) t H Q):Run prog nd B (.c (.m 3) :: s) t H Q:=run_m.2 h
end slices_IndexFunc_s_byte_byte
namespace term_Equal
def nd (_:Nat):C:=.skip
def body:C:=.seq (.reg [.br 2 t_Term (.s 0),.br 3 t_Term (.s 1),.mv 4 (.c (.bool false))]) (.seq (.reg [.fa 5 0 (.s 2),.ld 6 (.s 5),.fa 7 0 (.s 3),.ld 8 (.s 7),.bin 9 .eql (.s 6) (.s 8),.mv 10 (.s 9),.gd (.s 10) true [11,12,13,14,15] [.fa 11 1 (.s 2),.ld 12 (.s 11),.fa 13 1 (.s 3),.ld 14 (.s 13),.bb 15 .eql (.s 12) (.s 14)],.pick 16 (.s 10) (.s 15) (.c (.bool false)),.mv 17 (.s 16),.gd (.s 17) true [18,19,20,21,22] [.fa 18 2 (.s 2),.ld 19 (.s 18),.fa 20 2 (.s 3),.ld 21 (.s 20),.callp (some 22) n_slices_EqualFunc_s_Term_s_Term_Term_Term [.s 19,.s 21,(.f n_term_Equal)]],.pick 23 (.s 17) (.s 22) (.c (.bool false)),.mv 4 (.s 23)]) (.ret))
def rs:List RV:=[.t 4]
attribute [push_cast] nd body
theorem ok:okF prog n_term_Equal nd body 2 rs = true:=by kernel_rfl
end term_Equal
namespace unify_bind
def nd (_:Nat):C:=.skip
def body:C:=.seq (.reg [.br 5 t_Term (.s 2),.mv 6 (.c (.sl 4 []))]) (.seq (.reg [.mv 10 (.s 0),.mv 11 (.s 1),.call (some 12) n_slices_BinarySearchFunc_s_Bind_Bind_string [.s 10,.s 11,(.f n_unify_bind_1)],.mv 9 (.s 12),.ex 13 (.s 9) 0,.ex 14 (.s 9) 1,.mv 7 (.s 13),.mv 8 (.s 14)]) (.seq (.reg [.mv 15 (.s 0),.mv 16 (.s 7),.mv 17 (.s 1),.la 18 3 (.s 5),.bd 19 [.str [],.str [],.bool false,.sl 3 []] [(0,1,(.s 17)),(1,3,(.s 18))],.bo 20 t_Bind 4 [.s 19],.call (some 21) n_slices_Insert_s_Bind_Bind [.s 15,.s 16,.s 20],.mv 6 (.s 21)]) (.ret)))
def rs:List RV:=[.t 6]
attribute [push_cast] nd body
theorem ok:okF prog n_unify_bind nd body 3 rs = true:=by kernel_rfl
end unify_bind
namespace slices_BinarySearchFunc_s_Bind_Bind_string
def nd:Nat→C
 | 0=>.seq (.reg [.mv 35 (.s 9),.mv 36 (.s 9),.mv 37 (.s 8),.bin 38 .lss (.s 36) (.s 37),.mv 39 (.s 38),.gd (.s 39) true [40,41,42,43,44,45,46,47] [.mv 40 (.s 2),.mv 41 (.s 0),.mv 42 (.s 9),.ia 43 4 (.s 41) (.s 42),.la 44 4 (.s 43),.mv 45 (.s 1),.callvp (some 46) (.s 40) [.s 44,.s 45],.bin 47 .eql (.s 46) (.i 0)],.pick 48 (.s 39) (.s 47) (.c (.bool false)),.mv 6 (.s 35),.mv 7 (.s 48)]) (.ret)
 | 1=>.gh [.ks 0 [0,1,2,8,9,10]] (.m 3)
 | 2=>.blk 1 (.seq (.reg [.mv 18 (.s 9),.mv 19 (.s 10),.bin 20 .add (.s 18) (.s 19),.cvi 21 .u64 (.s 20),.sh 22 .shr (.s 21) (.c (.int .u64 1)),.cvi 23 .i64 (.s 22),.mv 11 (.s 23)]) (.seq (.reg [.mv 24 (.s 2),.mv 25 (.s 0),.mv 26 (.s 11),.ia 27 4 (.s 25) (.s 26),.la 28 4 (.s 27),.mv 29 (.s 1),.callvp (some 30) (.s 24) [.s 28,.s 29],.bin 31 .lss (.s 30) (.i 0)]) (.cond (.s 31) (.reg [.mv 32 (.s 11),.bin 33 .add (.s 32) (.i 1),.mv 9 (.s 33)]) (.reg [.mv 34 (.s 11),.mv 10 (.s 34)]))))
 | 3=>.seq (.seq (.reg [.mv 15 (.s 9),.mv 16 (.s 10),.bin 17 .lss (.s 15) (.s 16)]) (.cond (.s 17) (.skip) (.exit 0))) (.n 2)
 | _=>.skip
def body:C:=.seq (.reg [.mv 6 (.i 0),.mv 7 (.c (.bool false))]) (.seq (.reg [.mv 12 (.s 0),.len 13 (.s 12),.mv 8 (.s 13)]) (.seq (.reg [.mv 14 (.s 8),.mv 9 (.i 0),.mv 10 (.s 14)]) (.seq (.blk 0 (.loop (.n 1))) (.n 0))))
def rs:List RV:=[.t 6,.t 7]
attribute [push_cast] nd body
theorem ok:okF prog n_slices_BinarySearchFunc_s_Bind_Bind_string nd body 3 rs = true:=by kernel_rfl
abbrev L3 (v0 v1 v2 v8 v9 v10:V) (B:Nat) (H:List Ob) (Q:X→T→List Ob→Prop):Prop:=Run prog nd B [.c (.m 3),.c (.loop (.n 1)),.mk 0,.c (.n 0)] [(0,v0),(1,v1),(2,v2),(8,v8),(9,v9),(10,v10)] H Q
theorem G3 (h:Run prog nd B (.c (nd 3) :: s) t H Q):Run prog nd B (.c (.m 3) :: s) t H Q:=run_m.2 h
end slices_BinarySearchFunc_s_Bind_Bind_string
namespace term_Image_1
def nd (_:Nat):C:=.skip
def body:C:=.seq (.reg [.br 2 t_Bind (.s 0),.mv 4 (.i 0)]) (.seq (.reg [.fa 5 0 (.s 2),.ld 6 (.s 5),.mv 7 (.s 1),.callp (some 8) n_strings_Compare [.s 6,.s 7],.mv 4 (.s 8)]) (.ret))
def rs:List RV:=[.t 4]
attribute [push_cast] nd body
theorem ok:okF prog n_term_Image_1 nd body 2 rs = true:=by kernel_rfl
end term_Image_1
namespace strings_Compare
def nd (_:Nat):C:=.skip
def body:C:=.seq (.reg [.mv 4 (.i 0)]) (.seq (.reg [.mv 5 (.s 0),.mv 6 (.s 1),.callp (some 7) n_bytealg_CompareString [.s 5,.s 6],.mv 4 (.s 7)]) (.ret))
def rs:List RV:=[.t 4]
attribute [push_cast] nd body
theorem ok:okF prog n_strings_Compare nd body 2 rs = true:=by kernel_rfl
end strings_Compare
namespace r03_Bound
def nd:Nat→C
 | 0=>.seq (.reg [.mv 4 (.c (.bool false))]) (.ret)
 | 1=>.gh [.ks 0 [1,7,8,9]] (.m 3)
 | 2=>.seq (.blk 1 (.seq (.reg [.ia 11 4 (.s 7) (.s 9),.la 12 4 (.s 11),.al 6 t_Bind [.str [],.str [],.bool false,.sl 3 []],.sf 6 4 (.s 12)]) (.seq (.reg [.fa 13 0 (.s 6),.ld 14 (.s 13),.mv 15 (.s 1),.bin 16 .eql (.s 14) (.s 15)]) (.cond (.s 16) (.seq (.reg [.mv 4 (.c (.bool true))]) (.ret)) (.skip))))) (.reg [.bin 17 .add (.s 9) (.i 1),.mv 9 (.s 17)])
 | 3=>.seq (.reg [.bin 10 .lss (.s 9) (.s 8)]) (.seq (.cond (.s 10) (.skip) (.exit 0)) (.n 2))
 | _=>.skip
def body:C:=.seq (.reg [.mv 4 (.c (.bool false))]) (.seq (.seq (.reg [.mv 7 (.s 0),.len 8 (.s 7),.mv 9 (.i 0)]) (.blk 0 (.loop (.n 1)))) (.n 0))
def rs:List RV:=[.t 4]
attribute [push_cast] nd body
theorem ok:okF prog n_r03_Bound nd body 2 rs = true:=by kernel_rfl
abbrev L3 (v1 v7 v8 v9:V) (B:Nat) (H:List Ob) (Q:X→T→List Ob→Prop):Prop:=Run prog nd B [.c (.m 3),.c (.loop (.n 1)),.mk 0,.c (.n 0)] [(1,v1),(7,v7),(8,v8),(9,v9)] H Q
theorem G3 (h:Run prog nd B (.c (nd 3) :: s) t H Q):Run prog nd B (.c (.m 3) :: s) t H Q:=run_m.2 h
end r03_Bound
namespace r01_Equal
def nd (_:Nat):C:=.skip
def body:C:=.seq (.reg [.br 2 t_Term (.s 0),.br 3 t_Term (.s 1),.mv 4 (.c (.bool false))]) (.seq (.reg [.la 5 3 (.s 2),.la 6 3 (.s 3),.callp (some 7) n_r01_Compare [.s 5,.s 6],.bin 8 .eql (.s 7) (.i 0),.mv 4 (.s 8)]) (.ret))
def rs:List RV:=[.t 4]
attribute [push_cast] nd body
theorem ok:okF prog n_r01_Equal nd body 2 rs = true:=by kernel_rfl
end r01_Equal
namespace r03_with
def nd:Nat→C
 | 0=>.seq (.dr [1,2,3,5,6,0,4,7,8,9,10,11,12,13,14] [.mv 25 (.s 0),.mv 26 (.s 7),.sx 27 4 (.s 25) none (some (.s 26)),.mv 29 (.s 1),.la 30 3 (.s 5),.bo 24 t_Bind 4 [],.app 28 t_Bind 4 64 (.s 24) (.s 27),.bd 31 [.str [],.str [],.bool false,.sl 3 []] [(0,1,(.s 29)),(1,3,(.s 30))],.bs 32 4 [.s 31],.app 33 t_Bind 4 64 (.s 28) (.s 32),.mv 34 (.s 0),.mv 35 (.s 7),.sx 36 4 (.s 34) (some (.s 35)) none,.app 37 t_Bind 4 64 (.s 33) (.s 36),.mv 6 (.s 37)]) (.ret)
 | 1=>.gh [.ks 0 [0,1,5,7]] (.m 3)
 | 2=>.blk 1 (.reg [.mv 22 (.s 7),.bin 23 .add (.s 22) (.i 1),.mv 7 (.s 23)])
 | 3=>.seq (.seq (.reg [.mv 8 (.s 7),.mv 9 (.s 0),.len 10 (.s 9),.bin 11 .lss (.s 8) (.s 10),.mv 12 (.s 11),.gd (.s 12) true [13,14,15,16,17,18,19,20] [.mv 13 (.s 0),.mv 14 (.s 7),.ia 15 4 (.s 13) (.s 14),.fa 16 0 (.s 15),.ld 17 (.s 16),.mv 18 (.s 1),.callp (some 19) n_r01_CompareNames [.s 17,.s 18],.bin 20 .lss (.s 19) (.i 0)],.pick 21 (.s 12) (.s 20) (.c (.bool false))]) (.cond (.s 21) (.skip) (.exit 0))) (.n 2)
 | _=>.skip
def body:C:=.seq (.reg [.br 5 t_Term (.s 2),.mv 6 (.c (.sl 4 []))]) (.seq (.reg [.mv 7 (.i 0)]) (.seq (.blk 0 (.loop (.n 1))) (.n 0)))
def rs:List RV:=[.t 6]
attribute [push_cast] nd body
theorem ok:okF prog n_r03_with nd body 3 rs = true:=by kernel_rfl
abbrev L3 (v0 v1 v5 v7:V) (B:Nat) (H:List Ob) (Q:X→T→List Ob→Prop):Prop:=Run prog nd B [.c (.m 3),.c (.loop (.n 1)),.mk 0,.c (.n 0)] [(0,v0),(1,v1),(5,v5),(7,v7)] H Q
theorem G3 (h:Run prog nd B (.c (nd 3) :: s) t H Q):Run prog nd B (.c (.m 3) :: s) t H Q:=run_m.2 h
end r03_with
namespace r01_CompareInts
def nd:Nat→C
 | 0=>.seq (.reg [.mv 4 (.i 0)]) (.ret)
 | 1=>.seq (.seq (.reg [.mv 8 (.s 0),.mv 9 (.s 1),.bin 10 .gtr (.s 8) (.s 9)]) (.cond (.s 10) (.seq (.reg [.mv 4 (.i 1)]) (.ret)) (.skip))) (.n 0)
 | _=>.skip
def body:C:=.seq (.reg [.mv 4 (.i 0)]) (.seq (.seq (.reg [.mv 5 (.s 0),.mv 6 (.s 1),.bin 7 .lss (.s 5) (.s 6)]) (.cond (.s 7) (.seq (.reg [.mv 4 (.i (-1))]) (.ret)) (.skip))) (.n 1))
def rs:List RV:=[.t 4]
attribute [push_cast] nd body
theorem ok:okF prog n_r01_CompareInts nd body 2 rs = true:=by kernel_rfl
end r01_CompareInts
namespace slices_EqualFunc_s_Term_s_Term_Term_Term
def nd:Nat→C
 | 0=>.seq (.reg [.mv 6 (.c (.bool true))]) (.ret)
 | 1=>.gh [.ks 0 [1,2,15,16,17]] (.m 3)
 | 2=>.seq (.blk 1 (.seq (.reg [.mv 19 (.s 17),.ia 20 3 (.s 15) (.s 17),.la 21 3 (.s 20),.al 8 t_Term [.str [],.bool false,.sl 3 []],.mv 7 (.s 19),.sf 8 3 (.s 21)]) (.seq (.reg [.mv 22 (.s 1),.mv 23 (.s 7),.ia 24 3 (.s 22) (.s 23),.la 25 3 (.s 24),.al 9 t_Term [.str [],.bool false,.sl 3 []],.sf 9 3 (.s 25)]) (.seq (.reg [.mv 26 (.s 2),.la 27 3 (.s 8),.la 28 3 (.s 9),.callvp (some 29) (.s 26) [.s 27,.s 28],.un 30 .not (.s 29)]) (.cond (.s 30) (.seq (.reg [.mv 6 (.c (.bool false))]) (.ret)) (.skip)))))) (.reg [.bin 31 .add (.s 17) (.i 1),.mv 17 (.s 31)])
 | 3=>.seq (.reg [.bin 18 .lss (.s 17) (.s 16)]) (.seq (.cond (.s 18) (.skip) (.exit 0)) (.n 2))
 | 4=>.seq (.seq (.reg [.mv 15 (.s 0),.len 16 (.s 15),.mv 17 (.i 0)]) (.blk 0 (.loop (.n 1)))) (.n 0)
 | _=>.skip
def body:C:=.seq (.reg [.mv 6 (.c (.bool false))]) (.seq (.seq (.reg [.mv 10 (.s 0),.len 11 (.s 10),.mv 12 (.s 1),.len 13 (.s 12),.bin 14 .neq (.s 11) (.s 13)]) (.cond (.s 14) (.seq (.reg [.mv 6 (.c (.bool false))]) (.ret)) (.skip))) (.n 4))
def rs:List RV:=[.t 6]
attribute [push_cast] nd body
theorem ok:okF prog n_slices_EqualFunc_s_Term_s_Term_Term_Term nd body 3 rs = true:=by kernel_rfl
abbrev L3 (v1 v2 v15 v16 v17:V) (B:Nat) (H:List Ob) (Q:X→T→List Ob→Prop):Prop:=Run prog nd B [.c (.m 3),.c (.loop (.n 1)),.mk 0,.c (.n 0)] [(1,v1),(2,v2),(15,v15),(16,v16),(17,v17)] H Q
theorem G3 (h:Run prog nd B (.c (nd 3) :: s) t H Q):Run prog nd B (.c (.m 3) :: s) t H Q:=run_m.2 h
end slices_EqualFunc_s_Term_s_Term_Term_Term
namespace unify_bind_1
def nd (_:Nat):C:=.skip
def body:C:=.seq (.reg [.br 2 t_Bind (.s 0),.mv 4 (.i 0)]) (.seq (.reg [.fa 5 0 (.s 2),.ld 6 (.s 5),.mv 7 (.s 1),.callp (some 8) n_strings_Compare [.s 6,.s 7],.mv 4 (.s 8)]) (.ret))
def rs:List RV:=[.t 4]
attribute [push_cast] nd body
theorem ok:okF prog n_unify_bind_1 nd body 2 rs = true:=by kernel_rfl
end unify_bind_1
namespace bytealg_CompareString
def nd (_:Nat):C:=.skip
def body:C:=.seq (.reg [.mv 4 (.i 0)]) (.seq (.reg [.mv 5 (.s 0),.mv 6 (.s 1),.callp (some 7) n_bytealg_abigen_runtime_cmpstring [.s 5,.s 6],.mv 4 (.s 7)]) (.ret))
def rs:List RV:=[.t 4]
attribute [push_cast] nd body
theorem ok:okF prog n_bytealg_CompareString nd body 2 rs = true:=by kernel_rfl
end bytealg_CompareString
namespace r01_Compare
def nd:Nat→C
 | 0=>.seq (.reg [.mv 4 (.i 0)]) (.ret)
 | 1=>.gh [.ks 0 [2,3,36,37]] (.m 3)
 | 2=>.seq (.blk 1 (.seq (.reg [.mv 39 (.s 37),.mv 7 (.s 39)]) (.seq (.dr [0,1,2,3,4,5,6,7,8,9,10,11] [.fa 40 2 (.s 2),.ld 41 (.s 40),.mv 42 (.s 7),.ia 43 3 (.s 41) (.s 42),.la 44 3 (.s 43),.fa 45 2 (.s 3),.ld 46 (.s 45),.mv 47 (.s 7),.ia 48 3 (.s 46) (.s 47),.la 49 3 (.s 48),.callp (some 50) n_r01_Compare [.s 44,.s 49],.mv 8 (.s 50)]) (.seq (.reg [.mv 51 (.s 8),.bin 52 .neq (.s 51) (.i 0)]) (.cond (.s 52) (.seq (.reg [.mv 53 (.s 8),.mv 4 (.s 53)]) (.ret)) (.skip)))))) (.reg [.bin 54 .add (.s 37) (.i 1),.mv 37 (.s 54)])
 | 3=>.seq (.reg [.bin 38 .lss (.s 37) (.s 36)]) (.seq (.cond (.s 38) (.skip) (.exit 0)) (.n 2))
 | 4=>.seq (.seq (.reg [.fa 34 2 (.s 2),.ld 35 (.s 34),.len 36 (.s 35),.mv 37 (.i 0)]) (.blk 0 (.loop (.n 1)))) (.n 0)
 | 5=>.seq (.seq (.reg [.fa 24 2 (.s 2),.ld 25 (.s 24),.len 26 (.s 25),.fa 27 2 (.s 3),.ld 28 (.s 27),.len 29 (.s 28),.callp (some 30) n_r01_CompareInts [.s 26,.s 29],.mv 6 (.s 30)]) (.seq (.reg [.mv 31 (.s 6),.bin 32 .neq (.s 31) (.i 0)]) (.cond (.s 32) (.seq (.reg [.mv 33 (.s 6),.mv 4 (.s 33)]) (.ret)) (.skip)))) (.n 4)
 | 6=>.seq (.seq (.reg [.fa 16 0 (.s 2),.ld 17 (.s 16),.fa 18 0 (.s 3),.ld 19 (.s 18),.callp (some 20) n_r01_CompareNames [.s 17,.s 19],.mv 5 (.s 20)]) (.seq (.reg [.mv 21 (.s 5),.bin 22 .neq (.s 21) (.i 0)]) (.cond (.s 22) (.seq (.reg [.mv 23 (.s 5),.mv 4 (.s 23)]) (.ret)) (.skip)))) (.n 5)
 | 7=>.seq (.reg [.mv 4 (.i 1)]) (.ret)
 | _=>.skip
def body:C:=.seq (.reg [.br 2 t_Term (.s 0),.br 3 t_Term (.s 1),.mv 4 (.i 0)]) (.seq (.seq (.reg [.fa 9 1 (.s 2),.ld 10 (.s 9),.fa 11 1 (.s 3),.ld 12 (.s 11),.bb 13 .neq (.s 10) (.s 12)]) (.cond (.s 13) (.seq (.seq (.reg [.fa 14 1 (.s 2),.ld 15 (.s 14)]) (.cond (.s 15) (.seq (.reg [.mv 4 (.i (-1))]) (.ret)) (.skip))) (.n 7)) (.skip))) (.n 6))
def rs:List RV:=[.t 4]
attribute [push_cast] nd body
theorem ok:okF prog n_r01_Compare nd body 2 rs = true:=by kernel_rfl
abbrev L3 (v2 v3 v36 v37:V) (B:Nat) (H:List Ob) (Q:X→T→List Ob→Prop):Prop:=Run prog nd B [.c (.m 3),.c (.loop (.n 1)),.mk 0,.c (.n 0)] [(2,v2),(3,v3),(36,v36),(37,v37)] H Q
theorem G3 (h:Run prog nd B (.c (nd 3) :: s) t H Q):Run prog nd B (.c (.m 3) :: s) t H Q:=run_m.2 h
end r01_Compare
end Go.Dw
end
section
namespace Go.Dw
theorem term_Size_s (t:Term) (hs:size t < 2^62):PF n_term_Size [encT t] (.int .i64 (size t)):=by
 induction t using term_ind with
 | h t ih =>
 refine pf_of term_Size.ok rfl ?_
 have hst:=size_args t
 have hl:=length_le_sizes t.args
 push_cast
 refine loop_up (n:=t.args.length) (R:=fun k=>term_Size.L3 (.int .i64 ((1+sizes (t.args.take k):Nat):Int)) (encTs t.args) (.int .i64 t.args.length) (.int .i64 k) 0 [] _) ?_ ?_ 0 (by omega)
 ·intro k hk ih2
  have h1:=sizes_take_succ _ _ hk
  have h2:=sizes_take_le t.args (k+1)
  have hm:=getD_mem hk
  refine term_Size.G3 ?_
  push_cast [ilt hk]
  refine .of (ih _ hm (by omega)) ?_
  push_cast [w64 (show k < 2^62 by omega)]
  rw [wrap64 (by omega) (by omega)]
  rw [h1] at ih2
  simpa [Int.add_assoc] using ih2
 ·refine term_Size.G3 ?_
  push_cast [inlt (Nat.le_refl _)]
  refine pf_ret ?_
  push_cast [term_Size.rs,List.take_length,hst]
theorem EqualFunc_s {f:Term→Term→Bool} {g:Nat} (l m:List Term) (hl:l.length < 2^62) (h:∀ a∈l,∀ b,PF g [encT a,encT b] (.bool (f a b))) :
  PF n_slices_EqualFunc_s_Term_s_Term_Term_Term [encTs l,encTs m,.fn (.func g) [] []] (.bool (eqf f l m)):=by
 refine pf_of slices_EqualFunc_s_Term_s_Term_Term_Term.ok rfl ?_
 push_cast
 refine ⟨fun hne=>pf_ret ?_,fun he=>?_⟩
 ·push_cast [slices_EqualFunc_s_Term_s_Term_Term_Term.rs]
  cases hq:eqf f l m with
  | false=>rfl
  | true=>have:=eqf_len hq;omega
 ·have he:l.length = m.length:=by omega
  refine loop_up (n:=l.length) (R:=fun k=>eqf f (l.drop k) (m.drop k) = eqf f l m→slices_EqualFunc_s_Term_s_Term_Term_Term.L3 (encTs m) (.fn (.func g) [] []) (encTs l) (.int .i64 l.length) (.int .i64 k) 0 [] _) ?_ ?_ 0 (by omega) (by simp)
  ·intro k hk ih hq
   have hkm:k < m.length:=by omega
   refine slices_EqualFunc_s_Term_s_Term_Term_Term.G3 ?_
   push_cast [ilt hk,ilt hkm]
   refine .of (h _ (getD_mem hk) _) ?_
   push_cast [w64 (show k < 2^62 by omega)]
   rw [drop_getD hk,drop_getD hkm] at hq
   simp only [eqf] at hq
   refine ⟨fun hf=>pf_ret ?_,fun hf=>?_⟩
   ·push_cast [slices_EqualFunc_s_Term_s_Term_Term_Term.rs]
    simp only [Bool.not_eq_true'] at hf
    rw [hf,Bool.false_and] at hq
    exact hq
   ·simp only [Bool.not_eq_false'] at hf
    simp only [hf,Bool.true_and] at hq
    exact ih hq
  ·intro hq
   refine slices_EqualFunc_s_Term_s_Term_Term_Term.G3 ?_
   push_cast [inlt (Nat.le_refl _)]
   refine pf_ret ?_
   push_cast [slices_EqualFunc_s_Term_s_Term_Term_Term.rs]
   rw [List.drop_eq_nil_of_le (by omega),List.drop_eq_nil_of_le (by omega)] at hq
   simpa [eqf] using hq
theorem term_Equal_s (a b:Term) (hs:size a < 2^62):PF n_term_Equal [encT a,encT b] (.bool (decide (a = b))):=by
 induction a using term_ind generalizing b with
 | h a ih =>
 have hst:=size_args a
 have hl:=length_le_sizes a.args
 refine pf_of term_Equal.ok rfl ?_
 have hE:=EqualFunc_s (f:=fun a b=>decide (a = b)) (g:=n_term_Equal) a.args b.args (by omega) fun x hx y=>ih x hx y (by have:=size_mem hx;omega)
 rw [eqf_eq fun _ _ _=>rfl] at hE
 have hi:=term_eq_iff a b
 by_cases h1:a.name = b.name <;> by_cases h2:a.var = b.var <;> push_cast [h1,h2,beq_self_eq_true,show ∀ x y:Bool,(x == y) = decide (x = y) from fun x y=>by cases x <;> cases y <;> rfl]
 ·refine .of hE ?_
  push_cast
  refine pf_ret ?_
  push_cast [term_Equal.rs]
  simp [hi,h1,h2]
 all_goals
  refine pf_ret ?_
  push_cast [term_Equal.rs]
  simp [hi,h1,h2]
end Go.Dw
end
section
namespace Go.Dw
theorem slices_IndexFunc_s_byte_byte_s {p:UInt8→Bool} {g:Nat} {caps:List V} (hc:∀ σ,rens σ caps = caps) (l:List UInt8) (hl:l.length < 2^62) (h:∀ a∈l,PF g (.int .u8 a.toNat :: caps) (.bool (p a))) :
  PF n_slices_IndexFunc_s_byte_byte [encL cU8 1 l,.fn (.func g) [] caps] (.int .i64 (idxI p l)):=by
 refine pf_of slices_IndexFunc_s_byte_byte.ok rfl ?_
 push_cast [hc]
 refine loop_up (n:=l.length) (R:=fun k=>(∀ j,j < k→p (l.getD j default) = false)→slices_IndexFunc_s_byte_byte.L3 (encL cU8 1 l) (.fn (.func g) [] caps) (.int .i64 l.length) (.int .i64 k) 0 [] _) ?_ ?_ 0 (by omega) (by intro j hj;omega)
 ·intro k hk ih hq
  refine slices_IndexFunc_s_byte_byte.G3 ?_
  push_cast [ilt hk,cU8_0,cS_0,hc]
  refine .of (h _ (getD_mem hk)) ?_
  push_cast [w64 (show k < 2^62 by omega),hc]
  refine ⟨fun hp=>pf_ret ?_,fun hp=>?_⟩
  ·push_cast [slices_IndexFunc_s_byte_byte.rs]
   rw [idxI_some hk hp hq]
  ·exact ih fun j hj=>by rcases Nat.lt_succ_iff_lt_or_eq.1 hj with h | rfl;exact hq j h;exact hp
 ·intro hq
  refine slices_IndexFunc_s_byte_byte.G3 ?_
  push_cast [inlt (Nat.le_refl _)]
  refine pf_ret ?_
  push_cast [slices_IndexFunc_s_byte_byte.rs]
  rw [idxI_none hq]
theorem slices_ContainsFunc_s_byte_byte_s {p:UInt8→Bool} {g:Nat} {caps:List V} (hc:∀ σ,rens σ caps = caps) (l:List UInt8) (hl:l.length < 2^62) (h:∀ a∈l,PF g (.int .u8 a.toNat :: caps) (.bool (p a))) :
  PF n_slices_ContainsFunc_s_byte_byte [encL cU8 1 l,.fn (.func g) [] caps] (.bool (l.any p)):=by
 refine pf_of slices_ContainsFunc_s_byte_byte.ok rfl ?_
 push_cast [hc]
 refine .of (slices_IndexFunc_s_byte_byte_s hc l hl h) ?_
 push_cast [hc]
 refine pf_ret ?_
 push_cast [slices_ContainsFunc_s_byte_byte.rs,idxI_any]
theorem slices_IndexFunc_s_Term_Term_s {p:Term→Bool} {g:Nat} {caps:List V} (hc:∀ σ,rens σ caps = caps) (l:List Term) (hl:l.length < 2^62) (h:∀ a∈l,PF g (encT a :: caps) (.bool (p a))) :
  PF n_slices_IndexFunc_s_Term_Term [encL cT 3 l,.fn (.func g) [] caps] (.int .i64 (idxI p l)):=by
 refine pf_of slices_IndexFunc_s_Term_Term.ok rfl ?_
 push_cast [hc]
 refine loop_up (n:=l.length) (R:=fun k=>(∀ j,j < k→p (l.getD j default) = false)→slices_IndexFunc_s_Term_Term.L3 (encL cT 3 l) (.fn (.func g) [] caps) (.int .i64 l.length) (.int .i64 k) 0 [] _) ?_ ?_ 0 (by omega) (by intro j hj;omega)
 ·intro k hk ih hq
  refine slices_IndexFunc_s_Term_Term.G3 ?_
  push_cast [ilt hk,cU8_0,cS_0,hc]
  refine .of (h _ (getD_mem hk)) ?_
  push_cast [w64 (show k < 2^62 by omega),hc]
  refine ⟨fun hp=>pf_ret ?_,fun hp=>?_⟩
  ·push_cast [slices_IndexFunc_s_Term_Term.rs]
   rw [idxI_some hk hp hq]
  ·exact ih fun j hj=>by rcases Nat.lt_succ_iff_lt_or_eq.1 hj with h | rfl;exact hq j h;exact hp
 ·intro hq
  refine slices_IndexFunc_s_Term_Term.G3 ?_
  push_cast [inlt (Nat.le_refl _)]
  refine pf_ret ?_
  push_cast [slices_IndexFunc_s_Term_Term.rs]
  rw [idxI_none hq]
theorem slices_ContainsFunc_s_Term_Term_s {p:Term→Bool} {g:Nat} {caps:List V} (hc:∀ σ,rens σ caps = caps) (l:List Term) (hl:l.length < 2^62) (h:∀ a∈l,PF g (encT a :: caps) (.bool (p a))) :
  PF n_slices_ContainsFunc_s_Term_Term [encL cT 3 l,.fn (.func g) [] caps] (.bool (l.any p)):=by
 refine pf_of slices_ContainsFunc_s_Term_Term.ok rfl ?_
 push_cast [hc]
 refine .of (slices_IndexFunc_s_Term_Term_s hc l hl h) ?_
 push_cast [hc]
 refine pf_ret ?_
 push_cast [slices_ContainsFunc_s_Term_Term.rs,idxI_any]
theorem slices_IndexFunc_s_Rule_Rule_s {p:ARule→Bool} {g:Nat} {caps:List V} (hc:∀ σ,rens σ caps = caps) (l:List ARule) (hl:l.length < 2^62) (h:∀ a∈l,PF g (encR a :: caps) (.bool (p a))) :
  PF n_slices_IndexFunc_s_Rule_Rule [encL cR 6 l,.fn (.func g) [] caps] (.int .i64 (idxI p l)):=by
 refine pf_of slices_IndexFunc_s_Rule_Rule.ok rfl ?_
 push_cast [hc]
 refine loop_up (n:=l.length) (R:=fun k=>(∀ j,j < k→p (l.getD j default) = false)→slices_IndexFunc_s_Rule_Rule.L3 (encL cR 6 l) (.fn (.func g) [] caps) (.int .i64 l.length) (.int .i64 k) 0 [] _) ?_ ?_ 0 (by omega) (by intro j hj;omega)
 ·intro k hk ih hq
  refine slices_IndexFunc_s_Rule_Rule.G3 ?_
  push_cast [ilt hk,cU8_0,cS_0,hc]
  refine .of (h _ (getD_mem hk)) ?_
  push_cast [w64 (show k < 2^62 by omega),hc]
  refine ⟨fun hp=>pf_ret ?_,fun hp=>?_⟩
  ·push_cast [slices_IndexFunc_s_Rule_Rule.rs]
   rw [idxI_some hk hp hq]
  ·exact ih fun j hj=>by rcases Nat.lt_succ_iff_lt_or_eq.1 hj with h | rfl;exact hq j h;exact hp
 ·intro hq
  refine slices_IndexFunc_s_Rule_Rule.G3 ?_
  push_cast [inlt (Nat.le_refl _)]
  refine pf_ret ?_
  push_cast [slices_IndexFunc_s_Rule_Rule.rs]
  rw [idxI_none hq]
theorem slices_ContainsFunc_s_Rule_Rule_s {p:ARule→Bool} {g:Nat} {caps:List V} (hc:∀ σ,rens σ caps = caps) (l:List ARule) (hl:l.length < 2^62) (h:∀ a∈l,PF g (encR a :: caps) (.bool (p a))) :
  PF n_slices_ContainsFunc_s_Rule_Rule [encL cR 6 l,.fn (.func g) [] caps] (.bool (l.any p)):=by
 refine pf_of slices_ContainsFunc_s_Rule_Rule.ok rfl ?_
 push_cast [hc]
 refine .of (slices_IndexFunc_s_Rule_Rule_s hc l hl h) ?_
 push_cast [hc]
 refine pf_ret ?_
 push_cast [slices_ContainsFunc_s_Rule_Rule.rs,idxI_any]
theorem slices_IndexFunc_s_string_string_s {p:Str→Bool} {g:Nat} {caps:List V} (hc:∀ σ,rens σ caps = caps) (l:List Str) (hl:l.length < 2^62) (h:∀ a∈l,PF g (.str a :: caps) (.bool (p a))) :
  PF n_slices_IndexFunc_s_string_string [encL cS 1 l,.fn (.func g) [] caps] (.int .i64 (idxI p l)):=by
 refine pf_of slices_IndexFunc_s_string_string.ok rfl ?_
 push_cast [hc]
 refine loop_up (n:=l.length) (R:=fun k=>(∀ j,j < k→p (l.getD j default) = false)→slices_IndexFunc_s_string_string.L3 (encL cS 1 l) (.fn (.func g) [] caps) (.int .i64 l.length) (.int .i64 k) 0 [] _) ?_ ?_ 0 (by omega) (by intro j hj;omega)
 ·intro k hk ih hq
  refine slices_IndexFunc_s_string_string.G3 ?_
  push_cast [ilt hk,cU8_0,cS_0,hc]
  refine .of (h _ (getD_mem hk)) ?_
  push_cast [w64 (show k < 2^62 by omega),hc]
  refine ⟨fun hp=>pf_ret ?_,fun hp=>?_⟩
  ·push_cast [slices_IndexFunc_s_string_string.rs]
   rw [idxI_some hk hp hq]
  ·exact ih fun j hj=>by rcases Nat.lt_succ_iff_lt_or_eq.1 hj with h | rfl;exact hq j h;exact hp
 ·intro hq
  refine slices_IndexFunc_s_string_string.G3 ?_
  push_cast [inlt (Nat.le_refl _)]
  refine pf_ret ?_
  push_cast [slices_IndexFunc_s_string_string.rs]
  rw [idxI_none hq]
theorem slices_ContainsFunc_s_string_string_s {p:Str→Bool} {g:Nat} {caps:List V} (hc:∀ σ,rens σ caps = caps) (l:List Str) (hl:l.length < 2^62) (h:∀ a∈l,PF g (.str a :: caps) (.bool (p a))) :
  PF n_slices_ContainsFunc_s_string_string [encL cS 1 l,.fn (.func g) [] caps] (.bool (l.any p)):=by
 refine pf_of slices_ContainsFunc_s_string_string.ok rfl ?_
 push_cast [hc]
 refine .of (slices_IndexFunc_s_string_string_s hc l hl h) ?_
 push_cast [hc]
 refine pf_ret ?_
 push_cast [slices_ContainsFunc_s_string_string.rs,idxI_any]
end Go.Dw
end
