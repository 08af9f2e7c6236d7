/-
  Contracts and lemmas for BoundsEnds: part d of 9.
-/
import Derived.Test.YtobangnijcppaaaGreatLcc
set_option linter.unusedVariables false
set_option linter.unusedSimpArgs false
set_option maxRecDepth 100000
section
namespace Go.Dw
variable {s:List K} {B:Nat} {t:T} {H:List Ob} {Q:X→T→List Ob→Prop}
namespace l24_BoundsHeights
def nd:Nat→C
 | 0=>.seq (.reg [.callp (some 45) n_l24_alive [],.mv 6 (.s 45)]) (.ret)
 | 1=>.gh [.ks 0 [4,27,28,29]] (.m 6)
 | 2=>.gh [.ks 0 [4,27,28,29,33,34,35]] (.m 4)
 | 3=>.seq (.blk 3 (.seq (.reg [.ia 37 1 (.s 33) (.s 35),.ld 38 (.s 37),.mv 12 (.s 38)]) (.seq (.reg [.mv 39 (.s 12),.fa 40 1 (.s 4),.ld 41 (.s 40),.bin 42 .gtr (.s 39) (.s 41)]) (.cond (.s 42) (.seq (.reg [.mv 6 (.c (.bool false))]) (.ret)) (.skip))))) (.reg [.bin 43 .add (.s 35) (.i 1),.mv 35 (.s 43)])
 | 4=>.seq (.reg [.bin 36 .lss (.s 35) (.s 34)]) (.seq (.cond (.s 36) (.skip) (.exit 2)) (.n 3))
 | 5=>.seq (.blk 1 (.seq (.reg [.ia 31 1 (.s 27) (.s 29),.ld 32 (.s 31),.mv 10 (.s 32)]) (.seq (.reg [.mv 33 (.s 10),.len 34 (.s 33),.mv 35 (.i 0)]) (.blk 2 (.loop (.n 2)))))) (.reg [.bin 44 .add (.s 29) (.i 1),.mv 29 (.s 44)])
 | 6=>.seq (.reg [.bin 30 .lss (.s 29) (.s 28)]) (.seq (.cond (.s 30) (.skip) (.exit 0)) (.n 5))
 | 7=>.seq (.seq (.reg [.mv 27 (.s 7),.len 28 (.s 27),.mv 29 (.i 0)]) (.blk 0 (.loop (.n 1)))) (.n 0)
 | 8=>.seq (.reg [.mv 19 (.s 0),.la 20 4 (.s 5),.callp (some 21) n_bounds_Lift [.s 19,.s 20],.mv 18 (.s 21),.ex 22 (.s 18) 0,.ex 23 (.s 18) 1,.mv 7 (.s 22),.mv 8 (.s 23)]) (.seq (.seq (.reg [.mv 24 (.s 8),.bin 25 .neq (.s 24) (.i 0)]) (.cond (.s 25) (.seq (.reg [.callp (some 26) n_l24_alive [],.mv 6 (.s 26)]) (.ret)) (.skip))) (.n 7))
 | _=>.skip
def body:C:=.seq (.reg [.br 4 t_Automaton (.s 1),.br 5 t_Chain (.s 2),.mv 6 (.c (.bool false))]) (.seq (.seq (.reg [.mv 13 (.s 0),.la 14 3 (.s 4),.callp (some 15) n_bounds_Check [.s 13,.s 14],.bin 16 .neq (.s 15) (.i 0)]) (.cond (.s 16) (.seq (.reg [.callp (some 17) n_l24_alive [],.mv 6 (.s 17)]) (.ret)) (.skip))) (.n 8))
def rs:List RV:=[.t 6]
attribute [push_cast] nd body
theorem ok:okF prog n_l24_BoundsHeights nd body 3 rs = true:=by kernel_rfl
abbrev L4 (v4 v27 v28 v29 v33 v34 v35:V) (B:Nat) (H:List Ob) (Q:X→T→List Ob→Prop):Prop:=Run prog nd B [.c (.m 4),.c (.loop (.n 2)),.mk 2,.mk 1,.c (.reg [.bin 44 .add (.s 29) (.i 1),.mv 29 (.s 44)]),.c (.loop (.n 1)),.mk 0,.c (.n 0)] [(4,v4),(27,v27),(28,v28),(29,v29),(33,v33),(34,v34),(35,v35)] H Q
theorem G4 (h:Run prog nd B (.c (nd 4) :: s) t H Q):Run prog nd B (.c (.m 4) :: s) t H Q:=run_m.2 h
abbrev L6 (v4 v27 v28 v29:V) (B:Nat) (H:List Ob) (Q:X→T→List Ob→Prop):Prop:=Run prog nd B [.c (.m 6),.c (.loop (.n 1)),.mk 0,.c (.n 0)] [(4,v4),(27,v27),(28,v28),(29,v29)] H Q
theorem G6 (h:Run prog nd B (.c (nd 6) :: s) t H Q):Run prog nd B (.c (.m 6) :: s) t H Q:=run_m.2 h
end l24_BoundsHeights
namespace l24_BoundsEnds
def nd:Nat→C
 | 0=>.seq (.reg [.mv 23 (.s 0),.la 24 3 (.s 9),.la 25 4 (.s 7),.callp (some 26) n_l24_BoundsHeights [.s 23,.s 24,.s 25],.mv 27 (.s 26),.gd (.s 27) true [28,29,30,31] [.mv 28 (.s 0),.la 29 3 (.s 9),.la 30 4 (.s 7),.callp (some 31) n_l24_BoundsShort [.s 28,.s 29,.s 30]],.pick 32 (.s 27) (.s 31) (.c (.bool false)),.mv 8 (.s 32)]) (.ret)
 | 1=>.seq (.reg [.mv 14 (.s 0),.mv 15 (.s 1),.mv 16 (.s 2),.callp (some 17) n_bounds_Find [.s 14,.s 15,.s 16],.mv 13 (.s 17),.ex 18 (.s 13) 0,.ex 19 (.s 13) 1,.al 9 t_Automaton [.int .i64 0,.int .i64 0,.sl 4 []],.sf 9 3 (.s 18),.mv 10 (.s 19)]) (.seq (.seq (.reg [.mv 20 (.s 10),.bin 21 .neq (.s 20) (.i 0)]) (.cond (.s 21) (.seq (.reg [.callp (some 22) n_l24_alive [],.mv 8 (.s 22)]) (.ret)) (.skip))) (.n 0))
 | _=>.skip
def body:C:=.seq (.reg [.br 7 t_Chain (.s 3),.mv 8 (.c (.bool false))]) (.seq (.seq (.reg [.mv 11 (.s 2),.bin 12 .gtr (.s 11) (.i 40)]) (.cond (.s 12) (.seq (.reg [.mv 8 (.c (.bool true))]) (.ret)) (.skip))) (.n 1))
def rs:List RV:=[.t 8]
attribute [push_cast] nd body
theorem ok:okF prog n_l24_BoundsEnds nd body 4 rs = true:=by kernel_rfl
end l24_BoundsEnds
namespace r01_Equal
def nd (_:Nat):C:=.skip
def body:C:=.seq (.reg [.br 2 t_Term (.s 0),.br 3 t_Term (.s 1),.mv 4 (.c (.bool false))]) (.seq (.reg [.la 5 3 (.s 2),.la 6 3 (.s 3),.callp (some 7) n_r01_Compare [.s 5,.s 6],.bin 8 .eql (.s 7) (.i 0),.mv 4 (.s 8)]) (.ret))
def rs:List RV:=[.t 4]
attribute [push_cast] nd body
theorem ok:okF prog n_r01_Equal nd body 2 rs = true:=by kernel_rfl
end r01_Equal
namespace r01_Check
def nd:Nat→C
 | 0=>.seq (.reg [.mv 2 (.i 0)]) (.ret)
 | 1=>.seq (.seq (.reg [.la 6 3 (.s 1),.callp (some 7) n_r01_Size [.s 6],.bin 8 .gtr (.s 7) (.i 4000),.mv 9 (.s 8),.gd (.s 9) false [10,11,12] [.la 10 3 (.s 1),.callp (some 11) n_r01_Depth [.s 10],.bin 12 .gtr (.s 11) (.i 200)],.pick 13 (.s 9) (.c (.bool true)) (.s 12)]) (.cond (.s 13) (.seq (.reg [.mv 2 (.i 3)]) (.ret)) (.skip))) (.n 0)
 | _=>.skip
def body:C:=.seq (.reg [.br 1 t_Term (.s 0),.mv 2 (.i 0)]) (.seq (.seq (.reg [.la 3 3 (.s 1),.callp (some 4) n_r01_Formed [.s 3],.un 5 .not (.s 4)]) (.cond (.s 5) (.seq (.reg [.mv 2 (.i 4)]) (.ret)) (.skip))) (.n 1))
def rs:List RV:=[.t 2]
attribute [push_cast] nd body
theorem ok:okF prog n_r01_Check nd body 1 rs = true:=by kernel_rfl
end r01_Check
namespace bounds_Lift
def nd:Nat→C
 | 0=>.seq (.reg [.mv 101 (.s 13),.mv 4 (.s 101),.mv 5 (.i 0)]) (.ret)
 | 1=>.gh [.ks 3 [6,12,13,53,54,55]] (.m 3)
 | 2=>.seq (.blk 1 (.seq (.reg [.ia 57 2 (.s 53) (.s 55),.la 58 2 (.s 57),.al 15 t_Step [.int .i64 0,.sl 1 []],.sf 15 2 (.s 58)]) (.seq (.dr [0,1,2,3,4,5,6,7,8,9,10] [.mv 59 (.s 6),.far 60 0 (.s 15),.ldr 61 (.s 60),.ia 62 2 (.s 59) (.s 61),.la 63 2 (.s 62),.far 64 1 (.s 15),.ldr 65 (.s 64),.len 66 (.s 65),.al 16 t_bounds_rule [.sl 1 [],.sl 1 []],.sf 16 2 (.s 63),.mv 17 (.s 66)]) (.seq (.reg [.mv 67 (.s 12),.mv 68 (.s 17),.mv 69 (.s 17),.fa 70 0 (.s 16),.ld 71 (.s 70),.len 72 (.s 71),.bin 73 .add (.s 69) (.s 72),.sx 74 1 (.s 67) (some (.s 68)) (some (.s 73)),.callp (some 75) n_slices_Min_s_int_int [.s 74],.bin 76 .add (.s 75) (.i 1),.mv 18 (.s 76)]) (.seq (.dr [0,1,2,3,4,5,6,7,8,9,10,11,12,13,14,15,16,17,18] [.mv 77 (.s 12),.mv 78 (.s 17),.sx 79 1 (.s 77) none (some (.s 78)),.mv 80 (.s 18),.bs 81 1 [.s 80],.fa 82 1 (.s 16),.ld 83 (.s 82),.len 84 (.s 83),.callp (some 85) n_slices_Repeat_s_int_int [.s 81,.s 84],.mv 86 (.s 12),.mv 87 (.s 17),.fa 88 0 (.s 16),.ld 89 (.s 88),.len 90 (.s 89),.bin 91 .add (.s 87) (.s 90),.sx 92 1 (.s 86) (some (.s 91)) none,.bs 93 1 [.s 79,.s 85,.s 92],.callp (some 94) n_slices_Concat_s_int_int [.s 93],.mv 12 (.s 94)]) (.reg [.mv 95 (.s 13),.mv 96 (.s 12),.callp (some 97) n_slices_Clone_s_int_int [.s 96],.bs 98 1 [.s 97],.app 99 t_s_int 1 24 (.s 95) (.s 98),.mv 13 (.s 99)])))))) (.reg [.bin 100 .add (.s 55) (.i 1),.mv 55 (.s 100)])
 | 3=>.seq (.reg [.bin 56 .lss (.s 55) (.s 54)]) (.seq (.cond (.s 56) (.skip) (.exit 0)) (.n 2))
 | 4=>.seq (.reg [.mv 46 (.s 10),.len 47 (.s 46),.mk 48 t_int 1 8 [.int .i64 0] (.s 47),.frz 48,.mv 12 (.s 48)]) (.seq (.reg [.mv 49 (.s 12),.callp (some 50) n_slices_Clone_s_int_int [.s 49],.bo 51 t_s_int 1 [.s 50],.mv 13 (.s 51)]) (.seq (.seq (.reg [.fa 52 3 (.s 3),.ld 53 (.s 52),.len 54 (.s 53),.mv 55 (.i 0)]) (.blk 0 (.loop (.n 1)))) (.n 0)))
 | 5=>.seq (.reg [.fa 37 0 (.s 3),.la 38 3 (.s 37),.callp (some 39) n_bounds_word [.s 38],.mv 36 (.s 39),.ex 40 (.s 36) 0,.ex 41 (.s 36) 1,.al 11 t_Term [.str [],.bool false,.sl 3 []],.mv 10 (.s 40),.sf 11 3 (.s 41)]) (.seq (.seq (.reg [.fa 42 2 (.s 11),.ld 43 (.s 42),.len 44 (.s 43),.bin 45 .gtr (.s 44) (.i 0)]) (.cond (.s 45) (.seq (.reg [.mv 4 (.c (.sl 1 [])),.mv 5 (.i 4)]) (.ret)) (.skip))) (.n 4))
 | 6=>.seq (.seq (.reg [.mv 28 (.s 0),.la 29 4 (.s 3),.callp (some 30) n_derive_Run [.s 28,.s 29],.mv 27 (.s 30),.ex 31 (.s 27) 0,.ex 32 (.s 27) 1,.mv 8 (.s 31),.mv 9 (.s 32)]) (.seq (.reg [.mv 33 (.s 9),.bin 34 .neq (.s 33) (.i 0)]) (.cond (.s 34) (.seq (.reg [.mv 35 (.s 9),.mv 4 (.c (.sl 1 [])),.mv 5 (.s 35)]) (.ret)) (.skip)))) (.n 5)
 | _=>.skip
def body:C:=.seq (.reg [.br 3 t_Chain (.s 1),.mv 4 (.c (.sl 1 [])),.mv 5 (.i 0)]) (.seq (.reg [.mv 20 (.s 0),.callp (some 21) n_bounds_system [.s 20],.mv 19 (.s 21),.ex 22 (.s 19) 0,.ex 23 (.s 19) 1,.mv 6 (.s 22),.mv 7 (.s 23)]) (.seq (.seq (.reg [.mv 24 (.s 7),.bin 25 .neq (.s 24) (.i 0)]) (.cond (.s 25) (.seq (.reg [.mv 26 (.s 7),.mv 4 (.c (.sl 1 [])),.mv 5 (.s 26)]) (.ret)) (.skip))) (.n 6)))
def rs:List RV:=[.t 4,.t 5]
attribute [push_cast] nd body
theorem ok:okF prog n_bounds_Lift nd body 2 rs = true:=by kernel_rfl
abbrev L3 (v6 v12 v13 v53 v54 v55:V) (B:Nat) (H:List Ob) (Q:X→T→List Ob→Prop):Prop:=Run prog nd B [.c (.m 3),.c (.loop (.n 1)),.mk 0,.c (.n 0)] [(6,v6),(12,v12),(13,v13),(53,v53),(54,v54),(55,v55)] H Q
theorem G3 (h:Run prog nd B (.c (nd 3) :: s) t H Q):Run prog nd B (.c (.m 3) :: s) t H Q:=run_m.2 h
end bounds_Lift
namespace l24_alive
def nd (_:Nat):C:=.skip
def body:C:=.seq (.reg [.mv 0 (.c (.bool false))]) (.seq (.reg [.callp (some 6) n_l24_swap [],.callp (some 7) n_l24_loops [],.callp (some 8) n_bounds_Length [.s 6,.s 7,(.i 2)],.mv 5 (.s 8),.ex 9 (.s 5) 0,.ex 10 (.s 5) 1,.mv 1 (.s 9),.mv 2 (.s 10)]) (.seq (.reg [.callp (some 12) n_l24_swap [],.callp (some 13) n_bounds_Find [.s 12,(.i 1),(.i 4)],.mv 11 (.s 13),.ex 14 (.s 11) 0,.ex 15 (.s 11) 1,.al 3 t_Automaton [.int .i64 0,.int .i64 0,.sl 4 []],.sf 3 3 (.s 14),.mv 4 (.s 15)]) (.seq (.dr [0,1,2,3,4,5,6,7,8,9,10,11,12,13,14,15,16,17,18,19,20,21,22] [.callp (some 16) n_l24_swap [],.callp (some 17) n_l24_loops [],.callp (some 18) n_bounds_Check [.s 16,.s 17],.bin 19 .eql (.s 18) (.i 0),.mv 20 (.s 19),.gd (.s 20) true [21] [.mv 21 (.s 2)],.gd (.s 20) true [22] [.bin 22 .eql (.s 21) (.i 0)],.pick 23 (.s 20) (.s 22) (.c (.bool false)),.mv 24 (.s 23),.gd (.s 24) true [25] [.mv 25 (.s 1)],.gd (.s 24) true [26] [.bin 26 .eql (.s 25) (.c (.int .u64 4))],.pick 27 (.s 24) (.s 26) (.c (.bool false)),.mv 28 (.s 27),.gd (.s 28) true [29] [.mv 29 (.s 4)],.gd (.s 28) true [30] [.bin 30 .eql (.s 29) (.i 0)],.pick 31 (.s 28) (.s 30) (.c (.bool false)),.mv 32 (.s 31),.gd (.s 32) true [33] [.callp (some 33) n_l24_swap []],.gd (.s 32) true [34] [.la 34 3 (.s 3)],.gd (.s 32) true [35] [.callp (some 35) n_r24_Check [.s 33,.s 34]],.gd (.s 32) true [36] [.bin 36 .eql (.s 35) (.i 0)],.pick 37 (.s 32) (.s 36) (.c (.bool false)),.mv 0 (.s 37)]) (.ret))))
def rs:List RV:=[.t 0]
attribute [push_cast] nd body
theorem ok:okF prog n_l24_alive nd body 0 rs = true:=by kernel_rfl
end l24_alive
namespace bounds_Check
def nd:Nat→C
 | 0=>.seq (.reg [.mv 4 (.i 0)]) (.ret)
 | 1=>.seq (.seq (.reg [.mv 28 (.s 5),.la 29 3 (.s 3),.callp (some 30) n_bounds_lacks [.s 28,.s 29],.mv 27 (.s 30),.ex 31 (.s 27) 0,.ex 32 (.s 27) 1,.al 8 t_bounds_missing [.int .i64 0,.int .i64 0,.int .i64 0,.sl 1 []],.sf 8 4 (.s 31),.mv 9 (.s 32)]) (.seq (.reg [.mv 33 (.s 9)]) (.cond (.s 33) (.seq (.reg [.mv 4 (.i 11)]) (.ret)) (.skip)))) (.n 0)
 | 2=>.seq (.seq (.reg [.mv 23 (.s 5),.la 24 3 (.s 3),.callp (some 25) n_bounds_loops [.s 23,.s 24],.un 26 .not (.s 25)]) (.cond (.s 26) (.seq (.reg [.mv 4 (.i 11)]) (.ret)) (.skip))) (.n 1)
 | 3=>.seq (.seq (.reg [.la 18 3 (.s 3),.callp (some 19) n_bounds_form [.s 18],.mv 7 (.s 19)]) (.seq (.reg [.mv 20 (.s 7),.bin 21 .neq (.s 20) (.i 0)]) (.cond (.s 21) (.seq (.reg [.mv 22 (.s 7),.mv 4 (.s 22)]) (.ret)) (.skip)))) (.n 2)
 | _=>.skip
def body:C:=.seq (.reg [.br 3 t_Automaton (.s 1),.mv 4 (.i 0)]) (.seq (.reg [.mv 11 (.s 0),.callp (some 12) n_bounds_system [.s 11],.mv 10 (.s 12),.ex 13 (.s 10) 0,.ex 14 (.s 10) 1,.mv 5 (.s 13),.mv 6 (.s 14)]) (.seq (.seq (.reg [.mv 15 (.s 6),.bin 16 .neq (.s 15) (.i 0)]) (.cond (.s 16) (.seq (.reg [.mv 17 (.s 6),.mv 4 (.s 17)]) (.ret)) (.skip))) (.n 3)))
def rs:List RV:=[.t 4]
attribute [push_cast] nd body
theorem ok:okF prog n_bounds_Check nd body 2 rs = true:=by kernel_rfl
end bounds_Check
namespace bounds_Find
def nd:Nat→C
 | 0=>.seq (.reg [.la 80 3 (.s 10),.st 3 (.s 6) (.s 80),.mv 7 (.i 0)]) (.ret)
 | 1=>.seq (.seq (.reg [.mv 75 (.s 0),.la 76 3 (.s 10),.callp (some 77) n_bounds_Check [.s 75,.s 76],.bin 78 .neq (.s 77) (.i 0)]) (.cond (.s 78) (.seq (.reg [.bd 79 [.int .i64 0,.int .i64 0,.sl 4 []] [],.st 3 (.s 6) (.s 79),.mv 7 (.i 12)]) (.ret)) (.skip))) (.n 0)
 | 2=>.gh [.ks 2 [0,2,6,8,10]] (.m 4)
 | 3=>.seq (.reg [.mv 15 (.c (.bool false))]) (.seq (.reg [.la 66 3 (.s 10),.la 67 4 (.s 13),.mv 68 (.s 2),.callp (some 69) n_bounds_add [.s 66,.s 67,.s 68],.mv 65 (.s 69),.ex 70 (.s 65) 0,.ex 71 (.s 65) 1,.st 3 (.s 10) (.s 70),.mv 15 (.s 71)]) (.seq (.reg [.mv 72 (.s 15),.un 73 .not (.s 72)]) (.cond (.s 73) (.seq (.reg [.bd 74 [.int .i64 0,.int .i64 0,.sl 4 []] [],.st 3 (.s 6) (.s 74),.mv 7 (.i 12)]) (.ret)) (.skip))))
 | 4=>.blk 3 (.seq (.reg [.mv 58 (.s 8),.la 59 3 (.s 10),.callp (some 60) n_bounds_lacks [.s 58,.s 59],.mv 57 (.s 60),.ex 61 (.s 57) 0,.ex 62 (.s 57) 1,.al 13 t_bounds_missing [.int .i64 0,.int .i64 0,.int .i64 0,.sl 1 []],.sf 13 4 (.s 61),.mv 14 (.s 62)]) (.seq (.seq (.reg [.mv 63 (.s 14),.un 64 .not (.s 63)]) (.cond (.s 64) (.exit 2) (.skip))) (.n 3)))
 | 5=>.seq (.blk 2 (.loop (.n 2))) (.n 1)
 | 6=>.gh [.ks 2 [0,2,6,8,10,43,44,45]] (.m 8)
 | 7=>.seq (.blk 1 (.seq (.reg [.ia 47 1 (.s 43) (.s 45),.ld 48 (.s 47),.mv 12 (.s 48)]) (.reg [.la 50 3 (.s 10),.mv 51 (.s 12),.bd 52 [.int .i64 0,.int .i64 0,.str [],.int .i64 0] [(2,1,(.s 51))],.callp (some 53) n_bounds_insert [.s 50,.s 52],.mv 49 (.s 53),.ex 54 (.s 49) 0,.ex 55 (.s 49) 1,.st 3 (.s 10) (.s 54)]))) (.reg [.bin 56 .add (.s 45) (.i 1),.mv 45 (.s 56)])
 | 8=>.seq (.reg [.bin 46 .lss (.s 45) (.s 44)]) (.seq (.cond (.s 46) (.skip) (.exit 0)) (.n 7))
 | 9=>.seq (.reg [.mv 40 (.s 1),.bd 41 [.int .i64 0,.int .i64 0,.sl 4 []] [(0,1,(.i 1)),(1,1,(.s 40))],.al 10 t_Automaton [.int .i64 0,.int .i64 0,.sl 4 []],.st 3 (.s 10) (.s 41)]) (.seq (.seq (.reg [.mv 42 (.s 8),.callp (some 43) n_bounds_names [.s 42],.len 44 (.s 43),.mv 45 (.i 0)]) (.blk 0 (.loop (.n 6)))) (.n 5))
 | 10=>.seq (.seq (.reg [.mv 25 (.s 1),.bin 26 .lss (.s 25) (.i 0),.mv 27 (.s 26),.gd (.s 27) false [28,29] [.mv 28 (.s 1),.bin 29 .gtr (.s 28) (.i 16)],.pick 30 (.s 27) (.c (.bool true)) (.s 29),.mv 31 (.s 30),.gd (.s 31) false [32,33] [.mv 32 (.s 2),.bin 33 .lss (.s 32) (.i 1)],.pick 34 (.s 31) (.c (.bool true)) (.s 33),.mv 35 (.s 34),.gd (.s 35) false [36,37] [.mv 36 (.s 2),.bin 37 .gtr (.s 36) (.i 256)],.pick 38 (.s 35) (.c (.bool true)) (.s 37)]) (.cond (.s 38) (.seq (.reg [.bd 39 [.int .i64 0,.int .i64 0,.sl 4 []] [],.st 3 (.s 6) (.s 39),.mv 7 (.i 2)]) (.ret)) (.skip))) (.n 9)
 | _=>.skip
def body:C:=.seq (.reg [.al 6 t_Automaton [.int .i64 0,.int .i64 0,.sl 4 []],.mv 7 (.i 0)]) (.seq (.reg [.mv 17 (.s 0),.callp (some 18) n_bounds_system [.s 17],.mv 16 (.s 18),.ex 19 (.s 16) 0,.ex 20 (.s 16) 1,.mv 8 (.s 19),.mv 9 (.s 20)]) (.seq (.seq (.reg [.mv 21 (.s 9),.bin 22 .neq (.s 21) (.i 0)]) (.cond (.s 22) (.seq (.reg [.bd 23 [.int .i64 0,.int .i64 0,.sl 4 []] [],.mv 24 (.s 9),.st 3 (.s 6) (.s 23),.mv 7 (.s 24)]) (.ret)) (.skip))) (.n 10)))
def rs:List RV:=[.a 6 3,.t 7]
attribute [push_cast] nd body
theorem ok:okF prog n_bounds_Find nd body 3 rs = true:=by kernel_rfl
abbrev L4 (v0 v2 v6 v8 v10:V) (B:Nat) (H:List Ob) (Q:X→T→List Ob→Prop):Prop:=Run prog nd B [.c (.m 4),.c (.loop (.n 2)),.mk 2,.c (.n 1)] [(0,v0),(2,v2),(6,v6),(8,v8),(10,v10)] H Q
theorem G4 (h:Run prog nd B (.c (nd 4) :: s) t H Q):Run prog nd B (.c (.m 4) :: s) t H Q:=run_m.2 h
abbrev L8 (v0 v2 v6 v8 v10 v43 v44 v45:V) (B:Nat) (H:List Ob) (Q:X→T→List Ob→Prop):Prop:=Run prog nd B [.c (.m 8),.c (.loop (.n 6)),.mk 0,.c (.n 5)] [(0,v0),(2,v2),(6,v6),(8,v8),(10,v10),(43,v43),(44,v44),(45,v45)] H Q
theorem G8 (h:Run prog nd B (.c (nd 8) :: s) t H Q):Run prog nd B (.c (.m 8) :: s) t H Q:=run_m.2 h
end bounds_Find
namespace l24_BoundsShort
def nd:Nat→C
 | 0=>.seq (.reg [.fa 30 0 (.s 5),.la 31 3 (.s 30),.callp (some 32) n_r24_Word [.s 31],.mv 29 (.s 32),.ex 33 (.s 29) 0,.ex 34 (.s 29) 1,.al 8 t_Term [.str [],.bool false,.sl 3 []],.mv 7 (.s 33),.sf 8 3 (.s 34)]) (.seq (.reg [.mv 36 (.s 0),.la 37 3 (.s 4),.mv 38 (.s 7),.len 39 (.s 38),.callp (some 40) n_bounds_Length [.s 36,.s 37,.s 39],.mv 35 (.s 40),.ex 41 (.s 35) 0,.ex 42 (.s 35) 1,.mv 9 (.s 41),.mv 10 (.s 42)]) (.seq (.reg [.mv 43 (.s 10),.bin 44 .neq (.s 43) (.i 0),.mv 45 (.s 44),.gd (.s 45) false [46,47,48,49,50,51] [.fa 46 3 (.s 5),.ld 47 (.s 46),.len 48 (.s 47),.cvi 49 .u64 (.s 48),.mv 50 (.s 9),.bin 51 .leq (.s 49) (.s 50)],.pick 52 (.s 45) (.c (.bool true)) (.s 51),.mv 53 (.s 52),.gd (.s 53) true [54] [.callp (some 54) n_l24_alive []],.pick 55 (.s 53) (.s 54) (.c (.bool false)),.mv 6 (.s 55)]) (.ret)))
 | _=>.skip
def body:C:=.seq (.reg [.br 4 t_Automaton (.s 1),.br 5 t_Chain (.s 2),.mv 6 (.c (.bool false))]) (.seq (.seq (.reg [.mv 11 (.s 0),.la 12 3 (.s 4),.callp (some 13) n_bounds_Check [.s 11,.s 12],.bin 14 .neq (.s 13) (.i 0),.mv 15 (.s 14),.gd (.s 15) false [16,17,18,19,20] [.mv 16 (.s 0),.la 17 4 (.s 5),.bs 18 4 [.s 17],.callp (some 19) n_r05_Check [.s 16,.s 18],.bin 20 .neq (.s 19) (.i 0)],.pick 21 (.s 15) (.c (.bool true)) (.s 20),.mv 22 (.s 21),.gd (.s 22) false [23,24,25,26] [.fa 23 0 (.s 5),.la 24 3 (.s 23),.callp (some 25) n_r24_Text [.s 24],.un 26 .not (.s 25)],.pick 27 (.s 22) (.c (.bool true)) (.s 26)]) (.cond (.s 27) (.seq (.reg [.callp (some 28) n_l24_alive [],.mv 6 (.s 28)]) (.ret)) (.skip))) (.n 0))
def rs:List RV:=[.t 6]
attribute [push_cast] nd body
theorem ok:okF prog n_l24_BoundsShort nd body 3 rs = true:=by kernel_rfl
end l24_BoundsShort
namespace term_CheckSystem
def nd:Nat→C
 | 0=>.seq (.reg [.mv 2 (.i 0)]) (.ret)
 | 1=>.seq (.seq (.reg [.mv 27 (.s 0),.callp (some 28) n_slices_ContainsFunc_s_Rule_Rule [.s 27,(.f n_term_extra)]]) (.cond (.s 28) (.seq (.reg [.mv 2 (.i 7)]) (.ret)) (.skip))) (.n 0)
 | 2=>.gh [.ks 2 [0,20]] (.m 4)
 | 3=>.blk 1 (.seq (.reg [.en 23 (.s 20),.ex 24 (.s 23) 0,.mv 6 (.s 24)]) (.seq (.reg [.mv 25 (.s 6),.callp (some 26) n_term_Marked [.s 25]]) (.cond (.s 26) (.seq (.reg [.mv 2 (.i 6)]) (.ret)) (.skip))))
 | 4=>.seq (.reg [.nx 21 (.s 20),.ex 22 (.s 21) 0]) (.seq (.cond (.s 22) (.skip) (.exit 0)) (.n 3))
 | 5=>.seq (.seq (.reg [.mv 19 (.s 4),.rg 20 (.s 19)]) (.blk 0 (.loop (.n 2)))) (.n 1)
 | 6=>.seq (.reg [.mv 13 (.s 0),.call (some 14) n_term_Arities [.s 13],.mv 12 (.s 14),.ex 15 (.s 12) 0,.ex 16 (.s 12) 1,.mv 4 (.s 15),.mv 5 (.s 16)]) (.seq (.seq (.reg [.mv 17 (.s 5),.un 18 .not (.s 17)]) (.cond (.s 18) (.seq (.reg [.mv 2 (.i 6)]) (.ret)) (.skip))) (.n 5))
 | _=>.skip
def body:C:=.seq (.reg [.mv 2 (.i 0)]) (.seq (.seq (.reg [.mv 7 (.s 0),.callp (some 8) n_term_CheckRules [.s 7],.mv 3 (.s 8)]) (.seq (.reg [.mv 9 (.s 3),.bin 10 .neq (.s 9) (.i 0)]) (.cond (.s 10) (.seq (.reg [.mv 11 (.s 3),.mv 2 (.s 11)]) (.ret)) (.skip)))) (.n 6))
def rs:List RV:=[.t 2]
attribute [push_cast] nd body
theorem ok:okF prog n_term_CheckSystem nd body 1 rs = true:=by kernel_rfl
abbrev L4 (v0 v20:V) (B:Nat) (H:List Ob) (Q:X→T→List Ob→Prop):Prop:=Run prog nd B [.c (.m 4),.c (.loop (.n 2)),.mk 0,.c (.n 1)] [(0,v0),(20,v20)] H Q
theorem G4 (h:Run prog nd B (.c (nd 4) :: s) t H Q):Run prog nd B (.c (.m 4) :: s) t H Q:=run_m.2 h
end term_CheckSystem
namespace r01_CheckSystem
def nd:Nat→C
 | 0=>.seq (.reg [.mv 2 (.i 0)]) (.ret)
 | 1=>.gh [.ks 0 [20,21,22]] (.m 3)
 | 2=>.seq (.blk 1 (.seq (.reg [.ia 24 6 (.s 20) (.s 22),.la 25 6 (.s 24),.al 7 t_Rule [.str [],.bool false,.sl 3 [],.str [],.bool false,.sl 3 []],.sf 7 6 (.s 25)]) (.seq (.reg [.fa 26 0 (.s 7),.fa 27 1 (.s 26),.ld 28 (.s 27),.mv 29 (.s 28),.gd (.s 29) false [30,31,32,33,34,35] [.fa 30 3 (.s 7),.la 31 3 (.s 30),.fa 32 0 (.s 7),.la 33 3 (.s 32),.callp (some 34) n_r01_Within [.s 31,.s 33],.un 35 .not (.s 34)],.pick 36 (.s 29) (.c (.bool true)) (.s 35)]) (.cond (.s 36) (.seq (.reg [.mv 2 (.i 7)]) (.ret)) (.skip))))) (.reg [.bin 37 .add (.s 22) (.i 1),.mv 22 (.s 37)])
 | 3=>.seq (.reg [.bin 23 .lss (.s 22) (.s 21)]) (.seq (.cond (.s 23) (.skip) (.exit 0)) (.n 2))
 | 4=>.seq (.seq (.reg [.mv 20 (.s 0),.len 21 (.s 20),.mv 22 (.i 0)]) (.blk 0 (.loop (.n 1)))) (.n 0)
 | 5=>.seq (.seq (.reg [.mv 14 (.s 0),.callp (some 15) n_r01_Symbols [.s 14],.mv 13 (.s 15),.ex 16 (.s 13) 0,.ex 17 (.s 13) 1,.mv 4 (.s 16),.mv 5 (.s 17)]) (.seq (.reg [.mv 18 (.s 5),.un 19 .not (.s 18)]) (.cond (.s 19) (.seq (.reg [.mv 2 (.i 6)]) (.ret)) (.skip)))) (.n 4)
 | _=>.skip
def body:C:=.seq (.reg [.mv 2 (.i 0)]) (.seq (.seq (.reg [.mv 8 (.s 0),.callp (some 9) n_r01_Rules [.s 8],.mv 3 (.s 9)]) (.seq (.reg [.mv 10 (.s 3),.bin 11 .neq (.s 10) (.i 0)]) (.cond (.s 11) (.seq (.reg [.mv 12 (.s 3),.mv 2 (.s 12)]) (.ret)) (.skip)))) (.n 5))
def rs:List RV:=[.t 2]
attribute [push_cast] nd body
theorem ok:okF prog n_r01_CheckSystem nd body 1 rs = true:=by kernel_rfl
abbrev L3 (v20 v21 v22:V) (B:Nat) (H:List Ob) (Q:X→T→List Ob→Prop):Prop:=Run prog nd B [.c (.m 3),.c (.loop (.n 1)),.mk 0,.c (.n 0)] [(20,v20),(21,v21),(22,v22)] H Q
theorem G3 (h:Run prog nd B (.c (nd 3) :: s) t H Q):Run prog nd B (.c (.m 3) :: s) t H Q:=run_m.2 h
end r01_CheckSystem
namespace r01_Size
def nd:Nat→C
 | 0=>.seq (.reg [.mv 18 (.s 3),.mv 2 (.s 18)]) (.ret)
 | 1=>.gh [.ks 0 [3,7,8,9]] (.m 3)
 | 2=>.seq (.blk 1 (.seq (.reg [.ia 11 3 (.s 7) (.s 9),.la 12 3 (.s 11),.al 5 t_Term [.str [],.bool false,.sl 3 []],.sf 5 3 (.s 12)]) (.reg [.mv 13 (.s 3),.la 14 3 (.s 5),.callp (some 15) n_r01_Size [.s 14],.bin 16 .add (.s 13) (.s 15),.mv 3 (.s 16)]))) (.reg [.bin 17 .add (.s 9) (.i 1),.mv 9 (.s 17)])
 | 3=>.seq (.reg [.bin 10 .lss (.s 9) (.s 8)]) (.seq (.cond (.s 10) (.skip) (.exit 0)) (.n 2))
 | _=>.skip
def body:C:=.seq (.reg [.br 1 t_Term (.s 0),.mv 2 (.i 0)]) (.seq (.reg [.mv 3 (.i 1)]) (.seq (.seq (.reg [.fa 6 2 (.s 1),.ld 7 (.s 6),.len 8 (.s 7),.mv 9 (.i 0)]) (.blk 0 (.loop (.n 1)))) (.n 0)))
def rs:List RV:=[.t 2]
attribute [push_cast] nd body
theorem ok:okF prog n_r01_Size nd body 1 rs = true:=by kernel_rfl
abbrev L3 (v3 v7 v8 v9:V) (B:Nat) (H:List Ob) (Q:X→T→List Ob→Prop):Prop:=Run prog nd B [.c (.m 3),.c (.loop (.n 1)),.mk 0,.c (.n 0)] [(3,v3),(7,v7),(8,v8),(9,v9)] H Q
theorem G3 (h:Run prog nd B (.c (nd 3) :: s) t H Q):Run prog nd B (.c (.m 3) :: s) t H Q:=run_m.2 h
end r01_Size
end Go.Dw
end
section
namespace Go.Dw
variable {s:List K} {B:Nat} {t:T} {H:List Ob} {Q:X→T→List Ob→Prop}
namespace r01_Compare
def nd:Nat→C
 | 0=>.seq (.reg [.mv 4 (.i 0)]) (.ret)
 | 1=>.gh [.ks 0 [2,3,36,37]] (.m 3)
 | 2=>.seq (.blk 1 (.seq (.reg [.mv 39 (.s 37),.mv 7 (.s 39)]) (.seq (.dr [0,1,2,3,4,5,6,7,8,9,10,11] [.fa 40 2 (.s 2),.ld 41 (.s 40),.mv 42 (.s 7),.ia 43 3 (.s 41) (.s 42),.la 44 3 (.s 43),.fa 45 2 (.s 3),.ld 46 (.s 45),.mv 47 (.s 7),.ia 48 3 (.s 46) (.s 47),.la 49 3 (.s 48),.callp (some 50) n_r01_Compare [.s 44,.s 49],.mv 8 (.s 50)]) (.seq (.reg [.mv 51 (.s 8),.bin 52 .neq (.s 51) (.i 0)]) (.cond (.s 52) (.seq (.reg [.mv 53 (.s 8),.mv 4 (.s 53)]) (.ret)) (.skip)))))) (.reg [.bin 54 .add (.s 37) (.i 1),.mv 37 (.s 54)])
 | 3=>.seq (.reg [.bin 38 .lss (.s 37) (.s 36)]) (.seq (.cond (.s 38) (.skip) (.exit 0)) (.n 2))
 | 4=>.seq (.seq (.reg [.fa 34 2 (.s 2),.ld 35 (.s 34),.len 36 (.s 35),.mv 37 (.i 0)]) (.blk 0 (.loop (.n 1)))) (.n 0)
 | 5=>.seq (.seq (.reg [.fa 24 2 (.s 2),.ld 25 (.s 24),.len 26 (.s 25),.fa 27 2 (.s 3),.ld 28 (.s 27),.len 29 (.s 28),.callp (some 30) n_r01_CompareInts [.s 26,.s 29],.mv 6 (.s 30)]) (.seq (.reg [.mv 31 (.s 6),.bin 32 .neq (.s 31) (.i 0)]) (.cond (.s 32) (.seq (.reg [.mv 33 (.s 6),.mv 4 (.s 33)]) (.ret)) (.skip)))) (.n 4)
 | 6=>.seq (.seq (.reg [.fa 16 0 (.s 2),.ld 17 (.s 16),.fa 18 0 (.s 3),.ld 19 (.s 18),.callp (some 20) n_r01_CompareNames [.s 17,.s 19],.mv 5 (.s 20)]) (.seq (.reg [.mv 21 (.s 5),.bin 22 .neq (.s 21) (.i 0)]) (.cond (.s 22) (.seq (.reg [.mv 23 (.s 5),.mv 4 (.s 23)]) (.ret)) (.skip)))) (.n 5)
 | 7=>.seq (.reg [.mv 4 (.i 1)]) (.ret)
 | _=>.skip
def body:C:=.seq (.reg [.br 2 t_Term (.s 0),.br 3 t_Term (.s 1),.mv 4 (.i 0)]) (.seq (.seq (.reg [.fa 9 1 (.s 2),.ld 10 (.s 9),.fa 11 1 (.s 3),.ld 12 (.s 11),.bb 13 .neq (.s 10) (.s 12)]) (.cond (.s 13) (.seq (.seq (.reg [.fa 14 1 (.s 2),.ld 15 (.s 14)]) (.cond (.s 15) (.seq (.reg [.mv 4 (.i (-1))]) (.ret)) (.skip))) (.n 7)) (.skip))) (.n 6))
def rs:List RV:=[.t 4]
attribute [push_cast] nd body
theorem ok:okF prog n_r01_Compare nd body 2 rs = true:=by kernel_rfl
abbrev L3 (v2 v3 v36 v37:V) (B:Nat) (H:List Ob) (Q:X→T→List Ob→Prop):Prop:=Run prog nd B [.c (.m 3),.c (.loop (.n 1)),.mk 0,.c (.n 0)] [(2,v2),(3,v3),(36,v36),(37,v37)] H Q
theorem G3 (h:Run prog nd B (.c (nd 3) :: s) t H Q):Run prog nd B (.c (.m 3) :: s) t H Q:=run_m.2 h
end r01_Compare
namespace r04_Step
def nd:Nat→C
 | 0=>.seq (.dr [0,1,2,3,4,5,6,7,8,9,10,11,12,13] [.la 50 3 (.s 4),.fa 51 1 (.s 5),.ld 52 (.s 51),.mv 53 (.s 8),.mv 54 (.s 0),.fa 55 0 (.s 5),.ld 56 (.s 55),.ia 57 6 (.s 54) (.s 56),.fa 58 3 (.s 57),.la 59 3 (.s 58),.callp (some 60) n_r01_Apply [.s 53,.s 59],.callp (some 61) n_r01_Put [.s 50,.s 52,.s 60],.st 3 (.s 6) (.s 61),.mv 7 (.i 0)]) (.ret)
 | 1=>.seq (.reg [.mv 24 (.s 8),.mv 25 (.s 0),.fa 26 0 (.s 5),.ld 27 (.s 26),.ia 28 6 (.s 25) (.s 27),.fa 29 3 (.s 28),.la 30 3 (.s 29),.callp (some 31) n_r01_Grown [.s 24,.s 30],.mv 23 (.s 31),.ex 32 (.s 23) 0,.ex 33 (.s 23) 1,.mv 10 (.s 32),.mv 11 (.s 33)]) (.seq (.reg [.la 35 3 (.s 4),.fa 36 1 (.s 5),.ld 37 (.s 36),.mv 38 (.s 10),.mv 39 (.s 11),.callp (some 40) n_r04_replaced [.s 35,.s 37,.s 38,.s 39],.mv 34 (.s 40),.ex 41 (.s 34) 0,.ex 42 (.s 34) 1,.mv 10 (.s 41),.mv 11 (.s 42)]) (.seq (.seq (.reg [.mv 43 (.s 10),.bin 44 .gtr (.s 43) (.i 4000),.mv 45 (.s 44),.gd (.s 45) false [46,47] [.mv 46 (.s 11),.bin 47 .gtr (.s 46) (.i 200)],.pick 48 (.s 45) (.c (.bool true)) (.s 47)]) (.cond (.s 48) (.seq (.reg [.bd 49 [.str [],.bool false,.sl 3 []] [],.st 3 (.s 6) (.s 49),.mv 7 (.i 3)]) (.ret)) (.skip))) (.n 0)))
 | _=>.skip
def body:C:=.seq (.reg [.br 4 t_Term (.s 1),.br 5 t_Step (.s 2),.al 6 t_Term [.str [],.bool false,.sl 3 []],.mv 7 (.i 0)]) (.seq (.reg [.mv 13 (.s 0),.la 14 3 (.s 4),.la 15 2 (.s 5),.callp (some 16) n_r04_Subst [.s 13,.s 14,.s 15],.mv 12 (.s 16),.ex 17 (.s 12) 0,.ex 18 (.s 12) 1,.mv 8 (.s 17),.mv 9 (.s 18)]) (.seq (.seq (.reg [.mv 19 (.s 9),.bin 20 .neq (.s 19) (.i 0)]) (.cond (.s 20) (.seq (.reg [.bd 21 [.str [],.bool false,.sl 3 []] [],.mv 22 (.s 9),.st 3 (.s 6) (.s 21),.mv 7 (.s 22)]) (.ret)) (.skip))) (.n 1)))
def rs:List RV:=[.a 6 3,.t 7]
attribute [push_cast] nd body
theorem ok:okF prog n_r04_Step nd body 3 rs = true:=by kernel_rfl
end r04_Step
namespace term_Check
def nd:Nat→C
 | 0=>.seq (.reg [.mv 2 (.i 0)]) (.ret)
 | _=>.skip
def body:C:=.seq (.reg [.br 1 t_Term (.s 0),.mv 2 (.i 0)]) (.seq (.blk 0 (.seq (.reg [.la 4 3 (.s 1),.callp (some 5) n_term_formed [.s 4],.un 6 .not (.s 5),.mv 3 (.s 6)]) (.cond (.s 3) (.seq (.reg [.mv 2 (.i 4)]) (.ret)) (.seq (.reg [.la 8 3 (.s 1),.callp (some 9) n_term_fits [.s 8],.un 10 .not (.s 9),.mv 7 (.s 10)]) (.cond (.s 7) (.seq (.reg [.mv 2 (.i 3)]) (.ret)) (.skip)))))) (.n 0))
def rs:List RV:=[.t 2]
attribute [push_cast] nd body
theorem ok:okF prog n_term_Check nd body 1 rs = true:=by kernel_rfl
end term_Check
namespace r01_Formed
def nd:Nat→C
 | 0=>.seq (.reg [.mv 2 (.c (.bool true))]) (.ret)
 | 1=>.gh [.ks 0 [27,28,29]] (.m 3)
 | 2=>.seq (.blk 1 (.seq (.reg [.ia 31 3 (.s 27) (.s 29),.la 32 3 (.s 31),.al 4 t_Term [.str [],.bool false,.sl 3 []],.sf 4 3 (.s 32)]) (.seq (.reg [.la 33 3 (.s 4),.callp (some 34) n_r01_Formed [.s 33],.un 35 .not (.s 34)]) (.cond (.s 35) (.seq (.reg [.mv 2 (.c (.bool false))]) (.ret)) (.skip))))) (.reg [.bin 36 .add (.s 29) (.i 1),.mv 29 (.s 36)])
 | 3=>.seq (.reg [.bin 30 .lss (.s 29) (.s 28)]) (.seq (.cond (.s 30) (.skip) (.exit 0)) (.n 2))
 | 4=>.seq (.seq (.reg [.fa 26 2 (.s 1),.ld 27 (.s 26),.len 28 (.s 27),.mv 29 (.i 0)]) (.blk 0 (.loop (.n 1)))) (.n 0)
 | 5=>.seq (.seq (.reg [.fa 16 0 (.s 1),.ld 17 (.s 16),.callp (some 18) n_r01_IsName [.s 17,(.c (.bool true))],.un 19 .not (.s 18),.mv 20 (.s 19),.gd (.s 20) false [21,22,23,24] [.fa 21 2 (.s 1),.ld 22 (.s 21),.len 23 (.s 22),.bin 24 .gtr (.s 23) (.i 8)],.pick 25 (.s 20) (.c (.bool true)) (.s 24)]) (.cond (.s 25) (.seq (.reg [.mv 2 (.c (.bool false))]) (.ret)) (.skip))) (.n 4)
 | _=>.skip
def body:C:=.seq (.reg [.br 1 t_Term (.s 0),.mv 2 (.c (.bool false))]) (.seq (.seq (.reg [.fa 5 1 (.s 1),.ld 6 (.s 5)]) (.cond (.s 6) (.seq (.reg [.fa 7 0 (.s 1),.ld 8 (.s 7),.callp (some 9) n_r01_IsName [.s 8,(.c (.bool false))],.mv 10 (.s 9),.gd (.s 10) true [11,12,13,14] [.fa 11 2 (.s 1),.ld 12 (.s 11),.len 13 (.s 12),.bin 14 .eql (.s 13) (.i 0)],.pick 15 (.s 10) (.s 14) (.c (.bool false)),.mv 2 (.s 15)]) (.ret)) (.skip))) (.n 5))
def rs:List RV:=[.t 2]
attribute [push_cast] nd body
theorem ok:okF prog n_r01_Formed nd body 1 rs = true:=by kernel_rfl
abbrev L3 (v27 v28 v29:V) (B:Nat) (H:List Ob) (Q:X→T→List Ob→Prop):Prop:=Run prog nd B [.c (.m 3),.c (.loop (.n 1)),.mk 0,.c (.n 0)] [(27,v27),(28,v28),(29,v29)] H Q
theorem G3 (h:Run prog nd B (.c (nd 3) :: s) t H Q):Run prog nd B (.c (.m 3) :: s) t H Q:=run_m.2 h
end r01_Formed
namespace r01_Depth
def nd:Nat→C
 | 0=>.seq (.reg [.mv 18 (.s 3),.bin 19 .add (.s 18) (.i 1),.mv 2 (.s 19)]) (.ret)
 | 1=>.gh [.ks 0 [3,7,8,9]] (.m 3)
 | 2=>.seq (.blk 1 (.seq (.reg [.ia 11 3 (.s 7) (.s 9),.la 12 3 (.s 11),.al 5 t_Term [.str [],.bool false,.sl 3 []],.sf 5 3 (.s 12)]) (.reg [.mv 13 (.s 3),.la 14 3 (.s 5),.callp (some 15) n_r01_Depth [.s 14],.mx 16 (.s 13) (.s 15),.mv 3 (.s 16)]))) (.reg [.bin 17 .add (.s 9) (.i 1),.mv 9 (.s 17)])
 | 3=>.seq (.reg [.bin 10 .lss (.s 9) (.s 8)]) (.seq (.cond (.s 10) (.skip) (.exit 0)) (.n 2))
 | _=>.skip
def body:C:=.seq (.reg [.br 1 t_Term (.s 0),.mv 2 (.i 0)]) (.seq (.reg [.mv 3 (.i 0)]) (.seq (.seq (.reg [.fa 6 2 (.s 1),.ld 7 (.s 6),.len 8 (.s 7),.mv 9 (.i 0)]) (.blk 0 (.loop (.n 1)))) (.n 0)))
def rs:List RV:=[.t 2]
attribute [push_cast] nd body
theorem ok:okF prog n_r01_Depth nd body 1 rs = true:=by kernel_rfl
abbrev L3 (v3 v7 v8 v9:V) (B:Nat) (H:List Ob) (Q:X→T→List Ob→Prop):Prop:=Run prog nd B [.c (.m 3),.c (.loop (.n 1)),.mk 0,.c (.n 0)] [(3,v3),(7,v7),(8,v8),(9,v9)] H Q
theorem G3 (h:Run prog nd B (.c (nd 3) :: s) t H Q):Run prog nd B (.c (.m 3) :: s) t H Q:=run_m.2 h
end r01_Depth
namespace bounds_system
def nd:Nat→C
 | 0=>.seq (.reg [.mv 19 (.s 5),.mv 2 (.s 19),.mv 3 (.i 0)]) (.ret)
 | 1=>.seq (.reg [.mv 13 (.s 0),.callp (some 14) n_bounds_rules [.s 13],.mv 12 (.s 14),.ex 15 (.s 12) 0,.ex 16 (.s 12) 1,.mv 5 (.s 15),.mv 6 (.s 16)]) (.seq (.seq (.reg [.mv 17 (.s 6),.un 18 .not (.s 17)]) (.cond (.s 18) (.seq (.reg [.mv 2 (.c (.sl 2 [])),.mv 3 (.i 4)]) (.ret)) (.skip))) (.n 0))
 | _=>.skip
def body:C:=.seq (.reg [.mv 2 (.c (.sl 2 [])),.mv 3 (.i 0)]) (.seq (.seq (.reg [.mv 7 (.s 0),.callp (some 8) n_term_CheckSystem [.s 7],.mv 4 (.s 8)]) (.seq (.reg [.mv 9 (.s 4),.bin 10 .neq (.s 9) (.i 0)]) (.cond (.s 10) (.seq (.reg [.mv 11 (.s 4),.mv 2 (.c (.sl 2 [])),.mv 3 (.s 11)]) (.ret)) (.skip)))) (.n 1))
def rs:List RV:=[.t 2,.t 3]
attribute [push_cast] nd body
theorem ok:okF prog n_bounds_system nd body 1 rs = true:=by kernel_rfl
end bounds_system
namespace derive_Run
def nd:Nat→C
 | 0=>.seq (.reg [.mv 52 (.s 7),.mv 4 (.s 52),.mv 5 (.i 0)]) (.ret)
 | 1=>.gh [.ks 1 [0,7,27,28,29]] (.m 3)
 | 2=>.seq (.blk 1 (.seq (.reg [.mv 31 (.s 29),.ia 32 2 (.s 27) (.s 29),.la 33 2 (.s 32),.al 9 t_Step [.int .i64 0,.sl 1 []],.mv 8 (.s 31),.sf 9 2 (.s 33)]) (.seq (.dr [0,1,2,3,4,5,6,7,8,9,10,11,12] [.mv 35 (.s 0),.mv 36 (.s 7),.mv 37 (.s 8),.ia 38 3 (.s 36) (.s 37),.la 39 3 (.s 38),.la 40 2 (.s 9),.callp (some 41) n_rewrite_Do [.s 35,.s 39,.s 40],.mv 34 (.s 41),.ex 42 (.s 34) 0,.ex 43 (.s 34) 1,.al 10 t_Term [.str [],.bool false,.sl 3 []],.sf 10 3 (.s 42),.mv 11 (.s 43)]) (.seq (.seq (.reg [.mv 44 (.s 11),.bin 45 .neq (.s 44) (.i 0)]) (.cond (.s 45) (.seq (.reg [.mv 46 (.s 11),.mv 4 (.c (.sl 3 [])),.mv 5 (.s 46)]) (.ret)) (.skip))) (.reg [.mv 47 (.s 7),.la 48 3 (.s 10),.bs 49 3 [.s 48],.app 50 t_Term 3 48 (.s 47) (.s 49),.mv 7 (.s 50)]))))) (.reg [.bin 51 .add (.s 29) (.i 1),.mv 29 (.s 51)])
 | 3=>.seq (.reg [.bin 30 .lss (.s 29) (.s 28)]) (.seq (.cond (.s 30) (.skip) (.exit 0)) (.n 2))
 | 4=>.seq (.reg [.fa 22 0 (.s 3),.la 23 3 (.s 22),.callp (some 24) n_term_Own [.s 23],.bo 25 t_Term 3 [.s 24],.mv 7 (.s 25)]) (.seq (.seq (.reg [.fa 26 3 (.s 3),.ld 27 (.s 26),.len 28 (.s 27),.mv 29 (.i 0)]) (.blk 0 (.loop (.n 1)))) (.n 0))
 | 5=>.seq (.seq (.reg [.fa 16 0 (.s 3),.la 17 3 (.s 16),.callp (some 18) n_term_Check [.s 17],.mv 6 (.s 18)]) (.seq (.reg [.mv 19 (.s 6),.bin 20 .neq (.s 19) (.i 0)]) (.cond (.s 20) (.seq (.reg [.mv 21 (.s 6),.mv 4 (.c (.sl 3 [])),.mv 5 (.s 21)]) (.ret)) (.skip)))) (.n 4)
 | _=>.skip
def body:C:=.seq (.reg [.br 3 t_Chain (.s 1),.mv 4 (.c (.sl 3 [])),.mv 5 (.i 0)]) (.seq (.seq (.reg [.fa 12 3 (.s 3),.ld 13 (.s 12),.len 14 (.s 13),.bin 15 .gtr (.s 14) (.i 4096)]) (.cond (.s 15) (.seq (.reg [.mv 4 (.c (.sl 3 [])),.mv 5 (.i 3)]) (.ret)) (.skip))) (.n 5))
def rs:List RV:=[.t 4,.t 5]
attribute [push_cast] nd body
theorem ok:okF prog n_derive_Run nd body 2 rs = true:=by kernel_rfl
abbrev L3 (v0 v7 v27 v28 v29:V) (B:Nat) (H:List Ob) (Q:X→T→List Ob→Prop):Prop:=Run prog nd B [.c (.m 3),.c (.loop (.n 1)),.mk 0,.c (.n 0)] [(0,v0),(7,v7),(27,v27),(28,v28),(29,v29)] H Q
theorem G3 (h:Run prog nd B (.c (nd 3) :: s) t H Q):Run prog nd B (.c (.m 3) :: s) t H Q:=run_m.2 h
end derive_Run
namespace bounds_word
def nd:Nat→C
 | 0=>.seq (.dr [0,1,2,3] [.mv 23 (.s 4),.la 24 3 (.s 1),.mv 2 (.s 23),.st 3 (.s 3) (.s 24)]) (.ret)
 | 1=>.gh [.ks 3 [1,3,4]] (.m 3)
 | 2=>.blk 1 (.seq (.reg [.mv 14 (.s 4),.fa 15 0 (.s 1),.ld 16 (.s 15),.bs 17 1 [.s 16],.app 18 t_string 1 16 (.s 14) (.s 17),.mv 4 (.s 18)]) (.reg [.fa 19 2 (.s 1),.ld 20 (.s 19),.ia 21 3 (.s 20) (.i 0),.la 22 3 (.s 21),.st 3 (.s 1) (.s 22)]))
 | 3=>.seq (.seq (.reg [.fa 5 1 (.s 1),.ld 6 (.s 5),.un 7 .not (.s 6),.mv 8 (.s 7),.gd (.s 8) true [9,10,11,12] [.fa 9 2 (.s 1),.ld 10 (.s 9),.len 11 (.s 10),.bin 12 .eql (.s 11) (.i 1)],.pick 13 (.s 8) (.s 12) (.c (.bool false))]) (.cond (.s 13) (.skip) (.exit 0))) (.n 2)
 | _=>.skip
def body:C:=.seq (.reg [.bx 1 t_Term (.s 0),.mv 2 (.c (.sl 1 [])),.al 3 t_Term [.str [],.bool false,.sl 3 []]]) (.seq (.reg [.mv 4 (.c .nil),.non 4 t_string 1]) (.seq (.blk 0 (.loop (.n 1))) (.n 0)))
def rs:List RV:=[.t 2,.a 3 3]
attribute [push_cast] nd body
theorem ok:okF prog n_bounds_word nd body 1 rs = true:=by kernel_rfl
abbrev L3 (v1 v3 v4:V) (B:Nat) (H:List Ob) (Q:X→T→List Ob→Prop):Prop:=Run prog nd B [.c (.m 3),.c (.loop (.n 1)),.mk 0,.c (.n 0)] [(1,v1),(3,v3),(4,v4)] H Q
theorem G3 (h:Run prog nd B (.c (nd 3) :: s) t H Q):Run prog nd B (.c (.m 3) :: s) t H Q:=run_m.2 h
end bounds_word
namespace slices_Clone_s_int_int
def nd:Nat→C
 | 0=>.seq (.reg [.bo 5 t_int 1 [],.mv 6 (.s 0),.app 7 t_int 1 8 (.s 5) (.s 6),.mv 2 (.s 7)]) (.ret)
 | _=>.skip
def body:C:=.seq (.reg [.mv 2 (.c .nil),.non 2 t_int 1]) (.seq (.seq (.reg [.mv 3 (.s 0),.nl 4 false (.s 3)]) (.cond (.s 4) (.seq (.reg [.mv 2 (.c .nil),.non 2 t_int 1]) (.ret)) (.skip))) (.n 0))
def rs:List RV:=[.t 2]
attribute [push_cast] nd body
theorem ok:okF prog n_slices_Clone_s_int_int nd body 1 rs = true:=by kernel_rfl
end slices_Clone_s_int_int
namespace slices_Min_s_int_int
def nd:Nat→C
 | 0=>.seq (.reg [.mv 24 (.s 3),.mv 2 (.s 24)]) (.ret)
 | 1=>.gh [.ks 0 [0,3,4]] (.m 3)
 | 2=>.seq (.blk 1 (.reg [.mv 18 (.s 3),.mv 19 (.s 0),.mv 20 (.s 4),.ia 21 1 (.s 19) (.s 20),.ld 22 (.s 21),.mn 23 (.s 18) (.s 22),.mv 3 (.s 23)])) (.reg [.mv 16 (.s 4),.bin 17 .add (.s 16) (.i 1),.mv 4 (.s 17)])
 | 3=>.seq (.seq (.reg [.mv 12 (.s 4),.mv 13 (.s 0),.len 14 (.s 13),.bin 15 .lss (.s 12) (.s 14)]) (.cond (.s 15) (.skip) (.exit 0))) (.n 2)
 | 4=>.seq (.reg [.mv 9 (.s 0),.ia 10 1 (.s 9) (.i 0),.ld 11 (.s 10),.mv 3 (.s 11)]) (.seq (.seq (.reg [.mv 4 (.i 1)]) (.blk 0 (.loop (.n 1)))) (.n 0))
 | _=>.skip
def body:C:=.seq (.reg [.mv 2 (.i 0)]) (.seq (.seq (.reg [.mv 5 (.s 0),.len 6 (.s 5),.bin 7 .lss (.s 6) (.i 1)]) (.cond (.s 7) (.bad) (.skip))) (.n 4))
def rs:List RV:=[.t 2]
attribute [push_cast] nd body
theorem ok:okF prog n_slices_Min_s_int_int nd body 1 rs = true:=by kernel_rfl
abbrev L3 (v0 v3 v4:V) (B:Nat) (H:List Ob) (Q:X→T→List Ob→Prop):Prop:=Run prog nd B [.c (.m 3),.c (.loop (.n 1)),.mk 0,.c (.n 0)] [(0,v0),(3,v3),(4,v4)] H Q
theorem G3 (h:Run prog nd B (.c (nd 3) :: s) t H Q):Run prog nd B (.c (.m 3) :: s) t H Q:=run_m.2 h
end slices_Min_s_int_int
namespace slices_Concat_s_int_int
def nd:Nat→C
 | 0=>.seq (.reg [.mv 35 (.s 6),.mv 2 (.s 35)]) (.ret)
 | 1=>.gh [.ks 1 [6,25,26,27]] (.m 3)
 | 2=>.seq (.blk 3 (.seq (.reg [.ia 29 1 (.s 25) (.s 27),.ld 30 (.s 29),.mv 8 (.s 30)]) (.reg [.mv 31 (.s 6),.mv 32 (.s 8),.app 33 t_int 1 8 (.s 31) (.s 32),.mv 6 (.s 33)]))) (.reg [.bin 34 .add (.s 27) (.i 1),.mv 27 (.s 34)])
 | 3=>.seq (.reg [.bin 28 .lss (.s 27) (.s 26)]) (.seq (.cond (.s 28) (.skip) (.exit 2)) (.n 2))
 | 4=>.seq (.reg [.mv 23 (.s 3),.call (some 24) n_slices_Grow_s_int_int [(.c .nil),.s 23],.mv 6 (.s 24)]) (.seq (.seq (.reg [.mv 25 (.s 0),.len 26 (.s 25),.mv 27 (.i 0)]) (.blk 2 (.loop (.n 1)))) (.n 0))
 | 5=>.gh [.ks 0 [0,3,9,10,11]] (.m 7)
 | 6=>.seq (.blk 1 (.seq (.reg [.ia 13 1 (.s 9) (.s 11),.ld 14 (.s 13),.mv 5 (.s 14)]) (.seq (.reg [.mv 15 (.s 3),.mv 16 (.s 5),.len 17 (.s 16),.bin 18 .add (.s 15) (.s 17),.mv 3 (.s 18)]) (.seq (.reg [.mv 19 (.s 3),.bin 20 .lss (.s 19) (.i 0)]) (.cond (.s 20) (.bad) (.skip)))))) (.reg [.bin 22 .add (.s 11) (.i 1),.mv 11 (.s 22)])
 | 7=>.seq (.reg [.bin 12 .lss (.s 11) (.s 10)]) (.seq (.cond (.s 12) (.skip) (.exit 0)) (.n 6))
 | _=>.skip
def body:C:=.seq (.reg [.mv 2 (.c (.sl 1 []))]) (.seq (.reg [.mv 3 (.i 0)]) (.seq (.seq (.reg [.mv 9 (.s 0),.len 10 (.s 9),.mv 11 (.i 0)]) (.blk 0 (.loop (.n 5)))) (.n 4)))
def rs:List RV:=[.t 2]
attribute [push_cast] nd body
theorem ok:okF prog n_slices_Concat_s_int_int nd body 1 rs = true:=by kernel_rfl
abbrev L3 (v6 v25 v26 v27:V) (B:Nat) (H:List Ob) (Q:X→T→List Ob→Prop):Prop:=Run prog nd B [.c (.m 3),.c (.loop (.n 1)),.mk 2,.c (.n 0)] [(6,v6),(25,v25),(26,v26),(27,v27)] H Q
theorem G3 (h:Run prog nd B (.c (nd 3) :: s) t H Q):Run prog nd B (.c (.m 3) :: s) t H Q:=run_m.2 h
abbrev L7 (v0 v3 v9 v10 v11:V) (B:Nat) (H:List Ob) (Q:X→T→List Ob→Prop):Prop:=Run prog nd B [.c (.m 7),.c (.loop (.n 5)),.mk 0,.c (.n 4)] [(0,v0),(3,v3),(9,v9),(10,v10),(11,v11)] H Q
theorem G7 (h:Run prog nd B (.c (nd 7) :: s) t H Q):Run prog nd B (.c (.m 7) :: s) t H Q:=run_m.2 h
end slices_Concat_s_int_int
namespace r24_Is
def nd:Nat→C
 | 0=>.seq (.reg [.mv 2 (.c (.bool true))]) (.ret)
 | 1=>.gh [.ks 0 [9,10,11]] (.m 3)
 | 2=>.seq (.blk 1 (.seq (.reg [.ia 13 6 (.s 9) (.s 11),.la 14 6 (.s 13),.al 4 t_Rule [.str [],.bool false,.sl 3 [],.str [],.bool false,.sl 3 []],.sf 4 6 (.s 14)]) (.seq (.reg [.fa 16 0 (.s 4),.la 17 3 (.s 16),.callp (some 18) n_r24_Word [.s 17],.mv 15 (.s 18),.ex 19 (.s 15) 0,.ex 20 (.s 15) 1,.al 6 t_Term [.str [],.bool false,.sl 3 []],.mv 5 (.s 19),.sf 6 3 (.s 20)]) (.seq (.reg [.fa 22 3 (.s 4),.la 23 3 (.s 22),.callp (some 24) n_r24_Word [.s 23],.mv 21 (.s 24),.ex 25 (.s 21) 0,.ex 26 (.s 21) 1,.al 8 t_Term [.str [],.bool false,.sl 3 []],.mv 7 (.s 25),.sf 8 3 (.s 26)]) (.seq (.reg [.fa 27 1 (.s 6),.ld 28 (.s 27),.un 29 .not (.s 28),.mv 30 (.s 29),.gd (.s 30) false [31,32,33] [.fa 31 1 (.s 8),.ld 32 (.s 31),.un 33 .not (.s 32)],.pick 34 (.s 30) (.c (.bool true)) (.s 33),.mv 35 (.s 34),.gd (.s 35) false [36,37,38,39,40] [.fa 36 0 (.s 6),.ld 37 (.s 36),.fa 38 0 (.s 8),.ld 39 (.s 38),.bin 40 .neq (.s 37) (.s 39)],.pick 41 (.s 35) (.c (.bool true)) (.s 40)]) (.cond (.s 41) (.seq (.reg [.mv 2 (.c (.bool false))]) (.ret)) (.skip))))))) (.reg [.bin 42 .add (.s 11) (.i 1),.mv 11 (.s 42)])
 | 3=>.seq (.reg [.bin 12 .lss (.s 11) (.s 10)]) (.seq (.cond (.s 12) (.skip) (.exit 0)) (.n 2))
 | _=>.skip
def body:C:=.seq (.reg [.mv 2 (.c (.bool false))]) (.seq (.seq (.reg [.mv 9 (.s 0),.len 10 (.s 9),.mv 11 (.i 0)]) (.blk 0 (.loop (.n 1)))) (.n 0))
def rs:List RV:=[.t 2]
attribute [push_cast] nd body
theorem ok:okF prog n_r24_Is nd body 1 rs = true:=by kernel_rfl
abbrev L3 (v9 v10 v11:V) (B:Nat) (H:List Ob) (Q:X→T→List Ob→Prop):Prop:=Run prog nd B [.c (.m 3),.c (.loop (.n 1)),.mk 0,.c (.n 0)] [(9,v9),(10,v10),(11,v11)] H Q
theorem G3 (h:Run prog nd B (.c (nd 3) :: s) t H Q):Run prog nd B (.c (.m 3) :: s) t H Q:=run_m.2 h
end r24_Is
namespace r05_Terms
def nd:Nat→C
 | 0=>.seq (.reg [.mv 52 (.s 7),.mv 4 (.s 52),.mv 5 (.i 0)]) (.ret)
 | 1=>.gh [.ks 1 [0,7,26,27,28]] (.m 3)
 | 2=>.seq (.blk 1 (.seq (.reg [.ia 30 2 (.s 26) (.s 28),.la 31 2 (.s 30),.al 9 t_Step [.int .i64 0,.sl 1 []],.sf 9 2 (.s 31)]) (.seq (.dr [0,1,2,3,4,5,6,7,8,9,10,11,12,13,14] [.mv 33 (.s 0),.mv 34 (.s 7),.mv 35 (.s 7),.len 36 (.s 35),.bin 37 .sub (.s 36) (.i 1),.ia 38 3 (.s 34) (.s 37),.la 39 3 (.s 38),.la 40 2 (.s 9),.callp (some 41) n_r04_Step [.s 33,.s 39,.s 40],.mv 32 (.s 41),.ex 42 (.s 32) 0,.ex 43 (.s 32) 1,.al 10 t_Term [.str [],.bool false,.sl 3 []],.sf 10 3 (.s 42),.mv 11 (.s 43)]) (.seq (.seq (.reg [.mv 44 (.s 11),.bin 45 .neq (.s 44) (.i 0)]) (.cond (.s 45) (.seq (.reg [.mv 46 (.s 11),.mv 4 (.c (.sl 3 [])),.mv 5 (.s 46)]) (.ret)) (.skip))) (.reg [.mv 47 (.s 7),.la 48 3 (.s 10),.bs 49 3 [.s 48],.app 50 t_Term 3 48 (.s 47) (.s 49),.mv 7 (.s 50)]))))) (.reg [.bin 51 .add (.s 28) (.i 1),.mv 28 (.s 51)])
 | 3=>.seq (.reg [.bin 29 .lss (.s 28) (.s 27)]) (.seq (.cond (.s 29) (.skip) (.exit 0)) (.n 2))
 | 4=>.seq (.reg [.fa 22 0 (.s 3),.la 23 3 (.s 22),.bo 24 t_Term 3 [.s 23],.mv 7 (.s 24)]) (.seq (.seq (.reg [.fa 25 3 (.s 3),.ld 26 (.s 25),.len 27 (.s 26),.mv 28 (.i 0)]) (.blk 0 (.loop (.n 1)))) (.n 0))
 | 5=>.seq (.seq (.reg [.fa 16 0 (.s 3),.la 17 3 (.s 16),.callp (some 18) n_r01_Check [.s 17],.mv 6 (.s 18)]) (.seq (.reg [.mv 19 (.s 6),.bin 20 .neq (.s 19) (.i 0)]) (.cond (.s 20) (.seq (.reg [.mv 21 (.s 6),.mv 4 (.c (.sl 3 [])),.mv 5 (.s 21)]) (.ret)) (.skip)))) (.n 4)
 | _=>.skip
def body:C:=.seq (.reg [.br 3 t_Chain (.s 1),.mv 4 (.c (.sl 3 [])),.mv 5 (.i 0)]) (.seq (.seq (.reg [.fa 12 3 (.s 3),.ld 13 (.s 12),.len 14 (.s 13),.bin 15 .gtr (.s 14) (.i 4096)]) (.cond (.s 15) (.seq (.reg [.mv 4 (.c (.sl 3 [])),.mv 5 (.i 3)]) (.ret)) (.skip))) (.n 5))
def rs:List RV:=[.t 4,.t 5]
attribute [push_cast] nd body
theorem ok:okF prog n_r05_Terms nd body 2 rs = true:=by kernel_rfl
abbrev L3 (v0 v7 v26 v27 v28:V) (B:Nat) (H:List Ob) (Q:X→T→List Ob→Prop):Prop:=Run prog nd B [.c (.m 3),.c (.loop (.n 1)),.mk 0,.c (.n 0)] [(0,v0),(7,v7),(26,v26),(27,v27),(28,v28)] H Q
theorem G3 (h:Run prog nd B (.c (nd 3) :: s) t H Q):Run prog nd B (.c (.m 3) :: s) t H Q:=run_m.2 h
end r05_Terms
namespace r24_Text
def nd (_:Nat):C:=.skip
def body:C:=.seq (.reg [.br 1 t_Term (.s 0),.mv 2 (.c (.bool false))]) (.seq (.reg [.la 6 3 (.s 1),.callp (some 7) n_r24_Word [.s 6],.mv 5 (.s 7),.ex 8 (.s 5) 0,.ex 9 (.s 5) 1,.al 4 t_Term [.str [],.bool false,.sl 3 []],.mv 3 (.s 8),.sf 4 3 (.s 9)]) (.seq (.reg [.fa 10 2 (.s 4),.ld 11 (.s 10),.len 12 (.s 11),.bin 13 .eql (.s 12) (.i 0),.mv 2 (.s 13)]) (.ret)))
def rs:List RV:=[.t 2]
attribute [push_cast] nd body
theorem ok:okF prog n_r24_Text nd body 1 rs = true:=by kernel_rfl
end r24_Text
namespace r24_Word
def nd:Nat→C
 | 0=>.seq (.dr [0,1,2,3] [.mv 23 (.s 4),.la 24 3 (.s 1),.mv 2 (.s 23),.st 3 (.s 3) (.s 24)]) (.ret)
 | 1=>.gh [.ks 3 [1,3,4]] (.m 3)
 | 2=>.blk 1 (.seq (.reg [.mv 14 (.s 4),.fa 15 0 (.s 1),.ld 16 (.s 15),.bs 17 1 [.s 16],.app 18 t_string 1 16 (.s 14) (.s 17),.mv 4 (.s 18)]) (.reg [.fa 19 2 (.s 1),.ld 20 (.s 19),.ia 21 3 (.s 20) (.i 0),.la 22 3 (.s 21),.st 3 (.s 1) (.s 22)]))
 | 3=>.seq (.seq (.reg [.fa 5 1 (.s 1),.ld 6 (.s 5),.un 7 .not (.s 6),.mv 8 (.s 7),.gd (.s 8) true [9,10,11,12] [.fa 9 2 (.s 1),.ld 10 (.s 9),.len 11 (.s 10),.bin 12 .eql (.s 11) (.i 1)],.pick 13 (.s 8) (.s 12) (.c (.bool false))]) (.cond (.s 13) (.skip) (.exit 0))) (.n 2)
 | _=>.skip
def body:C:=.seq (.reg [.bx 1 t_Term (.s 0),.mv 2 (.c (.sl 1 [])),.al 3 t_Term [.str [],.bool false,.sl 3 []]]) (.seq (.reg [.mv 4 (.c .nil),.non 4 t_string 1]) (.seq (.blk 0 (.loop (.n 1))) (.n 0)))
def rs:List RV:=[.t 2,.a 3 3]
attribute [push_cast] nd body
theorem ok:okF prog n_r24_Word nd body 1 rs = true:=by kernel_rfl
abbrev L3 (v1 v3 v4:V) (B:Nat) (H:List Ob) (Q:X→T→List Ob→Prop):Prop:=Run prog nd B [.c (.m 3),.c (.loop (.n 1)),.mk 0,.c (.n 0)] [(1,v1),(3,v3),(4,v4)] H Q
theorem G3 (h:Run prog nd B (.c (nd 3) :: s) t H Q):Run prog nd B (.c (.m 3) :: s) t H Q:=run_m.2 h
end r24_Word
namespace bounds_Length
def nd:Nat→C
 | 0=>.seq (.reg [.mv 78 (.s 2),.cvi 79 .u64 (.s 78),.mv 80 (.s 14),.bin 81 .mul (.s 79) (.s 80),.mv 6 (.s 81),.mv 7 (.i 0)]) (.ret)
 | 1=>.seq (.seq (.reg [.mv 69 (.s 2),.bin 70 .gtr (.s 69) (.i 0),.mv 71 (.s 70),.gd (.s 71) true [72,73,74,75,76] [.mv 72 (.s 14),.mv 73 (.s 2),.cvi 74 .u64 (.s 73),.bin 75 .quo (.c (.int .u64 4611686018427387904)) (.s 74),.bin 76 .gtr (.s 72) (.s 75)],.pick 77 (.s 71) (.s 76) (.c (.bool false))]) (.cond (.s 77) (.seq (.reg [.mv 6 (.c (.int .u64 0)),.mv 7 (.i 3)]) (.ret)) (.skip))) (.n 0)
 | 2=>.gh [.ks 0 [2,11,14,46,47]] (.m 4)
 | 3=>.seq (.blk 3 (.seq (.seq (.reg [.mv 49 (.s 2),.bin 50 .gtr (.s 49) (.i 0),.mv 51 (.s 50),.gd (.s 51) true [52,53] [.mv 52 (.s 11),.bin 53 .gtr (.s 52) (.c (.int .u64 0))],.pick 54 (.s 51) (.s 53) (.c (.bool false)),.mv 55 (.s 54),.gd (.s 55) true [56,57,58,59,60,61,62] [.mv 56 (.s 14),.mv 57 (.s 11),.bin 58 .quo (.c (.int .u64 4611686018427387904)) (.s 57),.mv 59 (.s 2),.cvi 60 .u64 (.s 59),.bin 61 .quo (.s 58) (.s 60),.bin 62 .gtr (.s 56) (.s 61)],.pick 63 (.s 55) (.s 62) (.c (.bool false))]) (.cond (.s 63) (.seq (.reg [.mv 6 (.c (.int .u64 0)),.mv 7 (.i 3)]) (.ret)) (.skip))) (.reg [.mv 64 (.s 11),.mv 65 (.s 14),.bin 66 .mul (.s 64) (.s 65),.bin 67 .add (.c (.int .u64 1)) (.s 66),.mv 14 (.s 67)]))) (.reg [.bin 68 .add (.s 47) (.i 1),.mv 47 (.s 68)])
 | 4=>.seq (.reg [.bin 48 .lss (.s 47) (.s 46)]) (.seq (.cond (.s 48) (.skip) (.exit 2)) (.n 3))
 | 5=>.seq (.reg [.mv 14 (.c (.int .u64 1))]) (.seq (.seq (.reg [.fa 45 1 (.s 4),.ld 46 (.s 45),.mv 47 (.i 0)]) (.blk 2 (.loop (.n 2)))) (.n 1))
 | 6=>.gh [.ks 0 [2,4,11,32,33,34]] (.m 8)
 | 7=>.seq (.blk 1 (.seq (.reg [.ia 36 2 (.s 32) (.s 34),.la 37 2 (.s 36),.al 13 t_bounds_rule [.sl 1 [],.sl 1 []],.sf 13 2 (.s 37)]) (.reg [.mv 38 (.s 11),.fa 39 1 (.s 13),.ld 40 (.s 39),.len 41 (.s 40),.cvi 42 .u64 (.s 41),.mx 43 (.s 38) (.s 42),.mv 11 (.s 43)]))) (.reg [.bin 44 .add (.s 34) (.i 1),.mv 34 (.s 44)])
 | 8=>.seq (.reg [.bin 35 .lss (.s 34) (.s 33)]) (.seq (.cond (.s 35) (.skip) (.exit 0)) (.n 7))
 | 9=>.seq (.reg [.mv 28 (.s 0),.callp (some 29) n_bounds_rules [.s 28],.mv 27 (.s 29),.ex 30 (.s 27) 0,.ex 31 (.s 27) 1,.mv 9 (.s 30),.mv 10 (.s 31)]) (.seq (.reg [.mv 11 (.c (.int .u64 0))]) (.seq (.seq (.reg [.mv 32 (.s 9),.len 33 (.s 32),.mv 34 (.i 0)]) (.blk 0 (.loop (.n 6)))) (.n 5)))
 | 10=>.seq (.seq (.reg [.mv 21 (.s 2),.bin 22 .lss (.s 21) (.i 0),.mv 23 (.s 22),.gd (.s 23) false [24,25] [.mv 24 (.s 2),.bin 25 .gtr (.s 24) (.i 4000)],.pick 26 (.s 23) (.c (.bool true)) (.s 25)]) (.cond (.s 26) (.seq (.reg [.mv 6 (.c (.int .u64 0)),.mv 7 (.i 2)]) (.ret)) (.skip))) (.n 9)
 | _=>.skip
def body:C:=.seq (.reg [.br 4 t_Automaton (.s 1),.mv 6 (.c (.int .u64 0)),.mv 7 (.i 0)]) (.seq (.seq (.reg [.mv 15 (.s 0),.la 16 3 (.s 4),.callp (some 17) n_bounds_Check [.s 15,.s 16],.mv 8 (.s 17)]) (.seq (.reg [.mv 18 (.s 8),.bin 19 .neq (.s 18) (.i 0)]) (.cond (.s 19) (.seq (.reg [.mv 20 (.s 8),.mv 6 (.c (.int .u64 0)),.mv 7 (.s 20)]) (.ret)) (.skip)))) (.n 10))
def rs:List RV:=[.t 6,.t 7]
attribute [push_cast] nd body
theorem ok:okF prog n_bounds_Length nd body 3 rs = true:=by kernel_rfl
abbrev L4 (v2 v11 v14 v46 v47:V) (B:Nat) (H:List Ob) (Q:X→T→List Ob→Prop):Prop:=Run prog nd B [.c (.m 4),.c (.loop (.n 2)),.mk 2,.c (.n 1)] [(2,v2),(11,v11),(14,v14),(46,v46),(47,v47)] H Q
theorem G4 (h:Run prog nd B (.c (nd 4) :: s) t H Q):Run prog nd B (.c (.m 4) :: s) t H Q:=run_m.2 h
abbrev L8 (v2 v4 v11 v32 v33 v34:V) (B:Nat) (H:List Ob) (Q:X→T→List Ob→Prop):Prop:=Run prog nd B [.c (.m 8),.c (.loop (.n 6)),.mk 0,.c (.n 5)] [(2,v2),(4,v4),(11,v11),(32,v32),(33,v33),(34,v34)] H Q
theorem G8 (h:Run prog nd B (.c (nd 8) :: s) t H Q):Run prog nd B (.c (.m 8) :: s) t H Q:=run_m.2 h
end bounds_Length
namespace l24_swap
def nd (_:Nat):C:=.skip
def body:C:=.seq (.reg [.mv 0 (.c (.sl 6 []))]) (.seq (.reg [.bd 2 [.str [],.bool false,.sl 3 []] [(0,1,(.c (.str [120]))),(1,1,(.c (.bool true)))],.al 1 t_Term [.str [],.bool false,.sl 3 []],.sf 1 3 (.s 2)]) (.seq (.reg [.la 3 3 (.s 1),.bs 4 3 [.s 3],.bd 5 [.str [],.bool false,.sl 3 []] [(0,1,(.c (.str [98]))),(2,1,(.s 4))],.bs 6 3 [.s 5],.bd 7 [.str [],.bool false,.sl 3 []] [(0,1,(.c (.str [97]))),(2,1,(.s 6))],.la 8 3 (.s 1),.bs 9 3 [.s 8],.bd 10 [.str [],.bool false,.sl 3 []] [(0,1,(.c (.str [99]))),(2,1,(.s 9))],.bd 11 [.str [],.bool false,.sl 3 [],.str [],.bool false,.sl 3 []] [(0,3,(.s 7)),(3,3,(.s 10))],.bs 12 6 [.s 11],.mv 0 (.s 12)]) (.ret)))
def rs:List RV:=[.t 0]
attribute [push_cast] nd body
theorem ok:okF prog n_l24_swap nd body 0 rs = true:=by kernel_rfl
end l24_swap
namespace l24_loops
def nd (_:Nat):C:=.skip
def body:C:=.seq (.reg [.al 0 t_Automaton [.int .i64 0,.int .i64 0,.sl 4 []]]) (.seq (.reg [.bd 1 [.int .i64 0,.int .i64 0,.str [],.int .i64 0] [(2,1,(.c (.str [97])))],.bd 2 [.int .i64 0,.int .i64 0,.str [],.int .i64 0] [(2,1,(.c (.str [98])))],.bd 3 [.int .i64 0,.int .i64 0,.str [],.int .i64 0] [(2,1,(.c (.str [99])))],.bd 4 [.int .i64 0,.int .i64 0,.str [],.int .i64 0] [(2,1,(.c (.str [99]))),(3,1,(.i 1))],.bs 5 4 [.s 1,.s 2,.s 3,.s 4],.bd 6 [.int .i64 0,.int .i64 0,.sl 4 []] [(0,1,(.i 1)),(1,1,(.i 1)),(2,1,(.s 5))],.st 3 (.s 0) (.s 6)]) (.ret))
def rs:List RV:=[.a 0 3]
attribute [push_cast] nd body
theorem ok:okF prog n_l24_loops nd body 0 rs = true:=by kernel_rfl
end l24_loops
namespace r24_Check
def nd:Nat→C
 | 0=>.seq (.reg [.mv 4 (.i 0)]) (.ret)
 | 1=>.seq (.seq (.reg [.mv 103 (.s 0),.la 104 3 (.s 3),.callp (some 105) n_r24_Compatible [.s 103,.s 104],.un 106 .not (.s 105)]) (.cond (.s 106) (.seq (.reg [.mv 4 (.i 11)]) (.ret)) (.skip))) (.n 0)
 | 2=>.gh [.ks 0 [0,3,8]] (.m 4)
 | 3=>.seq (.blk 3 (.seq (.dr [0,1,2,3,4,5,6,7,8,9,10,11,12] [.fa 90 2 (.s 3),.ld 91 (.s 90),.mv 92 (.s 8),.bin 93 .sub (.s 92) (.i 1),.ia 94 4 (.s 91) (.s 93),.la 95 4 (.s 94),.fa 96 2 (.s 3),.ld 97 (.s 96),.mv 98 (.s 8),.ia 99 4 (.s 97) (.s 98),.la 100 4 (.s 99),.callp (some 101) n_r24_less [.s 95,.s 100],.un 102 .not (.s 101)]) (.cond (.s 102) (.seq (.reg [.mv 4 (.i 4)]) (.ret)) (.skip)))) (.reg [.mv 88 (.s 8),.bin 89 .add (.s 88) (.i 1),.mv 8 (.s 89)])
 | 4=>.seq (.seq (.reg [.mv 83 (.s 8),.fa 84 2 (.s 3),.ld 85 (.s 84),.len 86 (.s 85),.bin 87 .lss (.s 83) (.s 86)]) (.cond (.s 87) (.skip) (.exit 2))) (.n 3)
 | 5=>.seq (.seq (.reg [.mv 8 (.i 1)]) (.blk 2 (.loop (.n 2)))) (.n 1)
 | 6=>.gh [.ks 0 [0,3,40,41,42]] (.m 10)
 | 7=>.seq (.reg [.fa 78 2 (.s 7),.ld 79 (.s 78),.callp (some 80) n_r01_IsName [.s 79,(.c (.bool true))],.un 81 .not (.s 80)]) (.cond (.s 81) (.seq (.reg [.mv 4 (.i 4)]) (.ret)) (.skip))
 | 8=>.seq (.seq (.reg [.fa 68 3 (.s 7),.ld 69 (.s 68),.bin 70 .lss (.s 69) (.i 0),.mv 71 (.s 70),.gd (.s 71) false [72,73,74,75,76] [.fa 72 3 (.s 7),.ld 73 (.s 72),.fa 74 1 (.s 3),.ld 75 (.s 74),.bin 76 .gtr (.s 73) (.s 75)],.pick 77 (.s 71) (.c (.bool true)) (.s 76)]) (.cond (.s 77) (.seq (.reg [.mv 4 (.i 2)]) (.ret)) (.skip))) (.n 7)
 | 9=>.seq (.blk 1 (.seq (.reg [.ia 44 4 (.s 40) (.s 42),.la 45 4 (.s 44),.al 7 t_Move [.int .i64 0,.int .i64 0,.str [],.int .i64 0],.sf 7 4 (.s 45)]) (.seq (.seq (.reg [.fa 46 0 (.s 7),.ld 47 (.s 46),.bin 48 .lss (.s 47) (.i 0),.mv 49 (.s 48),.gd (.s 49) false [50,51,52,53,54] [.fa 50 0 (.s 7),.ld 51 (.s 50),.fa 52 0 (.s 3),.ld 53 (.s 52),.bin 54 .geq (.s 51) (.s 53)],.pick 55 (.s 49) (.c (.bool true)) (.s 54),.mv 56 (.s 55),.gd (.s 56) false [57,58,59] [.fa 57 1 (.s 7),.ld 58 (.s 57),.bin 59 .lss (.s 58) (.i 0)],.pick 60 (.s 56) (.c (.bool true)) (.s 59),.mv 61 (.s 60),.gd (.s 61) false [62,63,64,65,66] [.fa 62 1 (.s 7),.ld 63 (.s 62),.fa 64 0 (.s 3),.ld 65 (.s 64),.bin 66 .geq (.s 63) (.s 65)],.pick 67 (.s 61) (.c (.bool true)) (.s 66)]) (.cond (.s 67) (.seq (.reg [.mv 4 (.i 8)]) (.ret)) (.skip))) (.n 8)))) (.reg [.bin 82 .add (.s 42) (.i 1),.mv 42 (.s 82)])
 | 10=>.seq (.reg [.bin 43 .lss (.s 42) (.s 41)]) (.seq (.cond (.s 43) (.skip) (.exit 0)) (.n 9))
 | 11=>.seq (.seq (.reg [.fa 39 2 (.s 3),.ld 40 (.s 39),.len 41 (.s 40),.mv 42 (.i 0)]) (.blk 0 (.loop (.n 6)))) (.n 5)
 | 12=>.seq (.seq (.reg [.fa 35 2 (.s 3),.ld 36 (.s 35),.len 37 (.s 36),.bin 38 .gtr (.s 37) (.i 4096)]) (.cond (.s 38) (.seq (.reg [.mv 4 (.i 3)]) (.ret)) (.skip))) (.n 11)
 | 13=>.seq (.seq (.reg [.fa 17 0 (.s 3),.ld 18 (.s 17),.bin 19 .lss (.s 18) (.i 1),.mv 20 (.s 19),.gd (.s 20) false [21,22,23] [.fa 21 0 (.s 3),.ld 22 (.s 21),.bin 23 .gtr (.s 22) (.i 256)],.pick 24 (.s 20) (.c (.bool true)) (.s 23),.mv 25 (.s 24),.gd (.s 25) false [26,27,28] [.fa 26 1 (.s 3),.ld 27 (.s 26),.bin 28 .lss (.s 27) (.i 0)],.pick 29 (.s 25) (.c (.bool true)) (.s 28),.mv 30 (.s 29),.gd (.s 30) false [31,32,33] [.fa 31 1 (.s 3),.ld 32 (.s 31),.bin 33 .gtr (.s 32) (.i 16)],.pick 34 (.s 30) (.c (.bool true)) (.s 33)]) (.cond (.s 34) (.seq (.reg [.mv 4 (.i 2)]) (.ret)) (.skip))) (.n 12)
 | 14=>.seq (.seq (.reg [.mv 14 (.s 0),.callp (some 15) n_r24_Is [.s 14],.un 16 .not (.s 15)]) (.cond (.s 16) (.seq (.reg [.mv 4 (.i 4)]) (.ret)) (.skip))) (.n 13)
 | _=>.skip
def body:C:=.seq (.reg [.br 3 t_Automaton (.s 1),.mv 4 (.i 0)]) (.seq (.seq (.reg [.mv 9 (.s 0),.callp (some 10) n_r01_CheckSystem [.s 9],.mv 5 (.s 10)]) (.seq (.reg [.mv 11 (.s 5),.bin 12 .neq (.s 11) (.i 0)]) (.cond (.s 12) (.seq (.reg [.mv 13 (.s 5),.mv 4 (.s 13)]) (.ret)) (.skip)))) (.n 14))
def rs:List RV:=[.t 4]
attribute [push_cast] nd body
theorem ok:okF prog n_r24_Check nd body 2 rs = true:=by kernel_rfl
abbrev L4 (v0 v3 v8:V) (B:Nat) (H:List Ob) (Q:X→T→List Ob→Prop):Prop:=Run prog nd B [.c (.m 4),.c (.loop (.n 2)),.mk 2,.c (.n 1)] [(0,v0),(3,v3),(8,v8)] H Q
theorem G4 (h:Run prog nd B (.c (nd 4) :: s) t H Q):Run prog nd B (.c (.m 4) :: s) t H Q:=run_m.2 h
abbrev L10 (v0 v3 v40 v41 v42:V) (B:Nat) (H:List Ob) (Q:X→T→List Ob→Prop):Prop:=Run prog nd B [.c (.m 10),.c (.loop (.n 6)),.mk 0,.c (.n 5)] [(0,v0),(3,v3),(40,v40),(41,v41),(42,v42)] H Q
theorem G10 (h:Run prog nd B (.c (nd 10) :: s) t H Q):Run prog nd B (.c (.m 10) :: s) t H Q:=run_m.2 h
end r24_Check
namespace bounds_form
def nd:Nat→C
 | 0=>.seq (.reg [.mv 2 (.i 0)]) (.ret)
 | 1=>.gh [.ks 0 [1,5]] (.m 3)
 | 2=>.seq (.blk 5 (.seq (.dr [0,1,2,3,4,5,6,7,8,9,10,11,12] [.fa 84 2 (.s 1),.ld 85 (.s 84),.mv 86 (.s 5),.bin 87 .sub (.s 86) (.i 1),.ia 88 4 (.s 85) (.s 87),.la 89 4 (.s 88),.fa 90 2 (.s 1),.ld 91 (.s 90),.mv 92 (.s 5),.ia 93 4 (.s 91) (.s 92),.la 94 4 (.s 93),.callp (some 95) n_bounds_compare [.s 89,.s 94],.bin 96 .geq (.s 95) (.i 0)]) (.cond (.s 96) (.seq (.reg [.mv 2 (.i 4)]) (.ret)) (.skip)))) (.reg [.mv 82 (.s 5),.bin 83 .add (.s 82) (.i 1),.mv 5 (.s 83)])
 | 3=>.seq (.seq (.reg [.mv 77 (.s 5),.fa 78 2 (.s 1),.ld 79 (.s 78),.len 80 (.s 79),.bin 81 .lss (.s 77) (.s 80)]) (.cond (.s 81) (.skip) (.exit 4))) (.n 2)
 | 4=>.seq (.seq (.reg [.mv 5 (.i 1)]) (.blk 4 (.loop (.n 1)))) (.n 0)
 | 5=>.gh [.ks 0 [1,31,32,33]] (.m 7)
 | 6=>.seq (.blk 2 (.seq (.reg [.ia 35 4 (.s 31) (.s 33),.la 36 4 (.s 35),.al 4 t_Move [.int .i64 0,.int .i64 0,.str [],.int .i64 0],.sf 4 4 (.s 36)]) (.blk 3 (.seq (.reg [.fa 38 0 (.s 4),.ld 39 (.s 38),.bin 40 .lss (.s 39) (.i 0),.mv 41 (.s 40),.gd (.s 41) false [42,43,44,45,46] [.fa 42 0 (.s 4),.ld 43 (.s 42),.fa 44 0 (.s 1),.ld 45 (.s 44),.bin 46 .geq (.s 43) (.s 45)],.pick 47 (.s 41) (.c (.bool true)) (.s 46),.mv 48 (.s 47),.gd (.s 48) false [49,50,51] [.fa 49 1 (.s 4),.ld 50 (.s 49),.bin 51 .lss (.s 50) (.i 0)],.pick 52 (.s 48) (.c (.bool true)) (.s 51),.mv 53 (.s 52),.gd (.s 53) false [54,55,56,57,58] [.fa 54 1 (.s 4),.ld 55 (.s 54),.fa 56 0 (.s 1),.ld 57 (.s 56),.bin 58 .geq (.s 55) (.s 57)],.pick 59 (.s 53) (.c (.bool true)) (.s 58),.mv 37 (.s 59)]) (.cond (.s 37) (.seq (.reg [.mv 2 (.i 8)]) (.ret)) (.seq (.reg [.fa 61 3 (.s 4),.ld 62 (.s 61),.bin 63 .lss (.s 62) (.i 0),.mv 64 (.s 63),.gd (.s 64) false [65,66,67,68,69] [.fa 65 3 (.s 4),.ld 66 (.s 65),.fa 67 1 (.s 1),.ld 68 (.s 67),.bin 69 .gtr (.s 66) (.s 68)],.pick 70 (.s 64) (.c (.bool true)) (.s 69),.mv 60 (.s 70)]) (.cond (.s 60) (.seq (.reg [.mv 2 (.i 2)]) (.ret)) (.seq (.reg [.fa 72 2 (.s 4),.ld 73 (.s 72),.callp (some 74) n_term_IsName [.s 73,(.c (.bool true))],.un 75 .not (.s 74),.mv 71 (.s 75)]) (.cond (.s 71) (.seq (.reg [.mv 2 (.i 4)]) (.ret)) (.skip)))))))))) (.reg [.bin 76 .add (.s 33) (.i 1),.mv 33 (.s 76)])
 | 7=>.seq (.reg [.bin 34 .lss (.s 33) (.s 32)]) (.seq (.cond (.s 34) (.skip) (.exit 1)) (.n 6))
 | 8=>.seq (.seq (.reg [.fa 30 2 (.s 1),.ld 31 (.s 30),.len 32 (.s 31),.mv 33 (.i 0)]) (.blk 1 (.loop (.n 5)))) (.n 4)
 | _=>.skip
def body:C:=.seq (.reg [.br 1 t_Automaton (.s 0),.mv 2 (.i 0)]) (.seq (.blk 0 (.seq (.reg [.fa 7 0 (.s 1),.ld 8 (.s 7),.bin 9 .lss (.s 8) (.i 1),.mv 10 (.s 9),.gd (.s 10) false [11,12,13] [.fa 11 0 (.s 1),.ld 12 (.s 11),.bin 13 .gtr (.s 12) (.i 256)],.pick 14 (.s 10) (.c (.bool true)) (.s 13),.mv 15 (.s 14),.gd (.s 15) false [16,17,18] [.fa 16 1 (.s 1),.ld 17 (.s 16),.bin 18 .lss (.s 17) (.i 0)],.pick 19 (.s 15) (.c (.bool true)) (.s 18),.mv 20 (.s 19),.gd (.s 20) false [21,22,23] [.fa 21 1 (.s 1),.ld 22 (.s 21),.bin 23 .gtr (.s 22) (.i 16)],.pick 24 (.s 20) (.c (.bool true)) (.s 23),.mv 6 (.s 24)]) (.cond (.s 6) (.seq (.reg [.mv 2 (.i 2)]) (.ret)) (.seq (.reg [.fa 26 2 (.s 1),.ld 27 (.s 26),.len 28 (.s 27),.bin 29 .gtr (.s 28) (.i 4096),.mv 25 (.s 29)]) (.cond (.s 25) (.seq (.reg [.mv 2 (.i 3)]) (.ret)) (.skip)))))) (.n 8))
def rs:List RV:=[.t 2]
attribute [push_cast] nd body
theorem ok:okF prog n_bounds_form nd body 1 rs = true:=by kernel_rfl
abbrev L3 (v1 v5:V) (B:Nat) (H:List Ob) (Q:X→T→List Ob→Prop):Prop:=Run prog nd B [.c (.m 3),.c (.loop (.n 1)),.mk 4,.c (.n 0)] [(1,v1),(5,v5)] H Q
theorem G3 (h:Run prog nd B (.c (nd 3) :: s) t H Q):Run prog nd B (.c (.m 3) :: s) t H Q:=run_m.2 h
abbrev L7 (v1 v31 v32 v33:V) (B:Nat) (H:List Ob) (Q:X→T→List Ob→Prop):Prop:=Run prog nd B [.c (.m 7),.c (.loop (.n 5)),.mk 1,.c (.n 4)] [(1,v1),(31,v31),(32,v32),(33,v33)] H Q
theorem G7 (h:Run prog nd B (.c (nd 7) :: s) t H Q):Run prog nd B (.c (.m 7) :: s) t H Q:=run_m.2 h
end bounds_form
namespace bounds_loops
def nd (_:Nat):C:=.skip
def body:C:=.seq (.reg [.br 3 t_Automaton (.s 1),.mv 4 (.c (.bool false))]) (.seq (.reg [.la 6 3 (.s 3),.call (some 7) n_bounds_from [.s 6],.al 5 t_bounds_graph [.nilm],.st 1 (.s 5) (.s 7)]) (.seq (.reg [.mv 8 (.s 0),.callp (some 9) n_bounds_names [.s 8],.mf 10 n_bounds_loops_1 [] [.s 5],.call (some 11) n_slices_ContainsFunc_s_string_string [.s 9,.s 10],.un 12 .not (.s 11),.mv 4 (.s 12)]) (.ret)))
def rs:List RV:=[.t 4]
attribute [push_cast] nd body
theorem ok:okF prog n_bounds_loops nd body 2 rs = true:=by kernel_rfl
end bounds_loops
namespace bounds_lacks
def nd:Nat→C
 | 0=>.seq (.reg [.bd 58 [.int .i64 0,.int .i64 0,.int .i64 0,.sl 1 []] [],.st 4 (.s 4) (.s 58),.mv 5 (.c (.bool false))]) (.ret)
 | 1=>.gh [.ks 2 [3,4,6,14,15,16]] (.m 9)
 | 2=>.gh [.ks 3 [3,4,6,8,14,15,16,21,22]] (.m 7)
 | 3=>.gh [.ks 3 [3,4,6,8,9,14,15,16,21,22,29,30,31]] (.m 5)
 | 4=>.seq (.blk 5 (.seq (.reg [.ia 33 2 (.s 29) (.s 31),.la 34 2 (.s 33),.al 11 t_bounds_spot [.int .i64 0,.int .i64 0],.sf 11 2 (.s 34)]) (.seq (.reg [.mv 35 (.s 6),.mv 36 (.s 9),.fa 37 0 (.s 11),.ld 38 (.s 37),.fa 39 1 (.s 8),.ld 40 (.s 39),.fa 41 1 (.s 11),.ld 42 (.s 41),.bin 43 .add (.s 42) (.i 1),.call (some 44) n_bounds_graph_linked [.s 35,.s 36,.s 38,.s 40,.s 43],.un 45 .not (.s 44)]) (.cond (.s 45) (.seq (.reg [.mv 46 (.s 9),.fa 47 0 (.s 11),.ld 48 (.s 47),.fa 49 1 (.s 11),.ld 50 (.s 49),.bin 51 .add (.s 50) (.i 1),.fa 52 1 (.s 8),.ld 53 (.s 52),.bd 54 [.int .i64 0,.int .i64 0,.int .i64 0,.sl 1 []] [(0,1,(.s 46)),(1,1,(.s 48)),(2,1,(.s 51)),(3,1,(.s 53))],.st 4 (.s 4) (.s 54),.mv 5 (.c (.bool true))]) (.ret)) (.skip))))) (.reg [.bin 55 .add (.s 31) (.i 1),.mv 31 (.s 55)])
 | 5=>.seq (.reg [.bin 32 .lss (.s 31) (.s 30)]) (.seq (.cond (.s 32) (.skip) (.exit 4)) (.n 4))
 | 6=>.seq (.blk 3 (.seq (.reg [.mv 24 (.s 22),.mv 9 (.s 24)]) (.seq (.reg [.mv 25 (.s 6),.mv 26 (.s 9),.fa 27 0 (.s 8),.ld 28 (.s 27),.call (some 29) n_bounds_graph_reads [.s 25,.s 26,.s 28,(.f n_bounds_lacks_1)],.len 30 (.s 29),.mv 31 (.i 0)]) (.blk 4 (.loop (.n 3)))))) (.reg [.bin 56 .add (.s 22) (.i 1),.mv 22 (.s 56)])
 | 7=>.seq (.reg [.bin 23 .lss (.s 22) (.s 21)]) (.seq (.cond (.s 23) (.skip) (.exit 2)) (.n 6))
 | 8=>.seq (.blk 1 (.seq (.reg [.ia 18 2 (.s 14) (.s 16),.la 19 2 (.s 18),.al 8 t_bounds_rule [.sl 1 [],.sl 1 []],.sf 8 2 (.s 19)]) (.seq (.reg [.fa 20 0 (.s 3),.ld 21 (.s 20),.mv 22 (.i 0)]) (.blk 2 (.loop (.n 2)))))) (.reg [.bin 57 .add (.s 16) (.i 1),.mv 16 (.s 57)])
 | 9=>.seq (.reg [.bin 17 .lss (.s 16) (.s 15)]) (.seq (.cond (.s 17) (.skip) (.exit 0)) (.n 8))
 | _=>.skip
def body:C:=.seq (.reg [.br 3 t_Automaton (.s 1),.al 4 t_bounds_missing [.int .i64 0,.int .i64 0,.int .i64 0,.sl 1 []],.mv 5 (.c (.bool false))]) (.seq (.reg [.la 12 3 (.s 3),.call (some 13) n_bounds_from [.s 12],.mv 6 (.s 13)]) (.seq (.seq (.reg [.mv 14 (.s 0),.len 15 (.s 14),.mv 16 (.i 0)]) (.blk 0 (.loop (.n 1)))) (.n 0)))
def rs:List RV:=[.a 4 4,.t 5]
attribute [push_cast] nd body
theorem ok:okF prog n_bounds_lacks nd body 2 rs = true:=by kernel_rfl
abbrev L5 (v3 v4 v6 v8 v9 v14 v15 v16 v21 v22 v29 v30 v31:V) (B:Nat) (H:List Ob) (Q:X→T→List Ob→Prop):Prop:=Run prog nd B [.c (.m 5),.c (.loop (.n 3)),.mk 4,.mk 3,.c (.reg [.bin 56 .add (.s 22) (.i 1),.mv 22 (.s 56)]),.c (.loop (.n 2)),.mk 2,.mk 1,.c (.reg [.bin 57 .add (.s 16) (.i 1),.mv 16 (.s 57)]),.c (.loop (.n 1)),.mk 0,.c (.n 0)] [(3,v3),(4,v4),(6,v6),(8,v8),(9,v9),(14,v14),(15,v15),(16,v16),(21,v21),(22,v22),(29,v29),(30,v30),(31,v31)] H Q
theorem G5 (h:Run prog nd B (.c (nd 5) :: s) t H Q):Run prog nd B (.c (.m 5) :: s) t H Q:=run_m.2 h
abbrev L7 (v3 v4 v6 v8 v14 v15 v16 v21 v22:V) (B:Nat) (H:List Ob) (Q:X→T→List Ob→Prop):Prop:=Run prog nd B [.c (.m 7),.c (.loop (.n 2)),.mk 2,.mk 1,.c (.reg [.bin 57 .add (.s 16) (.i 1),.mv 16 (.s 57)]),.c (.loop (.n 1)),.mk 0,.c (.n 0)] [(3,v3),(4,v4),(6,v6),(8,v8),(14,v14),(15,v15),(16,v16),(21,v21),(22,v22)] H Q
theorem G7 (h:Run prog nd B (.c (nd 7) :: s) t H Q):Run prog nd B (.c (.m 7) :: s) t H Q:=run_m.2 h
abbrev L9 (v3 v4 v6 v14 v15 v16:V) (B:Nat) (H:List Ob) (Q:X→T→List Ob→Prop):Prop:=Run prog nd B [.c (.m 9),.c (.loop (.n 1)),.mk 0,.c (.n 0)] [(3,v3),(4,v4),(6,v6),(14,v14),(15,v15),(16,v16)] H Q
theorem G9 (h:Run prog nd B (.c (nd 9) :: s) t H Q):Run prog nd B (.c (.m 9) :: s) t H Q:=run_m.2 h
end bounds_lacks
namespace bounds_names
def nd:Nat→C
 | 0=>.seq (.reg [.mv 21 (.s 3),.call (some 22) n_slices_Sort_s_string_string [.s 21]]) (.seq (.reg [.mv 23 (.s 3),.call (some 24) n_slices_Compact_s_string_string [.s 23],.mv 2 (.s 24)]) (.ret))
 | 1=>.gh [.ks 1 [3,6,7,8]] (.m 3)
 | 2=>.seq (.blk 1 (.seq (.reg [.ia 10 2 (.s 6) (.s 8),.la 11 2 (.s 10),.al 5 t_bounds_rule [.sl 1 [],.sl 1 []],.sf 5 2 (.s 11)]) (.seq (.reg [.mv 12 (.s 3),.fa 13 0 (.s 5),.ld 14 (.s 13),.apr 15 t_string 1 16 (.s 12) (.s 14),.mv 3 (.s 15)]) (.reg [.mv 16 (.s 3),.fa 17 1 (.s 5),.ld 18 (.s 17),.apr 19 t_string 1 16 (.s 16) (.s 18),.mv 3 (.s 19)])))) (.reg [.bin 20 .add (.s 8) (.i 1),.mv 8 (.s 20)])
 | 3=>.seq (.reg [.bin 9 .lss (.s 8) (.s 7)]) (.seq (.cond (.s 9) (.skip) (.exit 0)) (.n 2))
 | _=>.skip
def body:C:=.seq (.reg [.mv 2 (.c (.sl 1 []))]) (.seq (.reg [.mv 3 (.c .nil),.rnon 3 t_string 1]) (.seq (.seq (.reg [.mv 6 (.s 0),.len 7 (.s 6),.mv 8 (.i 0)]) (.blk 0 (.loop (.n 1)))) (.n 0)))
def rs:List RV:=[.t 2]
attribute [push_cast] nd body
theorem ok:okF prog n_bounds_names nd body 1 rs = true:=by kernel_rfl
abbrev L3 (v3 v6 v7 v8:V) (B:Nat) (H:List Ob) (Q:X→T→List Ob→Prop):Prop:=Run prog nd B [.c (.m 3),.c (.loop (.n 1)),.mk 0,.c (.n 0)] [(3,v3),(6,v6),(7,v7),(8,v8)] H Q
theorem G3 (h:Run prog nd B (.c (nd 3) :: s) t H Q):Run prog nd B (.c (.m 3) :: s) t H Q:=run_m.2 h
end bounds_names
namespace bounds_insert
def nd:Nat→C
 | 0=>.seq (.dr [0,1] [.la 25 3 (.s 2),.fa 26 2 (.s 2),.alt [([2,3,4,5,6],[.ld 27 (.s 26),.len 28 (.s 27),.bin 29 .leq (.s 28) (.i 4096),.st 3 (.s 4) (.s 25),.mv 5 (.s 29)]),([5,2,3,4,6],[.st 3 (.s 4) (.s 25),.ld 27 (.s 26),.len 28 (.s 27),.bin 29 .leq (.s 28) (.i 4096),.mv 5 (.s 29)])]]) (.ret)
 | _=>.skip
def body:C:=.seq (.reg [.bx 2 t_Automaton (.s 0),.br 3 t_Move (.s 1),.al 4 t_Automaton [.int .i64 0,.int .i64 0,.sl 4 []],.mv 5 (.c (.bool false))]) (.seq (.reg [.fa 9 2 (.s 2),.ld 10 (.s 9),.la 11 4 (.s 3),.callp (some 12) n_slices_BinarySearchFunc_s_Move_Move_Move [.s 10,.s 11,(.f n_bounds_compare)],.mv 8 (.s 12),.ex 13 (.s 8) 0,.ex 14 (.s 8) 1,.mv 6 (.s 13),.mv 7 (.s 14)]) (.seq (.seq (.reg [.mv 15 (.s 7),.un 16 .not (.s 15)]) (.cond (.s 16) (.dr [0,1,3,4] [.fa 17 2 (.s 2),.ld 18 (.s 17),.mv 20 (.s 6),.lar 21 4 (.s 3),.alt [([2,5,6,7,8],[.call (some 19) n_slices_Clone_s_Move_Move [.s 18],.bo 22 t_Move 4 [.s 21],.call (some 23) n_slices_Insert_s_Move_Move [.s 19,.s 20,.s 22],.fa 24 2 (.s 2),.st 1 (.s 24) (.s 23)]),([5,2,6,7,8],[.bo 22 t_Move 4 [.s 21],.call (some 19) n_slices_Clone_s_Move_Move [.s 18],.call (some 23) n_slices_Insert_s_Move_Move [.s 19,.s 20,.s 22],.fa 24 2 (.s 2),.st 1 (.s 24) (.s 23)])]]) (.skip))) (.gh [.frc 2 (.s 2)] (.n 0))))
def rs:List RV:=[.a 4 3,.t 5]
attribute [push_cast] nd body
theorem ok:okF prog n_bounds_insert nd body 2 rs = true:=by kernel_rfl
end bounds_insert
namespace bounds_add
def nd:Nat→C
 | 0=>.seq (.dr [0,1,2,3,5] [.la 76 3 (.s 3),.mv 77 (.s 10),.mv 78 (.s 77),.gd (.s 78) true [79] [.fa 79 0 (.s 3)],.gd (.s 78) true [81] [.mv 81 (.s 2)],.alt [([4,6,7,8,9],[.gd (.s 78) true [80] [.ld 80 (.s 79)],.gd (.s 78) true [82] [.bin 82 .leq (.s 80) (.s 81)],.pick 83 (.s 78) (.s 82) (.c (.bool false)),.st 3 (.s 6) (.s 76),.mv 7 (.s 83)]),([8,4,6,7,9],[.st 3 (.s 6) (.s 76),.gd (.s 78) true [80] [.ld 80 (.s 79)],.gd (.s 78) true [82] [.bin 82 .leq (.s 80) (.s 81)],.pick 83 (.s 78) (.s 82) (.c (.bool false)),.mv 7 (.s 83)])]]) (.ret)
 | 1=>.gh [.ks 3 [2,3,4,6,8,9,10]] (.m 4)
 | 2=>.seq (.dr [0,1,2,3,4,5,6,7,8,9,10,11,12,13,14,15,16] [.la 61 3 (.s 3),.mv 62 (.s 8),.mv 63 (.s 11),.fa 64 3 (.s 4),.ld 65 (.s 64),.mv 66 (.s 9),.ia 67 1 (.s 65) (.s 66),.ld 68 (.s 67),.fa 69 2 (.s 4),.ld 70 (.s 69),.bd 71 [.int .i64 0,.int .i64 0,.str [],.int .i64 0] [(0,1,(.s 62)),(1,1,(.s 63)),(2,1,(.s 68)),(3,1,(.s 70))],.callp (some 72) n_bounds_insert [.s 61,.s 71],.mv 60 (.s 72),.ex 73 (.s 60) 0,.ex 74 (.s 60) 1,.st 3 (.s 3) (.s 73),.mv 10 (.s 74)]) (.reg [.mv 75 (.s 11),.mv 8 (.s 75)])
 | 3=>.seq (.blk 1 (.seq (.reg [.fa 46 1 (.s 4),.ld 47 (.s 46),.mv 11 (.s 47)]) (.seq (.seq (.reg [.mv 48 (.s 9),.fa 49 3 (.s 4),.ld 50 (.s 49),.len 51 (.s 50),.bin 52 .sub (.s 51) (.i 1),.bin 53 .lss (.s 48) (.s 52)]) (.cond (.s 53) (.seq (.reg [.fa 54 0 (.s 3),.ld 55 (.s 54),.mv 11 (.s 55)]) (.reg [.fa 56 0 (.s 3),.ld 57 (.s 56),.bin 58 .add (.s 57) (.i 1),.fa 59 0 (.s 3),.st 1 (.s 59) (.s 58)])) (.skip))) (.n 2)))) (.reg [.mv 44 (.s 9),.bin 45 .add (.s 44) (.i 1),.mv 9 (.s 45)])
 | 4=>.seq (.seq (.reg [.mv 36 (.s 9),.fa 37 3 (.s 4),.ld 38 (.s 37),.len 39 (.s 38),.bin 40 .lss (.s 36) (.s 39),.mv 41 (.s 40),.gd (.s 41) true [42] [.mv 42 (.s 10)],.pick 43 (.s 41) (.s 42) (.c (.bool false))]) (.cond (.s 43) (.skip) (.exit 0))) (.n 3)
 | 5=>.seq (.dr [0,2,3,4,5,6,7,1,8,9,10,11,12,13] [.la 25 3 (.s 3),.far 27 0 (.s 4),.ldr 28 (.s 27),.far 29 3 (.s 4),.ldr 30 (.s 29),.far 31 2 (.s 4),.ldr 32 (.s 31),.call (some 26) n_bounds_from [.s 25],.call (some 33) n_bounds_longest [.s 26,.s 28,.s 30,.s 32],.mv 24 (.s 33),.ex 34 (.s 24) 0,.ex 35 (.s 24) 1,.mv 8 (.s 34),.mv 9 (.s 35)]) (.seq (.reg [.mv 10 (.c (.bool true))]) (.seq (.blk 0 (.loop (.n 1))) (.n 0)))
 | _=>.skip
def body:C:=.seq (.reg [.bx 3 t_Automaton (.s 0),.br 4 t_bounds_missing (.s 1),.al 6 t_Automaton [.int .i64 0,.int .i64 0,.sl 4 []],.mv 7 (.c (.bool false))]) (.seq (.seq (.reg [.fa 12 2 (.s 4),.ld 13 (.s 12),.fa 14 1 (.s 3),.ld 15 (.s 14),.bin 16 .gtr (.s 13) (.s 15),.mv 17 (.s 16),.gd (.s 17) false [18,19,20,21] [.fa 18 3 (.s 4),.ld 19 (.s 18),.len 20 (.s 19),.bin 21 .eql (.s 20) (.i 0)],.pick 22 (.s 17) (.c (.bool true)) (.s 21)]) (.cond (.s 22) (.seq (.reg [.la 23 3 (.s 3),.st 3 (.s 6) (.s 23),.mv 7 (.c (.bool false))]) (.ret)) (.skip))) (.n 5))
def rs:List RV:=[.a 6 3,.t 7]
attribute [push_cast] nd body
theorem ok:okF prog n_bounds_add nd body 3 rs = true:=by kernel_rfl
abbrev L4 (v2 v3 v4 v6 v8 v9 v10:V) (B:Nat) (H:List Ob) (Q:X→T→List Ob→Prop):Prop:=Run prog nd B [.c (.m 4),.c (.loop (.n 1)),.mk 0,.c (.n 0)] [(2,v2),(3,v3),(4,v4),(6,v6),(8,v8),(9,v9),(10,v10)] H Q
theorem G4 (h:Run prog nd B (.c (nd 4) :: s) t H Q):Run prog nd B (.c (.m 4) :: s) t H Q:=run_m.2 h
end bounds_add
namespace r05_Check
def nd:Nat→C
 | 0=>.seq (.reg [.mv 4 (.i 0)]) (.ret)
 | 1=>.gh [.ks 0 [0,15,16,17]] (.m 3)
 | 2=>.seq (.blk 1 (.seq (.reg [.ia 19 4 (.s 15) (.s 17),.la 20 4 (.s 19),.al 7 t_Chain [.str [],.bool false,.sl 3 [],.sl 2 []],.sf 7 4 (.s 20)]) (.seq (.reg [.mv 22 (.s 0),.la 23 4 (.s 7),.callp (some 24) n_r05_Terms [.s 22,.s 23],.mv 21 (.s 24),.ex 25 (.s 21) 0,.ex 26 (.s 21) 1,.mv 8 (.s 25),.mv 9 (.s 26)]) (.seq (.reg [.mv 27 (.s 9),.bin 28 .neq (.s 27) (.i 0)]) (.cond (.s 28) (.seq (.reg [.mv 29 (.s 9),.mv 4 (.s 29)]) (.ret)) (.skip)))))) (.reg [.bin 30 .add (.s 17) (.i 1),.mv 17 (.s 30)])
 | 3=>.seq (.reg [.bin 18 .lss (.s 17) (.s 16)]) (.seq (.cond (.s 18) (.skip) (.exit 0)) (.n 2))
 | 4=>.seq (.seq (.reg [.mv 15 (.s 1),.len 16 (.s 15),.mv 17 (.i 0)]) (.blk 0 (.loop (.n 1)))) (.n 0)
 | _=>.skip
def body:C:=.seq (.reg [.mv 4 (.i 0)]) (.seq (.seq (.reg [.mv 10 (.s 0),.callp (some 11) n_r01_CheckSystem [.s 10],.mv 5 (.s 11)]) (.seq (.reg [.mv 12 (.s 5),.bin 13 .neq (.s 12) (.i 0)]) (.cond (.s 13) (.seq (.reg [.mv 14 (.s 5),.mv 4 (.s 14)]) (.ret)) (.skip)))) (.n 4))
def rs:List RV:=[.t 4]
attribute [push_cast] nd body
theorem ok:okF prog n_r05_Check nd body 2 rs = true:=by kernel_rfl
abbrev L3 (v0 v15 v16 v17:V) (B:Nat) (H:List Ob) (Q:X→T→List Ob→Prop):Prop:=Run prog nd B [.c (.m 3),.c (.loop (.n 1)),.mk 0,.c (.n 0)] [(0,v0),(15,v15),(16,v16),(17,v17)] H Q
theorem G3 (h:Run prog nd B (.c (nd 3) :: s) t H Q):Run prog nd B (.c (.m 3) :: s) t H Q:=run_m.2 h
end r05_Check
namespace rewrite_Do
def nd:Nat→C
 | 0=>.seq (.reg [.la 37 3 (.s 4),.fa 38 1 (.s 5),.ld 39 (.s 38),.la 40 3 (.s 10),.callp (some 41) n_term_Set [.s 37,.s 39,.s 40],.callp (some 42) n_term_Fit [.s 41],.ex 43 (.s 42) 0,.ex 44 (.s 42) 1,.st 3 (.s 6) (.s 43),.mv 7 (.s 44)]) (.ret)
 | 1=>.seq (.reg [.mv 23 (.s 8),.mv 24 (.s 0),.fa 25 0 (.s 5),.ld 26 (.s 25),.ia 27 6 (.s 24) (.s 26),.fa 28 3 (.s 27),.la 29 3 (.s 28),.callp (some 30) n_term_Instance [.s 23,.s 29],.mv 22 (.s 30),.ex 31 (.s 22) 0,.ex 32 (.s 22) 1,.al 10 t_Term [.str [],.bool false,.sl 3 []],.sf 10 3 (.s 31),.mv 9 (.s 32)]) (.seq (.seq (.reg [.mv 33 (.s 9),.bin 34 .neq (.s 33) (.i 0)]) (.cond (.s 34) (.seq (.reg [.bd 35 [.str [],.bool false,.sl 3 []] [],.mv 36 (.s 9),.st 3 (.s 6) (.s 35),.mv 7 (.s 36)]) (.ret)) (.skip))) (.n 0))
 | _=>.skip
def body:C:=.seq (.reg [.br 4 t_Term (.s 1),.br 5 t_Step (.s 2),.al 6 t_Term [.str [],.bool false,.sl 3 []],.mv 7 (.i 0)]) (.seq (.reg [.mv 12 (.s 0),.la 13 3 (.s 4),.la 14 2 (.s 5),.callp (some 15) n_rewrite_find [.s 12,.s 13,.s 14],.mv 11 (.s 15),.ex 16 (.s 11) 0,.ex 17 (.s 11) 1,.mv 8 (.s 16),.mv 9 (.s 17)]) (.seq (.seq (.reg [.mv 18 (.s 9),.bin 19 .neq (.s 18) (.i 0)]) (.cond (.s 19) (.seq (.reg [.bd 20 [.str [],.bool false,.sl 3 []] [],.mv 21 (.s 9),.st 3 (.s 6) (.s 20),.mv 7 (.s 21)]) (.ret)) (.skip))) (.n 1)))
def rs:List RV:=[.a 6 3,.t 7]
attribute [push_cast] nd body
theorem ok:okF prog n_rewrite_Do nd body 3 rs = true:=by kernel_rfl
end rewrite_Do
namespace term_CheckRules
def nd:Nat→C
 | 0=>.seq (.reg [.mv 2 (.i 0)]) (.ret)
 | 1=>.gh [.ks 0 [9,10,11]] (.m 3)
 | 2=>.seq (.blk 1 (.seq (.reg [.ia 13 6 (.s 9) (.s 11),.la 14 6 (.s 13),.al 4 t_Rule [.str [],.bool false,.sl 3 [],.str [],.bool false,.sl 3 []],.sf 4 6 (.s 14)]) (.seq (.reg [.fa 15 0 (.s 4),.la 16 3 (.s 15),.fa 17 3 (.s 4),.la 18 3 (.s 17),.bs 19 3 [.s 16,.s 18],.callp (some 20) n_term_All [.s 19],.mv 5 (.s 20)]) (.seq (.reg [.mv 21 (.s 5),.bin 22 .neq (.s 21) (.i 0)]) (.cond (.s 22) (.seq (.reg [.mv 23 (.s 5),.mv 2 (.s 23)]) (.ret)) (.skip)))))) (.reg [.bin 24 .add (.s 11) (.i 1),.mv 11 (.s 24)])
 | 3=>.seq (.reg [.bin 12 .lss (.s 11) (.s 10)]) (.seq (.cond (.s 12) (.skip) (.exit 0)) (.n 2))
 | 4=>.seq (.seq (.reg [.mv 9 (.s 0),.len 10 (.s 9),.mv 11 (.i 0)]) (.blk 0 (.loop (.n 1)))) (.n 0)
 | _=>.skip
def body:C:=.seq (.reg [.mv 2 (.i 0)]) (.seq (.seq (.reg [.mv 6 (.s 0),.len 7 (.s 6),.bin 8 .gtr (.s 7) (.i 64)]) (.cond (.s 8) (.seq (.reg [.mv 2 (.i 3)]) (.ret)) (.skip))) (.n 4))
def rs:List RV:=[.t 2]
attribute [push_cast] nd body
theorem ok:okF prog n_term_CheckRules nd body 1 rs = true:=by kernel_rfl
abbrev L3 (v9 v10 v11:V) (B:Nat) (H:List Ob) (Q:X→T→List Ob→Prop):Prop:=Run prog nd B [.c (.m 3),.c (.loop (.n 1)),.mk 0,.c (.n 0)] [(9,v9),(10,v10),(11,v11)] H Q
theorem G3 (h:Run prog nd B (.c (nd 3) :: s) t H Q):Run prog nd B (.c (.m 3) :: s) t H Q:=run_m.2 h
end term_CheckRules
namespace term_Arities
def nd:Nat→C
 | 0=>.seq (.reg [.ld 57 (.s 4),.st 1 (.s 2) (.s 57),.st 1 (.s 3) (.c (.bool true))]) (.ret)
 | 1=>.gh [.ks 4 [2,3,4,10,14,15,16]] (.m 8)
 | 2=>.gh [.ks 5 [2,3,4,10,14,15,16,24,25]] (.m 6)
 | 3=>.seq (.seq (.reg [.ld 35 (.s 4),.fa 36 0 (.s 10),.ld 37 (.s 36),.lkp 38 true true (.int .i64 0) (.s 35) (.s 37),.mv 34 (.s 38),.ex 39 (.s 34) 0,.ex 40 (.s 34) 1,.mv 11 (.s 39),.mv 12 (.s 40)]) (.seq (.reg [.mv 41 (.s 12),.mv 42 (.s 41),.gd (.s 42) true [43,44,45,46,47] [.mv 43 (.s 11),.fa 44 2 (.s 10),.ld 45 (.s 44),.len 46 (.s 45),.bin 47 .neq (.s 43) (.s 46)],.pick 48 (.s 42) (.s 47) (.c (.bool false))]) (.cond (.s 48) (.seq (.reg [.st 1 (.s 2) (.c .nilm),.st 1 (.s 3) (.c (.bool false))]) (.ret)) (.skip)))) (.reg [.ld 49 (.s 4),.fa 50 0 (.s 10),.ld 51 (.s 50),.fa 52 2 (.s 10),.ld 53 (.s 52),.len 54 (.s 53),.mup true (.s 49) (.s 51) (.s 54)])
 | 4=>.blk 5 (.seq (.seq (.reg [.fa 32 1 (.s 10),.ld 33 (.s 32)]) (.cond (.s 33) (.exit 5) (.skip))) (.n 3))
 | 5=>.seq (.blk 3 (.seq (.reg [.ixa 27 3 2 (some 3) (.s 24) (.s 25),.al 8 t_Term [.str [],.bool false,.sl 3 []],.sf 8 3 (.s 27)]) (.seq (.reg [.la 28 3 (.s 8),.callp (some 29) n_term_Walk [.s 28]]) (.blk 4 (.rf (.s 29) [30,31] (.reg [.al 10 t_Term [.str [],.bool false,.sl 3 []],.sf 10 3 (.s 31)]) (.m 4)))))) (.reg [.bin 55 .add (.s 25) (.i 1),.mv 25 (.s 55)])
 | 6=>.seq (.reg [.bin 26 .lss (.s 25) (.i 2)]) (.seq (.cond (.s 26) (.skip) (.exit 2)) (.n 5))
 | 7=>.seq (.blk 1 (.seq (.reg [.ia 18 6 (.s 14) (.s 16),.la 19 6 (.s 18),.al 6 t_Rule [.str [],.bool false,.sl 3 [],.str [],.bool false,.sl 3 []],.sf 6 6 (.s 19)]) (.seq (.reg [.fa 20 0 (.s 6),.la 21 3 (.s 20),.fa 22 3 (.s 6),.la 23 3 (.s 22),.bd 24 [.str [],.bool false,.sl 3 [],.str [],.bool false,.sl 3 []] [(0,3,(.s 21)),(3,3,(.s 23))],.mv 25 (.i 0)]) (.blk 2 (.loop (.n 2)))))) (.reg [.bin 56 .add (.s 16) (.i 1),.mv 16 (.s 56)])
 | 8=>.seq (.reg [.bin 17 .lss (.s 16) (.s 15)]) (.seq (.cond (.s 17) (.skip) (.exit 0)) (.n 7))
 | _=>.skip
def body:C:=.seq (.reg [.al 2 t_m_string_int [.nilm],.al 3 t_bool [.bool false]]) (.seq (.reg [.mkm 13,.al 4 t_m_string_int [.nilm],.st 1 (.s 4) (.s 13)]) (.seq (.seq (.reg [.mv 14 (.s 0),.len 15 (.s 14),.mv 16 (.i 0)]) (.blk 0 (.loop (.n 1)))) (.n 0)))
def rs:List RV:=[.c 2,.c 3]
attribute [push_cast] nd body
theorem ok:okF prog n_term_Arities nd body 1 rs = true:=by kernel_rfl
abbrev L6 (v2 v3 v4 v10 v14 v15 v16 v24 v25:V) (B:Nat) (H:List Ob) (Q:X→T→List Ob→Prop):Prop:=Run prog nd B [.c (.m 6),.c (.loop (.n 2)),.mk 2,.mk 1,.c (.reg [.bin 56 .add (.s 16) (.i 1),.mv 16 (.s 56)]),.c (.loop (.n 1)),.mk 0,.c (.n 0)] [(2,v2),(3,v3),(4,v4),(10,v10),(14,v14),(15,v15),(16,v16),(24,v24),(25,v25)] H Q
theorem G6 (h:Run prog nd B (.c (nd 6) :: s) t H Q):Run prog nd B (.c (.m 6) :: s) t H Q:=run_m.2 h
abbrev L8 (v2 v3 v4 v10 v14 v15 v16:V) (B:Nat) (H:List Ob) (Q:X→T→List Ob→Prop):Prop:=Run prog nd B [.c (.m 8),.c (.loop (.n 1)),.mk 0,.c (.n 0)] [(2,v2),(3,v3),(4,v4),(10,v10),(14,v14),(15,v15),(16,v16)] H Q
theorem G8 (h:Run prog nd B (.c (nd 8) :: s) t H Q):Run prog nd B (.c (.m 8) :: s) t H Q:=run_m.2 h
end term_Arities
namespace term_Marked
def nd (_:Nat):C:=.skip
def body:C:=.seq (.reg [.mv 2 (.c (.bool false))]) (.seq (.reg [.mv 3 (.s 0),.callp (some 4) n_strings_HasSuffix [.s 3,(.c (.str [35]))],.mv 2 (.s 4)]) (.ret))
def rs:List RV:=[.t 2]
attribute [push_cast] nd body
theorem ok:okF prog n_term_Marked nd body 1 rs = true:=by kernel_rfl
end term_Marked
namespace slices_ContainsFunc_s_Rule_Rule
def nd (_:Nat):C:=.skip
def body:C:=.seq (.reg [.mv 4 (.c (.bool false))]) (.seq (.reg [.mv 5 (.s 0),.mv 6 (.s 1),.callp (some 7) n_slices_IndexFunc_s_Rule_Rule [.s 5,.s 6],.bin 8 .geq (.s 7) (.i 0),.mv 4 (.s 8)]) (.ret))
def rs:List RV:=[.t 4]
attribute [push_cast] nd body
theorem ok:okF prog n_slices_ContainsFunc_s_Rule_Rule nd body 2 rs = true:=by kernel_rfl
end slices_ContainsFunc_s_Rule_Rule
namespace term_extra
def nd (_:Nat):C:=.skip
def body:C:=.seq (.reg [.br 1 t_Rule (.s 0),.mv 2 (.c (.bool false))]) (.seq (.reg [.fa 4 0 (.s 1),.la 5 3 (.s 4),.bs 6 3 [.s 5],.callp (some 7) n_term_VarsOf [.s 6],.al 3 t_s_string [.sl 1 []],.sf 3 1 (.s 7)]) (.seq (.reg [.fa 8 0 (.s 1),.fa 9 1 (.s 8),.ld 10 (.s 9),.mv 11 (.s 10),.gd (.s 11) false [12,13,14,15,16,17] [.fa 12 3 (.s 1),.la 13 3 (.s 12),.bs 14 3 [.s 13],.callp (some 15) n_term_VarsOf [.s 14],.mf 16 n_term_extra_1 [] [.s 3],.callp (some 17) n_slices_ContainsFunc_s_string_string [.s 15,.s 16]],.pick 18 (.s 11) (.c (.bool true)) (.s 17),.mv 2 (.s 18)]) (.ret)))
def rs:List RV:=[.t 2]
attribute [push_cast] nd body
theorem ok:okF prog n_term_extra nd body 1 rs = true:=by kernel_rfl
end term_extra
namespace term_VarsOf
def nd:Nat→C
 | 0=>.seq (.reg [.mv 37 (.s 8),.call (some 38) n_slices_Sort_s_string_string [.s 37],.frz 8]) (.seq (.reg [.mv 39 (.s 8),.mv 2 (.s 39)]) (.ret))
 | 1=>.gh [.ks 4 [8,28]] (.m 3)
 | 2=>.blk 5 (.seq (.reg [.en 31 (.s 28),.ex 32 (.s 31) 0,.mv 9 (.s 32)]) (.reg [.mv 33 (.s 8),.mv 34 (.s 9),.bs 35 1 [.s 34],.apr 36 t_string 1 16 (.s 33) (.s 35),.mv 8 (.s 36)]))
 | 3=>.seq (.reg [.nx 29 (.s 28),.ex 30 (.s 29) 0]) (.seq (.cond (.s 30) (.skip) (.exit 4)) (.n 2))
 | 4=>.seq (.reg [.mv 8 (.c .nil),.rnon 8 t_string 1]) (.seq (.seq (.reg [.ld 27 (.s 3),.rg 28 (.s 27)]) (.blk 4 (.loop (.n 1)))) (.n 0))
 | 5=>.gh [.ks 2 [3,7,11,12,13]] (.m 8)
 | 6=>.blk 3 (.seq (.reg [.fa 21 1 (.s 7),.ld 22 (.s 21)]) (.cond (.s 22) (.reg [.ld 23 (.s 3),.fa 24 0 (.s 7),.ld 25 (.s 24),.mup true (.s 23) (.s 25) (.c (.bool true))]) (.skip)))
 | 7=>.seq (.blk 1 (.seq (.reg [.ia 15 3 (.s 11) (.s 13),.la 16 3 (.s 15),.al 5 t_Term [.str [],.bool false,.sl 3 []],.sf 5 3 (.s 16)]) (.seq (.reg [.la 17 3 (.s 5),.callp (some 18) n_term_Walk [.s 17]]) (.blk 2 (.rf (.s 18) [19,20] (.reg [.al 7 t_Term [.str [],.bool false,.sl 3 []],.sf 7 3 (.s 20)]) (.m 6)))))) (.reg [.bin 26 .add (.s 13) (.i 1),.mv 13 (.s 26)])
 | 8=>.seq (.reg [.bin 14 .lss (.s 13) (.s 12)]) (.seq (.cond (.s 14) (.skip) (.exit 0)) (.n 7))
 | _=>.skip
def body:C:=.seq (.reg [.mv 2 (.c (.sl 1 []))]) (.seq (.reg [.mkm 10,.al 3 t_m_string_bool [.nilm],.st 1 (.s 3) (.s 10)]) (.seq (.seq (.reg [.mv 11 (.s 0),.len 12 (.s 11),.mv 13 (.i 0)]) (.blk 0 (.loop (.n 5)))) (.n 4)))
def rs:List RV:=[.t 2]
attribute [push_cast] nd body
theorem ok:okF prog n_term_VarsOf nd body 1 rs = true:=by kernel_rfl
abbrev L3 (v8 v28:V) (B:Nat) (H:List Ob) (Q:X→T→List Ob→Prop):Prop:=Run prog nd B [.c (.m 3),.c (.loop (.n 1)),.mk 4,.c (.n 0)] [(8,v8),(28,v28)] H Q
theorem G3 (h:Run prog nd B (.c (nd 3) :: s) t H Q):Run prog nd B (.c (.m 3) :: s) t H Q:=run_m.2 h
abbrev L8 (v3 v7 v11 v12 v13:V) (B:Nat) (H:List Ob) (Q:X→T→List Ob→Prop):Prop:=Run prog nd B [.c (.m 8),.c (.loop (.n 5)),.mk 0,.c (.n 4)] [(3,v3),(7,v7),(11,v11),(12,v12),(13,v13)] H Q
theorem G8 (h:Run prog nd B (.c (nd 8) :: s) t H Q):Run prog nd B (.c (.m 8) :: s) t H Q:=run_m.2 h
end term_VarsOf
namespace term_IsName
def nd:Nat→C
 | 0=>.seq (.reg [.mv 11 (.s 0),.bin 12 .neq (.s 11) (.c (.str [])),.mv 13 (.s 12),.gd (.s 13) true [14,15,16,17] [.mv 14 (.s 0),.s2b 15 (.s 14),.callp (some 16) n_slices_ContainsFunc_s_byte_byte [.s 15,(.f n_term_IsName_1)],.un 17 .not (.s 16)],.pick 18 (.s 13) (.s 17) (.c (.bool false)),.mv 4 (.s 18)]) (.ret)
 | 1=>.seq (.seq (.reg [.mv 8 (.s 1)]) (.cond (.s 8) (.reg [.mv 9 (.s 0),.callp (some 10) n_strings_TrimSuffix [.s 9,(.c (.str [35]))],.mv 0 (.s 10)]) (.skip))) (.n 0)
 | _=>.skip
def body:C:=.seq (.reg [.mv 4 (.c (.bool false))]) (.seq (.seq (.reg [.mv 5 (.s 0),.lens 6 (.s 5),.bin 7 .gtr (.s 6) (.i 24)]) (.cond (.s 7) (.seq (.reg [.mv 4 (.c (.bool false))]) (.ret)) (.skip))) (.n 1))
def rs:List RV:=[.t 4]
attribute [push_cast] nd body
theorem ok:okF prog n_term_IsName nd body 2 rs = true:=by kernel_rfl
end term_IsName
namespace r01_Rules
def nd:Nat→C
 | 0=>.seq (.reg [.mv 2 (.i 0)]) (.ret)
 | 1=>.gh [.ks 0 [9,10,11]] (.m 3)
 | 2=>.seq (.blk 1 (.seq (.reg [.ia 13 6 (.s 9) (.s 11),.la 14 6 (.s 13),.al 4 t_Rule [.str [],.bool false,.sl 3 [],.str [],.bool false,.sl 3 []],.sf 4 6 (.s 14)]) (.seq (.reg [.fa 15 0 (.s 4),.la 16 3 (.s 15),.fa 17 3 (.s 4),.la 18 3 (.s 17),.bs 19 3 [.s 16,.s 18],.callp (some 20) n_r01_CheckAll [.s 19],.mv 5 (.s 20)]) (.seq (.reg [.mv 21 (.s 5),.bin 22 .neq (.s 21) (.i 0)]) (.cond (.s 22) (.seq (.reg [.mv 23 (.s 5),.mv 2 (.s 23)]) (.ret)) (.skip)))))) (.reg [.bin 24 .add (.s 11) (.i 1),.mv 11 (.s 24)])
 | 3=>.seq (.reg [.bin 12 .lss (.s 11) (.s 10)]) (.seq (.cond (.s 12) (.skip) (.exit 0)) (.n 2))
 | 4=>.seq (.seq (.reg [.mv 9 (.s 0),.len 10 (.s 9),.mv 11 (.i 0)]) (.blk 0 (.loop (.n 1)))) (.n 0)
 | _=>.skip
def body:C:=.seq (.reg [.mv 2 (.i 0)]) (.seq (.seq (.reg [.mv 6 (.s 0),.len 7 (.s 6),.bin 8 .gtr (.s 7) (.i 64)]) (.cond (.s 8) (.seq (.reg [.mv 2 (.i 3)]) (.ret)) (.skip))) (.n 4))
def rs:List RV:=[.t 2]
attribute [push_cast] nd body
theorem ok:okF prog n_r01_Rules nd body 1 rs = true:=by kernel_rfl
abbrev L3 (v9 v10 v11:V) (B:Nat) (H:List Ob) (Q:X→T→List Ob→Prop):Prop:=Run prog nd B [.c (.m 3),.c (.loop (.n 1)),.mk 0,.c (.n 0)] [(9,v9),(10,v10),(11,v11)] H Q
theorem G3 (h:Run prog nd B (.c (nd 3) :: s) t H Q):Run prog nd B (.c (.m 3) :: s) t H Q:=run_m.2 h
end r01_Rules
end Go.Dw
end
section
namespace Go.Dw
variable {s:List K} {B:Nat} {t:T} {H:List Ob} {Q:X→T→List Ob→Prop}
namespace r01_Symbols
def nd:Nat→C
 | 0=>.seq (.reg [.mv 38 (.s 4),.mv 2 (.s 38),.mv 3 (.c (.bool true))]) (.ret)
 | 1=>.gh [.ks 0 [4,11,12,13]] (.m 6)
 | 2=>.gh [.ks 1 [4,11,12,13,21,22,23]] (.m 4)
 | 3=>.seq (.blk 3 (.seq (.reg [.ia 25 3 (.s 21) (.s 23),.la 26 3 (.s 25),.al 8 t_Term [.str [],.bool false,.sl 3 []],.sf 8 3 (.s 26)]) (.seq (.reg [.la 28 3 (.s 8),.mv 29 (.s 4),.callp (some 30) n_r01_symbols [.s 28,.s 29],.mv 27 (.s 30),.ex 31 (.s 27) 0,.ex 32 (.s 27) 1,.mv 9 (.s 31),.mv 10 (.s 32)]) (.seq (.seq (.reg [.mv 33 (.s 10),.un 34 .not (.s 33)]) (.cond (.s 34) (.seq (.reg [.mv 2 (.c (.sl 2 [])),.mv 3 (.c (.bool false))]) (.ret)) (.skip))) (.reg [.mv 35 (.s 9),.mv 4 (.s 35)]))))) (.reg [.bin 36 .add (.s 23) (.i 1),.mv 23 (.s 36)])
 | 4=>.seq (.reg [.bin 24 .lss (.s 23) (.s 22)]) (.seq (.cond (.s 24) (.skip) (.exit 2)) (.n 3))
 | 5=>.seq (.blk 1 (.seq (.reg [.ia 15 6 (.s 11) (.s 13),.la 16 6 (.s 15),.al 6 t_Rule [.str [],.bool false,.sl 3 [],.str [],.bool false,.sl 3 []],.sf 6 6 (.s 16)]) (.seq (.reg [.fa 17 0 (.s 6),.la 18 3 (.s 17),.fa 19 3 (.s 6),.la 20 3 (.s 19),.bs 21 3 [.s 18,.s 20],.len 22 (.s 21),.mv 23 (.i 0)]) (.blk 2 (.loop (.n 2)))))) (.reg [.bin 37 .add (.s 13) (.i 1),.mv 13 (.s 37)])
 | 6=>.seq (.reg [.bin 14 .lss (.s 13) (.s 12)]) (.seq (.cond (.s 14) (.skip) (.exit 0)) (.n 5))
 | _=>.skip
def body:C:=.seq (.reg [.mv 2 (.c (.sl 2 [])),.mv 3 (.c (.bool false))]) (.seq (.reg [.mv 4 (.c (.sl 2 []))]) (.seq (.seq (.reg [.mv 11 (.s 0),.len 12 (.s 11),.mv 13 (.i 0)]) (.blk 0 (.loop (.n 1)))) (.n 0)))
def rs:List RV:=[.t 2,.t 3]
attribute [push_cast] nd body
theorem ok:okF prog n_r01_Symbols nd body 1 rs = true:=by kernel_rfl
abbrev L4 (v4 v11 v12 v13 v21 v22 v23:V) (B:Nat) (H:List Ob) (Q:X→T→List Ob→Prop):Prop:=Run prog nd B [.c (.m 4),.c (.loop (.n 2)),.mk 2,.mk 1,.c (.reg [.bin 37 .add (.s 13) (.i 1),.mv 13 (.s 37)]),.c (.loop (.n 1)),.mk 0,.c (.n 0)] [(4,v4),(11,v11),(12,v12),(13,v13),(21,v21),(22,v22),(23,v23)] H Q
theorem G4 (h:Run prog nd B (.c (nd 4) :: s) t H Q):Run prog nd B (.c (.m 4) :: s) t H Q:=run_m.2 h
abbrev L6 (v4 v11 v12 v13:V) (B:Nat) (H:List Ob) (Q:X→T→List Ob→Prop):Prop:=Run prog nd B [.c (.m 6),.c (.loop (.n 1)),.mk 0,.c (.n 0)] [(4,v4),(11,v11),(12,v12),(13,v13)] H Q
theorem G6 (h:Run prog nd B (.c (nd 6) :: s) t H Q):Run prog nd B (.c (.m 6) :: s) t H Q:=run_m.2 h
end r01_Symbols
namespace r01_Within
def nd:Nat→C
 | 0=>.seq (.reg [.mv 4 (.c (.bool true))]) (.ret)
 | 1=>.gh [.ks 0 [3,9,10,11]] (.m 3)
 | 2=>.seq (.blk 1 (.seq (.reg [.ia 13 1 (.s 9) (.s 11),.ld 14 (.s 13),.mv 6 (.s 14)]) (.seq (.reg [.la 15 3 (.s 3),.mv 16 (.s 6),.callp (some 17) n_r01_Count [.s 15,.s 16],.bin 18 .eql (.s 17) (.i 0)]) (.cond (.s 18) (.seq (.reg [.mv 4 (.c (.bool false))]) (.ret)) (.skip))))) (.reg [.bin 19 .add (.s 11) (.i 1),.mv 11 (.s 19)])
 | 3=>.seq (.reg [.bin 12 .lss (.s 11) (.s 10)]) (.seq (.cond (.s 12) (.skip) (.exit 0)) (.n 2))
 | _=>.skip
def body:C:=.seq (.reg [.br 2 t_Term (.s 0),.br 3 t_Term (.s 1),.mv 4 (.c (.bool false))]) (.seq (.seq (.reg [.la 7 3 (.s 2),.bs 8 3 [.s 7],.callp (some 9) n_r01_Vars [.s 8],.len 10 (.s 9),.mv 11 (.i 0)]) (.blk 0 (.loop (.n 1)))) (.n 0))
def rs:List RV:=[.t 4]
attribute [push_cast] nd body
theorem ok:okF prog n_r01_Within nd body 2 rs = true:=by kernel_rfl
abbrev L3 (v3 v9 v10 v11:V) (B:Nat) (H:List Ob) (Q:X→T→List Ob→Prop):Prop:=Run prog nd B [.c (.m 3),.c (.loop (.n 1)),.mk 0,.c (.n 0)] [(3,v3),(9,v9),(10,v10),(11,v11)] H Q
theorem G3 (h:Run prog nd B (.c (nd 3) :: s) t H Q):Run prog nd B (.c (.m 3) :: s) t H Q:=run_m.2 h
end r01_Within
namespace r01_IsName
def nd:Nat→C
 | 0=>.seq (.reg [.mv 18 (.s 0),.bin 19 .neq (.s 18) (.c (.str [])),.mv 20 (.s 19),.gd (.s 20) true [21,22] [.mv 21 (.s 0),.callp (some 22) n_r01_Letters [.s 21]],.pick 23 (.s 20) (.s 22) (.c (.bool false)),.mv 4 (.s 23)]) (.ret)
 | 1=>.seq (.seq (.reg [.mv 8 (.s 1),.mv 9 (.s 8),.gd (.s 9) true [10,11] [.mv 10 (.s 0),.callp (some 11) n_r01_Marked [.s 10]],.pick 12 (.s 9) (.s 11) (.c (.bool false))]) (.cond (.s 12) (.reg [.mv 13 (.s 0),.mv 14 (.s 0),.lens 15 (.s 14),.bin 16 .sub (.s 15) (.i 1),.sxs 17 (.s 13) none (some (.s 16)),.mv 0 (.s 17)]) (.skip))) (.n 0)
 | _=>.skip
def body:C:=.seq (.reg [.mv 4 (.c (.bool false))]) (.seq (.seq (.reg [.mv 5 (.s 0),.lens 6 (.s 5),.bin 7 .gtr (.s 6) (.i 24)]) (.cond (.s 7) (.seq (.reg [.mv 4 (.c (.bool false))]) (.ret)) (.skip))) (.n 1))
def rs:List RV:=[.t 4]
attribute [push_cast] nd body
theorem ok:okF prog n_r01_IsName nd body 2 rs = true:=by kernel_rfl
end r01_IsName
namespace term_Fit
def nd:Nat→C
 | 0=>.seq (.reg [.la 8 3 (.s 1),.st 3 (.s 2) (.s 8),.mv 3 (.i 0)]) (.ret)
 | _=>.skip
def body:C:=.seq (.reg [.br 1 t_Term (.s 0),.al 2 t_Term [.str [],.bool false,.sl 3 []],.mv 3 (.i 0)]) (.seq (.seq (.reg [.la 4 3 (.s 1),.callp (some 5) n_term_fits [.s 4],.un 6 .not (.s 5)]) (.cond (.s 6) (.seq (.reg [.bd 7 [.str [],.bool false,.sl 3 []] [],.st 3 (.s 2) (.s 7),.mv 3 (.i 3)]) (.ret)) (.skip))) (.n 0))
def rs:List RV:=[.a 2 3,.t 3]
attribute [push_cast] nd body
theorem ok:okF prog n_term_Fit nd body 1 rs = true:=by kernel_rfl
end term_Fit
namespace term_Own
def nd:Nat→C
 | 0=>.seq (.reg [.la 26 3 (.s 3),.st 3 (.s 2) (.s 26)]) (.ret)
 | 1=>.gh [.ks 3 [2,3,12,13,14]] (.m 3)
 | 2=>.seq (.blk 1 (.seq (.reg [.ia 16 3 (.s 12) (.s 14),.la 17 3 (.s 16),.al 5 t_Term [.str [],.bool false,.sl 3 []],.sf 5 3 (.s 17)]) (.dr [0,1,2,3,4,5,6,7] [.fa 18 2 (.s 3),.ld 19 (.s 18),.la 20 3 (.s 5),.callp (some 21) n_term_Own [.s 20],.bs 22 3 [.s 21],.app 23 t_Term 3 48 (.s 19) (.s 22),.fa 24 2 (.s 3),.st 1 (.s 24) (.s 23)]))) (.reg [.bin 25 .add (.s 14) (.i 1),.mv 14 (.s 25)])
 | 3=>.seq (.reg [.bin 15 .lss (.s 14) (.s 13)]) (.seq (.cond (.s 15) (.skip) (.exit 0)) (.n 2))
 | _=>.skip
def body:C:=.seq (.reg [.br 1 t_Term (.s 0),.al 2 t_Term [.str [],.bool false,.sl 3 []]]) (.seq (.reg [.fa 6 0 (.s 1),.ld 7 (.s 6),.fa 8 1 (.s 1),.ld 9 (.s 8),.bd 10 [.str [],.bool false,.nil] [(0,1,(.s 7)),(1,1,(.s 9))],.al 3 t_Term [.str [],.bool false,.nil],.st 3 (.s 3) (.s 10),.ono t_Term 3 2 (.s 3)]) (.seq (.seq (.reg [.fa 11 2 (.s 1),.ld 12 (.s 11),.len 13 (.s 12),.mv 14 (.i 0)]) (.blk 0 (.loop (.n 1)))) (.n 0)))
def rs:List RV:=[.a 2 3]
attribute [push_cast] nd body
theorem ok:okF prog n_term_Own nd body 1 rs = true:=by kernel_rfl
abbrev L3 (v2 v3 v12 v13 v14:V) (B:Nat) (H:List Ob) (Q:X→T→List Ob→Prop):Prop:=Run prog nd B [.c (.m 3),.c (.loop (.n 1)),.mk 0,.c (.n 0)] [(2,v2),(3,v3),(12,v12),(13,v13),(14,v14)] H Q
theorem G3 (h:Run prog nd B (.c (nd 3) :: s) t H Q):Run prog nd B (.c (.m 3) :: s) t H Q:=run_m.2 h
end term_Own
namespace r01_Apply
def nd:Nat→C
 | 0=>.seq (.reg [.la 33 3 (.s 5),.st 3 (.s 4) (.s 33)]) (.ret)
 | 1=>.gh [.ks 3 [0,4,5,18,19,20]] (.m 3)
 | 2=>.seq (.blk 1 (.seq (.reg [.ia 22 3 (.s 18) (.s 20),.la 23 3 (.s 22),.al 7 t_Term [.str [],.bool false,.sl 3 []],.sf 7 3 (.s 23)]) (.dr [0,1,2,3,4,5,6,7,8] [.fa 24 2 (.s 5),.ld 25 (.s 24),.mv 26 (.s 0),.la 27 3 (.s 7),.callp (some 28) n_r01_Apply [.s 26,.s 27],.bs 29 3 [.s 28],.app 30 t_Term 3 48 (.s 25) (.s 29),.fa 31 2 (.s 5),.st 1 (.s 31) (.s 30)]))) (.reg [.bin 32 .add (.s 20) (.i 1),.mv 20 (.s 32)])
 | 3=>.seq (.reg [.bin 21 .lss (.s 20) (.s 19)]) (.seq (.cond (.s 21) (.skip) (.exit 0)) (.n 2))
 | 4=>.seq (.reg [.fa 14 0 (.s 3),.ld 15 (.s 14),.bd 16 [.str [],.bool false,.nil] [(0,1,(.s 15))],.al 5 t_Term [.str [],.bool false,.nil],.st 3 (.s 5) (.s 16),.ono t_Term 3 2 (.s 5)]) (.seq (.seq (.reg [.fa 17 2 (.s 3),.ld 18 (.s 17),.len 19 (.s 18),.mv 20 (.i 0)]) (.blk 0 (.loop (.n 1)))) (.n 0))
 | _=>.skip
def body:C:=.seq (.reg [.br 3 t_Term (.s 1),.al 4 t_Term [.str [],.bool false,.sl 3 []]]) (.seq (.seq (.reg [.fa 8 1 (.s 3),.ld 9 (.s 8)]) (.cond (.s 9) (.seq (.reg [.mv 10 (.s 0),.fa 11 0 (.s 3),.ld 12 (.s 11),.callp (some 13) n_r01_Image [.s 10,.s 12],.st 3 (.s 4) (.s 13)]) (.ret)) (.skip))) (.n 4))
def rs:List RV:=[.a 4 3]
attribute [push_cast] nd body
theorem ok:okF prog n_r01_Apply nd body 2 rs = true:=by kernel_rfl
abbrev L3 (v0 v4 v5 v18 v19 v20:V) (B:Nat) (H:List Ob) (Q:X→T→List Ob→Prop):Prop:=Run prog nd B [.c (.m 3),.c (.loop (.n 1)),.mk 0,.c (.n 0)] [(0,v0),(4,v4),(5,v5),(18,v18),(19,v19),(20,v20)] H Q
theorem G3 (h:Run prog nd B (.c (nd 3) :: s) t H Q):Run prog nd B (.c (.m 3) :: s) t H Q:=run_m.2 h
end r01_Apply
namespace r01_CompareNames
def nd:Nat→C
 | 0=>.seq (.reg [.mv 31 (.s 0),.lens 32 (.s 31),.mv 33 (.s 1),.lens 34 (.s 33),.callp (some 35) n_r01_CompareInts [.s 32,.s 34],.mv 4 (.s 35)]) (.ret)
 | 1=>.gh [.ks 0 [0,1,10,11]] (.m 3)
 | 2=>.seq (.blk 1 (.seq (.reg [.mv 13 (.s 11),.mv 5 (.s 13)]) (.seq (.dr [0,1,2,3,4,5,6] [.mv 14 (.s 0),.mv 15 (.s 5),.ix 16 (.s 14) (.s 15),.mv 17 (.s 1),.mv 18 (.s 5),.ix 19 (.s 17) (.s 18),.bin 20 .neq (.s 16) (.s 19)]) (.cond (.s 20) (.seq (.dr [0,1,2,3,4,5,6,7,8,9] [.mv 21 (.s 0),.mv 22 (.s 5),.ix 23 (.s 21) (.s 22),.cvi 24 .i64 (.s 23),.mv 25 (.s 1),.mv 26 (.s 5),.ix 27 (.s 25) (.s 26),.cvi 28 .i64 (.s 27),.callp (some 29) n_r01_CompareInts [.s 24,.s 28],.mv 4 (.s 29)]) (.ret)) (.skip))))) (.reg [.bin 30 .add (.s 11) (.i 1),.mv 11 (.s 30)])
 | 3=>.seq (.reg [.bin 12 .lss (.s 11) (.s 10)]) (.seq (.cond (.s 12) (.skip) (.exit 0)) (.n 2))
 | _=>.skip
def body:C:=.seq (.reg [.mv 4 (.i 0)]) (.seq (.seq (.reg [.mv 6 (.s 0),.lens 7 (.s 6),.mv 8 (.s 1),.lens 9 (.s 8),.mn 10 (.s 7) (.s 9),.mv 11 (.i 0)]) (.blk 0 (.loop (.n 1)))) (.n 0))
def rs:List RV:=[.t 4]
attribute [push_cast] nd body
theorem ok:okF prog n_r01_CompareNames nd body 2 rs = true:=by kernel_rfl
abbrev L3 (v0 v1 v10 v11:V) (B:Nat) (H:List Ob) (Q:X→T→List Ob→Prop):Prop:=Run prog nd B [.c (.m 3),.c (.loop (.n 1)),.mk 0,.c (.n 0)] [(0,v0),(1,v1),(10,v10),(11,v11)] H Q
theorem G3 (h:Run prog nd B (.c (nd 3) :: s) t H Q):Run prog nd B (.c (.m 3) :: s) t H Q:=run_m.2 h
end r01_CompareNames
namespace r01_CompareInts
def nd:Nat→C
 | 0=>.seq (.reg [.mv 4 (.i 0)]) (.ret)
 | 1=>.seq (.seq (.reg [.mv 8 (.s 0),.mv 9 (.s 1),.bin 10 .gtr (.s 8) (.s 9)]) (.cond (.s 10) (.seq (.reg [.mv 4 (.i 1)]) (.ret)) (.skip))) (.n 0)
 | _=>.skip
def body:C:=.seq (.reg [.mv 4 (.i 0)]) (.seq (.seq (.reg [.mv 5 (.s 0),.mv 6 (.s 1),.bin 7 .lss (.s 5) (.s 6)]) (.cond (.s 7) (.seq (.reg [.mv 4 (.i (-1))]) (.ret)) (.skip))) (.n 1))
def rs:List RV:=[.t 4]
attribute [push_cast] nd body
theorem ok:okF prog n_r01_CompareInts nd body 2 rs = true:=by kernel_rfl
end r01_CompareInts
namespace r04_Subst
def nd:Nat→C
 | 0=>.seq (.reg [.mv 45 (.s 10),.mv 6 (.s 45),.mv 7 (.i 0)]) (.ret)
 | 1=>.seq (.dr [0,1,2,3,4,5,6,7,8,9,10,11,12] [.mv 33 (.s 0),.fa 34 0 (.s 5),.ld 35 (.s 34),.ia 36 6 (.s 33) (.s 35),.fa 37 0 (.s 36),.la 38 3 (.s 37),.la 39 3 (.s 8),.callp (some 40) n_r03_Match [.s 38,.s 39],.mv 32 (.s 40),.ex 41 (.s 32) 0,.ex 42 (.s 32) 1,.mv 10 (.s 41),.mv 9 (.s 42)]) (.seq (.seq (.reg [.mv 43 (.s 9),.un 44 .not (.s 43)]) (.cond (.s 44) (.seq (.reg [.mv 6 (.c (.sl 4 [])),.mv 7 (.i 9)]) (.ret)) (.skip))) (.n 0))
 | _=>.skip
def body:C:=.seq (.reg [.br 4 t_Term (.s 1),.br 5 t_Step (.s 2),.mv 6 (.c (.sl 4 [])),.mv 7 (.i 0)]) (.seq (.reg [.la 12 3 (.s 4),.fa 13 1 (.s 5),.ld 14 (.s 13),.callp (some 15) n_r01_At [.s 12,.s 14],.mv 11 (.s 15),.ex 16 (.s 11) 0,.ex 17 (.s 11) 1,.al 8 t_Term [.str [],.bool false,.sl 3 []],.sf 8 3 (.s 16),.mv 9 (.s 17)]) (.seq (.seq (.reg [.fa 18 0 (.s 5),.ld 19 (.s 18),.bin 20 .lss (.s 19) (.i 0),.mv 21 (.s 20),.gd (.s 21) false [22,23,24,25,26] [.fa 22 0 (.s 5),.ld 23 (.s 22),.mv 24 (.s 0),.len 25 (.s 24),.bin 26 .geq (.s 23) (.s 25)],.pick 27 (.s 21) (.c (.bool true)) (.s 26),.mv 28 (.s 27),.gd (.s 28) false [29,30] [.mv 29 (.s 9),.un 30 .not (.s 29)],.pick 31 (.s 28) (.c (.bool true)) (.s 30)]) (.cond (.s 31) (.seq (.reg [.mv 6 (.c (.sl 4 [])),.mv 7 (.i 8)]) (.ret)) (.skip))) (.n 1)))
def rs:List RV:=[.t 6,.t 7]
attribute [push_cast] nd body
theorem ok:okF prog n_r04_Subst nd body 3 rs = true:=by kernel_rfl
end r04_Subst
namespace r01_Grown
def nd:Nat→C
 | 0=>.seq (.reg [.mv 43 (.s 7),.mv 44 (.s 8),.bin 45 .add (.s 44) (.i 1),.mv 4 (.s 43),.mv 5 (.s 45)]) (.ret)
 | 1=>.gh [.ks 0 [0,7,8,24,25,26]] (.m 3)
 | 2=>.seq (.blk 1 (.seq (.reg [.ia 28 3 (.s 24) (.s 26),.la 29 3 (.s 28),.al 10 t_Term [.str [],.bool false,.sl 3 []],.sf 10 3 (.s 29)]) (.seq (.reg [.mv 31 (.s 0),.la 32 3 (.s 10),.callp (some 33) n_r01_Grown [.s 31,.s 32],.mv 30 (.s 33),.ex 34 (.s 30) 0,.ex 35 (.s 30) 1,.mv 11 (.s 34),.mv 12 (.s 35)]) (.reg [.mv 36 (.s 7),.mv 37 (.s 11),.bin 38 .add (.s 36) (.s 37),.mv 39 (.s 8),.mv 40 (.s 12),.mx 41 (.s 39) (.s 40),.mv 7 (.s 38),.mv 8 (.s 41)])))) (.reg [.bin 42 .add (.s 26) (.i 1),.mv 26 (.s 42)])
 | 3=>.seq (.reg [.bin 27 .lss (.s 26) (.s 25)]) (.seq (.cond (.s 27) (.skip) (.exit 0)) (.n 2))
 | 4=>.seq (.reg [.mv 7 (.i 1),.mv 8 (.i 0)]) (.seq (.seq (.reg [.fa 23 2 (.s 3),.ld 24 (.s 23),.len 25 (.s 24),.mv 26 (.i 0)]) (.blk 0 (.loop (.n 1)))) (.n 0))
 | _=>.skip
def body:C:=.seq (.reg [.br 3 t_Term (.s 1),.mv 4 (.i 0),.mv 5 (.i 0)]) (.seq (.seq (.reg [.fa 13 1 (.s 3),.ld 14 (.s 13)]) (.cond (.s 14) (.seq (.reg [.mv 15 (.s 0),.fa 16 0 (.s 3),.ld 17 (.s 16),.callp (some 18) n_r01_Image [.s 15,.s 17],.al 6 t_Term [.str [],.bool false,.sl 3 []],.sf 6 3 (.s 18)]) (.seq (.dr [0,1,2,3,4,5] [.la 19 3 (.s 6),.callp (some 20) n_r01_Size [.s 19],.la 21 3 (.s 6),.callp (some 22) n_r01_Depth [.s 21],.mv 4 (.s 20),.mv 5 (.s 22)]) (.ret))) (.skip))) (.n 4))
def rs:List RV:=[.t 4,.t 5]
attribute [push_cast] nd body
theorem ok:okF prog n_r01_Grown nd body 2 rs = true:=by kernel_rfl
abbrev L3 (v0 v7 v8 v24 v25 v26:V) (B:Nat) (H:List Ob) (Q:X→T→List Ob→Prop):Prop:=Run prog nd B [.c (.m 3),.c (.loop (.n 1)),.mk 0,.c (.n 0)] [(0,v0),(7,v7),(8,v8),(24,v24),(25,v25),(26,v26)] H Q
theorem G3 (h:Run prog nd B (.c (nd 3) :: s) t H Q):Run prog nd B (.c (.m 3) :: s) t H Q:=run_m.2 h
end r01_Grown
namespace r04_replaced
def nd:Nat→C
 | 0=>.seq (.reg [.mv 54 (.s 10),.mv 55 (.s 11),.bin 56 .add (.s 55) (.i 1),.mv 8 (.s 54),.mv 9 (.s 56)]) (.ret)
 | 1=>.gh [.ks 0 [1,2,3,10,11,22,23,24]] (.m 3)
 | 2=>.seq (.blk 1 (.seq (.reg [.mv 26 (.s 24),.ia 27 3 (.s 22) (.s 24),.la 28 3 (.s 27),.al 13 t_Term [.str [],.bool false,.sl 3 []],.mv 12 (.s 26),.sf 13 3 (.s 28)]) (.seq (.dr [0,1,2,3,4,5] [.la 29 3 (.s 13),.callp (some 30) n_r01_Size [.s 29],.la 31 3 (.s 13),.callp (some 32) n_r01_Depth [.s 31],.mv 14 (.s 30),.mv 15 (.s 32)]) (.seq (.seq (.reg [.mv 33 (.s 12),.mv 34 (.s 1),.ia 35 1 (.s 34) (.i 0),.ld 36 (.s 35),.bin 37 .eql (.s 33) (.s 36)]) (.cond (.s 37) (.dr [0,1,2,3,4,5,6,7,8,9,10] [.la 39 3 (.s 13),.mv 40 (.s 1),.sx 41 1 (.s 40) (some (.i 1)) none,.mv 42 (.s 2),.mv 43 (.s 3),.callp (some 44) n_r04_replaced [.s 39,.s 41,.s 42,.s 43],.mv 38 (.s 44),.ex 45 (.s 38) 0,.ex 46 (.s 38) 1,.mv 14 (.s 45),.mv 15 (.s 46)]) (.skip))) (.reg [.mv 47 (.s 10),.mv 48 (.s 14),.bin 49 .add (.s 47) (.s 48),.mv 50 (.s 11),.mv 51 (.s 15),.mx 52 (.s 50) (.s 51),.mv 10 (.s 49),.mv 11 (.s 52)]))))) (.reg [.bin 53 .add (.s 24) (.i 1),.mv 24 (.s 53)])
 | 3=>.seq (.reg [.bin 25 .lss (.s 24) (.s 23)]) (.seq (.cond (.s 25) (.skip) (.exit 0)) (.n 2))
 | 4=>.seq (.reg [.mv 10 (.i 1),.mv 11 (.i 0)]) (.seq (.seq (.reg [.fa 21 2 (.s 4),.ld 22 (.s 21),.len 23 (.s 22),.mv 24 (.i 0)]) (.blk 0 (.loop (.n 1)))) (.n 0))
 | _=>.skip
def body:C:=.seq (.reg [.br 4 t_Term (.s 0),.mv 8 (.i 0),.mv 9 (.i 0)]) (.seq (.seq (.reg [.mv 16 (.s 1),.len 17 (.s 16),.bin 18 .eql (.s 17) (.i 0)]) (.cond (.s 18) (.seq (.reg [.mv 19 (.s 2),.mv 20 (.s 3),.mv 8 (.s 19),.mv 9 (.s 20)]) (.ret)) (.skip))) (.n 4))
def rs:List RV:=[.t 8,.t 9]
attribute [push_cast] nd body
theorem ok:okF prog n_r04_replaced nd body 4 rs = true:=by kernel_rfl
abbrev L3 (v1 v2 v3 v10 v11 v22 v23 v24:V) (B:Nat) (H:List Ob) (Q:X→T→List Ob→Prop):Prop:=Run prog nd B [.c (.m 3),.c (.loop (.n 1)),.mk 0,.c (.n 0)] [(1,v1),(2,v2),(3,v3),(10,v10),(11,v11),(22,v22),(23,v23),(24,v24)] H Q
theorem G3 (h:Run prog nd B (.c (nd 3) :: s) t H Q):Run prog nd B (.c (.m 3) :: s) t H Q:=run_m.2 h
end r04_replaced
namespace r01_Put
def nd:Nat→C
 | 0=>.seq (.reg [.bo 12 t_Term 3 [],.op (.e2r 12),.fa 13 2 (.s 3),.ld 14 (.s 13),.apr 15 t_Term 3 48 (.s 12) (.s 14),.mv 7 (.s 15)]) (.seq (.dr [0,1,2,3,4,5,6,7,8,9,10,11,12,13,14,15] [.mv 16 (.s 7),.mv 17 (.s 1),.ia 18 1 (.s 17) (.i 0),.ld 19 (.s 18),.mv 20 (.s 7),.mv 21 (.s 1),.ia 22 1 (.s 21) (.i 0),.ld 23 (.s 22),.ia 24 3 (.s 20) (.s 23),.la 25 3 (.s 24),.mv 26 (.s 1),.sx 27 1 (.s 26) (some (.i 1)) none,.la 28 3 (.s 5),.callp (some 29) n_r01_Put [.s 25,.s 27,.s 28],.ia 30 3 (.s 16) (.s 19),.st 3 (.s 30) (.s 29)]) (.seq (.reg [.fa 31 0 (.s 3),.ld 32 (.s 31),.frz 7,.mv 33 (.s 7),.bd 34 [.str [],.bool false,.sl 3 []] [(0,1,(.s 32)),(2,1,(.s 33))],.st 3 (.s 6) (.s 34)]) (.ret)))
 | _=>.skip
def body:C:=.seq (.reg [.br 3 t_Term (.s 0),.br 5 t_Term (.s 2),.al 6 t_Term [.str [],.bool false,.sl 3 []]]) (.seq (.seq (.reg [.mv 8 (.s 1),.len 9 (.s 8),.bin 10 .eql (.s 9) (.i 0)]) (.cond (.s 10) (.seq (.reg [.la 11 3 (.s 5),.st 3 (.s 6) (.s 11)]) (.ret)) (.skip))) (.n 0))
def rs:List RV:=[.a 6 3]
attribute [push_cast] nd body
theorem ok:okF prog n_r01_Put nd body 3 rs = true:=by kernel_rfl
end r01_Put
namespace term_formed
def nd:Nat→C
 | 0=>.seq (.reg [.fa 14 2 (.s 1),.ld 15 (.s 14),.len 16 (.s 15),.bin 17 .leq (.s 16) (.i 8),.mv 18 (.s 17),.gd (.s 18) true [19,20,21] [.fa 19 0 (.s 1),.ld 20 (.s 19),.callp (some 21) n_term_IsName [.s 20,(.c (.bool true))]],.pick 22 (.s 18) (.s 21) (.c (.bool false)),.mv 23 (.s 22),.gd (.s 23) true [24,25,26,27] [.fa 24 2 (.s 1),.ld 25 (.s 24),.callp (some 26) n_slices_ContainsFunc_s_Term_Term [.s 25,(.f n_term_formed_1)],.un 27 .not (.s 26)],.pick 28 (.s 23) (.s 27) (.c (.bool false)),.mv 2 (.s 28)]) (.ret)
 | _=>.skip
def body:C:=.seq (.reg [.br 1 t_Term (.s 0),.mv 2 (.c (.bool false))]) (.seq (.seq (.reg [.fa 3 1 (.s 1),.ld 4 (.s 3)]) (.cond (.s 4) (.seq (.reg [.fa 5 2 (.s 1),.ld 6 (.s 5),.len 7 (.s 6),.bin 8 .eql (.s 7) (.i 0),.mv 9 (.s 8),.gd (.s 9) true [10,11,12] [.fa 10 0 (.s 1),.ld 11 (.s 10),.callp (some 12) n_term_IsName [.s 11,(.c (.bool false))]],.pick 13 (.s 9) (.s 12) (.c (.bool false)),.mv 2 (.s 13)]) (.ret)) (.skip))) (.n 0))
def rs:List RV:=[.t 2]
attribute [push_cast] nd body
theorem ok:okF prog n_term_formed nd body 1 rs = true:=by kernel_rfl
end term_formed
namespace term_fits
def nd (_:Nat):C:=.skip
def body:C:=.seq (.reg [.br 1 t_Term (.s 0),.mv 2 (.c (.bool false))]) (.seq (.reg [.la 3 3 (.s 1),.callp (some 4) n_term_Size [.s 3],.bin 5 .leq (.s 4) (.i 4000),.mv 6 (.s 5),.gd (.s 6) true [7,8,9] [.la 7 3 (.s 1),.callp (some 8) n_term_Depth [.s 7],.bin 9 .leq (.s 8) (.i 200)],.pick 10 (.s 6) (.s 9) (.c (.bool false)),.mv 2 (.s 10)]) (.ret))
def rs:List RV:=[.t 2]
attribute [push_cast] nd body
theorem ok:okF prog n_term_fits nd body 1 rs = true:=by kernel_rfl
end term_fits
namespace bounds_rules
def nd:Nat→C
 | 0=>.seq (.reg [.mv 44 (.s 4),.mv 2 (.s 44),.mv 3 (.c (.bool true))]) (.ret)
 | 1=>.gh [.ks 1 [4,11,12,13]] (.m 3)
 | 2=>.seq (.blk 1 (.seq (.reg [.ia 15 6 (.s 11) (.s 13),.la 16 6 (.s 15),.al 6 t_Rule [.str [],.bool false,.sl 3 [],.str [],.bool false,.sl 3 []],.sf 6 6 (.s 16)]) (.seq (.reg [.fa 18 0 (.s 6),.la 19 3 (.s 18),.callp (some 20) n_bounds_word [.s 19],.mv 17 (.s 20),.ex 21 (.s 17) 0,.ex 22 (.s 17) 1,.al 8 t_Term [.str [],.bool false,.sl 3 []],.mv 7 (.s 21),.sf 8 3 (.s 22)]) (.seq (.reg [.fa 24 3 (.s 6),.la 25 3 (.s 24),.callp (some 26) n_bounds_word [.s 25],.mv 23 (.s 26),.ex 27 (.s 23) 0,.ex 28 (.s 23) 1,.al 10 t_Term [.str [],.bool false,.sl 3 []],.mv 9 (.s 27),.sf 10 3 (.s 28)]) (.seq (.seq (.reg [.fa 29 1 (.s 8),.ld 30 (.s 29),.un 31 .not (.s 30),.mv 32 (.s 31),.gd (.s 32) false [33,34,35] [.fa 33 1 (.s 10),.ld 34 (.s 33),.un 35 .not (.s 34)],.pick 36 (.s 32) (.c (.bool true)) (.s 35)]) (.cond (.s 36) (.seq (.reg [.mv 2 (.c (.sl 2 [])),.mv 3 (.c (.bool false))]) (.ret)) (.skip))) (.reg [.mv 37 (.s 4),.mv 38 (.s 7),.mv 39 (.s 9),.bd 40 [.sl 1 [],.sl 1 []] [(0,1,(.s 38)),(1,1,(.s 39))],.bs 41 2 [.s 40],.app 42 t_bounds_rule 2 48 (.s 37) (.s 41),.mv 4 (.s 42)])))))) (.reg [.bin 43 .add (.s 13) (.i 1),.mv 13 (.s 43)])
 | 3=>.seq (.reg [.bin 14 .lss (.s 13) (.s 12)]) (.seq (.cond (.s 14) (.skip) (.exit 0)) (.n 2))
 | _=>.skip
def body:C:=.seq (.reg [.mv 2 (.c (.sl 2 [])),.mv 3 (.c (.bool false))]) (.seq (.reg [.mv 4 (.c .nil),.non 4 t_bounds_rule 2]) (.seq (.seq (.reg [.mv 11 (.s 0),.len 12 (.s 11),.mv 13 (.i 0)]) (.blk 0 (.loop (.n 1)))) (.n 0)))
def rs:List RV:=[.t 2,.t 3]
attribute [push_cast] nd body
theorem ok:okF prog n_bounds_rules nd body 1 rs = true:=by kernel_rfl
abbrev L3 (v4 v11 v12 v13:V) (B:Nat) (H:List Ob) (Q:X→T→List Ob→Prop):Prop:=Run prog nd B [.c (.m 3),.c (.loop (.n 1)),.mk 0,.c (.n 0)] [(4,v4),(11,v11),(12,v12),(13,v13)] H Q
theorem G3 (h:Run prog nd B (.c (nd 3) :: s) t H Q):Run prog nd B (.c (.m 3) :: s) t H Q:=run_m.2 h
end bounds_rules
namespace r24_less
def nd:Nat→C
 | 0=>.seq (.reg [.fa 35 3 (.s 2),.ld 36 (.s 35),.fa 37 3 (.s 3),.ld 38 (.s 37),.bin 39 .lss (.s 36) (.s 38),.mv 4 (.s 39)]) (.ret)
 | 1=>.seq (.seq (.reg [.fa 25 2 (.s 2),.ld 26 (.s 25),.fa 27 2 (.s 3),.ld 28 (.s 27),.bin 29 .neq (.s 26) (.s 28)]) (.cond (.s 29) (.seq (.reg [.fa 30 2 (.s 2),.ld 31 (.s 30),.fa 32 2 (.s 3),.ld 33 (.s 32),.bin 34 .lss (.s 31) (.s 33),.mv 4 (.s 34)]) (.ret)) (.skip))) (.n 0)
 | 2=>.seq (.seq (.reg [.fa 15 1 (.s 2),.ld 16 (.s 15),.fa 17 1 (.s 3),.ld 18 (.s 17),.bin 19 .neq (.s 16) (.s 18)]) (.cond (.s 19) (.seq (.reg [.fa 20 1 (.s 2),.ld 21 (.s 20),.fa 22 1 (.s 3),.ld 23 (.s 22),.bin 24 .lss (.s 21) (.s 23),.mv 4 (.s 24)]) (.ret)) (.skip))) (.n 1)
 | _=>.skip
def body:C:=.seq (.reg [.br 2 t_Move (.s 0),.br 3 t_Move (.s 1),.mv 4 (.c (.bool false))]) (.seq (.seq (.reg [.fa 5 0 (.s 2),.ld 6 (.s 5),.fa 7 0 (.s 3),.ld 8 (.s 7),.bin 9 .neq (.s 6) (.s 8)]) (.cond (.s 9) (.seq (.reg [.fa 10 0 (.s 2),.ld 11 (.s 10),.fa 12 0 (.s 3),.ld 13 (.s 12),.bin 14 .lss (.s 11) (.s 13),.mv 4 (.s 14)]) (.ret)) (.skip))) (.n 2))
def rs:List RV:=[.t 4]
attribute [push_cast] nd body
theorem ok:okF prog n_r24_less nd body 2 rs = true:=by kernel_rfl
end r24_less
namespace r24_Compatible
def nd:Nat→C
 | 0=>.seq (.reg [.mv 4 (.c (.bool true))]) (.ret)
 | 1=>.gh [.ks 0 [3,31,32,33]] (.m 12)
 | 2=>.gh [.ks 3 [3,9,11,31,32,33,50,51]] (.m 10)
 | 3=>.gh [.kt [3,9,11,13,31,32,33,50,51,57,58,59]] (.m 8)
 | 4=>.gh [.kt [3,9,11,13,14,31,32,33,50,51,57,58,59,64,65,66]] (.m 6)
 | 5=>.seq (.blk 9 (.seq (.reg [.mv 68 (.s 66),.ia 69 1 (.s 64) (.s 66),.ld 70 (.s 69),.mv 16 (.s 68),.mv 17 (.s 70)]) (.seq (.reg [.mv 71 (.s 17),.mv 72 (.s 71),.gd (.s 72) true [73,74,75,76,77,78,79,80] [.la 73 3 (.s 3),.mv 74 (.s 13),.mv 75 (.s 14),.mv 76 (.s 11),.mv 77 (.s 16),.bin 78 .add (.s 77) (.i 1),.callp (some 79) n_r24_Reads [.s 73,.s 74,.s 75,.s 76,.s 78],.un 80 .not (.s 79)],.pick 81 (.s 72) (.s 80) (.c (.bool false))]) (.cond (.s 81) (.seq (.reg [.mv 4 (.c (.bool false))]) (.ret)) (.skip))))) (.reg [.bin 82 .add (.s 66) (.i 1),.mv 66 (.s 82)])
 | 6=>.seq (.reg [.bin 67 .lss (.s 66) (.s 65)]) (.seq (.cond (.s 67) (.skip) (.exit 8)) (.n 5))
 | 7=>.seq (.blk 7 (.seq (.reg [.mv 61 (.s 59),.ia 62 1 (.s 57) (.s 59),.ld 63 (.s 62),.mv 14 (.s 61),.mv 15 (.s 63)]) (.seq (.reg [.mv 64 (.s 15),.len 65 (.s 64),.mv 66 (.i 0)]) (.blk 8 (.loop (.n 4)))))) (.reg [.bin 83 .add (.s 59) (.i 1),.mv 59 (.s 83)])
 | 8=>.seq (.reg [.bin 60 .lss (.s 59) (.s 58)]) (.seq (.cond (.s 60) (.skip) (.exit 6)) (.n 7))
 | 9=>.seq (.blk 5 (.seq (.reg [.mv 53 (.s 51),.mv 13 (.s 53)]) (.seq (.reg [.la 54 3 (.s 3),.mv 55 (.s 13),.mv 56 (.s 9),.call (some 57) n_r24_Reach [.s 54,.s 55,.s 56],.len 58 (.s 57),.mv 59 (.i 0)]) (.blk 6 (.loop (.n 3)))))) (.reg [.bin 84 .add (.s 51) (.i 1),.mv 51 (.s 84)])
 | 10=>.seq (.reg [.bin 52 .lss (.s 51) (.s 50)]) (.seq (.cond (.s 52) (.skip) (.exit 4)) (.n 9))
 | 11=>.seq (.blk 3 (.seq (.reg [.ia 35 6 (.s 31) (.s 33),.la 36 6 (.s 35),.al 8 t_Rule [.str [],.bool false,.sl 3 [],.str [],.bool false,.sl 3 []],.sf 8 6 (.s 36)]) (.seq (.reg [.fa 38 0 (.s 8),.la 39 3 (.s 38),.callp (some 40) n_r24_Word [.s 39],.mv 37 (.s 40),.ex 41 (.s 37) 0,.ex 42 (.s 37) 1,.al 10 t_Term [.str [],.bool false,.sl 3 []],.mv 9 (.s 41),.sf 10 3 (.s 42)]) (.seq (.reg [.fa 44 3 (.s 8),.la 45 3 (.s 44),.callp (some 46) n_r24_Word [.s 45],.mv 43 (.s 46),.ex 47 (.s 43) 0,.ex 48 (.s 43) 1,.al 12 t_Term [.str [],.bool false,.sl 3 []],.mv 11 (.s 47),.sf 12 3 (.s 48)]) (.seq (.reg [.fa 49 0 (.s 3),.ld 50 (.s 49),.mv 51 (.i 0)]) (.blk 4 (.loop (.n 2)))))))) (.reg [.bin 85 .add (.s 33) (.i 1),.mv 33 (.s 85)])
 | 12=>.seq (.reg [.bin 34 .lss (.s 33) (.s 32)]) (.seq (.cond (.s 34) (.skip) (.exit 2)) (.n 11))
 | 13=>.seq (.seq (.reg [.mv 31 (.s 0),.len 32 (.s 31),.mv 33 (.i 0)]) (.blk 2 (.loop (.n 1)))) (.n 0)
 | 14=>.gh [.ks 0 [0,3,19,20,21]] (.m 16)
 | 15=>.seq (.blk 1 (.seq (.reg [.ia 23 1 (.s 19) (.s 21),.ld 24 (.s 23),.mv 6 (.s 24)]) (.seq (.reg [.la 25 3 (.s 3),.mv 26 (.s 6),.bd 27 [.int .i64 0,.int .i64 0,.str [],.int .i64 0] [(2,1,(.s 26))],.callp (some 28) n_r24_has [.s 25,.s 27],.un 29 .not (.s 28)]) (.cond (.s 29) (.seq (.reg [.mv 4 (.c (.bool false))]) (.ret)) (.skip))))) (.reg [.bin 30 .add (.s 21) (.i 1),.mv 21 (.s 30)])
 | 16=>.seq (.reg [.bin 22 .lss (.s 21) (.s 20)]) (.seq (.cond (.s 22) (.skip) (.exit 0)) (.n 15))
 | _=>.skip
def body:C:=.seq (.reg [.br 3 t_Automaton (.s 1),.mv 4 (.c (.bool false))]) (.seq (.seq (.reg [.mv 18 (.s 0),.callp (some 19) n_r24_Symbols [.s 18],.len 20 (.s 19),.mv 21 (.i 0)]) (.blk 0 (.loop (.n 14)))) (.n 13))
def rs:List RV:=[.t 4]
attribute [push_cast] nd body
theorem ok:okF prog n_r24_Compatible nd body 2 rs = true:=by kernel_rfl
abbrev L6 (v3 v9 v11 v13 v14 v31 v32 v33 v50 v51 v57 v58 v59 v64 v65 v66:V) (B:Nat) (H:List Ob) (Q:X→T→List Ob→Prop):Prop:=Run prog nd B [.c (.m 6),.c (.loop (.n 4)),.mk 8,.mk 7,.c (.reg [.bin 83 .add (.s 59) (.i 1),.mv 59 (.s 83)]),.c (.loop (.n 3)),.mk 6,.mk 5,.c (.reg [.bin 84 .add (.s 51) (.i 1),.mv 51 (.s 84)]),.c (.loop (.n 2)),.mk 4,.mk 3,.c (.reg [.bin 85 .add (.s 33) (.i 1),.mv 33 (.s 85)]),.c (.loop (.n 1)),.mk 2,.c (.n 0)] [(3,v3),(9,v9),(11,v11),(13,v13),(14,v14),(31,v31),(32,v32),(33,v33),(50,v50),(51,v51),(57,v57),(58,v58),(59,v59),(64,v64),(65,v65),(66,v66)] H Q
theorem G6 (h:Run prog nd B (.c (nd 6) :: s) t H Q):Run prog nd B (.c (.m 6) :: s) t H Q:=run_m.2 h
abbrev L8 (v3 v9 v11 v13 v31 v32 v33 v50 v51 v57 v58 v59:V) (B:Nat) (H:List Ob) (Q:X→T→List Ob→Prop):Prop:=Run prog nd B [.c (.m 8),.c (.loop (.n 3)),.mk 6,.mk 5,.c (.reg [.bin 84 .add (.s 51) (.i 1),.mv 51 (.s 84)]),.c (.loop (.n 2)),.mk 4,.mk 3,.c (.reg [.bin 85 .add (.s 33) (.i 1),.mv 33 (.s 85)]),.c (.loop (.n 1)),.mk 2,.c (.n 0)] [(3,v3),(9,v9),(11,v11),(13,v13),(31,v31),(32,v32),(33,v33),(50,v50),(51,v51),(57,v57),(58,v58),(59,v59)] H Q
theorem G8 (h:Run prog nd B (.c (nd 8) :: s) t H Q):Run prog nd B (.c (.m 8) :: s) t H Q:=run_m.2 h
abbrev L10 (v3 v9 v11 v31 v32 v33 v50 v51:V) (B:Nat) (H:List Ob) (Q:X→T→List Ob→Prop):Prop:=Run prog nd B [.c (.m 10),.c (.loop (.n 2)),.mk 4,.mk 3,.c (.reg [.bin 85 .add (.s 33) (.i 1),.mv 33 (.s 85)]),.c (.loop (.n 1)),.mk 2,.c (.n 0)] [(3,v3),(9,v9),(11,v11),(31,v31),(32,v32),(33,v33),(50,v50),(51,v51)] H Q
theorem G10 (h:Run prog nd B (.c (nd 10) :: s) t H Q):Run prog nd B (.c (.m 10) :: s) t H Q:=run_m.2 h
abbrev L12 (v3 v31 v32 v33:V) (B:Nat) (H:List Ob) (Q:X→T→List Ob→Prop):Prop:=Run prog nd B [.c (.m 12),.c (.loop (.n 1)),.mk 2,.c (.n 0)] [(3,v3),(31,v31),(32,v32),(33,v33)] H Q
theorem G12 (h:Run prog nd B (.c (nd 12) :: s) t H Q):Run prog nd B (.c (.m 12) :: s) t H Q:=run_m.2 h
abbrev L16 (v0 v3 v19 v20 v21:V) (B:Nat) (H:List Ob) (Q:X→T→List Ob→Prop):Prop:=Run prog nd B [.c (.m 16),.c (.loop (.n 14)),.mk 0,.c (.n 13)] [(0,v0),(3,v3),(19,v19),(20,v20),(21,v21)] H Q
theorem G16 (h:Run prog nd B (.c (nd 16) :: s) t H Q):Run prog nd B (.c (.m 16) :: s) t H Q:=run_m.2 h
end r24_Compatible
namespace bounds_compare
def nd (_:Nat):C:=.skip
def body:C:=.seq (.reg [.br 2 t_Move (.s 0),.br 3 t_Move (.s 1),.mv 4 (.i 0)]) (.seq (.dr [0,1,2,3,4,5,6,7,8,9,10,11,12,13,14,15,16,17,18,19,20,21,22] [.fa 5 0 (.s 2),.ld 6 (.s 5),.fa 7 0 (.s 3),.ld 8 (.s 7),.callp (some 9) n_cmp_Compare_int [.s 6,.s 8],.fa 10 1 (.s 2),.ld 11 (.s 10),.fa 12 1 (.s 3),.ld 13 (.s 12),.callp (some 14) n_cmp_Compare_int [.s 11,.s 13],.fa 15 2 (.s 2),.ld 16 (.s 15),.fa 17 2 (.s 3),.ld 18 (.s 17),.callp (some 19) n_cmp_Compare_string [.s 16,.s 18],.fa 20 3 (.s 2),.ld 21 (.s 20),.fa 22 3 (.s 3),.ld 23 (.s 22),.callp (some 24) n_cmp_Compare_int [.s 21,.s 23],.bs 25 1 [.s 9,.s 14,.s 19,.s 24],.callp (some 26) n_cmp_Or_int [.s 25],.mv 4 (.s 26)]) (.ret))
def rs:List RV:=[.t 4]
attribute [push_cast] nd body
theorem ok:okF prog n_bounds_compare nd body 2 rs = true:=by kernel_rfl
end bounds_compare
namespace bounds_from
def nd:Nat→C
 | 0=>.seq (.reg [.mv 25 (.s 3),.mv 2 (.s 25)]) (.ret)
 | 1=>.gh [.kt [3,8,9,10]] (.m 3)
 | 2=>.seq (.blk 1 (.seq (.reg [.ia 12 4 (.s 8) (.s 10),.la 13 4 (.s 12),.al 5 t_Move [.int .i64 0,.int .i64 0,.str [],.int .i64 0],.sf 5 4 (.s 13)]) (.dr [0,1,2,3,4,5,6,7,8,9,10] [.mv 14 (.s 3),.far 15 0 (.s 5),.ldr 16 (.s 15),.mv 17 (.s 3),.far 18 0 (.s 5),.ldr 19 (.s 18),.lkp 20 false false (.nil) (.s 17) (.s 19),.lar 21 4 (.s 5),.bs 22 4 [.s 21],.apz 23 t_Move 4 40 20 (.s 22),.mup false (.s 14) (.s 16) (.s 23)]))) (.reg [.bin 24 .add (.s 10) (.i 1),.mv 10 (.s 24)])
 | 3=>.seq (.reg [.bin 11 .lss (.s 10) (.s 9)]) (.seq (.cond (.s 11) (.skip) (.exit 0)) (.n 2))
 | _=>.skip
def body:C:=.seq (.reg [.br 1 t_Automaton (.s 0),.mv 2 (.c .nilm)]) (.seq (.reg [.mkm 6,.mv 3 (.s 6)]) (.seq (.seq (.reg [.fa 7 2 (.s 1),.ld 8 (.s 7),.len 9 (.s 8),.mv 10 (.i 0)]) (.blk 0 (.loop (.n 1)))) (.n 0)))
def rs:List RV:=[.t 2]
attribute [push_cast] nd body
theorem ok:okF prog n_bounds_from nd body 1 rs = true:=by kernel_rfl
abbrev L3 (v3 v8 v9 v10:V) (B:Nat) (H:List Ob) (Q:X→T→List Ob→Prop):Prop:=Run prog nd B [.c (.m 3),.c (.loop (.n 1)),.mk 0,.c (.n 0)] [(3,v3),(8,v8),(9,v9),(10,v10)] H Q
theorem G3 (h:Run prog nd B (.c (nd 3) :: s) t H Q):Run prog nd B (.c (.m 3) :: s) t H Q:=run_m.2 h
end bounds_from
namespace slices_ContainsFunc_s_string_string
def nd (_:Nat):C:=.skip
def body:C:=.seq (.reg [.mv 4 (.c (.bool false))]) (.seq (.reg [.mv 5 (.s 0),.mv 6 (.s 1),.callp (some 7) n_slices_IndexFunc_s_string_string [.s 5,.s 6],.bin 8 .geq (.s 7) (.i 0),.mv 4 (.s 8)]) (.ret))
def rs:List RV:=[.t 4]
attribute [push_cast] nd body
theorem ok:okF prog n_slices_ContainsFunc_s_string_string nd body 2 rs = true:=by kernel_rfl
end slices_ContainsFunc_s_string_string
namespace bounds_loops_1
def nd (_:Nat):C:=.skip
def body:C:=.seq (.reg [.mv 3 (.c (.bool false))]) (.seq (.reg [.ld 4 (.s 1),.mv 5 (.s 0),.bs 6 1 [.s 5],.call (some 7) n_bounds_graph_linked [.s 4,(.i 0),(.i 0),.s 6,(.i 0)],.un 8 .not (.s 7),.mv 3 (.s 8)]) (.ret))
def rs:List RV:=[.t 3]
attribute [push_cast] nd body
theorem ok:okF prog n_bounds_loops_1 nd body 2 rs = true:=by kernel_rfl
end bounds_loops_1
namespace bounds_graph_linked
def nd (_:Nat):C:=.skip
def body:C:=.seq (.reg [.br 7 t_int (.s 2),.br 9 t_int (.s 4),.mv 10 (.c (.bool false))]) (.seq (.reg [.mv 12 (.s 0),.mv 13 (.s 1),.mv 14 (.s 3),.mf 15 n_bounds_graph_linked_1 [] [.s 9],.call (some 16) n_bounds_graph_reads [.s 12,.s 13,.s 14,.s 15],.mv 11 (.s 16)]) (.seq (.reg [.mv 17 (.s 11),.mf 18 n_bounds_graph_linked_2 [] [.s 7],.callp (some 19) n_slices_ContainsFunc_s_bounds_spot_bounds_spot [.s 17,.s 18],.mv 10 (.s 19)]) (.ret)))
def rs:List RV:=[.t 10]
attribute [push_cast] nd body
theorem ok:okF prog n_bounds_graph_linked nd body 5 rs = true:=by kernel_rfl
end bounds_graph_linked
namespace bounds_graph_reads
def nd:Nat→C
 | 0=>.seq (.reg [.mv 76 (.s 16),.call (some 77) n_slices_SortFunc_s_bounds_spot_bounds_spot [.s 76,(.f n_bounds_graph_reads_1)]]) (.seq (.reg [.frz 16,.mv 78 (.s 16),.mv 8 (.s 78)]) (.ret))
 | 1=>.gh [.ks 3 [16,67]] (.m 3)
 | 2=>.blk 7 (.seq (.reg [.en 70 (.s 67),.ex 71 (.s 70) 0,.al 17 t_bounds_spot [.int .i64 0,.int .i64 0],.sf 17 2 (.s 71)]) (.reg [.mv 72 (.s 16),.la 73 2 (.s 17),.bs 74 2 [.s 73],.apr 75 t_bounds_spot 2 16 (.s 72) (.s 74),.mv 16 (.s 75)]))
 | 3=>.seq (.reg [.nx 68 (.s 67),.ex 69 (.s 68) 0]) (.seq (.cond (.s 69) (.skip) (.exit 6)) (.n 2))
 | 4=>.seq (.reg [.mv 16 (.c .nil),.rnon 16 t_bounds_spot 2]) (.seq (.seq (.reg [.mv 66 (.s 9),.rg 67 (.s 66)]) (.blk 6 (.loop (.n 1)))) (.n 0))
 | 5=>.gh [.kk [9] [0,3,9,22,23,24]] (.m 13)
 | 6=>.gh [.ks 3 [0,3,11,12,22,23,24,30]] (.m 11)
 | 7=>.gh [.ks 4 [0,3,11,12,13,22,23,24,30,38,39,40]] (.m 9)
 | 8=>.seq (.blk 5 (.seq (.reg [.ia 42 4 (.s 38) (.s 40),.la 43 4 (.s 42),.al 15 t_Move [.int .i64 0,.int .i64 0,.str [],.int .i64 0],.sf 15 4 (.s 43)]) (.seq (.reg [.fa 44 2 (.s 15),.ld 45 (.s 44),.mv 46 (.s 11),.bin 47 .eql (.s 45) (.s 46),.mv 48 (.s 47),.gd (.s 48) true [49,50,51,52] [.mv 49 (.s 3),.fa 50 3 (.s 15),.ld 51 (.s 50),.callvp (some 52) (.s 49) [.s 51]],.pick 53 (.s 48) (.s 52) (.c (.bool false))]) (.cond (.s 53) (.reg [.mv 54 (.s 12),.fa 55 1 (.s 15),.ld 56 (.s 55),.fa 57 1 (.s 13),.ld 58 (.s 57),.fa 59 3 (.s 15),.ld 60 (.s 59),.mn 61 (.s 58) (.s 60),.bd 62 [.int .i64 0,.int .i64 0] [(0,1,(.s 56)),(1,1,(.s 61))],.muq [false,false] (.s 54) (.s 62) (.c (.bool true))]) (.skip))))) (.reg [.bin 63 .add (.s 40) (.i 1),.mv 40 (.s 63)])
 | 9=>.seq (.reg [.bin 41 .lss (.s 40) (.s 39)]) (.seq (.cond (.s 41) (.skip) (.exit 4)) (.n 8))
 | 10=>.blk 3 (.seq (.reg [.en 33 (.s 30),.ex 34 (.s 33) 0,.al 13 t_bounds_spot [.int .i64 0,.int .i64 0],.sf 13 2 (.s 34)]) (.seq (.reg [.mv 35 (.s 0),.fa 36 0 (.s 13),.ld 37 (.s 36),.lkp 38 false false (.sl 4 []) (.s 35) (.s 37),.len 39 (.s 38),.mv 40 (.i 0)]) (.blk 4 (.loop (.n 7)))))
 | 11=>.seq (.reg [.nx 31 (.s 30),.ex 32 (.s 31) 0]) (.seq (.cond (.s 32) (.skip) (.exit 2)) (.n 10))
 | 12=>.seq (.blk 1 (.seq (.reg [.ia 26 1 (.s 22) (.s 24),.ld 27 (.s 26),.mv 11 (.s 27)]) (.seq (.reg [.mkm 28,.mv 12 (.s 28)]) (.seq (.seq (.reg [.mv 29 (.s 9),.rg 30 (.s 29)]) (.blk 2 (.loop (.n 6)))) (.reg [.mv 64 (.s 12),.mv 9 (.s 64)]))))) (.reg [.bin 65 .add (.s 24) (.i 1),.mv 24 (.s 65)])
 | 13=>.seq (.reg [.bin 25 .lss (.s 24) (.s 23)]) (.seq (.cond (.s 25) (.skip) (.exit 0)) (.n 12))
 | _=>.skip
def body:C:=.seq (.reg [.mv 8 (.c (.sl 2 []))]) (.seq (.reg [.mkm 18,.mv 19 (.s 1),.bd 20 [.int .i64 0,.int .i64 0] [(0,1,(.s 19)),(1,1,(.i 17))],.muq [false,false] (.s 18) (.s 20) (.c (.bool true)),.mv 21 (.s 18),.mv 9 (.s 21)]) (.seq (.seq (.reg [.mv 22 (.s 2),.len 23 (.s 22),.mv 24 (.i 0)]) (.blk 0 (.loop (.n 5)))) (.n 4)))
def rs:List RV:=[.t 8]
attribute [push_cast] nd body
theorem ok:okF prog n_bounds_graph_reads nd body 4 rs = true:=by kernel_rfl
abbrev L3 (v16 v67:V) (B:Nat) (H:List Ob) (Q:X→T→List Ob→Prop):Prop:=Run prog nd B [.c (.m 3),.c (.loop (.n 1)),.mk 6,.c (.n 0)] [(16,v16),(67,v67)] H Q
theorem G3 (h:Run prog nd B (.c (nd 3) :: s) t H Q):Run prog nd B (.c (.m 3) :: s) t H Q:=run_m.2 h
abbrev L9 (v0 v3 v11 v12 v13 v22 v23 v24 v30 v38 v39 v40:V) (B:Nat) (H:List Ob) (Q:X→T→List Ob→Prop):Prop:=Run prog nd B [.c (.m 9),.c (.loop (.n 7)),.mk 4,.mk 3,.c (.loop (.n 6)),.mk 2,.c (.reg [.mv 64 (.s 12),.mv 9 (.s 64)]),.mk 1,.c (.reg [.bin 65 .add (.s 24) (.i 1),.mv 24 (.s 65)]),.c (.loop (.n 5)),.mk 0,.c (.n 4)] [(0,v0),(3,v3),(11,v11),(12,v12),(13,v13),(22,v22),(23,v23),(24,v24),(30,v30),(38,v38),(39,v39),(40,v40)] H Q
theorem G9 (h:Run prog nd B (.c (nd 9) :: s) t H Q):Run prog nd B (.c (.m 9) :: s) t H Q:=run_m.2 h
abbrev L11 (v0 v3 v11 v12 v22 v23 v24 v30:V) (B:Nat) (H:List Ob) (Q:X→T→List Ob→Prop):Prop:=Run prog nd B [.c (.m 11),.c (.loop (.n 6)),.mk 2,.c (.reg [.mv 64 (.s 12),.mv 9 (.s 64)]),.mk 1,.c (.reg [.bin 65 .add (.s 24) (.i 1),.mv 24 (.s 65)]),.c (.loop (.n 5)),.mk 0,.c (.n 4)] [(0,v0),(3,v3),(11,v11),(12,v12),(22,v22),(23,v23),(24,v24),(30,v30)] H Q
theorem G11 (h:Run prog nd B (.c (nd 11) :: s) t H Q):Run prog nd B (.c (.m 11) :: s) t H Q:=run_m.2 h
abbrev L13 (v0 v3 v9 v22 v23 v24:V) (B:Nat) (H:List Ob) (Q:X→T→List Ob→Prop):Prop:=Run prog nd B [.c (.m 13),.c (.loop (.n 5)),.mk 0,.c (.n 4)] [(0,v0),(3,v3),(9,v9),(22,v22),(23,v23),(24,v24)] H Q
theorem G13 (h:Run prog nd B (.c (nd 13) :: s) t H Q):Run prog nd B (.c (.m 13) :: s) t H Q:=run_m.2 h
end bounds_graph_reads
namespace bounds_lacks_1
def nd (_:Nat):C:=.skip
def body:C:=.seq (.reg [.mv 2 (.c (.bool false))]) (.seq (.reg [.mv 2 (.c (.bool true))]) (.ret))
def rs:List RV:=[.t 2]
attribute [push_cast] nd body
theorem ok:okF prog n_bounds_lacks_1 nd body 1 rs = true:=by kernel_rfl
end bounds_lacks_1
namespace slices_BinarySearchFunc_s_Move_Move_Move
def nd:Nat→C
 | 0=>.seq (.dr [0,1,2,3,4,5,6,7,8,9,10,11,12,13,14,15] [.mv 35 (.s 9),.mv 36 (.s 9),.mv 37 (.s 8),.bin 38 .lss (.s 36) (.s 37),.mv 39 (.s 38),.gd (.s 39) true [40] [.mv 40 (.s 2)],.gd (.s 39) true [41] [.mv 41 (.s 0)],.gd (.s 39) true [42] [.mv 42 (.s 9)],.gd (.s 39) true [43] [.ia 43 4 (.s 41) (.s 42)],.gd (.s 39) true [44] [.la 44 4 (.s 43)],.gd (.s 39) true [45] [.la 45 4 (.s 4)],.gd (.s 39) true [46] [.callvp (some 46) (.s 40) [.s 44,.s 45]],.gd (.s 39) true [47] [.bin 47 .eql (.s 46) (.i 0)],.pick 48 (.s 39) (.s 47) (.c (.bool false)),.mv 6 (.s 35),.mv 7 (.s 48)]) (.ret)
 | 1=>.gh [.ks 0 [0,2,4,8,9,10]] (.m 3)
 | 2=>.blk 1 (.seq (.reg [.mv 18 (.s 9),.mv 19 (.s 10),.bin 20 .add (.s 18) (.s 19),.cvi 21 .u64 (.s 20),.sh 22 .shr (.s 21) (.c (.int .u64 1)),.cvi 23 .i64 (.s 22),.mv 11 (.s 23)]) (.seq (.dr [0,1,2,3,4,5,6,7] [.mv 24 (.s 2),.mv 25 (.s 0),.mv 26 (.s 11),.ia 27 4 (.s 25) (.s 26),.la 28 4 (.s 27),.la 29 4 (.s 4),.callvp (some 30) (.s 24) [.s 28,.s 29],.bin 31 .lss (.s 30) (.i 0)]) (.cond (.s 31) (.reg [.mv 32 (.s 11),.bin 33 .add (.s 32) (.i 1),.mv 9 (.s 33)]) (.reg [.mv 34 (.s 11),.mv 10 (.s 34)]))))
 | 3=>.seq (.seq (.reg [.mv 15 (.s 9),.mv 16 (.s 10),.bin 17 .lss (.s 15) (.s 16)]) (.cond (.s 17) (.skip) (.exit 0))) (.n 2)
 | _=>.skip
def body:C:=.seq (.reg [.br 4 t_Move (.s 1),.mv 6 (.i 0),.mv 7 (.c (.bool false))]) (.seq (.reg [.mv 12 (.s 0),.len 13 (.s 12),.mv 8 (.s 13)]) (.seq (.reg [.mv 14 (.s 8),.mv 9 (.i 0),.mv 10 (.s 14)]) (.seq (.blk 0 (.loop (.n 1))) (.n 0))))
def rs:List RV:=[.t 6,.t 7]
attribute [push_cast] nd body
theorem ok:okF prog n_slices_BinarySearchFunc_s_Move_Move_Move nd body 3 rs = true:=by kernel_rfl
abbrev L3 (v0 v2 v4 v8 v9 v10:V) (B:Nat) (H:List Ob) (Q:X→T→List Ob→Prop):Prop:=Run prog nd B [.c (.m 3),.c (.loop (.n 1)),.mk 0,.c (.n 0)] [(0,v0),(2,v2),(4,v4),(8,v8),(9,v9),(10,v10)] H Q
theorem G3 (h:Run prog nd B (.c (nd 3) :: s) t H Q):Run prog nd B (.c (.m 3) :: s) t H Q:=run_m.2 h
end slices_BinarySearchFunc_s_Move_Move_Move
namespace slices_Clone_s_Move_Move
def nd:Nat→C
 | 0=>.seq (.reg [.bo 5 t_Move 4 [],.op (.e2r 5),.mv 6 (.s 0),.apr 7 t_Move 4 40 (.s 5) (.s 6),.mv 2 (.s 7)]) (.ret)
 | _=>.skip
def body:C:=.seq (.reg [.mv 2 (.c .nil),.rnon 2 t_Move 4]) (.seq (.seq (.reg [.mv 3 (.s 0),.nl 4 false (.s 3)]) (.cond (.s 4) (.seq (.reg [.mv 2 (.c .nil),.rnon 2 t_Move 4]) (.ret)) (.skip))) (.n 0))
def rs:List RV:=[.t 2]
attribute [push_cast] nd body
theorem ok:okF prog n_slices_Clone_s_Move_Move nd body 1 rs = true:=by kernel_rfl
end slices_Clone_s_Move_Move
namespace bounds_longest
def nd:Nat→C
 | 0=>.seq (.reg [.mv 37 (.s 1),.mv 8 (.s 37),.mv 9 (.i 0)]) (.ret)
 | 1=>.gh [.ks 0 [0,1,2,7,10]] (.m 3)
 | 2=>.seq (.blk 1 (.seq (.reg [.mv 19 (.s 0),.mv 20 (.s 1),.mv 21 (.s 2),.mv 22 (.s 10),.sx 23 1 (.s 21) none (some (.s 22)),.mf 24 n_bounds_longest_1 [] [.s 7],.call (some 25) n_bounds_graph_reads [.s 19,.s 20,.s 23,.s 24],.mv 11 (.s 25)]) (.seq (.reg [.mv 26 (.s 11),.len 27 (.s 26),.bin 28 .gtr (.s 27) (.i 0)]) (.cond (.s 28) (.seq (.reg [.mv 29 (.s 11),.mv 30 (.s 11),.len 31 (.s 30),.bin 32 .sub (.s 31) (.i 1),.ia 33 2 (.s 29) (.s 32),.fa 34 0 (.s 33),.ld 35 (.s 34),.mv 36 (.s 10),.mv 8 (.s 35),.mv 9 (.s 36)]) (.ret)) (.skip))))) (.reg [.mv 17 (.s 10),.bin 18 .sub (.s 17) (.i 1),.mv 10 (.s 18)])
 | 3=>.seq (.seq (.reg [.mv 15 (.s 10),.bin 16 .gtr (.s 15) (.i 0)]) (.cond (.s 16) (.skip) (.exit 0))) (.n 2)
 | _=>.skip
def body:C:=.seq (.reg [.br 7 t_int (.s 3),.mv 8 (.i 0),.mv 9 (.i 0)]) (.seq (.seq (.reg [.mv 12 (.s 2),.len 13 (.s 12),.bin 14 .sub (.s 13) (.i 1),.mv 10 (.s 14)]) (.blk 0 (.loop (.n 1)))) (.n 0))
def rs:List RV:=[.t 8,.t 9]
attribute [push_cast] nd body
theorem ok:okF prog n_bounds_longest nd body 4 rs = true:=by kernel_rfl
abbrev L3 (v0 v1 v2 v7 v10:V) (B:Nat) (H:List Ob) (Q:X→T→List Ob→Prop):Prop:=Run prog nd B [.c (.m 3),.c (.loop (.n 1)),.mk 0,.c (.n 0)] [(0,v0),(1,v1),(2,v2),(7,v7),(10,v10)] H Q
theorem G3 (h:Run prog nd B (.c (nd 3) :: s) t H Q):Run prog nd B (.c (.m 3) :: s) t H Q:=run_m.2 h
end bounds_longest
namespace cmp_Compare_int
def nd:Nat→C
 | 0=>.seq (.reg [.mv 4 (.i 0)]) (.ret)
 | 1=>.seq (.seq (.reg [.mv 17 (.s 0),.mv 18 (.s 1),.bin 19 .gtr (.s 17) (.s 18)]) (.cond (.s 19) (.seq (.reg [.mv 4 (.i 1)]) (.ret)) (.skip))) (.n 0)
 | 2=>.seq (.seq (.reg [.mv 14 (.s 0),.mv 15 (.s 1),.bin 16 .lss (.s 14) (.s 15)]) (.cond (.s 16) (.seq (.reg [.mv 4 (.i (-1))]) (.ret)) (.skip))) (.n 1)
 | 3=>.seq (.seq (.reg [.mv 13 (.s 6)]) (.cond (.s 13) (.seq (.reg [.mv 4 (.i 1)]) (.ret)) (.skip))) (.n 2)
 | 4=>.seq (.reg [.mv 4 (.i (-1))]) (.ret)
 | _=>.skip
def body:C:=.seq (.reg [.mv 4 (.i 0)]) (.seq (.reg [.mv 7 (.s 0),.callp (some 8) n_cmp_isNaN_int [.s 7],.mv 5 (.s 8)]) (.seq (.reg [.mv 9 (.s 1),.callp (some 10) n_cmp_isNaN_int [.s 9],.mv 6 (.s 10)]) (.seq (.seq (.reg [.mv 11 (.s 5)]) (.cond (.s 11) (.seq (.seq (.reg [.mv 12 (.s 6)]) (.cond (.s 12) (.seq (.reg [.mv 4 (.i 0)]) (.ret)) (.skip))) (.n 4)) (.skip))) (.n 3))))
def rs:List RV:=[.t 4]
attribute [push_cast] nd body
theorem ok:okF prog n_cmp_Compare_int nd body 2 rs = true:=by kernel_rfl
end cmp_Compare_int
namespace r01_Vars
def nd:Nat→C
 | 0=>.seq (.reg [.mv 16 (.s 3),.mv 2 (.s 16)]) (.ret)
 | 1=>.gh [.ks 0 [3,6,7,8]] (.m 3)
 | 2=>.seq (.blk 1 (.seq (.reg [.ia 10 3 (.s 6) (.s 8),.la 11 3 (.s 10),.al 5 t_Term [.str [],.bool false,.sl 3 []],.sf 5 3 (.s 11)]) (.reg [.la 12 3 (.s 5),.mv 13 (.s 3),.callp (some 14) n_r01_collect [.s 12,.s 13],.mv 3 (.s 14)]))) (.reg [.bin 15 .add (.s 8) (.i 1),.mv 8 (.s 15)])
 | 3=>.seq (.reg [.bin 9 .lss (.s 8) (.s 7)]) (.seq (.cond (.s 9) (.skip) (.exit 0)) (.n 2))
 | _=>.skip
def body:C:=.seq (.reg [.mv 2 (.c (.sl 1 []))]) (.seq (.reg [.mv 3 (.c (.sl 1 []))]) (.seq (.seq (.reg [.mv 6 (.s 0),.len 7 (.s 6),.mv 8 (.i 0)]) (.blk 0 (.loop (.n 1)))) (.n 0)))
def rs:List RV:=[.t 2]
attribute [push_cast] nd body
theorem ok:okF prog n_r01_Vars nd body 1 rs = true:=by kernel_rfl
abbrev L3 (v3 v6 v7 v8:V) (B:Nat) (H:List Ob) (Q:X→T→List Ob→Prop):Prop:=Run prog nd B [.c (.m 3),.c (.loop (.n 1)),.mk 0,.c (.n 0)] [(3,v3),(6,v6),(7,v7),(8,v8)] H Q
theorem G3 (h:Run prog nd B (.c (nd 3) :: s) t H Q):Run prog nd B (.c (.m 3) :: s) t H Q:=run_m.2 h
end r01_Vars
namespace rewrite_find
def nd:Nat→C
 | 0=>.seq (.reg [.mv 43 (.s 10),.mv 6 (.s 43),.mv 7 (.i 0)]) (.ret)
 | 1=>.seq (.dr [0,1,2,3,4,5,6,7,8,9,10,11,12] [.mv 31 (.s 0),.fa 32 0 (.s 5),.ld 33 (.s 32),.ia 34 6 (.s 31) (.s 33),.fa 35 0 (.s 34),.la 36 3 (.s 35),.la 37 3 (.s 8),.callp (some 38) n_unify_Find [.s 36,.s 37],.mv 30 (.s 38),.ex 39 (.s 30) 0,.ex 40 (.s 30) 1,.mv 10 (.s 39),.mv 9 (.s 40)]) (.seq (.seq (.reg [.mv 41 (.s 9),.un 42 .not (.s 41)]) (.cond (.s 42) (.seq (.reg [.mv 6 (.c (.sl 4 [])),.mv 7 (.i 9)]) (.ret)) (.skip))) (.n 0))
 | 2=>.seq (.reg [.la 22 3 (.s 4),.fa 23 1 (.s 5),.ld 24 (.s 23),.callp (some 25) n_term_Sub [.s 22,.s 24],.mv 21 (.s 25),.ex 26 (.s 21) 0,.ex 27 (.s 21) 1,.al 8 t_Term [.str [],.bool false,.sl 3 []],.sf 8 3 (.s 26),.mv 9 (.s 27)]) (.seq (.seq (.reg [.mv 28 (.s 9),.un 29 .not (.s 28)]) (.cond (.s 29) (.seq (.reg [.mv 6 (.c (.sl 4 [])),.mv 7 (.i 8)]) (.ret)) (.skip))) (.n 1))
 | _=>.skip
def body:C:=.seq (.reg [.br 4 t_Term (.s 1),.br 5 t_Step (.s 2),.mv 6 (.c (.sl 4 [])),.mv 7 (.i 0)]) (.seq (.seq (.reg [.fa 11 0 (.s 5),.ld 12 (.s 11),.bin 13 .lss (.s 12) (.i 0),.mv 14 (.s 13),.gd (.s 14) false [15,16,17,18,19] [.fa 15 0 (.s 5),.ld 16 (.s 15),.mv 17 (.s 0),.len 18 (.s 17),.bin 19 .geq (.s 16) (.s 18)],.pick 20 (.s 14) (.c (.bool true)) (.s 19)]) (.cond (.s 20) (.seq (.reg [.mv 6 (.c (.sl 4 [])),.mv 7 (.i 8)]) (.ret)) (.skip))) (.n 2))
def rs:List RV:=[.t 6,.t 7]
attribute [push_cast] nd body
theorem ok:okF prog n_rewrite_find nd body 3 rs = true:=by kernel_rfl
end rewrite_find
namespace term_Instance
def nd:Nat→C
 | 0=>.seq (.reg [.mv 19 (.s 0),.la 20 3 (.s 3),.callp (some 21) n_term_replace [.s 19,.s 20],.st 3 (.s 4) (.s 21),.mv 5 (.i 0)]) (.ret)
 | _=>.skip
def body:C:=.seq (.reg [.br 3 t_Term (.s 1),.al 4 t_Term [.str [],.bool false,.sl 3 []],.mv 5 (.i 0)]) (.seq (.seq (.reg [.mv 7 (.s 0),.la 8 3 (.s 3),.callp (some 9) n_term_measure [.s 7,.s 8],.al 6 t_term_meter [.int .i64 0,.int .i64 0],.sf 6 2 (.s 9)]) (.seq (.reg [.fa 10 0 (.s 6),.ld 11 (.s 10),.bin 12 .gtr (.s 11) (.i 4000),.mv 13 (.s 12),.gd (.s 13) false [14,15,16] [.fa 14 1 (.s 6),.ld 15 (.s 14),.bin 16 .gtr (.s 15) (.i 200)],.pick 17 (.s 13) (.c (.bool true)) (.s 16)]) (.cond (.s 17) (.seq (.reg [.bd 18 [.str [],.bool false,.sl 3 []] [],.st 3 (.s 4) (.s 18),.mv 5 (.i 3)]) (.ret)) (.skip)))) (.n 0))
def rs:List RV:=[.a 4 3,.t 5]
attribute [push_cast] nd body
theorem ok:okF prog n_term_Instance nd body 2 rs = true:=by kernel_rfl
end term_Instance
namespace term_Set
def nd:Nat→C
 | 0=>.seq (.reg [.la 47 3 (.s 7),.st 3 (.s 6) (.s 47)]) (.ret)
 | 1=>.gh [.ks 3 [1,5,6,7,21,22,23]] (.m 3)
 | 2=>.seq (.blk 1 (.seq (.reg [.mv 25 (.s 23),.ia 26 3 (.s 21) (.s 23),.la 27 3 (.s 26),.al 9 t_Term [.str [],.bool false,.sl 3 []],.mv 8 (.s 25),.st 3 (.s 9) (.s 27)]) (.seq (.seq (.reg [.mv 28 (.s 8),.mv 29 (.s 1),.ia 30 1 (.s 29) (.i 0),.ld 31 (.s 30),.bin 32 .eql (.s 28) (.s 31)]) (.cond (.s 32) (.dr [0,1,2,3,4,5] [.la 33 3 (.s 9),.mv 34 (.s 1),.sx 35 1 (.s 34) (some (.i 1)) none,.la 36 3 (.s 5),.callp (some 37) n_term_Set [.s 33,.s 35,.s 36],.st 3 (.s 9) (.s 37)]) (.reg [.la 38 3 (.s 9),.callp (some 39) n_term_Own [.s 38],.st 3 (.s 9) (.s 39)]))) (.reg [.fa 40 2 (.s 7),.ld 41 (.s 40),.la 42 3 (.s 9),.bs 43 3 [.s 42],.app 44 t_Term 3 48 (.s 41) (.s 43),.fa 45 2 (.s 7),.st 1 (.s 45) (.s 44)])))) (.reg [.bin 46 .add (.s 23) (.i 1),.mv 23 (.s 46)])
 | 3=>.seq (.reg [.bin 24 .lss (.s 23) (.s 22)]) (.seq (.cond (.s 24) (.skip) (.exit 0)) (.n 2))
 | 4=>.seq (.reg [.fa 15 0 (.s 3),.ld 16 (.s 15),.fa 17 1 (.s 3),.ld 18 (.s 17),.bd 19 [.str [],.bool false,.nil] [(0,1,(.s 16)),(1,1,(.s 18))],.al 7 t_Term [.str [],.bool false,.nil],.st 3 (.s 7) (.s 19),.ono t_Term 3 2 (.s 7)]) (.seq (.seq (.reg [.fa 20 2 (.s 3),.ld 21 (.s 20),.len 22 (.s 21),.mv 23 (.i 0)]) (.blk 0 (.loop (.n 1)))) (.n 0))
 | _=>.skip
def body:C:=.seq (.reg [.br 3 t_Term (.s 0),.br 5 t_Term (.s 2),.al 6 t_Term [.str [],.bool false,.sl 3 []]]) (.seq (.seq (.reg [.mv 10 (.s 1),.len 11 (.s 10),.bin 12 .eql (.s 11) (.i 0)]) (.cond (.s 12) (.seq (.reg [.la 13 3 (.s 5),.callp (some 14) n_term_Own [.s 13],.st 3 (.s 6) (.s 14)]) (.ret)) (.skip))) (.n 4))
def rs:List RV:=[.a 6 3]
attribute [push_cast] nd body
theorem ok:okF prog n_term_Set nd body 3 rs = true:=by kernel_rfl
abbrev L3 (v1 v5 v6 v7 v21 v22 v23:V) (B:Nat) (H:List Ob) (Q:X→T→List Ob→Prop):Prop:=Run prog nd B [.c (.m 3),.c (.loop (.n 1)),.mk 0,.c (.n 0)] [(1,v1),(5,v5),(6,v6),(7,v7),(21,v21),(22,v22),(23,v23)] H Q
theorem G3 (h:Run prog nd B (.c (nd 3) :: s) t H Q):Run prog nd B (.c (.m 3) :: s) t H Q:=run_m.2 h
end term_Set
namespace r01_At
def nd:Nat→C
 | 0=>.seq (.reg [.la 30 3 (.s 2),.st 3 (.s 4) (.s 30),.mv 5 (.c (.bool true))]) (.ret)
 | 1=>.gh [.ks 2 [2,4,8,9,10]] (.m 3)
 | 2=>.seq (.blk 1 (.seq (.reg [.ia 12 1 (.s 8) (.s 10),.ld 13 (.s 12),.mv 7 (.s 13)]) (.seq (.seq (.reg [.mv 14 (.s 7),.bin 15 .lss (.s 14) (.i 0),.mv 16 (.s 15),.gd (.s 16) false [17,18,19,20,21] [.mv 17 (.s 7),.fa 18 2 (.s 2),.ld 19 (.s 18),.len 20 (.s 19),.bin 21 .geq (.s 17) (.s 20)],.pick 22 (.s 16) (.c (.bool true)) (.s 21)]) (.cond (.s 22) (.seq (.reg [.bd 23 [.str [],.bool false,.sl 3 []] [],.st 3 (.s 4) (.s 23),.mv 5 (.c (.bool false))]) (.ret)) (.skip))) (.reg [.fa 24 2 (.s 2),.ld 25 (.s 24),.mv 26 (.s 7),.ia 27 3 (.s 25) (.s 26),.la 28 3 (.s 27),.st 3 (.s 2) (.s 28)])))) (.reg [.bin 29 .add (.s 10) (.i 1),.mv 10 (.s 29)])
 | 3=>.seq (.reg [.bin 11 .lss (.s 10) (.s 9)]) (.seq (.cond (.s 11) (.skip) (.exit 0)) (.n 2))
 | _=>.skip
def body:C:=.seq (.reg [.bx 2 t_Term (.s 0),.al 4 t_Term [.str [],.bool false,.sl 3 []],.mv 5 (.c (.bool false))]) (.seq (.seq (.reg [.mv 8 (.s 1),.len 9 (.s 8),.mv 10 (.i 0)]) (.blk 0 (.loop (.n 1)))) (.n 0))
def rs:List RV:=[.a 4 3,.t 5]
attribute [push_cast] nd body
theorem ok:okF prog n_r01_At nd body 2 rs = true:=by kernel_rfl
abbrev L3 (v2 v4 v8 v9 v10:V) (B:Nat) (H:List Ob) (Q:X→T→List Ob→Prop):Prop:=Run prog nd B [.c (.m 3),.c (.loop (.n 1)),.mk 0,.c (.n 0)] [(2,v2),(4,v4),(8,v8),(9,v9),(10,v10)] H Q
theorem G3 (h:Run prog nd B (.c (nd 3) :: s) t H Q):Run prog nd B (.c (.m 3) :: s) t H Q:=run_m.2 h
end r01_At
namespace term_All
def nd:Nat→C
 | 0=>.seq (.reg [.mv 2 (.i 0)]) (.ret)
 | 1=>.gh [.ks 0 [6,7,8]] (.m 3)
 | 2=>.seq (.blk 1 (.seq (.reg [.ia 10 3 (.s 6) (.s 8),.la 11 3 (.s 10),.al 4 t_Term [.str [],.bool false,.sl 3 []],.sf 4 3 (.s 11)]) (.seq (.reg [.la 12 3 (.s 4),.callp (some 13) n_term_Check [.s 12],.mv 5 (.s 13)]) (.seq (.reg [.mv 14 (.s 5),.bin 15 .neq (.s 14) (.i 0)]) (.cond (.s 15) (.seq (.reg [.mv 16 (.s 5),.mv 2 (.s 16)]) (.ret)) (.skip)))))) (.reg [.bin 17 .add (.s 8) (.i 1),.mv 8 (.s 17)])
 | 3=>.seq (.reg [.bin 9 .lss (.s 8) (.s 7)]) (.seq (.cond (.s 9) (.skip) (.exit 0)) (.n 2))
 | _=>.skip
def body:C:=.seq (.reg [.mv 2 (.i 0)]) (.seq (.seq (.reg [.mv 6 (.s 0),.len 7 (.s 6),.mv 8 (.i 0)]) (.blk 0 (.loop (.n 1)))) (.n 0))
def rs:List RV:=[.t 2]
attribute [push_cast] nd body
theorem ok:okF prog n_term_All nd body 1 rs = true:=by kernel_rfl
abbrev L3 (v6 v7 v8:V) (B:Nat) (H:List Ob) (Q:X→T→List Ob→Prop):Prop:=Run prog nd B [.c (.m 3),.c (.loop (.n 1)),.mk 0,.c (.n 0)] [(6,v6),(7,v7),(8,v8)] H Q
theorem G3 (h:Run prog nd B (.c (nd 3) :: s) t H Q):Run prog nd B (.c (.m 3) :: s) t H Q:=run_m.2 h
end term_All
namespace term_Walk
def nd (_:Nat):C:=.skip
def body:C:=.seq (.reg [.br 1 t_Term (.s 0),.mv 2 (.c .nilf)]) (.seq (.reg [.mf 3 n_term_Walk_1 [] [.s 1],.mv 2 (.s 3)]) (.ret))
def rs:List RV:=[.t 2]
attribute [push_cast] nd body
theorem ok:okF prog n_term_Walk nd body 1 rs = true:=by kernel_rfl
end term_Walk
namespace strings_HasSuffix
def nd (_:Nat):C:=.skip
def body:C:=.seq (.reg [.mv 4 (.c (.bool false))]) (.seq (.reg [.mv 5 (.s 0),.mv 6 (.s 1),.callp (some 7) n_stringslite_HasSuffix [.s 5,.s 6],.mv 4 (.s 7)]) (.ret))
def rs:List RV:=[.t 4]
attribute [push_cast] nd body
theorem ok:okF prog n_strings_HasSuffix nd body 2 rs = true:=by kernel_rfl
end strings_HasSuffix
namespace slices_IndexFunc_s_Rule_Rule
def nd:Nat→C
 | 0=>.seq (.reg [.mv 4 (.i (-1))]) (.ret)
 | 1=>.gh [.ks 0 [0,1,7,8]] (.m 3)
 | 2=>.seq (.blk 1 (.seq (.reg [.mv 10 (.s 8),.mv 5 (.s 10)]) (.seq (.reg [.mv 11 (.s 1),.mv 12 (.s 0),.mv 13 (.s 5),.ia 14 6 (.s 12) (.s 13),.la 15 6 (.s 14),.callvp (some 16) (.s 11) [.s 15]]) (.cond (.s 16) (.seq (.reg [.mv 17 (.s 5),.mv 4 (.s 17)]) (.ret)) (.skip))))) (.reg [.bin 18 .add (.s 8) (.i 1),.mv 8 (.s 18)])
 | 3=>.seq (.reg [.bin 9 .lss (.s 8) (.s 7)]) (.seq (.cond (.s 9) (.skip) (.exit 0)) (.n 2))
 | _=>.skip
def body:C:=.seq (.reg [.mv 4 (.i 0)]) (.seq (.seq (.reg [.mv 6 (.s 0),.len 7 (.s 6),.mv 8 (.i 0)]) (.blk 0 (.loop (.n 1)))) (.n 0))
def rs:List RV:=[.t 4]
attribute [push_cast] nd body
theorem ok:okF prog n_slices_IndexFunc_s_Rule_Rule nd body 2 rs = true:=by kernel_rfl
abbrev L3 (v0 v1 v7 v8:V) (B:Nat) (H:List Ob) (Q:X→T→List Ob→Prop):Prop:=Run prog nd B [.c (.m 3),.c (.loop (.n 1)),.mk 0,.c (.n 0)] [(0,v0),(1,v1),(7,v7),(8,v8)] H Q
theorem G3 (h:Run prog nd B (.c (nd 3) :: s) t H Q):Run prog nd B (.c (.m 3) :: s) t H Q:=run_m.2 h
end slices_IndexFunc_s_Rule_Rule
namespace term_extra_1
def nd (_:Nat):C:=.skip
def body:C:=.seq (.reg [.mv 3 (.c (.bool false))]) (.seq (.reg [.ld 4 (.s 1),.mv 5 (.s 0),.callp (some 6) n_slices_Contains_s_string_string [.s 4,.s 5],.un 7 .not (.s 6),.mv 3 (.s 7)]) (.ret))
def rs:List RV:=[.t 3]
attribute [push_cast] nd body
theorem ok:okF prog n_term_extra_1 nd body 2 rs = true:=by kernel_rfl
end term_extra_1
end Go.Dw
end
section
namespace Go.Dw
variable {s:List K} {B:Nat} {t:T} {H:List Ob} {Q:X→T→List Ob→Prop}
namespace slices_Contains_s_string_string
def nd (_:Nat):C:=.skip
def body:C:=.seq (.reg [.mv 4 (.c (.bool false))]) (.seq (.reg [.mv 5 (.s 0),.mv 6 (.s 1),.callp (some 7) n_slices_Index_s_string_string [.s 5,.s 6],.bin 8 .geq (.s 7) (.i 0),.mv 4 (.s 8)]) (.ret))
def rs:List RV:=[.t 4]
attribute [push_cast] nd body
theorem ok:okF prog n_slices_Contains_s_string_string nd body 2 rs = true:=by kernel_rfl
end slices_Contains_s_string_string
namespace strings_TrimSuffix
def nd (_:Nat):C:=.skip
def body:C:=.seq (.reg [.mv 4 (.c (.str []))]) (.seq (.reg [.mv 5 (.s 0),.mv 6 (.s 1),.callp (some 7) n_stringslite_TrimSuffix [.s 5,.s 6],.mv 4 (.s 7)]) (.ret))
def rs:List RV:=[.t 4]
attribute [push_cast] nd body
theorem ok:okF prog n_strings_TrimSuffix nd body 2 rs = true:=by kernel_rfl
end strings_TrimSuffix
namespace slices_ContainsFunc_s_byte_byte
def nd (_:Nat):C:=.skip
def body:C:=.seq (.reg [.mv 4 (.c (.bool false))]) (.seq (.reg [.mv 5 (.s 0),.mv 6 (.s 1),.callp (some 7) n_slices_IndexFunc_s_byte_byte [.s 5,.s 6],.bin 8 .geq (.s 7) (.i 0),.mv 4 (.s 8)]) (.ret))
def rs:List RV:=[.t 4]
attribute [push_cast] nd body
theorem ok:okF prog n_slices_ContainsFunc_s_byte_byte nd body 2 rs = true:=by kernel_rfl
end slices_ContainsFunc_s_byte_byte
namespace term_IsName_1
def nd (_:Nat):C:=.skip
def body:C:=.seq (.reg [.mv 2 (.c (.bool false))]) (.seq (.reg [.mv 3 (.s 0),.callp (some 4) n_term_inName [.s 3],.un 5 .not (.s 4),.mv 2 (.s 5)]) (.ret))
def rs:List RV:=[.t 2]
attribute [push_cast] nd body
theorem ok:okF prog n_term_IsName_1 nd body 1 rs = true:=by kernel_rfl
end term_IsName_1
namespace term_inName
def nd (_:Nat):C:=.skip
def body:C:=.seq (.reg [.mv 2 (.c (.bool false))]) (.seq (.reg [.mv 3 (.s 0),.bin 4 .geq (.s 3) (.c (.int .u8 97)),.mv 5 (.s 4),.gd (.s 5) true [6,7] [.mv 6 (.s 0),.bin 7 .leq (.s 6) (.c (.int .u8 122))],.pick 8 (.s 5) (.s 7) (.c (.bool false)),.mv 9 (.s 8),.gd (.s 9) false [10,11,12] [.mv 10 (.s 0),.bin 11 .geq (.s 10) (.c (.int .u8 65)),.mv 12 (.s 11)],.gd (.s 12) true [13,14] [.mv 13 (.s 0),.bin 14 .leq (.s 13) (.c (.int .u8 90))],.gd (.s 9) false [15] [.pick 15 (.s 12) (.s 14) (.c (.bool false))],.pick 16 (.s 9) (.c (.bool true)) (.s 15),.mv 17 (.s 16),.gd (.s 17) false [18,19,20] [.mv 18 (.s 0),.bin 19 .geq (.s 18) (.c (.int .u8 48)),.mv 20 (.s 19)],.gd (.s 20) true [21,22] [.mv 21 (.s 0),.bin 22 .leq (.s 21) (.c (.int .u8 57))],.gd (.s 17) false [23] [.pick 23 (.s 20) (.s 22) (.c (.bool false))],.pick 24 (.s 17) (.c (.bool true)) (.s 23),.mv 25 (.s 24),.gd (.s 25) false [26,27] [.mv 26 (.s 0),.bin 27 .eql (.s 26) (.c (.int .u8 95))],.pick 28 (.s 25) (.c (.bool true)) (.s 27),.mv 29 (.s 28),.gd (.s 29) false [30,31] [.mv 30 (.s 0),.bin 31 .eql (.s 30) (.c (.int .u8 39))],.pick 32 (.s 29) (.c (.bool true)) (.s 31),.mv 2 (.s 32)]) (.ret))
def rs:List RV:=[.t 2]
attribute [push_cast] nd body
theorem ok:okF prog n_term_inName nd body 1 rs = true:=by kernel_rfl
end term_inName
namespace r01_CheckAll
def nd:Nat→C
 | 0=>.seq (.reg [.mv 2 (.i 0)]) (.ret)
 | 1=>.gh [.ks 0 [6,7,8]] (.m 3)
 | 2=>.seq (.blk 1 (.seq (.reg [.ia 10 3 (.s 6) (.s 8),.la 11 3 (.s 10),.al 4 t_Term [.str [],.bool false,.sl 3 []],.sf 4 3 (.s 11)]) (.seq (.reg [.la 12 3 (.s 4),.callp (some 13) n_r01_Check [.s 12],.mv 5 (.s 13)]) (.seq (.reg [.mv 14 (.s 5),.bin 15 .neq (.s 14) (.i 0)]) (.cond (.s 15) (.seq (.reg [.mv 16 (.s 5),.mv 2 (.s 16)]) (.ret)) (.skip)))))) (.reg [.bin 17 .add (.s 8) (.i 1),.mv 8 (.s 17)])
 | 3=>.seq (.reg [.bin 9 .lss (.s 8) (.s 7)]) (.seq (.cond (.s 9) (.skip) (.exit 0)) (.n 2))
 | _=>.skip
def body:C:=.seq (.reg [.mv 2 (.i 0)]) (.seq (.seq (.reg [.mv 6 (.s 0),.len 7 (.s 6),.mv 8 (.i 0)]) (.blk 0 (.loop (.n 1)))) (.n 0))
def rs:List RV:=[.t 2]
attribute [push_cast] nd body
theorem ok:okF prog n_r01_CheckAll nd body 1 rs = true:=by kernel_rfl
abbrev L3 (v6 v7 v8:V) (B:Nat) (H:List Ob) (Q:X→T→List Ob→Prop):Prop:=Run prog nd B [.c (.m 3),.c (.loop (.n 1)),.mk 0,.c (.n 0)] [(6,v6),(7,v7),(8,v8)] H Q
theorem G3 (h:Run prog nd B (.c (nd 3) :: s) t H Q):Run prog nd B (.c (.m 3) :: s) t H Q:=run_m.2 h
end r01_CheckAll
namespace r01_symbols
def nd:Nat→C
 | 0=>.seq (.reg [.mv 94 (.s 1),.mv 4 (.s 94),.mv 5 (.c (.bool true))]) (.ret)
 | 1=>.gh [.ks 0 [1,77,78,79]] (.m 3)
 | 2=>.seq (.blk 3 (.seq (.reg [.ia 81 3 (.s 77) (.s 79),.la 82 3 (.s 81),.al 8 t_Term [.str [],.bool false,.sl 3 []],.sf 8 3 (.s 82)]) (.seq (.reg [.la 84 3 (.s 8),.mv 85 (.s 1),.callp (some 86) n_r01_symbols [.s 84,.s 85],.mv 83 (.s 86),.ex 87 (.s 83) 0,.ex 88 (.s 83) 1,.mv 9 (.s 87),.mv 10 (.s 88)]) (.seq (.seq (.reg [.mv 89 (.s 10),.un 90 .not (.s 89)]) (.cond (.s 90) (.seq (.reg [.mv 91 (.s 1),.mv 4 (.s 91),.mv 5 (.c (.bool false))]) (.ret)) (.skip))) (.reg [.mv 92 (.s 9),.mv 1 (.s 92)]))))) (.reg [.bin 93 .add (.s 79) (.i 1),.mv 79 (.s 93)])
 | 3=>.seq (.reg [.bin 80 .lss (.s 79) (.s 78)]) (.seq (.cond (.s 80) (.skip) (.exit 2)) (.n 2))
 | 4=>.seq (.seq (.reg [.fa 76 2 (.s 2),.ld 77 (.s 76),.len 78 (.s 77),.mv 79 (.i 0)]) (.blk 2 (.loop (.n 1)))) (.n 0)
 | 5=>.seq (.seq (.dr [0,1,2,3,4,5,6,7,8] [.mv 66 (.s 1),.mv 67 (.s 6),.ia 68 2 (.s 66) (.s 67),.fa 69 1 (.s 68),.ld 70 (.s 69),.fa 71 2 (.s 2),.ld 72 (.s 71),.len 73 (.s 72),.bin 74 .neq (.s 70) (.s 73)]) (.cond (.s 74) (.seq (.reg [.mv 75 (.s 1),.mv 4 (.s 75),.mv 5 (.c (.bool false))]) (.ret)) (.skip))) (.n 4)
 | 6=>.seq (.seq (.dr [0,1,2,3,4,5,6,7,8,9,10,11,12,13] [.mv 35 (.s 6),.mv 36 (.s 1),.len 37 (.s 36),.bin 38 .eql (.s 35) (.s 37),.mv 39 (.s 38),.gd (.s 39) false [40] [.mv 40 (.s 1)],.gd (.s 39) false [41] [.mv 41 (.s 6)],.gd (.s 39) false [42] [.ia 42 2 (.s 40) (.s 41)],.gd (.s 39) false [43] [.fa 43 0 (.s 42)],.gd (.s 39) false [44] [.ld 44 (.s 43)],.gd (.s 39) false [45] [.fa 45 0 (.s 2)],.gd (.s 39) false [46] [.ld 46 (.s 45)],.gd (.s 39) false [47] [.bin 47 .neq (.s 44) (.s 46)],.pick 48 (.s 39) (.c (.bool true)) (.s 47)]) (.cond (.s 48) (.dr [1,2,3,5,6,7,8,0,4,9,10,11,12,13,14,15,16,17] [.mv 50 (.s 1),.mv 51 (.s 6),.sx 52 2 (.s 50) none (some (.s 51)),.fa 54 0 (.s 2),.ld 55 (.s 54),.fa 56 2 (.s 2),.ld 57 (.s 56),.bo 49 t_Symbol 2 [],.app 53 t_Symbol 2 24 (.s 49) (.s 52),.len 58 (.s 57),.bd 59 [.str [],.int .i64 0] [(0,1,(.s 55)),(1,1,(.s 58))],.bs 60 2 [.s 59],.app 61 t_Symbol 2 24 (.s 53) (.s 60),.mv 62 (.s 1),.mv 63 (.s 6),.sx 64 2 (.s 62) (some (.s 63)) none,.app 65 t_Symbol 2 24 (.s 61) (.s 64),.mv 1 (.s 65)]) (.skip))) (.n 5)
 | 7=>.gh [.ks 0 [1,2,6]] (.m 9)
 | 8=>.blk 1 (.reg [.mv 33 (.s 6),.bin 34 .add (.s 33) (.i 1),.mv 6 (.s 34)])
 | 9=>.seq (.seq (.dr [0,1,2,3,4,5,6,7,8,9,10,11,12,13,14] [.mv 18 (.s 6),.mv 19 (.s 1),.len 20 (.s 19),.bin 21 .lss (.s 18) (.s 20),.mv 22 (.s 21),.gd (.s 22) true [23] [.mv 23 (.s 1)],.gd (.s 22) true [24] [.mv 24 (.s 6)],.gd (.s 22) true [25] [.ia 25 2 (.s 23) (.s 24)],.gd (.s 22) true [26] [.fa 26 0 (.s 25)],.gd (.s 22) true [27] [.ld 27 (.s 26)],.gd (.s 22) true [28] [.fa 28 0 (.s 2)],.gd (.s 22) true [29] [.ld 29 (.s 28)],.gd (.s 22) true [30] [.callp (some 30) n_r01_CompareNames [.s 27,.s 29]],.gd (.s 22) true [31] [.bin 31 .lss (.s 30) (.i 0)],.pick 32 (.s 22) (.s 31) (.c (.bool false))]) (.cond (.s 32) (.skip) (.exit 0))) (.n 8)
 | 10=>.seq (.reg [.mv 6 (.i 0)]) (.seq (.blk 0 (.loop (.n 7))) (.n 6))
 | 11=>.seq (.seq (.reg [.fa 14 0 (.s 2),.ld 15 (.s 14),.callp (some 16) n_r01_Marked [.s 15]]) (.cond (.s 16) (.seq (.reg [.mv 17 (.s 1),.mv 4 (.s 17),.mv 5 (.c (.bool false))]) (.ret)) (.skip))) (.n 10)
 | _=>.skip
def body:C:=.seq (.reg [.br 2 t_Term (.s 0),.mv 4 (.c (.sl 2 [])),.mv 5 (.c (.bool false))]) (.seq (.seq (.reg [.fa 11 1 (.s 2),.ld 12 (.s 11)]) (.cond (.s 12) (.seq (.reg [.mv 13 (.s 1),.mv 4 (.s 13),.mv 5 (.c (.bool true))]) (.ret)) (.skip))) (.n 11))
def rs:List RV:=[.t 4,.t 5]
attribute [push_cast] nd body
theorem ok:okF prog n_r01_symbols nd body 2 rs = true:=by kernel_rfl
abbrev L3 (v1 v77 v78 v79:V) (B:Nat) (H:List Ob) (Q:X→T→List Ob→Prop):Prop:=Run prog nd B [.c (.m 3),.c (.loop (.n 1)),.mk 2,.c (.n 0)] [(1,v1),(77,v77),(78,v78),(79,v79)] H Q
theorem G3 (h:Run prog nd B (.c (nd 3) :: s) t H Q):Run prog nd B (.c (.m 3) :: s) t H Q:=run_m.2 h
abbrev L9 (v1 v2 v6:V) (B:Nat) (H:List Ob) (Q:X→T→List Ob→Prop):Prop:=Run prog nd B [.c (.m 9),.c (.loop (.n 7)),.mk 0,.c (.n 6)] [(1,v1),(2,v2),(6,v6)] H Q
theorem G9 (h:Run prog nd B (.c (nd 9) :: s) t H Q):Run prog nd B (.c (.m 9) :: s) t H Q:=run_m.2 h
end r01_symbols
namespace r01_Count
def nd:Nat→C
 | 0=>.seq (.reg [.mv 29 (.s 5),.mv 4 (.s 29)]) (.ret)
 | 1=>.gh [.ks 0 [1,5,17,18,19]] (.m 3)
 | 2=>.seq (.blk 1 (.seq (.reg [.ia 21 3 (.s 17) (.s 19),.la 22 3 (.s 21),.al 7 t_Term [.str [],.bool false,.sl 3 []],.sf 7 3 (.s 22)]) (.reg [.mv 23 (.s 5),.la 24 3 (.s 7),.mv 25 (.s 1),.callp (some 26) n_r01_Count [.s 24,.s 25],.bin 27 .add (.s 23) (.s 26),.mv 5 (.s 27)]))) (.reg [.bin 28 .add (.s 19) (.i 1),.mv 19 (.s 28)])
 | 3=>.seq (.reg [.bin 20 .lss (.s 19) (.s 18)]) (.seq (.cond (.s 20) (.skip) (.exit 0)) (.n 2))
 | 4=>.seq (.seq (.reg [.fa 16 2 (.s 2),.ld 17 (.s 16),.len 18 (.s 17),.mv 19 (.i 0)]) (.blk 0 (.loop (.n 1)))) (.n 0)
 | _=>.skip
def body:C:=.seq (.reg [.br 2 t_Term (.s 0),.mv 4 (.i 0)]) (.seq (.reg [.mv 5 (.i 0)]) (.seq (.seq (.reg [.fa 8 1 (.s 2),.ld 9 (.s 8),.mv 10 (.s 9),.gd (.s 10) true [11,12,13,14] [.fa 11 0 (.s 2),.ld 12 (.s 11),.mv 13 (.s 1),.bin 14 .eql (.s 12) (.s 13)],.pick 15 (.s 10) (.s 14) (.c (.bool false))]) (.cond (.s 15) (.reg [.mv 5 (.i 1)]) (.skip))) (.n 4)))
def rs:List RV:=[.t 4]
attribute [push_cast] nd body
theorem ok:okF prog n_r01_Count nd body 2 rs = true:=by kernel_rfl
abbrev L3 (v1 v5 v17 v18 v19:V) (B:Nat) (H:List Ob) (Q:X→T→List Ob→Prop):Prop:=Run prog nd B [.c (.m 3),.c (.loop (.n 1)),.mk 0,.c (.n 0)] [(1,v1),(5,v5),(17,v17),(18,v18),(19,v19)] H Q
theorem G3 (h:Run prog nd B (.c (nd 3) :: s) t H Q):Run prog nd B (.c (.m 3) :: s) t H Q:=run_m.2 h
end r01_Count
namespace r01_Marked
def nd (_:Nat):C:=.skip
def body:C:=.seq (.reg [.mv 2 (.c (.bool false))]) (.seq (.reg [.mv 3 (.s 0),.bin 4 .neq (.s 3) (.c (.str [])),.mv 5 (.s 4),.gd (.s 5) true [6,7,8,9,10,11] [.mv 6 (.s 0),.mv 7 (.s 0),.lens 8 (.s 7),.bin 9 .sub (.s 8) (.i 1),.ix 10 (.s 6) (.s 9),.bin 11 .eql (.s 10) (.c (.int .u8 35))],.pick 12 (.s 5) (.s 11) (.c (.bool false)),.mv 2 (.s 12)]) (.ret))
def rs:List RV:=[.t 2]
attribute [push_cast] nd body
theorem ok:okF prog n_r01_Marked nd body 1 rs = true:=by kernel_rfl
end r01_Marked
namespace r01_Letters
def nd:Nat→C
 | 0=>.seq (.reg [.mv 2 (.c (.bool true))]) (.ret)
 | 1=>.gh [.ks 0 [0,5,6]] (.m 3)
 | 2=>.seq (.blk 1 (.seq (.reg [.mv 8 (.s 6),.mv 3 (.s 8)]) (.seq (.reg [.mv 9 (.s 0),.mv 10 (.s 3),.ix 11 (.s 9) (.s 10),.callp (some 12) n_r01_letter [.s 11],.un 13 .not (.s 12)]) (.cond (.s 13) (.seq (.reg [.mv 2 (.c (.bool false))]) (.ret)) (.skip))))) (.reg [.bin 14 .add (.s 6) (.i 1),.mv 6 (.s 14)])
 | 3=>.seq (.reg [.bin 7 .lss (.s 6) (.s 5)]) (.seq (.cond (.s 7) (.skip) (.exit 0)) (.n 2))
 | _=>.skip
def body:C:=.seq (.reg [.mv 2 (.c (.bool false))]) (.seq (.seq (.reg [.mv 4 (.s 0),.lens 5 (.s 4),.mv 6 (.i 0)]) (.blk 0 (.loop (.n 1)))) (.n 0))
def rs:List RV:=[.t 2]
attribute [push_cast] nd body
theorem ok:okF prog n_r01_Letters nd body 1 rs = true:=by kernel_rfl
abbrev L3 (v0 v5 v6:V) (B:Nat) (H:List Ob) (Q:X→T→List Ob→Prop):Prop:=Run prog nd B [.c (.m 3),.c (.loop (.n 1)),.mk 0,.c (.n 0)] [(0,v0),(5,v5),(6,v6)] H Q
theorem G3 (h:Run prog nd B (.c (nd 3) :: s) t H Q):Run prog nd B (.c (.m 3) :: s) t H Q:=run_m.2 h
end r01_Letters
namespace slices_ContainsFunc_s_Term_Term
def nd (_:Nat):C:=.skip
def body:C:=.seq (.reg [.mv 4 (.c (.bool false))]) (.seq (.reg [.mv 5 (.s 0),.mv 6 (.s 1),.callp (some 7) n_slices_IndexFunc_s_Term_Term [.s 5,.s 6],.bin 8 .geq (.s 7) (.i 0),.mv 4 (.s 8)]) (.ret))
def rs:List RV:=[.t 4]
attribute [push_cast] nd body
theorem ok:okF prog n_slices_ContainsFunc_s_Term_Term nd body 2 rs = true:=by kernel_rfl
end slices_ContainsFunc_s_Term_Term
namespace r01_Image
def nd:Nat→C
 | 0=>.seq (.reg [.mv 20 (.s 1),.bd 21 [.str [],.bool false,.sl 3 []] [(0,1,(.s 20)),(1,1,(.c (.bool true)))],.st 3 (.s 4) (.s 21)]) (.ret)
 | 1=>.gh [.ks 1 [1,4,7,8,9]] (.m 3)
 | 2=>.seq (.blk 1 (.seq (.reg [.ia 11 4 (.s 7) (.s 9),.la 12 4 (.s 11),.al 6 t_Bind [.str [],.str [],.bool false,.sl 3 []],.sf 6 4 (.s 12)]) (.seq (.reg [.fa 13 0 (.s 6),.ld 14 (.s 13),.mv 15 (.s 1),.bin 16 .eql (.s 14) (.s 15)]) (.cond (.s 16) (.seq (.reg [.fa 17 1 (.s 6),.la 18 3 (.s 17),.st 3 (.s 4) (.s 18)]) (.ret)) (.skip))))) (.reg [.bin 19 .add (.s 9) (.i 1),.mv 9 (.s 19)])
 | 3=>.seq (.reg [.bin 10 .lss (.s 9) (.s 8)]) (.seq (.cond (.s 10) (.skip) (.exit 0)) (.n 2))
 | _=>.skip
def body:C:=.seq (.reg [.al 4 t_Term [.str [],.bool false,.sl 3 []]]) (.seq (.seq (.reg [.mv 7 (.s 0),.len 8 (.s 7),.mv 9 (.i 0)]) (.blk 0 (.loop (.n 1)))) (.n 0))
def rs:List RV:=[.a 4 3]
attribute [push_cast] nd body
theorem ok:okF prog n_r01_Image nd body 2 rs = true:=by kernel_rfl
abbrev L3 (v1 v4 v7 v8 v9:V) (B:Nat) (H:List Ob) (Q:X→T→List Ob→Prop):Prop:=Run prog nd B [.c (.m 3),.c (.loop (.n 1)),.mk 0,.c (.n 0)] [(1,v1),(4,v4),(7,v7),(8,v8),(9,v9)] H Q
theorem G3 (h:Run prog nd B (.c (nd 3) :: s) t H Q):Run prog nd B (.c (.m 3) :: s) t H Q:=run_m.2 h
end r01_Image
namespace r03_Match
def nd (_:Nat):C:=.skip
def body:C:=.seq (.reg [.br 2 t_Term (.s 0),.br 3 t_Term (.s 1),.mv 4 (.c (.sl 4 [])),.mv 5 (.c (.bool false))]) (.seq (.reg [.la 6 3 (.s 2),.la 7 3 (.s 3),.callp (some 8) n_r03_match [(.c (.sl 4 [])),.s 6,.s 7],.ex 9 (.s 8) 0,.ex 10 (.s 8) 1,.mv 4 (.s 9),.mv 5 (.s 10)]) (.ret))
def rs:List RV:=[.t 4,.t 5]
attribute [push_cast] nd body
theorem ok:okF prog n_r03_Match nd body 2 rs = true:=by kernel_rfl
end r03_Match
namespace term_formed_1
def nd (_:Nat):C:=.skip
def body:C:=.seq (.reg [.br 1 t_Term (.s 0),.mv 2 (.c (.bool false))]) (.seq (.reg [.la 3 3 (.s 1),.callp (some 4) n_term_formed [.s 3],.un 5 .not (.s 4),.mv 2 (.s 5)]) (.ret))
def rs:List RV:=[.t 2]
attribute [push_cast] nd body
theorem ok:okF prog n_term_formed_1 nd body 1 rs = true:=by kernel_rfl
end term_formed_1
namespace term_Size
def nd:Nat→C
 | 0=>.seq (.reg [.mv 18 (.s 3),.mv 2 (.s 18)]) (.ret)
 | 1=>.gh [.ks 0 [3,7,8,9]] (.m 3)
 | 2=>.seq (.blk 1 (.seq (.reg [.ia 11 3 (.s 7) (.s 9),.la 12 3 (.s 11),.al 5 t_Term [.str [],.bool false,.sl 3 []],.sf 5 3 (.s 12)]) (.reg [.mv 13 (.s 3),.la 14 3 (.s 5),.callp (some 15) n_term_Size [.s 14],.bin 16 .add (.s 13) (.s 15),.mv 3 (.s 16)]))) (.reg [.bin 17 .add (.s 9) (.i 1),.mv 9 (.s 17)])
 | 3=>.seq (.reg [.bin 10 .lss (.s 9) (.s 8)]) (.seq (.cond (.s 10) (.skip) (.exit 0)) (.n 2))
 | _=>.skip
def body:C:=.seq (.reg [.br 1 t_Term (.s 0),.mv 2 (.i 0)]) (.seq (.reg [.mv 3 (.i 1)]) (.seq (.seq (.reg [.fa 6 2 (.s 1),.ld 7 (.s 6),.len 8 (.s 7),.mv 9 (.i 0)]) (.blk 0 (.loop (.n 1)))) (.n 0)))
def rs:List RV:=[.t 2]
attribute [push_cast] nd body
theorem ok:okF prog n_term_Size nd body 1 rs = true:=by kernel_rfl
abbrev L3 (v3 v7 v8 v9:V) (B:Nat) (H:List Ob) (Q:X→T→List Ob→Prop):Prop:=Run prog nd B [.c (.m 3),.c (.loop (.n 1)),.mk 0,.c (.n 0)] [(3,v3),(7,v7),(8,v8),(9,v9)] H Q
theorem G3 (h:Run prog nd B (.c (nd 3) :: s) t H Q):Run prog nd B (.c (.m 3) :: s) t H Q:=run_m.2 h
end term_Size
namespace term_Depth
def nd:Nat→C
 | 0=>.seq (.reg [.mv 18 (.s 3),.bin 19 .add (.s 18) (.i 1),.mv 2 (.s 19)]) (.ret)
 | 1=>.gh [.ks 0 [3,7,8,9]] (.m 3)
 | 2=>.seq (.blk 1 (.seq (.reg [.ia 11 3 (.s 7) (.s 9),.la 12 3 (.s 11),.al 5 t_Term [.str [],.bool false,.sl 3 []],.sf 5 3 (.s 12)]) (.reg [.mv 13 (.s 3),.la 14 3 (.s 5),.callp (some 15) n_term_Depth [.s 14],.mx 16 (.s 13) (.s 15),.mv 3 (.s 16)]))) (.reg [.bin 17 .add (.s 9) (.i 1),.mv 9 (.s 17)])
 | 3=>.seq (.reg [.bin 10 .lss (.s 9) (.s 8)]) (.seq (.cond (.s 10) (.skip) (.exit 0)) (.n 2))
 | _=>.skip
def body:C:=.seq (.reg [.br 1 t_Term (.s 0),.mv 2 (.i 0)]) (.seq (.reg [.mv 3 (.i 0)]) (.seq (.seq (.reg [.fa 6 2 (.s 1),.ld 7 (.s 6),.len 8 (.s 7),.mv 9 (.i 0)]) (.blk 0 (.loop (.n 1)))) (.n 0)))
def rs:List RV:=[.t 2]
attribute [push_cast] nd body
theorem ok:okF prog n_term_Depth nd body 1 rs = true:=by kernel_rfl
abbrev L3 (v3 v7 v8 v9:V) (B:Nat) (H:List Ob) (Q:X→T→List Ob→Prop):Prop:=Run prog nd B [.c (.m 3),.c (.loop (.n 1)),.mk 0,.c (.n 0)] [(3,v3),(7,v7),(8,v8),(9,v9)] H Q
theorem G3 (h:Run prog nd B (.c (nd 3) :: s) t H Q):Run prog nd B (.c (.m 3) :: s) t H Q:=run_m.2 h
end term_Depth
namespace r24_Symbols
def nd:Nat→C
 | 0=>.seq (.reg [.mv 34 (.s 3),.mv 2 (.s 34)]) (.ret)
 | 1=>.gh [.ks 1 [3,10,11,12]] (.m 3)
 | 2=>.seq (.blk 1 (.seq (.reg [.ia 14 6 (.s 10) (.s 12),.la 15 6 (.s 14),.al 5 t_Rule [.str [],.bool false,.sl 3 [],.str [],.bool false,.sl 3 []],.sf 5 6 (.s 15)]) (.seq (.reg [.fa 17 0 (.s 5),.la 18 3 (.s 17),.callp (some 19) n_r24_Word [.s 18],.mv 16 (.s 19),.ex 20 (.s 16) 0,.ex 21 (.s 16) 1,.al 7 t_Term [.str [],.bool false,.sl 3 []],.mv 6 (.s 20),.sf 7 3 (.s 21)]) (.seq (.reg [.fa 23 3 (.s 5),.la 24 3 (.s 23),.callp (some 25) n_r24_Word [.s 24],.mv 22 (.s 25),.ex 26 (.s 22) 0,.ex 27 (.s 22) 1,.al 9 t_Term [.str [],.bool false,.sl 3 []],.mv 8 (.s 26),.sf 9 3 (.s 27)]) (.reg [.mv 28 (.s 3),.mv 29 (.s 6),.app 30 t_string 1 16 (.s 28) (.s 29),.mv 31 (.s 8),.app 32 t_string 1 16 (.s 30) (.s 31),.mv 3 (.s 32)]))))) (.reg [.bin 33 .add (.s 12) (.i 1),.mv 12 (.s 33)])
 | 3=>.seq (.reg [.bin 13 .lss (.s 12) (.s 11)]) (.seq (.cond (.s 13) (.skip) (.exit 0)) (.n 2))
 | _=>.skip
def body:C:=.seq (.reg [.mv 2 (.c (.sl 1 []))]) (.seq (.reg [.mv 3 (.c .nil),.non 3 t_string 1]) (.seq (.seq (.reg [.mv 10 (.s 0),.len 11 (.s 10),.mv 12 (.i 0)]) (.blk 0 (.loop (.n 1)))) (.n 0)))
def rs:List RV:=[.t 2]
attribute [push_cast] nd body
theorem ok:okF prog n_r24_Symbols nd body 1 rs = true:=by kernel_rfl
abbrev L3 (v3 v10 v11 v12:V) (B:Nat) (H:List Ob) (Q:X→T→List Ob→Prop):Prop:=Run prog nd B [.c (.m 3),.c (.loop (.n 1)),.mk 0,.c (.n 0)] [(3,v3),(10,v10),(11,v11),(12,v12)] H Q
theorem G3 (h:Run prog nd B (.c (nd 3) :: s) t H Q):Run prog nd B (.c (.m 3) :: s) t H Q:=run_m.2 h
end r24_Symbols
namespace r24_has
def nd:Nat→C
 | 0=>.seq (.reg [.mv 4 (.c (.bool false))]) (.ret)
 | 1=>.gh [.ks 0 [3,8,9,10]] (.m 3)
 | 2=>.seq (.blk 1 (.seq (.reg [.ia 12 4 (.s 8) (.s 10),.la 13 4 (.s 12),.al 6 t_Move [.int .i64 0,.int .i64 0,.str [],.int .i64 0],.sf 6 4 (.s 13)]) (.seq (.reg [.la 14 4 (.s 3),.la 15 4 (.s 6),.eqs 16 false [false,false,true,false] (.s 14) (.s 15)]) (.cond (.s 16) (.seq (.reg [.mv 4 (.c (.bool true))]) (.ret)) (.skip))))) (.reg [.bin 17 .add (.s 10) (.i 1),.mv 10 (.s 17)])
 | 3=>.seq (.reg [.bin 11 .lss (.s 10) (.s 9)]) (.seq (.cond (.s 11) (.skip) (.exit 0)) (.n 2))
 | _=>.skip
def body:C:=.seq (.reg [.br 2 t_Automaton (.s 0),.br 3 t_Move (.s 1),.mv 4 (.c (.bool false))]) (.seq (.seq (.reg [.fa 7 2 (.s 2),.ld 8 (.s 7),.len 9 (.s 8),.mv 10 (.i 0)]) (.blk 0 (.loop (.n 1)))) (.n 0))
def rs:List RV:=[.t 4]
attribute [push_cast] nd body
theorem ok:okF prog n_r24_has nd body 2 rs = true:=by kernel_rfl
abbrev L3 (v3 v8 v9 v10:V) (B:Nat) (H:List Ob) (Q:X→T→List Ob→Prop):Prop:=Run prog nd B [.c (.m 3),.c (.loop (.n 1)),.mk 0,.c (.n 0)] [(3,v3),(8,v8),(9,v9),(10,v10)] H Q
theorem G3 (h:Run prog nd B (.c (nd 3) :: s) t H Q):Run prog nd B (.c (.m 3) :: s) t H Q:=run_m.2 h
end r24_has
namespace r24_Reach
def nd:Nat→C
 | 0=>.seq (.reg [.mv 100 (.s 7),.mv 6 (.s 100)]) (.ret)
 | 1=>.gh [.kt [3,7,41,42,43]] (.m 14)
 | 2=>.gh [.kt [3,7,10,11,41,42,43,64,65,66]] (.m 8)
 | 3=>.gh [.kt [3,7,10,11,14,41,42,43,64,65,66,78,79,80]] (.m 5)
 | 4=>.seq (.blk 9 (.seq (.reg [.mv 82 (.s 80),.ia 83 1 (.s 78) (.s 80),.ld 84 (.s 83),.mv 15 (.s 82),.mv 16 (.s 84)]) (.seq (.reg [.mv 85 (.s 16)]) (.cond (.s 85) (.dr [0,1,2,3,4,5,6,7,8,9,10] [.mv 86 (.s 11),.fa 87 1 (.s 14),.ld 88 (.s 87),.ia 89 1 (.s 86) (.s 88),.ld 90 (.s 89),.mv 91 (.s 15),.fa 92 3 (.s 14),.ld 93 (.s 92),.mn 94 (.s 91) (.s 93),.ia 95 1 (.s 90) (.s 94),.st 1 (.s 95) (.c (.bool true))]) (.skip))))) (.reg [.bin 96 .add (.s 80) (.i 1),.mv 80 (.s 96)])
 | 5=>.seq (.reg [.bin 81 .lss (.s 80) (.s 79)]) (.seq (.cond (.s 81) (.skip) (.exit 8)) (.n 4))
 | 6=>.seq (.reg [.mv 74 (.s 7),.fa 75 0 (.s 14),.ld 76 (.s 75),.ia 77 1 (.s 74) (.s 76),.ld 78 (.s 77),.len 79 (.s 78),.mv 80 (.i 0)]) (.blk 8 (.loop (.n 3)))
 | 7=>.seq (.blk 7 (.seq (.reg [.ia 68 4 (.s 64) (.s 66),.la 69 4 (.s 68),.al 14 t_Move [.int .i64 0,.int .i64 0,.str [],.int .i64 0],.sf 14 4 (.s 69)]) (.seq (.seq (.reg [.fa 70 2 (.s 14),.ld 71 (.s 70),.mv 72 (.s 10),.bin 73 .neq (.s 71) (.s 72)]) (.cond (.s 73) (.exit 7) (.skip))) (.n 6)))) (.reg [.bin 97 .add (.s 66) (.i 1),.mv 66 (.s 97)])
 | 8=>.seq (.reg [.bin 67 .lss (.s 66) (.s 65)]) (.seq (.cond (.s 67) (.skip) (.exit 6)) (.n 7))
 | 9=>.seq (.seq (.reg [.fa 63 2 (.s 3),.ld 64 (.s 63),.len 65 (.s 64),.mv 66 (.i 0)]) (.blk 6 (.loop (.n 2)))) (.reg [.mv 98 (.s 11),.mv 7 (.s 98)])
 | 10=>.gh [.kt [3,7,10,11,41,42,43,51,52]] (.m 12)
 | 11=>.seq (.blk 5 (.seq (.reg [.mv 54 (.s 52),.mv 12 (.s 54)]) (.reg [.mv 55 (.s 11),.mv 56 (.s 12),.fa 57 1 (.s 3),.ld 58 (.s 57),.bin 59 .add (.s 58) (.i 2),.mk 60 t_bool 1 1 [.bool false] (.s 59),.ia 61 1 (.s 55) (.s 56),.st 1 (.s 61) (.s 60)]))) (.reg [.bin 62 .add (.s 52) (.i 1),.mv 52 (.s 62)])
 | 12=>.seq (.reg [.bin 53 .lss (.s 52) (.s 51)]) (.seq (.cond (.s 53) (.skip) (.exit 4)) (.n 11))
 | 13=>.seq (.blk 3 (.seq (.reg [.ia 45 1 (.s 41) (.s 43),.ld 46 (.s 45),.mv 10 (.s 46)]) (.seq (.reg [.fa 47 0 (.s 3),.ld 48 (.s 47),.mk 49 t_s_bool 1 24 [.sl 1 []] (.s 48),.mv 11 (.s 49)]) (.seq (.seq (.reg [.mv 50 (.s 11),.len 51 (.s 50),.mv 52 (.i 0)]) (.blk 4 (.loop (.n 10)))) (.n 9))))) (.reg [.bin 99 .add (.s 43) (.i 1),.mv 43 (.s 99)])
 | 14=>.seq (.reg [.bin 44 .lss (.s 43) (.s 42)]) (.seq (.cond (.s 44) (.skip) (.exit 2)) (.n 13))
 | 15=>.seq (.dr [0,1,2,3,4,5,6,7,8] [.mv 33 (.s 7),.mv 34 (.s 1),.ia 35 1 (.s 33) (.s 34),.ld 36 (.s 35),.fa 37 1 (.s 3),.ld 38 (.s 37),.bin 39 .add (.s 38) (.i 1),.ia 40 1 (.s 36) (.s 39),.st 1 (.s 40) (.c (.bool true))]) (.seq (.seq (.reg [.mv 41 (.s 2),.len 42 (.s 41),.mv 43 (.i 0)]) (.blk 2 (.loop (.n 1)))) (.n 0))
 | 16=>.gh [.kt [1,2,3,7,21,22]] (.m 18)
 | 17=>.seq (.blk 1 (.seq (.reg [.mv 24 (.s 22),.mv 8 (.s 24)]) (.reg [.mv 25 (.s 7),.mv 26 (.s 8),.fa 27 1 (.s 3),.ld 28 (.s 27),.bin 29 .add (.s 28) (.i 2),.mk 30 t_bool 1 1 [.bool false] (.s 29),.ia 31 1 (.s 25) (.s 26),.st 1 (.s 31) (.s 30)]))) (.reg [.bin 32 .add (.s 22) (.i 1),.mv 22 (.s 32)])
 | 18=>.seq (.reg [.bin 23 .lss (.s 22) (.s 21)]) (.seq (.cond (.s 23) (.skip) (.exit 0)) (.n 17))
 | _=>.skip
def body:C:=.seq (.reg [.br 3 t_Automaton (.s 0),.mv 6 (.c (.sl 1 []))]) (.seq (.reg [.fa 17 0 (.s 3),.ld 18 (.s 17),.mk 19 t_s_bool 1 24 [.sl 1 []] (.s 18),.mv 7 (.s 19)]) (.seq (.seq (.reg [.mv 20 (.s 7),.len 21 (.s 20),.mv 22 (.i 0)]) (.blk 0 (.loop (.n 16)))) (.n 15)))
def rs:List RV:=[.t 6]
attribute [push_cast] nd body
theorem ok:okF prog n_r24_Reach nd body 3 rs = true:=by kernel_rfl
abbrev L5 (v3 v7 v10 v11 v14 v41 v42 v43 v64 v65 v66 v78 v79 v80:V) (B:Nat) (H:List Ob) (Q:X→T→List Ob→Prop):Prop:=Run prog nd B [.c (.m 5),.c (.loop (.n 3)),.mk 8,.mk 7,.c (.reg [.bin 97 .add (.s 66) (.i 1),.mv 66 (.s 97)]),.c (.loop (.n 2)),.mk 6,.c (.reg [.mv 98 (.s 11),.mv 7 (.s 98)]),.mk 3,.c (.reg [.bin 99 .add (.s 43) (.i 1),.mv 43 (.s 99)]),.c (.loop (.n 1)),.mk 2,.c (.n 0)] [(3,v3),(7,v7),(10,v10),(11,v11),(14,v14),(41,v41),(42,v42),(43,v43),(64,v64),(65,v65),(66,v66),(78,v78),(79,v79),(80,v80)] H Q
theorem G5 (h:Run prog nd B (.c (nd 5) :: s) t H Q):Run prog nd B (.c (.m 5) :: s) t H Q:=run_m.2 h
abbrev L8 (v3 v7 v10 v11 v41 v42 v43 v64 v65 v66:V) (B:Nat) (H:List Ob) (Q:X→T→List Ob→Prop):Prop:=Run prog nd B [.c (.m 8),.c (.loop (.n 2)),.mk 6,.c (.reg [.mv 98 (.s 11),.mv 7 (.s 98)]),.mk 3,.c (.reg [.bin 99 .add (.s 43) (.i 1),.mv 43 (.s 99)]),.c (.loop (.n 1)),.mk 2,.c (.n 0)] [(3,v3),(7,v7),(10,v10),(11,v11),(41,v41),(42,v42),(43,v43),(64,v64),(65,v65),(66,v66)] H Q
theorem G8 (h:Run prog nd B (.c (nd 8) :: s) t H Q):Run prog nd B (.c (.m 8) :: s) t H Q:=run_m.2 h
abbrev L12 (v3 v7 v10 v11 v41 v42 v43 v51 v52:V) (B:Nat) (H:List Ob) (Q:X→T→List Ob→Prop):Prop:=Run prog nd B [.c (.m 12),.c (.loop (.n 10)),.mk 4,.c (.n 9),.mk 3,.c (.reg [.bin 99 .add (.s 43) (.i 1),.mv 43 (.s 99)]),.c (.loop (.n 1)),.mk 2,.c (.n 0)] [(3,v3),(7,v7),(10,v10),(11,v11),(41,v41),(42,v42),(43,v43),(51,v51),(52,v52)] H Q
theorem G12 (h:Run prog nd B (.c (nd 12) :: s) t H Q):Run prog nd B (.c (.m 12) :: s) t H Q:=run_m.2 h
abbrev L14 (v3 v7 v41 v42 v43:V) (B:Nat) (H:List Ob) (Q:X→T→List Ob→Prop):Prop:=Run prog nd B [.c (.m 14),.c (.loop (.n 1)),.mk 2,.c (.n 0)] [(3,v3),(7,v7),(41,v41),(42,v42),(43,v43)] H Q
theorem G14 (h:Run prog nd B (.c (nd 14) :: s) t H Q):Run prog nd B (.c (.m 14) :: s) t H Q:=run_m.2 h
abbrev L18 (v1 v2 v3 v7 v21 v22:V) (B:Nat) (H:List Ob) (Q:X→T→List Ob→Prop):Prop:=Run prog nd B [.c (.m 18),.c (.loop (.n 16)),.mk 0,.c (.n 15)] [(1,v1),(2,v2),(3,v3),(7,v7),(21,v21),(22,v22)] H Q
theorem G18 (h:Run prog nd B (.c (nd 18) :: s) t H Q):Run prog nd B (.c (.m 18) :: s) t H Q:=run_m.2 h
end r24_Reach
namespace r24_Reads
def nd:Nat→C
 | 0=>.seq (.reg [.mv 72 (.s 11),.mv 73 (.s 2),.callp (some 74) n_r24_contains [.s 72,.s 73],.mv 10 (.s 74)]) (.ret)
 | 1=>.gh [.ks 0 [2,4,5,11,21,22,23]] (.m 9)
 | 2=>.gh [.ks 1 [2,4,5,13,14,21,22,23,27,28,29]] (.m 7)
 | 3=>.gh [.ks 1 [2,4,5,13,14,16,21,22,23,27,28,29,34,35,36]] (.m 5)
 | 4=>.seq (.blk 5 (.seq (.reg [.ia 38 4 (.s 34) (.s 36),.la 39 4 (.s 38),.al 18 t_Move [.int .i64 0,.int .i64 0,.str [],.int .i64 0],.sf 18 4 (.s 39)]) (.seq (.reg [.fa 40 0 (.s 18),.ld 41 (.s 40),.mv 42 (.s 16),.bin 43 .eql (.s 41) (.s 42),.mv 44 (.s 43),.gd (.s 44) true [45,46,47,48] [.fa 45 2 (.s 18),.ld 46 (.s 45),.mv 47 (.s 13),.bin 48 .eql (.s 46) (.s 47)],.pick 49 (.s 44) (.s 48) (.c (.bool false)),.mv 50 (.s 49),.gd (.s 50) true [51,52,53,54] [.fa 51 3 (.s 18),.ld 52 (.s 51),.mv 53 (.s 4),.bin 54 .eql (.s 52) (.s 53)],.pick 55 (.s 50) (.s 54) (.c (.bool false)),.mv 56 (.s 55),.gd (.s 56) true [57,58,59,60,61] [.mv 57 (.s 14),.fa 58 1 (.s 18),.ld 59 (.s 58),.callp (some 60) n_r24_contains [.s 57,.s 59],.un 61 .not (.s 60)],.pick 62 (.s 56) (.s 61) (.c (.bool false))]) (.cond (.s 62) (.reg [.mv 63 (.s 14),.fa 64 1 (.s 18),.ld 65 (.s 64),.bs 66 1 [.s 65],.app 67 t_int 1 8 (.s 63) (.s 66),.mv 14 (.s 67)]) (.skip))))) (.reg [.bin 68 .add (.s 36) (.i 1),.mv 36 (.s 68)])
 | 5=>.seq (.reg [.bin 37 .lss (.s 36) (.s 35)]) (.seq (.cond (.s 37) (.skip) (.exit 4)) (.n 4))
 | 6=>.seq (.blk 3 (.seq (.reg [.ia 31 1 (.s 27) (.s 29),.ld 32 (.s 31),.mv 16 (.s 32)]) (.seq (.reg [.fa 33 2 (.s 5),.ld 34 (.s 33),.len 35 (.s 34),.mv 36 (.i 0)]) (.blk 4 (.loop (.n 3)))))) (.reg [.bin 69 .add (.s 29) (.i 1),.mv 29 (.s 69)])
 | 7=>.seq (.reg [.bin 30 .lss (.s 29) (.s 28)]) (.seq (.cond (.s 30) (.skip) (.exit 2)) (.n 6))
 | 8=>.seq (.blk 1 (.seq (.reg [.ia 25 1 (.s 21) (.s 23),.ld 26 (.s 25),.mv 13 (.s 26)]) (.seq (.reg [.mv 14 (.c .nil),.non 14 t_int 1]) (.seq (.seq (.reg [.mv 27 (.s 11),.len 28 (.s 27),.mv 29 (.i 0)]) (.blk 2 (.loop (.n 2)))) (.reg [.mv 70 (.s 14),.mv 11 (.s 70)]))))) (.reg [.bin 71 .add (.s 23) (.i 1),.mv 23 (.s 71)])
 | 9=>.seq (.reg [.bin 24 .lss (.s 23) (.s 22)]) (.seq (.cond (.s 24) (.skip) (.exit 0)) (.n 8))
 | _=>.skip
def body:C:=.seq (.reg [.br 5 t_Automaton (.s 0),.mv 10 (.c (.bool false))]) (.seq (.reg [.mv 19 (.s 1),.bs 20 1 [.s 19],.mv 11 (.s 20)]) (.seq (.seq (.reg [.mv 21 (.s 3),.len 22 (.s 21),.mv 23 (.i 0)]) (.blk 0 (.loop (.n 1)))) (.n 0)))
def rs:List RV:=[.t 10]
attribute [push_cast] nd body
theorem ok:okF prog n_r24_Reads nd body 5 rs = true:=by kernel_rfl
abbrev L5 (v2 v4 v5 v13 v14 v16 v21 v22 v23 v27 v28 v29 v34 v35 v36:V) (B:Nat) (H:List Ob) (Q:X→T→List Ob→Prop):Prop:=Run prog nd B [.c (.m 5),.c (.loop (.n 3)),.mk 4,.mk 3,.c (.reg [.bin 69 .add (.s 29) (.i 1),.mv 29 (.s 69)]),.c (.loop (.n 2)),.mk 2,.c (.reg [.mv 70 (.s 14),.mv 11 (.s 70)]),.mk 1,.c (.reg [.bin 71 .add (.s 23) (.i 1),.mv 23 (.s 71)]),.c (.loop (.n 1)),.mk 0,.c (.n 0)] [(2,v2),(4,v4),(5,v5),(13,v13),(14,v14),(16,v16),(21,v21),(22,v22),(23,v23),(27,v27),(28,v28),(29,v29),(34,v34),(35,v35),(36,v36)] H Q
theorem G5 (h:Run prog nd B (.c (nd 5) :: s) t H Q):Run prog nd B (.c (.m 5) :: s) t H Q:=run_m.2 h
abbrev L7 (v2 v4 v5 v13 v14 v21 v22 v23 v27 v28 v29:V) (B:Nat) (H:List Ob) (Q:X→T→List Ob→Prop):Prop:=Run prog nd B [.c (.m 7),.c (.loop (.n 2)),.mk 2,.c (.reg [.mv 70 (.s 14),.mv 11 (.s 70)]),.mk 1,.c (.reg [.bin 71 .add (.s 23) (.i 1),.mv 23 (.s 71)]),.c (.loop (.n 1)),.mk 0,.c (.n 0)] [(2,v2),(4,v4),(5,v5),(13,v13),(14,v14),(21,v21),(22,v22),(23,v23),(27,v27),(28,v28),(29,v29)] H Q
theorem G7 (h:Run prog nd B (.c (nd 7) :: s) t H Q):Run prog nd B (.c (.m 7) :: s) t H Q:=run_m.2 h
abbrev L9 (v2 v4 v5 v11 v21 v22 v23:V) (B:Nat) (H:List Ob) (Q:X→T→List Ob→Prop):Prop:=Run prog nd B [.c (.m 9),.c (.loop (.n 1)),.mk 0,.c (.n 0)] [(2,v2),(4,v4),(5,v5),(11,v11),(21,v21),(22,v22),(23,v23)] H Q
theorem G9 (h:Run prog nd B (.c (nd 9) :: s) t H Q):Run prog nd B (.c (.m 9) :: s) t H Q:=run_m.2 h
end r24_Reads
namespace cmp_Or_int
def nd:Nat→C
 | 0=>.seq (.reg [.mv 17 (.s 3),.mv 2 (.s 17)]) (.ret)
 | 1=>.gh [.ks 0 [3,6,7,8]] (.m 3)
 | 2=>.seq (.blk 1 (.seq (.reg [.ia 10 1 (.s 6) (.s 8),.ld 11 (.s 10),.mv 5 (.s 11)]) (.seq (.reg [.mv 12 (.s 5),.mv 13 (.s 3),.bin 14 .neq (.s 12) (.s 13)]) (.cond (.s 14) (.seq (.reg [.mv 15 (.s 5),.mv 2 (.s 15)]) (.ret)) (.skip))))) (.reg [.bin 16 .add (.s 8) (.i 1),.mv 8 (.s 16)])
 | 3=>.seq (.reg [.bin 9 .lss (.s 8) (.s 7)]) (.seq (.cond (.s 9) (.skip) (.exit 0)) (.n 2))
 | _=>.skip
def body:C:=.seq (.reg [.mv 2 (.i 0)]) (.seq (.reg [.mv 3 (.i 0)]) (.seq (.seq (.reg [.mv 6 (.s 0),.len 7 (.s 6),.mv 8 (.i 0)]) (.blk 0 (.loop (.n 1)))) (.n 0)))
def rs:List RV:=[.t 2]
attribute [push_cast] nd body
theorem ok:okF prog n_cmp_Or_int nd body 1 rs = true:=by kernel_rfl
abbrev L3 (v3 v6 v7 v8:V) (B:Nat) (H:List Ob) (Q:X→T→List Ob→Prop):Prop:=Run prog nd B [.c (.m 3),.c (.loop (.n 1)),.mk 0,.c (.n 0)] [(3,v3),(6,v6),(7,v7),(8,v8)] H Q
theorem G3 (h:Run prog nd B (.c (nd 3) :: s) t H Q):Run prog nd B (.c (.m 3) :: s) t H Q:=run_m.2 h
end cmp_Or_int
namespace cmp_Compare_string
def nd:Nat→C
 | 0=>.seq (.reg [.mv 4 (.i 0)]) (.ret)
 | 1=>.seq (.seq (.reg [.mv 17 (.s 0),.mv 18 (.s 1),.bin 19 .gtr (.s 17) (.s 18)]) (.cond (.s 19) (.seq (.reg [.mv 4 (.i 1)]) (.ret)) (.skip))) (.n 0)
 | 2=>.seq (.seq (.reg [.mv 14 (.s 0),.mv 15 (.s 1),.bin 16 .lss (.s 14) (.s 15)]) (.cond (.s 16) (.seq (.reg [.mv 4 (.i (-1))]) (.ret)) (.skip))) (.n 1)
 | 3=>.seq (.seq (.reg [.mv 13 (.s 6)]) (.cond (.s 13) (.seq (.reg [.mv 4 (.i 1)]) (.ret)) (.skip))) (.n 2)
 | 4=>.seq (.reg [.mv 4 (.i (-1))]) (.ret)
 | _=>.skip
def body:C:=.seq (.reg [.mv 4 (.i 0)]) (.seq (.reg [.mv 7 (.s 0),.callp (some 8) n_cmp_isNaN_string [.s 7],.mv 5 (.s 8)]) (.seq (.reg [.mv 9 (.s 1),.callp (some 10) n_cmp_isNaN_string [.s 9],.mv 6 (.s 10)]) (.seq (.seq (.reg [.mv 11 (.s 5)]) (.cond (.s 11) (.seq (.seq (.reg [.mv 12 (.s 6)]) (.cond (.s 12) (.seq (.reg [.mv 4 (.i 0)]) (.ret)) (.skip))) (.n 4)) (.skip))) (.n 3))))
def rs:List RV:=[.t 4]
attribute [push_cast] nd body
theorem ok:okF prog n_cmp_Compare_string nd body 2 rs = true:=by kernel_rfl
end cmp_Compare_string
namespace slices_IndexFunc_s_string_string
def nd:Nat→C
 | 0=>.seq (.reg [.mv 4 (.i (-1))]) (.ret)
 | 1=>.gh [.ks 0 [0,1,7,8]] (.m 3)
 | 2=>.seq (.blk 1 (.seq (.reg [.mv 10 (.s 8),.mv 5 (.s 10)]) (.seq (.reg [.mv 11 (.s 1),.mv 12 (.s 0),.mv 13 (.s 5),.ia 14 1 (.s 12) (.s 13),.ld 15 (.s 14),.callvp (some 16) (.s 11) [.s 15]]) (.cond (.s 16) (.seq (.reg [.mv 17 (.s 5),.mv 4 (.s 17)]) (.ret)) (.skip))))) (.reg [.bin 18 .add (.s 8) (.i 1),.mv 8 (.s 18)])
 | 3=>.seq (.reg [.bin 9 .lss (.s 8) (.s 7)]) (.seq (.cond (.s 9) (.skip) (.exit 0)) (.n 2))
 | _=>.skip
def body:C:=.seq (.reg [.mv 4 (.i 0)]) (.seq (.seq (.reg [.mv 6 (.s 0),.len 7 (.s 6),.mv 8 (.i 0)]) (.blk 0 (.loop (.n 1)))) (.n 0))
def rs:List RV:=[.t 4]
attribute [push_cast] nd body
theorem ok:okF prog n_slices_IndexFunc_s_string_string nd body 2 rs = true:=by kernel_rfl
abbrev L3 (v0 v1 v7 v8:V) (B:Nat) (H:List Ob) (Q:X→T→List Ob→Prop):Prop:=Run prog nd B [.c (.m 3),.c (.loop (.n 1)),.mk 0,.c (.n 0)] [(0,v0),(1,v1),(7,v7),(8,v8)] H Q
theorem G3 (h:Run prog nd B (.c (nd 3) :: s) t H Q):Run prog nd B (.c (.m 3) :: s) t H Q:=run_m.2 h
end slices_IndexFunc_s_string_string
namespace bounds_graph_linked_1
def nd (_:Nat):C:=.skip
def body:C:=.seq (.reg [.mv 3 (.c (.bool false))]) (.seq (.reg [.mv 4 (.s 0),.ld 5 (.s 1),.bin 6 .eql (.s 4) (.s 5),.mv 3 (.s 6)]) (.ret))
def rs:List RV:=[.t 3]
attribute [push_cast] nd body
theorem ok:okF prog n_bounds_graph_linked_1 nd body 2 rs = true:=by kernel_rfl
end bounds_graph_linked_1
namespace slices_ContainsFunc_s_bounds_spot_bounds_spot
def nd (_:Nat):C:=.skip
def body:C:=.seq (.reg [.mv 4 (.c (.bool false))]) (.seq (.reg [.mv 5 (.s 0),.mv 6 (.s 1),.callp (some 7) n_slices_IndexFunc_s_bounds_spot_bounds_spot [.s 5,.s 6],.bin 8 .geq (.s 7) (.i 0),.mv 4 (.s 8)]) (.ret))
def rs:List RV:=[.t 4]
attribute [push_cast] nd body
theorem ok:okF prog n_slices_ContainsFunc_s_bounds_spot_bounds_spot nd body 2 rs = true:=by kernel_rfl
end slices_ContainsFunc_s_bounds_spot_bounds_spot
namespace bounds_graph_linked_2
def nd (_:Nat):C:=.skip
def body:C:=.seq (.reg [.br 2 t_bounds_spot (.s 0),.mv 3 (.c (.bool false))]) (.seq (.reg [.fa 4 0 (.s 2),.ld 5 (.s 4),.ld 6 (.s 1),.bin 7 .eql (.s 5) (.s 6),.mv 3 (.s 7)]) (.ret))
def rs:List RV:=[.t 3]
attribute [push_cast] nd body
theorem ok:okF prog n_bounds_graph_linked_2 nd body 2 rs = true:=by kernel_rfl
end bounds_graph_linked_2
namespace bounds_graph_reads_1
def nd (_:Nat):C:=.skip
def body:C:=.seq (.reg [.br 2 t_bounds_spot (.s 0),.br 3 t_bounds_spot (.s 1),.mv 4 (.i 0)]) (.seq (.dr [0,1,2,3,4,5,6,7,8,9,10,11,12] [.fa 5 0 (.s 2),.ld 6 (.s 5),.fa 7 0 (.s 3),.ld 8 (.s 7),.callp (some 9) n_cmp_Compare_int [.s 6,.s 8],.fa 10 1 (.s 2),.ld 11 (.s 10),.fa 12 1 (.s 3),.ld 13 (.s 12),.callp (some 14) n_cmp_Compare_int [.s 11,.s 13],.bs 15 1 [.s 9,.s 14],.callp (some 16) n_cmp_Or_int [.s 15],.mv 4 (.s 16)]) (.ret))
def rs:List RV:=[.t 4]
attribute [push_cast] nd body
theorem ok:okF prog n_bounds_graph_reads_1 nd body 2 rs = true:=by kernel_rfl
end bounds_graph_reads_1
namespace bounds_longest_1
def nd (_:Nat):C:=.skip
def body:C:=.seq (.reg [.mv 3 (.c (.bool false))]) (.seq (.reg [.mv 4 (.s 0),.ld 5 (.s 1),.bin 6 .eql (.s 4) (.s 5),.mv 3 (.s 6)]) (.ret))
def rs:List RV:=[.t 3]
attribute [push_cast] nd body
theorem ok:okF prog n_bounds_longest_1 nd body 2 rs = true:=by kernel_rfl
end bounds_longest_1
namespace cmp_isNaN_int
def nd (_:Nat):C:=.skip
def body:C:=.seq (.reg [.mv 2 (.c (.bool false))]) (.seq (.reg [.mv 3 (.s 0),.mv 4 (.s 0),.bin 5 .neq (.s 3) (.s 4),.mv 2 (.s 5)]) (.ret))
def rs:List RV:=[.t 2]
attribute [push_cast] nd body
theorem ok:okF prog n_cmp_isNaN_int nd body 1 rs = true:=by kernel_rfl
end cmp_isNaN_int
namespace r01_collect
def nd:Nat→C
 | 0=>.seq (.reg [.mv 24 (.s 1),.mv 4 (.s 24)]) (.ret)
 | 1=>.gh [.ks 0 [1,14,15,16]] (.m 3)
 | 2=>.seq (.blk 1 (.seq (.reg [.ia 18 3 (.s 14) (.s 16),.la 19 3 (.s 18),.al 6 t_Term [.str [],.bool false,.sl 3 []],.sf 6 3 (.s 19)]) (.reg [.la 20 3 (.s 6),.mv 21 (.s 1),.callp (some 22) n_r01_collect [.s 20,.s 21],.mv 1 (.s 22)]))) (.reg [.bin 23 .add (.s 16) (.i 1),.mv 16 (.s 23)])
 | 3=>.seq (.reg [.bin 17 .lss (.s 16) (.s 15)]) (.seq (.cond (.s 17) (.skip) (.exit 0)) (.n 2))
 | 4=>.seq (.seq (.reg [.fa 13 2 (.s 2),.ld 14 (.s 13),.len 15 (.s 14),.mv 16 (.i 0)]) (.blk 0 (.loop (.n 1)))) (.n 0)
 | _=>.skip
def body:C:=.seq (.reg [.br 2 t_Term (.s 0),.mv 4 (.c (.sl 1 []))]) (.seq (.seq (.reg [.fa 7 1 (.s 2),.ld 8 (.s 7)]) (.cond (.s 8) (.reg [.mv 9 (.s 1),.fa 10 0 (.s 2),.ld 11 (.s 10),.callp (some 12) n_r01_Insert [.s 9,.s 11],.mv 1 (.s 12)]) (.skip))) (.n 4))
def rs:List RV:=[.t 4]
attribute [push_cast] nd body
theorem ok:okF prog n_r01_collect nd body 2 rs = true:=by kernel_rfl
abbrev L3 (v1 v14 v15 v16:V) (B:Nat) (H:List Ob) (Q:X→T→List Ob→Prop):Prop:=Run prog nd B [.c (.m 3),.c (.loop (.n 1)),.mk 0,.c (.n 0)] [(1,v1),(14,v14),(15,v15),(16,v16)] H Q
theorem G3 (h:Run prog nd B (.c (nd 3) :: s) t H Q):Run prog nd B (.c (.m 3) :: s) t H Q:=run_m.2 h
end r01_collect
namespace term_Sub
def nd:Nat→C
 | 0=>.seq (.reg [.la 30 3 (.s 2),.st 3 (.s 4) (.s 30),.mv 5 (.c (.bool true))]) (.ret)
 | 1=>.gh [.ks 2 [2,4,8,9,10]] (.m 3)
 | 2=>.seq (.blk 1 (.seq (.reg [.ia 12 1 (.s 8) (.s 10),.ld 13 (.s 12),.mv 7 (.s 13)]) (.seq (.seq (.reg [.mv 14 (.s 7),.bin 15 .lss (.s 14) (.i 0),.mv 16 (.s 15),.gd (.s 16) false [17,18,19,20,21] [.mv 17 (.s 7),.fa 18 2 (.s 2),.ld 19 (.s 18),.len 20 (.s 19),.bin 21 .geq (.s 17) (.s 20)],.pick 22 (.s 16) (.c (.bool true)) (.s 21)]) (.cond (.s 22) (.seq (.reg [.bd 23 [.str [],.bool false,.sl 3 []] [],.st 3 (.s 4) (.s 23),.mv 5 (.c (.bool false))]) (.ret)) (.skip))) (.reg [.fa 24 2 (.s 2),.ld 25 (.s 24),.mv 26 (.s 7),.ia 27 3 (.s 25) (.s 26),.la 28 3 (.s 27),.st 3 (.s 2) (.s 28)])))) (.reg [.bin 29 .add (.s 10) (.i 1),.mv 10 (.s 29)])
 | 3=>.seq (.reg [.bin 11 .lss (.s 10) (.s 9)]) (.seq (.cond (.s 11) (.skip) (.exit 0)) (.n 2))
 | _=>.skip
def body:C:=.seq (.reg [.bx 2 t_Term (.s 0),.al 4 t_Term [.str [],.bool false,.sl 3 []],.mv 5 (.c (.bool false))]) (.seq (.seq (.reg [.mv 8 (.s 1),.len 9 (.s 8),.mv 10 (.i 0)]) (.blk 0 (.loop (.n 1)))) (.n 0))
def rs:List RV:=[.a 4 3,.t 5]
attribute [push_cast] nd body
theorem ok:okF prog n_term_Sub nd body 2 rs = true:=by kernel_rfl
abbrev L3 (v2 v4 v8 v9 v10:V) (B:Nat) (H:List Ob) (Q:X→T→List Ob→Prop):Prop:=Run prog nd B [.c (.m 3),.c (.loop (.n 1)),.mk 0,.c (.n 0)] [(2,v2),(4,v4),(8,v8),(9,v9),(10,v10)] H Q
theorem G3 (h:Run prog nd B (.c (nd 3) :: s) t H Q):Run prog nd B (.c (.m 3) :: s) t H Q:=run_m.2 h
end term_Sub
namespace unify_Find
def nd (_:Nat):C:=.skip
def body:C:=.seq (.reg [.br 2 t_Term (.s 0),.br 3 t_Term (.s 1),.mv 4 (.c (.sl 4 [])),.mv 5 (.c (.bool false))]) (.seq (.reg [.al 6 t_unify_matcher [.nil],.rono t_Bind 4 0 (.s 6)]) (.seq (.reg [.la 8 3 (.s 2),.la 9 3 (.s 3),.call (some 10) n_unify_matcher_match [.s 6,.s 8,.s 9],.mv 7 (.s 10)]) (.seq (.reg [.fa 11 0 (.s 6),.ld 12 (.s 11),.frz 12,.mv 13 (.s 7),.mv 4 (.s 12),.mv 5 (.s 13)]) (.ret))))
def rs:List RV:=[.t 4,.t 5]
attribute [push_cast] nd body
theorem ok:okF prog n_unify_Find nd body 2 rs = true:=by kernel_rfl
end unify_Find
namespace term_measure
def nd:Nat→C
 | 0=>.seq (.reg [.fa 51 1 (.s 7),.ld 52 (.s 51),.bin 53 .add (.s 52) (.i 1),.fa 54 1 (.s 7),.st 1 (.s 54) (.s 53)]) (.seq (.reg [.la 55 2 (.s 7),.st 2 (.s 4) (.s 55)]) (.ret))
 | 1=>.gh [.ks 2 [0,4,7,29,30,31]] (.m 3)
 | 2=>.seq (.blk 1 (.seq (.reg [.ia 33 3 (.s 29) (.s 31),.la 34 3 (.s 33),.al 9 t_Term [.str [],.bool false,.sl 3 []],.sf 9 3 (.s 34)]) (.seq (.reg [.mv 35 (.s 0),.la 36 3 (.s 9),.callp (some 37) n_term_measure [.s 35,.s 36],.al 10 t_term_meter [.int .i64 0,.int .i64 0],.sf 10 2 (.s 37)]) (.dr [0,1,2,3,4,5,6,7,10] [.fa 38 0 (.s 7),.ld 39 (.s 38),.fa 40 0 (.s 10),.ld 41 (.s 40),.bin 42 .add (.s 39) (.s 41),.fa 43 1 (.s 7),.ld 44 (.s 43),.fa 45 1 (.s 10),.fa 48 0 (.s 7),.alt [([8,9,11,12,13],[.ld 46 (.s 45),.mx 47 (.s 44) (.s 46),.st 1 (.s 48) (.s 42),.fa 49 1 (.s 7),.st 1 (.s 49) (.s 47)]),([11,8,9,12,13],[.st 1 (.s 48) (.s 42),.ld 46 (.s 45),.mx 47 (.s 44) (.s 46),.fa 49 1 (.s 7),.st 1 (.s 49) (.s 47)])]])))) (.reg [.bin 50 .add (.s 31) (.i 1),.mv 31 (.s 50)])
 | 3=>.seq (.reg [.bin 32 .lss (.s 31) (.s 30)]) (.seq (.cond (.s 32) (.skip) (.exit 0)) (.n 2))
 | 4=>.seq (.reg [.bd 27 [.int .i64 0,.int .i64 0] [(0,1,(.i 1)),(1,1,(.i 0))],.al 7 t_term_meter [.int .i64 0,.int .i64 0],.st 2 (.s 7) (.s 27)]) (.seq (.seq (.reg [.fa 28 2 (.s 3),.ld 29 (.s 28),.len 30 (.s 29),.mv 31 (.i 0)]) (.blk 0 (.loop (.n 1)))) (.n 0))
 | 5=>.seq (.reg [.bd 26 [.int .i64 0,.int .i64 0] [(0,1,(.i 1)),(1,1,(.i 1))],.st 2 (.s 4) (.s 26)]) (.ret)
 | _=>.skip
def body:C:=.seq (.reg [.br 3 t_Term (.s 1),.al 4 t_term_meter [.int .i64 0,.int .i64 0]]) (.seq (.seq (.reg [.fa 11 1 (.s 3),.ld 12 (.s 11)]) (.cond (.s 12) (.seq (.seq (.reg [.mv 14 (.s 0),.fa 15 0 (.s 3),.ld 16 (.s 15),.callp (some 17) n_term_Image [.s 14,.s 16],.mv 13 (.s 17),.ex 18 (.s 13) 0,.ex 19 (.s 13) 1,.al 5 t_Term [.str [],.bool false,.sl 3 []],.sf 5 3 (.s 18),.mv 6 (.s 19)]) (.seq (.reg [.mv 20 (.s 6)]) (.cond (.s 20) (.seq (.dr [0,1,2,3,4,5] [.la 21 3 (.s 5),.callp (some 22) n_term_Size [.s 21],.la 23 3 (.s 5),.callp (some 24) n_term_Depth [.s 23],.bd 25 [.int .i64 0,.int .i64 0] [(0,1,(.s 22)),(1,1,(.s 24))],.st 2 (.s 4) (.s 25)]) (.ret)) (.skip)))) (.n 5)) (.skip))) (.n 4))
def rs:List RV:=[.a 4 2]
attribute [push_cast] nd body
theorem ok:okF prog n_term_measure nd body 2 rs = true:=by kernel_rfl
abbrev L3 (v0 v4 v7 v29 v30 v31:V) (B:Nat) (H:List Ob) (Q:X→T→List Ob→Prop):Prop:=Run prog nd B [.c (.m 3),.c (.loop (.n 1)),.mk 0,.c (.n 0)] [(0,v0),(4,v4),(7,v7),(29,v29),(30,v30),(31,v31)] H Q
theorem G3 (h:Run prog nd B (.c (nd 3) :: s) t H Q):Run prog nd B (.c (.m 3) :: s) t H Q:=run_m.2 h
end term_measure
namespace term_replace
def nd:Nat→C
 | 0=>.seq (.reg [.la 44 3 (.s 7),.st 3 (.s 4) (.s 44)]) (.ret)
 | 1=>.gh [.ks 3 [0,4,7,29,30,31]] (.m 3)
 | 2=>.seq (.blk 1 (.seq (.reg [.ia 33 3 (.s 29) (.s 31),.la 34 3 (.s 33),.al 9 t_Term [.str [],.bool false,.sl 3 []],.sf 9 3 (.s 34)]) (.dr [0,1,2,3,4,5,6,7,8] [.fa 35 2 (.s 7),.ld 36 (.s 35),.mv 37 (.s 0),.la 38 3 (.s 9),.callp (some 39) n_term_replace [.s 37,.s 38],.bs 40 3 [.s 39],.app 41 t_Term 3 48 (.s 36) (.s 40),.fa 42 2 (.s 7),.st 1 (.s 42) (.s 41)]))) (.reg [.bin 43 .add (.s 31) (.i 1),.mv 31 (.s 43)])
 | 3=>.seq (.reg [.bin 32 .lss (.s 31) (.s 30)]) (.seq (.cond (.s 32) (.skip) (.exit 0)) (.n 2))
 | 4=>.seq (.reg [.fa 25 0 (.s 3),.ld 26 (.s 25),.bd 27 [.str [],.bool false,.nil] [(0,1,(.s 26))],.al 7 t_Term [.str [],.bool false,.nil],.st 3 (.s 7) (.s 27),.ono t_Term 3 2 (.s 7)]) (.seq (.seq (.reg [.fa 28 2 (.s 3),.ld 29 (.s 28),.len 30 (.s 29),.mv 31 (.i 0)]) (.blk 0 (.loop (.n 1)))) (.n 0))
 | 5=>.seq (.reg [.fa 22 0 (.s 3),.ld 23 (.s 22),.bd 24 [.str [],.bool false,.sl 3 []] [(0,1,(.s 23)),(1,1,(.c (.bool true)))],.st 3 (.s 4) (.s 24)]) (.ret)
 | _=>.skip
def body:C:=.seq (.reg [.br 3 t_Term (.s 1),.al 4 t_Term [.str [],.bool false,.sl 3 []]]) (.seq (.seq (.reg [.fa 10 1 (.s 3),.ld 11 (.s 10)]) (.cond (.s 11) (.seq (.seq (.reg [.mv 13 (.s 0),.fa 14 0 (.s 3),.ld 15 (.s 14),.callp (some 16) n_term_Image [.s 13,.s 15],.mv 12 (.s 16),.ex 17 (.s 12) 0,.ex 18 (.s 12) 1,.al 5 t_Term [.str [],.bool false,.sl 3 []],.sf 5 3 (.s 17),.mv 6 (.s 18)]) (.seq (.reg [.mv 19 (.s 6)]) (.cond (.s 19) (.seq (.reg [.la 20 3 (.s 5),.callp (some 21) n_term_Own [.s 20],.st 3 (.s 4) (.s 21)]) (.ret)) (.skip)))) (.n 5)) (.skip))) (.n 4))
def rs:List RV:=[.a 4 3]
attribute [push_cast] nd body
theorem ok:okF prog n_term_replace nd body 2 rs = true:=by kernel_rfl
abbrev L3 (v0 v4 v7 v29 v30 v31:V) (B:Nat) (H:List Ob) (Q:X→T→List Ob→Prop):Prop:=Run prog nd B [.c (.m 3),.c (.loop (.n 1)),.mk 0,.c (.n 0)] [(0,v0),(4,v4),(7,v7),(29,v29),(30,v30),(31,v31)] H Q
theorem G3 (h:Run prog nd B (.c (nd 3) :: s) t H Q):Run prog nd B (.c (.m 3) :: s) t H Q:=run_m.2 h
end term_replace
namespace term_Walk_1
def nd (_:Nat):C:=.skip
def body:C:=.reg [.la 3 3 (.s 1),.mv 4 (.s 0),.call (some 5) n_term_walk [.s 3,(.c (.sl 1 [])),.s 4]]
def rs:List RV:=[]
attribute [push_cast] nd body
theorem ok:okF prog n_term_Walk_1 nd body 2 rs = true:=by kernel_rfl
end term_Walk_1
namespace term_walk
def nd:Nat→C
 | 0=>.seq (.reg [.mv 6 (.c (.bool true))]) (.ret)
 | 1=>.gh [.ks 0 [1,2,15,16,17]] (.m 3)
 | 2=>.seq (.blk 1 (.seq (.reg [.mv 19 (.s 17),.ia 20 3 (.s 15) (.s 17),.la 21 3 (.s 20),.al 8 t_Term [.str [],.bool false,.sl 3 []],.mv 7 (.s 19),.sf 8 3 (.s 21)]) (.seq (.dr [1,3,4,6] [.mv 23 (.s 1),.mv 25 (.s 7),.bs 26 1 [.s 25],.mv 28 (.s 2),.alt [([0,2,5,7,8],[.la 22 3 (.s 8),.call (some 24) n_slices_Clone_s_int_int [.s 23],.app 27 t_int 1 8 (.s 24) (.s 26),.call (some 29) n_term_walk [.s 22,.s 27,.s 28],.un 30 .not (.s 29)]),([2,0,5,7,8],[.call (some 24) n_slices_Clone_s_int_int [.s 23],.la 22 3 (.s 8),.app 27 t_int 1 8 (.s 24) (.s 26),.call (some 29) n_term_walk [.s 22,.s 27,.s 28],.un 30 .not (.s 29)])]]) (.cond (.s 30) (.seq (.reg [.mv 6 (.c (.bool false))]) (.ret)) (.skip))))) (.reg [.bin 31 .add (.s 17) (.i 1),.mv 17 (.s 31)])
 | 3=>.seq (.reg [.bin 18 .lss (.s 17) (.s 16)]) (.seq (.cond (.s 18) (.skip) (.exit 0)) (.n 2))
 | 4=>.seq (.seq (.reg [.fa 14 2 (.s 3),.ld 15 (.s 14),.len 16 (.s 15),.mv 17 (.i 0)]) (.blk 0 (.loop (.n 1)))) (.n 0)
 | _=>.skip
def body:C:=.seq (.reg [.br 3 t_Term (.s 0),.mv 6 (.c (.bool false))]) (.seq (.seq (.reg [.mv 9 (.s 2),.mv 10 (.s 1),.la 11 3 (.s 3),.callv (some 12) (.s 9) [.s 10,.s 11],.un 13 .not (.s 12)]) (.cond (.s 13) (.seq (.reg [.mv 6 (.c (.bool false))]) (.ret)) (.skip))) (.n 4))
def rs:List RV:=[.t 6]
attribute [push_cast] nd body
theorem ok:okF prog n_term_walk nd body 3 rs = true:=by kernel_rfl
abbrev L3 (v1 v2 v15 v16 v17:V) (B:Nat) (H:List Ob) (Q:X→T→List Ob→Prop):Prop:=Run prog nd B [.c (.m 3),.c (.loop (.n 1)),.mk 0,.c (.n 0)] [(1,v1),(2,v2),(15,v15),(16,v16),(17,v17)] H Q
theorem G3 (h:Run prog nd B (.c (nd 3) :: s) t H Q):Run prog nd B (.c (.m 3) :: s) t H Q:=run_m.2 h
end term_walk
namespace stringslite_HasSuffix
def nd (_:Nat):C:=.skip
def body:C:=.seq (.reg [.mv 4 (.c (.bool false))]) (.seq (.reg [.mv 5 (.s 0),.lens 6 (.s 5),.mv 7 (.s 1),.lens 8 (.s 7),.bin 9 .geq (.s 6) (.s 8),.mv 10 (.s 9),.gd (.s 10) true [11,12,13,14,15,16,17,18,19] [.mv 11 (.s 0),.mv 12 (.s 0),.lens 13 (.s 12),.mv 14 (.s 1),.lens 15 (.s 14),.bin 16 .sub (.s 13) (.s 15),.sxs 17 (.s 11) (some (.s 16)) none,.mv 18 (.s 1),.bin 19 .eql (.s 17) (.s 18)],.pick 20 (.s 10) (.s 19) (.c (.bool false)),.mv 4 (.s 20)]) (.ret))
def rs:List RV:=[.t 4]
attribute [push_cast] nd body
theorem ok:okF prog n_stringslite_HasSuffix nd body 2 rs = true:=by kernel_rfl
end stringslite_HasSuffix
namespace slices_Index_s_string_string
def nd:Nat→C
 | 0=>.seq (.reg [.mv 4 (.i (-1))]) (.ret)
 | 1=>.gh [.ks 0 [0,1,7,8]] (.m 3)
 | 2=>.seq (.blk 1 (.seq (.reg [.mv 10 (.s 8),.mv 5 (.s 10)]) (.seq (.reg [.mv 11 (.s 1),.mv 12 (.s 0),.mv 13 (.s 5),.ia 14 1 (.s 12) (.s 13),.ld 15 (.s 14),.bin 16 .eql (.s 11) (.s 15)]) (.cond (.s 16) (.seq (.reg [.mv 17 (.s 5),.mv 4 (.s 17)]) (.ret)) (.skip))))) (.reg [.bin 18 .add (.s 8) (.i 1),.mv 8 (.s 18)])
 | 3=>.seq (.reg [.bin 9 .lss (.s 8) (.s 7)]) (.seq (.cond (.s 9) (.skip) (.exit 0)) (.n 2))
 | _=>.skip
def body:C:=.seq (.reg [.mv 4 (.i 0)]) (.seq (.seq (.reg [.mv 6 (.s 0),.len 7 (.s 6),.mv 8 (.i 0)]) (.blk 0 (.loop (.n 1)))) (.n 0))
def rs:List RV:=[.t 4]
attribute [push_cast] nd body
theorem ok:okF prog n_slices_Index_s_string_string nd body 2 rs = true:=by kernel_rfl
abbrev L3 (v0 v1 v7 v8:V) (B:Nat) (H:List Ob) (Q:X→T→List Ob→Prop):Prop:=Run prog nd B [.c (.m 3),.c (.loop (.n 1)),.mk 0,.c (.n 0)] [(0,v0),(1,v1),(7,v7),(8,v8)] H Q
theorem G3 (h:Run prog nd B (.c (nd 3) :: s) t H Q):Run prog nd B (.c (.m 3) :: s) t H Q:=run_m.2 h
end slices_Index_s_string_string
namespace stringslite_TrimSuffix
def nd:Nat→C
 | 0=>.seq (.reg [.mv 15 (.s 0),.mv 4 (.s 15)]) (.ret)
 | _=>.skip
def body:C:=.seq (.reg [.mv 4 (.c (.str []))]) (.seq (.seq (.reg [.mv 5 (.s 0),.mv 6 (.s 1),.callp (some 7) n_stringslite_HasSuffix [.s 5,.s 6]]) (.cond (.s 7) (.seq (.reg [.mv 8 (.s 0),.mv 9 (.s 0),.lens 10 (.s 9),.mv 11 (.s 1),.lens 12 (.s 11),.bin 13 .sub (.s 10) (.s 12),.sxs 14 (.s 8) none (some (.s 13)),.mv 4 (.s 14)]) (.ret)) (.skip))) (.n 0))
def rs:List RV:=[.t 4]
attribute [push_cast] nd body
theorem ok:okF prog n_stringslite_TrimSuffix nd body 2 rs = true:=by kernel_rfl
end stringslite_TrimSuffix
end Go.Dw
end
section
namespace Go.Dw
variable {s:List K} {B:Nat} {t:T} {H:List Ob} {Q:X→T→List Ob→Prop}
namespace slices_IndexFunc_s_byte_byte
def nd:Nat→C
 | 0=>.seq (.reg [.mv 4 (.i (-1))]) (.ret)
 | 1=>.gh [.ks 0 [0,1,7,8]] (.m 3)
 | 2=>.seq (.blk 1 (.seq (.reg [.mv 10 (.s 8),.mv 5 (.s 10)]) (.seq (.reg [.mv 11 (.s 1),.mv 12 (.s 0),.mv 13 (.s 5),.ia 14 1 (.s 12) (.s 13),.ld 15 (.s 14),.callvp (some 16) (.s 11) [.s 15]]) (.cond (.s 16) (.seq (.reg [.mv 17 (.s 5),.mv 4 (.s 17)]) (.ret)) (.skip))))) (.reg [.bin 18 .add (.s 8) (.i 1),.mv 8 (.s 18)])
 | 3=>.seq (.reg [.bin 9 .lss (.s 8) (.s 7)]) (.seq (.cond (.s 9) (.skip) (.exit 0)) (.n 2))
 | _=>.skip
def body:C:=.seq (.reg [.mv 4 (.i 0)]) (.seq (.seq (.reg [.mv 6 (.s 0),.len 7 (.s 6),.mv 8 (.i 0)]) (.blk 0 (.loop (.n 1)))) (.n 0))
def rs:List RV:=[.t 4]
attribute [push_cast] nd body
theorem ok:okF prog n_slices_IndexFunc_s_byte_byte nd body 2 rs = true:=by kernel_rfl
abbrev L3 (v0 v1 v7 v8:V) (B:Nat) (H:List Ob) (Q:X→T→List Ob→Prop):Prop:=Run prog nd B [.c (.m 3),.c (.loop (.n 1)),.mk 0,.c (.n 0)] [(0,v0),(1,v1),(7,v7),(8,v8)] H Q
theorem G3 (h:Run prog nd B (.c (nd 3) :: s) t H Q):Run prog nd B (.c (.m 3) :: s) t H Q:=run_m.2 h
end slices_IndexFunc_s_byte_byte
namespace r01_letter
def nd (_:Nat):C:=.skip
def body:C:=.seq (.reg [.mv 2 (.c (.bool false))]) (.seq (.reg [.mv 3 (.s 0),.bin 4 .geq (.s 3) (.c (.int .u8 65)),.mv 5 (.s 4),.gd (.s 5) true [6,7] [.mv 6 (.s 0),.bin 7 .leq (.s 6) (.c (.int .u8 90))],.pick 8 (.s 5) (.s 7) (.c (.bool false)),.mv 9 (.s 8),.gd (.s 9) false [10,11,12] [.mv 10 (.s 0),.bin 11 .geq (.s 10) (.c (.int .u8 97)),.mv 12 (.s 11)],.gd (.s 12) true [13,14] [.mv 13 (.s 0),.bin 14 .leq (.s 13) (.c (.int .u8 122))],.gd (.s 9) false [15] [.pick 15 (.s 12) (.s 14) (.c (.bool false))],.pick 16 (.s 9) (.c (.bool true)) (.s 15),.mv 17 (.s 16),.gd (.s 17) false [18,19,20] [.mv 18 (.s 0),.bin 19 .geq (.s 18) (.c (.int .u8 48)),.mv 20 (.s 19)],.gd (.s 20) true [21,22] [.mv 21 (.s 0),.bin 22 .leq (.s 21) (.c (.int .u8 57))],.gd (.s 17) false [23] [.pick 23 (.s 20) (.s 22) (.c (.bool false))],.pick 24 (.s 17) (.c (.bool true)) (.s 23),.mv 25 (.s 24),.gd (.s 25) false [26,27] [.mv 26 (.s 0),.bin 27 .eql (.s 26) (.c (.int .u8 95))],.pick 28 (.s 25) (.c (.bool true)) (.s 27),.mv 29 (.s 28),.gd (.s 29) false [30,31] [.mv 30 (.s 0),.bin 31 .eql (.s 30) (.c (.int .u8 39))],.pick 32 (.s 29) (.c (.bool true)) (.s 31),.mv 2 (.s 32)]) (.ret))
def rs:List RV:=[.t 2]
attribute [push_cast] nd body
theorem ok:okF prog n_r01_letter nd body 1 rs = true:=by kernel_rfl
end r01_letter
namespace slices_IndexFunc_s_Term_Term
def nd:Nat→C
 | 0=>.seq (.reg [.mv 4 (.i (-1))]) (.ret)
 | 1=>.gh [.ks 0 [0,1,7,8]] (.m 3)
 | 2=>.seq (.blk 1 (.seq (.reg [.mv 10 (.s 8),.mv 5 (.s 10)]) (.seq (.reg [.mv 11 (.s 1),.mv 12 (.s 0),.mv 13 (.s 5),.ia 14 3 (.s 12) (.s 13),.la 15 3 (.s 14),.callvp (some 16) (.s 11) [.s 15]]) (.cond (.s 16) (.seq (.reg [.mv 17 (.s 5),.mv 4 (.s 17)]) (.ret)) (.skip))))) (.reg [.bin 18 .add (.s 8) (.i 1),.mv 8 (.s 18)])
 | 3=>.seq (.reg [.bin 9 .lss (.s 8) (.s 7)]) (.seq (.cond (.s 9) (.skip) (.exit 0)) (.n 2))
 | _=>.skip
def body:C:=.seq (.reg [.mv 4 (.i 0)]) (.seq (.seq (.reg [.mv 6 (.s 0),.len 7 (.s 6),.mv 8 (.i 0)]) (.blk 0 (.loop (.n 1)))) (.n 0))
def rs:List RV:=[.t 4]
attribute [push_cast] nd body
theorem ok:okF prog n_slices_IndexFunc_s_Term_Term nd body 2 rs = true:=by kernel_rfl
abbrev L3 (v0 v1 v7 v8:V) (B:Nat) (H:List Ob) (Q:X→T→List Ob→Prop):Prop:=Run prog nd B [.c (.m 3),.c (.loop (.n 1)),.mk 0,.c (.n 0)] [(0,v0),(1,v1),(7,v7),(8,v8)] H Q
theorem G3 (h:Run prog nd B (.c (nd 3) :: s) t H Q):Run prog nd B (.c (.m 3) :: s) t H Q:=run_m.2 h
end slices_IndexFunc_s_Term_Term
namespace r03_match
def nd:Nat→C
 | 0=>.seq (.reg [.mv 72 (.s 0),.mv 6 (.s 72),.mv 7 (.c (.bool true))]) (.ret)
 | 1=>.gh [.ks 0 [0,4,5,49,50]] (.m 3)
 | 2=>.seq (.blk 1 (.seq (.reg [.mv 52 (.s 50),.mv 8 (.s 52)]) (.seq (.dr [0,1,2,3,4,5,6,7,8,9,10,11,12,13,14,15,16] [.mv 54 (.s 0),.fa 55 2 (.s 4),.ld 56 (.s 55),.mv 57 (.s 8),.ia 58 3 (.s 56) (.s 57),.la 59 3 (.s 58),.fa 60 2 (.s 5),.ld 61 (.s 60),.mv 62 (.s 8),.ia 63 3 (.s 61) (.s 62),.la 64 3 (.s 63),.callp (some 65) n_r03_match [.s 54,.s 59,.s 64],.mv 53 (.s 65),.ex 66 (.s 53) 0,.ex 67 (.s 53) 1,.mv 9 (.s 66),.mv 10 (.s 67)]) (.seq (.seq (.reg [.mv 68 (.s 10),.un 69 .not (.s 68)]) (.cond (.s 69) (.seq (.reg [.mv 6 (.c (.sl 4 [])),.mv 7 (.c (.bool false))]) (.ret)) (.skip))) (.reg [.mv 70 (.s 9),.mv 0 (.s 70)]))))) (.reg [.bin 71 .add (.s 50) (.i 1),.mv 50 (.s 71)])
 | 3=>.seq (.reg [.bin 51 .lss (.s 50) (.s 49)]) (.seq (.cond (.s 51) (.skip) (.exit 0)) (.n 2))
 | 4=>.seq (.seq (.reg [.fa 47 2 (.s 5),.ld 48 (.s 47),.len 49 (.s 48),.mv 50 (.i 0)]) (.blk 0 (.loop (.n 1)))) (.n 0)
 | 5=>.seq (.seq (.reg [.fa 29 1 (.s 5),.ld 30 (.s 29),.mv 31 (.s 30),.gd (.s 31) false [32,33,34,35,36] [.fa 32 0 (.s 5),.ld 33 (.s 32),.fa 34 0 (.s 4),.ld 35 (.s 34),.bin 36 .neq (.s 33) (.s 35)],.pick 37 (.s 31) (.c (.bool true)) (.s 36),.mv 38 (.s 37),.gd (.s 38) false [39,40,41,42,43,44,45] [.fa 39 2 (.s 5),.ld 40 (.s 39),.len 41 (.s 40),.fa 42 2 (.s 4),.ld 43 (.s 42),.len 44 (.s 43),.bin 45 .neq (.s 41) (.s 44)],.pick 46 (.s 38) (.c (.bool true)) (.s 45)]) (.cond (.s 46) (.seq (.reg [.mv 6 (.c (.sl 4 [])),.mv 7 (.c (.bool false))]) (.ret)) (.skip))) (.n 4)
 | 6=>.seq (.reg [.mv 24 (.s 0),.fa 25 0 (.s 4),.ld 26 (.s 25),.la 27 3 (.s 5),.callp (some 28) n_r03_with [.s 24,.s 26,.s 27],.mv 6 (.s 28),.mv 7 (.c (.bool true))]) (.ret)
 | _=>.skip
def body:C:=.seq (.reg [.br 4 t_Term (.s 1),.br 5 t_Term (.s 2),.mv 6 (.c (.sl 4 [])),.mv 7 (.c (.bool false))]) (.seq (.seq (.reg [.fa 11 1 (.s 4),.ld 12 (.s 11)]) (.cond (.s 12) (.seq (.seq (.reg [.mv 13 (.s 0),.fa 14 0 (.s 4),.ld 15 (.s 14),.callp (some 16) n_r03_Bound [.s 13,.s 15]]) (.cond (.s 16) (.seq (.dr [0,1,2,3,4,5,6,7,8] [.mv 17 (.s 0),.mv 18 (.s 0),.fa 19 0 (.s 4),.ld 20 (.s 19),.callp (some 21) n_r01_Image [.s 18,.s 20],.la 22 3 (.s 5),.callp (some 23) n_r01_Equal [.s 21,.s 22],.mv 6 (.s 17),.mv 7 (.s 23)]) (.ret)) (.skip))) (.n 6)) (.skip))) (.n 5))
def rs:List RV:=[.t 6,.t 7]
attribute [push_cast] nd body
theorem ok:okF prog n_r03_match nd body 3 rs = true:=by kernel_rfl
abbrev L3 (v0 v4 v5 v49 v50:V) (B:Nat) (H:List Ob) (Q:X→T→List Ob→Prop):Prop:=Run prog nd B [.c (.m 3),.c (.loop (.n 1)),.mk 0,.c (.n 0)] [(0,v0),(4,v4),(5,v5),(49,v49),(50,v50)] H Q
theorem G3 (h:Run prog nd B (.c (nd 3) :: s) t H Q):Run prog nd B (.c (.m 3) :: s) t H Q:=run_m.2 h
end r03_match
namespace r24_contains
def nd:Nat→C
 | 0=>.seq (.reg [.mv 4 (.c (.bool false))]) (.ret)
 | 1=>.gh [.ks 0 [1,7,8,9]] (.m 3)
 | 2=>.seq (.blk 1 (.seq (.reg [.ia 11 1 (.s 7) (.s 9),.ld 12 (.s 11),.mv 6 (.s 12)]) (.seq (.reg [.mv 13 (.s 1),.mv 14 (.s 6),.bin 15 .eql (.s 13) (.s 14)]) (.cond (.s 15) (.seq (.reg [.mv 4 (.c (.bool true))]) (.ret)) (.skip))))) (.reg [.bin 16 .add (.s 9) (.i 1),.mv 9 (.s 16)])
 | 3=>.seq (.reg [.bin 10 .lss (.s 9) (.s 8)]) (.seq (.cond (.s 10) (.skip) (.exit 0)) (.n 2))
 | _=>.skip
def body:C:=.seq (.reg [.mv 4 (.c (.bool false))]) (.seq (.seq (.reg [.mv 7 (.s 0),.len 8 (.s 7),.mv 9 (.i 0)]) (.blk 0 (.loop (.n 1)))) (.n 0))
def rs:List RV:=[.t 4]
attribute [push_cast] nd body
theorem ok:okF prog n_r24_contains nd body 2 rs = true:=by kernel_rfl
abbrev L3 (v1 v7 v8 v9:V) (B:Nat) (H:List Ob) (Q:X→T→List Ob→Prop):Prop:=Run prog nd B [.c (.m 3),.c (.loop (.n 1)),.mk 0,.c (.n 0)] [(1,v1),(7,v7),(8,v8),(9,v9)] H Q
theorem G3 (h:Run prog nd B (.c (nd 3) :: s) t H Q):Run prog nd B (.c (.m 3) :: s) t H Q:=run_m.2 h
end r24_contains
namespace cmp_isNaN_string
def nd (_:Nat):C:=.skip
def body:C:=.seq (.reg [.mv 2 (.c (.bool false))]) (.seq (.reg [.mv 3 (.s 0),.mv 4 (.s 0),.bin 5 .neq (.s 3) (.s 4),.mv 2 (.s 5)]) (.ret))
def rs:List RV:=[.t 2]
attribute [push_cast] nd body
theorem ok:okF prog n_cmp_isNaN_string nd body 1 rs = true:=by kernel_rfl
end cmp_isNaN_string
namespace slices_IndexFunc_s_bounds_spot_bounds_spot
def nd:Nat→C
 | 0=>.seq (.reg [.mv 4 (.i (-1))]) (.ret)
 | 1=>.gh [.ks 0 [0,1,7,8]] (.m 3)
 | 2=>.seq (.blk 1 (.seq (.reg [.mv 10 (.s 8),.mv 5 (.s 10)]) (.seq (.reg [.mv 11 (.s 1),.mv 12 (.s 0),.mv 13 (.s 5),.ia 14 2 (.s 12) (.s 13),.la 15 2 (.s 14),.callvp (some 16) (.s 11) [.s 15]]) (.cond (.s 16) (.seq (.reg [.mv 17 (.s 5),.mv 4 (.s 17)]) (.ret)) (.skip))))) (.reg [.bin 18 .add (.s 8) (.i 1),.mv 8 (.s 18)])
 | 3=>.seq (.reg [.bin 9 .lss (.s 8) (.s 7)]) (.seq (.cond (.s 9) (.skip) (.exit 0)) (.n 2))
 | _=>.skip
def body:C:=.seq (.reg [.mv 4 (.i 0)]) (.seq (.seq (.reg [.mv 6 (.s 0),.len 7 (.s 6),.mv 8 (.i 0)]) (.blk 0 (.loop (.n 1)))) (.n 0))
def rs:List RV:=[.t 4]
attribute [push_cast] nd body
theorem ok:okF prog n_slices_IndexFunc_s_bounds_spot_bounds_spot nd body 2 rs = true:=by kernel_rfl
abbrev L3 (v0 v1 v7 v8:V) (B:Nat) (H:List Ob) (Q:X→T→List Ob→Prop):Prop:=Run prog nd B [.c (.m 3),.c (.loop (.n 1)),.mk 0,.c (.n 0)] [(0,v0),(1,v1),(7,v7),(8,v8)] H Q
theorem G3 (h:Run prog nd B (.c (nd 3) :: s) t H Q):Run prog nd B (.c (.m 3) :: s) t H Q:=run_m.2 h
end slices_IndexFunc_s_bounds_spot_bounds_spot
namespace r01_Insert
def nd:Nat→C
 | 0=>.seq (.dr [0,1,2,3,4,5,6,7,8,9,10,11,12] [.bo 34 t_string 1 [],.mv 35 (.s 0),.mv 36 (.s 5),.sx 37 1 (.s 35) none (some (.s 36)),.app 38 t_string 1 16 (.s 34) (.s 37),.mv 39 (.s 1),.bs 40 1 [.s 39],.app 41 t_string 1 16 (.s 38) (.s 40),.mv 42 (.s 0),.mv 43 (.s 5),.sx 44 1 (.s 42) (some (.s 43)) none,.app 45 t_string 1 16 (.s 41) (.s 44),.mv 4 (.s 45)]) (.ret)
 | 1=>.seq (.seq (.reg [.mv 21 (.s 5),.mv 22 (.s 0),.len 23 (.s 22),.bin 24 .lss (.s 21) (.s 23),.mv 25 (.s 24),.gd (.s 25) true [26,27,28,29,30,31] [.mv 26 (.s 0),.mv 27 (.s 5),.ia 28 1 (.s 26) (.s 27),.ld 29 (.s 28),.mv 30 (.s 1),.bin 31 .eql (.s 29) (.s 30)],.pick 32 (.s 25) (.s 31) (.c (.bool false))]) (.cond (.s 32) (.seq (.reg [.mv 33 (.s 0),.mv 4 (.s 33)]) (.ret)) (.skip))) (.n 0)
 | 2=>.gh [.ks 0 [0,1,5]] (.m 4)
 | 3=>.blk 1 (.reg [.mv 19 (.s 5),.bin 20 .add (.s 19) (.i 1),.mv 5 (.s 20)])
 | 4=>.seq (.seq (.reg [.mv 6 (.s 5),.mv 7 (.s 0),.len 8 (.s 7),.bin 9 .lss (.s 6) (.s 8),.mv 10 (.s 9),.gd (.s 10) true [11,12,13,14,15,16,17] [.mv 11 (.s 0),.mv 12 (.s 5),.ia 13 1 (.s 11) (.s 12),.ld 14 (.s 13),.mv 15 (.s 1),.callp (some 16) n_r01_CompareNames [.s 14,.s 15],.bin 17 .lss (.s 16) (.i 0)],.pick 18 (.s 10) (.s 17) (.c (.bool false))]) (.cond (.s 18) (.skip) (.exit 0))) (.n 3)
 | _=>.skip
def body:C:=.seq (.reg [.mv 4 (.c (.sl 1 []))]) (.seq (.reg [.mv 5 (.i 0)]) (.seq (.blk 0 (.loop (.n 2))) (.n 1)))
def rs:List RV:=[.t 4]
attribute [push_cast] nd body
theorem ok:okF prog n_r01_Insert nd body 2 rs = true:=by kernel_rfl
abbrev L4 (v0 v1 v5:V) (B:Nat) (H:List Ob) (Q:X→T→List Ob→Prop):Prop:=Run prog nd B [.c (.m 4),.c (.loop (.n 2)),.mk 0,.c (.n 1)] [(0,v0),(1,v1),(5,v5)] H Q
theorem G4 (h:Run prog nd B (.c (nd 4) :: s) t H Q):Run prog nd B (.c (.m 4) :: s) t H Q:=run_m.2 h
end r01_Insert
namespace unify_matcher_match
def nd:Nat→C
 | 0=>.seq (.reg [.mv 6 (.c (.bool true))]) (.ret)
 | 1=>.gh [.ks 0 [0,4,5,57,58]] (.m 3)
 | 2=>.seq (.blk 1 (.seq (.reg [.mv 60 (.s 58),.mv 9 (.s 60)]) (.seq (.dr [0,1,2,3,4,5,6,7,8,9,10,11,12] [.mv 61 (.s 0),.fa 62 2 (.s 4),.ld 63 (.s 62),.mv 64 (.s 9),.ia 65 3 (.s 63) (.s 64),.la 66 3 (.s 65),.fa 67 2 (.s 5),.ld 68 (.s 67),.mv 69 (.s 9),.ia 70 3 (.s 68) (.s 69),.la 71 3 (.s 70),.call (some 72) n_unify_matcher_match [.s 61,.s 66,.s 71],.un 73 .not (.s 72)]) (.cond (.s 73) (.seq (.reg [.mv 6 (.c (.bool false))]) (.ret)) (.skip))))) (.reg [.bin 74 .add (.s 58) (.i 1),.mv 58 (.s 74)])
 | 3=>.seq (.reg [.bin 59 .lss (.s 58) (.s 57)]) (.seq (.cond (.s 59) (.skip) (.exit 0)) (.n 2))
 | 4=>.seq (.seq (.reg [.fa 55 2 (.s 4),.ld 56 (.s 55),.len 57 (.s 56),.mv 58 (.i 0)]) (.blk 0 (.loop (.n 1)))) (.n 0)
 | 5=>.seq (.seq (.reg [.fa 37 1 (.s 5),.ld 38 (.s 37),.mv 39 (.s 38),.gd (.s 39) false [40,41,42,43,44] [.fa 40 0 (.s 4),.ld 41 (.s 40),.fa 42 0 (.s 5),.ld 43 (.s 42),.bin 44 .neq (.s 41) (.s 43)],.pick 45 (.s 39) (.c (.bool true)) (.s 44),.mv 46 (.s 45),.gd (.s 46) false [47,48,49,50,51,52,53] [.fa 47 2 (.s 4),.ld 48 (.s 47),.len 49 (.s 48),.fa 50 2 (.s 5),.ld 51 (.s 50),.len 52 (.s 51),.bin 53 .neq (.s 49) (.s 52)],.pick 54 (.s 46) (.c (.bool true)) (.s 53)]) (.cond (.s 54) (.seq (.reg [.mv 6 (.c (.bool false))]) (.ret)) (.skip))) (.n 4)
 | 6=>.seq (.dr [0,1,2,3,4,5,6,7,8,9,10,11] [.mv 26 (.s 0),.mv 27 (.s 0),.nc 28 (.s 27),.fa 29 0 (.s 28),.ld 30 (.s 29),.fa 31 0 (.s 4),.ld 32 (.s 31),.la 33 3 (.s 5),.call (some 34) n_unify_bind [.s 30,.s 32,.s 33],.nc 35 (.s 26),.fa 36 0 (.s 35),.st 1 (.s 36) (.s 34)]) (.seq (.reg [.mv 6 (.c (.bool true))]) (.ret))
 | _=>.skip
def body:C:=.seq (.reg [.br 4 t_Term (.s 1),.br 5 t_Term (.s 2),.mv 6 (.c (.bool false))]) (.seq (.seq (.reg [.fa 10 1 (.s 4),.ld 11 (.s 10)]) (.cond (.s 11) (.seq (.seq (.dr [0,1,2,3,4,5] [.mv 13 (.s 0),.nc 14 (.s 13),.fa 15 0 (.s 14),.ld 16 (.s 15),.fa 17 0 (.s 4),.ld 18 (.s 17),.alt [([6,7,8,9,10,11,12],[.call (some 19) n_term_Image [.s 16,.s 18],.mv 12 (.s 19),.ex 20 (.s 12) 0,.ex 21 (.s 12) 1,.al 7 t_Term [.str [],.bool false,.sl 3 []],.sf 7 3 (.s 20),.mv 8 (.s 21)]),([10,6,7,8,9,11,12],[.al 7 t_Term [.str [],.bool false,.sl 3 []],.call (some 19) n_term_Image [.s 16,.s 18],.mv 12 (.s 19),.ex 20 (.s 12) 0,.ex 21 (.s 12) 1,.sf 7 3 (.s 20),.mv 8 (.s 21)])]]) (.seq (.reg [.mv 22 (.s 8)]) (.cond (.s 22) (.seq (.reg [.la 23 3 (.s 7),.la 24 3 (.s 5),.callp (some 25) n_term_Equal [.s 23,.s 24],.mv 6 (.s 25)]) (.ret)) (.skip)))) (.n 6)) (.skip))) (.n 5))
def rs:List RV:=[.t 6]
attribute [push_cast] nd body
theorem ok:okF prog n_unify_matcher_match nd body 3 rs = true:=by kernel_rfl
abbrev L3 (v0 v4 v5 v57 v58:V) (B:Nat) (H:List Ob) (Q:X→T→List Ob→Prop):Prop:=Run prog nd B [.c (.m 3),.c (.loop (.n 1)),.mk 0,.c (.n 0)] [(0,v0),(4,v4),(5,v5),(57,v57),(58,v58)] H Q
theorem G3 (h:Run prog nd B (.c (nd 3) :: s) t H Q):Run prog nd B (.c (.m 3) :: s) t H Q:=run_m.2 h
end unify_matcher_match
namespace term_Image
def nd:Nat→C
 | 0=>.seq (.reg [.mv 17 (.s 0),.mv 18 (.s 6),.ia 19 4 (.s 17) (.s 18),.fa 20 1 (.s 19),.la 21 3 (.s 20),.st 3 (.s 4) (.s 21),.mv 5 (.c (.bool true))]) (.ret)
 | _=>.skip
def body:C:=.seq (.reg [.al 4 t_Term [.str [],.bool false,.sl 3 []],.mv 5 (.c (.bool false))]) (.seq (.reg [.mv 9 (.s 0),.mv 10 (.s 1),.call (some 11) n_slices_BinarySearchFunc_s_Bind_Bind_string [.s 9,.s 10,(.f n_term_Image_1)],.mv 8 (.s 11),.ex 12 (.s 8) 0,.ex 13 (.s 8) 1,.mv 6 (.s 12),.mv 7 (.s 13)]) (.seq (.seq (.reg [.mv 14 (.s 7),.un 15 .not (.s 14)]) (.cond (.s 15) (.seq (.reg [.bd 16 [.str [],.bool false,.sl 3 []] [],.st 3 (.s 4) (.s 16),.mv 5 (.c (.bool false))]) (.ret)) (.skip))) (.n 0)))
def rs:List RV:=[.a 4 3,.t 5]
attribute [push_cast] nd body
theorem ok:okF prog n_term_Image nd body 2 rs = true:=by kernel_rfl
end term_Image
namespace r03_Bound
def nd:Nat→C
 | 0=>.seq (.reg [.mv 4 (.c (.bool false))]) (.ret)
 | 1=>.gh [.ks 0 [1,7,8,9]] (.m 3)
 | 2=>.seq (.blk 1 (.seq (.reg [.ia 11 4 (.s 7) (.s 9),.la 12 4 (.s 11),.al 6 t_Bind [.str [],.str [],.bool false,.sl 3 []],.sf 6 4 (.s 12)]) (.seq (.reg [.fa 13 0 (.s 6),.ld 14 (.s 13),.mv 15 (.s 1),.bin 16 .eql (.s 14) (.s 15)]) (.cond (.s 16) (.seq (.reg [.mv 4 (.c (.bool true))]) (.ret)) (.skip))))) (.reg [.bin 17 .add (.s 9) (.i 1),.mv 9 (.s 17)])
 | 3=>.seq (.reg [.bin 10 .lss (.s 9) (.s 8)]) (.seq (.cond (.s 10) (.skip) (.exit 0)) (.n 2))
 | _=>.skip
def body:C:=.seq (.reg [.mv 4 (.c (.bool false))]) (.seq (.seq (.reg [.mv 7 (.s 0),.len 8 (.s 7),.mv 9 (.i 0)]) (.blk 0 (.loop (.n 1)))) (.n 0))
def rs:List RV:=[.t 4]
attribute [push_cast] nd body
theorem ok:okF prog n_r03_Bound nd body 2 rs = true:=by kernel_rfl
abbrev L3 (v1 v7 v8 v9:V) (B:Nat) (H:List Ob) (Q:X→T→List Ob→Prop):Prop:=Run prog nd B [.c (.m 3),.c (.loop (.n 1)),.mk 0,.c (.n 0)] [(1,v1),(7,v7),(8,v8),(9,v9)] H Q
theorem G3 (h:Run prog nd B (.c (nd 3) :: s) t H Q):Run prog nd B (.c (.m 3) :: s) t H Q:=run_m.2 h
end r03_Bound
namespace r03_with
def nd:Nat→C
 | 0=>.seq (.dr [1,2,3,5,6,0,4,7,8,9,10,11,12,13,14] [.mv 25 (.s 0),.mv 26 (.s 7),.sx 27 4 (.s 25) none (some (.s 26)),.mv 29 (.s 1),.la 30 3 (.s 5),.bo 24 t_Bind 4 [],.app 28 t_Bind 4 64 (.s 24) (.s 27),.bd 31 [.str [],.str [],.bool false,.sl 3 []] [(0,1,(.s 29)),(1,3,(.s 30))],.bs 32 4 [.s 31],.app 33 t_Bind 4 64 (.s 28) (.s 32),.mv 34 (.s 0),.mv 35 (.s 7),.sx 36 4 (.s 34) (some (.s 35)) none,.app 37 t_Bind 4 64 (.s 33) (.s 36),.mv 6 (.s 37)]) (.ret)
 | 1=>.gh [.ks 0 [0,1,5,7]] (.m 3)
 | 2=>.blk 1 (.reg [.mv 22 (.s 7),.bin 23 .add (.s 22) (.i 1),.mv 7 (.s 23)])
 | 3=>.seq (.seq (.reg [.mv 8 (.s 7),.mv 9 (.s 0),.len 10 (.s 9),.bin 11 .lss (.s 8) (.s 10),.mv 12 (.s 11),.gd (.s 12) true [13,14,15,16,17,18,19,20] [.mv 13 (.s 0),.mv 14 (.s 7),.ia 15 4 (.s 13) (.s 14),.fa 16 0 (.s 15),.ld 17 (.s 16),.mv 18 (.s 1),.callp (some 19) n_r01_CompareNames [.s 17,.s 18],.bin 20 .lss (.s 19) (.i 0)],.pick 21 (.s 12) (.s 20) (.c (.bool false))]) (.cond (.s 21) (.skip) (.exit 0))) (.n 2)
 | _=>.skip
def body:C:=.seq (.reg [.br 5 t_Term (.s 2),.mv 6 (.c (.sl 4 []))]) (.seq (.reg [.mv 7 (.i 0)]) (.seq (.blk 0 (.loop (.n 1))) (.n 0)))
def rs:List RV:=[.t 6]
attribute [push_cast] nd body
theorem ok:okF prog n_r03_with nd body 3 rs = true:=by kernel_rfl
abbrev L3 (v0 v1 v5 v7:V) (B:Nat) (H:List Ob) (Q:X→T→List Ob→Prop):Prop:=Run prog nd B [.c (.m 3),.c (.loop (.n 1)),.mk 0,.c (.n 0)] [(0,v0),(1,v1),(5,v5),(7,v7)] H Q
theorem G3 (h:Run prog nd B (.c (nd 3) :: s) t H Q):Run prog nd B (.c (.m 3) :: s) t H Q:=run_m.2 h
end r03_with
namespace term_Equal
def nd (_:Nat):C:=.skip
def body:C:=.seq (.reg [.br 2 t_Term (.s 0),.br 3 t_Term (.s 1),.mv 4 (.c (.bool false))]) (.seq (.reg [.fa 5 0 (.s 2),.ld 6 (.s 5),.fa 7 0 (.s 3),.ld 8 (.s 7),.bin 9 .eql (.s 6) (.s 8),.mv 10 (.s 9),.gd (.s 10) true [11,12,13,14,15] [.fa 11 1 (.s 2),.ld 12 (.s 11),.fa 13 1 (.s 3),.ld 14 (.s 13),.bb 15 .eql (.s 12) (.s 14)],.pick 16 (.s 10) (.s 15) (.c (.bool false)),.mv 17 (.s 16),.gd (.s 17) true [18,19,20,21,22] [.fa 18 2 (.s 2),.ld 19 (.s 18),.fa 20 2 (.s 3),.ld 21 (.s 20),.callp (some 22) n_slices_EqualFunc_s_Term_s_Term_Term_Term [.s 19,.s 21,(.f n_term_Equal)]],.pick 23 (.s 17) (.s 22) (.c (.bool false)),.mv 4 (.s 23)]) (.ret))
def rs:List RV:=[.t 4]
attribute [push_cast] nd body
theorem ok:okF prog n_term_Equal nd body 2 rs = true:=by kernel_rfl
end term_Equal
namespace unify_bind
def nd (_:Nat):C:=.skip
def body:C:=.seq (.reg [.br 5 t_Term (.s 2),.mv 6 (.c (.sl 4 []))]) (.seq (.reg [.mv 10 (.s 0),.mv 11 (.s 1),.call (some 12) n_slices_BinarySearchFunc_s_Bind_Bind_string [.s 10,.s 11,(.f n_unify_bind_1)],.mv 9 (.s 12),.ex 13 (.s 9) 0,.ex 14 (.s 9) 1,.mv 7 (.s 13),.mv 8 (.s 14)]) (.seq (.reg [.mv 15 (.s 0),.mv 16 (.s 7),.mv 17 (.s 1),.la 18 3 (.s 5),.bd 19 [.str [],.str [],.bool false,.sl 3 []] [(0,1,(.s 17)),(1,3,(.s 18))],.bo 20 t_Bind 4 [.s 19],.call (some 21) n_slices_Insert_s_Bind_Bind [.s 15,.s 16,.s 20],.mv 6 (.s 21)]) (.ret)))
def rs:List RV:=[.t 6]
attribute [push_cast] nd body
theorem ok:okF prog n_unify_bind nd body 3 rs = true:=by kernel_rfl
end unify_bind
namespace slices_BinarySearchFunc_s_Bind_Bind_string
def nd:Nat→C
 | 0=>.seq (.reg [.mv 35 (.s 9),.mv 36 (.s 9),.mv 37 (.s 8),.bin 38 .lss (.s 36) (.s 37),.mv 39 (.s 38),.gd (.s 39) true [40,41,42,43,44,45,46,47] [.mv 40 (.s 2),.mv 41 (.s 0),.mv 42 (.s 9),.ia 43 4 (.s 41) (.s 42),.la 44 4 (.s 43),.mv 45 (.s 1),.callvp (some 46) (.s 40) [.s 44,.s 45],.bin 47 .eql (.s 46) (.i 0)],.pick 48 (.s 39) (.s 47) (.c (.bool false)),.mv 6 (.s 35),.mv 7 (.s 48)]) (.ret)
 | 1=>.gh [.ks 0 [0,1,2,8,9,10]] (.m 3)
 | 2=>.blk 1 (.seq (.reg [.mv 18 (.s 9),.mv 19 (.s 10),.bin 20 .add (.s 18) (.s 19),.cvi 21 .u64 (.s 20),.sh 22 .shr (.s 21) (.c (.int .u64 1)),.cvi 23 .i64 (.s 22),.mv 11 (.s 23)]) (.seq (.reg [.mv 24 (.s 2),.mv 25 (.s 0),.mv 26 (.s 11),.ia 27 4 (.s 25) (.s 26),.la 28 4 (.s 27),.mv 29 (.s 1),.callvp (some 30) (.s 24) [.s 28,.s 29],.bin 31 .lss (.s 30) (.i 0)]) (.cond (.s 31) (.reg [.mv 32 (.s 11),.bin 33 .add (.s 32) (.i 1),.mv 9 (.s 33)]) (.reg [.mv 34 (.s 11),.mv 10 (.s 34)]))))
 | 3=>.seq (.seq (.reg [.mv 15 (.s 9),.mv 16 (.s 10),.bin 17 .lss (.s 15) (.s 16)]) (.cond (.s 17) (.skip) (.exit 0))) (.n 2)
 | _=>.skip
def body:C:=.seq (.reg [.mv 6 (.i 0),.mv 7 (.c (.bool false))]) (.seq (.reg [.mv 12 (.s 0),.len 13 (.s 12),.mv 8 (.s 13)]) (.seq (.reg [.mv 14 (.s 8),.mv 9 (.i 0),.mv 10 (.s 14)]) (.seq (.blk 0 (.loop (.n 1))) (.n 0))))
def rs:List RV:=[.t 6,.t 7]
attribute [push_cast] nd body
theorem ok:okF prog n_slices_BinarySearchFunc_s_Bind_Bind_string nd body 3 rs = true:=by kernel_rfl
abbrev L3 (v0 v1 v2 v8 v9 v10:V) (B:Nat) (H:List Ob) (Q:X→T→List Ob→Prop):Prop:=Run prog nd B [.c (.m 3),.c (.loop (.n 1)),.mk 0,.c (.n 0)] [(0,v0),(1,v1),(2,v2),(8,v8),(9,v9),(10,v10)] H Q
theorem G3 (h:Run prog nd B (.c (nd 3) :: s) t H Q):Run prog nd B (.c (.m 3) :: s) t H Q:=run_m.2 h
end slices_BinarySearchFunc_s_Bind_Bind_string
namespace term_Image_1
def nd (_:Nat):C:=.skip
def body:C:=.seq (.reg [.br 2 t_Bind (.s 0),.mv 4 (.i 0)]) (.seq (.reg [.fa 5 0 (.s 2),.ld 6 (.s 5),.mv 7 (.s 1),.callp (some 8) n_strings_Compare [.s 6,.s 7],.mv 4 (.s 8)]) (.ret))
def rs:List RV:=[.t 4]
attribute [push_cast] nd body
theorem ok:okF prog n_term_Image_1 nd body 2 rs = true:=by kernel_rfl
end term_Image_1
namespace strings_Compare
def nd (_:Nat):C:=.skip
def body:C:=.seq (.reg [.mv 4 (.i 0)]) (.seq (.reg [.mv 5 (.s 0),.mv 6 (.s 1),.callp (some 7) n_bytealg_CompareString [.s 5,.s 6],.mv 4 (.s 7)]) (.ret))
def rs:List RV:=[.t 4]
attribute [push_cast] nd body
theorem ok:okF prog n_strings_Compare nd body 2 rs = true:=by kernel_rfl
end strings_Compare
namespace slices_EqualFunc_s_Term_s_Term_Term_Term
def nd:Nat→C
 | 0=>.seq (.reg [.mv 6 (.c (.bool true))]) (.ret)
 | 1=>.gh [.ks 0 [1,2,15,16,17]] (.m 3)
 | 2=>.seq (.blk 1 (.seq (.reg [.mv 19 (.s 17),.ia 20 3 (.s 15) (.s 17),.la 21 3 (.s 20),.al 8 t_Term [.str [],.bool false,.sl 3 []],.mv 7 (.s 19),.sf 8 3 (.s 21)]) (.seq (.reg [.mv 22 (.s 1),.mv 23 (.s 7),.ia 24 3 (.s 22) (.s 23),.la 25 3 (.s 24),.al 9 t_Term [.str [],.bool false,.sl 3 []],.sf 9 3 (.s 25)]) (.seq (.reg [.mv 26 (.s 2),.la 27 3 (.s 8),.la 28 3 (.s 9),.callvp (some 29) (.s 26) [.s 27,.s 28],.un 30 .not (.s 29)]) (.cond (.s 30) (.seq (.reg [.mv 6 (.c (.bool false))]) (.ret)) (.skip)))))) (.reg [.bin 31 .add (.s 17) (.i 1),.mv 17 (.s 31)])
 | 3=>.seq (.reg [.bin 18 .lss (.s 17) (.s 16)]) (.seq (.cond (.s 18) (.skip) (.exit 0)) (.n 2))
 | 4=>.seq (.seq (.reg [.mv 15 (.s 0),.len 16 (.s 15),.mv 17 (.i 0)]) (.blk 0 (.loop (.n 1)))) (.n 0)
 | _=>.skip
def body:C:=.seq (.reg [.mv 6 (.c (.bool false))]) (.seq (.seq (.reg [.mv 10 (.s 0),.len 11 (.s 10),.mv 12 (.s 1),.len 13 (.s 12),.bin 14 .neq (.s 11) (.s 13)]) (.cond (.s 14) (.seq (.reg [.mv 6 (.c (.bool false))]) (.ret)) (.skip))) (.n 4))
def rs:List RV:=[.t 6]
attribute [push_cast] nd body
theorem ok:okF prog n_slices_EqualFunc_s_Term_s_Term_Term_Term nd body 3 rs = true:=by kernel_rfl
abbrev L3 (v1 v2 v15 v16 v17:V) (B:Nat) (H:List Ob) (Q:X→T→List Ob→Prop):Prop:=Run prog nd B [.c (.m 3),.c (.loop (.n 1)),.mk 0,.c (.n 0)] [(1,v1),(2,v2),(15,v15),(16,v16),(17,v17)] H Q
theorem G3 (h:Run prog nd B (.c (nd 3) :: s) t H Q):Run prog nd B (.c (.m 3) :: s) t H Q:=run_m.2 h
end slices_EqualFunc_s_Term_s_Term_Term_Term
namespace unify_bind_1
def nd (_:Nat):C:=.skip
def body:C:=.seq (.reg [.br 2 t_Bind (.s 0),.mv 4 (.i 0)]) (.seq (.reg [.fa 5 0 (.s 2),.ld 6 (.s 5),.mv 7 (.s 1),.callp (some 8) n_strings_Compare [.s 6,.s 7],.mv 4 (.s 8)]) (.ret))
def rs:List RV:=[.t 4]
attribute [push_cast] nd body
theorem ok:okF prog n_unify_bind_1 nd body 2 rs = true:=by kernel_rfl
end unify_bind_1
namespace bytealg_CompareString
def nd (_:Nat):C:=.skip
def body:C:=.seq (.reg [.mv 4 (.i 0)]) (.seq (.reg [.mv 5 (.s 0),.mv 6 (.s 1),.callp (some 7) n_bytealg_abigen_runtime_cmpstring [.s 5,.s 6],.mv 4 (.s 7)]) (.ret))
def rs:List RV:=[.t 4]
attribute [push_cast] nd body
theorem ok:okF prog n_bytealg_CompareString nd body 2 rs = true:=by kernel_rfl
end bytealg_CompareString
end Go.Dw
end
section
namespace Go.Dw
theorem term_Size_s (t:Term) (hs:size t < 2^62):PF n_term_Size [encT t] (.int .i64 (size t)):=by
 induction t using term_ind with
 | h t ih =>
 refine pf_of term_Size.ok rfl ?_
 have hst:=size_args t
 have hl:=length_le_sizes t.args
 push_cast
 refine loop_up (n:=t.args.length) (R:=fun k=>term_Size.L3 (.int .i64 ((1+sizes (t.args.take k):Nat):Int)) (encTs t.args) (.int .i64 t.args.length) (.int .i64 k) 0 [] _) ?_ ?_ 0 (by omega)
 ·intro k hk ih2
  have h1:=sizes_take_succ _ _ hk
  have h2:=sizes_take_le t.args (k+1)
  have hm:=getD_mem hk
  refine term_Size.G3 ?_
  push_cast [ilt hk]
  refine .of (ih _ hm (by omega)) ?_
  push_cast [w64 (show k < 2^62 by omega)]
  rw [wrap64 (by omega) (by omega)]
  rw [h1] at ih2
  simpa [Int.add_assoc] using ih2
 ·refine term_Size.G3 ?_
  push_cast [inlt (Nat.le_refl _)]
  refine pf_ret ?_
  push_cast [term_Size.rs,List.take_length,hst]
theorem EqualFunc_s {f:Term→Term→Bool} {g:Nat} (l m:List Term) (hl:l.length < 2^62) (h:∀ a∈l,∀ b,PF g [encT a,encT b] (.bool (f a b))) :
  PF n_slices_EqualFunc_s_Term_s_Term_Term_Term [encTs l,encTs m,.fn (.func g) [] []] (.bool (eqf f l m)):=by
 refine pf_of slices_EqualFunc_s_Term_s_Term_Term_Term.ok rfl ?_
 push_cast
 refine ⟨fun hne=>pf_ret ?_,fun he=>?_⟩
 ·push_cast [slices_EqualFunc_s_Term_s_Term_Term_Term.rs]
  cases hq:eqf f l m with
  | false=>rfl
  | true=>have:=eqf_len hq;omega
 ·have he:l.length = m.length:=by omega
  refine loop_up (n:=l.length) (R:=fun k=>eqf f (l.drop k) (m.drop k) = eqf f l m→slices_EqualFunc_s_Term_s_Term_Term_Term.L3 (encTs m) (.fn (.func g) [] []) (encTs l) (.int .i64 l.length) (.int .i64 k) 0 [] _) ?_ ?_ 0 (by omega) (by simp)
  ·intro k hk ih hq
   have hkm:k < m.length:=by omega
   refine slices_EqualFunc_s_Term_s_Term_Term_Term.G3 ?_
   push_cast [ilt hk,ilt hkm]
   refine .of (h _ (getD_mem hk) _) ?_
   push_cast [w64 (show k < 2^62 by omega)]
   rw [drop_getD hk,drop_getD hkm] at hq
   simp only [eqf] at hq
   refine ⟨fun hf=>pf_ret ?_,fun hf=>?_⟩
   ·push_cast [slices_EqualFunc_s_Term_s_Term_Term_Term.rs]
    simp only [Bool.not_eq_true'] at hf
    rw [hf,Bool.false_and] at hq
    exact hq
   ·simp only [Bool.not_eq_false'] at hf
    simp only [hf,Bool.true_and] at hq
    exact ih hq
  ·intro hq
   refine slices_EqualFunc_s_Term_s_Term_Term_Term.G3 ?_
   push_cast [inlt (Nat.le_refl _)]
   refine pf_ret ?_
   push_cast [slices_EqualFunc_s_Term_s_Term_Term_Term.rs]
   rw [List.drop_eq_nil_of_le (by omega),List.drop_eq_nil_of_le (by omega)] at hq
   simpa [eqf] using hq
theorem term_Equal_s (a b:Term) (hs:size a < 2^62):PF n_term_Equal [encT a,encT b] (.bool (decide (a = b))):=by
 induction a using term_ind generalizing b with
 | h a ih =>
 have hst:=size_args a
 have hl:=length_le_sizes a.args
 refine pf_of term_Equal.ok rfl ?_
 have hE:=EqualFunc_s (f:=fun a b=>decide (a = b)) (g:=n_term_Equal) a.args b.args (by omega) fun x hx y=>ih x hx y (by have:=size_mem hx;omega)
 rw [eqf_eq fun _ _ _=>rfl] at hE
 have hi:=term_eq_iff a b
 by_cases h1:a.name = b.name <;> by_cases h2:a.var = b.var <;> push_cast [h1,h2,beq_self_eq_true,show ∀ x y:Bool,(x == y) = decide (x = y) from fun x y=>by cases x <;> cases y <;> rfl]
 ·refine .of hE ?_
  push_cast
  refine pf_ret ?_
  push_cast [term_Equal.rs]
  simp [hi,h1,h2]
 all_goals
  refine pf_ret ?_
  push_cast [term_Equal.rs]
  simp [hi,h1,h2]
end Go.Dw
end
