/-
  Contracts and lemmas for MultiDevelops: part d of 7.
-/
import Derived.Test.YtobangnijcppaaaGreatMec
import Derived.Lib.Bytealg
import Derived.Laws.Externs
import Derived.Ground.NamesProg
import Derived.Shelf.Slices.In.SortAlone
import Derived.Shelf.Slices.In.SortNone
import Derived.Sort.EveryDepth
import Derived.Sort.Grow
import Derived.Sort.KeysCollected
set_option linter.unusedVariables false
set_option linter.unusedSimpArgs false
set_option maxRecDepth 100000
section
namespace Go.Dw
variable {s:List K} {B:Nat} {t:T} {H:List Ob} {Q:X→T→List Ob→Prop}
namespace l17_MultiDevelops
def nd:Nat→C
 | 0=>.seq (.reg [.callp (some 103) n_l17_alive [],.mv 4 (.s 103)]) (.ret)
 | 1=>.seq (.seq (.reg [.mv 72 (.s 12),.bin 73 .eql (.s 72) (.i 0)]) (.cond (.s 73) (.seq (.reg [.mv 75 (.s 0),.la 76 4 (.s 11),.callp (some 77) n_derive_Last [.s 75,.s 76],.mv 74 (.s 77),.ex 78 (.s 74) 0,.ex 79 (.s 74) 1,.al 15 t_Term [.str [],.bool false,.sl 3 []],.sf 15 3 (.s 78),.mv 16 (.s 79)]) (.seq (.reg [.mv 80 (.s 6),.bin 81 .neq (.s 80) (.i 0),.mv 82 (.s 81),.gd (.s 82) false [83,84] [.mv 83 (.s 8),.bin 84 .neq (.s 83) (.i 0)],.pick 85 (.s 82) (.c (.bool true)) (.s 84),.mv 86 (.s 85),.gd (.s 86) false [87,88] [.mv 87 (.s 16),.bin 88 .neq (.s 87) (.i 0)],.pick 89 (.s 86) (.c (.bool true)) (.s 88),.mv 90 (.s 89),.gd (.s 90) false [91,92,93,94,95] [.fa 91 0 (.s 11),.la 92 3 (.s 91),.la 93 3 (.s 5),.callp (some 94) n_r01_Equal [.s 92,.s 93],.un 95 .not (.s 94)],.pick 96 (.s 90) (.c (.bool true)) (.s 95),.mv 97 (.s 96),.gd (.s 97) false [98,99,100,101] [.la 98 3 (.s 15),.la 99 3 (.s 7),.callp (some 100) n_r01_Equal [.s 98,.s 99],.un 101 .not (.s 100)],.pick 102 (.s 97) (.c (.bool true)) (.s 101)]) (.cond (.s 102) (.seq (.reg [.mv 4 (.c (.bool false))]) (.ret)) (.skip)))) (.skip))) (.n 0)
 | _=>.skip
def body:C:=.seq (.reg [.br 3 t_Multi (.s 1),.mv 4 (.c (.bool false))]) (.seq (.reg [.mv 18 (.s 0),.la 19 4 (.s 3),.callp (some 20) n_multi_Source [.s 18,.s 19],.mv 17 (.s 20),.ex 21 (.s 17) 0,.ex 22 (.s 17) 1,.al 5 t_Term [.str [],.bool false,.sl 3 []],.sf 5 3 (.s 21),.mv 6 (.s 22)]) (.seq (.reg [.mv 24 (.s 0),.la 25 4 (.s 3),.callp (some 26) n_multi_Target [.s 24,.s 25],.mv 23 (.s 26),.ex 27 (.s 23) 0,.ex 28 (.s 23) 1,.al 7 t_Term [.str [],.bool false,.sl 3 []],.sf 7 3 (.s 27),.mv 8 (.s 28)]) (.seq (.reg [.mv 30 (.s 0),.la 31 4 (.s 3),.callp (some 32) n_multi_Chain [.s 30,.s 31],.mv 29 (.s 32),.ex 33 (.s 29) 0,.ex 34 (.s 29) 1,.al 9 t_Chain [.str [],.bool false,.sl 3 [],.sl 2 []],.sf 9 4 (.s 33),.mv 10 (.s 34)]) (.seq (.reg [.mv 36 (.s 0),.la 37 4 (.s 3),.callp (some 38) n_multi_Inner [.s 36,.s 37],.mv 35 (.s 38),.ex 39 (.s 35) 0,.ex 40 (.s 35) 1,.al 11 t_Chain [.str [],.bool false,.sl 3 [],.sl 2 []],.sf 11 4 (.s 39),.mv 12 (.s 40)]) (.seq (.seq (.reg [.mv 41 (.s 10),.bin 42 .eql (.s 41) (.i 0)]) (.cond (.s 42) (.seq (.reg [.mv 44 (.s 0),.la 45 4 (.s 9),.callp (some 46) n_derive_Last [.s 44,.s 45],.mv 43 (.s 46),.ex 47 (.s 43) 0,.ex 48 (.s 43) 1,.al 13 t_Term [.str [],.bool false,.sl 3 []],.sf 13 3 (.s 47),.mv 14 (.s 48)]) (.seq (.reg [.mv 49 (.s 6),.bin 50 .neq (.s 49) (.i 0),.mv 51 (.s 50),.gd (.s 51) false [52,53] [.mv 52 (.s 8),.bin 53 .neq (.s 52) (.i 0)],.pick 54 (.s 51) (.c (.bool true)) (.s 53),.mv 55 (.s 54),.gd (.s 55) false [56,57] [.mv 56 (.s 14),.bin 57 .neq (.s 56) (.i 0)],.pick 58 (.s 55) (.c (.bool true)) (.s 57),.mv 59 (.s 58),.gd (.s 59) false [60,61,62,63,64] [.fa 60 0 (.s 9),.la 61 3 (.s 60),.la 62 3 (.s 5),.callp (some 63) n_r01_Equal [.s 61,.s 62],.un 64 .not (.s 63)],.pick 65 (.s 59) (.c (.bool true)) (.s 64),.mv 66 (.s 65),.gd (.s 66) false [67,68,69,70] [.la 67 3 (.s 13),.la 68 3 (.s 7),.callp (some 69) n_r01_Equal [.s 67,.s 68],.un 70 .not (.s 69)],.pick 71 (.s 66) (.c (.bool true)) (.s 70)]) (.cond (.s 71) (.seq (.reg [.mv 4 (.c (.bool false))]) (.ret)) (.skip)))) (.skip))) (.n 1))))))
def rs:List RV:=[.t 4]
attribute [push_cast] nd body
theorem ok:okF prog n_l17_MultiDevelops nd body 2 rs = true:=by kernel_rfl
end l17_MultiDevelops
namespace multi_Check
def nd:Nat→C
 | 0=>.seq (.reg [.mv 4 (.i 0)]) (.ret)
 | 1=>.seq (.blk 0 (.seq (.reg [.la 12 4 (.s 3),.mf 13 n_multi_Check_1 [] [.s 2],.callp (some 14) n_multi_all [.s 12,.s 13],.un 15 .not (.s 14),.mv 11 (.s 15)]) (.cond (.s 11) (.seq (.reg [.mv 4 (.i 8)]) (.ret)) (.seq (.reg [.la 17 4 (.s 3),.mf 18 n_multi_Check_2 [] [.s 2],.callp (some 19) n_multi_all [.s 17,.s 18],.un 20 .not (.s 19),.mv 16 (.s 20)]) (.cond (.s 16) (.seq (.reg [.mv 4 (.i 4)]) (.ret)) (.seq (.reg [.la 22 4 (.s 3),.callp (some 23) n_multi_size [.s 22],.bin 24 .gtr (.s 23) (.i 4000),.mv 25 (.s 24),.gd (.s 25) false [26,27,28] [.la 26 4 (.s 3),.callp (some 27) n_multi_depth [.s 26],.bin 28 .gtr (.s 27) (.i 200)],.pick 29 (.s 25) (.c (.bool true)) (.s 28),.mv 21 (.s 29)]) (.cond (.s 21) (.seq (.reg [.mv 4 (.i 3)]) (.ret)) (.skip)))))))) (.n 0)
 | _=>.skip
def body:C:=.seq (.reg [.br 2 t_s_Rule (.s 0),.br 3 t_Multi (.s 1),.mv 4 (.i 0)]) (.seq (.seq (.reg [.ld 6 (.s 2),.callp (some 7) n_term_CheckSystem [.s 6],.mv 5 (.s 7)]) (.seq (.reg [.mv 8 (.s 5),.bin 9 .neq (.s 8) (.i 0)]) (.cond (.s 9) (.seq (.reg [.mv 10 (.s 5),.mv 4 (.s 10)]) (.ret)) (.skip)))) (.n 1))
def rs:List RV:=[.t 4]
attribute [push_cast] nd body
theorem ok:okF prog n_multi_Check nd body 2 rs = true:=by kernel_rfl
end multi_Check
namespace multi_Count
def nd:Nat→C
 | 0=>.seq (.reg [.mv 21 (.s 3),.mv 2 (.s 21)]) (.ret)
 | 1=>.gh [.ks 0 [3,10,11,12]] (.m 3)
 | 2=>.seq (.blk 1 (.seq (.reg [.ia 14 4 (.s 10) (.s 12),.la 15 4 (.s 14),.al 5 t_Multi [.int .i64 0,.str [],.bool false,.sl 4 []],.sf 5 4 (.s 15)]) (.reg [.mv 16 (.s 3),.la 17 4 (.s 5),.callp (some 18) n_multi_Count [.s 17],.bin 19 .add (.s 16) (.s 18),.mv 3 (.s 19)]))) (.reg [.bin 20 .add (.s 12) (.i 1),.mv 12 (.s 20)])
 | 3=>.seq (.reg [.bin 13 .lss (.s 12) (.s 11)]) (.seq (.cond (.s 13) (.skip) (.exit 0)) (.n 2))
 | 4=>.seq (.seq (.reg [.fa 9 3 (.s 1),.ld 10 (.s 9),.len 11 (.s 10),.mv 12 (.i 0)]) (.blk 0 (.loop (.n 1)))) (.n 0)
 | _=>.skip
def body:C:=.seq (.reg [.br 1 t_Multi (.s 0),.mv 2 (.i 0)]) (.seq (.reg [.mv 3 (.i 0)]) (.seq (.seq (.reg [.fa 6 0 (.s 1),.ld 7 (.s 6),.bin 8 .neq (.s 7) (.i 0)]) (.cond (.s 8) (.reg [.mv 3 (.i 1)]) (.skip))) (.n 4)))
def rs:List RV:=[.t 2]
attribute [push_cast] nd body
theorem ok:okF prog n_multi_Count nd body 1 rs = true:=by kernel_rfl
abbrev L3 (v3 v10 v11 v12:V) (B:Nat) (H:List Ob) (Q:X→T→List Ob→Prop):Prop:=Run prog nd B [.c (.m 3),.c (.loop (.n 1)),.mk 0,.c (.n 0)] [(3,v3),(10,v10),(11,v11),(12,v12)] H Q
theorem G3 (h:Run prog nd B (.c (nd 3) :: s) t H Q):Run prog nd B (.c (.m 3) :: s) t H Q:=run_m.2 h
end multi_Count
namespace l17_alive
def nd (_:Nat):C:=.skip
def body:C:=.seq (.reg [.mv 0 (.c (.bool false))]) (.seq (.reg [.bd 10 [.int .i64 0,.str [],.bool false,.sl 4 []] [(1,1,(.c (.str [97])))],.bs 11 4 [.s 10],.bd 12 [.int .i64 0,.str [],.bool false,.sl 4 []] [(0,1,(.i 1)),(3,1,(.s 11))],.bs 13 4 [.s 12],.bd 14 [.int .i64 0,.str [],.bool false,.sl 4 []] [(0,1,(.i 1)),(3,1,(.s 13))],.al 1 t_Multi [.int .i64 0,.str [],.bool false,.sl 4 []],.sf 1 4 (.s 14)]) (.seq (.dr [0,1,2,3,4,5,6,7,8] [.callp (some 16) n_l17_double [],.la 17 4 (.s 1),.callp (some 18) n_multi_Target [.s 16,.s 17],.mv 15 (.s 18),.ex 19 (.s 15) 0,.ex 20 (.s 15) 1,.al 2 t_Term [.str [],.bool false,.sl 3 []],.sf 2 3 (.s 19),.mv 3 (.s 20)]) (.seq (.dr [0,1,2,3,4,5,6,7,8] [.callp (some 22) n_l17_double [],.la 23 4 (.s 1),.callp (some 24) n_multi_Chain [.s 22,.s 23],.mv 21 (.s 24),.ex 25 (.s 21) 0,.ex 26 (.s 21) 1,.al 4 t_Chain [.str [],.bool false,.sl 3 [],.sl 2 []],.sf 4 4 (.s 25),.mv 5 (.s 26)]) (.seq (.dr [0,1,2,3,4,5,6,7,8] [.callp (some 28) n_l17_double [],.la 29 4 (.s 1),.callp (some 30) n_multi_Inner [.s 28,.s 29],.mv 27 (.s 30),.ex 31 (.s 27) 0,.ex 32 (.s 27) 1,.al 6 t_Chain [.str [],.bool false,.sl 3 [],.sl 2 []],.sf 6 4 (.s 31),.mv 7 (.s 32)]) (.seq (.dr [0,1,2,3,4,5,6,7] [.callp (some 34) n_l17_double [],.la 35 4 (.s 1),.callp (some 36) n_multi_Steps [.s 34,.s 35],.mv 33 (.s 36),.ex 37 (.s 33) 0,.ex 38 (.s 33) 1,.mv 8 (.s 37),.mv 9 (.s 38)]) (.seq (.dr [0,1,2,3,4,5,6,7,8,9,10,11,12,13,14,15,16,17,18,19,20,21,22,23,24,25,26,27,28,29,30,31,32,33,34,35,36,37,38,39,40,41,42,43,44,45,46,47] [.callp (some 39) n_l17_double [],.la 40 4 (.s 1),.callp (some 41) n_multi_Check [.s 39,.s 40],.bin 42 .eql (.s 41) (.i 0),.mv 43 (.s 42),.gd (.s 43) true [44] [.la 44 4 (.s 1)],.gd (.s 43) true [45] [.callp (some 45) n_multi_Count [.s 44]],.gd (.s 43) true [46] [.bin 46 .eql (.s 45) (.i 2)],.pick 47 (.s 43) (.s 46) (.c (.bool false)),.mv 48 (.s 47),.gd (.s 48) true [49] [.mv 49 (.s 3)],.gd (.s 48) true [50] [.bin 50 .eql (.s 49) (.i 0)],.pick 51 (.s 48) (.s 50) (.c (.bool false)),.mv 52 (.s 51),.gd (.s 52) true [53] [.la 53 3 (.s 2)],.gd (.s 52) true [54] [.callp (some 54) n_r01_Size [.s 53]],.gd (.s 52) true [55] [.bin 55 .eql (.s 54) (.i 7)],.pick 56 (.s 52) (.s 55) (.c (.bool false)),.mv 57 (.s 56),.gd (.s 57) true [58] [.mv 58 (.s 5)],.gd (.s 57) true [59] [.bin 59 .eql (.s 58) (.i 0)],.pick 60 (.s 57) (.s 59) (.c (.bool false)),.mv 61 (.s 60),.gd (.s 61) true [62] [.fa 62 3 (.s 4)],.gd (.s 61) true [63] [.ld 63 (.s 62)],.gd (.s 61) true [64] [.len 64 (.s 63)],.gd (.s 61) true [65] [.bin 65 .eql (.s 64) (.i 3)],.pick 66 (.s 61) (.s 65) (.c (.bool false)),.mv 67 (.s 66),.gd (.s 67) true [68] [.mv 68 (.s 7)],.gd (.s 67) true [69] [.bin 69 .eql (.s 68) (.i 0)],.pick 70 (.s 67) (.s 69) (.c (.bool false)),.mv 71 (.s 70),.gd (.s 71) true [72] [.fa 72 3 (.s 6)],.gd (.s 71) true [73] [.ld 73 (.s 72)],.gd (.s 71) true [74] [.len 74 (.s 73)],.gd (.s 71) true [75] [.bin 75 .eql (.s 74) (.i 2)],.pick 76 (.s 71) (.s 75) (.c (.bool false)),.mv 77 (.s 76),.gd (.s 77) true [78] [.mv 78 (.s 9)],.gd (.s 77) true [79] [.bin 79 .eql (.s 78) (.i 0)],.pick 80 (.s 77) (.s 79) (.c (.bool false)),.mv 81 (.s 80),.gd (.s 81) true [82] [.mv 82 (.s 8)],.gd (.s 81) true [83] [.len 83 (.s 82)],.gd (.s 81) true [84] [.bin 84 .eql (.s 83) (.i 2)],.pick 85 (.s 81) (.s 84) (.c (.bool false)),.mv 0 (.s 85)]) (.ret)))))))
def rs:List RV:=[.t 0]
attribute [push_cast] nd body
theorem ok:okF prog n_l17_alive nd body 0 rs = true:=by kernel_rfl
end l17_alive
namespace multi_Source
def nd (_:Nat):C:=.skip
def body:C:=.seq (.reg [.br 3 t_Multi (.s 1),.al 4 t_Term [.str [],.bool false,.sl 3 []],.mv 5 (.i 0)]) (.seq (.reg [.mv 6 (.s 0),.la 7 4 (.s 3),.callp (some 8) n_multi_end [.s 6,.s 7,(.f n_multi_Source_1)],.ex 9 (.s 8) 0,.ex 10 (.s 8) 1,.st 3 (.s 4) (.s 9),.mv 5 (.s 10)]) (.ret))
def rs:List RV:=[.a 4 3,.t 5]
attribute [push_cast] nd body
theorem ok:okF prog n_multi_Source nd body 2 rs = true:=by kernel_rfl
end multi_Source
namespace multi_Target
def nd (_:Nat):C:=.skip
def body:C:=.seq (.reg [.br 3 t_Multi (.s 1),.al 4 t_Term [.str [],.bool false,.sl 3 []],.mv 5 (.i 0)]) (.seq (.reg [.mv 6 (.s 0),.la 7 4 (.s 3),.callp (some 8) n_multi_end [.s 6,.s 7,(.f n_multi_Target_1)],.ex 9 (.s 8) 0,.ex 10 (.s 8) 1,.st 3 (.s 4) (.s 9),.mv 5 (.s 10)]) (.ret))
def rs:List RV:=[.a 4 3,.t 5]
attribute [push_cast] nd body
theorem ok:okF prog n_multi_Target nd body 2 rs = true:=by kernel_rfl
end multi_Target
namespace r01_Equal
def nd (_:Nat):C:=.skip
def body:C:=.seq (.reg [.br 2 t_Term (.s 0),.br 3 t_Term (.s 1),.mv 4 (.c (.bool false))]) (.seq (.reg [.la 5 3 (.s 2),.la 6 3 (.s 3),.callp (some 7) n_r01_Compare [.s 5,.s 6],.bin 8 .eql (.s 7) (.i 0),.mv 4 (.s 8)]) (.ret))
def rs:List RV:=[.t 4]
attribute [push_cast] nd body
theorem ok:okF prog n_r01_Equal nd body 2 rs = true:=by kernel_rfl
end r01_Equal
namespace multi_Chain
def nd (_:Nat):C:=.skip
def body:C:=.seq (.reg [.br 3 t_Multi (.s 1),.al 4 t_Chain [.str [],.bool false,.sl 3 [],.sl 2 []],.mv 5 (.i 0)]) (.seq (.reg [.mv 6 (.s 0),.la 7 4 (.s 3),.callp (some 8) n_multi_develop [.s 6,.s 7,(.f n_multi_first)],.ex 9 (.s 8) 0,.ex 10 (.s 8) 1,.st 4 (.s 4) (.s 9),.mv 5 (.s 10)]) (.ret))
def rs:List RV:=[.a 4 4,.t 5]
attribute [push_cast] nd body
theorem ok:okF prog n_multi_Chain nd body 2 rs = true:=by kernel_rfl
end multi_Chain
namespace multi_Inner
def nd (_:Nat):C:=.skip
def body:C:=.seq (.reg [.br 3 t_Multi (.s 1),.al 4 t_Chain [.str [],.bool false,.sl 3 [],.sl 2 []],.mv 5 (.i 0)]) (.seq (.reg [.mv 6 (.s 0),.la 7 4 (.s 3),.callp (some 8) n_multi_develop [.s 6,.s 7,(.f n_multi_deep)],.ex 9 (.s 8) 0,.ex 10 (.s 8) 1,.st 4 (.s 4) (.s 9),.mv 5 (.s 10)]) (.ret))
def rs:List RV:=[.a 4 4,.t 5]
attribute [push_cast] nd body
theorem ok:okF prog n_multi_Inner nd body 2 rs = true:=by kernel_rfl
end multi_Inner
namespace derive_Last
def nd:Nat→C
 | 0=>.seq (.reg [.mv 18 (.s 6),.mv 19 (.s 6),.len 20 (.s 19),.bin 21 .sub (.s 20) (.i 1),.ia 22 3 (.s 18) (.s 21),.la 23 3 (.s 22),.st 3 (.s 4) (.s 23),.mv 5 (.i 0)]) (.ret)
 | _=>.skip
def body:C:=.seq (.reg [.br 3 t_Chain (.s 1),.al 4 t_Term [.str [],.bool false,.sl 3 []],.mv 5 (.i 0)]) (.seq (.reg [.mv 9 (.s 0),.la 10 4 (.s 3),.callp (some 11) n_derive_Terms [.s 9,.s 10],.mv 8 (.s 11),.ex 12 (.s 8) 0,.ex 13 (.s 8) 1,.mv 6 (.s 12),.mv 7 (.s 13)]) (.seq (.seq (.reg [.mv 14 (.s 7),.bin 15 .neq (.s 14) (.i 0)]) (.cond (.s 15) (.seq (.reg [.bd 16 [.str [],.bool false,.sl 3 []] [],.mv 17 (.s 7),.st 3 (.s 4) (.s 16),.mv 5 (.s 17)]) (.ret)) (.skip))) (.n 0)))
def rs:List RV:=[.a 4 3,.t 5]
attribute [push_cast] nd body
theorem ok:okF prog n_derive_Last nd body 2 rs = true:=by kernel_rfl
end derive_Last
namespace multi_Steps
def nd:Nat→C
 | 0=>.seq (.reg [.ld 23 (.s 8),.call (some 24) n_slices_SortFunc_s_Step_Step [.s 23,(.f n_multi_Steps_2)]]) (.seq (.reg [.frc 0 (.s 8),.ld 25 (.s 8),.mv 4 (.s 25),.mv 5 (.i 0)]) (.ret))
 | 1=>.seq (.reg [.al 8 t_s_Step [.nil],.rono t_Step 2 0 (.s 8)]) (.seq (.seq (.reg [.mv 18 (.s 0),.la 19 4 (.s 3),.mf 20 n_multi_Steps_1 [] [.s 8],.call (some 21) n_multi_walk [.s 18,.s 19,(.c (.sl 1 [])),.s 20],.un 22 .not (.s 21)]) (.cond (.s 22) (.seq (.reg [.mv 4 (.c (.sl 2 [])),.mv 5 (.i 3)]) (.ret)) (.skip))) (.n 0))
 | _=>.skip
def body:C:=.seq (.reg [.br 3 t_Multi (.s 1),.mv 4 (.c (.sl 2 [])),.mv 5 (.i 0)]) (.seq (.seq (.reg [.mv 10 (.s 0),.la 11 4 (.s 3),.callp (some 12) n_multi_Source [.s 10,.s 11],.mv 9 (.s 12),.ex 13 (.s 9) 0,.ex 14 (.s 9) 1,.al 6 t_Term [.str [],.bool false,.sl 3 []],.sf 6 3 (.s 13),.mv 7 (.s 14)]) (.seq (.reg [.mv 15 (.s 7),.bin 16 .neq (.s 15) (.i 0)]) (.cond (.s 16) (.seq (.reg [.mv 17 (.s 7),.mv 4 (.c (.sl 2 [])),.mv 5 (.s 17)]) (.ret)) (.skip)))) (.n 1))
def rs:List RV:=[.t 4,.t 5]
attribute [push_cast] nd body
theorem ok:okF prog n_multi_Steps nd body 2 rs = true:=by kernel_rfl
end multi_Steps
namespace term_CheckSystem
def nd:Nat→C
 | 0=>.seq (.reg [.mv 2 (.i 0)]) (.ret)
 | 1=>.seq (.seq (.reg [.mv 27 (.s 0),.callp (some 28) n_slices_ContainsFunc_s_Rule_Rule [.s 27,(.f n_term_extra)]]) (.cond (.s 28) (.seq (.reg [.mv 2 (.i 7)]) (.ret)) (.skip))) (.n 0)
 | 2=>.gh [.ks 2 [0,20]] (.m 4)
 | 3=>.blk 1 (.seq (.reg [.en 23 (.s 20),.ex 24 (.s 23) 0,.mv 6 (.s 24)]) (.seq (.reg [.mv 25 (.s 6),.callp (some 26) n_term_Marked [.s 25]]) (.cond (.s 26) (.seq (.reg [.mv 2 (.i 6)]) (.ret)) (.skip))))
 | 4=>.seq (.reg [.nx 21 (.s 20),.ex 22 (.s 21) 0]) (.seq (.cond (.s 22) (.skip) (.exit 0)) (.n 3))
 | 5=>.seq (.seq (.reg [.mv 19 (.s 4),.rg 20 (.s 19)]) (.blk 0 (.loop (.n 2)))) (.n 1)
 | 6=>.seq (.reg [.mv 13 (.s 0),.call (some 14) n_term_Arities [.s 13],.mv 12 (.s 14),.ex 15 (.s 12) 0,.ex 16 (.s 12) 1,.mv 4 (.s 15),.mv 5 (.s 16)]) (.seq (.seq (.reg [.mv 17 (.s 5),.un 18 .not (.s 17)]) (.cond (.s 18) (.seq (.reg [.mv 2 (.i 6)]) (.ret)) (.skip))) (.n 5))
 | _=>.skip
def body:C:=.seq (.reg [.mv 2 (.i 0)]) (.seq (.seq (.reg [.mv 7 (.s 0),.callp (some 8) n_term_CheckRules [.s 7],.mv 3 (.s 8)]) (.seq (.reg [.mv 9 (.s 3),.bin 10 .neq (.s 9) (.i 0)]) (.cond (.s 10) (.seq (.reg [.mv 11 (.s 3),.mv 2 (.s 11)]) (.ret)) (.skip)))) (.n 6))
def rs:List RV:=[.t 2]
attribute [push_cast] nd body
theorem ok:okF prog n_term_CheckSystem nd body 1 rs = true:=by kernel_rfl
abbrev L4 (v0 v20:V) (B:Nat) (H:List Ob) (Q:X→T→List Ob→Prop):Prop:=Run prog nd B [.c (.m 4),.c (.loop (.n 2)),.mk 0,.c (.n 1)] [(0,v0),(20,v20)] H Q
theorem G4 (h:Run prog nd B (.c (nd 4) :: s) t H Q):Run prog nd B (.c (.m 4) :: s) t H Q:=run_m.2 h
end term_CheckSystem
namespace multi_all
def nd (_:Nat):C:=.skip
def body:C:=.seq (.reg [.br 2 t_Multi (.s 0),.br 3 t_func_Multi_bool (.s 1),.mv 4 (.c (.bool false))]) (.seq (.reg [.ld 5 (.s 3),.la 6 4 (.s 2),.callvp (some 7) (.s 5) [.s 6],.mv 8 (.s 7),.gd (.s 8) true [9,10,11,12,13] [.fa 9 3 (.s 2),.ld 10 (.s 9),.mf 11 n_multi_all_1 [] [.s 3],.callp (some 12) n_slices_ContainsFunc_s_Multi_Multi [.s 10,.s 11],.un 13 .not (.s 12)],.pick 14 (.s 8) (.s 13) (.c (.bool false)),.mv 4 (.s 14)]) (.ret))
def rs:List RV:=[.t 4]
attribute [push_cast] nd body
theorem ok:okF prog n_multi_all nd body 2 rs = true:=by kernel_rfl
end multi_all
namespace multi_Check_1
def nd (_:Nat):C:=.skip
def body:C:=.seq (.reg [.br 2 t_Multi (.s 0),.mv 3 (.c (.bool false))]) (.seq (.reg [.fa 4 0 (.s 2),.ld 5 (.s 4),.bin 6 .geq (.s 5) (.i 0),.mv 7 (.s 6),.gd (.s 7) true [8,9,10,11,12] [.fa 8 0 (.s 2),.ld 9 (.s 8),.ld 10 (.s 1),.len 11 (.s 10),.bin 12 .leq (.s 9) (.s 11)],.pick 13 (.s 7) (.s 12) (.c (.bool false)),.mv 3 (.s 13)]) (.ret))
def rs:List RV:=[.t 3]
attribute [push_cast] nd body
theorem ok:okF prog n_multi_Check_1 nd body 2 rs = true:=by kernel_rfl
end multi_Check_1
namespace multi_Check_2
def nd (_:Nat):C:=.skip
def body:C:=.seq (.reg [.br 2 t_Multi (.s 0),.mv 3 (.c (.bool false))]) (.seq (.reg [.ld 4 (.s 1),.la 5 4 (.s 2),.callp (some 6) n_multi_formed [.s 4,.s 5],.mv 3 (.s 6)]) (.ret))
def rs:List RV:=[.t 3]
attribute [push_cast] nd body
theorem ok:okF prog n_multi_Check_2 nd body 2 rs = true:=by kernel_rfl
end multi_Check_2
namespace multi_formed
def nd:Nat→C
 | 0=>.seq (.reg [.fa 45 3 (.s 3),.ld 46 (.s 45),.len 47 (.s 46),.bin 48 .leq (.s 47) (.i 8),.mv 49 (.s 48),.gd (.s 49) true [50,51,52] [.fa 50 1 (.s 3),.ld 51 (.s 50),.callp (some 52) n_term_IsName [.s 51,(.c (.bool true))]],.pick 53 (.s 49) (.s 52) (.c (.bool false)),.mv 4 (.s 53)]) (.ret)
 | _=>.skip
def body:C:=.seq (.reg [.br 3 t_Multi (.s 1),.mv 4 (.c (.bool false))]) (.seq (.blk 0 (.seq (.reg [.fa 6 0 (.s 3),.ld 7 (.s 6),.bin 8 .gtr (.s 7) (.i 0),.mv 5 (.s 8)]) (.cond (.s 5) (.seq (.dr [0,1,2,3,4,5,6,7,8,9,10,11,12,13,14,15,16,17,18,19,20,21,22,23,24] [.fa 9 1 (.s 3),.ld 10 (.s 9),.bin 11 .eql (.s 10) (.c (.str [])),.mv 12 (.s 11),.gd (.s 12) true [13] [.fa 13 2 (.s 3)],.gd (.s 12) true [14] [.ld 14 (.s 13)],.gd (.s 12) true [15] [.un 15 .not (.s 14)],.pick 16 (.s 12) (.s 15) (.c (.bool false)),.mv 17 (.s 16),.gd (.s 17) true [18] [.fa 18 3 (.s 3)],.gd (.s 17) true [19] [.ld 19 (.s 18)],.gd (.s 17) true [20] [.len 20 (.s 19)],.gd (.s 17) true [21] [.mv 21 (.s 0)],.gd (.s 17) true [22] [.fa 22 0 (.s 3)],.gd (.s 17) true [23] [.ld 23 (.s 22)],.gd (.s 17) true [24] [.bin 24 .sub (.s 23) (.i 1)],.gd (.s 17) true [25] [.ia 25 6 (.s 21) (.s 24)],.gd (.s 17) true [26] [.fa 26 0 (.s 25)],.gd (.s 17) true [27] [.la 27 3 (.s 26)],.gd (.s 17) true [28] [.bs 28 3 [.s 27]],.gd (.s 17) true [29] [.callp (some 29) n_term_VarsOf [.s 28]],.gd (.s 17) true [30] [.len 30 (.s 29)],.gd (.s 17) true [31] [.bin 31 .eql (.s 20) (.s 30)],.pick 32 (.s 17) (.s 31) (.c (.bool false)),.mv 4 (.s 32)]) (.ret)) (.seq (.reg [.fa 34 2 (.s 3),.ld 35 (.s 34),.mv 33 (.s 35)]) (.cond (.s 33) (.seq (.reg [.fa 36 3 (.s 3),.ld 37 (.s 36),.len 38 (.s 37),.bin 39 .eql (.s 38) (.i 0),.mv 40 (.s 39),.gd (.s 40) true [41,42,43] [.fa 41 1 (.s 3),.ld 42 (.s 41),.callp (some 43) n_term_IsName [.s 42,(.c (.bool false))]],.pick 44 (.s 40) (.s 43) (.c (.bool false)),.mv 4 (.s 44)]) (.ret)) (.skip)))))) (.n 0))
def rs:List RV:=[.t 4]
attribute [push_cast] nd body
theorem ok:okF prog n_multi_formed nd body 2 rs = true:=by kernel_rfl
end multi_formed
namespace multi_size
def nd:Nat→C
 | 0=>.seq (.reg [.mv 20 (.s 3),.mv 2 (.s 20)]) (.ret)
 | 1=>.gh [.ks 0 [3,7,8,9]] (.m 3)
 | 2=>.seq (.blk 1 (.seq (.reg [.ia 11 4 (.s 7) (.s 9),.la 12 4 (.s 11),.al 5 t_Multi [.int .i64 0,.str [],.bool false,.sl 4 []],.sf 5 4 (.s 12)]) (.seq (.reg [.mv 13 (.s 3),.la 14 4 (.s 5),.callp (some 15) n_multi_size [.s 14],.bin 16 .add (.s 13) (.s 15),.mv 3 (.s 16)]) (.seq (.reg [.mv 17 (.s 3),.bin 18 .gtr (.s 17) (.i 4000)]) (.cond (.s 18) (.exit 0) (.skip)))))) (.reg [.bin 19 .add (.s 9) (.i 1),.mv 9 (.s 19)])
 | 3=>.seq (.reg [.bin 10 .lss (.s 9) (.s 8)]) (.seq (.cond (.s 10) (.skip) (.exit 0)) (.n 2))
 | _=>.skip
def body:C:=.seq (.reg [.br 1 t_Multi (.s 0),.mv 2 (.i 0)]) (.seq (.reg [.mv 3 (.i 1)]) (.seq (.seq (.reg [.fa 6 3 (.s 1),.ld 7 (.s 6),.len 8 (.s 7),.mv 9 (.i 0)]) (.blk 0 (.loop (.n 1)))) (.n 0)))
def rs:List RV:=[.t 2]
attribute [push_cast] nd body
theorem ok:okF prog n_multi_size nd body 1 rs = true:=by kernel_rfl
abbrev L3 (v3 v7 v8 v9:V) (B:Nat) (H:List Ob) (Q:X→T→List Ob→Prop):Prop:=Run prog nd B [.c (.m 3),.c (.loop (.n 1)),.mk 0,.c (.n 0)] [(3,v3),(7,v7),(8,v8),(9,v9)] H Q
theorem G3 (h:Run prog nd B (.c (nd 3) :: s) t H Q):Run prog nd B (.c (.m 3) :: s) t H Q:=run_m.2 h
end multi_size
namespace multi_depth
def nd:Nat→C
 | 0=>.seq (.reg [.mv 18 (.s 3),.bin 19 .add (.s 18) (.i 1),.mv 2 (.s 19)]) (.ret)
 | 1=>.gh [.ks 0 [3,7,8,9]] (.m 3)
 | 2=>.seq (.blk 1 (.seq (.reg [.ia 11 4 (.s 7) (.s 9),.la 12 4 (.s 11),.al 5 t_Multi [.int .i64 0,.str [],.bool false,.sl 4 []],.sf 5 4 (.s 12)]) (.reg [.mv 13 (.s 3),.la 14 4 (.s 5),.callp (some 15) n_multi_depth [.s 14],.mx 16 (.s 13) (.s 15),.mv 3 (.s 16)]))) (.reg [.bin 17 .add (.s 9) (.i 1),.mv 9 (.s 17)])
 | 3=>.seq (.reg [.bin 10 .lss (.s 9) (.s 8)]) (.seq (.cond (.s 10) (.skip) (.exit 0)) (.n 2))
 | _=>.skip
def body:C:=.seq (.reg [.br 1 t_Multi (.s 0),.mv 2 (.i 0)]) (.seq (.reg [.mv 3 (.i 0)]) (.seq (.seq (.reg [.fa 6 3 (.s 1),.ld 7 (.s 6),.len 8 (.s 7),.mv 9 (.i 0)]) (.blk 0 (.loop (.n 1)))) (.n 0)))
def rs:List RV:=[.t 2]
attribute [push_cast] nd body
theorem ok:okF prog n_multi_depth nd body 1 rs = true:=by kernel_rfl
abbrev L3 (v3 v7 v8 v9:V) (B:Nat) (H:List Ob) (Q:X→T→List Ob→Prop):Prop:=Run prog nd B [.c (.m 3),.c (.loop (.n 1)),.mk 0,.c (.n 0)] [(3,v3),(7,v7),(8,v8),(9,v9)] H Q
theorem G3 (h:Run prog nd B (.c (nd 3) :: s) t H Q):Run prog nd B (.c (.m 3) :: s) t H Q:=run_m.2 h
end multi_depth
namespace l17_double
def nd (_:Nat):C:=.skip
def body:C:=.seq (.reg [.mv 0 (.c (.sl 6 []))]) (.seq (.reg [.bd 2 [.str [],.bool false,.sl 3 []] [(0,1,(.c (.str [120]))),(1,1,(.c (.bool true)))],.al 1 t_Term [.str [],.bool false,.sl 3 []],.sf 1 3 (.s 2)]) (.seq (.reg [.la 3 3 (.s 1),.bs 4 3 [.s 3],.bd 5 [.str [],.bool false,.sl 3 []] [(0,1,(.c (.str [102]))),(2,1,(.s 4))],.la 6 3 (.s 1),.la 7 3 (.s 1),.bs 8 3 [.s 6,.s 7],.bd 9 [.str [],.bool false,.sl 3 []] [(0,1,(.c (.str [103]))),(2,1,(.s 8))],.bd 10 [.str [],.bool false,.sl 3 [],.str [],.bool false,.sl 3 []] [(0,3,(.s 5)),(3,3,(.s 9))],.bs 11 6 [.s 10],.mv 0 (.s 11)]) (.ret)))
def rs:List RV:=[.t 0]
attribute [push_cast] nd body
theorem ok:okF prog n_l17_double nd body 0 rs = true:=by kernel_rfl
end l17_double
namespace r01_Size
def nd:Nat→C
 | 0=>.seq (.reg [.mv 18 (.s 3),.mv 2 (.s 18)]) (.ret)
 | 1=>.gh [.ks 0 [3,7,8,9]] (.m 3)
 | 2=>.seq (.blk 1 (.seq (.reg [.ia 11 3 (.s 7) (.s 9),.la 12 3 (.s 11),.al 5 t_Term [.str [],.bool false,.sl 3 []],.sf 5 3 (.s 12)]) (.reg [.mv 13 (.s 3),.la 14 3 (.s 5),.callp (some 15) n_r01_Size [.s 14],.bin 16 .add (.s 13) (.s 15),.mv 3 (.s 16)]))) (.reg [.bin 17 .add (.s 9) (.i 1),.mv 9 (.s 17)])
 | 3=>.seq (.reg [.bin 10 .lss (.s 9) (.s 8)]) (.seq (.cond (.s 10) (.skip) (.exit 0)) (.n 2))
 | _=>.skip
def body:C:=.seq (.reg [.br 1 t_Term (.s 0),.mv 2 (.i 0)]) (.seq (.reg [.mv 3 (.i 1)]) (.seq (.seq (.reg [.fa 6 2 (.s 1),.ld 7 (.s 6),.len 8 (.s 7),.mv 9 (.i 0)]) (.blk 0 (.loop (.n 1)))) (.n 0)))
def rs:List RV:=[.t 2]
attribute [push_cast] nd body
theorem ok:okF prog n_r01_Size nd body 1 rs = true:=by kernel_rfl
abbrev L3 (v3 v7 v8 v9:V) (B:Nat) (H:List Ob) (Q:X→T→List Ob→Prop):Prop:=Run prog nd B [.c (.m 3),.c (.loop (.n 1)),.mk 0,.c (.n 0)] [(3,v3),(7,v7),(8,v8),(9,v9)] H Q
theorem G3 (h:Run prog nd B (.c (nd 3) :: s) t H Q):Run prog nd B (.c (.m 3) :: s) t H Q:=run_m.2 h
end r01_Size
namespace multi_end
def nd:Nat→C
 | 0=>.seq (.reg [.la 24 3 (.s 9),.callp (some 25) n_term_Own [.s 24],.callp (some 26) n_term_Fit [.s 25],.ex 27 (.s 26) 0,.ex 28 (.s 26) 1,.st 3 (.s 6) (.s 27),.mv 7 (.s 28)]) (.ret)
 | 1=>.seq (.reg [.mv 17 (.s 0),.la 18 4 (.s 4),.mv 19 (.s 2),.callp (some 20) n_multi_side [.s 17,.s 18,.s 19],.al 9 t_Term [.str [],.bool false,.sl 3 []],.sf 9 3 (.s 20)]) (.seq (.seq (.reg [.la 21 3 (.s 9),.callp (some 22) n_multi_large [.s 21]]) (.cond (.s 22) (.seq (.reg [.bd 23 [.str [],.bool false,.sl 3 []] [],.st 3 (.s 6) (.s 23),.mv 7 (.i 3)]) (.ret)) (.skip))) (.n 0))
 | _=>.skip
def body:C:=.seq (.reg [.br 4 t_Multi (.s 1),.al 6 t_Term [.str [],.bool false,.sl 3 []],.mv 7 (.i 0)]) (.seq (.seq (.reg [.mv 10 (.s 0),.la 11 4 (.s 4),.callp (some 12) n_multi_Check [.s 10,.s 11],.mv 8 (.s 12)]) (.seq (.reg [.mv 13 (.s 8),.bin 14 .neq (.s 13) (.i 0)]) (.cond (.s 14) (.seq (.reg [.bd 15 [.str [],.bool false,.sl 3 []] [],.mv 16 (.s 8),.st 3 (.s 6) (.s 15),.mv 7 (.s 16)]) (.ret)) (.skip)))) (.n 1))
def rs:List RV:=[.a 6 3,.t 7]
attribute [push_cast] nd body
theorem ok:okF prog n_multi_end nd body 3 rs = true:=by kernel_rfl
end multi_end
namespace multi_Source_1
def nd (_:Nat):C:=.skip
def body:C:=.seq (.reg [.br 1 t_Rule (.s 0),.al 2 t_Term [.str [],.bool false,.sl 3 []]]) (.seq (.reg [.fa 3 0 (.s 1),.la 4 3 (.s 3),.st 3 (.s 2) (.s 4)]) (.ret))
def rs:List RV:=[.a 2 3]
attribute [push_cast] nd body
theorem ok:okF prog n_multi_Source_1 nd body 1 rs = true:=by kernel_rfl
end multi_Source_1
end Go.Dw
end
section
namespace Go.Dw
variable {s:List K} {B:Nat} {t:T} {H:List Ob} {Q:X→T→List Ob→Prop}
namespace multi_Target_1
def nd (_:Nat):C:=.skip
def body:C:=.seq (.reg [.br 1 t_Rule (.s 0),.al 2 t_Term [.str [],.bool false,.sl 3 []]]) (.seq (.reg [.fa 3 3 (.s 1),.la 4 3 (.s 3),.st 3 (.s 2) (.s 4)]) (.ret))
def rs:List RV:=[.a 2 3]
attribute [push_cast] nd body
theorem ok:okF prog n_multi_Target_1 nd body 1 rs = true:=by kernel_rfl
end multi_Target_1
namespace r01_Compare
def nd:Nat→C
 | 0=>.seq (.reg [.mv 4 (.i 0)]) (.ret)
 | 1=>.gh [.ks 0 [2,3,36,37]] (.m 3)
 | 2=>.seq (.blk 1 (.seq (.reg [.mv 39 (.s 37),.mv 7 (.s 39)]) (.seq (.dr [0,1,2,3,4,5,6,7,8,9,10,11] [.fa 40 2 (.s 2),.ld 41 (.s 40),.mv 42 (.s 7),.ia 43 3 (.s 41) (.s 42),.la 44 3 (.s 43),.fa 45 2 (.s 3),.ld 46 (.s 45),.mv 47 (.s 7),.ia 48 3 (.s 46) (.s 47),.la 49 3 (.s 48),.callp (some 50) n_r01_Compare [.s 44,.s 49],.mv 8 (.s 50)]) (.seq (.reg [.mv 51 (.s 8),.bin 52 .neq (.s 51) (.i 0)]) (.cond (.s 52) (.seq (.reg [.mv 53 (.s 8),.mv 4 (.s 53)]) (.ret)) (.skip)))))) (.reg [.bin 54 .add (.s 37) (.i 1),.mv 37 (.s 54)])
 | 3=>.seq (.reg [.bin 38 .lss (.s 37) (.s 36)]) (.seq (.cond (.s 38) (.skip) (.exit 0)) (.n 2))
 | 4=>.seq (.seq (.reg [.fa 34 2 (.s 2),.ld 35 (.s 34),.len 36 (.s 35),.mv 37 (.i 0)]) (.blk 0 (.loop (.n 1)))) (.n 0)
 | 5=>.seq (.seq (.reg [.fa 24 2 (.s 2),.ld 25 (.s 24),.len 26 (.s 25),.fa 27 2 (.s 3),.ld 28 (.s 27),.len 29 (.s 28),.callp (some 30) n_r01_CompareInts [.s 26,.s 29],.mv 6 (.s 30)]) (.seq (.reg [.mv 31 (.s 6),.bin 32 .neq (.s 31) (.i 0)]) (.cond (.s 32) (.seq (.reg [.mv 33 (.s 6),.mv 4 (.s 33)]) (.ret)) (.skip)))) (.n 4)
 | 6=>.seq (.seq (.reg [.fa 16 0 (.s 2),.ld 17 (.s 16),.fa 18 0 (.s 3),.ld 19 (.s 18),.callp (some 20) n_r01_CompareNames [.s 17,.s 19],.mv 5 (.s 20)]) (.seq (.reg [.mv 21 (.s 5),.bin 22 .neq (.s 21) (.i 0)]) (.cond (.s 22) (.seq (.reg [.mv 23 (.s 5),.mv 4 (.s 23)]) (.ret)) (.skip)))) (.n 5)
 | 7=>.seq (.reg [.mv 4 (.i 1)]) (.ret)
 | _=>.skip
def body:C:=.seq (.reg [.br 2 t_Term (.s 0),.br 3 t_Term (.s 1),.mv 4 (.i 0)]) (.seq (.seq (.reg [.fa 9 1 (.s 2),.ld 10 (.s 9),.fa 11 1 (.s 3),.ld 12 (.s 11),.bb 13 .neq (.s 10) (.s 12)]) (.cond (.s 13) (.seq (.seq (.reg [.fa 14 1 (.s 2),.ld 15 (.s 14)]) (.cond (.s 15) (.seq (.reg [.mv 4 (.i (-1))]) (.ret)) (.skip))) (.n 7)) (.skip))) (.n 6))
def rs:List RV:=[.t 4]
attribute [push_cast] nd body
theorem ok:okF prog n_r01_Compare nd body 2 rs = true:=by kernel_rfl
abbrev L3 (v2 v3 v36 v37:V) (B:Nat) (H:List Ob) (Q:X→T→List Ob→Prop):Prop:=Run prog nd B [.c (.m 3),.c (.loop (.n 1)),.mk 0,.c (.n 0)] [(2,v2),(3,v3),(36,v36),(37,v37)] H Q
theorem G3 (h:Run prog nd B (.c (nd 3) :: s) t H Q):Run prog nd B (.c (.m 3) :: s) t H Q:=run_m.2 h
end r01_Compare
namespace multi_develop
def nd:Nat→C
 | 0=>.seq (.reg [.la 98 4 (.s 10),.st 4 (.s 6) (.s 98),.mv 7 (.i 0)]) (.ret)
 | 1=>.gh [.ks 6 [0,2,4,6,10,11,12,13]] (.m 7)
 | 2=>.seq (.dr [0,1,2,3,4,5,6,7,8,9,10,11] [.la 85 4 (.s 4),.mv 86 (.s 12),.mv 87 (.s 0),.la 88 4 (.s 14),.callp (some 89) n_multi_contract [.s 87,.s 88],.callp (some 90) n_multi_set [.s 85,.s 86,.s 89],.callp (some 91) n_multi_Fit [.s 90],.mv 84 (.s 91),.ex 92 (.s 84) 0,.ex 93 (.s 84) 1,.st 4 (.s 4) (.s 92),.mv 9 (.s 93)]) (.seq (.reg [.mv 94 (.s 9),.bin 95 .neq (.s 94) (.i 0)]) (.cond (.s 95) (.seq (.reg [.bd 96 [.str [],.bool false,.sl 3 [],.sl 2 []] [],.mv 97 (.s 9),.st 4 (.s 6) (.s 96),.mv 7 (.s 97)]) (.ret)) (.skip)))
 | 3=>.gh [.ks 7 [0,2,4,6,10,11,12,14,50,51,52]] (.m 5)
 | 4=>.seq (.blk 3 (.seq (.reg [.ia 54 1 (.s 50) (.s 52),.ld 55 (.s 54),.mv 16 (.s 55)]) (.seq (.reg [.fa 56 0 (.s 14),.ld 57 (.s 56),.bin 58 .sub (.s 57) (.i 1),.mv 59 (.s 16),.bd 60 [.int .i64 0,.sl 1 []] [(0,1,(.s 58)),(1,1,(.s 59))],.al 17 t_Step [.int .i64 0,.sl 1 []],.sf 17 2 (.s 60)]) (.seq (.seq (.reg [.mv 62 (.s 0),.la 63 3 (.s 11),.la 64 2 (.s 17),.callp (some 65) n_rewrite_Do [.s 62,.s 63,.s 64],.mv 61 (.s 65),.ex 66 (.s 61) 0,.ex 67 (.s 61) 1,.st 3 (.s 11) (.s 66),.mv 9 (.s 67)]) (.seq (.reg [.mv 68 (.s 9),.bin 69 .neq (.s 68) (.i 0),.mv 70 (.s 69),.gd (.s 70) false [71,72,73,74] [.fa 71 3 (.s 10),.ld 72 (.s 71),.len 73 (.s 72),.bin 74 .eql (.s 73) (.i 4096)],.pick 75 (.s 70) (.c (.bool true)) (.s 74)]) (.cond (.s 75) (.seq (.reg [.bd 76 [.str [],.bool false,.sl 3 [],.sl 2 []] [],.st 4 (.s 6) (.s 76),.mv 7 (.i 3)]) (.ret)) (.skip)))) (.reg [.fa 77 3 (.s 10),.ld 78 (.s 77),.la 79 2 (.s 17),.bs 80 2 [.s 79],.app 81 t_Step 2 32 (.s 78) (.s 80),.fa 82 3 (.s 10),.st 1 (.s 82) (.s 81)]))))) (.reg [.bin 83 .add (.s 52) (.i 1),.mv 52 (.s 83)])
 | 5=>.seq (.reg [.bin 53 .lss (.s 52) (.s 51)]) (.seq (.cond (.s 53) (.skip) (.exit 2)) (.n 4))
 | 6=>.seq (.blk 1 (.seq (.reg [.la 44 4 (.s 4),.mv 45 (.s 12),.callp (some 46) n_multi_node [.s 44,.s 45],.al 14 t_Multi [.int .i64 0,.str [],.bool false,.sl 4 []],.sf 14 4 (.s 46)]) (.seq (.seq (.reg [.mv 47 (.s 0),.la 48 4 (.s 4),.mv 49 (.s 12),.callp (some 50) n_multi_places [.s 47,.s 48,.s 49],.len 51 (.s 50),.mv 52 (.i 0)]) (.blk 2 (.loop (.n 3)))) (.n 2)))) (.reg [.mv 39 (.s 2),.la 40 4 (.s 4),.callvp (some 41) (.s 39) [.s 40,(.c (.sl 1 []))],.mv 38 (.s 41),.ex 42 (.s 38) 0,.ex 43 (.s 38) 1,.mv 12 (.s 42),.mv 13 (.s 43)])
 | 7=>.seq (.seq (.reg [.mv 37 (.s 13)]) (.cond (.s 37) (.skip) (.exit 0))) (.n 6)
 | 8=>.seq (.dr [0,1,2] [.lar 28 3 (.s 8),.bd 29 [.str [],.bool false,.sl 3 [],.nil] [(0,3,(.s 28))],.lar 30 3 (.s 8),.alt [([3,4,5,6],[.al 10 t_Chain [.str [],.bool false,.sl 3 [],.nil],.al 11 t_Term [.str [],.bool false,.sl 3 []],.st 4 (.s 10) (.s 29),.st 3 (.s 11) (.s 30)]),([4,3,5,6],[.al 11 t_Term [.str [],.bool false,.sl 3 []],.al 10 t_Chain [.str [],.bool false,.sl 3 [],.nil],.st 4 (.s 10) (.s 29),.st 3 (.s 11) (.s 30)])]]) (.gh [.ono t_Step 2 3 (.s 10)] (.seq (.seq (.reg [.mv 32 (.s 2),.la 33 4 (.s 4),.callvp (some 34) (.s 32) [.s 33,(.c (.sl 1 []))],.mv 31 (.s 34),.ex 35 (.s 31) 0,.ex 36 (.s 31) 1,.mv 12 (.s 35),.mv 13 (.s 36)]) (.blk 0 (.loop (.n 1)))) (.n 0)))
 | _=>.skip
def body:C:=.seq (.reg [.bx 4 t_Multi (.s 1),.al 6 t_Chain [.str [],.bool false,.sl 3 [],.sl 2 []],.mv 7 (.i 0)]) (.seq (.reg [.mv 19 (.s 0),.la 20 4 (.s 4),.callp (some 21) n_multi_Source [.s 19,.s 20],.mv 18 (.s 21),.ex 22 (.s 18) 0,.ex 23 (.s 18) 1,.al 8 t_Term [.str [],.bool false,.sl 3 []],.sf 8 3 (.s 22),.mv 9 (.s 23)]) (.seq (.seq (.reg [.mv 24 (.s 9),.bin 25 .neq (.s 24) (.i 0)]) (.cond (.s 25) (.seq (.reg [.bd 26 [.str [],.bool false,.sl 3 [],.sl 2 []] [],.mv 27 (.s 9),.st 4 (.s 6) (.s 26),.mv 7 (.s 27)]) (.ret)) (.skip))) (.n 8)))
def rs:List RV:=[.a 6 4,.t 7]
attribute [push_cast] nd body
theorem ok:okF prog n_multi_develop nd body 3 rs = true:=by kernel_rfl
abbrev L5 (v0 v2 v4 v6 v10 v11 v12 v14 v50 v51 v52:V) (B:Nat) (H:List Ob) (Q:X→T→List Ob→Prop):Prop:=Run prog nd B [.c (.m 5),.c (.loop (.n 3)),.mk 2,.c (.n 2),.mk 1,.c (.reg [.mv 39 (.s 2),.la 40 4 (.s 4),.callvp (some 41) (.s 39) [.s 40,(.c (.sl 1 []))],.mv 38 (.s 41),.ex 42 (.s 38) 0,.ex 43 (.s 38) 1,.mv 12 (.s 42),.mv 13 (.s 43)]),.c (.loop (.n 1)),.mk 0,.c (.n 0)] [(0,v0),(2,v2),(4,v4),(6,v6),(10,v10),(11,v11),(12,v12),(14,v14),(50,v50),(51,v51),(52,v52)] H Q
theorem G5 (h:Run prog nd B (.c (nd 5) :: s) t H Q):Run prog nd B (.c (.m 5) :: s) t H Q:=run_m.2 h
abbrev L7 (v0 v2 v4 v6 v10 v11 v12 v13:V) (B:Nat) (H:List Ob) (Q:X→T→List Ob→Prop):Prop:=Run prog nd B [.c (.m 7),.c (.loop (.n 1)),.mk 0,.c (.n 0)] [(0,v0),(2,v2),(4,v4),(6,v6),(10,v10),(11,v11),(12,v12),(13,v13)] H Q
theorem G7 (h:Run prog nd B (.c (nd 7) :: s) t H Q):Run prog nd B (.c (.m 7) :: s) t H Q:=run_m.2 h
end multi_develop
namespace multi_first
def nd:Nat→C
 | 0=>.seq (.reg [.mv 4 (.c (.sl 1 [])),.mv 5 (.c (.bool false))]) (.ret)
 | 1=>.gh [.ks 0 [1,15,16,17]] (.m 3)
 | 2=>.seq (.blk 1 (.seq (.reg [.mv 19 (.s 17),.ia 20 4 (.s 15) (.s 17),.la 21 4 (.s 20),.al 7 t_Multi [.int .i64 0,.str [],.bool false,.sl 4 []],.mv 6 (.s 19),.sf 7 4 (.s 21)]) (.seq (.dr [0,1,3,4,2,5,6,7,8,9,10,11] [.lar 23 4 (.s 7),.mv 24 (.s 1),.mv 26 (.s 6),.bs 27 1 [.s 26],.call (some 25) n_slices_Clone_s_int_int [.s 24],.app 28 t_int 1 8 (.s 25) (.s 27),.callp (some 29) n_multi_first [.s 23,.s 28],.mv 22 (.s 29),.ex 30 (.s 22) 0,.ex 31 (.s 22) 1,.mv 8 (.s 30),.mv 9 (.s 31)]) (.seq (.reg [.mv 32 (.s 9)]) (.cond (.s 32) (.seq (.reg [.mv 33 (.s 8),.mv 4 (.s 33),.mv 5 (.c (.bool true))]) (.ret)) (.skip)))))) (.reg [.bin 34 .add (.s 17) (.i 1),.mv 17 (.s 34)])
 | 3=>.seq (.reg [.bin 18 .lss (.s 17) (.s 16)]) (.seq (.cond (.s 18) (.skip) (.exit 0)) (.n 2))
 | 4=>.seq (.seq (.reg [.fa 14 3 (.s 2),.ld 15 (.s 14),.len 16 (.s 15),.mv 17 (.i 0)]) (.blk 0 (.loop (.n 1)))) (.n 0)
 | _=>.skip
def body:C:=.seq (.reg [.br 2 t_Multi (.s 0),.mv 4 (.c (.sl 1 [])),.mv 5 (.c (.bool false))]) (.seq (.seq (.reg [.fa 10 0 (.s 2),.ld 11 (.s 10),.bin 12 .gtr (.s 11) (.i 0)]) (.cond (.s 12) (.seq (.reg [.mv 13 (.s 1),.mv 4 (.s 13),.mv 5 (.c (.bool true))]) (.ret)) (.skip))) (.n 4))
def rs:List RV:=[.t 4,.t 5]
attribute [push_cast] nd body
theorem ok:okF prog n_multi_first nd body 2 rs = true:=by kernel_rfl
abbrev L3 (v1 v15 v16 v17:V) (B:Nat) (H:List Ob) (Q:X→T→List Ob→Prop):Prop:=Run prog nd B [.c (.m 3),.c (.loop (.n 1)),.mk 0,.c (.n 0)] [(1,v1),(15,v15),(16,v16),(17,v17)] H Q
theorem G3 (h:Run prog nd B (.c (nd 3) :: s) t H Q):Run prog nd B (.c (.m 3) :: s) t H Q:=run_m.2 h
end multi_first
namespace multi_deep
def nd:Nat→C
 | 0=>.seq (.dr [0,1,2,3,4,5] [.mv 31 (.s 1),.fa 32 0 (.s 2),.ld 33 (.s 32),.bin 34 .gtr (.s 33) (.i 0),.mv 4 (.s 31),.mv 5 (.s 34)]) (.ret)
 | 1=>.gh [.ks 0 [1,2,11,12,13]] (.m 3)
 | 2=>.seq (.blk 1 (.seq (.reg [.mv 15 (.s 13),.ia 16 4 (.s 11) (.s 13),.la 17 4 (.s 16),.al 7 t_Multi [.int .i64 0,.str [],.bool false,.sl 4 []],.mv 6 (.s 15),.sf 7 4 (.s 17)]) (.seq (.dr [0,1,3,4,2,5,6,7,8,9,10,11] [.lar 19 4 (.s 7),.mv 20 (.s 1),.mv 22 (.s 6),.bs 23 1 [.s 22],.call (some 21) n_slices_Clone_s_int_int [.s 20],.app 24 t_int 1 8 (.s 21) (.s 23),.callp (some 25) n_multi_deep [.s 19,.s 24],.mv 18 (.s 25),.ex 26 (.s 18) 0,.ex 27 (.s 18) 1,.mv 8 (.s 26),.mv 9 (.s 27)]) (.seq (.reg [.mv 28 (.s 9)]) (.cond (.s 28) (.seq (.reg [.mv 29 (.s 8),.mv 4 (.s 29),.mv 5 (.c (.bool true))]) (.ret)) (.skip)))))) (.reg [.bin 30 .add (.s 13) (.i 1),.mv 13 (.s 30)])
 | 3=>.seq (.reg [.bin 14 .lss (.s 13) (.s 12)]) (.seq (.cond (.s 14) (.skip) (.exit 0)) (.n 2))
 | _=>.skip
def body:C:=.seq (.reg [.br 2 t_Multi (.s 0),.mv 4 (.c (.sl 1 [])),.mv 5 (.c (.bool false))]) (.seq (.seq (.reg [.fa 10 3 (.s 2),.ld 11 (.s 10),.len 12 (.s 11),.mv 13 (.i 0)]) (.blk 0 (.loop (.n 1)))) (.n 0))
def rs:List RV:=[.t 4,.t 5]
attribute [push_cast] nd body
theorem ok:okF prog n_multi_deep nd body 2 rs = true:=by kernel_rfl
abbrev L3 (v1 v2 v11 v12 v13:V) (B:Nat) (H:List Ob) (Q:X→T→List Ob→Prop):Prop:=Run prog nd B [.c (.m 3),.c (.loop (.n 1)),.mk 0,.c (.n 0)] [(1,v1),(2,v2),(11,v11),(12,v12),(13,v13)] H Q
theorem G3 (h:Run prog nd B (.c (nd 3) :: s) t H Q):Run prog nd B (.c (.m 3) :: s) t H Q:=run_m.2 h
end multi_deep
namespace term_Check
def nd:Nat→C
 | 0=>.seq (.reg [.mv 2 (.i 0)]) (.ret)
 | _=>.skip
def body:C:=.seq (.reg [.br 1 t_Term (.s 0),.mv 2 (.i 0)]) (.seq (.blk 0 (.seq (.reg [.la 4 3 (.s 1),.callp (some 5) n_term_formed [.s 4],.un 6 .not (.s 5),.mv 3 (.s 6)]) (.cond (.s 3) (.seq (.reg [.mv 2 (.i 4)]) (.ret)) (.seq (.reg [.la 8 3 (.s 1),.callp (some 9) n_term_fits [.s 8],.un 10 .not (.s 9),.mv 7 (.s 10)]) (.cond (.s 7) (.seq (.reg [.mv 2 (.i 3)]) (.ret)) (.skip)))))) (.n 0))
def rs:List RV:=[.t 2]
attribute [push_cast] nd body
theorem ok:okF prog n_term_Check nd body 1 rs = true:=by kernel_rfl
end term_Check
namespace derive_Terms
def nd:Nat→C
 | 0=>.seq (.reg [.mv 12 (.s 0),.la 13 4 (.s 3),.callp (some 14) n_derive_Run [.s 12,.s 13],.ex 15 (.s 14) 0,.ex 16 (.s 14) 1,.mv 4 (.s 15),.mv 5 (.s 16)]) (.ret)
 | _=>.skip
def body:C:=.seq (.reg [.br 3 t_Chain (.s 1),.mv 4 (.c (.sl 3 [])),.mv 5 (.i 0)]) (.seq (.seq (.reg [.mv 7 (.s 0),.callp (some 8) n_term_CheckSystem [.s 7],.mv 6 (.s 8)]) (.seq (.reg [.mv 9 (.s 6),.bin 10 .neq (.s 9) (.i 0)]) (.cond (.s 10) (.seq (.reg [.mv 11 (.s 6),.mv 4 (.c (.sl 3 [])),.mv 5 (.s 11)]) (.ret)) (.skip)))) (.n 0))
def rs:List RV:=[.t 4,.t 5]
attribute [push_cast] nd body
theorem ok:okF prog n_derive_Terms nd body 2 rs = true:=by kernel_rfl
end derive_Terms
namespace derive_Run
def nd:Nat→C
 | 0=>.seq (.reg [.mv 52 (.s 7),.mv 4 (.s 52),.mv 5 (.i 0)]) (.ret)
 | 1=>.gh [.ks 1 [0,7,27,28,29]] (.m 3)
 | 2=>.seq (.blk 1 (.seq (.reg [.mv 31 (.s 29),.ia 32 2 (.s 27) (.s 29),.la 33 2 (.s 32),.al 9 t_Step [.int .i64 0,.sl 1 []],.mv 8 (.s 31),.sf 9 2 (.s 33)]) (.seq (.dr [0,1,2,3,4,5,6,7,8,9,10,11,12] [.mv 35 (.s 0),.mv 36 (.s 7),.mv 37 (.s 8),.ia 38 3 (.s 36) (.s 37),.la 39 3 (.s 38),.la 40 2 (.s 9),.callp (some 41) n_rewrite_Do [.s 35,.s 39,.s 40],.mv 34 (.s 41),.ex 42 (.s 34) 0,.ex 43 (.s 34) 1,.al 10 t_Term [.str [],.bool false,.sl 3 []],.sf 10 3 (.s 42),.mv 11 (.s 43)]) (.seq (.seq (.reg [.mv 44 (.s 11),.bin 45 .neq (.s 44) (.i 0)]) (.cond (.s 45) (.seq (.reg [.mv 46 (.s 11),.mv 4 (.c (.sl 3 [])),.mv 5 (.s 46)]) (.ret)) (.skip))) (.reg [.mv 47 (.s 7),.la 48 3 (.s 10),.bs 49 3 [.s 48],.app 50 t_Term 3 48 (.s 47) (.s 49),.mv 7 (.s 50)]))))) (.reg [.bin 51 .add (.s 29) (.i 1),.mv 29 (.s 51)])
 | 3=>.seq (.reg [.bin 30 .lss (.s 29) (.s 28)]) (.seq (.cond (.s 30) (.skip) (.exit 0)) (.n 2))
 | 4=>.seq (.reg [.fa 22 0 (.s 3),.la 23 3 (.s 22),.callp (some 24) n_term_Own [.s 23],.bo 25 t_Term 3 [.s 24],.mv 7 (.s 25)]) (.seq (.seq (.reg [.fa 26 3 (.s 3),.ld 27 (.s 26),.len 28 (.s 27),.mv 29 (.i 0)]) (.blk 0 (.loop (.n 1)))) (.n 0))
 | 5=>.seq (.seq (.reg [.fa 16 0 (.s 3),.la 17 3 (.s 16),.callp (some 18) n_term_Check [.s 17],.mv 6 (.s 18)]) (.seq (.reg [.mv 19 (.s 6),.bin 20 .neq (.s 19) (.i 0)]) (.cond (.s 20) (.seq (.reg [.mv 21 (.s 6),.mv 4 (.c (.sl 3 [])),.mv 5 (.s 21)]) (.ret)) (.skip)))) (.n 4)
 | _=>.skip
def body:C:=.seq (.reg [.br 3 t_Chain (.s 1),.mv 4 (.c (.sl 3 [])),.mv 5 (.i 0)]) (.seq (.seq (.reg [.fa 12 3 (.s 3),.ld 13 (.s 12),.len 14 (.s 13),.bin 15 .gtr (.s 14) (.i 4096)]) (.cond (.s 15) (.seq (.reg [.mv 4 (.c (.sl 3 [])),.mv 5 (.i 3)]) (.ret)) (.skip))) (.n 5))
def rs:List RV:=[.t 4,.t 5]
attribute [push_cast] nd body
theorem ok:okF prog n_derive_Run nd body 2 rs = true:=by kernel_rfl
abbrev L3 (v0 v7 v27 v28 v29:V) (B:Nat) (H:List Ob) (Q:X→T→List Ob→Prop):Prop:=Run prog nd B [.c (.m 3),.c (.loop (.n 1)),.mk 0,.c (.n 0)] [(0,v0),(7,v7),(27,v27),(28,v28),(29,v29)] H Q
theorem G3 (h:Run prog nd B (.c (nd 3) :: s) t H Q):Run prog nd B (.c (.m 3) :: s) t H Q:=run_m.2 h
end derive_Run
namespace slices_Clone_s_int_int
def nd:Nat→C
 | 0=>.seq (.reg [.bo 5 t_int 1 [],.mv 6 (.s 0),.app 7 t_int 1 8 (.s 5) (.s 6),.mv 2 (.s 7)]) (.ret)
 | _=>.skip
def body:C:=.seq (.reg [.mv 2 (.c .nil),.non 2 t_int 1]) (.seq (.seq (.reg [.mv 3 (.s 0),.nl 4 false (.s 3)]) (.cond (.s 4) (.seq (.reg [.mv 2 (.c .nil),.non 2 t_int 1]) (.ret)) (.skip))) (.n 0))
def rs:List RV:=[.t 2]
attribute [push_cast] nd body
theorem ok:okF prog n_slices_Clone_s_int_int nd body 1 rs = true:=by kernel_rfl
end slices_Clone_s_int_int
namespace slices_Concat_s_int_int
def nd:Nat→C
 | 0=>.seq (.reg [.mv 35 (.s 6),.mv 2 (.s 35)]) (.ret)
 | 1=>.gh [.ks 1 [6,25,26,27]] (.m 3)
 | 2=>.seq (.blk 3 (.seq (.reg [.ia 29 1 (.s 25) (.s 27),.ld 30 (.s 29),.mv 8 (.s 30)]) (.reg [.mv 31 (.s 6),.mv 32 (.s 8),.app 33 t_int 1 8 (.s 31) (.s 32),.mv 6 (.s 33)]))) (.reg [.bin 34 .add (.s 27) (.i 1),.mv 27 (.s 34)])
 | 3=>.seq (.reg [.bin 28 .lss (.s 27) (.s 26)]) (.seq (.cond (.s 28) (.skip) (.exit 2)) (.n 2))
 | 4=>.seq (.reg [.mv 23 (.s 3),.call (some 24) n_slices_Grow_s_int_int [(.c .nil),.s 23],.mv 6 (.s 24)]) (.seq (.seq (.reg [.mv 25 (.s 0),.len 26 (.s 25),.mv 27 (.i 0)]) (.blk 2 (.loop (.n 1)))) (.n 0))
 | 5=>.gh [.ks 0 [0,3,9,10,11]] (.m 7)
 | 6=>.seq (.blk 1 (.seq (.reg [.ia 13 1 (.s 9) (.s 11),.ld 14 (.s 13),.mv 5 (.s 14)]) (.seq (.reg [.mv 15 (.s 3),.mv 16 (.s 5),.len 17 (.s 16),.bin 18 .add (.s 15) (.s 17),.mv 3 (.s 18)]) (.seq (.reg [.mv 19 (.s 3),.bin 20 .lss (.s 19) (.i 0)]) (.cond (.s 20) (.bad) (.skip)))))) (.reg [.bin 22 .add (.s 11) (.i 1),.mv 11 (.s 22)])
 | 7=>.seq (.reg [.bin 12 .lss (.s 11) (.s 10)]) (.seq (.cond (.s 12) (.skip) (.exit 0)) (.n 6))
 | _=>.skip
def body:C:=.seq (.reg [.mv 2 (.c (.sl 1 []))]) (.seq (.reg [.mv 3 (.i 0)]) (.seq (.seq (.reg [.mv 9 (.s 0),.len 10 (.s 9),.mv 11 (.i 0)]) (.blk 0 (.loop (.n 5)))) (.n 4)))
def rs:List RV:=[.t 2]
attribute [push_cast] nd body
theorem ok:okF prog n_slices_Concat_s_int_int nd body 1 rs = true:=by kernel_rfl
abbrev L3 (v6 v25 v26 v27:V) (B:Nat) (H:List Ob) (Q:X→T→List Ob→Prop):Prop:=Run prog nd B [.c (.m 3),.c (.loop (.n 1)),.mk 2,.c (.n 0)] [(6,v6),(25,v25),(26,v26),(27,v27)] H Q
theorem G3 (h:Run prog nd B (.c (nd 3) :: s) t H Q):Run prog nd B (.c (.m 3) :: s) t H Q:=run_m.2 h
abbrev L7 (v0 v3 v9 v10 v11:V) (B:Nat) (H:List Ob) (Q:X→T→List Ob→Prop):Prop:=Run prog nd B [.c (.m 7),.c (.loop (.n 5)),.mk 0,.c (.n 4)] [(0,v0),(3,v3),(9,v9),(10,v10),(11,v11)] H Q
theorem G7 (h:Run prog nd B (.c (nd 7) :: s) t H Q):Run prog nd B (.c (.m 7) :: s) t H Q:=run_m.2 h
end slices_Concat_s_int_int
namespace multi_walk
def nd:Nat→C
 | 0=>.seq (.reg [.mv 8 (.c (.bool true))]) (.ret)
 | 1=>.gh [.ks 0 [0,2,3,5,9,42,43,44]] (.m 7)
 | 2=>.gh [.ks 1 [0,2,3,5,9,11,42,43,44,67,68,69]] (.m 4)
 | 3=>.seq (.blk 3 (.seq (.reg [.ia 71 1 (.s 67) (.s 69),.ld 72 (.s 71),.mv 14 (.s 72)]) (.seq (.dr [0,1,2,3,4,5,6,7,8] [.mv 73 (.s 0),.la 74 4 (.s 11),.mv 75 (.s 2),.mv 76 (.s 14),.bs 77 1 [.s 75,.s 76],.callp (some 78) n_slices_Concat_s_int_int [.s 77],.mv 79 (.s 3),.call (some 80) n_multi_walk [.s 73,.s 74,.s 78,.s 79],.un 81 .not (.s 80)]) (.cond (.s 81) (.seq (.reg [.mv 8 (.c (.bool false))]) (.ret)) (.skip))))) (.reg [.bin 82 .add (.s 69) (.i 1),.mv 69 (.s 82)])
 | 4=>.seq (.reg [.bin 70 .lss (.s 69) (.s 68)]) (.seq (.cond (.s 70) (.skip) (.exit 2)) (.n 3))
 | 5=>.seq (.reg [.mv 67 (.s 12),.len 68 (.s 67),.mv 69 (.i 0)]) (.blk 2 (.loop (.n 2)))
 | 6=>.seq (.blk 1 (.seq (.reg [.mv 46 (.s 44),.ia 47 4 (.s 42) (.s 44),.la 48 4 (.s 47),.al 11 t_Multi [.int .i64 0,.str [],.bool false,.sl 4 []],.mv 10 (.s 46),.sf 11 4 (.s 48)]) (.seq (.reg [.mv 49 (.s 10),.bs 50 1 [.s 49],.bs 51 1 [.s 50],.mv 12 (.s 51)]) (.seq (.seq (.reg [.fa 52 0 (.s 5),.ld 53 (.s 52),.bin 54 .gtr (.s 53) (.i 0)]) (.cond (.s 54) (.dr [0,1,2,3,4,5,6,7,8,9,10,11,12] [.mv 55 (.s 0),.fa 56 0 (.s 5),.ld 57 (.s 56),.bin 58 .sub (.s 57) (.i 1),.ia 59 6 (.s 55) (.s 58),.fa 60 0 (.s 59),.la 61 3 (.s 60),.mv 62 (.s 9),.mv 63 (.s 10),.ia 64 1 (.s 62) (.s 63),.ld 65 (.s 64),.callp (some 66) n_multi_occurrences [.s 61,.s 65],.mv 12 (.s 66)]) (.skip))) (.n 5))))) (.reg [.bin 83 .add (.s 44) (.i 1),.mv 44 (.s 83)])
 | 7=>.seq (.reg [.bin 45 .lss (.s 44) (.s 43)]) (.seq (.cond (.s 45) (.skip) (.exit 0)) (.n 6))
 | 8=>.seq (.seq (.reg [.fa 41 3 (.s 5),.ld 42 (.s 41),.len 43 (.s 42),.mv 44 (.i 0)]) (.blk 0 (.loop (.n 1)))) (.n 0)
 | 9=>.seq (.reg [.mv 9 (.c (.sl 1 []))]) (.seq (.seq (.reg [.fa 29 0 (.s 5),.ld 30 (.s 29),.bin 31 .gtr (.s 30) (.i 0)]) (.cond (.s 31) (.reg [.mv 32 (.s 0),.fa 33 0 (.s 5),.ld 34 (.s 33),.bin 35 .sub (.s 34) (.i 1),.ia 36 6 (.s 32) (.s 35),.fa 37 0 (.s 36),.la 38 3 (.s 37),.bs 39 3 [.s 38],.callp (some 40) n_term_VarsOf [.s 39],.mv 9 (.s 40)]) (.skip))) (.n 8))
 | _=>.skip
def body:C:=.seq (.reg [.br 5 t_Multi (.s 1),.mv 8 (.c (.bool false))]) (.seq (.seq (.dr [0,1,2,3,4,5,6,7,8,9,10,11,12,13] [.fa 15 0 (.s 5),.ld 16 (.s 15),.bin 17 .gtr (.s 16) (.i 0),.mv 18 (.s 17),.gd (.s 18) true [19] [.mv 19 (.s 3)],.gd (.s 18) true [20] [.fa 20 0 (.s 5)],.gd (.s 18) true [21] [.ld 21 (.s 20)],.gd (.s 18) true [22] [.bin 22 .sub (.s 21) (.i 1)],.gd (.s 18) true [23] [.mv 23 (.s 2)],.gd (.s 18) true [24] [.callp (some 24) n_slices_Clone_s_int_int [.s 23]],.gd (.s 18) true [25] [.bd 25 [.int .i64 0,.sl 1 []] [(0,1,(.s 22)),(1,1,(.s 24))]],.gd (.s 18) true [26] [.callv (some 26) (.s 19) [.s 25]],.gd (.s 18) true [27] [.un 27 .not (.s 26)],.pick 28 (.s 18) (.s 27) (.c (.bool false))]) (.cond (.s 28) (.seq (.reg [.mv 8 (.c (.bool false))]) (.ret)) (.skip))) (.n 9))
def rs:List RV:=[.t 8]
attribute [push_cast] nd body
theorem ok:okF prog n_multi_walk nd body 4 rs = true:=by kernel_rfl
abbrev L4 (v0 v2 v3 v5 v9 v11 v42 v43 v44 v67 v68 v69:V) (B:Nat) (H:List Ob) (Q:X→T→List Ob→Prop):Prop:=Run prog nd B [.c (.m 4),.c (.loop (.n 2)),.mk 2,.mk 1,.c (.reg [.bin 83 .add (.s 44) (.i 1),.mv 44 (.s 83)]),.c (.loop (.n 1)),.mk 0,.c (.n 0)] [(0,v0),(2,v2),(3,v3),(5,v5),(9,v9),(11,v11),(42,v42),(43,v43),(44,v44),(67,v67),(68,v68),(69,v69)] H Q
theorem G4 (h:Run prog nd B (.c (nd 4) :: s) t H Q):Run prog nd B (.c (.m 4) :: s) t H Q:=run_m.2 h
abbrev L7 (v0 v2 v3 v5 v9 v42 v43 v44:V) (B:Nat) (H:List Ob) (Q:X→T→List Ob→Prop):Prop:=Run prog nd B [.c (.m 7),.c (.loop (.n 1)),.mk 0,.c (.n 0)] [(0,v0),(2,v2),(3,v3),(5,v5),(9,v9),(42,v42),(43,v43),(44,v44)] H Q
theorem G7 (h:Run prog nd B (.c (nd 7) :: s) t H Q):Run prog nd B (.c (.m 7) :: s) t H Q:=run_m.2 h
end multi_walk
namespace multi_Steps_1
def nd (_:Nat):C:=.skip
def body:C:=.seq (.reg [.br 2 t_Step (.s 0),.mv 3 (.c (.bool false))]) (.seq (.reg [.ld 4 (.s 1),.la 5 2 (.s 2),.bs 6 2 [.s 5],.apr 7 t_Step 2 32 (.s 4) (.s 6),.st 1 (.s 1) (.s 7)]) (.seq (.reg [.ld 8 (.s 1),.len 9 (.s 8),.bin 10 .leq (.s 9) (.i 4096),.mv 3 (.s 10)]) (.ret)))
def rs:List RV:=[.t 3]
attribute [push_cast] nd body
theorem ok:okF prog n_multi_Steps_1 nd body 2 rs = true:=by kernel_rfl
end multi_Steps_1
namespace multi_Steps_2
def nd (_:Nat):C:=.skip
def body:C:=.seq (.reg [.br 2 t_Step (.s 0),.br 3 t_Step (.s 1),.mv 4 (.i 0)]) (.seq (.reg [.fa 5 1 (.s 2),.ld 6 (.s 5),.fa 7 1 (.s 3),.ld 8 (.s 7),.callp (some 9) n_slices_Compare_s_int_int [.s 6,.s 8],.mv 4 (.s 9)]) (.ret))
def rs:List RV:=[.t 4]
attribute [push_cast] nd body
theorem ok:okF prog n_multi_Steps_2 nd body 2 rs = true:=by kernel_rfl
end multi_Steps_2
namespace slices_Compare_s_int_int
def nd:Nat→C
 | 0=>.seq (.reg [.mv 4 (.i 0)]) (.ret)
 | 1=>.seq (.seq (.reg [.mv 31 (.s 0),.len 32 (.s 31),.mv 33 (.s 1),.len 34 (.s 33),.bin 35 .lss (.s 32) (.s 34)]) (.cond (.s 35) (.seq (.reg [.mv 4 (.i (-1))]) (.ret)) (.skip))) (.n 0)
 | 2=>.gh [.ks 0 [0,1,9,10,11]] (.m 5)
 | 3=>.seq (.reg [.mv 20 (.s 1),.mv 21 (.s 5),.ia 22 1 (.s 20) (.s 21),.ld 23 (.s 22),.mv 7 (.s 23)]) (.seq (.reg [.mv 24 (.s 6),.mv 25 (.s 7),.callp (some 26) n_cmp_Compare_int [.s 24,.s 25],.mv 8 (.s 26)]) (.seq (.reg [.mv 27 (.s 8),.bin 28 .neq (.s 27) (.i 0)]) (.cond (.s 28) (.seq (.reg [.mv 29 (.s 8),.mv 4 (.s 29)]) (.ret)) (.skip))))
 | 4=>.seq (.blk 1 (.seq (.reg [.mv 13 (.s 11),.ia 14 1 (.s 9) (.s 11),.ld 15 (.s 14),.mv 5 (.s 13),.mv 6 (.s 15)]) (.seq (.seq (.reg [.mv 16 (.s 5),.mv 17 (.s 1),.len 18 (.s 17),.bin 19 .geq (.s 16) (.s 18)]) (.cond (.s 19) (.seq (.reg [.mv 4 (.i 1)]) (.ret)) (.skip))) (.n 3)))) (.reg [.bin 30 .add (.s 11) (.i 1),.mv 11 (.s 30)])
 | 5=>.seq (.reg [.bin 12 .lss (.s 11) (.s 10)]) (.seq (.cond (.s 12) (.skip) (.exit 0)) (.n 4))
 | _=>.skip
def body:C:=.seq (.reg [.mv 4 (.i 0)]) (.seq (.seq (.reg [.mv 9 (.s 0),.len 10 (.s 9),.mv 11 (.i 0)]) (.blk 0 (.loop (.n 2)))) (.n 1))
def rs:List RV:=[.t 4]
attribute [push_cast] nd body
theorem ok:okF prog n_slices_Compare_s_int_int nd body 2 rs = true:=by kernel_rfl
abbrev L5 (v0 v1 v9 v10 v11:V) (B:Nat) (H:List Ob) (Q:X→T→List Ob→Prop):Prop:=Run prog nd B [.c (.m 5),.c (.loop (.n 2)),.mk 0,.c (.n 1)] [(0,v0),(1,v1),(9,v9),(10,v10),(11,v11)] H Q
theorem G5 (h:Run prog nd B (.c (nd 5) :: s) t H Q):Run prog nd B (.c (.m 5) :: s) t H Q:=run_m.2 h
end slices_Compare_s_int_int
namespace rewrite_Do
def nd:Nat→C
 | 0=>.seq (.reg [.la 37 3 (.s 4),.fa 38 1 (.s 5),.ld 39 (.s 38),.la 40 3 (.s 10),.callp (some 41) n_term_Set [.s 37,.s 39,.s 40],.callp (some 42) n_term_Fit [.s 41],.ex 43 (.s 42) 0,.ex 44 (.s 42) 1,.st 3 (.s 6) (.s 43),.mv 7 (.s 44)]) (.ret)
 | 1=>.seq (.reg [.mv 23 (.s 8),.mv 24 (.s 0),.fa 25 0 (.s 5),.ld 26 (.s 25),.ia 27 6 (.s 24) (.s 26),.fa 28 3 (.s 27),.la 29 3 (.s 28),.callp (some 30) n_term_Instance [.s 23,.s 29],.mv 22 (.s 30),.ex 31 (.s 22) 0,.ex 32 (.s 22) 1,.al 10 t_Term [.str [],.bool false,.sl 3 []],.sf 10 3 (.s 31),.mv 9 (.s 32)]) (.seq (.seq (.reg [.mv 33 (.s 9),.bin 34 .neq (.s 33) (.i 0)]) (.cond (.s 34) (.seq (.reg [.bd 35 [.str [],.bool false,.sl 3 []] [],.mv 36 (.s 9),.st 3 (.s 6) (.s 35),.mv 7 (.s 36)]) (.ret)) (.skip))) (.n 0))
 | _=>.skip
def body:C:=.seq (.reg [.br 4 t_Term (.s 1),.br 5 t_Step (.s 2),.al 6 t_Term [.str [],.bool false,.sl 3 []],.mv 7 (.i 0)]) (.seq (.reg [.mv 12 (.s 0),.la 13 3 (.s 4),.la 14 2 (.s 5),.callp (some 15) n_rewrite_find [.s 12,.s 13,.s 14],.mv 11 (.s 15),.ex 16 (.s 11) 0,.ex 17 (.s 11) 1,.mv 8 (.s 16),.mv 9 (.s 17)]) (.seq (.seq (.reg [.mv 18 (.s 9),.bin 19 .neq (.s 18) (.i 0)]) (.cond (.s 19) (.seq (.reg [.bd 20 [.str [],.bool false,.sl 3 []] [],.mv 21 (.s 9),.st 3 (.s 6) (.s 20),.mv 7 (.s 21)]) (.ret)) (.skip))) (.n 1)))
def rs:List RV:=[.a 6 3,.t 7]
attribute [push_cast] nd body
theorem ok:okF prog n_rewrite_Do nd body 3 rs = true:=by kernel_rfl
end rewrite_Do
namespace term_CheckRules
def nd:Nat→C
 | 0=>.seq (.reg [.mv 2 (.i 0)]) (.ret)
 | 1=>.gh [.ks 0 [9,10,11]] (.m 3)
 | 2=>.seq (.blk 1 (.seq (.reg [.ia 13 6 (.s 9) (.s 11),.la 14 6 (.s 13),.al 4 t_Rule [.str [],.bool false,.sl 3 [],.str [],.bool false,.sl 3 []],.sf 4 6 (.s 14)]) (.seq (.reg [.fa 15 0 (.s 4),.la 16 3 (.s 15),.fa 17 3 (.s 4),.la 18 3 (.s 17),.bs 19 3 [.s 16,.s 18],.callp (some 20) n_term_All [.s 19],.mv 5 (.s 20)]) (.seq (.reg [.mv 21 (.s 5),.bin 22 .neq (.s 21) (.i 0)]) (.cond (.s 22) (.seq (.reg [.mv 23 (.s 5),.mv 2 (.s 23)]) (.ret)) (.skip)))))) (.reg [.bin 24 .add (.s 11) (.i 1),.mv 11 (.s 24)])
 | 3=>.seq (.reg [.bin 12 .lss (.s 11) (.s 10)]) (.seq (.cond (.s 12) (.skip) (.exit 0)) (.n 2))
 | 4=>.seq (.seq (.reg [.mv 9 (.s 0),.len 10 (.s 9),.mv 11 (.i 0)]) (.blk 0 (.loop (.n 1)))) (.n 0)
 | _=>.skip
def body:C:=.seq (.reg [.mv 2 (.i 0)]) (.seq (.seq (.reg [.mv 6 (.s 0),.len 7 (.s 6),.bin 8 .gtr (.s 7) (.i 64)]) (.cond (.s 8) (.seq (.reg [.mv 2 (.i 3)]) (.ret)) (.skip))) (.n 4))
def rs:List RV:=[.t 2]
attribute [push_cast] nd body
theorem ok:okF prog n_term_CheckRules nd body 1 rs = true:=by kernel_rfl
abbrev L3 (v9 v10 v11:V) (B:Nat) (H:List Ob) (Q:X→T→List Ob→Prop):Prop:=Run prog nd B [.c (.m 3),.c (.loop (.n 1)),.mk 0,.c (.n 0)] [(9,v9),(10,v10),(11,v11)] H Q
theorem G3 (h:Run prog nd B (.c (nd 3) :: s) t H Q):Run prog nd B (.c (.m 3) :: s) t H Q:=run_m.2 h
end term_CheckRules
namespace term_Arities
def nd:Nat→C
 | 0=>.seq (.reg [.ld 57 (.s 4),.st 1 (.s 2) (.s 57),.st 1 (.s 3) (.c (.bool true))]) (.ret)
 | 1=>.gh [.ks 4 [2,3,4,10,14,15,16]] (.m 8)
 | 2=>.gh [.ks 5 [2,3,4,10,14,15,16,24,25]] (.m 6)
 | 3=>.seq (.seq (.reg [.ld 35 (.s 4),.fa 36 0 (.s 10),.ld 37 (.s 36),.lkp 38 true true (.int .i64 0) (.s 35) (.s 37),.mv 34 (.s 38),.ex 39 (.s 34) 0,.ex 40 (.s 34) 1,.mv 11 (.s 39),.mv 12 (.s 40)]) (.seq (.reg [.mv 41 (.s 12),.mv 42 (.s 41),.gd (.s 42) true [43,44,45,46,47] [.mv 43 (.s 11),.fa 44 2 (.s 10),.ld 45 (.s 44),.len 46 (.s 45),.bin 47 .neq (.s 43) (.s 46)],.pick 48 (.s 42) (.s 47) (.c (.bool false))]) (.cond (.s 48) (.seq (.reg [.st 1 (.s 2) (.c .nilm),.st 1 (.s 3) (.c (.bool false))]) (.ret)) (.skip)))) (.reg [.ld 49 (.s 4),.fa 50 0 (.s 10),.ld 51 (.s 50),.fa 52 2 (.s 10),.ld 53 (.s 52),.len 54 (.s 53),.mup true (.s 49) (.s 51) (.s 54)])
 | 4=>.blk 5 (.seq (.seq (.reg [.fa 32 1 (.s 10),.ld 33 (.s 32)]) (.cond (.s 33) (.exit 5) (.skip))) (.n 3))
 | 5=>.seq (.blk 3 (.seq (.reg [.ixa 27 3 2 (some 3) (.s 24) (.s 25),.al 8 t_Term [.str [],.bool false,.sl 3 []],.sf 8 3 (.s 27)]) (.seq (.reg [.la 28 3 (.s 8),.callp (some 29) n_term_Walk [.s 28]]) (.blk 4 (.rf (.s 29) [30,31] (.reg [.al 10 t_Term [.str [],.bool false,.sl 3 []],.sf 10 3 (.s 31)]) (.m 4)))))) (.reg [.bin 55 .add (.s 25) (.i 1),.mv 25 (.s 55)])
 | 6=>.seq (.reg [.bin 26 .lss (.s 25) (.i 2)]) (.seq (.cond (.s 26) (.skip) (.exit 2)) (.n 5))
 | 7=>.seq (.blk 1 (.seq (.reg [.ia 18 6 (.s 14) (.s 16),.la 19 6 (.s 18),.al 6 t_Rule [.str [],.bool false,.sl 3 [],.str [],.bool false,.sl 3 []],.sf 6 6 (.s 19)]) (.seq (.reg [.fa 20 0 (.s 6),.la 21 3 (.s 20),.fa 22 3 (.s 6),.la 23 3 (.s 22),.bd 24 [.str [],.bool false,.sl 3 [],.str [],.bool false,.sl 3 []] [(0,3,(.s 21)),(3,3,(.s 23))],.mv 25 (.i 0)]) (.blk 2 (.loop (.n 2)))))) (.reg [.bin 56 .add (.s 16) (.i 1),.mv 16 (.s 56)])
 | 8=>.seq (.reg [.bin 17 .lss (.s 16) (.s 15)]) (.seq (.cond (.s 17) (.skip) (.exit 0)) (.n 7))
 | _=>.skip
def body:C:=.seq (.reg [.al 2 t_m_string_int [.nilm],.al 3 t_bool [.bool false]]) (.seq (.reg [.mkm 13,.al 4 t_m_string_int [.nilm],.st 1 (.s 4) (.s 13)]) (.seq (.seq (.reg [.mv 14 (.s 0),.len 15 (.s 14),.mv 16 (.i 0)]) (.blk 0 (.loop (.n 1)))) (.n 0)))
def rs:List RV:=[.c 2,.c 3]
attribute [push_cast] nd body
theorem ok:okF prog n_term_Arities nd body 1 rs = true:=by kernel_rfl
abbrev L6 (v2 v3 v4 v10 v14 v15 v16 v24 v25:V) (B:Nat) (H:List Ob) (Q:X→T→List Ob→Prop):Prop:=Run prog nd B [.c (.m 6),.c (.loop (.n 2)),.mk 2,.mk 1,.c (.reg [.bin 56 .add (.s 16) (.i 1),.mv 16 (.s 56)]),.c (.loop (.n 1)),.mk 0,.c (.n 0)] [(2,v2),(3,v3),(4,v4),(10,v10),(14,v14),(15,v15),(16,v16),(24,v24),(25,v25)] H Q
theorem G6 (h:Run prog nd B (.c (nd 6) :: s) t H Q):Run prog nd B (.c (.m 6) :: s) t H Q:=run_m.2 h
abbrev L8 (v2 v3 v4 v10 v14 v15 v16:V) (B:Nat) (H:List Ob) (Q:X→T→List Ob→Prop):Prop:=Run prog nd B [.c (.m 8),.c (.loop (.n 1)),.mk 0,.c (.n 0)] [(2,v2),(3,v3),(4,v4),(10,v10),(14,v14),(15,v15),(16,v16)] H Q
theorem G8 (h:Run prog nd B (.c (nd 8) :: s) t H Q):Run prog nd B (.c (.m 8) :: s) t H Q:=run_m.2 h
end term_Arities
namespace term_Marked
def nd (_:Nat):C:=.skip
def body:C:=.seq (.reg [.mv 2 (.c (.bool false))]) (.seq (.reg [.mv 3 (.s 0),.callp (some 4) n_strings_HasSuffix [.s 3,(.c (.str [35]))],.mv 2 (.s 4)]) (.ret))
def rs:List RV:=[.t 2]
attribute [push_cast] nd body
theorem ok:okF prog n_term_Marked nd body 1 rs = true:=by kernel_rfl
end term_Marked
namespace slices_ContainsFunc_s_Rule_Rule
def nd (_:Nat):C:=.skip
def body:C:=.seq (.reg [.mv 4 (.c (.bool false))]) (.seq (.reg [.mv 5 (.s 0),.mv 6 (.s 1),.callp (some 7) n_slices_IndexFunc_s_Rule_Rule [.s 5,.s 6],.bin 8 .geq (.s 7) (.i 0),.mv 4 (.s 8)]) (.ret))
def rs:List RV:=[.t 4]
attribute [push_cast] nd body
theorem ok:okF prog n_slices_ContainsFunc_s_Rule_Rule nd body 2 rs = true:=by kernel_rfl
end slices_ContainsFunc_s_Rule_Rule
namespace term_extra
def nd (_:Nat):C:=.skip
def body:C:=.seq (.reg [.br 1 t_Rule (.s 0),.mv 2 (.c (.bool false))]) (.seq (.reg [.fa 4 0 (.s 1),.la 5 3 (.s 4),.bs 6 3 [.s 5],.callp (some 7) n_term_VarsOf [.s 6],.al 3 t_s_string [.sl 1 []],.sf 3 1 (.s 7)]) (.seq (.reg [.fa 8 0 (.s 1),.fa 9 1 (.s 8),.ld 10 (.s 9),.mv 11 (.s 10),.gd (.s 11) false [12,13,14,15,16,17] [.fa 12 3 (.s 1),.la 13 3 (.s 12),.bs 14 3 [.s 13],.callp (some 15) n_term_VarsOf [.s 14],.mf 16 n_term_extra_1 [] [.s 3],.callp (some 17) n_slices_ContainsFunc_s_string_string [.s 15,.s 16]],.pick 18 (.s 11) (.c (.bool true)) (.s 17),.mv 2 (.s 18)]) (.ret)))
def rs:List RV:=[.t 2]
attribute [push_cast] nd body
theorem ok:okF prog n_term_extra nd body 1 rs = true:=by kernel_rfl
end term_extra
namespace slices_ContainsFunc_s_Multi_Multi
def nd (_:Nat):C:=.skip
def body:C:=.seq (.reg [.mv 4 (.c (.bool false))]) (.seq (.reg [.mv 5 (.s 0),.mv 6 (.s 1),.callp (some 7) n_slices_IndexFunc_s_Multi_Multi [.s 5,.s 6],.bin 8 .geq (.s 7) (.i 0),.mv 4 (.s 8)]) (.ret))
def rs:List RV:=[.t 4]
attribute [push_cast] nd body
theorem ok:okF prog n_slices_ContainsFunc_s_Multi_Multi nd body 2 rs = true:=by kernel_rfl
end slices_ContainsFunc_s_Multi_Multi
namespace multi_all_1
def nd (_:Nat):C:=.skip
def body:C:=.seq (.reg [.br 2 t_Multi (.s 0),.mv 3 (.c (.bool false))]) (.seq (.reg [.la 4 4 (.s 2),.ld 5 (.s 1),.callp (some 6) n_multi_all [.s 4,.s 5],.un 7 .not (.s 6),.mv 3 (.s 7)]) (.ret))
def rs:List RV:=[.t 3]
attribute [push_cast] nd body
theorem ok:okF prog n_multi_all_1 nd body 2 rs = true:=by kernel_rfl
end multi_all_1
namespace term_VarsOf
def nd:Nat→C
 | 0=>.seq (.reg [.mv 37 (.s 8),.call (some 38) n_slices_Sort_s_string_string [.s 37],.frz 8]) (.seq (.reg [.mv 39 (.s 8),.mv 2 (.s 39)]) (.ret))
 | 1=>.gh [.ks 4 [8,28]] (.m 3)
 | 2=>.blk 5 (.seq (.reg [.en 31 (.s 28),.ex 32 (.s 31) 0,.mv 9 (.s 32)]) (.reg [.mv 33 (.s 8),.mv 34 (.s 9),.bs 35 1 [.s 34],.apr 36 t_string 1 16 (.s 33) (.s 35),.mv 8 (.s 36)]))
 | 3=>.seq (.reg [.nx 29 (.s 28),.ex 30 (.s 29) 0]) (.seq (.cond (.s 30) (.skip) (.exit 4)) (.n 2))
 | 4=>.seq (.reg [.mv 8 (.c .nil),.rnon 8 t_string 1]) (.seq (.seq (.reg [.ld 27 (.s 3),.rg 28 (.s 27)]) (.blk 4 (.loop (.n 1)))) (.n 0))
 | 5=>.gh [.ks 2 [3,7,11,12,13]] (.m 8)
 | 6=>.blk 3 (.seq (.reg [.fa 21 1 (.s 7),.ld 22 (.s 21)]) (.cond (.s 22) (.reg [.ld 23 (.s 3),.fa 24 0 (.s 7),.ld 25 (.s 24),.mup true (.s 23) (.s 25) (.c (.bool true))]) (.skip)))
 | 7=>.seq (.blk 1 (.seq (.reg [.ia 15 3 (.s 11) (.s 13),.la 16 3 (.s 15),.al 5 t_Term [.str [],.bool false,.sl 3 []],.sf 5 3 (.s 16)]) (.seq (.reg [.la 17 3 (.s 5),.callp (some 18) n_term_Walk [.s 17]]) (.blk 2 (.rf (.s 18) [19,20] (.reg [.al 7 t_Term [.str [],.bool false,.sl 3 []],.sf 7 3 (.s 20)]) (.m 6)))))) (.reg [.bin 26 .add (.s 13) (.i 1),.mv 13 (.s 26)])
 | 8=>.seq (.reg [.bin 14 .lss (.s 13) (.s 12)]) (.seq (.cond (.s 14) (.skip) (.exit 0)) (.n 7))
 | _=>.skip
def body:C:=.seq (.reg [.mv 2 (.c (.sl 1 []))]) (.seq (.reg [.mkm 10,.al 3 t_m_string_bool [.nilm],.st 1 (.s 3) (.s 10)]) (.seq (.seq (.reg [.mv 11 (.s 0),.len 12 (.s 11),.mv 13 (.i 0)]) (.blk 0 (.loop (.n 5)))) (.n 4)))
def rs:List RV:=[.t 2]
attribute [push_cast] nd body
theorem ok:okF prog n_term_VarsOf nd body 1 rs = true:=by kernel_rfl
abbrev L3 (v8 v28:V) (B:Nat) (H:List Ob) (Q:X→T→List Ob→Prop):Prop:=Run prog nd B [.c (.m 3),.c (.loop (.n 1)),.mk 4,.c (.n 0)] [(8,v8),(28,v28)] H Q
theorem G3 (h:Run prog nd B (.c (nd 3) :: s) t H Q):Run prog nd B (.c (.m 3) :: s) t H Q:=run_m.2 h
abbrev L8 (v3 v7 v11 v12 v13:V) (B:Nat) (H:List Ob) (Q:X→T→List Ob→Prop):Prop:=Run prog nd B [.c (.m 8),.c (.loop (.n 5)),.mk 0,.c (.n 4)] [(3,v3),(7,v7),(11,v11),(12,v12),(13,v13)] H Q
theorem G8 (h:Run prog nd B (.c (nd 8) :: s) t H Q):Run prog nd B (.c (.m 8) :: s) t H Q:=run_m.2 h
end term_VarsOf
end Go.Dw
end
section
namespace Go.Dw
variable {s:List K} {B:Nat} {t:T} {H:List Ob} {Q:X→T→List Ob→Prop}
namespace term_IsName
def nd:Nat→C
 | 0=>.seq (.reg [.mv 11 (.s 0),.bin 12 .neq (.s 11) (.c (.str [])),.mv 13 (.s 12),.gd (.s 13) true [14,15,16,17] [.mv 14 (.s 0),.s2b 15 (.s 14),.callp (some 16) n_slices_ContainsFunc_s_byte_byte [.s 15,(.f n_term_IsName_1)],.un 17 .not (.s 16)],.pick 18 (.s 13) (.s 17) (.c (.bool false)),.mv 4 (.s 18)]) (.ret)
 | 1=>.seq (.seq (.reg [.mv 8 (.s 1)]) (.cond (.s 8) (.reg [.mv 9 (.s 0),.callp (some 10) n_strings_TrimSuffix [.s 9,(.c (.str [35]))],.mv 0 (.s 10)]) (.skip))) (.n 0)
 | _=>.skip
def body:C:=.seq (.reg [.mv 4 (.c (.bool false))]) (.seq (.seq (.reg [.mv 5 (.s 0),.lens 6 (.s 5),.bin 7 .gtr (.s 6) (.i 24)]) (.cond (.s 7) (.seq (.reg [.mv 4 (.c (.bool false))]) (.ret)) (.skip))) (.n 1))
def rs:List RV:=[.t 4]
attribute [push_cast] nd body
theorem ok:okF prog n_term_IsName nd body 2 rs = true:=by kernel_rfl
end term_IsName
namespace multi_side
def nd:Nat→C
 | 0=>.seq (.reg [.mv 35 (.s 0),.fa 36 0 (.s 4),.ld 37 (.s 36),.bin 38 .sub (.s 37) (.i 1),.ia 39 6 (.s 35) (.s 38),.la 40 6 (.s 39),.al 10 t_Rule [.str [],.bool false,.sl 3 [],.str [],.bool false,.sl 3 []],.sf 10 6 (.s 40)]) (.seq (.dr [0,1,2,3,4,5,6,7,8,9] [.mv 41 (.s 2),.la 42 6 (.s 10),.callvp (some 43) (.s 41) [.s 42],.fa 44 0 (.s 10),.la 45 3 (.s 44),.bs 46 3 [.s 45],.callp (some 47) n_term_VarsOf [.s 46],.mv 48 (.s 7),.callp (some 49) n_multi_plug [.s 43,.s 47,.s 48],.st 3 (.s 6) (.s 49)]) (.ret))
 | 1=>.seq (.seq (.reg [.fa 26 0 (.s 4),.ld 27 (.s 26),.bin 28 .eql (.s 27) (.i 0)]) (.cond (.s 28) (.seq (.reg [.fa 29 1 (.s 4),.ld 30 (.s 29),.fa 31 2 (.s 4),.ld 32 (.s 31),.mv 33 (.s 7),.bd 34 [.str [],.bool false,.sl 3 []] [(0,1,(.s 30)),(1,1,(.s 32)),(2,1,(.s 33))],.st 3 (.s 6) (.s 34)]) (.ret)) (.skip))) (.n 0)
 | 2=>.gh [.ks 2 [0,2,4,6,7,12,13,14]] (.m 4)
 | 3=>.seq (.blk 1 (.seq (.reg [.ia 16 4 (.s 12) (.s 14),.la 17 4 (.s 16),.al 9 t_Multi [.int .i64 0,.str [],.bool false,.sl 4 []],.sf 9 4 (.s 17)]) (.reg [.mv 18 (.s 7),.mv 19 (.s 0),.la 20 4 (.s 9),.mv 21 (.s 2),.callp (some 22) n_multi_side [.s 19,.s 20,.s 21],.bs 23 3 [.s 22],.app 24 t_Term 3 48 (.s 18) (.s 23),.mv 7 (.s 24)]))) (.reg [.bin 25 .add (.s 14) (.i 1),.mv 14 (.s 25)])
 | 4=>.seq (.reg [.bin 15 .lss (.s 14) (.s 13)]) (.seq (.cond (.s 15) (.skip) (.exit 0)) (.n 3))
 | _=>.skip
def body:C:=.seq (.reg [.br 4 t_Multi (.s 1),.al 6 t_Term [.str [],.bool false,.sl 3 []]]) (.seq (.reg [.mv 7 (.c .nil),.non 7 t_Term 3]) (.seq (.seq (.reg [.fa 11 3 (.s 4),.ld 12 (.s 11),.len 13 (.s 12),.mv 14 (.i 0)]) (.blk 0 (.loop (.n 2)))) (.n 1)))
def rs:List RV:=[.a 6 3]
attribute [push_cast] nd body
theorem ok:okF prog n_multi_side nd body 3 rs = true:=by kernel_rfl
abbrev L4 (v0 v2 v4 v6 v7 v12 v13 v14:V) (B:Nat) (H:List Ob) (Q:X→T→List Ob→Prop):Prop:=Run prog nd B [.c (.m 4),.c (.loop (.n 2)),.mk 0,.c (.n 1)] [(0,v0),(2,v2),(4,v4),(6,v6),(7,v7),(12,v12),(13,v13),(14,v14)] H Q
theorem G4 (h:Run prog nd B (.c (nd 4) :: s) t H Q):Run prog nd B (.c (.m 4) :: s) t H Q:=run_m.2 h
end multi_side
namespace multi_large
def nd (_:Nat):C:=.skip
def body:C:=.seq (.reg [.br 1 t_Term (.s 0),.mv 2 (.c (.bool false))]) (.seq (.reg [.al 3 t_int [.int .i64 0],.st 1 (.s 3) (.i 4000)]) (.seq (.reg [.al 4 t_func_Term_bool [.nilf]]) (.seq (.reg [.mf 5 n_multi_large_1 [] [.s 3,.s 4],.st 1 (.s 4) (.s 5)]) (.seq (.reg [.ld 6 (.s 4),.la 7 3 (.s 1),.callv (some 8) (.s 6) [.s 7],.mv 2 (.s 8)]) (.ret)))))
def rs:List RV:=[.t 2]
attribute [push_cast] nd body
theorem ok:okF prog n_multi_large nd body 1 rs = true:=by kernel_rfl
end multi_large
namespace term_Fit
def nd:Nat→C
 | 0=>.seq (.reg [.la 8 3 (.s 1),.st 3 (.s 2) (.s 8),.mv 3 (.i 0)]) (.ret)
 | _=>.skip
def body:C:=.seq (.reg [.br 1 t_Term (.s 0),.al 2 t_Term [.str [],.bool false,.sl 3 []],.mv 3 (.i 0)]) (.seq (.seq (.reg [.la 4 3 (.s 1),.callp (some 5) n_term_fits [.s 4],.un 6 .not (.s 5)]) (.cond (.s 6) (.seq (.reg [.bd 7 [.str [],.bool false,.sl 3 []] [],.st 3 (.s 2) (.s 7),.mv 3 (.i 3)]) (.ret)) (.skip))) (.n 0))
def rs:List RV:=[.a 2 3,.t 3]
attribute [push_cast] nd body
theorem ok:okF prog n_term_Fit nd body 1 rs = true:=by kernel_rfl
end term_Fit
namespace term_Own
def nd:Nat→C
 | 0=>.seq (.reg [.la 26 3 (.s 3),.st 3 (.s 2) (.s 26)]) (.ret)
 | 1=>.gh [.ks 3 [2,3,12,13,14]] (.m 3)
 | 2=>.seq (.blk 1 (.seq (.reg [.ia 16 3 (.s 12) (.s 14),.la 17 3 (.s 16),.al 5 t_Term [.str [],.bool false,.sl 3 []],.sf 5 3 (.s 17)]) (.dr [0,1,2,3,4,5,6,7] [.fa 18 2 (.s 3),.ld 19 (.s 18),.la 20 3 (.s 5),.callp (some 21) n_term_Own [.s 20],.bs 22 3 [.s 21],.app 23 t_Term 3 48 (.s 19) (.s 22),.fa 24 2 (.s 3),.st 1 (.s 24) (.s 23)]))) (.reg [.bin 25 .add (.s 14) (.i 1),.mv 14 (.s 25)])
 | 3=>.seq (.reg [.bin 15 .lss (.s 14) (.s 13)]) (.seq (.cond (.s 15) (.skip) (.exit 0)) (.n 2))
 | _=>.skip
def body:C:=.seq (.reg [.br 1 t_Term (.s 0),.al 2 t_Term [.str [],.bool false,.sl 3 []]]) (.seq (.reg [.fa 6 0 (.s 1),.ld 7 (.s 6),.fa 8 1 (.s 1),.ld 9 (.s 8),.bd 10 [.str [],.bool false,.nil] [(0,1,(.s 7)),(1,1,(.s 9))],.al 3 t_Term [.str [],.bool false,.nil],.st 3 (.s 3) (.s 10),.ono t_Term 3 2 (.s 3)]) (.seq (.seq (.reg [.fa 11 2 (.s 1),.ld 12 (.s 11),.len 13 (.s 12),.mv 14 (.i 0)]) (.blk 0 (.loop (.n 1)))) (.n 0)))
def rs:List RV:=[.a 2 3]
attribute [push_cast] nd body
theorem ok:okF prog n_term_Own nd body 1 rs = true:=by kernel_rfl
abbrev L3 (v2 v3 v12 v13 v14:V) (B:Nat) (H:List Ob) (Q:X→T→List Ob→Prop):Prop:=Run prog nd B [.c (.m 3),.c (.loop (.n 1)),.mk 0,.c (.n 0)] [(2,v2),(3,v3),(12,v12),(13,v13),(14,v14)] H Q
theorem G3 (h:Run prog nd B (.c (nd 3) :: s) t H Q):Run prog nd B (.c (.m 3) :: s) t H Q:=run_m.2 h
end term_Own
namespace r01_CompareNames
def nd:Nat→C
 | 0=>.seq (.reg [.mv 31 (.s 0),.lens 32 (.s 31),.mv 33 (.s 1),.lens 34 (.s 33),.callp (some 35) n_r01_CompareInts [.s 32,.s 34],.mv 4 (.s 35)]) (.ret)
 | 1=>.gh [.ks 0 [0,1,10,11]] (.m 3)
 | 2=>.seq (.blk 1 (.seq (.reg [.mv 13 (.s 11),.mv 5 (.s 13)]) (.seq (.dr [0,1,2,3,4,5,6] [.mv 14 (.s 0),.mv 15 (.s 5),.ix 16 (.s 14) (.s 15),.mv 17 (.s 1),.mv 18 (.s 5),.ix 19 (.s 17) (.s 18),.bin 20 .neq (.s 16) (.s 19)]) (.cond (.s 20) (.seq (.dr [0,1,2,3,4,5,6,7,8,9] [.mv 21 (.s 0),.mv 22 (.s 5),.ix 23 (.s 21) (.s 22),.cvi 24 .i64 (.s 23),.mv 25 (.s 1),.mv 26 (.s 5),.ix 27 (.s 25) (.s 26),.cvi 28 .i64 (.s 27),.callp (some 29) n_r01_CompareInts [.s 24,.s 28],.mv 4 (.s 29)]) (.ret)) (.skip))))) (.reg [.bin 30 .add (.s 11) (.i 1),.mv 11 (.s 30)])
 | 3=>.seq (.reg [.bin 12 .lss (.s 11) (.s 10)]) (.seq (.cond (.s 12) (.skip) (.exit 0)) (.n 2))
 | _=>.skip
def body:C:=.seq (.reg [.mv 4 (.i 0)]) (.seq (.seq (.reg [.mv 6 (.s 0),.lens 7 (.s 6),.mv 8 (.s 1),.lens 9 (.s 8),.mn 10 (.s 7) (.s 9),.mv 11 (.i 0)]) (.blk 0 (.loop (.n 1)))) (.n 0))
def rs:List RV:=[.t 4]
attribute [push_cast] nd body
theorem ok:okF prog n_r01_CompareNames nd body 2 rs = true:=by kernel_rfl
abbrev L3 (v0 v1 v10 v11:V) (B:Nat) (H:List Ob) (Q:X→T→List Ob→Prop):Prop:=Run prog nd B [.c (.m 3),.c (.loop (.n 1)),.mk 0,.c (.n 0)] [(0,v0),(1,v1),(10,v10),(11,v11)] H Q
theorem G3 (h:Run prog nd B (.c (nd 3) :: s) t H Q):Run prog nd B (.c (.m 3) :: s) t H Q:=run_m.2 h
end r01_CompareNames
namespace r01_CompareInts
def nd:Nat→C
 | 0=>.seq (.reg [.mv 4 (.i 0)]) (.ret)
 | 1=>.seq (.seq (.reg [.mv 8 (.s 0),.mv 9 (.s 1),.bin 10 .gtr (.s 8) (.s 9)]) (.cond (.s 10) (.seq (.reg [.mv 4 (.i 1)]) (.ret)) (.skip))) (.n 0)
 | _=>.skip
def body:C:=.seq (.reg [.mv 4 (.i 0)]) (.seq (.seq (.reg [.mv 5 (.s 0),.mv 6 (.s 1),.bin 7 .lss (.s 5) (.s 6)]) (.cond (.s 7) (.seq (.reg [.mv 4 (.i (-1))]) (.ret)) (.skip))) (.n 1))
def rs:List RV:=[.t 4]
attribute [push_cast] nd body
theorem ok:okF prog n_r01_CompareInts nd body 2 rs = true:=by kernel_rfl
end r01_CompareInts
namespace multi_node
def nd:Nat→C
 | 0=>.seq (.reg [.la 19 4 (.s 2),.st 4 (.s 4) (.s 19)]) (.ret)
 | 1=>.gh [.ks 2 [2,4,7,8,9]] (.m 3)
 | 2=>.seq (.blk 1 (.seq (.reg [.ia 11 1 (.s 7) (.s 9),.ld 12 (.s 11),.mv 6 (.s 12)]) (.reg [.fa 13 3 (.s 2),.ld 14 (.s 13),.mv 15 (.s 6),.ia 16 4 (.s 14) (.s 15),.la 17 4 (.s 16),.st 4 (.s 2) (.s 17)]))) (.reg [.bin 18 .add (.s 9) (.i 1),.mv 9 (.s 18)])
 | 3=>.seq (.reg [.bin 10 .lss (.s 9) (.s 8)]) (.seq (.cond (.s 10) (.skip) (.exit 0)) (.n 2))
 | _=>.skip
def body:C:=.seq (.reg [.bx 2 t_Multi (.s 0),.al 4 t_Multi [.int .i64 0,.str [],.bool false,.sl 4 []]]) (.seq (.seq (.reg [.mv 7 (.s 1),.len 8 (.s 7),.mv 9 (.i 0)]) (.blk 0 (.loop (.n 1)))) (.n 0))
def rs:List RV:=[.a 4 4]
attribute [push_cast] nd body
theorem ok:okF prog n_multi_node nd body 2 rs = true:=by kernel_rfl
abbrev L3 (v2 v4 v7 v8 v9:V) (B:Nat) (H:List Ob) (Q:X→T→List Ob→Prop):Prop:=Run prog nd B [.c (.m 3),.c (.loop (.n 1)),.mk 0,.c (.n 0)] [(2,v2),(4,v4),(7,v7),(8,v8),(9,v9)] H Q
theorem G3 (h:Run prog nd B (.c (nd 3) :: s) t H Q):Run prog nd B (.c (.m 3) :: s) t H Q:=run_m.2 h
end multi_node
namespace multi_Fit
def nd:Nat→C
 | 0=>.seq (.reg [.la 13 4 (.s 1),.callp (some 14) n_multi_own [.s 13],.st 4 (.s 2) (.s 14),.mv 3 (.i 0)]) (.ret)
 | _=>.skip
def body:C:=.seq (.reg [.br 1 t_Multi (.s 0),.al 2 t_Multi [.int .i64 0,.str [],.bool false,.sl 4 []],.mv 3 (.i 0)]) (.seq (.seq (.reg [.la 4 4 (.s 1),.callp (some 5) n_multi_size [.s 4],.bin 6 .gtr (.s 5) (.i 4000),.mv 7 (.s 6),.gd (.s 7) false [8,9,10] [.la 8 4 (.s 1),.callp (some 9) n_multi_depth [.s 8],.bin 10 .gtr (.s 9) (.i 200)],.pick 11 (.s 7) (.c (.bool true)) (.s 10)]) (.cond (.s 11) (.seq (.reg [.bd 12 [.int .i64 0,.str [],.bool false,.sl 4 []] [],.st 4 (.s 2) (.s 12),.mv 3 (.i 3)]) (.ret)) (.skip))) (.n 0))
def rs:List RV:=[.a 2 4,.t 3]
attribute [push_cast] nd body
theorem ok:okF prog n_multi_Fit nd body 1 rs = true:=by kernel_rfl
end multi_Fit
namespace multi_set
def nd:Nat→C
 | 0=>.seq (.reg [.fa 11 3 (.s 3),.ld 12 (.s 11),.call (some 13) n_slices_Clone_s_Multi_Multi [.s 12],.fa 14 3 (.s 3),.st 1 (.s 14) (.s 13)]) (.seq (.dr [0,1,2,3,4,5,6,7,8,9,10,11,12,13,14,15,16,17] [.fa 15 3 (.s 3),.ld 16 (.s 15),.mv 17 (.s 1),.ia 18 1 (.s 17) (.i 0),.ld 19 (.s 18),.fa 20 3 (.s 3),.ld 21 (.s 20),.mv 22 (.s 1),.ia 23 1 (.s 22) (.i 0),.ld 24 (.s 23),.ia 25 4 (.s 21) (.s 24),.la 26 4 (.s 25),.mv 27 (.s 1),.sx 28 1 (.s 27) (some (.i 1)) none,.la 29 4 (.s 5),.callp (some 30) n_multi_set [.s 26,.s 28,.s 29],.ia 31 4 (.s 16) (.s 19),.st 4 (.s 31) (.s 30)]) (.seq (.reg [.frc 3 (.s 3),.la 32 4 (.s 3),.st 4 (.s 6) (.s 32)]) (.ret)))
 | _=>.skip
def body:C:=.seq (.reg [.bx 3 t_Multi (.s 0),.br 5 t_Multi (.s 2),.al 6 t_Multi [.int .i64 0,.str [],.bool false,.sl 4 []]]) (.seq (.seq (.reg [.mv 7 (.s 1),.len 8 (.s 7),.bin 9 .eql (.s 8) (.i 0)]) (.cond (.s 9) (.seq (.reg [.la 10 4 (.s 5),.st 4 (.s 6) (.s 10)]) (.ret)) (.skip))) (.n 0))
def rs:List RV:=[.a 6 4]
attribute [push_cast] nd body
theorem ok:okF prog n_multi_set nd body 3 rs = true:=by kernel_rfl
end multi_set
namespace multi_contract
def nd (_:Nat):C:=.skip
def body:C:=.seq (.reg [.br 3 t_Multi (.s 1),.al 4 t_Multi [.int .i64 0,.str [],.bool false,.sl 4 []]]) (.seq (.reg [.mv 6 (.s 0),.fa 7 0 (.s 3),.ld 8 (.s 7),.bin 9 .sub (.s 8) (.i 1),.ia 10 6 (.s 6) (.s 9),.la 11 6 (.s 10),.al 5 t_Rule [.str [],.bool false,.sl 3 [],.str [],.bool false,.sl 3 []],.sf 5 6 (.s 11)]) (.seq (.dr [0,1,2,3,4,5,6,7,8,9] [.fa 12 3 (.s 5),.la 13 3 (.s 12),.fa 14 0 (.s 5),.la 15 3 (.s 14),.bs 16 3 [.s 15],.callp (some 17) n_term_VarsOf [.s 16],.fa 18 3 (.s 3),.ld 19 (.s 18),.callp (some 20) n_multi_Plug [.s 13,.s 17,.s 19],.st 4 (.s 4) (.s 20)]) (.ret)))
def rs:List RV:=[.a 4 4]
attribute [push_cast] nd body
theorem ok:okF prog n_multi_contract nd body 2 rs = true:=by kernel_rfl
end multi_contract
namespace term_formed
def nd:Nat→C
 | 0=>.seq (.reg [.fa 14 2 (.s 1),.ld 15 (.s 14),.len 16 (.s 15),.bin 17 .leq (.s 16) (.i 8),.mv 18 (.s 17),.gd (.s 18) true [19,20,21] [.fa 19 0 (.s 1),.ld 20 (.s 19),.callp (some 21) n_term_IsName [.s 20,(.c (.bool true))]],.pick 22 (.s 18) (.s 21) (.c (.bool false)),.mv 23 (.s 22),.gd (.s 23) true [24,25,26,27] [.fa 24 2 (.s 1),.ld 25 (.s 24),.callp (some 26) n_slices_ContainsFunc_s_Term_Term [.s 25,(.f n_term_formed_1)],.un 27 .not (.s 26)],.pick 28 (.s 23) (.s 27) (.c (.bool false)),.mv 2 (.s 28)]) (.ret)
 | _=>.skip
def body:C:=.seq (.reg [.br 1 t_Term (.s 0),.mv 2 (.c (.bool false))]) (.seq (.seq (.reg [.fa 3 1 (.s 1),.ld 4 (.s 3)]) (.cond (.s 4) (.seq (.reg [.fa 5 2 (.s 1),.ld 6 (.s 5),.len 7 (.s 6),.bin 8 .eql (.s 7) (.i 0),.mv 9 (.s 8),.gd (.s 9) true [10,11,12] [.fa 10 0 (.s 1),.ld 11 (.s 10),.callp (some 12) n_term_IsName [.s 11,(.c (.bool false))]],.pick 13 (.s 9) (.s 12) (.c (.bool false)),.mv 2 (.s 13)]) (.ret)) (.skip))) (.n 0))
def rs:List RV:=[.t 2]
attribute [push_cast] nd body
theorem ok:okF prog n_term_formed nd body 1 rs = true:=by kernel_rfl
end term_formed
namespace term_fits
def nd (_:Nat):C:=.skip
def body:C:=.seq (.reg [.br 1 t_Term (.s 0),.mv 2 (.c (.bool false))]) (.seq (.reg [.la 3 3 (.s 1),.callp (some 4) n_term_Size [.s 3],.bin 5 .leq (.s 4) (.i 4000),.mv 6 (.s 5),.gd (.s 6) true [7,8,9] [.la 7 3 (.s 1),.callp (some 8) n_term_Depth [.s 7],.bin 9 .leq (.s 8) (.i 200)],.pick 10 (.s 6) (.s 9) (.c (.bool false)),.mv 2 (.s 10)]) (.ret))
def rs:List RV:=[.t 2]
attribute [push_cast] nd body
theorem ok:okF prog n_term_fits nd body 1 rs = true:=by kernel_rfl
end term_fits
namespace slices_ContainsFunc_s_string_string
def nd (_:Nat):C:=.skip
def body:C:=.seq (.reg [.mv 4 (.c (.bool false))]) (.seq (.reg [.mv 5 (.s 0),.mv 6 (.s 1),.callp (some 7) n_slices_IndexFunc_s_string_string [.s 5,.s 6],.bin 8 .geq (.s 7) (.i 0),.mv 4 (.s 8)]) (.ret))
def rs:List RV:=[.t 4]
attribute [push_cast] nd body
theorem ok:okF prog n_slices_ContainsFunc_s_string_string nd body 2 rs = true:=by kernel_rfl
end slices_ContainsFunc_s_string_string
namespace multi_occurrences
def nd:Nat→C
 | 0=>.seq (.reg [.ld 25 (.s 5),.mv 4 (.s 25)]) (.ret)
 | 1=>.blk 1 (.seq (.reg [.fa 12 1 (.s 7),.ld 13 (.s 12),.mv 14 (.s 13),.gd (.s 14) true [15,16,17,18] [.fa 15 0 (.s 7),.ld 16 (.s 15),.ld 17 (.s 3),.bin 18 .eql (.s 16) (.s 17)],.pick 19 (.s 14) (.s 18) (.c (.bool false))]) (.cond (.s 19) (.dr [0,1,2,3,4,5] [.ld 20 (.s 5),.mv 21 (.s 6),.callp (some 22) n_slices_Clone_s_int_int [.s 21],.bs 23 1 [.s 22],.app 24 t_s_int 1 24 (.s 20) (.s 23),.st 1 (.s 5) (.s 24)]) (.skip)))
 | _=>.skip
def body:C:=.seq (.reg [.br 2 t_Term (.s 0),.br 3 t_string (.s 1),.mv 4 (.c (.sl 1 []))]) (.seq (.reg [.al 5 t_s_s_int [.nil],.ono t_s_int 1 0 (.s 5)]) (.seq (.seq (.reg [.la 8 3 (.s 2),.callp (some 9) n_term_Walk [.s 8]]) (.blk 0 (.rf (.s 9) [10,11] (.seq (.reg [.mv 6 (.s 10)]) (.reg [.al 7 t_Term [.str [],.bool false,.sl 3 []],.sf 7 3 (.s 11)])) (.m 1)))) (.n 0)))
def rs:List RV:=[.t 4]
attribute [push_cast] nd body
theorem ok:okF prog n_multi_occurrences nd body 2 rs = true:=by kernel_rfl
end multi_occurrences
namespace cmp_Compare_int
def nd:Nat→C
 | 0=>.seq (.reg [.mv 4 (.i 0)]) (.ret)
 | 1=>.seq (.seq (.reg [.mv 17 (.s 0),.mv 18 (.s 1),.bin 19 .gtr (.s 17) (.s 18)]) (.cond (.s 19) (.seq (.reg [.mv 4 (.i 1)]) (.ret)) (.skip))) (.n 0)
 | 2=>.seq (.seq (.reg [.mv 14 (.s 0),.mv 15 (.s 1),.bin 16 .lss (.s 14) (.s 15)]) (.cond (.s 16) (.seq (.reg [.mv 4 (.i (-1))]) (.ret)) (.skip))) (.n 1)
 | 3=>.seq (.seq (.reg [.mv 13 (.s 6)]) (.cond (.s 13) (.seq (.reg [.mv 4 (.i 1)]) (.ret)) (.skip))) (.n 2)
 | 4=>.seq (.reg [.mv 4 (.i (-1))]) (.ret)
 | _=>.skip
def body:C:=.seq (.reg [.mv 4 (.i 0)]) (.seq (.reg [.mv 7 (.s 0),.callp (some 8) n_cmp_isNaN_int [.s 7],.mv 5 (.s 8)]) (.seq (.reg [.mv 9 (.s 1),.callp (some 10) n_cmp_isNaN_int [.s 9],.mv 6 (.s 10)]) (.seq (.seq (.reg [.mv 11 (.s 5)]) (.cond (.s 11) (.seq (.seq (.reg [.mv 12 (.s 6)]) (.cond (.s 12) (.seq (.reg [.mv 4 (.i 0)]) (.ret)) (.skip))) (.n 4)) (.skip))) (.n 3))))
def rs:List RV:=[.t 4]
attribute [push_cast] nd body
theorem ok:okF prog n_cmp_Compare_int nd body 2 rs = true:=by kernel_rfl
end cmp_Compare_int
namespace rewrite_find
def nd:Nat→C
 | 0=>.seq (.reg [.mv 43 (.s 10),.mv 6 (.s 43),.mv 7 (.i 0)]) (.ret)
 | 1=>.seq (.dr [0,1,2,3,4,5,6,7,8,9,10,11,12] [.mv 31 (.s 0),.fa 32 0 (.s 5),.ld 33 (.s 32),.ia 34 6 (.s 31) (.s 33),.fa 35 0 (.s 34),.la 36 3 (.s 35),.la 37 3 (.s 8),.callp (some 38) n_unify_Find [.s 36,.s 37],.mv 30 (.s 38),.ex 39 (.s 30) 0,.ex 40 (.s 30) 1,.mv 10 (.s 39),.mv 9 (.s 40)]) (.seq (.seq (.reg [.mv 41 (.s 9),.un 42 .not (.s 41)]) (.cond (.s 42) (.seq (.reg [.mv 6 (.c (.sl 4 [])),.mv 7 (.i 9)]) (.ret)) (.skip))) (.n 0))
 | 2=>.seq (.reg [.la 22 3 (.s 4),.fa 23 1 (.s 5),.ld 24 (.s 23),.callp (some 25) n_term_Sub [.s 22,.s 24],.mv 21 (.s 25),.ex 26 (.s 21) 0,.ex 27 (.s 21) 1,.al 8 t_Term [.str [],.bool false,.sl 3 []],.sf 8 3 (.s 26),.mv 9 (.s 27)]) (.seq (.seq (.reg [.mv 28 (.s 9),.un 29 .not (.s 28)]) (.cond (.s 29) (.seq (.reg [.mv 6 (.c (.sl 4 [])),.mv 7 (.i 8)]) (.ret)) (.skip))) (.n 1))
 | _=>.skip
def body:C:=.seq (.reg [.br 4 t_Term (.s 1),.br 5 t_Step (.s 2),.mv 6 (.c (.sl 4 [])),.mv 7 (.i 0)]) (.seq (.seq (.reg [.fa 11 0 (.s 5),.ld 12 (.s 11),.bin 13 .lss (.s 12) (.i 0),.mv 14 (.s 13),.gd (.s 14) false [15,16,17,18,19] [.fa 15 0 (.s 5),.ld 16 (.s 15),.mv 17 (.s 0),.len 18 (.s 17),.bin 19 .geq (.s 16) (.s 18)],.pick 20 (.s 14) (.c (.bool true)) (.s 19)]) (.cond (.s 20) (.seq (.reg [.mv 6 (.c (.sl 4 [])),.mv 7 (.i 8)]) (.ret)) (.skip))) (.n 2))
def rs:List RV:=[.t 6,.t 7]
attribute [push_cast] nd body
theorem ok:okF prog n_rewrite_find nd body 3 rs = true:=by kernel_rfl
end rewrite_find
namespace term_Instance
def nd:Nat→C
 | 0=>.seq (.reg [.mv 19 (.s 0),.la 20 3 (.s 3),.callp (some 21) n_term_replace [.s 19,.s 20],.st 3 (.s 4) (.s 21),.mv 5 (.i 0)]) (.ret)
 | _=>.skip
def body:C:=.seq (.reg [.br 3 t_Term (.s 1),.al 4 t_Term [.str [],.bool false,.sl 3 []],.mv 5 (.i 0)]) (.seq (.seq (.reg [.mv 7 (.s 0),.la 8 3 (.s 3),.callp (some 9) n_term_measure [.s 7,.s 8],.al 6 t_term_meter [.int .i64 0,.int .i64 0],.sf 6 2 (.s 9)]) (.seq (.reg [.fa 10 0 (.s 6),.ld 11 (.s 10),.bin 12 .gtr (.s 11) (.i 4000),.mv 13 (.s 12),.gd (.s 13) false [14,15,16] [.fa 14 1 (.s 6),.ld 15 (.s 14),.bin 16 .gtr (.s 15) (.i 200)],.pick 17 (.s 13) (.c (.bool true)) (.s 16)]) (.cond (.s 17) (.seq (.reg [.bd 18 [.str [],.bool false,.sl 3 []] [],.st 3 (.s 4) (.s 18),.mv 5 (.i 3)]) (.ret)) (.skip)))) (.n 0))
def rs:List RV:=[.a 4 3,.t 5]
attribute [push_cast] nd body
theorem ok:okF prog n_term_Instance nd body 2 rs = true:=by kernel_rfl
end term_Instance
namespace term_Set
def nd:Nat→C
 | 0=>.seq (.reg [.la 47 3 (.s 7),.st 3 (.s 6) (.s 47)]) (.ret)
 | 1=>.gh [.ks 3 [1,5,6,7,21,22,23]] (.m 3)
 | 2=>.seq (.blk 1 (.seq (.reg [.mv 25 (.s 23),.ia 26 3 (.s 21) (.s 23),.la 27 3 (.s 26),.al 9 t_Term [.str [],.bool false,.sl 3 []],.mv 8 (.s 25),.st 3 (.s 9) (.s 27)]) (.seq (.seq (.reg [.mv 28 (.s 8),.mv 29 (.s 1),.ia 30 1 (.s 29) (.i 0),.ld 31 (.s 30),.bin 32 .eql (.s 28) (.s 31)]) (.cond (.s 32) (.dr [0,1,2,3,4,5] [.la 33 3 (.s 9),.mv 34 (.s 1),.sx 35 1 (.s 34) (some (.i 1)) none,.la 36 3 (.s 5),.callp (some 37) n_term_Set [.s 33,.s 35,.s 36],.st 3 (.s 9) (.s 37)]) (.reg [.la 38 3 (.s 9),.callp (some 39) n_term_Own [.s 38],.st 3 (.s 9) (.s 39)]))) (.reg [.fa 40 2 (.s 7),.ld 41 (.s 40),.la 42 3 (.s 9),.bs 43 3 [.s 42],.app 44 t_Term 3 48 (.s 41) (.s 43),.fa 45 2 (.s 7),.st 1 (.s 45) (.s 44)])))) (.reg [.bin 46 .add (.s 23) (.i 1),.mv 23 (.s 46)])
 | 3=>.seq (.reg [.bin 24 .lss (.s 23) (.s 22)]) (.seq (.cond (.s 24) (.skip) (.exit 0)) (.n 2))
 | 4=>.seq (.reg [.fa 15 0 (.s 3),.ld 16 (.s 15),.fa 17 1 (.s 3),.ld 18 (.s 17),.bd 19 [.str [],.bool false,.nil] [(0,1,(.s 16)),(1,1,(.s 18))],.al 7 t_Term [.str [],.bool false,.nil],.st 3 (.s 7) (.s 19),.ono t_Term 3 2 (.s 7)]) (.seq (.seq (.reg [.fa 20 2 (.s 3),.ld 21 (.s 20),.len 22 (.s 21),.mv 23 (.i 0)]) (.blk 0 (.loop (.n 1)))) (.n 0))
 | _=>.skip
def body:C:=.seq (.reg [.br 3 t_Term (.s 0),.br 5 t_Term (.s 2),.al 6 t_Term [.str [],.bool false,.sl 3 []]]) (.seq (.seq (.reg [.mv 10 (.s 1),.len 11 (.s 10),.bin 12 .eql (.s 11) (.i 0)]) (.cond (.s 12) (.seq (.reg [.la 13 3 (.s 5),.callp (some 14) n_term_Own [.s 13],.st 3 (.s 6) (.s 14)]) (.ret)) (.skip))) (.n 4))
def rs:List RV:=[.a 6 3]
attribute [push_cast] nd body
theorem ok:okF prog n_term_Set nd body 3 rs = true:=by kernel_rfl
abbrev L3 (v1 v5 v6 v7 v21 v22 v23:V) (B:Nat) (H:List Ob) (Q:X→T→List Ob→Prop):Prop:=Run prog nd B [.c (.m 3),.c (.loop (.n 1)),.mk 0,.c (.n 0)] [(1,v1),(5,v5),(6,v6),(7,v7),(21,v21),(22,v22),(23,v23)] H Q
theorem G3 (h:Run prog nd B (.c (nd 3) :: s) t H Q):Run prog nd B (.c (.m 3) :: s) t H Q:=run_m.2 h
end term_Set
namespace term_All
def nd:Nat→C
 | 0=>.seq (.reg [.mv 2 (.i 0)]) (.ret)
 | 1=>.gh [.ks 0 [6,7,8]] (.m 3)
 | 2=>.seq (.blk 1 (.seq (.reg [.ia 10 3 (.s 6) (.s 8),.la 11 3 (.s 10),.al 4 t_Term [.str [],.bool false,.sl 3 []],.sf 4 3 (.s 11)]) (.seq (.reg [.la 12 3 (.s 4),.callp (some 13) n_term_Check [.s 12],.mv 5 (.s 13)]) (.seq (.reg [.mv 14 (.s 5),.bin 15 .neq (.s 14) (.i 0)]) (.cond (.s 15) (.seq (.reg [.mv 16 (.s 5),.mv 2 (.s 16)]) (.ret)) (.skip)))))) (.reg [.bin 17 .add (.s 8) (.i 1),.mv 8 (.s 17)])
 | 3=>.seq (.reg [.bin 9 .lss (.s 8) (.s 7)]) (.seq (.cond (.s 9) (.skip) (.exit 0)) (.n 2))
 | _=>.skip
def body:C:=.seq (.reg [.mv 2 (.i 0)]) (.seq (.seq (.reg [.mv 6 (.s 0),.len 7 (.s 6),.mv 8 (.i 0)]) (.blk 0 (.loop (.n 1)))) (.n 0))
def rs:List RV:=[.t 2]
attribute [push_cast] nd body
theorem ok:okF prog n_term_All nd body 1 rs = true:=by kernel_rfl
abbrev L3 (v6 v7 v8:V) (B:Nat) (H:List Ob) (Q:X→T→List Ob→Prop):Prop:=Run prog nd B [.c (.m 3),.c (.loop (.n 1)),.mk 0,.c (.n 0)] [(6,v6),(7,v7),(8,v8)] H Q
theorem G3 (h:Run prog nd B (.c (nd 3) :: s) t H Q):Run prog nd B (.c (.m 3) :: s) t H Q:=run_m.2 h
end term_All
namespace term_Walk
def nd (_:Nat):C:=.skip
def body:C:=.seq (.reg [.br 1 t_Term (.s 0),.mv 2 (.c .nilf)]) (.seq (.reg [.mf 3 n_term_Walk_1 [] [.s 1],.mv 2 (.s 3)]) (.ret))
def rs:List RV:=[.t 2]
attribute [push_cast] nd body
theorem ok:okF prog n_term_Walk nd body 1 rs = true:=by kernel_rfl
end term_Walk
namespace strings_HasSuffix
def nd (_:Nat):C:=.skip
def body:C:=.seq (.reg [.mv 4 (.c (.bool false))]) (.seq (.reg [.mv 5 (.s 0),.mv 6 (.s 1),.callp (some 7) n_stringslite_HasSuffix [.s 5,.s 6],.mv 4 (.s 7)]) (.ret))
def rs:List RV:=[.t 4]
attribute [push_cast] nd body
theorem ok:okF prog n_strings_HasSuffix nd body 2 rs = true:=by kernel_rfl
end strings_HasSuffix
end Go.Dw
end
section
namespace Go.Dw
variable {s:List K} {B:Nat} {t:T} {H:List Ob} {Q:X→T→List Ob→Prop}
namespace slices_IndexFunc_s_Rule_Rule
def nd:Nat→C
 | 0=>.seq (.reg [.mv 4 (.i (-1))]) (.ret)
 | 1=>.gh [.ks 0 [0,1,7,8]] (.m 3)
 | 2=>.seq (.blk 1 (.seq (.reg [.mv 10 (.s 8),.mv 5 (.s 10)]) (.seq (.reg [.mv 11 (.s 1),.mv 12 (.s 0),.mv 13 (.s 5),.ia 14 6 (.s 12) (.s 13),.la 15 6 (.s 14),.callvp (some 16) (.s 11) [.s 15]]) (.cond (.s 16) (.seq (.reg [.mv 17 (.s 5),.mv 4 (.s 17)]) (.ret)) (.skip))))) (.reg [.bin 18 .add (.s 8) (.i 1),.mv 8 (.s 18)])
 | 3=>.seq (.reg [.bin 9 .lss (.s 8) (.s 7)]) (.seq (.cond (.s 9) (.skip) (.exit 0)) (.n 2))
 | _=>.skip
def body:C:=.seq (.reg [.mv 4 (.i 0)]) (.seq (.seq (.reg [.mv 6 (.s 0),.len 7 (.s 6),.mv 8 (.i 0)]) (.blk 0 (.loop (.n 1)))) (.n 0))
def rs:List RV:=[.t 4]
attribute [push_cast] nd body
theorem ok:okF prog n_slices_IndexFunc_s_Rule_Rule nd body 2 rs = true:=by kernel_rfl
abbrev L3 (v0 v1 v7 v8:V) (B:Nat) (H:List Ob) (Q:X→T→List Ob→Prop):Prop:=Run prog nd B [.c (.m 3),.c (.loop (.n 1)),.mk 0,.c (.n 0)] [(0,v0),(1,v1),(7,v7),(8,v8)] H Q
theorem G3 (h:Run prog nd B (.c (nd 3) :: s) t H Q):Run prog nd B (.c (.m 3) :: s) t H Q:=run_m.2 h
end slices_IndexFunc_s_Rule_Rule
namespace term_extra_1
def nd (_:Nat):C:=.skip
def body:C:=.seq (.reg [.mv 3 (.c (.bool false))]) (.seq (.reg [.ld 4 (.s 1),.mv 5 (.s 0),.callp (some 6) n_slices_Contains_s_string_string [.s 4,.s 5],.un 7 .not (.s 6),.mv 3 (.s 7)]) (.ret))
def rs:List RV:=[.t 3]
attribute [push_cast] nd body
theorem ok:okF prog n_term_extra_1 nd body 2 rs = true:=by kernel_rfl
end term_extra_1
namespace slices_Contains_s_string_string
def nd (_:Nat):C:=.skip
def body:C:=.seq (.reg [.mv 4 (.c (.bool false))]) (.seq (.reg [.mv 5 (.s 0),.mv 6 (.s 1),.callp (some 7) n_slices_Index_s_string_string [.s 5,.s 6],.bin 8 .geq (.s 7) (.i 0),.mv 4 (.s 8)]) (.ret))
def rs:List RV:=[.t 4]
attribute [push_cast] nd body
theorem ok:okF prog n_slices_Contains_s_string_string nd body 2 rs = true:=by kernel_rfl
end slices_Contains_s_string_string
namespace slices_IndexFunc_s_Multi_Multi
def nd:Nat→C
 | 0=>.seq (.reg [.mv 4 (.i (-1))]) (.ret)
 | 1=>.gh [.ks 0 [0,1,7,8]] (.m 3)
 | 2=>.seq (.blk 1 (.seq (.reg [.mv 10 (.s 8),.mv 5 (.s 10)]) (.seq (.reg [.mv 11 (.s 1),.mv 12 (.s 0),.mv 13 (.s 5),.ia 14 4 (.s 12) (.s 13),.la 15 4 (.s 14),.callvp (some 16) (.s 11) [.s 15]]) (.cond (.s 16) (.seq (.reg [.mv 17 (.s 5),.mv 4 (.s 17)]) (.ret)) (.skip))))) (.reg [.bin 18 .add (.s 8) (.i 1),.mv 8 (.s 18)])
 | 3=>.seq (.reg [.bin 9 .lss (.s 8) (.s 7)]) (.seq (.cond (.s 9) (.skip) (.exit 0)) (.n 2))
 | _=>.skip
def body:C:=.seq (.reg [.mv 4 (.i 0)]) (.seq (.seq (.reg [.mv 6 (.s 0),.len 7 (.s 6),.mv 8 (.i 0)]) (.blk 0 (.loop (.n 1)))) (.n 0))
def rs:List RV:=[.t 4]
attribute [push_cast] nd body
theorem ok:okF prog n_slices_IndexFunc_s_Multi_Multi nd body 2 rs = true:=by kernel_rfl
abbrev L3 (v0 v1 v7 v8:V) (B:Nat) (H:List Ob) (Q:X→T→List Ob→Prop):Prop:=Run prog nd B [.c (.m 3),.c (.loop (.n 1)),.mk 0,.c (.n 0)] [(0,v0),(1,v1),(7,v7),(8,v8)] H Q
theorem G3 (h:Run prog nd B (.c (nd 3) :: s) t H Q):Run prog nd B (.c (.m 3) :: s) t H Q:=run_m.2 h
end slices_IndexFunc_s_Multi_Multi
namespace strings_TrimSuffix
def nd (_:Nat):C:=.skip
def body:C:=.seq (.reg [.mv 4 (.c (.str []))]) (.seq (.reg [.mv 5 (.s 0),.mv 6 (.s 1),.callp (some 7) n_stringslite_TrimSuffix [.s 5,.s 6],.mv 4 (.s 7)]) (.ret))
def rs:List RV:=[.t 4]
attribute [push_cast] nd body
theorem ok:okF prog n_strings_TrimSuffix nd body 2 rs = true:=by kernel_rfl
end strings_TrimSuffix
namespace slices_ContainsFunc_s_byte_byte
def nd (_:Nat):C:=.skip
def body:C:=.seq (.reg [.mv 4 (.c (.bool false))]) (.seq (.reg [.mv 5 (.s 0),.mv 6 (.s 1),.callp (some 7) n_slices_IndexFunc_s_byte_byte [.s 5,.s 6],.bin 8 .geq (.s 7) (.i 0),.mv 4 (.s 8)]) (.ret))
def rs:List RV:=[.t 4]
attribute [push_cast] nd body
theorem ok:okF prog n_slices_ContainsFunc_s_byte_byte nd body 2 rs = true:=by kernel_rfl
end slices_ContainsFunc_s_byte_byte
namespace term_IsName_1
def nd (_:Nat):C:=.skip
def body:C:=.seq (.reg [.mv 2 (.c (.bool false))]) (.seq (.reg [.mv 3 (.s 0),.callp (some 4) n_term_inName [.s 3],.un 5 .not (.s 4),.mv 2 (.s 5)]) (.ret))
def rs:List RV:=[.t 2]
attribute [push_cast] nd body
theorem ok:okF prog n_term_IsName_1 nd body 1 rs = true:=by kernel_rfl
end term_IsName_1
namespace term_inName
def nd (_:Nat):C:=.skip
def body:C:=.seq (.reg [.mv 2 (.c (.bool false))]) (.seq (.reg [.mv 3 (.s 0),.bin 4 .geq (.s 3) (.c (.int .u8 97)),.mv 5 (.s 4),.gd (.s 5) true [6,7] [.mv 6 (.s 0),.bin 7 .leq (.s 6) (.c (.int .u8 122))],.pick 8 (.s 5) (.s 7) (.c (.bool false)),.mv 9 (.s 8),.gd (.s 9) false [10,11,12] [.mv 10 (.s 0),.bin 11 .geq (.s 10) (.c (.int .u8 65)),.mv 12 (.s 11)],.gd (.s 12) true [13,14] [.mv 13 (.s 0),.bin 14 .leq (.s 13) (.c (.int .u8 90))],.gd (.s 9) false [15] [.pick 15 (.s 12) (.s 14) (.c (.bool false))],.pick 16 (.s 9) (.c (.bool true)) (.s 15),.mv 17 (.s 16),.gd (.s 17) false [18,19,20] [.mv 18 (.s 0),.bin 19 .geq (.s 18) (.c (.int .u8 48)),.mv 20 (.s 19)],.gd (.s 20) true [21,22] [.mv 21 (.s 0),.bin 22 .leq (.s 21) (.c (.int .u8 57))],.gd (.s 17) false [23] [.pick 23 (.s 20) (.s 22) (.c (.bool false))],.pick 24 (.s 17) (.c (.bool true)) (.s 23),.mv 25 (.s 24),.gd (.s 25) false [26,27] [.mv 26 (.s 0),.bin 27 .eql (.s 26) (.c (.int .u8 95))],.pick 28 (.s 25) (.c (.bool true)) (.s 27),.mv 29 (.s 28),.gd (.s 29) false [30,31] [.mv 30 (.s 0),.bin 31 .eql (.s 30) (.c (.int .u8 39))],.pick 32 (.s 29) (.c (.bool true)) (.s 31),.mv 2 (.s 32)]) (.ret))
def rs:List RV:=[.t 2]
attribute [push_cast] nd body
theorem ok:okF prog n_term_inName nd body 1 rs = true:=by kernel_rfl
end term_inName
namespace multi_plug
def nd:Nat→C
 | 0=>.seq (.reg [.la 39 3 (.s 7),.st 3 (.s 6) (.s 39)]) (.ret)
 | 1=>.gh [.ks 3 [1,2,6,7,23,24,25]] (.m 3)
 | 2=>.seq (.blk 1 (.seq (.reg [.ia 27 3 (.s 23) (.s 25),.la 28 3 (.s 27),.al 9 t_Term [.str [],.bool false,.sl 3 []],.sf 9 3 (.s 28)]) (.dr [0,1,2,3,4,5,6,7,8,9] [.fa 29 2 (.s 7),.ld 30 (.s 29),.la 31 3 (.s 9),.mv 32 (.s 1),.mv 33 (.s 2),.callp (some 34) n_multi_plug [.s 31,.s 32,.s 33],.bs 35 3 [.s 34],.app 36 t_Term 3 48 (.s 30) (.s 35),.fa 37 2 (.s 7),.st 1 (.s 37) (.s 36)]))) (.reg [.bin 38 .add (.s 25) (.i 1),.mv 25 (.s 38)])
 | 3=>.seq (.reg [.bin 26 .lss (.s 25) (.s 24)]) (.seq (.cond (.s 26) (.skip) (.exit 0)) (.n 2))
 | 4=>.seq (.reg [.fa 19 0 (.s 3),.ld 20 (.s 19),.bd 21 [.str [],.bool false,.nil] [(0,1,(.s 20))],.al 7 t_Term [.str [],.bool false,.nil],.st 3 (.s 7) (.s 21),.ono t_Term 3 2 (.s 7)]) (.seq (.seq (.reg [.fa 22 2 (.s 3),.ld 23 (.s 22),.len 24 (.s 23),.mv 25 (.i 0)]) (.blk 0 (.loop (.n 1)))) (.n 0))
 | _=>.skip
def body:C:=.seq (.reg [.br 3 t_Term (.s 0),.al 6 t_Term [.str [],.bool false,.sl 3 []]]) (.seq (.seq (.reg [.fa 10 1 (.s 3),.ld 11 (.s 10)]) (.cond (.s 11) (.seq (.reg [.mv 12 (.s 2),.mv 13 (.s 1),.fa 14 0 (.s 3),.ld 15 (.s 14),.callp (some 16) n_slices_Index_s_string_string [.s 13,.s 15],.ia 17 3 (.s 12) (.s 16),.la 18 3 (.s 17),.st 3 (.s 6) (.s 18)]) (.ret)) (.skip))) (.n 4))
def rs:List RV:=[.a 6 3]
attribute [push_cast] nd body
theorem ok:okF prog n_multi_plug nd body 3 rs = true:=by kernel_rfl
abbrev L3 (v1 v2 v6 v7 v23 v24 v25:V) (B:Nat) (H:List Ob) (Q:X→T→List Ob→Prop):Prop:=Run prog nd B [.c (.m 3),.c (.loop (.n 1)),.mk 0,.c (.n 0)] [(1,v1),(2,v2),(6,v6),(7,v7),(23,v23),(24,v24),(25,v25)] H Q
theorem G3 (h:Run prog nd B (.c (nd 3) :: s) t H Q):Run prog nd B (.c (.m 3) :: s) t H Q:=run_m.2 h
end multi_plug
namespace multi_large_1
def nd (_:Nat):C:=.skip
def body:C:=.seq (.reg [.br 3 t_Term (.s 0),.mv 4 (.c (.bool false))]) (.seq (.reg [.ld 5 (.s 1),.bin 6 .sub (.s 5) (.i 1),.st 1 (.s 1) (.s 6)]) (.seq (.reg [.ld 7 (.s 1),.bin 8 .lss (.s 7) (.i 0),.mv 9 (.s 8),.gd (.s 9) false [10,11,12,13] [.fa 10 2 (.s 3),.ld 11 (.s 10),.ld 12 (.s 2),.call (some 13) n_slices_ContainsFunc_s_Term_Term [.s 11,.s 12]],.pick 14 (.s 9) (.c (.bool true)) (.s 13),.mv 4 (.s 14)]) (.ret)))
def rs:List RV:=[.t 4]
attribute [push_cast] nd body
theorem ok:okF prog n_multi_large_1 nd body 3 rs = true:=by kernel_rfl
end multi_large_1
namespace slices_ContainsFunc_s_Term_Term
def nd (_:Nat):C:=.skip
def body:C:=.seq (.reg [.mv 4 (.c (.bool false))]) (.seq (.reg [.mv 5 (.s 0),.mv 6 (.s 1),.callp (some 7) n_slices_IndexFunc_s_Term_Term [.s 5,.s 6],.bin 8 .geq (.s 7) (.i 0),.mv 4 (.s 8)]) (.ret))
def rs:List RV:=[.t 4]
attribute [push_cast] nd body
theorem ok:okF prog n_slices_ContainsFunc_s_Term_Term nd body 2 rs = true:=by kernel_rfl
end slices_ContainsFunc_s_Term_Term
namespace multi_own
def nd:Nat→C
 | 0=>.seq (.reg [.la 23 4 (.s 1),.st 4 (.s 2) (.s 23)]) (.ret)
 | 1=>.gh [.ks 3 [1,2,9,10,11]] (.m 3)
 | 2=>.seq (.blk 1 (.seq (.reg [.ia 13 4 (.s 9) (.s 11),.la 14 4 (.s 13),.al 5 t_Multi [.int .i64 0,.str [],.bool false,.sl 4 []],.sf 5 4 (.s 14)]) (.dr [0,1,2,3,4,5,6,7] [.fa 15 3 (.s 1),.ld 16 (.s 15),.la 17 4 (.s 5),.callp (some 18) n_multi_own [.s 17],.bs 19 4 [.s 18],.app 20 t_Multi 4 56 (.s 16) (.s 19),.fa 21 3 (.s 1),.st 1 (.s 21) (.s 20)]))) (.reg [.bin 22 .add (.s 11) (.i 1),.mv 11 (.s 22)])
 | 3=>.seq (.reg [.bin 12 .lss (.s 11) (.s 10)]) (.seq (.cond (.s 12) (.skip) (.exit 0)) (.n 2))
 | _=>.skip
def body:C:=.seq (.reg [.bx 1 t_Multi (.s 0),.al 2 t_Multi [.int .i64 0,.str [],.bool false,.sl 4 []]]) (.seq (.reg [.fa 6 3 (.s 1),.ld 7 (.s 6),.mv 3 (.s 7)]) (.seq (.reg [.fa 8 3 (.s 1),.st 1 (.s 8) (.c .nil),.ono t_Multi 4 0 (.s 8)]) (.seq (.seq (.reg [.mv 9 (.s 3),.len 10 (.s 9),.mv 11 (.i 0)]) (.blk 0 (.loop (.n 1)))) (.n 0))))
def rs:List RV:=[.a 2 4]
attribute [push_cast] nd body
theorem ok:okF prog n_multi_own nd body 1 rs = true:=by kernel_rfl
abbrev L3 (v1 v2 v9 v10 v11:V) (B:Nat) (H:List Ob) (Q:X→T→List Ob→Prop):Prop:=Run prog nd B [.c (.m 3),.c (.loop (.n 1)),.mk 0,.c (.n 0)] [(1,v1),(2,v2),(9,v9),(10,v10),(11,v11)] H Q
theorem G3 (h:Run prog nd B (.c (nd 3) :: s) t H Q):Run prog nd B (.c (.m 3) :: s) t H Q:=run_m.2 h
end multi_own
namespace slices_Clone_s_Multi_Multi
def nd:Nat→C
 | 0=>.seq (.reg [.bo 5 t_Multi 4 [],.op (.e2r 5),.mv 6 (.s 0),.apr 7 t_Multi 4 56 (.s 5) (.s 6),.mv 2 (.s 7)]) (.ret)
 | _=>.skip
def body:C:=.seq (.reg [.mv 2 (.c .nil),.rnon 2 t_Multi 4]) (.seq (.seq (.reg [.mv 3 (.s 0),.nl 4 false (.s 3)]) (.cond (.s 4) (.seq (.reg [.mv 2 (.c .nil),.rnon 2 t_Multi 4]) (.ret)) (.skip))) (.n 0))
def rs:List RV:=[.t 2]
attribute [push_cast] nd body
theorem ok:okF prog n_slices_Clone_s_Multi_Multi nd body 1 rs = true:=by kernel_rfl
end slices_Clone_s_Multi_Multi
namespace multi_Plug
def nd:Nat→C
 | 0=>.seq (.reg [.la 39 4 (.s 7),.st 4 (.s 6) (.s 39)]) (.ret)
 | 1=>.gh [.ks 3 [1,2,6,7,23,24,25]] (.m 3)
 | 2=>.seq (.blk 1 (.seq (.reg [.ia 27 3 (.s 23) (.s 25),.la 28 3 (.s 27),.al 9 t_Term [.str [],.bool false,.sl 3 []],.sf 9 3 (.s 28)]) (.dr [0,1,2,3,4,5,6,7,8,9] [.fa 29 3 (.s 7),.ld 30 (.s 29),.la 31 3 (.s 9),.mv 32 (.s 1),.mv 33 (.s 2),.callp (some 34) n_multi_Plug [.s 31,.s 32,.s 33],.bs 35 4 [.s 34],.app 36 t_Multi 4 56 (.s 30) (.s 35),.fa 37 3 (.s 7),.st 1 (.s 37) (.s 36)]))) (.reg [.bin 38 .add (.s 25) (.i 1),.mv 25 (.s 38)])
 | 3=>.seq (.reg [.bin 26 .lss (.s 25) (.s 24)]) (.seq (.cond (.s 26) (.skip) (.exit 0)) (.n 2))
 | 4=>.seq (.reg [.fa 19 0 (.s 3),.ld 20 (.s 19),.bd 21 [.int .i64 0,.str [],.bool false,.nil] [(1,1,(.s 20))],.al 7 t_Multi [.int .i64 0,.str [],.bool false,.nil],.st 4 (.s 7) (.s 21),.ono t_Multi 4 3 (.s 7)]) (.seq (.seq (.reg [.fa 22 2 (.s 3),.ld 23 (.s 22),.len 24 (.s 23),.mv 25 (.i 0)]) (.blk 0 (.loop (.n 1)))) (.n 0))
 | _=>.skip
def body:C:=.seq (.reg [.br 3 t_Term (.s 0),.al 6 t_Multi [.int .i64 0,.str [],.bool false,.sl 4 []]]) (.seq (.seq (.reg [.fa 10 1 (.s 3),.ld 11 (.s 10)]) (.cond (.s 11) (.seq (.reg [.mv 12 (.s 2),.mv 13 (.s 1),.fa 14 0 (.s 3),.ld 15 (.s 14),.callp (some 16) n_slices_Index_s_string_string [.s 13,.s 15],.ia 17 4 (.s 12) (.s 16),.la 18 4 (.s 17),.st 4 (.s 6) (.s 18)]) (.ret)) (.skip))) (.n 4))
def rs:List RV:=[.a 6 4]
attribute [push_cast] nd body
theorem ok:okF prog n_multi_Plug nd body 3 rs = true:=by kernel_rfl
abbrev L3 (v1 v2 v6 v7 v23 v24 v25:V) (B:Nat) (H:List Ob) (Q:X→T→List Ob→Prop):Prop:=Run prog nd B [.c (.m 3),.c (.loop (.n 1)),.mk 0,.c (.n 0)] [(1,v1),(2,v2),(6,v6),(7,v7),(23,v23),(24,v24),(25,v25)] H Q
theorem G3 (h:Run prog nd B (.c (nd 3) :: s) t H Q):Run prog nd B (.c (.m 3) :: s) t H Q:=run_m.2 h
end multi_Plug
namespace term_formed_1
def nd (_:Nat):C:=.skip
def body:C:=.seq (.reg [.br 1 t_Term (.s 0),.mv 2 (.c (.bool false))]) (.seq (.reg [.la 3 3 (.s 1),.callp (some 4) n_term_formed [.s 3],.un 5 .not (.s 4),.mv 2 (.s 5)]) (.ret))
def rs:List RV:=[.t 2]
attribute [push_cast] nd body
theorem ok:okF prog n_term_formed_1 nd body 1 rs = true:=by kernel_rfl
end term_formed_1
namespace term_Size
def nd:Nat→C
 | 0=>.seq (.reg [.mv 18 (.s 3),.mv 2 (.s 18)]) (.ret)
 | 1=>.gh [.ks 0 [3,7,8,9]] (.m 3)
 | 2=>.seq (.blk 1 (.seq (.reg [.ia 11 3 (.s 7) (.s 9),.la 12 3 (.s 11),.al 5 t_Term [.str [],.bool false,.sl 3 []],.sf 5 3 (.s 12)]) (.reg [.mv 13 (.s 3),.la 14 3 (.s 5),.callp (some 15) n_term_Size [.s 14],.bin 16 .add (.s 13) (.s 15),.mv 3 (.s 16)]))) (.reg [.bin 17 .add (.s 9) (.i 1),.mv 9 (.s 17)])
 | 3=>.seq (.reg [.bin 10 .lss (.s 9) (.s 8)]) (.seq (.cond (.s 10) (.skip) (.exit 0)) (.n 2))
 | _=>.skip
def body:C:=.seq (.reg [.br 1 t_Term (.s 0),.mv 2 (.i 0)]) (.seq (.reg [.mv 3 (.i 1)]) (.seq (.seq (.reg [.fa 6 2 (.s 1),.ld 7 (.s 6),.len 8 (.s 7),.mv 9 (.i 0)]) (.blk 0 (.loop (.n 1)))) (.n 0)))
def rs:List RV:=[.t 2]
attribute [push_cast] nd body
theorem ok:okF prog n_term_Size nd body 1 rs = true:=by kernel_rfl
abbrev L3 (v3 v7 v8 v9:V) (B:Nat) (H:List Ob) (Q:X→T→List Ob→Prop):Prop:=Run prog nd B [.c (.m 3),.c (.loop (.n 1)),.mk 0,.c (.n 0)] [(3,v3),(7,v7),(8,v8),(9,v9)] H Q
theorem G3 (h:Run prog nd B (.c (nd 3) :: s) t H Q):Run prog nd B (.c (.m 3) :: s) t H Q:=run_m.2 h
end term_Size
namespace term_Depth
def nd:Nat→C
 | 0=>.seq (.reg [.mv 18 (.s 3),.bin 19 .add (.s 18) (.i 1),.mv 2 (.s 19)]) (.ret)
 | 1=>.gh [.ks 0 [3,7,8,9]] (.m 3)
 | 2=>.seq (.blk 1 (.seq (.reg [.ia 11 3 (.s 7) (.s 9),.la 12 3 (.s 11),.al 5 t_Term [.str [],.bool false,.sl 3 []],.sf 5 3 (.s 12)]) (.reg [.mv 13 (.s 3),.la 14 3 (.s 5),.callp (some 15) n_term_Depth [.s 14],.mx 16 (.s 13) (.s 15),.mv 3 (.s 16)]))) (.reg [.bin 17 .add (.s 9) (.i 1),.mv 9 (.s 17)])
 | 3=>.seq (.reg [.bin 10 .lss (.s 9) (.s 8)]) (.seq (.cond (.s 10) (.skip) (.exit 0)) (.n 2))
 | _=>.skip
def body:C:=.seq (.reg [.br 1 t_Term (.s 0),.mv 2 (.i 0)]) (.seq (.reg [.mv 3 (.i 0)]) (.seq (.seq (.reg [.fa 6 2 (.s 1),.ld 7 (.s 6),.len 8 (.s 7),.mv 9 (.i 0)]) (.blk 0 (.loop (.n 1)))) (.n 0)))
def rs:List RV:=[.t 2]
attribute [push_cast] nd body
theorem ok:okF prog n_term_Depth nd body 1 rs = true:=by kernel_rfl
abbrev L3 (v3 v7 v8 v9:V) (B:Nat) (H:List Ob) (Q:X→T→List Ob→Prop):Prop:=Run prog nd B [.c (.m 3),.c (.loop (.n 1)),.mk 0,.c (.n 0)] [(3,v3),(7,v7),(8,v8),(9,v9)] H Q
theorem G3 (h:Run prog nd B (.c (nd 3) :: s) t H Q):Run prog nd B (.c (.m 3) :: s) t H Q:=run_m.2 h
end term_Depth
namespace slices_IndexFunc_s_string_string
def nd:Nat→C
 | 0=>.seq (.reg [.mv 4 (.i (-1))]) (.ret)
 | 1=>.gh [.ks 0 [0,1,7,8]] (.m 3)
 | 2=>.seq (.blk 1 (.seq (.reg [.mv 10 (.s 8),.mv 5 (.s 10)]) (.seq (.reg [.mv 11 (.s 1),.mv 12 (.s 0),.mv 13 (.s 5),.ia 14 1 (.s 12) (.s 13),.ld 15 (.s 14),.callvp (some 16) (.s 11) [.s 15]]) (.cond (.s 16) (.seq (.reg [.mv 17 (.s 5),.mv 4 (.s 17)]) (.ret)) (.skip))))) (.reg [.bin 18 .add (.s 8) (.i 1),.mv 8 (.s 18)])
 | 3=>.seq (.reg [.bin 9 .lss (.s 8) (.s 7)]) (.seq (.cond (.s 9) (.skip) (.exit 0)) (.n 2))
 | _=>.skip
def body:C:=.seq (.reg [.mv 4 (.i 0)]) (.seq (.seq (.reg [.mv 6 (.s 0),.len 7 (.s 6),.mv 8 (.i 0)]) (.blk 0 (.loop (.n 1)))) (.n 0))
def rs:List RV:=[.t 4]
attribute [push_cast] nd body
theorem ok:okF prog n_slices_IndexFunc_s_string_string nd body 2 rs = true:=by kernel_rfl
abbrev L3 (v0 v1 v7 v8:V) (B:Nat) (H:List Ob) (Q:X→T→List Ob→Prop):Prop:=Run prog nd B [.c (.m 3),.c (.loop (.n 1)),.mk 0,.c (.n 0)] [(0,v0),(1,v1),(7,v7),(8,v8)] H Q
theorem G3 (h:Run prog nd B (.c (nd 3) :: s) t H Q):Run prog nd B (.c (.m 3) :: s) t H Q:=run_m.2 h
end slices_IndexFunc_s_string_string
namespace slices_insertionSortCmpFunc_Step
def nd:Nat→C
 | 0=>.gh [.ks 0 [0,1,2,3,8]] (.m 5)
 | 1=>.gh [.ks 0 [0,1,2,3,8,9]] (.m 3)
 | 2=>.seq (.blk 3 (.dr [0,1,2,3,4,5,6,7,8,9,10,11,12,13,14,15,16,17] [.mv 37 (.s 0),.mv 38 (.s 9),.mv 39 (.s 0),.mv 40 (.s 9),.bin 41 .sub (.s 40) (.i 1),.mv 42 (.s 0),.mv 43 (.s 9),.bin 44 .sub (.s 43) (.i 1),.ia 45 2 (.s 42) (.s 44),.la 46 2 (.s 45),.mv 47 (.s 0),.mv 48 (.s 9),.ia 49 2 (.s 47) (.s 48),.la 50 2 (.s 49),.ia 51 2 (.s 37) (.s 38),.st 2 (.s 51) (.s 46),.ia 52 2 (.s 39) (.s 41),.st 2 (.s 52) (.s 50)])) (.reg [.mv 35 (.s 9),.bin 36 .sub (.s 35) (.i 1),.mv 9 (.s 36)])
 | 3=>.seq (.seq (.dr [0,1,2,3,4,5,6,7,8,9,10,11,12,13,14,15,16] [.mv 18 (.s 9),.mv 19 (.s 1),.bin 20 .gtr (.s 18) (.s 19),.mv 21 (.s 20),.gd (.s 21) true [22] [.mv 22 (.s 3)],.gd (.s 21) true [23] [.mv 23 (.s 0)],.gd (.s 21) true [24] [.mv 24 (.s 9)],.gd (.s 21) true [25] [.ia 25 2 (.s 23) (.s 24)],.gd (.s 21) true [26] [.la 26 2 (.s 25)],.gd (.s 21) true [27] [.mv 27 (.s 0)],.gd (.s 21) true [28] [.mv 28 (.s 9)],.gd (.s 21) true [29] [.bin 29 .sub (.s 28) (.i 1)],.gd (.s 21) true [30] [.ia 30 2 (.s 27) (.s 29)],.gd (.s 21) true [31] [.la 31 2 (.s 30)],.gd (.s 21) true [32] [.callvp (some 32) (.s 22) [.s 26,.s 31]],.gd (.s 21) true [33] [.bin 33 .lss (.s 32) (.i 0)],.pick 34 (.s 21) (.s 33) (.c (.bool false))]) (.cond (.s 34) (.skip) (.exit 2))) (.n 2)
 | 4=>.seq (.blk 1 (.seq (.reg [.mv 17 (.s 8),.mv 9 (.s 17)]) (.blk 2 (.loop (.n 1))))) (.reg [.mv 15 (.s 8),.bin 16 .add (.s 15) (.i 1),.mv 8 (.s 16)])
 | 5=>.seq (.seq (.reg [.mv 12 (.s 8),.mv 13 (.s 2),.bin 14 .lss (.s 12) (.s 13)]) (.cond (.s 14) (.skip) (.exit 0))) (.n 4)
 | _=>.skip
def body:C:=.seq (.reg [.mv 10 (.s 1),.bin 11 .add (.s 10) (.i 1),.mv 8 (.s 11)]) (.blk 0 (.loop (.n 0)))
def rs:List RV:=[]
attribute [push_cast] nd body
theorem ok:okF prog n_slices_insertionSortCmpFunc_Step nd body 4 rs = true:=by kernel_rfl
abbrev L3 (v0 v1 v2 v3 v8 v9:V) (B:Nat) (H:List Ob) (Q:X→T→List Ob→Prop):Prop:=Run prog nd B [.c (.m 3),.c (.loop (.n 1)),.mk 2,.mk 1,.c (.reg [.mv 15 (.s 8),.bin 16 .add (.s 15) (.i 1),.mv 8 (.s 16)]),.c (.loop (.n 0)),.mk 0] [(0,v0),(1,v1),(2,v2),(3,v3),(8,v8),(9,v9)] H Q
theorem G3 (h:Run prog nd B (.c (nd 3) :: s) t H Q):Run prog nd B (.c (.m 3) :: s) t H Q:=run_m.2 h
abbrev L5 (v0 v1 v2 v3 v8:V) (B:Nat) (H:List Ob) (Q:X→T→List Ob→Prop):Prop:=Run prog nd B [.c (.m 5),.c (.loop (.n 0)),.mk 0] [(0,v0),(1,v1),(2,v2),(3,v3),(8,v8)] H Q
theorem G5 (h:Run prog nd B (.c (nd 5) :: s) t H Q):Run prog nd B (.c (.m 5) :: s) t H Q:=run_m.2 h
end slices_insertionSortCmpFunc_Step
namespace cmp_isNaN_int
def nd (_:Nat):C:=.skip
def body:C:=.seq (.reg [.mv 2 (.c (.bool false))]) (.seq (.reg [.mv 3 (.s 0),.mv 4 (.s 0),.bin 5 .neq (.s 3) (.s 4),.mv 2 (.s 5)]) (.ret))
def rs:List RV:=[.t 2]
attribute [push_cast] nd body
theorem ok:okF prog n_cmp_isNaN_int nd body 1 rs = true:=by kernel_rfl
end cmp_isNaN_int
namespace term_Sub
def nd:Nat→C
 | 0=>.seq (.reg [.la 30 3 (.s 2),.st 3 (.s 4) (.s 30),.mv 5 (.c (.bool true))]) (.ret)
 | 1=>.gh [.ks 2 [2,4,8,9,10]] (.m 3)
 | 2=>.seq (.blk 1 (.seq (.reg [.ia 12 1 (.s 8) (.s 10),.ld 13 (.s 12),.mv 7 (.s 13)]) (.seq (.seq (.reg [.mv 14 (.s 7),.bin 15 .lss (.s 14) (.i 0),.mv 16 (.s 15),.gd (.s 16) false [17,18,19,20,21] [.mv 17 (.s 7),.fa 18 2 (.s 2),.ld 19 (.s 18),.len 20 (.s 19),.bin 21 .geq (.s 17) (.s 20)],.pick 22 (.s 16) (.c (.bool true)) (.s 21)]) (.cond (.s 22) (.seq (.reg [.bd 23 [.str [],.bool false,.sl 3 []] [],.st 3 (.s 4) (.s 23),.mv 5 (.c (.bool false))]) (.ret)) (.skip))) (.reg [.fa 24 2 (.s 2),.ld 25 (.s 24),.mv 26 (.s 7),.ia 27 3 (.s 25) (.s 26),.la 28 3 (.s 27),.st 3 (.s 2) (.s 28)])))) (.reg [.bin 29 .add (.s 10) (.i 1),.mv 10 (.s 29)])
 | 3=>.seq (.reg [.bin 11 .lss (.s 10) (.s 9)]) (.seq (.cond (.s 11) (.skip) (.exit 0)) (.n 2))
 | _=>.skip
def body:C:=.seq (.reg [.bx 2 t_Term (.s 0),.al 4 t_Term [.str [],.bool false,.sl 3 []],.mv 5 (.c (.bool false))]) (.seq (.seq (.reg [.mv 8 (.s 1),.len 9 (.s 8),.mv 10 (.i 0)]) (.blk 0 (.loop (.n 1)))) (.n 0))
def rs:List RV:=[.a 4 3,.t 5]
attribute [push_cast] nd body
theorem ok:okF prog n_term_Sub nd body 2 rs = true:=by kernel_rfl
abbrev L3 (v2 v4 v8 v9 v10:V) (B:Nat) (H:List Ob) (Q:X→T→List Ob→Prop):Prop:=Run prog nd B [.c (.m 3),.c (.loop (.n 1)),.mk 0,.c (.n 0)] [(2,v2),(4,v4),(8,v8),(9,v9),(10,v10)] H Q
theorem G3 (h:Run prog nd B (.c (nd 3) :: s) t H Q):Run prog nd B (.c (.m 3) :: s) t H Q:=run_m.2 h
end term_Sub
namespace unify_Find
def nd (_:Nat):C:=.skip
def body:C:=.seq (.reg [.br 2 t_Term (.s 0),.br 3 t_Term (.s 1),.mv 4 (.c (.sl 4 [])),.mv 5 (.c (.bool false))]) (.seq (.reg [.al 6 t_unify_matcher [.nil],.rono t_Bind 4 0 (.s 6)]) (.seq (.reg [.la 8 3 (.s 2),.la 9 3 (.s 3),.call (some 10) n_unify_matcher_match [.s 6,.s 8,.s 9],.mv 7 (.s 10)]) (.seq (.reg [.fa 11 0 (.s 6),.ld 12 (.s 11),.frz 12,.mv 13 (.s 7),.mv 4 (.s 12),.mv 5 (.s 13)]) (.ret))))
def rs:List RV:=[.t 4,.t 5]
attribute [push_cast] nd body
theorem ok:okF prog n_unify_Find nd body 2 rs = true:=by kernel_rfl
end unify_Find
namespace term_measure
def nd:Nat→C
 | 0=>.seq (.reg [.fa 51 1 (.s 7),.ld 52 (.s 51),.bin 53 .add (.s 52) (.i 1),.fa 54 1 (.s 7),.st 1 (.s 54) (.s 53)]) (.seq (.reg [.la 55 2 (.s 7),.st 2 (.s 4) (.s 55)]) (.ret))
 | 1=>.gh [.ks 2 [0,4,7,29,30,31]] (.m 3)
 | 2=>.seq (.blk 1 (.seq (.reg [.ia 33 3 (.s 29) (.s 31),.la 34 3 (.s 33),.al 9 t_Term [.str [],.bool false,.sl 3 []],.sf 9 3 (.s 34)]) (.seq (.reg [.mv 35 (.s 0),.la 36 3 (.s 9),.callp (some 37) n_term_measure [.s 35,.s 36],.al 10 t_term_meter [.int .i64 0,.int .i64 0],.sf 10 2 (.s 37)]) (.dr [0,1,2,3,4,5,6,7,10] [.fa 38 0 (.s 7),.ld 39 (.s 38),.fa 40 0 (.s 10),.ld 41 (.s 40),.bin 42 .add (.s 39) (.s 41),.fa 43 1 (.s 7),.ld 44 (.s 43),.fa 45 1 (.s 10),.fa 48 0 (.s 7),.alt [([8,9,11,12,13],[.ld 46 (.s 45),.mx 47 (.s 44) (.s 46),.st 1 (.s 48) (.s 42),.fa 49 1 (.s 7),.st 1 (.s 49) (.s 47)]),([11,8,9,12,13],[.st 1 (.s 48) (.s 42),.ld 46 (.s 45),.mx 47 (.s 44) (.s 46),.fa 49 1 (.s 7),.st 1 (.s 49) (.s 47)])]])))) (.reg [.bin 50 .add (.s 31) (.i 1),.mv 31 (.s 50)])
 | 3=>.seq (.reg [.bin 32 .lss (.s 31) (.s 30)]) (.seq (.cond (.s 32) (.skip) (.exit 0)) (.n 2))
 | 4=>.seq (.reg [.bd 27 [.int .i64 0,.int .i64 0] [(0,1,(.i 1)),(1,1,(.i 0))],.al 7 t_term_meter [.int .i64 0,.int .i64 0],.st 2 (.s 7) (.s 27)]) (.seq (.seq (.reg [.fa 28 2 (.s 3),.ld 29 (.s 28),.len 30 (.s 29),.mv 31 (.i 0)]) (.blk 0 (.loop (.n 1)))) (.n 0))
 | 5=>.seq (.reg [.bd 26 [.int .i64 0,.int .i64 0] [(0,1,(.i 1)),(1,1,(.i 1))],.st 2 (.s 4) (.s 26)]) (.ret)
 | _=>.skip
def body:C:=.seq (.reg [.br 3 t_Term (.s 1),.al 4 t_term_meter [.int .i64 0,.int .i64 0]]) (.seq (.seq (.reg [.fa 11 1 (.s 3),.ld 12 (.s 11)]) (.cond (.s 12) (.seq (.seq (.reg [.mv 14 (.s 0),.fa 15 0 (.s 3),.ld 16 (.s 15),.callp (some 17) n_term_Image [.s 14,.s 16],.mv 13 (.s 17),.ex 18 (.s 13) 0,.ex 19 (.s 13) 1,.al 5 t_Term [.str [],.bool false,.sl 3 []],.sf 5 3 (.s 18),.mv 6 (.s 19)]) (.seq (.reg [.mv 20 (.s 6)]) (.cond (.s 20) (.seq (.dr [0,1,2,3,4,5] [.la 21 3 (.s 5),.callp (some 22) n_term_Size [.s 21],.la 23 3 (.s 5),.callp (some 24) n_term_Depth [.s 23],.bd 25 [.int .i64 0,.int .i64 0] [(0,1,(.s 22)),(1,1,(.s 24))],.st 2 (.s 4) (.s 25)]) (.ret)) (.skip)))) (.n 5)) (.skip))) (.n 4))
def rs:List RV:=[.a 4 2]
attribute [push_cast] nd body
theorem ok:okF prog n_term_measure nd body 2 rs = true:=by kernel_rfl
abbrev L3 (v0 v4 v7 v29 v30 v31:V) (B:Nat) (H:List Ob) (Q:X→T→List Ob→Prop):Prop:=Run prog nd B [.c (.m 3),.c (.loop (.n 1)),.mk 0,.c (.n 0)] [(0,v0),(4,v4),(7,v7),(29,v29),(30,v30),(31,v31)] H Q
theorem G3 (h:Run prog nd B (.c (nd 3) :: s) t H Q):Run prog nd B (.c (.m 3) :: s) t H Q:=run_m.2 h
end term_measure
namespace term_replace
def nd:Nat→C
 | 0=>.seq (.reg [.la 44 3 (.s 7),.st 3 (.s 4) (.s 44)]) (.ret)
 | 1=>.gh [.ks 3 [0,4,7,29,30,31]] (.m 3)
 | 2=>.seq (.blk 1 (.seq (.reg [.ia 33 3 (.s 29) (.s 31),.la 34 3 (.s 33),.al 9 t_Term [.str [],.bool false,.sl 3 []],.sf 9 3 (.s 34)]) (.dr [0,1,2,3,4,5,6,7,8] [.fa 35 2 (.s 7),.ld 36 (.s 35),.mv 37 (.s 0),.la 38 3 (.s 9),.callp (some 39) n_term_replace [.s 37,.s 38],.bs 40 3 [.s 39],.app 41 t_Term 3 48 (.s 36) (.s 40),.fa 42 2 (.s 7),.st 1 (.s 42) (.s 41)]))) (.reg [.bin 43 .add (.s 31) (.i 1),.mv 31 (.s 43)])
 | 3=>.seq (.reg [.bin 32 .lss (.s 31) (.s 30)]) (.seq (.cond (.s 32) (.skip) (.exit 0)) (.n 2))
 | 4=>.seq (.reg [.fa 25 0 (.s 3),.ld 26 (.s 25),.bd 27 [.str [],.bool false,.nil] [(0,1,(.s 26))],.al 7 t_Term [.str [],.bool false,.nil],.st 3 (.s 7) (.s 27),.ono t_Term 3 2 (.s 7)]) (.seq (.seq (.reg [.fa 28 2 (.s 3),.ld 29 (.s 28),.len 30 (.s 29),.mv 31 (.i 0)]) (.blk 0 (.loop (.n 1)))) (.n 0))
 | 5=>.seq (.reg [.fa 22 0 (.s 3),.ld 23 (.s 22),.bd 24 [.str [],.bool false,.sl 3 []] [(0,1,(.s 23)),(1,1,(.c (.bool true)))],.st 3 (.s 4) (.s 24)]) (.ret)
 | _=>.skip
def body:C:=.seq (.reg [.br 3 t_Term (.s 1),.al 4 t_Term [.str [],.bool false,.sl 3 []]]) (.seq (.seq (.reg [.fa 10 1 (.s 3),.ld 11 (.s 10)]) (.cond (.s 11) (.seq (.seq (.reg [.mv 13 (.s 0),.fa 14 0 (.s 3),.ld 15 (.s 14),.callp (some 16) n_term_Image [.s 13,.s 15],.mv 12 (.s 16),.ex 17 (.s 12) 0,.ex 18 (.s 12) 1,.al 5 t_Term [.str [],.bool false,.sl 3 []],.sf 5 3 (.s 17),.mv 6 (.s 18)]) (.seq (.reg [.mv 19 (.s 6)]) (.cond (.s 19) (.seq (.reg [.la 20 3 (.s 5),.callp (some 21) n_term_Own [.s 20],.st 3 (.s 4) (.s 21)]) (.ret)) (.skip)))) (.n 5)) (.skip))) (.n 4))
def rs:List RV:=[.a 4 3]
attribute [push_cast] nd body
theorem ok:okF prog n_term_replace nd body 2 rs = true:=by kernel_rfl
abbrev L3 (v0 v4 v7 v29 v30 v31:V) (B:Nat) (H:List Ob) (Q:X→T→List Ob→Prop):Prop:=Run prog nd B [.c (.m 3),.c (.loop (.n 1)),.mk 0,.c (.n 0)] [(0,v0),(4,v4),(7,v7),(29,v29),(30,v30),(31,v31)] H Q
theorem G3 (h:Run prog nd B (.c (nd 3) :: s) t H Q):Run prog nd B (.c (.m 3) :: s) t H Q:=run_m.2 h
end term_replace
namespace term_Walk_1
def nd (_:Nat):C:=.skip
def body:C:=.reg [.la 3 3 (.s 1),.mv 4 (.s 0),.call (some 5) n_term_walk [.s 3,(.c (.sl 1 [])),.s 4]]
def rs:List RV:=[]
attribute [push_cast] nd body
theorem ok:okF prog n_term_Walk_1 nd body 2 rs = true:=by kernel_rfl
end term_Walk_1
namespace term_walk
def nd:Nat→C
 | 0=>.seq (.reg [.mv 6 (.c (.bool true))]) (.ret)
 | 1=>.gh [.ks 0 [1,2,15,16,17]] (.m 3)
 | 2=>.seq (.blk 1 (.seq (.reg [.mv 19 (.s 17),.ia 20 3 (.s 15) (.s 17),.la 21 3 (.s 20),.al 8 t_Term [.str [],.bool false,.sl 3 []],.mv 7 (.s 19),.sf 8 3 (.s 21)]) (.seq (.dr [1,3,4,6] [.mv 23 (.s 1),.mv 25 (.s 7),.bs 26 1 [.s 25],.mv 28 (.s 2),.alt [([0,2,5,7,8],[.la 22 3 (.s 8),.call (some 24) n_slices_Clone_s_int_int [.s 23],.app 27 t_int 1 8 (.s 24) (.s 26),.call (some 29) n_term_walk [.s 22,.s 27,.s 28],.un 30 .not (.s 29)]),([2,0,5,7,8],[.call (some 24) n_slices_Clone_s_int_int [.s 23],.la 22 3 (.s 8),.app 27 t_int 1 8 (.s 24) (.s 26),.call (some 29) n_term_walk [.s 22,.s 27,.s 28],.un 30 .not (.s 29)])]]) (.cond (.s 30) (.seq (.reg [.mv 6 (.c (.bool false))]) (.ret)) (.skip))))) (.reg [.bin 31 .add (.s 17) (.i 1),.mv 17 (.s 31)])
 | 3=>.seq (.reg [.bin 18 .lss (.s 17) (.s 16)]) (.seq (.cond (.s 18) (.skip) (.exit 0)) (.n 2))
 | 4=>.seq (.seq (.reg [.fa 14 2 (.s 3),.ld 15 (.s 14),.len 16 (.s 15),.mv 17 (.i 0)]) (.blk 0 (.loop (.n 1)))) (.n 0)
 | _=>.skip
def body:C:=.seq (.reg [.br 3 t_Term (.s 0),.mv 6 (.c (.bool false))]) (.seq (.seq (.reg [.mv 9 (.s 2),.mv 10 (.s 1),.la 11 3 (.s 3),.callv (some 12) (.s 9) [.s 10,.s 11],.un 13 .not (.s 12)]) (.cond (.s 13) (.seq (.reg [.mv 6 (.c (.bool false))]) (.ret)) (.skip))) (.n 4))
def rs:List RV:=[.t 6]
attribute [push_cast] nd body
theorem ok:okF prog n_term_walk nd body 3 rs = true:=by kernel_rfl
abbrev L3 (v1 v2 v15 v16 v17:V) (B:Nat) (H:List Ob) (Q:X→T→List Ob→Prop):Prop:=Run prog nd B [.c (.m 3),.c (.loop (.n 1)),.mk 0,.c (.n 0)] [(1,v1),(2,v2),(15,v15),(16,v16),(17,v17)] H Q
theorem G3 (h:Run prog nd B (.c (nd 3) :: s) t H Q):Run prog nd B (.c (.m 3) :: s) t H Q:=run_m.2 h
end term_walk
namespace stringslite_HasSuffix
def nd (_:Nat):C:=.skip
def body:C:=.seq (.reg [.mv 4 (.c (.bool false))]) (.seq (.reg [.mv 5 (.s 0),.lens 6 (.s 5),.mv 7 (.s 1),.lens 8 (.s 7),.bin 9 .geq (.s 6) (.s 8),.mv 10 (.s 9),.gd (.s 10) true [11,12,13,14,15,16,17,18,19] [.mv 11 (.s 0),.mv 12 (.s 0),.lens 13 (.s 12),.mv 14 (.s 1),.lens 15 (.s 14),.bin 16 .sub (.s 13) (.s 15),.sxs 17 (.s 11) (some (.s 16)) none,.mv 18 (.s 1),.bin 19 .eql (.s 17) (.s 18)],.pick 20 (.s 10) (.s 19) (.c (.bool false)),.mv 4 (.s 20)]) (.ret))
def rs:List RV:=[.t 4]
attribute [push_cast] nd body
theorem ok:okF prog n_stringslite_HasSuffix nd body 2 rs = true:=by kernel_rfl
end stringslite_HasSuffix
end Go.Dw
end
section
namespace Go.Dw
variable {s:List K} {B:Nat} {t:T} {H:List Ob} {Q:X→T→List Ob→Prop}
namespace slices_Index_s_string_string
def nd:Nat→C
 | 0=>.seq (.reg [.mv 4 (.i (-1))]) (.ret)
 | 1=>.gh [.ks 0 [0,1,7,8]] (.m 3)
 | 2=>.seq (.blk 1 (.seq (.reg [.mv 10 (.s 8),.mv 5 (.s 10)]) (.seq (.reg [.mv 11 (.s 1),.mv 12 (.s 0),.mv 13 (.s 5),.ia 14 1 (.s 12) (.s 13),.ld 15 (.s 14),.bin 16 .eql (.s 11) (.s 15)]) (.cond (.s 16) (.seq (.reg [.mv 17 (.s 5),.mv 4 (.s 17)]) (.ret)) (.skip))))) (.reg [.bin 18 .add (.s 8) (.i 1),.mv 8 (.s 18)])
 | 3=>.seq (.reg [.bin 9 .lss (.s 8) (.s 7)]) (.seq (.cond (.s 9) (.skip) (.exit 0)) (.n 2))
 | _=>.skip
def body:C:=.seq (.reg [.mv 4 (.i 0)]) (.seq (.seq (.reg [.mv 6 (.s 0),.len 7 (.s 6),.mv 8 (.i 0)]) (.blk 0 (.loop (.n 1)))) (.n 0))
def rs:List RV:=[.t 4]
attribute [push_cast] nd body
theorem ok:okF prog n_slices_Index_s_string_string nd body 2 rs = true:=by kernel_rfl
abbrev L3 (v0 v1 v7 v8:V) (B:Nat) (H:List Ob) (Q:X→T→List Ob→Prop):Prop:=Run prog nd B [.c (.m 3),.c (.loop (.n 1)),.mk 0,.c (.n 0)] [(0,v0),(1,v1),(7,v7),(8,v8)] H Q
theorem G3 (h:Run prog nd B (.c (nd 3) :: s) t H Q):Run prog nd B (.c (.m 3) :: s) t H Q:=run_m.2 h
end slices_Index_s_string_string
namespace stringslite_TrimSuffix
def nd:Nat→C
 | 0=>.seq (.reg [.mv 15 (.s 0),.mv 4 (.s 15)]) (.ret)
 | _=>.skip
def body:C:=.seq (.reg [.mv 4 (.c (.str []))]) (.seq (.seq (.reg [.mv 5 (.s 0),.mv 6 (.s 1),.callp (some 7) n_stringslite_HasSuffix [.s 5,.s 6]]) (.cond (.s 7) (.seq (.reg [.mv 8 (.s 0),.mv 9 (.s 0),.lens 10 (.s 9),.mv 11 (.s 1),.lens 12 (.s 11),.bin 13 .sub (.s 10) (.s 12),.sxs 14 (.s 8) none (some (.s 13)),.mv 4 (.s 14)]) (.ret)) (.skip))) (.n 0))
def rs:List RV:=[.t 4]
attribute [push_cast] nd body
theorem ok:okF prog n_stringslite_TrimSuffix nd body 2 rs = true:=by kernel_rfl
end stringslite_TrimSuffix
namespace slices_IndexFunc_s_byte_byte
def nd:Nat→C
 | 0=>.seq (.reg [.mv 4 (.i (-1))]) (.ret)
 | 1=>.gh [.ks 0 [0,1,7,8]] (.m 3)
 | 2=>.seq (.blk 1 (.seq (.reg [.mv 10 (.s 8),.mv 5 (.s 10)]) (.seq (.reg [.mv 11 (.s 1),.mv 12 (.s 0),.mv 13 (.s 5),.ia 14 1 (.s 12) (.s 13),.ld 15 (.s 14),.callvp (some 16) (.s 11) [.s 15]]) (.cond (.s 16) (.seq (.reg [.mv 17 (.s 5),.mv 4 (.s 17)]) (.ret)) (.skip))))) (.reg [.bin 18 .add (.s 8) (.i 1),.mv 8 (.s 18)])
 | 3=>.seq (.reg [.bin 9 .lss (.s 8) (.s 7)]) (.seq (.cond (.s 9) (.skip) (.exit 0)) (.n 2))
 | _=>.skip
def body:C:=.seq (.reg [.mv 4 (.i 0)]) (.seq (.seq (.reg [.mv 6 (.s 0),.len 7 (.s 6),.mv 8 (.i 0)]) (.blk 0 (.loop (.n 1)))) (.n 0))
def rs:List RV:=[.t 4]
attribute [push_cast] nd body
theorem ok:okF prog n_slices_IndexFunc_s_byte_byte nd body 2 rs = true:=by kernel_rfl
abbrev L3 (v0 v1 v7 v8:V) (B:Nat) (H:List Ob) (Q:X→T→List Ob→Prop):Prop:=Run prog nd B [.c (.m 3),.c (.loop (.n 1)),.mk 0,.c (.n 0)] [(0,v0),(1,v1),(7,v7),(8,v8)] H Q
theorem G3 (h:Run prog nd B (.c (nd 3) :: s) t H Q):Run prog nd B (.c (.m 3) :: s) t H Q:=run_m.2 h
end slices_IndexFunc_s_byte_byte
namespace slices_IndexFunc_s_Term_Term
def nd:Nat→C
 | 0=>.seq (.reg [.mv 4 (.i (-1))]) (.ret)
 | 1=>.gh [.ks 0 [0,1,7,8]] (.m 3)
 | 2=>.seq (.blk 1 (.seq (.reg [.mv 10 (.s 8),.mv 5 (.s 10)]) (.seq (.reg [.mv 11 (.s 1),.mv 12 (.s 0),.mv 13 (.s 5),.ia 14 3 (.s 12) (.s 13),.la 15 3 (.s 14),.callvp (some 16) (.s 11) [.s 15]]) (.cond (.s 16) (.seq (.reg [.mv 17 (.s 5),.mv 4 (.s 17)]) (.ret)) (.skip))))) (.reg [.bin 18 .add (.s 8) (.i 1),.mv 8 (.s 18)])
 | 3=>.seq (.reg [.bin 9 .lss (.s 8) (.s 7)]) (.seq (.cond (.s 9) (.skip) (.exit 0)) (.n 2))
 | _=>.skip
def body:C:=.seq (.reg [.mv 4 (.i 0)]) (.seq (.seq (.reg [.mv 6 (.s 0),.len 7 (.s 6),.mv 8 (.i 0)]) (.blk 0 (.loop (.n 1)))) (.n 0))
def rs:List RV:=[.t 4]
attribute [push_cast] nd body
theorem ok:okF prog n_slices_IndexFunc_s_Term_Term nd body 2 rs = true:=by kernel_rfl
abbrev L3 (v0 v1 v7 v8:V) (B:Nat) (H:List Ob) (Q:X→T→List Ob→Prop):Prop:=Run prog nd B [.c (.m 3),.c (.loop (.n 1)),.mk 0,.c (.n 0)] [(0,v0),(1,v1),(7,v7),(8,v8)] H Q
theorem G3 (h:Run prog nd B (.c (nd 3) :: s) t H Q):Run prog nd B (.c (.m 3) :: s) t H Q:=run_m.2 h
end slices_IndexFunc_s_Term_Term
namespace unify_matcher_match
def nd:Nat→C
 | 0=>.seq (.reg [.mv 6 (.c (.bool true))]) (.ret)
 | 1=>.gh [.ks 0 [0,4,5,57,58]] (.m 3)
 | 2=>.seq (.blk 1 (.seq (.reg [.mv 60 (.s 58),.mv 9 (.s 60)]) (.seq (.dr [0,1,2,3,4,5,6,7,8,9,10,11,12] [.mv 61 (.s 0),.fa 62 2 (.s 4),.ld 63 (.s 62),.mv 64 (.s 9),.ia 65 3 (.s 63) (.s 64),.la 66 3 (.s 65),.fa 67 2 (.s 5),.ld 68 (.s 67),.mv 69 (.s 9),.ia 70 3 (.s 68) (.s 69),.la 71 3 (.s 70),.call (some 72) n_unify_matcher_match [.s 61,.s 66,.s 71],.un 73 .not (.s 72)]) (.cond (.s 73) (.seq (.reg [.mv 6 (.c (.bool false))]) (.ret)) (.skip))))) (.reg [.bin 74 .add (.s 58) (.i 1),.mv 58 (.s 74)])
 | 3=>.seq (.reg [.bin 59 .lss (.s 58) (.s 57)]) (.seq (.cond (.s 59) (.skip) (.exit 0)) (.n 2))
 | 4=>.seq (.seq (.reg [.fa 55 2 (.s 4),.ld 56 (.s 55),.len 57 (.s 56),.mv 58 (.i 0)]) (.blk 0 (.loop (.n 1)))) (.n 0)
 | 5=>.seq (.seq (.reg [.fa 37 1 (.s 5),.ld 38 (.s 37),.mv 39 (.s 38),.gd (.s 39) false [40,41,42,43,44] [.fa 40 0 (.s 4),.ld 41 (.s 40),.fa 42 0 (.s 5),.ld 43 (.s 42),.bin 44 .neq (.s 41) (.s 43)],.pick 45 (.s 39) (.c (.bool true)) (.s 44),.mv 46 (.s 45),.gd (.s 46) false [47,48,49,50,51,52,53] [.fa 47 2 (.s 4),.ld 48 (.s 47),.len 49 (.s 48),.fa 50 2 (.s 5),.ld 51 (.s 50),.len 52 (.s 51),.bin 53 .neq (.s 49) (.s 52)],.pick 54 (.s 46) (.c (.bool true)) (.s 53)]) (.cond (.s 54) (.seq (.reg [.mv 6 (.c (.bool false))]) (.ret)) (.skip))) (.n 4)
 | 6=>.seq (.dr [0,1,2,3,4,5,6,7,8,9,10,11] [.mv 26 (.s 0),.mv 27 (.s 0),.nc 28 (.s 27),.fa 29 0 (.s 28),.ld 30 (.s 29),.fa 31 0 (.s 4),.ld 32 (.s 31),.la 33 3 (.s 5),.call (some 34) n_unify_bind [.s 30,.s 32,.s 33],.nc 35 (.s 26),.fa 36 0 (.s 35),.st 1 (.s 36) (.s 34)]) (.seq (.reg [.mv 6 (.c (.bool true))]) (.ret))
 | _=>.skip
def body:C:=.seq (.reg [.br 4 t_Term (.s 1),.br 5 t_Term (.s 2),.mv 6 (.c (.bool false))]) (.seq (.seq (.reg [.fa 10 1 (.s 4),.ld 11 (.s 10)]) (.cond (.s 11) (.seq (.seq (.dr [0,1,2,3,4,5] [.mv 13 (.s 0),.nc 14 (.s 13),.fa 15 0 (.s 14),.ld 16 (.s 15),.fa 17 0 (.s 4),.ld 18 (.s 17),.alt [([6,7,8,9,10,11,12],[.call (some 19) n_term_Image [.s 16,.s 18],.mv 12 (.s 19),.ex 20 (.s 12) 0,.ex 21 (.s 12) 1,.al 7 t_Term [.str [],.bool false,.sl 3 []],.sf 7 3 (.s 20),.mv 8 (.s 21)]),([10,6,7,8,9,11,12],[.al 7 t_Term [.str [],.bool false,.sl 3 []],.call (some 19) n_term_Image [.s 16,.s 18],.mv 12 (.s 19),.ex 20 (.s 12) 0,.ex 21 (.s 12) 1,.sf 7 3 (.s 20),.mv 8 (.s 21)])]]) (.seq (.reg [.mv 22 (.s 8)]) (.cond (.s 22) (.seq (.reg [.la 23 3 (.s 7),.la 24 3 (.s 5),.callp (some 25) n_term_Equal [.s 23,.s 24],.mv 6 (.s 25)]) (.ret)) (.skip)))) (.n 6)) (.skip))) (.n 5))
def rs:List RV:=[.t 6]
attribute [push_cast] nd body
theorem ok:okF prog n_unify_matcher_match nd body 3 rs = true:=by kernel_rfl
abbrev L3 (v0 v4 v5 v57 v58:V) (B:Nat) (H:List Ob) (Q:X→T→List Ob→Prop):Prop:=Run prog nd B [.c (.m 3),.c (.loop (.n 1)),.mk 0,.c (.n 0)] [(0,v0),(4,v4),(5,v5),(57,v57),(58,v58)] H Q
theorem G3 (h:Run prog nd B (.c (nd 3) :: s) t H Q):Run prog nd B (.c (.m 3) :: s) t H Q:=run_m.2 h
end unify_matcher_match
namespace term_Image
def nd:Nat→C
 | 0=>.seq (.reg [.mv 17 (.s 0),.mv 18 (.s 6),.ia 19 4 (.s 17) (.s 18),.fa 20 1 (.s 19),.la 21 3 (.s 20),.st 3 (.s 4) (.s 21),.mv 5 (.c (.bool true))]) (.ret)
 | _=>.skip
def body:C:=.seq (.reg [.al 4 t_Term [.str [],.bool false,.sl 3 []],.mv 5 (.c (.bool false))]) (.seq (.reg [.mv 9 (.s 0),.mv 10 (.s 1),.call (some 11) n_slices_BinarySearchFunc_s_Bind_Bind_string [.s 9,.s 10,(.f n_term_Image_1)],.mv 8 (.s 11),.ex 12 (.s 8) 0,.ex 13 (.s 8) 1,.mv 6 (.s 12),.mv 7 (.s 13)]) (.seq (.seq (.reg [.mv 14 (.s 7),.un 15 .not (.s 14)]) (.cond (.s 15) (.seq (.reg [.bd 16 [.str [],.bool false,.sl 3 []] [],.st 3 (.s 4) (.s 16),.mv 5 (.c (.bool false))]) (.ret)) (.skip))) (.n 0)))
def rs:List RV:=[.a 4 3,.t 5]
attribute [push_cast] nd body
theorem ok:okF prog n_term_Image nd body 2 rs = true:=by kernel_rfl
end term_Image
namespace term_Equal
def nd (_:Nat):C:=.skip
def body:C:=.seq (.reg [.br 2 t_Term (.s 0),.br 3 t_Term (.s 1),.mv 4 (.c (.bool false))]) (.seq (.reg [.fa 5 0 (.s 2),.ld 6 (.s 5),.fa 7 0 (.s 3),.ld 8 (.s 7),.bin 9 .eql (.s 6) (.s 8),.mv 10 (.s 9),.gd (.s 10) true [11,12,13,14,15] [.fa 11 1 (.s 2),.ld 12 (.s 11),.fa 13 1 (.s 3),.ld 14 (.s 13),.bb 15 .eql (.s 12) (.s 14)],.pick 16 (.s 10) (.s 15) (.c (.bool false)),.mv 17 (.s 16),.gd (.s 17) true [18,19,20,21,22] [.fa 18 2 (.s 2),.ld 19 (.s 18),.fa 20 2 (.s 3),.ld 21 (.s 20),.callp (some 22) n_slices_EqualFunc_s_Term_s_Term_Term_Term [.s 19,.s 21,(.f n_term_Equal)]],.pick 23 (.s 17) (.s 22) (.c (.bool false)),.mv 4 (.s 23)]) (.ret))
def rs:List RV:=[.t 4]
attribute [push_cast] nd body
theorem ok:okF prog n_term_Equal nd body 2 rs = true:=by kernel_rfl
end term_Equal
namespace unify_bind
def nd (_:Nat):C:=.skip
def body:C:=.seq (.reg [.br 5 t_Term (.s 2),.mv 6 (.c (.sl 4 []))]) (.seq (.reg [.mv 10 (.s 0),.mv 11 (.s 1),.call (some 12) n_slices_BinarySearchFunc_s_Bind_Bind_string [.s 10,.s 11,(.f n_unify_bind_1)],.mv 9 (.s 12),.ex 13 (.s 9) 0,.ex 14 (.s 9) 1,.mv 7 (.s 13),.mv 8 (.s 14)]) (.seq (.reg [.mv 15 (.s 0),.mv 16 (.s 7),.mv 17 (.s 1),.la 18 3 (.s 5),.bd 19 [.str [],.str [],.bool false,.sl 3 []] [(0,1,(.s 17)),(1,3,(.s 18))],.bo 20 t_Bind 4 [.s 19],.call (some 21) n_slices_Insert_s_Bind_Bind [.s 15,.s 16,.s 20],.mv 6 (.s 21)]) (.ret)))
def rs:List RV:=[.t 6]
attribute [push_cast] nd body
theorem ok:okF prog n_unify_bind nd body 3 rs = true:=by kernel_rfl
end unify_bind
namespace slices_BinarySearchFunc_s_Bind_Bind_string
def nd:Nat→C
 | 0=>.seq (.reg [.mv 35 (.s 9),.mv 36 (.s 9),.mv 37 (.s 8),.bin 38 .lss (.s 36) (.s 37),.mv 39 (.s 38),.gd (.s 39) true [40,41,42,43,44,45,46,47] [.mv 40 (.s 2),.mv 41 (.s 0),.mv 42 (.s 9),.ia 43 4 (.s 41) (.s 42),.la 44 4 (.s 43),.mv 45 (.s 1),.callvp (some 46) (.s 40) [.s 44,.s 45],.bin 47 .eql (.s 46) (.i 0)],.pick 48 (.s 39) (.s 47) (.c (.bool false)),.mv 6 (.s 35),.mv 7 (.s 48)]) (.ret)
 | 1=>.gh [.ks 0 [0,1,2,8,9,10]] (.m 3)
 | 2=>.blk 1 (.seq (.reg [.mv 18 (.s 9),.mv 19 (.s 10),.bin 20 .add (.s 18) (.s 19),.cvi 21 .u64 (.s 20),.sh 22 .shr (.s 21) (.c (.int .u64 1)),.cvi 23 .i64 (.s 22),.mv 11 (.s 23)]) (.seq (.reg [.mv 24 (.s 2),.mv 25 (.s 0),.mv 26 (.s 11),.ia 27 4 (.s 25) (.s 26),.la 28 4 (.s 27),.mv 29 (.s 1),.callvp (some 30) (.s 24) [.s 28,.s 29],.bin 31 .lss (.s 30) (.i 0)]) (.cond (.s 31) (.reg [.mv 32 (.s 11),.bin 33 .add (.s 32) (.i 1),.mv 9 (.s 33)]) (.reg [.mv 34 (.s 11),.mv 10 (.s 34)]))))
 | 3=>.seq (.seq (.reg [.mv 15 (.s 9),.mv 16 (.s 10),.bin 17 .lss (.s 15) (.s 16)]) (.cond (.s 17) (.skip) (.exit 0))) (.n 2)
 | _=>.skip
def body:C:=.seq (.reg [.mv 6 (.i 0),.mv 7 (.c (.bool false))]) (.seq (.reg [.mv 12 (.s 0),.len 13 (.s 12),.mv 8 (.s 13)]) (.seq (.reg [.mv 14 (.s 8),.mv 9 (.i 0),.mv 10 (.s 14)]) (.seq (.blk 0 (.loop (.n 1))) (.n 0))))
def rs:List RV:=[.t 6,.t 7]
attribute [push_cast] nd body
theorem ok:okF prog n_slices_BinarySearchFunc_s_Bind_Bind_string nd body 3 rs = true:=by kernel_rfl
abbrev L3 (v0 v1 v2 v8 v9 v10:V) (B:Nat) (H:List Ob) (Q:X→T→List Ob→Prop):Prop:=Run prog nd B [.c (.m 3),.c (.loop (.n 1)),.mk 0,.c (.n 0)] [(0,v0),(1,v1),(2,v2),(8,v8),(9,v9),(10,v10)] H Q
theorem G3 (h:Run prog nd B (.c (nd 3) :: s) t H Q):Run prog nd B (.c (.m 3) :: s) t H Q:=run_m.2 h
end slices_BinarySearchFunc_s_Bind_Bind_string
namespace term_Image_1
def nd (_:Nat):C:=.skip
def body:C:=.seq (.reg [.br 2 t_Bind (.s 0),.mv 4 (.i 0)]) (.seq (.reg [.fa 5 0 (.s 2),.ld 6 (.s 5),.mv 7 (.s 1),.callp (some 8) n_strings_Compare [.s 6,.s 7],.mv 4 (.s 8)]) (.ret))
def rs:List RV:=[.t 4]
attribute [push_cast] nd body
theorem ok:okF prog n_term_Image_1 nd body 2 rs = true:=by kernel_rfl
end term_Image_1
namespace strings_Compare
def nd (_:Nat):C:=.skip
def body:C:=.seq (.reg [.mv 4 (.i 0)]) (.seq (.reg [.mv 5 (.s 0),.mv 6 (.s 1),.callp (some 7) n_bytealg_CompareString [.s 5,.s 6],.mv 4 (.s 7)]) (.ret))
def rs:List RV:=[.t 4]
attribute [push_cast] nd body
theorem ok:okF prog n_strings_Compare nd body 2 rs = true:=by kernel_rfl
end strings_Compare
namespace slices_EqualFunc_s_Term_s_Term_Term_Term
def nd:Nat→C
 | 0=>.seq (.reg [.mv 6 (.c (.bool true))]) (.ret)
 | 1=>.gh [.ks 0 [1,2,15,16,17]] (.m 3)
 | 2=>.seq (.blk 1 (.seq (.reg [.mv 19 (.s 17),.ia 20 3 (.s 15) (.s 17),.la 21 3 (.s 20),.al 8 t_Term [.str [],.bool false,.sl 3 []],.mv 7 (.s 19),.sf 8 3 (.s 21)]) (.seq (.reg [.mv 22 (.s 1),.mv 23 (.s 7),.ia 24 3 (.s 22) (.s 23),.la 25 3 (.s 24),.al 9 t_Term [.str [],.bool false,.sl 3 []],.sf 9 3 (.s 25)]) (.seq (.reg [.mv 26 (.s 2),.la 27 3 (.s 8),.la 28 3 (.s 9),.callvp (some 29) (.s 26) [.s 27,.s 28],.un 30 .not (.s 29)]) (.cond (.s 30) (.seq (.reg [.mv 6 (.c (.bool false))]) (.ret)) (.skip)))))) (.reg [.bin 31 .add (.s 17) (.i 1),.mv 17 (.s 31)])
 | 3=>.seq (.reg [.bin 18 .lss (.s 17) (.s 16)]) (.seq (.cond (.s 18) (.skip) (.exit 0)) (.n 2))
 | 4=>.seq (.seq (.reg [.mv 15 (.s 0),.len 16 (.s 15),.mv 17 (.i 0)]) (.blk 0 (.loop (.n 1)))) (.n 0)
 | _=>.skip
def body:C:=.seq (.reg [.mv 6 (.c (.bool false))]) (.seq (.seq (.reg [.mv 10 (.s 0),.len 11 (.s 10),.mv 12 (.s 1),.len 13 (.s 12),.bin 14 .neq (.s 11) (.s 13)]) (.cond (.s 14) (.seq (.reg [.mv 6 (.c (.bool false))]) (.ret)) (.skip))) (.n 4))
def rs:List RV:=[.t 6]
attribute [push_cast] nd body
theorem ok:okF prog n_slices_EqualFunc_s_Term_s_Term_Term_Term nd body 3 rs = true:=by kernel_rfl
abbrev L3 (v1 v2 v15 v16 v17:V) (B:Nat) (H:List Ob) (Q:X→T→List Ob→Prop):Prop:=Run prog nd B [.c (.m 3),.c (.loop (.n 1)),.mk 0,.c (.n 0)] [(1,v1),(2,v2),(15,v15),(16,v16),(17,v17)] H Q
theorem G3 (h:Run prog nd B (.c (nd 3) :: s) t H Q):Run prog nd B (.c (.m 3) :: s) t H Q:=run_m.2 h
end slices_EqualFunc_s_Term_s_Term_Term_Term
namespace unify_bind_1
def nd (_:Nat):C:=.skip
def body:C:=.seq (.reg [.br 2 t_Bind (.s 0),.mv 4 (.i 0)]) (.seq (.reg [.fa 5 0 (.s 2),.ld 6 (.s 5),.mv 7 (.s 1),.callp (some 8) n_strings_Compare [.s 6,.s 7],.mv 4 (.s 8)]) (.ret))
def rs:List RV:=[.t 4]
attribute [push_cast] nd body
theorem ok:okF prog n_unify_bind_1 nd body 2 rs = true:=by kernel_rfl
end unify_bind_1
namespace bytealg_CompareString
def nd (_:Nat):C:=.skip
def body:C:=.seq (.reg [.mv 4 (.i 0)]) (.seq (.reg [.mv 5 (.s 0),.mv 6 (.s 1),.callp (some 7) n_bytealg_abigen_runtime_cmpstring [.s 5,.s 6],.mv 4 (.s 7)]) (.ret))
def rs:List RV:=[.t 4]
attribute [push_cast] nd body
theorem ok:okF prog n_bytealg_CompareString nd body 2 rs = true:=by kernel_rfl
end bytealg_CompareString
end Go.Dw
end
section
namespace Go.Dw
theorem term_Size_s (t:Term) (hs:size t < 2^62):PF n_term_Size [encT t] (.int .i64 (size t)):=by
 induction t using term_ind with
 | h t ih =>
 refine pf_of term_Size.ok rfl ?_
 have hst:=size_args t
 have hl:=length_le_sizes t.args
 push_cast
 refine loop_up (n:=t.args.length) (R:=fun k=>term_Size.L3 (.int .i64 ((1+sizes (t.args.take k):Nat):Int)) (encTs t.args) (.int .i64 t.args.length) (.int .i64 k) 0 [] _) ?_ ?_ 0 (by omega)
 ·intro k hk ih2
  have h1:=sizes_take_succ _ _ hk
  have h2:=sizes_take_le t.args (k+1)
  have hm:=getD_mem hk
  refine term_Size.G3 ?_
  push_cast [ilt hk]
  refine .of (ih _ hm (by omega)) ?_
  push_cast [w64 (show k < 2^62 by omega)]
  rw [wrap64 (by omega) (by omega)]
  rw [h1] at ih2
  simpa [Int.add_assoc] using ih2
 ·refine term_Size.G3 ?_
  push_cast [inlt (Nat.le_refl _)]
  refine pf_ret ?_
  push_cast [term_Size.rs,List.take_length,hst]
theorem EqualFunc_s {f:Term→Term→Bool} {g:Nat} (l m:List Term) (hl:l.length < 2^62) (h:∀ a∈l,∀ b,PF g [encT a,encT b] (.bool (f a b))) :
  PF n_slices_EqualFunc_s_Term_s_Term_Term_Term [encTs l,encTs m,.fn (.func g) [] []] (.bool (eqf f l m)):=by
 refine pf_of slices_EqualFunc_s_Term_s_Term_Term_Term.ok rfl ?_
 push_cast
 refine ⟨fun hne=>pf_ret ?_,fun he=>?_⟩
 ·push_cast [slices_EqualFunc_s_Term_s_Term_Term_Term.rs]
  cases hq:eqf f l m with
  | false=>rfl
  | true=>have:=eqf_len hq;omega
 ·have he:l.length = m.length:=by omega
  refine loop_up (n:=l.length) (R:=fun k=>eqf f (l.drop k) (m.drop k) = eqf f l m→slices_EqualFunc_s_Term_s_Term_Term_Term.L3 (encTs m) (.fn (.func g) [] []) (encTs l) (.int .i64 l.length) (.int .i64 k) 0 [] _) ?_ ?_ 0 (by omega) (by simp)
  ·intro k hk ih hq
   have hkm:k < m.length:=by omega
   refine slices_EqualFunc_s_Term_s_Term_Term_Term.G3 ?_
   push_cast [ilt hk,ilt hkm]
   refine .of (h _ (getD_mem hk) _) ?_
   push_cast [w64 (show k < 2^62 by omega)]
   rw [drop_getD hk,drop_getD hkm] at hq
   simp only [eqf] at hq
   refine ⟨fun hf=>pf_ret ?_,fun hf=>?_⟩
   ·push_cast [slices_EqualFunc_s_Term_s_Term_Term_Term.rs]
    simp only [Bool.not_eq_true'] at hf
    rw [hf,Bool.false_and] at hq
    exact hq
   ·simp only [Bool.not_eq_false'] at hf
    simp only [hf,Bool.true_and] at hq
    exact ih hq
  ·intro hq
   refine slices_EqualFunc_s_Term_s_Term_Term_Term.G3 ?_
   push_cast [inlt (Nat.le_refl _)]
   refine pf_ret ?_
   push_cast [slices_EqualFunc_s_Term_s_Term_Term_Term.rs]
   rw [List.drop_eq_nil_of_le (by omega),List.drop_eq_nil_of_le (by omega)] at hq
   simpa [eqf] using hq
theorem term_Equal_s (a b:Term) (hs:size a < 2^62):PF n_term_Equal [encT a,encT b] (.bool (decide (a = b))):=by
 induction a using term_ind generalizing b with
 | h a ih =>
 have hst:=size_args a
 have hl:=length_le_sizes a.args
 refine pf_of term_Equal.ok rfl ?_
 have hE:=EqualFunc_s (f:=fun a b=>decide (a = b)) (g:=n_term_Equal) a.args b.args (by omega) fun x hx y=>ih x hx y (by have:=size_mem hx;omega)
 rw [eqf_eq fun _ _ _=>rfl] at hE
 have hi:=term_eq_iff a b
 by_cases h1:a.name = b.name <;> by_cases h2:a.var = b.var <;> push_cast [h1,h2,beq_self_eq_true,show ∀ x y:Bool,(x == y) = decide (x = y) from fun x y=>by cases x <;> cases y <;> rfl]
 ·refine .of hE ?_
  push_cast
  refine pf_ret ?_
  push_cast [term_Equal.rs]
  simp [hi,h1,h2]
 all_goals
  refine pf_ret ?_
  push_cast [term_Equal.rs]
  simp [hi,h1,h2]
end Go.Dw
end
section
namespace Go.Dw
theorem slices_IndexFunc_s_byte_byte_s {p:UInt8→Bool} {g:Nat} {caps:List V} (hc:∀ σ,rens σ caps = caps) (l:List UInt8) (hl:l.length < 2^62) (h:∀ a∈l,PF g (.int .u8 a.toNat :: caps) (.bool (p a))) :
  PF n_slices_IndexFunc_s_byte_byte [encL cU8 1 l,.fn (.func g) [] caps] (.int .i64 (idxI p l)):=by
 refine pf_of slices_IndexFunc_s_byte_byte.ok rfl ?_
 push_cast [hc]
 refine loop_up (n:=l.length) (R:=fun k=>(∀ j,j < k→p (l.getD j default) = false)→slices_IndexFunc_s_byte_byte.L3 (encL cU8 1 l) (.fn (.func g) [] caps) (.int .i64 l.length) (.int .i64 k) 0 [] _) ?_ ?_ 0 (by omega) (by intro j hj;omega)
 ·intro k hk ih hq
  refine slices_IndexFunc_s_byte_byte.G3 ?_
  push_cast [ilt hk,cU8_0,cS_0,hc]
  refine .of (h _ (getD_mem hk)) ?_
  push_cast [w64 (show k < 2^62 by omega),hc]
  refine ⟨fun hp=>pf_ret ?_,fun hp=>?_⟩
  ·push_cast [slices_IndexFunc_s_byte_byte.rs]
   rw [idxI_some hk hp hq]
  ·exact ih fun j hj=>by rcases Nat.lt_succ_iff_lt_or_eq.1 hj with h | rfl;exact hq j h;exact hp
 ·intro hq
  refine slices_IndexFunc_s_byte_byte.G3 ?_
  push_cast [inlt (Nat.le_refl _)]
  refine pf_ret ?_
  push_cast [slices_IndexFunc_s_byte_byte.rs]
  rw [idxI_none hq]
theorem slices_ContainsFunc_s_byte_byte_s {p:UInt8→Bool} {g:Nat} {caps:List V} (hc:∀ σ,rens σ caps = caps) (l:List UInt8) (hl:l.length < 2^62) (h:∀ a∈l,PF g (.int .u8 a.toNat :: caps) (.bool (p a))) :
  PF n_slices_ContainsFunc_s_byte_byte [encL cU8 1 l,.fn (.func g) [] caps] (.bool (l.any p)):=by
 refine pf_of slices_ContainsFunc_s_byte_byte.ok rfl ?_
 push_cast [hc]
 refine .of (slices_IndexFunc_s_byte_byte_s hc l hl h) ?_
 push_cast [hc]
 refine pf_ret ?_
 push_cast [slices_ContainsFunc_s_byte_byte.rs,idxI_any]
theorem slices_IndexFunc_s_Term_Term_s {p:Term→Bool} {g:Nat} {caps:List V} (hc:∀ σ,rens σ caps = caps) (l:List Term) (hl:l.length < 2^62) (h:∀ a∈l,PF g (encT a :: caps) (.bool (p a))) :
  PF n_slices_IndexFunc_s_Term_Term [encL cT 3 l,.fn (.func g) [] caps] (.int .i64 (idxI p l)):=by
 refine pf_of slices_IndexFunc_s_Term_Term.ok rfl ?_
 push_cast [hc]
 refine loop_up (n:=l.length) (R:=fun k=>(∀ j,j < k→p (l.getD j default) = false)→slices_IndexFunc_s_Term_Term.L3 (encL cT 3 l) (.fn (.func g) [] caps) (.int .i64 l.length) (.int .i64 k) 0 [] _) ?_ ?_ 0 (by omega) (by intro j hj;omega)
 ·intro k hk ih hq
  refine slices_IndexFunc_s_Term_Term.G3 ?_
  push_cast [ilt hk,cU8_0,cS_0,hc]
  refine .of (h _ (getD_mem hk)) ?_
  push_cast [w64 (show k < 2^62 by omega),hc]
  refine ⟨fun hp=>pf_ret ?_,fun hp=>?_⟩
  ·push_cast [slices_IndexFunc_s_Term_Term.rs]
   rw [idxI_some hk hp hq]
  ·exact ih fun j hj=>by rcases Nat.lt_succ_iff_lt_or_eq.1 hj with h | rfl;exact hq j h;exact hp
 ·intro hq
  refine slices_IndexFunc_s_Term_Term.G3 ?_
  push_cast [inlt (Nat.le_refl _)]
  refine pf_ret ?_
  push_cast [slices_IndexFunc_s_Term_Term.rs]
  rw [idxI_none hq]
theorem slices_ContainsFunc_s_Term_Term_s {p:Term→Bool} {g:Nat} {caps:List V} (hc:∀ σ,rens σ caps = caps) (l:List Term) (hl:l.length < 2^62) (h:∀ a∈l,PF g (encT a :: caps) (.bool (p a))) :
  PF n_slices_ContainsFunc_s_Term_Term [encL cT 3 l,.fn (.func g) [] caps] (.bool (l.any p)):=by
 refine pf_of slices_ContainsFunc_s_Term_Term.ok rfl ?_
 push_cast [hc]
 refine .of (slices_IndexFunc_s_Term_Term_s hc l hl h) ?_
 push_cast [hc]
 refine pf_ret ?_
 push_cast [slices_ContainsFunc_s_Term_Term.rs,idxI_any]
theorem slices_IndexFunc_s_Rule_Rule_s {p:ARule→Bool} {g:Nat} {caps:List V} (hc:∀ σ,rens σ caps = caps) (l:List ARule) (hl:l.length < 2^62) (h:∀ a∈l,PF g (encR a :: caps) (.bool (p a))) :
  PF n_slices_IndexFunc_s_Rule_Rule [encL cR 6 l,.fn (.func g) [] caps] (.int .i64 (idxI p l)):=by
 refine pf_of slices_IndexFunc_s_Rule_Rule.ok rfl ?_
 push_cast [hc]
 refine loop_up (n:=l.length) (R:=fun k=>(∀ j,j < k→p (l.getD j default) = false)→slices_IndexFunc_s_Rule_Rule.L3 (encL cR 6 l) (.fn (.func g) [] caps) (.int .i64 l.length) (.int .i64 k) 0 [] _) ?_ ?_ 0 (by omega) (by intro j hj;omega)
 ·intro k hk ih hq
  refine slices_IndexFunc_s_Rule_Rule.G3 ?_
  push_cast [ilt hk,cU8_0,cS_0,hc]
  refine .of (h _ (getD_mem hk)) ?_
  push_cast [w64 (show k < 2^62 by omega),hc]
  refine ⟨fun hp=>pf_ret ?_,fun hp=>?_⟩
  ·push_cast [slices_IndexFunc_s_Rule_Rule.rs]
   rw [idxI_some hk hp hq]
  ·exact ih fun j hj=>by rcases Nat.lt_succ_iff_lt_or_eq.1 hj with h | rfl;exact hq j h;exact hp
 ·intro hq
  refine slices_IndexFunc_s_Rule_Rule.G3 ?_
  push_cast [inlt (Nat.le_refl _)]
  refine pf_ret ?_
  push_cast [slices_IndexFunc_s_Rule_Rule.rs]
  rw [idxI_none hq]
theorem slices_ContainsFunc_s_Rule_Rule_s {p:ARule→Bool} {g:Nat} {caps:List V} (hc:∀ σ,rens σ caps = caps) (l:List ARule) (hl:l.length < 2^62) (h:∀ a∈l,PF g (encR a :: caps) (.bool (p a))) :
  PF n_slices_ContainsFunc_s_Rule_Rule [encL cR 6 l,.fn (.func g) [] caps] (.bool (l.any p)):=by
 refine pf_of slices_ContainsFunc_s_Rule_Rule.ok rfl ?_
 push_cast [hc]
 refine .of (slices_IndexFunc_s_Rule_Rule_s hc l hl h) ?_
 push_cast [hc]
 refine pf_ret ?_
 push_cast [slices_ContainsFunc_s_Rule_Rule.rs,idxI_any]
theorem slices_IndexFunc_s_string_string_s {p:Str→Bool} {g:Nat} {caps:List V} (hc:∀ σ,rens σ caps = caps) (l:List Str) (hl:l.length < 2^62) (h:∀ a∈l,PF g (.str a :: caps) (.bool (p a))) :
  PF n_slices_IndexFunc_s_string_string [encL cS 1 l,.fn (.func g) [] caps] (.int .i64 (idxI p l)):=by
 refine pf_of slices_IndexFunc_s_string_string.ok rfl ?_
 push_cast [hc]
 refine loop_up (n:=l.length) (R:=fun k=>(∀ j,j < k→p (l.getD j default) = false)→slices_IndexFunc_s_string_string.L3 (encL cS 1 l) (.fn (.func g) [] caps) (.int .i64 l.length) (.int .i64 k) 0 [] _) ?_ ?_ 0 (by omega) (by intro j hj;omega)
 ·intro k hk ih hq
  refine slices_IndexFunc_s_string_string.G3 ?_
  push_cast [ilt hk,cU8_0,cS_0,hc]
  refine .of (h _ (getD_mem hk)) ?_
  push_cast [w64 (show k < 2^62 by omega),hc]
  refine ⟨fun hp=>pf_ret ?_,fun hp=>?_⟩
  ·push_cast [slices_IndexFunc_s_string_string.rs]
   rw [idxI_some hk hp hq]
  ·exact ih fun j hj=>by rcases Nat.lt_succ_iff_lt_or_eq.1 hj with h | rfl;exact hq j h;exact hp
 ·intro hq
  refine slices_IndexFunc_s_string_string.G3 ?_
  push_cast [inlt (Nat.le_refl _)]
  refine pf_ret ?_
  push_cast [slices_IndexFunc_s_string_string.rs]
  rw [idxI_none hq]
theorem slices_ContainsFunc_s_string_string_s {p:Str→Bool} {g:Nat} {caps:List V} (hc:∀ σ,rens σ caps = caps) (l:List Str) (hl:l.length < 2^62) (h:∀ a∈l,PF g (.str a :: caps) (.bool (p a))) :
  PF n_slices_ContainsFunc_s_string_string [encL cS 1 l,.fn (.func g) [] caps] (.bool (l.any p)):=by
 refine pf_of slices_ContainsFunc_s_string_string.ok rfl ?_
 push_cast [hc]
 refine .of (slices_IndexFunc_s_string_string_s hc l hl h) ?_
 push_cast [hc]
 refine pf_ret ?_
 push_cast [slices_ContainsFunc_s_string_string.rs,idxI_any]
end Go.Dw
end
section
namespace Go.Dw
def letter (c:UInt8):Bool:=decide (97≤c.toNat∧c.toNat≤122) || decide (65≤c.toNat∧c.toNat≤90) || decide (48≤c.toNat∧c.toNat≤57) || decide (c.toNat = 95) || decide (c.toNat = 39)
theorem letter_cases {p:Prop} (c:UInt8)
  (h:∀ b1 b2 b3 b4 b5 b6 b7 b8:Bool,((97:Int)≤(c.toNat:Int)) = (b1 = true)→((c.toNat:Int)≤122) = (b2 = true)→((65:Int)≤(c.toNat:Int)) = (b3 = true)→((c.toNat:Int)≤90) = (b4 = true)→((48:Int)≤(c.toNat:Int)) = (b5 = true)→((c.toNat:Int)≤57) = (b6 = true) →
   ((c.toNat:Int) = 95) = (b7 = true)→((c.toNat:Int) = 39) = (b8 = true)→letter c = ((b1 && b2) || (b3 && b4) || (b5 && b6) || b7 || b8) →
   (b1,b2,b3,b4,b5,b6,b7,b8)∈[(false,true,false,true,false,true,false,false),(false,true,false,true,false,true,false,true),(false,true,false,true,true,true,false,false),(false,true,false,true,true,false,false,false),(false,true,true,true,true,false,false,false),(false,true,true,false,true,false,false,false),(false,true,true,false,true,false,true,false),(true,true,true,false,true,false,false,false),(true,false,true,false,true,false,false,false)]→p):p:=by
 have hr:(c.toNat < 39 ∨ 40≤c.toNat∧c.toNat < 48) ∨ (c.toNat = 39) ∨ (48≤c.toNat∧c.toNat≤57) ∨ (58≤c.toNat∧c.toNat < 65) ∨ (65≤c.toNat∧c.toNat≤90) ∨ (91≤c.toNat∧c.toNat < 97∧c.toNat ≠ 95) ∨ (c.toNat = 95) ∨ (97≤c.toNat∧c.toNat≤122) ∨ (122 < c.toNat):=by omega
 rcases hr with hr | hr | hr | hr | hr | hr | hr | hr | hr
 ·refine h false true false true false true false false ?_ ?_ ?_ ?_ ?_ ?_ ?_ ?_ ?_ (by simp)
  case refine_9=>simp [letter];omega
  all_goals (simp;omega)
 ·refine h false true false true false true false true ?_ ?_ ?_ ?_ ?_ ?_ ?_ ?_ ?_ (by simp)
  case refine_9=>simp [letter];omega
  all_goals (simp;omega)
 ·refine h false true false true true true false false ?_ ?_ ?_ ?_ ?_ ?_ ?_ ?_ ?_ (by simp)
  case refine_9=>simp [letter];omega
  all_goals (simp;omega)
 ·refine h false true false true true false false false ?_ ?_ ?_ ?_ ?_ ?_ ?_ ?_ ?_ (by simp)
  case refine_9=>simp [letter];omega
  all_goals (simp;omega)
 ·refine h false true true true true false false false ?_ ?_ ?_ ?_ ?_ ?_ ?_ ?_ ?_ (by simp)
  case refine_9=>simp [letter];omega
  all_goals (simp;omega)
 ·refine h false true true false true false false false ?_ ?_ ?_ ?_ ?_ ?_ ?_ ?_ ?_ (by simp)
  case refine_9=>simp [letter];omega
  all_goals (simp;omega)
 ·refine h false true true false true false true false ?_ ?_ ?_ ?_ ?_ ?_ ?_ ?_ ?_ (by simp)
  case refine_9=>simp [letter];omega
  all_goals (simp;omega)
 ·refine h true true true false true false false false ?_ ?_ ?_ ?_ ?_ ?_ ?_ ?_ ?_ (by simp)
  case refine_9=>simp [letter];omega
  all_goals (simp;omega)
 ·refine h true false true false true false false false ?_ ?_ ?_ ?_ ?_ ?_ ?_ ?_ ?_ (by simp)
  case refine_9=>simp [letter];omega
  all_goals (simp;omega)
theorem term_inName_s (c:UInt8):PF n_term_inName [.int .u8 c.toNat] (.bool (letter c)):=by
 refine pf_of term_inName.ok rfl ?_
 refine letter_cases c fun b1 b2 b3 b4 b5 b6 b7 b8 e1 e2 e3 e4 e5 e6 e7 e8 hl hm=>?_
 rw [hl];clear hl
 simp only [List.mem_cons,Prod.mk.injEq,List.not_mem_nil,or_false] at hm
 rcases hm with h | h | h | h | h | h | h | h | h <;> obtain ⟨rfl,rfl,rfl,rfl,rfl,rfl,rfl,rfl⟩:=h <;> push_cast [e1,e2,e3,e4,e5,e6,e7,e8] <;> refine pf_ret ?_ <;> push_cast [term_inName.rs] <;> rfl
end Go.Dw
end
section
namespace Go.Dw
def hasSuf (s p:Str):Bool:=decide (p.length≤s.length) && decide (s.drop (s.length - p.length) = p)
theorem isub {a b:Nat} (h:b≤a) (h2:a < 2^62):IntKind.i64.wrap ((a:Int) - (b:Int)) = ((a - b:Nat):Int):=by rw [wrap64 (by omega) (by omega)];omega
theorem stringslite_HasSuffix_s (s p:Str) (h1:s.length < 2^62) (h2:p.length < 2^62):PF n_stringslite_HasSuffix [.str s,.str p] (.bool (hasSuf s p)):=by
 refine pf_of stringslite_HasSuffix.ok rfl ?_
 by_cases h:p.length≤s.length
 ·have hi:((p.length:Int)≤(s.length:Int)) = True:=eq_true (by omega)
  push_cast [hi,isub h h1]
  refine ⟨by omega,pf_ret ?_⟩
  push_cast [stringslite_HasSuffix.rs,hasSuf,h]
  rw [List.take_of_length_le (by simp)]
 ·have hi:((p.length:Int)≤(s.length:Int)) = False:=eq_false (by omega)
  push_cast [hi]
  refine pf_ret ?_
  push_cast [stringslite_HasSuffix.rs,hasSuf,h]
def trimSuf (s p:Str):Str:=if hasSuf s p then s.take (s.length - p.length) else s
theorem stringslite_TrimSuffix_s (s p:Str) (h1:s.length < 2^62) (h2:p.length < 2^62):PF n_stringslite_TrimSuffix [.str s,.str p] (.str (trimSuf s p)):=by
 refine pf_of stringslite_TrimSuffix.ok rfl ?_
 push_cast
 refine .of (stringslite_HasSuffix_s s p h1 h2) ?_
 push_cast
 refine ⟨fun h=>?_,fun h=>pf_ret ?_⟩
 ·have hl:p.length≤s.length:=by simp only [hasSuf,Bool.and_eq_true,decide_eq_true_eq] at h;exact h.1
  push_cast [isub hl h1]
  refine ⟨by omega,pf_ret ?_⟩
  push_cast [stringslite_TrimSuffix.rs,trimSuf,h]
  simp
 ·push_cast [stringslite_TrimSuffix.rs,trimSuf,h]
theorem strings_TrimSuffix_s (s p:Str) (h1:s.length < 2^62) (h2:p.length < 2^62):PF n_strings_TrimSuffix [.str s,.str p] (.str (trimSuf s p)):=by
 refine pf_of strings_TrimSuffix.ok rfl ?_
 push_cast
 refine .of (stringslite_TrimSuffix_s s p h1 h2) ?_
 push_cast
 exact pf_ret (by push_cast [strings_TrimSuffix.rs])
theorem strings_HasSuffix_s (s p:Str) (h1:s.length < 2^62) (h2:p.length < 2^62):PF n_strings_HasSuffix [.str s,.str p] (.bool (hasSuf s p)):=by
 refine pf_of strings_HasSuffix.ok rfl ?_
 push_cast
 refine .of (stringslite_HasSuffix_s s p h1 h2) ?_
 push_cast
 exact pf_ret (by push_cast [strings_HasSuffix.rs])
theorem term_Marked_s (s:Str) (h1:s.length < 2^62):PF n_term_Marked [.str s] (.bool (hasSuf s [35])):=by
 refine pf_of term_Marked.ok rfl ?_
 push_cast
 refine .of (strings_HasSuffix_s s [35] h1 (by decide)) ?_
 push_cast
 exact pf_ret (by push_cast [term_Marked.rs])
theorem term_IsName_1_s (c:UInt8):PF n_term_IsName_1 [.int .u8 c.toNat] (.bool (!letter c)):=by
 refine pf_of term_IsName_1.ok rfl ?_
 push_cast
 refine .of (term_inName_s c) ?_
 push_cast
 exact pf_ret (by push_cast [term_IsName_1.rs])
def nameOf (s:Str) (marked:Bool):Str:=if marked then trimSuf s [35] else s
def isName (s:Str) (marked:Bool):Bool:=decide (s.length≤24) && (!decide (nameOf s marked = []) && (nameOf s marked).all letter)
theorem any_not {α:Type} (p:α→Bool) (l:List α):(!l.any fun a=>!p a) = l.all p:=by induction l with | nil=>rfl | cons a l ih=>simp_all
theorem trimSuf_len (s p:Str):(trimSuf s p).length≤s.length:=by unfold trimSuf;split <;> simp
theorem nameOf_len (s:Str) (m:Bool):(nameOf s m).length≤s.length:=by unfold nameOf;split;exact trimSuf_len _ _;exact Nat.le_refl _
theorem term_IsName_s (s:Str) (m:Bool) (h1:s.length < 2^62):PF n_term_IsName [.str s,.bool m] (.bool (isName s m)):=by
 refine pf_of term_IsName.ok rfl ?_
 push_cast
 refine ⟨fun h=>pf_ret ?_,fun h=>?_⟩
 ·push_cast [term_IsName.rs,isName]
  rw [show decide (s.length≤24) = false from decide_eq_false (by omega)];rfl
 ·have hlen:s.length≤24:=by omega
  have fin:∀ u:Str,u.length≤24→u = nameOf s m→PF n_slices_ContainsFunc_s_byte_byte [encL cU8 1 u,.fn (.func n_term_IsName_1) [] []] (.bool (u.any fun c=>!letter c)):=fun u hu _=>slices_ContainsFunc_s_byte_byte_s (p:=fun c=>!letter c) (caps:=[]) (fun _=>by push_cast) u (by omega) fun c _=>term_IsName_1_s c
  have hnl:=nameOf_len s m
  have hmx:(nameOf s m).length≤maxEls:=by unfold maxEls;omega
  cases m with
  | true =>
   push_cast
   refine .of (strings_TrimSuffix_s s [35] h1 (by decide)) ?_
   have hn:trimSuf s [35] = nameOf s true:=rfl
   rw [hn]
   push_cast
   by_cases hu:nameOf s true = []
   ·push_cast [hu]
    exact pf_ret (by push_cast [term_IsName.rs,isName,hu])
   ·push_cast [hu,hmx]
    refine .of (fin _ (by omega) rfl) ?_
    push_cast
    exact pf_ret (by push_cast [term_IsName.rs,isName,hu,hlen,any_not])
  | false =>
   have hn:s = nameOf s false:=rfl
   have hmx':s.length≤maxEls:=by unfold maxEls;omega
   push_cast
   by_cases hu:s = []
   ·push_cast [hu]
    exact pf_ret (by push_cast [term_IsName.rs,isName];simp [hu,nameOf])
   ·push_cast [hu,hmx']
    refine .of (fin _ (by omega) rfl) ?_
    push_cast
    exact pf_ret (by push_cast [term_IsName.rs,isName,← hn,hu,hlen,any_not])
end Go.Dw
end
section
namespace Go.Dw
mutual
def depth:Term→Nat
 | .mk _ _ l=>depths l+1
def depths:List Term→Nat
 | []=>0
 | a :: l=>max (depth a) (depths l)
end
theorem depth_args (t:Term):depth t = depths t.args+1:=by cases t;simp [depth,Term.args]
theorem depths_append (a b:List Term):depths (a++b) = max (depths a) (depths b):=by
 induction a with
 | nil=>simp [depths]
 | cons x xs ih=>simp [depths,ih,Nat.max_assoc]
theorem depths_take_succ (l:List Term) (k:Nat) (h:k < l.length):depths (l.take (k+1)) = max (depths (l.take k)) (depth (l.getD k default)):=by
 rw [take_succ_getD h,depths_append];simp [depths]
mutual
theorem depth_le_size:∀ t,depth t≤size t
 | .mk _ _ l=>by simp only [depth,size];have:=depths_le_sizes l;omega
theorem depths_le_sizes:∀ l,depths l≤sizes l
 | []=>by simp [depths,sizes]
 | a :: l=>by simp only [depths,sizes];have:=depth_le_size a;have:=depths_le_sizes l;omega
end
theorem depths_take_le (l:List Term) (k:Nat):depths (l.take k)≤depths l:=by
 conv=>rhs;rw [← List.take_append_drop k l]
 rw [depths_append];omega
theorem imax {a b:Nat}:(if (b:Int) > (a:Int) then (b:Int) else (a:Int)) = ((max a b:Nat):Int):=by split <;> omega
attribute [push_cast] imax
theorem term_Depth_s (t:Term) (hs:size t < 2^62):PF n_term_Depth [encT t] (.int .i64 (depth t)):=by
 induction t using term_ind with
 | h t ih =>
 refine pf_of term_Depth.ok rfl ?_
 have hst:=size_args t
 have hl:=length_le_sizes t.args
 have hd:=depths_le_sizes t.args
 push_cast
 refine loop_up (n:=t.args.length) (R:=fun k=>term_Depth.L3 (.int .i64 (depths (t.args.take k):Nat)) (encTs t.args) (.int .i64 t.args.length) (.int .i64 k) 0 [] _) ?_ ?_ 0 (by omega)
 ·intro k hk ih2
  have h1:=depths_take_succ _ _ hk
  have hm:=getD_mem hk
  have:=size_mem hm
  refine term_Depth.G3 ?_
  push_cast [ilt hk]
  refine .of (ih _ hm (by omega)) ?_
  push_cast [w64 (show k < 2^62 by omega)]
  rw [h1] at ih2
  exact ih2
 ·refine term_Depth.G3 ?_
  push_cast [inlt (Nat.le_refl _)]
  rw [wrap64 (by have:=depths_take_le t.args t.args.length;omega) (by have:=depths_take_le t.args t.args.length;omega)]
  refine pf_ret ?_
  push_cast [term_Depth.rs,List.take_length,depth_args t]
def tb:Term→Nat
 | .mk n _ l=>1+n.length+tbs l
where tbs:List Term→Nat
 | []=>0
 | a :: l=>tb a+tbs l
abbrev tbs:=tb.tbs
theorem tb_args (t:Term):tb t = 1+t.name.length+tbs t.args:=by cases t;simp [tb,Term.name,Term.args]
theorem tb_mem {l:List Term} {a:Term} (h:a∈l):tb a≤tbs l:=by
 induction l with
 | nil=>cases h
 | cons x xs ih=>rcases List.mem_cons.1 h with rfl | h <;> simp [tbs,tb.tbs];have:=ih h;simp only [tbs] at this;omega
mutual
theorem size_le_tb:∀ t,size t≤tb t
 | .mk _ _ l=>by simp only [size,tb];have:=sizes_le_tbs l;simp only [tbs] at this;omega
theorem sizes_le_tbs:∀ l,sizes l≤tbs l
 | []=>by simp [sizes]
 | a :: l=>by simp only [sizes,tbs,tb.tbs];have:=size_le_tb a;have:=sizes_le_tbs l;simp only [tbs] at this;omega
end
mutual
def formed:Term→Bool
 | .mk n v l=>if v then decide (l.length = 0) && isName n false else decide (l.length≤8) && (isName n true && formeds l)
def formeds:List Term→Bool
 | []=>true
 | a :: l=>formed a && formeds l
end
theorem formeds_all (l:List Term):formeds l = l.all formed:=by induction l with | nil=>rfl | cons a l ih=>simp [formeds,ih]
theorem formed_eq (t:Term):formed t = if t.var then decide (t.args.length = 0) && isName t.name false else decide (t.args.length≤8) && (isName t.name true && t.args.all formed):=by
 cases t with | mk n v l=>cases v <;> simp [formed,formeds_all,Term.var,Term.args,Term.name] <;> rfl
theorem length_le_tbs (l:List Term):l.length≤tbs l:=Nat.le_trans (length_le_sizes l) (sizes_le_tbs l)
theorem term_formed_s (t:Term) (hs:tb t < 2^62):PF n_term_formed [encT t] (.bool (formed t)):=by
 induction t using term_ind with
 | h t ih =>
 have htb:=tb_args t
 have hl:=length_le_tbs t.args
 have hI:∀ m,PF n_term_IsName [.str t.name,.bool m] (.bool (isName t.name m)):=fun m=>term_IsName_s _ m (by omega)
 have hC:=slices_ContainsFunc_s_Term_Term_s (p:=fun a=>!formed a) (g:=n_term_formed_1) (caps:=[]) (fun _=>by push_cast) t.args (by omega) fun a ha=>by
  refine pf_of term_formed_1.ok rfl ?_
  push_cast
  refine .of (ih a ha (by have:=tb_mem ha;omega)) ?_
  push_cast
  exact pf_ret (by push_cast [term_formed_1.rs])
 refine pf_of term_formed.ok rfl ?_
 cases hv:t.var with
 | true =>
  by_cases h0:t.args.length = 0
  ·push_cast [hv,h0]
   refine .of (hI false) ?_
   push_cast
   exact pf_ret (by push_cast [term_formed.rs,formed_eq t,hv,h0])
  ·have hi:((t.args.length:Int) = 0) = False:=eq_false (by omega)
   push_cast [hv,hi]
   exact pf_ret (by push_cast [term_formed.rs,formed_eq t,hv,h0])
 | false =>
  by_cases h0:t.args.length≤8
  ·have hi:((t.args.length:Int)≤8) = True:=eq_true (by omega)
   push_cast [hv,hi]
   refine .of (hI true) ?_
   cases hn:isName t.name true
   ·push_cast
    exact pf_ret (by push_cast [term_formed.rs,formed_eq t,hv,h0,hn])
   ·push_cast
    refine .of hC ?_
    push_cast
    exact pf_ret (by push_cast [term_formed.rs,formed_eq t,hv,h0,hn,any_not])
  ·have hi:((t.args.length:Int)≤8) = False:=eq_false (by omega)
   push_cast [hv,hi]
   exact pf_ret (by push_cast [term_formed.rs,formed_eq t,hv,h0])
def fits (t:Term):Bool:=decide (size t≤4000) && decide (depth t≤200)
theorem term_fits_s (t:Term) (hs:size t < 2^62):PF n_term_fits [encT t] (.bool (fits t)):=by
 refine pf_of term_fits.ok rfl ?_
 push_cast
 refine .of (term_Size_s t hs) ?_
 push_cast
 by_cases h:size t≤4000
 ·have hi:((size t:Int)≤4000) = True:=eq_true (by omega)
  push_cast [hi]
  refine .of (term_Depth_s t hs) ?_
  push_cast
  exact pf_ret (by push_cast [term_fits.rs,fits,h];simp;omega)
 ·have hi:((size t:Int)≤4000) = False:=eq_false (by omega)
  push_cast [hi]
  exact pf_ret (by push_cast [term_fits.rs,fits,h])
def check (t:Term):Int:=if formed t then (if fits t then 0 else 3) else 4
theorem term_Check_s (t:Term) (hs:tb t < 2^62):PF n_term_Check [encT t] (.int .i64 (check t)):=by
 refine pf_of term_Check.ok rfl ?_
 push_cast
 refine .of (term_formed_s t hs) ?_
 cases hf:formed t
 ·push_cast
  exact pf_ret (by push_cast [term_Check.rs,check,hf])
 ·push_cast
  refine .of (term_fits_s t (by have:=size_le_tb t;omega)) ?_
  cases hg:fits t <;> push_cast <;> exact pf_ret (by push_cast [term_Check.rs,check,hf,hg])
end Go.Dw
end
section
namespace Go.Dw
theorem room {n b:Nat} (h:n < 2^40) (hb:b≤64):(n+1) * b≤maxEls:=by
 have:(n+1) * b≤(2^40) * 64:=Nat.mul_le_mul (by omega) hb
 unfold maxEls;omega
theorem term_Own_s (t:Term) (hs:size t < 2^40):PF n_term_Own [encT t] (encT t):=by
 induction t using term_ind with
 | h t ih =>
 refine pf_of term_Own.ok rfl ?_
 have hst:=size_args t
 have hl:=length_le_sizes t.args
 push_cast
 refine loop_up (n:=t.args.length) (R:=fun k=>term_Own.L3 (.ptr 0 0) (.ptr 1 0) (encTs t.args) (.int .i64 t.args.length) (.int .i64 k) 0
  [.cells t_Term [.str [],.bool false,.sl 3 []],.cells t_Term [.str t.name,.bool t.var,ownL cT 2 3 (t.args.take k)],.arr t_Term 3 k] _) ?_ ?_ 0 (by omega)
 ·intro k hk ih2
  have hm:=getD_mem hk
  have hsm:=size_mem hm
  have hlt:(t.args.take k).length = k:=by simp;omega
  refine term_Own.G3 ?_
  push_cast [ilt hk]
  refine .of (ih _ hm (by omega)) ?_
  push_cast [hlt,room (show k < 2^40 by omega) (show 48≤64 by omega),w64 (show k < 2^62 by omega)]
  rw [take_succ_getD hk] at ih2
  exact ih2
 ·refine term_Own.G3 ?_
  push_cast [inlt (Nat.le_refl _)]
  refine pf_ret ?_
  push_cast [term_Own.rs,List.take_length]
  rw [encT,cT_eq]
def subT (t:Term):List Int→Option Term
 | []=>some t
 | i :: p=>if 0≤i∧i < t.args.length then subT (t.args.getD i.toNat default) p else none
def noT:Term:=.mk [] false []
def encOT:Option Term→V
 | some t=>.tup [encT t,.bool true]
 | none=>.tup [encT noT,.bool false]
theorem drop_of_none {p:List Int} {k:Nat} (h:¬ k < p.length):p.drop k = []:=List.drop_eq_nil_of_le (by omega)
theorem term_Sub_s (t:Term) (p:List Int) (hp:p.length < 2^62):PF n_term_Sub [encT t,encP p] (encOT (subT t p)):=by
 refine pf_of term_Sub.ok rfl ?_
 push_cast
 have key:∀ (n k:Nat) (u:Term),k+n = p.length→subT u (p.drop k) = subT t p→term_Sub.L3 (.ptr 0 0) (.ptr 1 0) (encP p) (.int .i64 p.length) (.int .i64 k) 0 [.cells t_Term (cT u),.cells t_Term [.str [],.bool false,.sl 3 []]]
   (Ends 0 term_Sub.rs fun x' H'=>x' = encOT (subT t p)∧H' = []):=by
  intro n
  induction n with
  | zero =>
   intro k u hk hq
   refine term_Sub.G3 ?_
   push_cast [inlt (show p.length≤k by omega)]
   refine pf_ret ?_
   rw [drop_of_none (by omega)] at hq
   push_cast [term_Sub.rs,← hq]
   rfl
  | succ n ih =>
   intro k u hk hq
   have hkl:k < p.length:=by omega
   rw [drop_getD hkl] at hq
   refine term_Sub.G3 ?_
   generalize hi:p.getD k default = i at hq
   by_cases h0:i < 0
   ·push_cast [ilt hkl,hi,h0]
    refine pf_ret ?_
    push_cast [term_Sub.rs]
    rw [← hq,subT,if_neg (by omega)];rfl
   ·by_cases h1:(u.args.length:Int)≤i
    ·push_cast [ilt hkl,hi,h0,h1]
     refine pf_ret ?_
     push_cast [term_Sub.rs]
     rw [← hq,subT,if_neg (by omega)];rfl
    ·push_cast [ilt hkl,hi,h0,h1,w64 (show k < 2^62 by omega)]
     refine ⟨by omega,ih (k+1) _ (by omega) ?_⟩
     rw [← hq,subT,if_pos (by omega)]
 exact key p.length 0 t (by omega) rfl
def setT (t:Term) (p:List Int) (x:Term):Term:=match p with
 | []=>x
 | i :: p=>.mk t.name t.var (if 0≤i∧i < t.args.length then t.args.set i.toNat (setT (t.args.getD i.toNat default) p x) else t.args)
theorem setT_args {t x:Term} {i:Int} {p:List Int}:(setT t (i :: p) x).args = if 0≤i∧i < t.args.length then t.args.set i.toNat (setT (t.args.getD i.toNat default) p x) else t.args:=rfl
theorem setT_args_get {t x:Term} {i:Int} {p:List Int} {k:Nat} (hk:k < t.args.length):(setT t (i :: p) x).args.getD k default = if (k:Int) = i then setT (t.args.getD k default) p x else t.args.getD k default:=by
 rw [setT_args]
 by_cases h:0≤i∧i < t.args.length
 ·rw [if_pos h]
  by_cases e:(k:Int) = i
  ·rw [if_pos e]
   subst e
   simp [List.getD_eq_getElem?_getD,hk]
  ·rw [if_neg e]
   simp only [List.getD_eq_getElem?_getD]
   rw [List.getElem?_set_ne (by omega)]
 ·rw [if_neg h,if_neg (by omega)]
theorem setT_args_len {t x:Term} {i:Int} {p:List Int}:(setT t (i :: p) x).args.length = t.args.length:=by
 rw [setT_args];split <;> simp
theorem setT_nv {t x:Term} {i:Int} {p:List Int}:(setT t (i :: p) x).name = t.name∧(setT t (i :: p) x).var = t.var:=⟨rfl,rfl⟩
theorem term_Set_s (p:List Int):∀ (t x:Term),size t < 2^40→size x < 2^40→p.length < 2^40→PF n_term_Set [encT t,encP p,encT x] (encT (setT t p x)):=by
 induction p with
 | nil =>
  intro t x ht hx hp
  refine pf_of term_Set.ok rfl ?_
  push_cast [List.length_nil]
  refine .of (term_Own_s x hx) ?_
  push_cast
  refine pf_ret ?_
  push_cast [term_Set.rs]
  rfl
 | cons i p ih =>
  intro t x ht hx hp
  have hst:=size_args t
  have hl:=length_le_sizes t.args
  have hpl:(i :: p).length = p.length+1:=rfl
  refine pf_of term_Set.ok rfl ?_
  have hne:((p.length:Int)+1 = 0) = False:=eq_false (by omega)
  push_cast [hne]
  have hal:=setT_args_len (t:=t) (x:=x) (i:=i) (p:=p)
  refine loop_up (n:=t.args.length) (R:=fun k=>term_Set.L3 (encP (i :: p)) (.ro (cT x) 0) (.ptr 0 0) (.ptr 1 0) (encTs t.args) (.int .i64 t.args.length) (.int .i64 k) 0
   [.cells t_Term [.str [],.bool false,.sl 3 []],.cells t_Term [.str t.name,.bool t.var,ownL cT 2 3 ((setT t (i :: p) x).args.take k)],.arr t_Term 3 k] _) ?_ ?_ 0 (by omega)
  ·intro k hk ih2
   have hm:=getD_mem hk
   have hsm:=size_mem hm
   have hlt:((setT t (i :: p) x).args.take k).length = k:=by simp;omega
   rw [take_succ_getD (by omega),setT_args_get hk] at ih2
   refine term_Set.G3 ?_
   have h0:((0:Int) < (p.length:Int)+1) = True:=eq_true (by omega)
   have hb:(1≤p.length+1) = True:=eq_true (by omega)
   by_cases he:(k:Int) = i
   ·rw [if_pos he] at ih2
    subst he
    push_cast [ilt hk,h0,List.getD_cons_zero,hb,List.drop_succ_cons,List.drop_zero,List.take_length]
    refine .of (ih _ _ (by omega) hx (by simp at hp;omega)) ?_
    push_cast [hlt,room (show k < 2^40 by omega) (show 48≤64 by omega),w64 (show k < 2^62 by omega)]
    exact ih2
   ·rw [if_neg he] at ih2
    push_cast [ilt hk,h0,List.getD_cons_zero,he,hb]
    refine .of (term_Own_s _ (by omega)) ?_
    push_cast [hlt,room (show k < 2^40 by omega) (show 48≤64 by omega),w64 (show k < 2^62 by omega)]
    exact ih2
  ·refine term_Set.G3 ?_
   push_cast [inlt (Nat.le_refl _)]
   refine pf_ret ?_
   rw [List.take_of_length_le (by omega)]
   push_cast [term_Set.rs]
   rw [encT,cT_eq,setT_nv.1,setT_nv.2]
def encTE (r:Option Term) (e:Int):V:=match r with
 | some t=>.tup [encT t,.int .i64 e]
 | none=>.tup [encT noT,.int .i64 e]
theorem term_Fit_s (t:Term) (hs:size t < 2^62):PF n_term_Fit [encT t] (if fits t then encTE (some t) 0 else encTE none 3):=by
 refine pf_of term_Fit.ok rfl ?_
 push_cast
 refine .of (term_fits_s t hs) ?_
 cases hf:fits t <;> push_cast <;> exact pf_ret (by push_cast [term_Fit.rs];rfl)
def checks:List Term→Int
 | []=>0
 | a :: l=>if check a ≠ 0 then check a else checks l
theorem term_All_s (l:List Term) (hl:l.length < 2^62) (hs:∀ t∈l,tb t < 2^62):PF n_term_All [encTs l] (.int .i64 (checks l)):=by
 refine pf_of term_All.ok rfl ?_
 push_cast
 refine loop_up (n:=l.length) (R:=fun k=>checks (l.drop k) = checks l→term_All.L3 (encTs l) (.int .i64 l.length) (.int .i64 k) 0 [] _) ?_ ?_ 0 (by omega) rfl
 ·intro k hk ih hq
  refine term_All.G3 ?_
  push_cast [ilt hk]
  refine .of (term_Check_s _ (hs _ (getD_mem hk))) ?_
  rw [drop_getD hk] at hq
  simp only [checks] at hq
  push_cast [w64 (show k < 2^62 by omega)]
  refine ⟨fun h=>pf_ret ?_,fun h=>ih ?_⟩
  ·push_cast [term_All.rs]
   rw [← hq,if_pos h]
  ·rw [← hq,if_neg h]
 ·intro hq
  refine term_All.G3 ?_
  push_cast [inlt (Nat.le_refl _)]
  refine pf_ret ?_
  push_cast [term_All.rs]
  rw [← hq,List.drop_eq_nil_of_le (Nat.le_refl _)];rfl
end Go.Dw
end
section
namespace Go.Dw
abbrev cmpS:Str→Str→Int:=Lib.compareBytes
theorem u8_lt_of {a b:UInt8} (h1:¬ a < b) (h2:¬ b < a):a = b:=UInt8.le_antisymm (UInt8.not_lt.1 h2) (UInt8.not_lt.1 h1)
theorem cmpS_eq:∀ a b:Str,cmpS a b = if a < b then -1 else if b < a then 1 else 0
 | [],[]=>by simp [cmpS,Lib.compareBytes]
 | [],_ :: _=>by simp [cmpS,Lib.compareBytes]
 | _ :: _,[]=>by simp [cmpS,Lib.compareBytes]
 | x :: a,y :: b=>by
  have ih:=cmpS_eq a b
  simp only [cmpS,Lib.compareBytes,List.cons_lt_cons_iff] at ih ⊢
  by_cases h1:x < y
  ·simp [h1]
  ·by_cases h2:y < x
   ·have hne:x ≠ y:=fun e=>by subst e;exact h1 h2
    have hne':y ≠ x:=fun e=>hne e.symm
    simp [h1,h2,hne]
   ·have:=u8_lt_of h1 h2
    subst this
    simp [h1,ih]
theorem slt_trans {a b c:Str} (h:a < b) (h2:b < c):a < c:=List.lt_trans h h2
theorem slt_asymm {a b:Str} (h:a < b):¬ b < a:=List.lt_asymm h
theorem slt_irrefl (a:Str):¬ a < a:=List.lt_irrefl a
theorem slt_eq {a b:Str} (h:¬ a < b) (h2:¬ b < a):a = b:=List.le_antisymm h2 h
theorem cmpS_neg {a b:Str}:cmpS a b < 0 ↔ a < b:=by
 rw [cmpS_eq]
 by_cases h:a < b
 ·simp [h]
 ·by_cases h2:b < a <;> simp [h,h2]
theorem cmpS_zero {a b:Str}:cmpS a b = 0 ↔ a = b:=by
 rw [cmpS_eq]
 by_cases h:a < b
 ·simp only [h,if_true];constructor
  ·intro e;omega
  ·intro e;subst e;exact absurd h (slt_irrefl a)
 ·by_cases h2:b < a
  ·simp only [h,h2,if_true,if_false];constructor
   ·intro e;omega
   ·intro e;subst e;exact absurd h2 (slt_irrefl a)
  ·simp only [h,h2,if_false,true_iff];exact slt_eq h h2
theorem bytesLess_eq:∀ a b:Str,Op.bytesLess a b = decide (a < b)
 | [],[]=>by simp [Op.bytesLess]
 | [],_ :: _=>by simp [Op.bytesLess]
 | _ :: _,[]=>by simp [Op.bytesLess]
 | x :: a,y :: b=>by
  simp only [Op.bytesLess,List.cons_lt_cons_iff,bytesLess_eq a b]
  rw [Bool.eq_iff_iff];simp
def Sorted (s:List ABind):Prop:=s.Pairwise fun a b=>a.name < b.name
def lbd (v:Str):List ABind→Nat
 | []=>0
 | b :: s=>if b.name < v then lbd v s+1 else 0
theorem lbd_le (v:Str):∀ s,lbd v s≤s.length
 | []=>Nat.le_refl _
 | b :: s=>by simp only [lbd,List.length_cons];have:=lbd_le v s;split <;> omega
theorem lbd_lt {v:Str}:∀ {s:List ABind} {j:Nat},j < lbd v s→(s.getD j default).name < v
 | [],j,h=>by simp [lbd] at h
 | b :: s,j,h=>by
  simp only [lbd] at h
  split at h
  ·rename_i hb
   cases j with
   | zero=>simpa using hb
   | succ j=>simpa using lbd_lt (s:=s) (j:=j) (by omega)
  ·omega
theorem lbd_ge {v:Str}:∀ {s:List ABind} {j:Nat},Sorted s→lbd v s≤j→j < s.length→¬ (s.getD j default).name < v
 | [],j,_,_,h=>by simp at h
 | b :: s,j,hs,h,hj=>by
  obtain ⟨h1,h2⟩:=List.pairwise_cons.1 hs
  simp only [lbd] at h
  split at h
  ·rename_i hb
   cases j with
   | zero=>omega
   | succ j=>simpa using lbd_ge (s:=s) (j:=j) h2 (by omega) (by simpa using hj)
  ·rename_i hb
   cases j with
   | zero=>simpa using hb
   | succ j =>
    have hm:s.getD j default∈s:=getD_mem (by simpa using hj)
    have:=h1 _ hm
    intro hlt
    simp only [List.getD_cons_succ] at hlt
    exact hb (slt_trans this hlt)
def image:List ABind→Str→Option Term
 | [],_=>none
 | b :: s,v=>if b.name = v then some b.term else image s v
def bound (s:List ABind) (v:Str):Bool:=(image s v).isSome
theorem image_lbd {v:Str}:∀ {s:List ABind},Sorted s→image s v = if lbd v s < s.length∧(s.getD (lbd v s) default).name = v then some (s.getD (lbd v s) default).term else none
 | [],_=>by simp [image]
 | b :: s,hs=>by
  obtain ⟨h1,h2⟩:=List.pairwise_cons.1 hs
  simp only [image,lbd]
  by_cases hb:b.name < v
  ·have hne:b.name ≠ v:=fun e=>by rw [e] at hb;exact slt_irrefl v hb
   simp only [hne,if_false,hb,if_true,image_lbd h2,List.getD_cons_succ,List.length_cons,Nat.add_lt_add_iff_right]
  ·simp only [hb,if_false,List.getD_cons_zero,List.length_cons]
   by_cases he:b.name = v
   ·simp [he]
   ·simp only [he,if_false,and_false]
    have:∀ c∈s,c.name ≠ v:=fun c hc e=>by
     have h3:=h1 c hc
     rw [e] at h3
     exact hb h3
    clear h1 h2 hs
    induction s with
    | nil=>rfl
    | cons c s ih=>simp only [image];rw [if_neg (this c (by simp)),ih fun d hd=>this d (by simp [hd])]
end Go.Dw
end
section
namespace Go.Dw
theorem cmpstring_s (a b:Str):PF n_bytealg_abigen_runtime_cmpstring [.str a,.str b] (.int .i64 (cmpS a b)):=by
 intro c vs hH hc hr
 obtain ⟨v1,vs1,rfl,h1,v2,vs2,rfl,h2,h3⟩:=hr
 have h1:v1 = .string ⟨⟨a⟩⟩:=h1
 have h2:v2 = .string ⟨⟨b⟩⟩:=h2
 have h3:vs2 = []:=h3
 subst h1 h2 h3
 right
 refine ⟨_,c.w,?_,_,.int .i64 (cmpS a b),c,rfl,rfl,⟨rfl,hH⟩,hc,rfl,.refl c⟩
 rw [run_callFunc_extern at_bytealg_abigen_runtime_cmpstring (by kernel_rfl) (by kernel_rfl) (by kernel_rfl) (e:=Extern.BytealgCompare.compare) (by kernel_rfl)]
 have:=Lib.run_compareString (P:=prog) ⟨⟨a⟩⟩ ⟨⟨b⟩⟩ c.w
 rw [this];rfl
theorem CompareString_s (a b:Str):PF n_bytealg_CompareString [.str a,.str b] (.int .i64 (cmpS a b)):=by
 refine pf_of bytealg_CompareString.ok rfl ?_
 push_cast
 refine .of (cmpstring_s a b) ?_
 push_cast
 exact pf_ret (by push_cast [bytealg_CompareString.rs])
theorem strings_Compare_s (a b:Str):PF n_strings_Compare [.str a,.str b] (.int .i64 (cmpS a b)):=by
 refine pf_of strings_Compare.ok rfl ?_
 push_cast
 refine .of (CompareString_s a b) ?_
 push_cast
 exact pf_ret (by push_cast [strings_Compare.rs])
theorem term_Image_1_s (b:ABind) (v:Str):PF n_term_Image_1 [encB b,.str v] (.int .i64 (cmpS b.name v)):=by
 refine pf_of term_Image_1.ok rfl ?_
 push_cast
 refine .of (strings_Compare_s _ _) ?_
 push_cast
 exact pf_ret (by push_cast [term_Image_1.rs])
theorem unify_bind_1_s (b:ABind) (v:Str):PF n_unify_bind_1 [encB b,.str v] (.int .i64 (cmpS b.name v)):=by
 refine pf_of unify_bind_1.ok rfl ?_
 push_cast
 refine .of (strings_Compare_s _ _) ?_
 push_cast
 exact pf_ret (by push_cast [unify_bind_1.rs])
theorem half {i j:Nat} (hi:i < 2^61) (hj:j < 2^61):IntKind.i64.wrap ((IntKind.u64.wrap (IntKind.i64.wrap ((i:Int)+(j:Int)))).fdiv (2^min 1 IntKind.u64.bits)) = (((i+j) / 2:Nat):Int):=by
 rw [wrap64 (x:=(i:Int)+j) (by omega) (by omega)]
 have h1:IntKind.u64.wrap ((i:Int)+(j:Int)) = ((i+j:Nat):Int):=by unfold IntKind.wrap IntKind.bits IntKind.signed;simp;omega
 rw [h1]
 have h2:(2^min 1 IntKind.u64.bits:Int) = 2:=by decide
 rw [h2]
 have h3:((i+j:Nat):Int).fdiv 2 = (((i+j) / 2:Nat):Int):=by
  rw [Int.fdiv_eq_ediv_of_nonneg _ (by omega)];omega
 rw [h3,wrap64 (by omega) (by omega)]
theorem BinarySearch_s {g:Nat} (hg:∀ b v,PF g [encB b,.str v] (.int .i64 (cmpS b.name v))) (s:List ABind) (v:Str) (hs:Sorted s) (hl:s.length < 2^61) :
  PF n_slices_BinarySearchFunc_s_Bind_Bind_string [encBs s,.str v,.fn (.func g) [] []] (.tup [.int .i64 (lbd v s),.bool (bound s v)]):=by
 refine pf_of slices_BinarySearchFunc_s_Bind_Bind_string.ok rfl ?_
 have hle:=lbd_le v s
 push_cast
 have key:∀ (m i j:Nat),j - i≤m→i≤lbd v s→lbd v s≤j→j≤s.length→slices_BinarySearchFunc_s_Bind_Bind_string.L3 (encBs s) (.str v) (.fn (.func g) [] []) (.int .i64 s.length) (.int .i64 i) (.int .i64 j) 0 []
   (Ends 0 slices_BinarySearchFunc_s_Bind_Bind_string.rs fun x' H'=>x' = .tup [.int .i64 (lbd v s),.bool (bound s v)]∧H' = []):=by
  intro m
  induction m with
  | zero =>
   intro i j hm h1 h2 h3
   have hij:i = lbd v s:=by omega
   refine slices_BinarySearchFunc_s_Bind_Bind_string.G3 ?_
   push_cast [inlt (show j≤i by omega)]
   unfold bound
   rw [image_lbd hs]
   by_cases hi:i < s.length
   ·push_cast [ilt hi]
    refine .of (hg _ _) ?_
    push_cast
    refine pf_ret ?_
    push_cast [slices_BinarySearchFunc_s_Bind_Bind_string.rs,cmpS_zero,hij]
    rw [hij] at hi
    by_cases hn:(s.getD (lbd v s) default).name = v
    ·rw [if_pos ⟨hi,hn⟩];simp only [hn];rfl
    ·rw [if_neg (fun h=>hn h.2)];simp only [hn];rfl
   ·push_cast [inlt (show s.length≤i by omega)]
    refine pf_ret ?_
    push_cast [slices_BinarySearchFunc_s_Bind_Bind_string.rs,hij]
    rw [if_neg (fun h=>hi (by omega))]
    rfl
  | succ m ih =>
   intro i j hm h1 h2 h3
   by_cases hij:i < j
   ·refine slices_BinarySearchFunc_s_Bind_Bind_string.G3 ?_
    have hh:=half (i:=i) (j:=j) (by omega) (by omega)
    generalize hq:(i+j) / 2 = h at hh
    have hk:h < s.length:=by omega
    push_cast [ilt hij]
    simp only [hh]
    push_cast [ilt hk]
    refine .of (hg _ _) ?_
    push_cast [w64 (show h < 2^62 by omega),cmpS_neg]
    refine ⟨fun hc=>ih (h+1) j (by omega) ?_ h2 h3,fun hc=>ih i h (by omega) h1 ?_ (by omega)⟩
    ·rcases Nat.lt_or_ge h (lbd v s) with h4 | h4
     ·omega
     ·exact absurd hc (lbd_ge hs h4 hk)
    ·rcases Nat.lt_or_ge h (lbd v s) with h4 | h4
     ·exact absurd (lbd_lt h4) hc
     ·exact h4
   ·exact ih i j (by omega) h1 h2 h3
 exact key s.length 0 s.length (by omega) (by omega) hle (Nat.le_refl _)
theorem term_Image_s (s:List ABind) (v:Str) (hs:Sorted s) (hl:s.length < 2^61):PF n_term_Image [encBs s,.str v] (encOT (image s v)):=by
 have hB:=BinarySearch_s term_Image_1_s s v hs hl
 have hi:=image_lbd (v:=v) hs
 refine pf_of term_Image.ok rfl ?_
 push_cast
 refine callG_new hB ?_
 push_cast
 unfold bound
 by_cases hc:lbd v s < s.length∧(s.getD (lbd v s) default).name = v
 ·rw [if_pos hc] at hi
  push_cast [hi,Option.isSome_some,ilt hc.1]
  refine pf_ret ?_
  push_cast [term_Image.rs]
  rfl
 ·rw [if_neg hc] at hi
  push_cast [hi,Option.isSome_none]
  refine pf_ret ?_
  push_cast [term_Image.rs]
  rfl
end Go.Dw
end
section
namespace Go.Dw
def bbs:List ABind→Nat
 | []=>0
 | b :: s=>1+b.name.length+tb b.term+bbs s
theorem bbs_mem {s:List ABind} {b:ABind} (h:b∈s):1+b.name.length+tb b.term≤bbs s:=by
 induction s with
 | nil=>cases h
 | cons x xs ih=>rcases List.mem_cons.1 h with rfl | h <;> simp [bbs];have:=ih h;omega
theorem length_le_bbs (s:List ABind):s.length≤bbs s:=by
 induction s with
 | nil=>simp
 | cons x xs ih=>simp only [bbs,List.length_cons];omega
theorem drop_map_none {α:Type} {l:List α}:l.drop l.length = []:=List.drop_eq_nil_of_le (Nat.le_refl _)
theorem sle {a b:Str}:(decide (a < b) || a == b) = !decide (b < a):=by
 by_cases h:b < a
 ·have h1:¬ a < b:=slt_asymm h
  have h2:a ≠ b:=fun e=>by subst e;exact slt_irrefl _ h
  simp [h,h1,h2]
 ·by_cases h1:a < b
  ·simp [h,h1]
  ·have:=slt_eq h1 h
   simp [h,this]
theorem strOpV_leq {a b:List UInt8}:strOpV .leq a b = some (.bool (!decide (b < a))):=by unfold strOpV;simp only [bytesLess_eq];rw [← sle]
theorem strOpV_gtr {a b:List UInt8}:strOpV .gtr a b = some (.bool (decide (b < a))):=by unfold strOpV;simp only [bytesLess_eq];rw [sle,Bool.not_not]
theorem strOpV_geq {a b:List UInt8}:strOpV .geq a b = some (.bool (!decide (a < b))):=by unfold strOpV;simp only [bytesLess_eq]
attribute [push_cast] strOpV_leq strOpV_gtr strOpV_geq bytesLess_eq
end Go.Dw
end
section
namespace Go.Dw
mutual
def inst (s:List ABind):Term→Term
 | .mk n v l=>if v then (image s n).getD (.mk n true []) else .mk n false (insts s l)
def insts (s:List ABind):List Term→List Term
 | []=>[]
 | a :: l=>inst s a :: insts s l
end
theorem insts_map (s:List ABind) (l:List Term):insts s l = l.map (inst s):=by induction l with | nil=>rfl | cons a l ih=>simp [insts,ih]
theorem inst_eq (s:List ABind) (t:Term):inst s t = if t.var then (image s t.name).getD (.mk t.name true []) else .mk t.name false (t.args.map (inst s)):=by
 cases t with | mk n v l=>simp only [inst,insts_map,Term.var,Term.name,Term.args];rfl
theorem image_mem {s:List ABind} {v:Str} {x:Term} (h:image s v = some x):∃ b∈s,b.name = v∧b.term = x:=by
 induction s with
 | nil=>cases h
 | cons b s ih =>
  simp only [image] at h
  split at h
  ·rename_i h2;exact ⟨b,by simp,h2,by simpa using h⟩
  ·obtain ⟨c,hc,h3⟩:=ih h;exact ⟨c,by simp [hc],h3⟩
theorem image_size {s:List ABind} {v:Str} {x:Term} (h:image s v = some x):tb x≤bbs s:=by
 obtain ⟨b,hb,_,rfl⟩:=image_mem h
 have:=bbs_mem hb;omega
theorem sizes_map_le {f:Term→Term} {m:Nat}:∀ {l:List Term},(∀ a∈l,size (f a)≤size a * m)→sizes (l.map f)≤sizes l * m
 | [],_=>by simp [sizes]
 | a :: l,h=>by
  have h1:=h a (by simp)
  have h2:=sizes_map_le (l:=l) fun b hb=>h b (by simp [hb])
  simp only [List.map_cons,sizes,Nat.add_mul];omega
theorem inst_size (s:List ABind) (t:Term):size (inst s t)≤size t * (1+bbs s):=by
 induction t using term_ind with
 | h t ih =>
  rw [inst_eq]
  have h1:1 * (1+bbs s)≤size t * (1+bbs s):=Nat.mul_le_mul_right _ (by rw [size_args];omega)
  split
  ·cases hx:image s t.name with
   | some x=>have:=image_size hx;have:=size_le_tb x;simp only [Option.getD_some];omega
   | none=>simp only [Option.getD_none,size,sizes];omega
  ·have:=sizes_map_le (f:=inst s) (m:=1+bbs s) ih
   simp only [size,size_args t,Nat.add_mul];omega
theorem mul_lt {a b:Nat} (ha:a < 2^30) (hb:b < 2^30):a * b≤2^60:=by
 have:a * b≤2^30 * 2^30:=Nat.mul_le_mul (by omega) (by omega)
 omega
theorem inst_small {s:List ABind} {t:Term} (ht:tb t < 2^30) (hs:bbs s < 2^29):size (inst s t)≤2^60:=by
 have h1:=inst_size s t
 have h2:=size_le_tb t
 have:=mul_lt (a:=size t) (b:=1+bbs s) (by omega) (by omega)
 omega
theorem term_measure_s (s:List ABind) (hs:Sorted s) (hb:bbs s < 2^29) (t:Term) (ht:tb t < 2^30):PF n_term_measure [encBs s,encT t] (.agg [.int .i64 (size (inst s t)),.int .i64 (depth (inst s t))]):=by
 have hl:=length_le_bbs s
 induction t using term_ind with
 | h t ih =>
 have hI:=term_Image_s s t.name hs (by omega)
 have htb:=tb_args t
 have hlt:=length_le_tbs t.args
 have hsm:=inst_small ht hb
 refine pf_of term_measure.ok rfl ?_
 cases hv:t.var with
 | true =>
  push_cast [hv]
  refine .of hI ?_
  rw [inst_eq,hv]
  cases hx:image s t.name with
  | some x =>
   have h1:=image_size hx
   have h2:=size_le_tb x
   push_cast [encOT]
   refine .of (term_Size_s x (by omega)) ?_
   push_cast
   refine .of (term_Depth_s x (by omega)) ?_
   push_cast
   refine pf_ret ?_
   push_cast [term_measure.rs]
   exact ⟨rfl,rfl⟩
  | none =>
   push_cast [encOT]
   refine pf_ret ?_
   push_cast [term_measure.rs]
   exact ⟨rfl,rfl⟩
 | false =>
  have he:inst s t = .mk t.name false (t.args.map (inst s)):=by rw [inst_eq,hv];rfl
  rw [he] at hsm
  rw [he]
  simp only [size] at hsm
  have hd:=depths_le_sizes (t.args.map (inst s))
  push_cast [hv]
  refine loop_up (n:=t.args.length) (R:=fun k=>term_measure.L3 (encBs s) (.ptr 0 0) (.ptr 1 0) (encTs t.args) (.int .i64 t.args.length) (.int .i64 k) 0
   [.cells t_term_meter [.int .i64 0,.int .i64 0],.cells t_term_meter [.int .i64 (1+sizes ((t.args.take k).map (inst s)):Nat),.int .i64 (depths ((t.args.take k).map (inst s)):Nat)]] _) ?_ ?_ 0 (by omega)
  ·intro k hk ih2
   have hm:=getD_mem hk
   have hs1:sizes ((t.args.take (k+1)).map (inst s)) = sizes ((t.args.take k).map (inst s))+size (inst s (t.args.getD k default)):=by
    rw [take_succ_getD hk,List.map_append,sizes_append];simp [sizes]
   have hd1:depths ((t.args.take (k+1)).map (inst s)) = max (depths ((t.args.take k).map (inst s))) (depth (inst s (t.args.getD k default))):=by
    rw [take_succ_getD hk,List.map_append,depths_append];simp [depths]
   have hle:sizes ((t.args.take (k+1)).map (inst s))≤sizes (t.args.map (inst s)):=by
    rw [List.map_take];exact sizes_take_le _ _
   have htm:=tb_mem hm
   rw [hs1,hd1] at ih2
   refine term_measure.G3 ?_
   push_cast [ilt hk]
   refine .of (ih _ hm (by omega)) ?_
   push_cast [w64 (show k < 2^62 by omega)]
   rw [wrap64 (by omega) (by omega),Int.add_assoc]
   push_cast at ih2
   exact ih2
  ·refine term_measure.G3 ?_
   push_cast [inlt (Nat.le_refl _)]
   refine pf_ret ?_
   rw [wrap64 (by rw [List.take_length];omega) (by rw [List.take_length];omega)]
   push_cast [term_measure.rs,size,depth,List.take_length]
theorem term_replace_s (s:List ABind) (hs:Sorted s) (hb:bbs s < 2^40) (t:Term) (ht:tb t < 2^40):PF n_term_replace [encBs s,encT t] (encT (inst s t)):=by
 have hl:=length_le_bbs s
 induction t using term_ind with
 | h t ih =>
 have hI:=term_Image_s s t.name hs (by omega)
 have htb:=tb_args t
 have hlt:=length_le_tbs t.args
 refine pf_of term_replace.ok rfl ?_
 cases hv:t.var with
 | true =>
  push_cast [hv]
  refine .of hI ?_
  rw [inst_eq,hv]
  cases hx:image s t.name with
  | some x =>
   have h1:=image_size hx
   have h2:=size_le_tb x
   push_cast [encOT]
   refine .of (term_Own_s x (by omega)) ?_
   push_cast
   refine pf_ret ?_
   push_cast [term_replace.rs]
   rfl
  | none =>
   push_cast [encOT]
   refine pf_ret ?_
   push_cast [term_replace.rs]
   rfl
 | false =>
  have he:inst s t = .mk t.name false (t.args.map (inst s)):=by rw [inst_eq,hv];rfl
  rw [he]
  push_cast [hv]
  refine loop_up (n:=t.args.length) (R:=fun k=>term_replace.L3 (encBs s) (.ptr 0 0) (.ptr 1 0) (encTs t.args) (.int .i64 t.args.length) (.int .i64 k) 0
   [.cells t_Term [.str [],.bool false,.sl 3 []],.cells t_Term [.str t.name,.bool false,ownL cT 2 3 ((t.args.take k).map (inst s))],.arr t_Term 3 k] _) ?_ ?_ 0 (by omega)
  ·intro k hk ih2
   have hm:=getD_mem hk
   have htm:=tb_mem hm
   have hlt:((t.args.take k).map (inst s)).length = k:=by simp;omega
   rw [take_succ_getD hk,List.map_append] at ih2
   refine term_replace.G3 ?_
   push_cast [ilt hk]
   refine .of (ih _ hm (by omega)) ?_
   push_cast [hlt,room (show k < 2^40 by omega) (show 48≤64 by omega),w64 (show k < 2^62 by omega)]
   exact ih2
  ·refine term_replace.G3 ?_
   push_cast [inlt (Nat.le_refl _)]
   refine pf_ret ?_
   push_cast [term_replace.rs,List.take_length,cT_mk]
theorem inst_none (s:List ABind) (t:Term):(if 4000 < size (inst s t) ∨ 200 < depth (inst s t) then encTE none 3 else encTE (some (inst s t)) 0) = if fits (inst s t) then encTE (some (inst s t)) 0 else encTE none 3:=by
 unfold fits
 by_cases h1:4000 < size (inst s t)
 ·rw [if_pos (.inl h1),if_neg (by simp;omega)]
 ·by_cases h2:200 < depth (inst s t)
  ·rw [if_pos (.inr h2),if_neg (by simp;omega)]
  ·rw [if_neg (by omega),if_pos (by simp;omega)]
theorem term_Instance_s (s:List ABind) (hs:Sorted s) (hb:bbs s < 2^29) (t:Term) (ht:tb t < 2^30):PF n_term_Instance [encBs s,encT t] (if fits (inst s t) then encTE (some (inst s t)) 0 else encTE none 3):=by
 rw [← inst_none]
 refine pf_of term_Instance.ok rfl ?_
 push_cast
 refine .of (term_measure_s s hs hb t ht) ?_
 by_cases h1:4000 < size (inst s t)
 ·have h1':((4000:Int) < (size (inst s t):Int)) = True:=eq_true (by omega)
  push_cast [h1']
  refine pf_ret ?_
  push_cast [term_Instance.rs]
  rw [if_pos (.inl h1)];rfl
 ·have h1':((4000:Int) < (size (inst s t):Int)) = False:=eq_false (by omega)
  by_cases h2:200 < depth (inst s t)
  ·have h2':((200:Int) < (depth (inst s t):Int)) = True:=eq_true (by omega)
   push_cast [h1',h2']
   refine pf_ret ?_
   push_cast [term_Instance.rs]
   rw [if_pos (.inr h2)];rfl
  ·have h2':((200:Int) < (depth (inst s t):Int)) = False:=eq_false (by omega)
   push_cast [h1',h2']
   refine .of (term_replace_s s hs (by omega) t (by omega)) ?_
   push_cast
   refine pf_ret ?_
   push_cast [term_Instance.rs]
   rw [if_neg (by omega)];rfl
end Go.Dw
end
section
namespace Go.Dw
theorem ends_one {rs:List RV} {t:T} {H:List Ob} {Q:V→List Ob→Prop} {e:X} (k:Nat) {x:V} {o:Ob} (h:retV rs t H = some x) (hk:H[k]? = some o) (hq:Q (ren (pos? [k]) x) [renOb (pos? [k]) o])
  (he:e = .ret ∨ e = .fall:=by first | exact .inl rfl | exact .inr rfl):Ends 0 rs Q e t H:=by
 refine ends_ex (B:=0) he [k] (by simp) (fun i hi=>?_) h ?_
 ·simp only [List.mem_singleton] at hi;subst hi;exact (List.getElem?_eq_some_iff.1 hk).1
 ·have:give (List.range 0++[k]) H = [renOb (pos? [k]) o]:=by
   simp only [List.range_zero,List.nil_append,give,List.map_cons,List.map_nil,List.getD_eq_getElem?_getD,hk,Option.getD_some]
  rw [this];exact hq
theorem slices_Clone_int_s (p:List Int) (hp:p.length < 2^40):Spec prog n_slices_Clone_s_int_int [encP p] [] fun x' H'=>x' = ownL cI 0 1 p∧H' = [.arr t_int 1 p.length]:=by
 refine spec_of_run mixed slices_Clone_s_int_int.ok rfl ?_
 push_cast
 intro c hc
 refine ⟨fun h=>?_,fun h=>⟨by rw [List.length_map];unfold maxEls;omega,?_⟩⟩
 ·have hp0:p = []:=by simpa using hc (by cases c <;> simp_all)
  subst hp0
  exact ends_one 1 rfl rfl ⟨rfl,rfl⟩
 ·exact ends_one 1 rfl rfl ⟨rfl,by simp [renOb]⟩
section
variable {α:Type} {H l:List α} {n:Nat} (h:H.length = n)
include h
theorem get_off (k:Nat):(H++l)[n+k]? = l[k]?:=by rw [List.getElem?_append_right (by omega)];congr 1;omega
theorem get_off0:(H++l)[n]? = l[0]?:=get_off h 0
theorem set_off (k:Nat) (x:α):(H++l).set (n+k) x = H++l.set k x:=by rw [List.set_append_right _ _ (by omega)];congr 2;omega
theorem set_off0 (x:α):(H++l).set n x = H++l.set 0 x:=set_off h 0 x
theorem take_off:(H++l).take n = H:=List.take_left' h
end
theorem shut_clip {n:Nat} {H:List Ob} (h:Shut n H):H.map (renOb (clip n)) = H:=h.2
theorem pos_range (n:Nat):pos? (List.range n) = clip n:=by
 funext i
 unfold pos? clip
 by_cases h:i < n
 ·rw [if_pos h,List.findIdx?_eq_some_iff_getElem]
  refine ⟨by simpa using h,by simp,fun j hj=>by simp;omega⟩
 ·rw [if_neg h,List.findIdx?_eq_none_iff]
  intro x hx
  have:=List.mem_range.1 hx
  simp;omega
theorem give_keep {n:Nat} {H J:List Ob} (h:Shut n H):give (List.range n) (H++J) = H:=by
 have h2:=h.2
 unfold give
 rw [pos_range]
 conv=>rhs;rw [← h2]
 apply List.ext_getElem
 ·simp [h.1]
 ·intro i hi1 hi2
  have hi:i < H.length:=by simpa [h.1] using hi1
  simp [List.getD_eq_getElem?_getD,List.getElem?_append_left hi,hi]
theorem takeB_keep {n:Nat} {H J H':List Ob} (h:Shut n H) (h':Shut n H'):takeB (List.range n) (H++J) H' = H'++J:=by
 have hb:∀ i,i < n→back (List.range n) (H++J).length i = some i:=fun i hi=>by simp [back,hi]
 unfold takeB
 rw [List.length_range,List.drop_of_length_le (by rw [h'.1];exact Nat.le_refl _),List.map_nil,List.append_nil,shut_map h'.2 hb]
 unfold takeG
 rw [pos_range]
 apply List.ext_getElem
 ·simp [h.1,h'.1]
 ·intro i hi1 hi2
  simp only [List.getElem_map,List.getElem_range]
  unfold clip
  by_cases hi:i < n
  ·have:i < H'.length:=by rw [h'.1];exact hi
   rw [if_pos hi,List.getElem_append_left this]
   simp [List.getD_eq_getElem?_getD,this]
  ·rw [if_neg hi,List.getElem_append_right (by rw [h'.1];omega)]
   have:H.length≤i:=by rw [h.1];omega
   simp only [List.getD_eq_getElem?_getD]
   rw [List.getElem?_append_right this]
   have h3:i - H.length < J.length:=by simp only [List.length_append,h'.1] at hi2;rw [h.1];omega
   simp only [h.1,h'.1] at h3 ⊢
   simp [h3]
section
variable {N:Nat→C} {B:Nat} {s:List K} {t:T} {H:List Ob} {Q:X→T→List Ob→Prop}
theorem callG_keep {d:Option Nat} {l:List S} {F:Fn} {vs vs':List V} {n:Nat} {J:List Ob} {R:V→List Ob→Prop} (h:Shut n H) (hvs:rens (clip n) vs = vs') (hs:SpecF prog F vs' H R) (hR:∀ x H',R x H'→Shut n H')
  (k:∀ x H',R x H'→Run prog N B (.r l :: s) (setO d (ren (back (List.range n) (H++J).length) x) t) (H'++J) Q):CallG prog N B d l s t Q F vs (H++J):=by
 refine CallG.some (List.range n) List.nodup_range (fun i hi=>by have:=List.mem_range.1 hi;rw [List.length_append,h.1];omega) (R:=R) ?_ ?_
 ·rw [give_keep h,pos_range,hvs];exact hs
 ·intro x H' hx _
  rw [takeB_keep h (hR x H' hx)]
  exact k x H' hx
end
theorem ends_keep {rs:List RV} {t:T} {n:Nat} {H J:List Ob} {Q:V→List Ob→Prop} {e:X} {x:V} (h:Shut n H) (hr:retV rs t (H++J) = some x) (hq:Q (ren (clip n) x) H)
  (he:e = .ret ∨ e = .fall:=by first | exact .inl rfl | exact .inr rfl):Ends n rs Q e t (H++J):=by
 refine ends_ex (B:=n) he [] (by simp [List.nodup_range]) (fun i hi=>by cases hi) hr ?_
 rw [List.append_nil,give_keep h,pos_range];exact hq
mutual
def visit:Term→List Int→List (List Int × Term)
 | .mk n v l,p=>(p,.mk n v l) :: visits l p 0
def visits:List Term→List Int→Nat→List (List Int × Term)
 | [],_,_=>[]
 | a :: l,p,i=>visit a (p++[(i:Int)])++visits l p (i+1)
end
theorem visit_eq (t:Term) (p:List Int):visit t p = (p,t) :: visits t.args p 0:=by cases t;simp [visit,Term.args]
theorem visits_append (a b:List Term) (p:List Int) (i:Nat):visits (a++b) p i = visits a p i++visits b p (i+a.length):=by
 induction a generalizing i with
 | nil=>simp [visits]
 | cons x xs ih=>simp only [List.cons_append,visits,ih,List.append_assoc,List.length_cons];congr 3;omega
theorem visits_take_succ {l:List Term} {p:List Int} {k:Nat} (h:k < l.length):visits (l.take (k+1)) p 0 = visits (l.take k) p 0++visit (l.getD k default) (p++[(k:Int)]):=by
 rw [take_succ_getD h,visits_append]
 have:(l.take k).length = k:=by simp;omega
 simp [visits,this]
theorem visits_drop {l:List Term} {p:List Int} {k:Nat} (h:k < l.length):visits l p 0 = visits (l.take k) p 0++(visit (l.getD k default) (p++[(k:Int)])++visits (l.drop (k+1)) p (k+1)):=by
 have h1:l = l.take k++(l.getD k default :: l.drop (k+1)):=by rw [← drop_getD h,List.take_append_drop]
 have:(l.take k).length = k:=by simp;omega
 conv=>lhs;rw [h1,visits_append]
 rw [visits,this,Nat.zero_add]
def encIt (x:List Int × Term):List V:=[encP x.1,encT x.2]
theorem at_app {α:Type} {l a b c:List α} {k:Nat} (h:l.drop k = a++(b++c)):l.drop (k+a.length) = b++c:=by
 rw [← List.drop_drop,h,List.drop_left]
theorem at_get {α:Type} {l b:List α} {a:α} {k:Nat} (h:l.drop k = a :: b):l[k]? = some a:=by
 have:=List.getElem?_drop (xs:=l) (i:=k) (j:=0)
 rw [h] at this;simpa using this.symm
theorem term_walk_s {F:Fn} {G:Nat→List Ob→Prop} {S:List Ob→Prop} {n:Nat} {its:List (List Int × Term)} (hG:∀ k H,G k H→Shut n H) (hS:∀ H,S H→Shut n H)
  (hF:∀ k it H,its[k]? = some it→G k H→SpecF prog F (encIt it) H fun x H'=>x = .bool true∧G (k+1) H' ∨ x = .bool false∧S H') (t:Term) :
  ∀ (p:List Int) (k:Nat) (rest:List (List Int × Term)),its.drop k = visit t p++rest→p.length+size t < 2^40→∀ H,G k H→Spec prog n_term_walk [encT t,encP p,.fn F [] []] H fun x H'=>x = .bool true∧G (k+(visit t p).length) H' ∨ x = .bool false∧S H':=by
 induction t using term_ind with
 | h t ih =>
 intro p k rest hd hsz H hg
 have hH:=hG _ _ hg
 have hl:=length_le_sizes t.args
 have hst:=size_args t
 rw [visit_eq,List.cons_append] at hd
 refine spec_of_run mixed term_walk.ok rfl ?_
 push_cast
 refine .all (hF k _ H (at_get hd) hg) ?_
 rintro x H1 (⟨rfl,hg1⟩ | ⟨rfl,hs1⟩)
 case inr =>
  push_cast
  refine ends_all (.inl rfl) rfl (.inr ⟨rfl,hs1⟩)
 case inl =>
  have hH1:=hG _ _ hg1
  have hkp:∀ H1,Shut n H1→(H1.take H.length).map (renOb (clip H.length)) = H1:=fun H1 h=>by rw [hH.1,List.take_of_length_le (Nat.le_of_eq h.1),h.2]
  push_cast [hkp H1 hH1]
  have hd1:its.drop (k+1) = visits t.args p 0++rest:=by rw [← List.drop_drop,hd];rfl
  refine loop_up (n:=t.args.length) (R:=fun j=>∀ H1,G (k+1+(visits (t.args.take j) p 0).length) H1→term_walk.L3 (encP p) (.fn F [] []) (encTs t.args) (.int .i64 t.args.length) (.int .i64 j) H.length H1 _) ?_ ?_ 0 (by omega) H1 hg1
  ·intro j hj ih2 H1 hg1
   have hm:=getD_mem hj
   have hsm:=size_mem hm
   have hH1:=hG _ _ hg1
   have hn:H.length = n:=hH.1
   rw [hn]
   refine term_walk.G3 ?_
   push_cast [ilt hj,hH1.1,get_off0 hH1.1,get_off hH1.1,set_off hH1.1,set_off0 hH1.1,w64 (show j < 2^62 by omega)]
   have hp1:(p++[(j:Int)]).length+size (t.args.getD j default) < 2^40:=by rw [List.length_append,List.length_singleton];omega
   have hd2:its.drop (k+1+(visits (t.args.take j) p 0).length) = visit (t.args.getD j default) (p++[(j:Int)])++(visits (t.args.drop (j+1)) p (j+1)++rest):=by
    refine at_app ?_
    rw [hd1,visits_drop hj];simp
   have hw:SpecF prog (.func n_term_walk) _ _ _:=specF_func ▸ ih _ hm _ _ _ hd2 hp1 H1 hg1
   rw [visits_take_succ hj,List.length_append] at ih2
   refine ⟨?_,?_⟩ <;>
   ·refine callG_new (slices_Clone_int_s p (by omega)) ?_
    push_cast [hH1.1,get_off0 hH1.1,get_off hH1.1,set_off hH1.1,set_off0 hH1.1]
    refine ⟨by unfold maxEls;omega,?_⟩
    refine callG_keep hH1 (vs':=[encT (t.args.getD j default),encP (p++[(j:Int)]),.fn F [] []]) ?_ hw ?_ ?_
    ·push_cast
     rw [if_neg (by omega)]
     simp [encL,cI]
    ·rintro x H2 (⟨_,h⟩ | ⟨_,h⟩)
     ·exact hG _ _ h
     ·exact hS _ h
    ·rintro x H2 (⟨rfl,h⟩ | ⟨rfl,h⟩)
     ·have hH2:=hG _ _ h
      push_cast [w64 (show j < 2^62 by omega),take_off hH2.1,shut_clip hH2]
      have:=ih2 H2 (by rw [← Nat.add_assoc];exact h)
      rw [hn] at this
      exact this
     ·have hH2:=hS _ h
      push_cast
      exact ends_keep hH2 rfl (.inr ⟨rfl,h⟩)
  ·intro H1 hg1
   refine term_walk.G3 ?_
   push_cast [inlt (Nat.le_refl _)]
   refine ends_all (.inl rfl) rfl (.inl ⟨rfl,?_⟩)
   rw [List.take_length] at hg1
   rw [visit_eq,List.length_cons,Nat.add_comm _ 1,← Nat.add_assoc]
   exact hg1
theorem term_Walk_iter (t:Term) (hs:size t < 2^40):IterSpec prog n_term_Walk_1 [] [.ro (cT t) 0] ((visit t []).map encIt):=by
 intro F G S n hG hS hF H hg
 have hH:=hG _ _ hg
 refine spece_of_run mixed term_Walk_1.ok rfl ?_
 push_cast
 have hw:=term_walk_s (F:=F) (n:=n) (its:=visit t []) hG hS (fun k it H' hit=>hF k (encIt it) H' (by rw [List.getElem?_map,hit];rfl)) t [] 0 [] (by simp) (by simpa using hs) H hg
 have hw:SpecF prog (.func n_term_walk) _ _ _:=specF_func ▸ hw
 refine CallG.all hw ?_
 rintro x H1 (⟨rfl,h⟩ | ⟨rfl,h⟩)
 ·push_cast
  exact ends_all (.inr rfl) rfl (.inl (by rw [Nat.zero_add] at h;rw [List.length_map];exact h))
 ·push_cast
  exact ends_all (.inr rfl) rfl (.inr h)
theorem term_Walk_s (t:Term):PF n_term_Walk [encT t] (.fn (.func n_term_Walk_1) [] [.ro (cT t) 0]):=by
 refine pf_of term_Walk.ok rfl ?_
 push_cast
 exact pf_ret (by push_cast [term_Walk.rs])
end Go.Dw
end
section
namespace Go.Proofs
open Go.RowKit Go.Shelf Go.Sort
def Tryz.laysSort_ren:Go.Shelf.Ren:=⟨fun | 190=>165 | 125=>173 | 258=>228 | 128=>240 | 129=>241 | 302=>265 | 303=>266 | 304=>267 | 305=>268 | 306=>269 | 307=>270 | 308=>271 | 309=>272 | 310=>273 | 333=>294 | 329=>276 | 330=>277 | 334=>295 | 335=>296 | 336=>262 | 344=>307 | n=>n,fun | 31=>104 | 9=>9 | 3=>3 | 46=>176 | 0=>0 | 51=>234 | 53=>114 | 4=>4 | 183=>257 | 182=>256 | 131=>194 | 5=>5 | 218=>286 | 222=>290 | 228=>307 | 229=>83 | n=>n,fun | n=>n⟩
theorem Tryz.laysSort:Go.Proofs.Lays.n190 Tryz.prog Tryz.laysSort_ren:={
 mixed:=by kernel_rfl
 f125:=Tryz.func173.trans (congrArg some (by kernel_rfl))
 f128:=Tryz.func240.trans (congrArg some (by kernel_rfl))
 f129:=Tryz.func241.trans (congrArg some (by kernel_rfl))
 f190:=Tryz.func165.trans (congrArg some (by kernel_rfl))
 f258:=Tryz.func228.trans (congrArg some (by kernel_rfl))
 f302:=Tryz.func265.trans (congrArg some (by kernel_rfl))
 f303:=Tryz.func266.trans (congrArg some (by kernel_rfl))
 f304:=Tryz.func267.trans (congrArg some (by kernel_rfl))
 f305:=Tryz.func268.trans (congrArg some (by kernel_rfl))
 f306:=Tryz.func269.trans (congrArg some (by kernel_rfl))
 f307:=Tryz.func270.trans (congrArg some (by kernel_rfl))
 f308:=Tryz.func271.trans (congrArg some (by kernel_rfl))
 f309:=Tryz.func272.trans (congrArg some (by kernel_rfl))
 f310:=Tryz.func273.trans (congrArg some (by kernel_rfl))
 f329:=Tryz.func276.trans (congrArg some (by kernel_rfl))
 f330:=Tryz.func277.trans (congrArg some (by kernel_rfl))
 f333:=Tryz.func294.trans (congrArg some (by kernel_rfl))
 f334:=Tryz.func295.trans (congrArg some (by kernel_rfl))
 f335:=Tryz.func296.trans (congrArg some (by kernel_rfl))
 f336:=Tryz.func262.trans (congrArg some (by kernel_rfl))
 f344:=Tryz.func307.trans (congrArg some (by kernel_rfl))
 t0:=Tryz.underlying0
 a0:=Tryz.isAgg0
 z0:=Tryz.sizeOf0
 v0:=Tryz.zeroValue0
 t3:=Tryz.underlying3
 a3:=Tryz.isAgg3
 z3:=Tryz.sizeOf3
 v3:=Tryz.zeroValue3
 t4:=Tryz.underlying4
 a4:=Tryz.isAgg4
 z4:=Tryz.sizeOf4
 v4:=Tryz.zeroValue4
 t5:=Tryz.underlying5
 a5:=Tryz.isAgg5
 z5:=Tryz.sizeOf5
 v5:=Tryz.zeroValue5
 t9:=Tryz.underlying9
 a9:=Tryz.isAgg9
 z9:=Tryz.sizeOf9
 v9:=Tryz.zeroValue9
 t31:=Tryz.underlying104
 a31:=Tryz.isAgg104
 z31:=Tryz.sizeOf104
 v31:=Tryz.zeroValue104
 t46:=Tryz.underlying176
 a46:=Tryz.isAgg176
 z46:=Tryz.sizeOf176
 v46:=Tryz.zeroValue176
 t51:=Tryz.underlying234
 a51:=Tryz.isAgg234
 z51:=Tryz.sizeOf234
 v51:=Tryz.zeroValue234
 t53:=Tryz.underlying114
 a53:=Tryz.isAgg114
 z53:=Tryz.sizeOf114
 v53:=Tryz.zeroValue114
 t131:=Tryz.underlying194
 a131:=Tryz.isAgg194
 z131:=Tryz.sizeOf194
 v131:=Tryz.zeroValue194
 t182:=Tryz.underlying256
 a182:=Tryz.isAgg256
 z182:=Tryz.sizeOf256
 v182:=Tryz.zeroValue256
 t183:=Tryz.underlying257
 a183:=Tryz.isAgg257
 z183:=Tryz.sizeOf257
 v183:=Tryz.zeroValue257
 t218:=Tryz.underlying286
 a218:=Tryz.isAgg286
 z218:=Tryz.sizeOf286
 v218:=Tryz.zeroValue286
 t222:=Tryz.underlying290
 a222:=Tryz.isAgg290
 z222:=Tryz.sizeOf290
 v222:=Tryz.zeroValue290
 t228:=Tryz.underlying307
 a228:=Tryz.isAgg307
 z228:=Tryz.sizeOf307
 v228:=Tryz.zeroValue307
 t229:=Tryz.underlying83
 a229:=Tryz.isAgg83
 z229:=Tryz.sizeOf83
 v229:=Tryz.zeroValue83 }
theorem Tryz.sort_num:Tryz.laysSort_ren.f 190 = Go.Dw.n_slices_Sort_s_string_string:=by kernel_rfl
theorem Tryz.sort_in (args:Array Value) (w:World):(callFunc Go.Dw.n_slices_Sort_s_string_string args).run Tryz.prog w = .ok (.enter Go.Dw.n_slices_Sort_s_string_string args) w:=by
 have:=enters_of (P:=Tryz.prog) Tryz.laysSort.f190 (by kernel_rfl) rfl args w
 rw [Tryz.sort_num] at this
 exact this
abbrev sortS (l:List (List UInt8)):List (List UInt8):=l.mergeSort fun x y=>decide (x≤y)
theorem Tryz.sort_c (blk off cap:Nat) (zs:List (List UInt8)) (w:World) (hH:Holds encStr w blk off zs.toArray) (hblk:blk < w.heap.size) (hsz:zs.length < 4611686018427387904) :
  Calls Tryz.prog Go.Dw.n_slices_Sort_s_string_string #[.slice (some ⟨blk,off,none⟩) zs.length cap] w fun e w' =>
   e = .returned (.tuple #[])∧∃ n os,w' = grow (putRow encStr (Sort.ahead w n) blk off (sortS zs).toArray) os:=by
 have:=calls_of_every_depth fun D=>AnyS.slices_Sort_string_alone Tryz.laysSort D blk off cap zs w hH hblk hsz
 rw [Tryz.sort_num] at this
 exact this
theorem Tryz.sort_n (cap:Nat) (w:World):Calls Tryz.prog Go.Dw.n_slices_Sort_s_string_string #[.slice none 0 cap] w fun e w'=>e = .returned (.tuple #[])∧w' = w:=by
 have:=calls_of_every_depth fun D=>AnyS.slices_Sort_string_none_alone Tryz.laysSort D none cap w
 rw [Tryz.sort_num] at this
 exact this
end Go.Proofs
namespace Go.Dw
open Go.Proofs Go.Sort
theorem sort_row (l:List (List UInt8)):Spec prog n_slices_Sort_s_string_string [.rw 0 1 l.length] [.row t_string 1 (l.map fun s=>[V.str s])] fun x H'=>x = .tup []∧H' = [.row t_string 1 ((sortS l).map fun s=>[V.str s])]:=by
 intro c vs hH hc hr
 obtain ⟨v,vs',rfl,h1,h2⟩:=hr
 have h2:vs' = []:=h2
 subst h2
 left
 have h0:c.H[0]? = some (.row t_string 1 (l.map fun s=>[V.str s])):=by rw [hH];rfl
 obtain ⟨q1,q2⟩:=hc.obj 0 _ h0
 obtain ⟨p1,⟨a,k,p2,p3,p4⟩,p5⟩:=h1
 have hcur:=(p5 _ _ _ h0).2.2 (by simp)
 have hperm:(sortS l).length = l.length:=(List.mergeSort_perm l _).length_eq
 refine ⟨Tryz.sort_in _ _,?_⟩
 cases hρ:c.ρ 0 with
 | none =>
  have hl:l = []:=by simpa using q1 hρ
  subst hl
  rw [hρ] at hcur
  have hcur:v = .slice none 0 0:=hcur
  subst hcur
  refine (Tryz.sort_n 0 c.w).mono ?_
  rintro e w' ⟨rfl,rfl⟩
  exact ⟨_,.tup [],c,rfl,rfl,⟨rfl,by rw [hH];simp⟩,hc,⟨#[],rfl,rfl⟩,.refl c⟩
 | some bk =>
  obtain ⟨b,m⟩:=bk
  rw [hρ] at hcur
  have hcur:v = .slice (some ⟨b,0,none⟩) l.length m:=hcur
  subst hcur
  obtain ⟨vs,r1,r2,r3,r4,r5,r6⟩:=q2 b m hρ
  have hblt:b < c.w.heap.size:=(Array.getElem?_eq_some_iff.1 r1).1
  have hcell:∀ j (s:List UInt8),l[j]? = some s→vs[j]? = some (encStr s):=fun j s hj=>by
   obtain ⟨_,hx⟩:=r6 j [V.str s] (by rw [List.getElem?_map,hj];rfl)
   obtain ⟨v,e1,_,e3⟩:=hx 0 _ rfl
   have e3:v = .string ⟨⟨s⟩⟩:=e3
   rw [Nat.mul_one,Nat.add_zero] at e1
   rw [e1,e3]
  have hHolds:Holds encStr c.w b 0 l.toArray:=fun j hj=>by
   have hj:j < l.length:=by simpa using hj
   have hg:l[j]? = some l[j]:=by simp [hj]
   have:=hcell j _ hg
   have hgd:l.toArray[j]! = l[j]:=by simp [hj]
   refine ⟨?_,?_⟩
   ·simp only [World.cell?,r1,Nat.zero_add,hgd]
    exact this
   ·simp [World.frozen?,r1]
  refine (Tryz.sort_c b 0 m l c.w hHolds hblt (by unfold maxEls at p3;omega)).mono ?_
  rintro e w' ⟨rfl,n,os,rfl⟩
  generalize hso:sortS l = so at hperm
  generalize hw':grow (putRow encStr (Sort.ahead c.w n) b 0 so.toArray) os = w'
  have hsz:w'.heap.size = c.w.heap.size+os.size:=by subst hw';simp [grow,putRow,mapBlock,Sort.ahead]
  have hoth:∀ b',b' < c.w.heap.size→b' ≠ b→w'.heap[b']? = c.w.heap[b']?:=fun b' h1 h2=>by
   subst hw'
   simp only [grow,putRow,mapBlock,Sort.ahead]
   rw [Array.getElem?_append_left (by simpa using h1),Array.getElem?_modify,if_neg (Ne.symm h2)]
  have hsame:w'.heap[b]? = some (.cells (putCells encStr 0 so.toArray vs) t_string (0,0)):=by
   subst hw'
   simp only [grow,putRow,mapBlock,Sort.ahead]
   rw [Array.getElem?_append_left (by simpa using hblt),Array.getElem?_modify,if_pos rfl,r1]
   rfl
  have howns:∀ b',c.owns b' ↔ b' = b:=fun b'=>by
   constructor
   ·rintro ⟨i,k',h1,h2⟩
    have:i = 0:=by rw [hH] at h1;simpa using h1
    subst this
    rw [hρ] at h2;cases h2;rfl
   ·rintro rfl;exact ⟨0,m,p1,hρ⟩
  refine ⟨_,.tup [],⟨w',c.ok,c.ρ,[.row t_string 1 (so.map fun s=>[V.str s])]⟩,rfl,rfl,⟨rfl,rfl⟩,?_,⟨#[],rfl,rfl⟩,?_⟩
  ·refine ⟨fun i j b1 k1 k2 h1 h2 _ _=>?_,fun b' o h=>?_,fun i o hi=>?_⟩
   ·simp only [List.length_singleton] at h1 h2;omega
   ·have:=hc.okLt _ _ h;show b' < w'.heap.size;omega
   ·cases i with
    | succ i=>simp at hi
    | zero =>
     simp only [List.getElem?_cons_zero,Option.some.injEq] at hi
     subst hi
     refine ⟨fun h=>?_,fun b' k' h=>?_⟩
     ·have h:c.ρ 0 = none:=h
      rw [hρ] at h;cases h
     ·have h:c.ρ 0 = some (b',k'):=h
      rw [hρ] at h;cases h
      refine ⟨putCells encStr 0 so.toArray vs,hsame,by simpa [putCells] using r2,by simpa [hperm] using r3,r4,r5,fun i el hi=>?_⟩
      rw [List.getElem?_map] at hi
      cases hs:so[i]? with
      | none=>rw [hs] at hi;cases hi
      | some s =>
       rw [hs] at hi;cases hi
       refine ⟨rfl,fun j x hx=>?_⟩
       cases j with
       | succ j=>simp at hx
       | zero =>
        simp only [List.getElem?_cons_zero,Option.some.injEq] at hx
        subst hx
        have hil:i < so.length:=(List.getElem?_eq_some_iff.1 hs).1
        have hsi:so[i] = s:=(List.getElem?_eq_some_iff.1 hs).2
        have hiv:i < vs.size:=by rw [List.length_map] at r3;omega
        refine ⟨encStr s,?_,rfl,rfl⟩
        rw [Nat.mul_one,Nat.add_zero]
        simp only [putCells,Array.getElem?_mapIdx,Array.getElem?_eq_getElem hiv,Option.map_some]
        rw [if_pos (by simpa using hil)]
        simp [hil,hsi]
  ·refine ⟨fun _ _ h=>h,fun b' o h=>?_,by show c.w.heap.size≤w'.heap.size;omega,fun _ _ h=>.inl h,fun b' hb hno=>hoth b' hb (fun e=>hno ((howns b').2 e)),fun b' hb=>.inl ?_,fun j o hj=>?_,?_,?_,?_,?_⟩
   ·have hne:b' ≠ b:=fun e=>r5 o (e ▸ h)
    simp only [World.cell?]
    rw [hoth b' (hc.okLt _ _ h) hne]
   ·obtain ⟨i,k',h1,h2⟩:=hb
    exact ⟨i,k',by rw [hH];exact h1,h2⟩
   ·rw [hH] at hj
    cases j with
    | succ j=>simp at hj
    | zero =>
     simp only [List.getElem?_cons_zero,Option.some.injEq] at hj
     subst hj
     exact ⟨_,rfl,rfl,rfl,by simp [hperm],fun _=>rfl⟩
   ·subst hw';rfl
   ·subst hw';rfl
   ·subst hw';rfl
   ·subst hw';exact Nat.le_add_right _ _
end Go.Dw
end
section
namespace Go.Dw
open Go.Proofs (sortS)
theorem rens_strs {σ:Nat→Option Nat} {l:List Str}:(l.map fun s=>[V.str s]).map (rens σ) = l.map fun s=>[V.str s]:=by rw [List.map_map];rfl
attribute [push_cast] rens_strs
theorem take_2 (a b c d o:Ob):takeB [2] [a,b,c,d] [o] = [a,b,renOb (back [2] 4) o,d]:=rfl
theorem give_2 (a b c d:Ob):give [2] [a,b,c,d] = [renOb (pos? [2]) c]:=rfl
def addS (ks:List Str) (n:Str):List Str:=if n∈ks then ks else ks++[n]
def encKs (ks:List Str):List (V × V):=ks.map fun k=>(.str k,.bool true)
theorem ren_encKs {σ:Nat→Option Nat} {ks:List Str}:((encKs ks).map fun p=>(ren σ p.1,ren σ p.2)) = encKs ks:=by
 unfold encKs;rw [List.map_map];rfl
attribute [push_cast] ren_encKs
theorem findM_encKs (n:Str):∀ (ks:List Str) (i:Nat),findM (.str n) (encKs ks) i = some (if n∈ks then some (i+ks.idxOf n,.bool true) else none)
 | [],i=>by simp [findM,encKs]
 | k :: ks,i=>by
  have ih:=findM_encKs n ks (i+1)
  unfold encKs at ih ⊢
  by_cases h:k = n
  ·subst h;simp [findM,sameK]
  ·have h':n ≠ k:=fun e=>h e.symm
   have e:sameK (.str n) (.str k) = some false:=by simp [sameK,h']
   have hb:(k == n) = false:=by simp [h]
   simp only [List.map_cons,findM,e,ih,List.mem_cons,h',false_or,List.idxOf_cons,hb,cond_false]
   split
   ·congr 3;omega
   ·rfl
theorem updM_encKs (n:Str) (ks:List Str):updM (.str n) (.bool true) (encKs ks) = some (encKs (addS ks n)):=by
 unfold updM
 rw [findM_encKs]
 unfold addS
 by_cases h:n∈ks
 ·simp only [h,if_true]
  congr 1
  unfold encKs
  apply List.ext_getElem (by simp)
  intro i h1 h2
  rw [List.getElem_set]
  split
  ·rename_i e
   subst e
   simp [List.getElem_idxOf]
  ·rfl
 ·simp only [h,if_false]
  simp [encKs]
def varsIn (l:List (List Int × Term)):List Str:=(l.filter fun x=>x.2.var).map fun x=>x.2.name
def vset (ks:List Str) (l:List (List Int × Term)):List Str:=(varsIn l).foldl addS ks
def vsetT (ks:List Str) (l:List Term):List Str:=l.foldl (fun ks t=>vset ks (visit t [])) ks
def varsOf (l:List Term):List Str:=sortS (vsetT [] l)
mutual
theorem visit_len:∀ (t:Term) (p:List Int),(visit t p).length = size t
 | .mk n v l,p=>by simp only [visit,size,List.length_cons,visits_len l p 0];omega
theorem visits_len:∀ (l:List Term) (p:List Int) (i:Nat),(visits l p i).length = sizes l
 | [],p,i=>rfl
 | a :: l,p,i=>by simp only [visits,sizes,List.length_append,visit_len a,visits_len l]
end
theorem addS_len (ks:List Str) (n:Str):(addS ks n).length≤ks.length+1:=by unfold addS;split <;> simp
theorem foldl_addS_len:∀ (l:List Str) (ks:List Str),(l.foldl addS ks).length≤ks.length+l.length
 | [],ks=>by simp
 | n :: l,ks=>by have:=foldl_addS_len l (addS ks n);have:=addS_len ks n;simp only [List.foldl_cons,List.length_cons];omega
theorem vset_len (ks:List Str) (l:List (List Int × Term)):(vset ks l).length≤ks.length+l.length:=by
 have h1:=foldl_addS_len (varsIn l) ks
 have h2:(varsIn l).length≤l.length:=by unfold varsIn;rw [List.length_map];exact List.length_filter_le _ _
 unfold vset;omega
theorem vsetT_len:∀ (l:List Term) (ks:List Str),(vsetT ks l).length≤ks.length+sizes l
 | [],ks=>by simp [vsetT,sizes]
 | t :: l,ks=>by
  have h1:=vsetT_len l (vset ks (visit t []))
  have h2:=vset_len ks (visit t [])
  rw [visit_len] at h2
  simp only [vsetT,List.foldl_cons,sizes] at h1 ⊢;omega
theorem term_VarsOf_s (l:List Term) (hs:sizes l < 2^40):PF n_term_VarsOf [encTs l] (encSs (varsOf l)):=by
 have hl:=length_le_sizes l
 refine pf_of term_VarsOf.ok rfl ?_
 push_cast
 refine loop_up (n:=l.length) (R:=fun k=>term_VarsOf.L8 (.ptr 1 0) .any (encTs l) (.int .i64 l.length) (.int .i64 k) 0 [.map (encKs (vsetT [] (l.take k))),.cells t_m_string_bool [.map 0]] _) ?_ ?_ 0 (by omega)
 ·intro k hk ih
  have hm:=getD_mem hk
  have hsm:=size_mem hm
  refine term_VarsOf.G8 ?_
  push_cast [ilt hk]
  refine .of (term_Walk_s _) ?_
  push_cast
  have hks:vsetT [] (l.take (k+1)) = vset (vsetT [] (l.take k)) (visit (l.getD k default) []):=by rw [take_succ_getD hk];simp [vsetT]
  rw [hks] at ih
  generalize vsetT [] (l.take k) = ks at ih ⊢
  generalize l.getD k default = u at ih hsm ⊢
  refine Run.rf n_term_Walk_1 [] [.ro (cT u) 0] ((visit u []).map encIt) (fun j H1=>H1 = [.map (encKs (vset ks ((visit u []).take j))),.cells t_m_string_bool [.map 0],.dead]) (fun _ _=>False) rfl (term_Walk_iter u (by omega)) ?_ (by simp [vset,varsIn]) ?_ ?_ (fun _ _ h=>h.elim) ?_ ?_ (fun _ _ h=>h.elim)
  ·intro it hit
   obtain ⟨x,_,rfl⟩:=List.mem_map.1 hit
   rfl
  ·push_cast
  ·rintro j H1 rfl
   refine ⟨rfl,?_⟩
   push_cast
  ·rintro lo r j it H1 hit rfl
   rw [List.getElem?_map] at hit
   cases hx:(visit u [])[j]? with
   | none=>rw [hx] at hit;cases hit
   | some x =>
   rw [hx] at hit
   have hit:it = encIt x:=by simpa using hit.symm
   subst hit
   have hj:j < (visit u []).length:=(List.getElem?_eq_some_iff.1 hx).1
   have hxj:(visit u [])[j] = x:=(List.getElem?_eq_some_iff.1 hx).2
   have htk:(visit u []).take (j+1) = (visit u []).take j++[x]:=by rw [List.take_succ_eq_append_getElem hj,hxj]
   push_cast [setPs,encIt]
   refine run_m.2 ?_
   cases hv:x.2.var with
   | false =>
    have hvs:vset ks ((visit u []).take (j+1)) = vset ks ((visit u []).take j):=by rw [htk];simp [vset,varsIn,hv]
    push_cast [hv]
    refine ⟨rfl,?_⟩
    push_cast [cut,hvs]
   | true =>
    have hvs:vset ks ((visit u []).take (j+1)) = addS (vset ks ((visit u []).take j)) x.2.name:=by rw [htk];simp [vset,varsIn,hv]
    push_cast [hv,updM_encKs,ksB]
    refine ⟨rfl,?_⟩
    push_cast [cut,hvs]
  ·rintro H1 rfl
   push_cast [w64 (show k < 2^62 by omega)]
   have:(visit u []).take ((visit u []).map encIt).length = visit u []:=by rw [List.length_map,List.take_length]
   rw [this]
   exact ih
 ·refine term_VarsOf.G8 ?_
  push_cast [inlt (Nat.le_refl _)]
  unfold varsOf
  rw [List.take_length]
  have hkl:=vsetT_len l []
  generalize vsetT [] l = ks at hkl ⊢
  simp only [List.length_nil,Nat.zero_add] at hkl
  have hlen:(encKs ks).length = ks.length:=by unfold encKs;rw [List.length_map]
  rw [hlen]
  have fin:∀ (seen:List Nat),seen.Nodup→(∀ i∈seen,i < ks.length)→(∀ k,k < ks.length→k∈seen)→sortS (seen.map fun i=>ks.getD i []) = sortS ks:=fun seen h1 h2 h3=>by
   refine Go.mergeSort_of_perm ?_
   have hp:seen.Perm (List.range ks.length):=(List.perm_ext_iff_of_nodup h1 List.nodup_range).2 fun i=>by rw [List.mem_range];exact ⟨h2 i,h3 i⟩
   have he:(List.range ks.length).map (fun i=>ks.getD i []) = ks:=by
    apply List.ext_getElem (by simp)
    intro i a b
    have hi:i < ks.length:=by simpa using b
    simp [List.getD_eq_getElem?_getD,hi]
   have:=hp.map fun i=>ks.getD i []
   rw [he] at this
   exact this
  have key:∀ (m:Nat) (seen:List Nat),ks.length - seen.length≤m→seen.Nodup→(∀ i∈seen,i < ks.length)→term_VarsOf.L3 (.rw 2 1 seen.length) (.it 3) 0
    [.map (encKs ks),.cells t_m_string_bool [.map 0],.row t_string 1 ((seen.map fun i=>ks.getD i []).map fun s=>[V.str s]),.iter (some 0) ks.length seen]
    (Ends 0 term_VarsOf.rs fun x' H'=>x' = encSs (sortS ks)∧H' = []):=by
   intro m
   induction m with
   | zero =>
    intro seen hm hnd hlt
    refine term_VarsOf.G3 ?_
    push_cast
    refine nxP_of 0 ks.length seen (encKs ks) rfl rfl hlen.symm (fun hall=>?_) (fun k p hp hk=>?_)
    ·have hsl:(seen.map fun i=>ks.getD i []).length = seen.length:=by simp
     have hc:=sort_row (seen.map fun i=>ks.getD i [])
     have hso:(sortS (seen.map fun i=>ks.getD i [])).length = seen.length:=by rw [(List.mergeSort_perm _ _).length_eq,hsl]
     rw [hsl,fin seen hnd hlt hall] at hc
     rw [fin seen hnd hlt hall] at hso
     push_cast
     refine CallG.some [2] (by simp) (by simp) (R:=fun x H'=>x = .tup []∧H' = [.row t_string 1 ((sortS ks).map fun s=>[V.str s])]) (by rw [give_2,renOb_row,rens_strs];exact hc) ?_
     rintro x H' ⟨rfl,rfl⟩ _
     rw [take_2]
     push_cast
     refine ⟨by rw [List.length_map];exact hso,pf_ret ?_⟩
     push_cast [term_VarsOf.rs]
     rfl
    ·have:(seen++[k]).length≤(List.range ks.length).length:=List.Nodup.length_le_of_subset (by simp [List.nodup_append,hnd];intro a ha e;exact hk (e ▸ ha)) (by
      intro i hi
      rw [List.mem_range]
      rcases List.mem_append.1 hi with h | h
      ·exact hlt i h
      ·simp only [List.mem_singleton] at h;subst h;rw [← hlen];exact (List.getElem?_eq_some_iff.1 hp).1)
     simp at this;omega
   | succ m ih =>
    intro seen hm hnd hlt
    refine term_VarsOf.G3 ?_
    push_cast
    refine nxP_of 0 ks.length seen (encKs ks) rfl rfl hlen.symm (fun hall=>?_) (fun k p hp hk=>?_)
    ·have hsl:(seen.map fun i=>ks.getD i []).length = seen.length:=by simp
     have hc:=sort_row (seen.map fun i=>ks.getD i [])
     have hso:(sortS (seen.map fun i=>ks.getD i [])).length = seen.length:=by rw [(List.mergeSort_perm _ _).length_eq,hsl]
     rw [hsl,fin seen hnd hlt hall] at hc
     rw [fin seen hnd hlt hall] at hso
     push_cast
     refine CallG.some [2] (by simp) (by simp) (R:=fun x H'=>x = .tup []∧H' = [.row t_string 1 ((sortS ks).map fun s=>[V.str s])]) (by rw [give_2,renOb_row,rens_strs];exact hc) ?_
     rintro x H' ⟨rfl,rfl⟩ _
     rw [take_2]
     push_cast
     refine ⟨by rw [List.length_map];exact hso,pf_ret ?_⟩
     push_cast [term_VarsOf.rs]
     rfl
    ·have hkl:k < ks.length:=by rw [← hlen];exact (List.getElem?_eq_some_iff.1 hp).1
     have hpe:p = (.str (ks.getD k []),.bool true):=by
      unfold encKs at hp
      rw [List.getElem?_map] at hp
      simp [hkl] at hp
      rw [← hp];simp [List.getD_eq_getElem?_getD,hkl]
     have hen:∀ a b,enV [.map (encKs ks),a,b,.iter (some 0) ks.length (seen++[k])] (.it 3) = some (.tup [p.1,p.2]):=fun a b=>by
      simp [enV,hlen,hp]
     subst hpe
     push_cast [hen]
     refine ⟨?_,?_⟩
     ·have:(seen.map fun i=>ks.getD i []).length = seen.length:=by simp
      have h2:seen.length≤ks.length:=by simpa using List.Nodup.length_le_of_subset hnd (l₂:=List.range ks.length) fun i hi=>List.mem_range.2 (hlt i hi)
      exact ⟨by simp,room (n:=seen.length) (b:=16) (by omega) (by omega)⟩
     ·have hnd2:(seen++[k]).Nodup:=by simp [List.nodup_append,hnd];intro a ha e;exact hk (e ▸ ha)
      have hlt2:∀ i∈seen++[k],i < ks.length:=fun i hi=>by
       rcases List.mem_append.1 hi with h | h
       ·exact hlt i h
       ·simp only [List.mem_singleton] at h;subst h;exact hkl
      have:=ih (seen++[k]) (by simp;omega) hnd2 hlt2
      simp only [List.map_append,List.map_cons,List.map_nil,List.length_append,List.length_singleton] at this
      rw [List.map_append,rens_strs]
      exact this
  exact key ks.length [] (by simp) List.nodup_nil (by simp)
end Go.Dw
end
