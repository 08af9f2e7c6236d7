/-
  Contracts and lemmas for ResidualDivides: part e of 10.
-/
import Derived.Test.YtkdcfkfdkimaeaaGreatDoorVad
import Derived.Lib.Bytealg
import Derived.Laws.Externs
import Derived.Ground.NamesProg
import Derived.Shelf.Slices.In.SortAlone
import Derived.Shelf.Slices.In.SortNone
import Derived.Sort.EveryDepth
import Derived.Sort.Grow
set_option linter.unusedVariables false
set_option linter.unusedSimpArgs false
set_option maxRecDepth 100000
section
namespace Go.Dw
variable {s:List K} {B:Nat} {t:T} {H:List Ob} {Q:X->T->List Ob->Prop}
namespace Lf
def nd:Nat->C
 | 0=>.R [.mv 4 (.i (-1))] (.ret)
 | 1=>.gh [.ks 0 [1,7,8,9]] (.m 3)
 | 2=>.seq (.blk 1 (.R [.A 11 9,.G 12 1 7 9,.B 13 12,.A 5 11,.A 6 13] (.R [.A 14 6,.A 15 1,.V 16 .eql 14 15] (.W 16 (.R [.A 17 5,.A 4 17] (.ret)) (.skip))))) (.reg [.X 18 .add 9 1,.A 9 18])
 | 3=>.R [.V 10 .lss 9 8] (.seq (.W 10 (.skip) (.exit 0)) (.n 2))
 | _=>.skip
def body:C:=.R [.mv 4 (.i 0)] (.seq (.R [.A 7 0,.Y 8 7,.mv 9 (.i 0)] (.J 0 1)) (.n 0))
def rs:List RV:=[.t 4]
attribute [push_cast] nd body
theorem ok:B9 prog MI nd body 2 rs=true:=by kernel_rfl
abbrev L3 (a b c d:V)(B:Nat)(H:Dh)(Q:QX):Prop:=AB prog nd B (DW 3 1 0 0) [(1,a),(7,b),(8,c),(9,d)] H Q
end Lf
namespace QK
def nd (_:Nat):C:=.skip
def body:C:=.R [.Z 2 A7 0,.Z 3 SU 1,.mv 4 (.c (.bool false))] (.R [.B 5 3,.E 6 4 2,.callvp (some 7) (.s 5) [.s 6],.A 8 7,.P 8 true [9,10,11,12,13] [.D 9 3 2,.B 10 9,.mf 11 N2 [] [.s 3],.U 12 Cf [.s 10,.s 11],.Q 13 12],.N 14 8 13,.A 4 14] (.ret))
def rs:List RV:=[.t 4]
attribute [push_cast] nd body
theorem ok:B9 prog K6 nd body 2 rs=true:=by kernel_rfl
end QK
namespace JD
def nd (_:Nat):C:=.skip
def body:C:=.R [.Z 2 A7 0,.mv 3 (.c (.bool false))] (.R [.D 4 0 2,.B 5 4,.X 6 .geq 5 0,.A 7 6,.P 7 true [8,9,10,11,12] [.D 8 0 2,.B 9 8,.B 10 1,.Y 11 10,.V 12 .leq 9 11],.N 13 7 12,.A 3 13] (.ret))
def rs:List RV:=[.t 3]
attribute [push_cast] nd body
theorem ok:B9 prog Kb nd body 2 rs=true:=by kernel_rfl
end JD
namespace MX
def nd (_:Nat):C:=.skip
def body:C:=.R [.Z 2 A7 0,.mv 3 (.c (.bool false))] (.R [.B 4 1,.E 5 4 2,.U 6 Lz [.s 4,.s 5],.A 3 6] (.ret))
def rs:List RV:=[.t 3]
attribute [push_cast] nd body
theorem ok:B9 prog Km nd body 2 rs=true:=by kernel_rfl
end MX
namespace DB
def nd:Nat->C
 | 0=>.R [.D 45 3 3,.B 46 45,.Y 47 46,.X 48 .leq 47 8,.A 49 48,.P 49 true [50,51,52] [.D 50 1 3,.B 51 50,.U 52 DF [.s 51,(.c (.bool true))]],.N 53 49 52,.A 4 53] (.ret)
 | _=>.skip
def body:C:=.R [.Z 3 A7 1,.mv 4 (.c (.bool false))] (.seq (.blk 0 (.R [.D 6 0 3,.B 7 6,.X 8 .gtr 7 0,.A 5 8] (.W 5 (.seq (.dr [0,1,2,3,4,5,6,7,8,9,10,11,12,13,14,15,16,17,18,19,20,21,22,23,24] [.D 9 1 3,.B 10 9,.bin 11 .eql (.s 10) (.c (.str [])),.A 12 11,.P 12 true [13] [.D 13 2 3],.P 12 true [14] [.B 14 13],.P 12 true [15] [.Q 15 14],.N 16 12 15,.A 17 16,.P 17 true [18] [.D 18 3 3],.P 17 true [19] [.B 19 18],.P 17 true [20] [.Y 20 19],.P 17 true [21] [.A 21 0],.P 17 true [22] [.D 22 0 3],.P 17 true [23] [.B 23 22],.P 17 true [24] [.X 24 .sub 23 1],.P 17 true [25] [.G 25 6 21 24],.P 17 true [26] [.D 26 0 25],.P 17 true [27] [.E 27 3 26],.P 17 true [28] [.bs 28 3 [.s 27]],.P 17 true [29] [.U 29 Dc [.s 28]],.P 17 true [30] [.Y 30 29],.P 17 true [31] [.V 31 .eql 20 30],.N 32 17 31,.A 4 32]) (.ret)) (.R [.D 34 2 3,.B 35 34,.A 33 35] (.W 33 (.R [.D 36 3 3,.B 37 36,.Y 38 37,.X 39 .eql 38 0,.A 40 39,.P 40 true [41,42,43] [.D 41 1 3,.B 42 41,.U 43 DF [.s 42,(.c (.bool false))]],.N 44 40 43,.A 4 44] (.ret)) (.skip)))))) (.n 0))
def rs:List RV:=[.t 4]
attribute [push_cast] nd body
theorem ok:B9 prog Lz nd body 2 rs=true:=by kernel_rfl
end DB
namespace Lo
def nd:Nat->C
 | 0=>.R [.E 39 3 7,.K 3 6 39] (.ret)
 | 1=>.gh [.ks 3 [1,2,6,7,23,24,25]] (.m 3)
 | 2=>.seq (.blk 1 (.R [.G 27 3 23 25,.E 28 3 27,.al 9 A3 CM,.L 9 3 28] (.dr [0,1,2,3,4,5,6,7,8,9] [.D 29 2 7,.B 30 29,.E 31 3 9,.A 32 1,.A 33 2,.U 34 KL [.s 31,.s 32,.s 33],.bs 35 3 [.s 34],.app 36 A3 3 48 (.s 30) (.s 35),.D 37 2 7,.K 1 37 36]))) (.reg [.X 38 .add 25 1,.A 25 38])
 | 3=>.R [.V 26 .lss 25 24] (.seq (.W 26 (.skip) (.exit 0)) (.n 2))
 | 4=>.R [.D 19 0 3,.B 20 19,.bd 21 [.str [],.bool false,.nil] [(0,1,(.s 20))],.al 7 A3 [.str [],.bool false,.nil],.K 3 7 21,.ono A3 3 2 (.s 7)] (.seq (.R [.D 22 2 3,.B 23 22,.Y 24 23,.mv 25 (.i 0)] (.J 0 1)) (.n 0))
 | _=>.skip
def body:C:=.R [.Z 3 A3 0,.al 6 A3 CM] (.seq (.R [.D 10 1 3,.B 11 10] (.W 11 (.R [.A 12 2,.A 13 1,.D 14 0 3,.B 15 14,.U 16 AU [.s 13,.s 15],.G 17 3 12 16,.E 18 3 17,.K 3 6 18] (.ret)) (.skip))) (.n 4))
def rs:List RV:=[.a 6 3]
attribute [push_cast] nd body
theorem ok:B9 prog KL nd body 3 rs=true:=by kernel_rfl
abbrev L3 (a b c d e f g:V)(B:Nat)(H:Dh)(Q:QX):Prop:=AB prog nd B (DW 3 1 0 0) [(1,a),(2,b),(6,c),(7,d),(23,e),(24,f),(25,g)] H Q
end Lo
namespace Rb
def nd (_:Nat):C:=.skip
def body:C:=.R [.Z 3 A3 0,.mv 4 (.c (.bool false))] (.R [.B 5 1,.X 6 .sub 5 1,.K 1 1 6] (.R [.B 7 1,.X 8 .lss 7 0,.A 9 8,.P 9 false [10,11,12,13] [.D 10 2 3,.B 11 10,.B 12 2,.call (some 13) AN [.s 11,.s 12]],.M 14 9 13,.A 4 14] (.ret)))
def rs:List RV:=[.t 4]
attribute [push_cast] nd body
theorem ok:B9 prog Dq nd body 3 rs=true:=by kernel_rfl
end Rb
namespace Cu
def nd:Nat->C
 | 0=>.R [.B 81 4,.K 1 2 81,.st 1 (.s 3) (.i 0)] (.ret)
 | 1=>.gh [.ks 4 [1,2,3,4,8,9,15,16,17]] (.m 11)
 | 2=>.gh [.ks 1 [2,3,4,5,6,8,9,39,40,41]] (.m 7)
 | 3=>.R [.B 76 4,.Y 77 76,.X 78 .gtr 77 4096] (.W 78 (.R [.st 1 (.s 2) (.c (.sl 12 [])),.st 1 (.s 3) (.i 3)] (.ret)) (.skip))
 | 4=>.seq (.R [.A 67 13] (.W 67 (.R [.B 68 5,.A 69 10,.D 70 0 12,.K 1 70 68,.D 71 1 12,.K 1 71 69] (.reg [.B 72 4,.E 73 12 12,.bs 74 12 [.s 73],.app 75 DO 12 184 (.s 72) (.s 74),.K 1 4 75])) (.skip))) (.n 3)
 | 5=>.seq (.dr [0,1,2,3,4,5,6,7,8,9,10,11,12,13] [.E 55 6 6,.E 56 6 11,.U 57 Kl [.s 56],.A 58 8,.E 59 3 9,.U 60 ML [.s 55,.s 57,.s 58,.s 59],.A 54 60,.F 61 54 0,.F 62 54 1,.F 63 54 2,.al 12 DO [.int .i64 0,.int .i64 0,.sl 1 [],.str [],.bool false,.sl 3 [],.str [],.bool false,.sl 3 [],.str [],.bool false,.sl 3 []],.K 12 12 61,.A 13 62,.A 14 63]) (.seq (.R [.A 64 14,.J 65 64] (.W 65 (.R [.A 66 14,.st 1 (.s 2) (.c (.sl 12 [])),.K 1 3 66] (.ret)) (.skip))) (.n 4))
 | 6=>.seq (.blk 5 (.R [.A 43 41,.G 44 6 39 41,.E 45 6 44,.al 11 BS [.str [],.bool false,.sl 3 [],.str [],.bool false,.sl 3 []],.A 10 43,.L 11 6 45] (.seq (.R [.B 46 5,.A 47 10,.V 48 .eql 46 47,.A 49 48,.P 49 true [50,51,52] [.A 50 8,.Y 51 50,.X 52 .eql 51 0],.N 53 49 52] (.W 53 (.exit 5) (.skip))) (.n 5)))) (.reg [.X 79 .add 41 1,.A 41 79])
 | 7=>.R [.V 42 .lss 41 40] (.seq (.W 42 (.skip) (.exit 4)) (.n 6))
 | 8=>.R [.B 39 1,.Y 40 39,.mv 41 (.i 0)] (.J 4 2)
 | 9=>.blk 3 (.seq (.R [.D 37 1 9,.B 38 37] (.W 38 (.exit 3) (.skip))) (.n 8))
 | 10=>.seq (.blk 1 (.R [.A 19 17,.G 20 6 15 17,.E 21 6 20,.al 5 EN [.int .i64 0],.al 6 BS [.str [],.bool false,.sl 3 [],.str [],.bool false,.sl 3 []],.L 5 1 19,.K 6 6 21] (.R [.call (some 22) Fv [],.A 7 22] (.seq (.dr [0,1,2,4] [.A 23 7,.D 24 0 6,.E 25 3 24,.A 27 7,.alt [([3,5,6,7,8,9],[.callv (some 26) (.s 23) [.s 25],.D 28 3 6,.E 29 3 28,.callv (some 30) (.s 27) [.s 29],.bd 31 [.str [],.bool false,.sl 3 [],.str [],.bool false,.sl 3 []] [(0,3,(.s 26)),(3,3,(.s 30))],.K 6 6 31]),([5],[.D 28 3 6,.alt [([3,6,7,8,9],[.callv (some 26) (.s 23) [.s 25],.E 29 3 28,.callv (some 30) (.s 27) [.s 29],.bd 31 [.str [],.bool false,.sl 3 [],.str [],.bool false,.sl 3 []] [(0,3,(.s 26)),(3,3,(.s 30))],.K 6 6 31]),([6,3,7,8,9],[.E 29 3 28,.callv (some 26) (.s 23) [.s 25],.callv (some 30) (.s 27) [.s 29],.bd 31 [.str [],.bool false,.sl 3 [],.str [],.bool false,.sl 3 []] [(0,3,(.s 26)),(3,3,(.s 30))],.K 6 6 31])]])]]) (.R [.D 32 0 6,.E 33 3 32,.U 34 HS [.s 33]] (.blk 2 (.rf (.s 34) [35,36] (.R [.A 8 35] (.reg [.al 9 A3 CM,.L 9 3 36])) (.m 9)))))))) (.reg [.X 80 .add 17 1,.A 17 80])
 | 11=>.R [.V 18 .lss 17 16] (.seq (.W 18 (.skip) (.exit 0)) (.n 10))
 | _=>.skip
def body:C:=.R [.Z 1 Pw 0,.al 2 F5 [.sl 12 []],.al 3 VZ [.int .i64 0]] (.R [.al 4 F5 [.nil],.ono DO 12 0 (.s 4)] (.seq (.R [.B 15 1,.Y 16 15,.mv 17 (.i 0)] (.J 0 1)) (.n 0)))
def rs:List RV:=[.c 2,.c 3]
attribute [push_cast] nd body
theorem ok:B9 prog N5 nd body 1 rs=true:=by kernel_rfl
abbrev L7 (a b c d e f g h i j:V)(B:Nat)(H:Dh)(Q:QX):Prop:=AB prog nd B [.c (.m 7),.c (.loop (.n 2)),.mk 4,.mk 3] [(2,a),(3,b),(4,c),(5,d),(6,e),(8,f),(9,g),(39,h),(40,i),(41,j)] H Q
abbrev L11 (a b c d e f g h i:V)(B:Nat)(H:Dh)(Q:QX):Prop:=AB prog nd B (DW 11 1 0 0) [(1,a),(2,b),(3,c),(4,d),(8,e),(9,f),(15,g),(16,h),(17,i)] H Q
end Cu
namespace Lt
def nd (_:Nat):C:=.skip
def body:C:=.R [.Z 1 BS 0,.mv 2 (.c (.bool false))] (.R [.D 3 0 1,.E 4 3 3,.U 5 Jx [.s 4],.Q 6 5,.A 2 6] (.ret))
def rs:List RV:=[.t 2]
attribute [push_cast] nd body
theorem ok:B9 prog Jc nd body 1 rs=true:=by kernel_rfl
end Lt
namespace LP
def nd (_:Nat):C:=.skip
def body:C:=.R [.Z 1 A3 0,.mv 2 (.c (.bool false))] (.R [.E 3 3 1,.bs 4 3 [.s 3],.U 5 Dc [.s 4],.mf 6 Hr [] [.s 1],.U 7 Bm [.s 5,.s 6],.Q 8 7,.A 2 8] (.ret))
def rs:List RV:=[.t 2]
attribute [push_cast] nd body
theorem ok:B9 prog Jx nd body 1 rs=true:=by kernel_rfl
end LP
namespace Le
def nd:Nat->C
 | 0=>.R [.mv 2 (.i 0)] (.ret)
 | 1=>.gh [.ks 0 [9,10,11]] (.m 3)
 | 2=>.seq (.blk 1 (.R [.G 13 6 9 11,.E 14 6 13,.al 4 BS [.str [],.bool false,.sl 3 [],.str [],.bool false,.sl 3 []],.L 4 6 14] (.R [.D 15 0 4,.E 16 3 15,.D 17 3 4,.E 18 3 17,.bs 19 3 [.s 16,.s 18],.U 20 LL [.s 19],.A 5 20] (.R [.A 21 5,.J 22 21] (.W 22 (.R [.A 23 5,.A 2 23] (.ret)) (.skip)))))) (.reg [.X 24 .add 11 1,.A 11 24])
 | 3=>.R [.V 12 .lss 11 10] (.seq (.W 12 (.skip) (.exit 0)) (.n 2))
 | 4=>.seq (.R [.A 9 0,.Y 10 9,.mv 11 (.i 0)] (.J 0 1)) (.n 0)
 | _=>.skip
def body:C:=.R [.mv 2 (.i 0)] (.seq (.R [.A 6 0,.Y 7 6,.X 8 .gtr 7 64] (.W 8 (.R [.mv 2 (.i 3)] (.ret)) (.skip))) (.n 4))
def rs:List RV:=[.t 2]
attribute [push_cast] nd body
theorem ok:B9 prog Qa nd body 1 rs=true:=by kernel_rfl
abbrev L3 (a b c:V)(B:Nat)(H:Dh)(Q:QX):Prop:=AB prog nd B (DW 3 1 0 0) [(9,a),(10,b),(11,c)] H Q
end Le
namespace FW
def nd:Nat->C
 | 0=>.R [.A 38 4,.A 2 38,.mv 3 (.c (.bool true))] (.ret)
 | 1=>.gh [.ks 0 [4,11,12,13]] (.m 6)
 | 2=>.gh [.ks 1 [4,11,12,13,21,22,23]] (.m 4)
 | 3=>.seq (.blk 3 (.R [.G 25 3 21 23,.E 26 3 25,.al 8 A3 CM,.L 8 3 26] (.R [.E 28 3 8,.A 29 4,.U 30 JL [.s 28,.s 29],.A 27 30,.F 31 27 0,.F 32 27 1,.A 9 31,.A 10 32] (.seq (.R [.A 33 10,.Q 34 33] (.W 34 (.R [.mv 2 (.c (.sl 2 [])),.mv 3 (.c (.bool false))] (.ret)) (.skip))) (.reg [.A 35 9,.A 4 35]))))) (.reg [.X 36 .add 23 1,.A 23 36])
 | 4=>.R [.V 24 .lss 23 22] (.seq (.W 24 (.skip) (.exit 2)) (.n 3))
 | 5=>.seq (.blk 1 (.R [.G 15 6 11 13,.E 16 6 15,.al 6 BS [.str [],.bool false,.sl 3 [],.str [],.bool false,.sl 3 []],.L 6 6 16] (.R [.D 17 0 6,.E 18 3 17,.D 19 3 6,.E 20 3 19,.bs 21 3 [.s 18,.s 20],.Y 22 21,.mv 23 (.i 0)] (.J 2 2)))) (.reg [.X 37 .add 13 1,.A 13 37])
 | 6=>.R [.V 14 .lss 13 12] (.seq (.W 14 (.skip) (.exit 0)) (.n 5))
 | _=>.skip
def body:C:=.R [.mv 2 (.c (.sl 2 [])),.mv 3 (.c (.bool false))] (.R [.mv 4 (.c (.sl 2 []))] (.seq (.R [.A 11 0,.Y 12 11,.mv 13 (.i 0)] (.J 0 1)) (.n 0)))
def rs:List RV:=[.t 2,.t 3]
attribute [push_cast] nd body
theorem ok:B9 prog MV nd body 1 rs=true:=by kernel_rfl
abbrev L4 (a b c d e f g:V)(B:Nat)(H:Dh)(Q:QX):Prop:=AB prog nd B [.c (.m 4),.c (.loop (.n 2)),.mk 2,.mk 1,.c (.reg [.X 37 .add 13 1,.A 13 37]),.c (.loop (.n 1)),.mk 0,.c (.n 0)] [(4,a),(11,b),(12,c),(13,d),(21,e),(22,f),(23,g)] H Q
abbrev L6 (a b c d:V)(B:Nat)(H:Dh)(Q:QX):Prop:=AB prog nd B (DW 6 1 0 0) [(4,a),(11,b),(12,c),(13,d)] H Q
end FW
namespace LG
def nd:Nat->C
 | 0=>.R [.mv 4 (.c (.bool true))] (.ret)
 | 1=>.gh [.ks 0 [3,9,10,11]] (.m 3)
 | 2=>.seq (.blk 1 (.R [.G 13 1 9 11,.B 14 13,.A 6 14] (.R [.E 15 3 3,.A 16 6,.U 17 K9 [.s 15,.s 16],.X 18 .eql 17 0] (.W 18 (.R [.mv 4 (.c (.bool false))] (.ret)) (.skip))))) (.reg [.X 19 .add 11 1,.A 11 19])
 | 3=>.R [.V 12 .lss 11 10] (.seq (.W 12 (.skip) (.exit 0)) (.n 2))
 | _=>.skip
def body:C:=.R [.Z 2 A3 0,.Z 3 A3 1,.mv 4 (.c (.bool false))] (.seq (.R [.E 7 3 2,.bs 8 3 [.s 7],.U 9 M1 [.s 8],.Y 10 9,.mv 11 (.i 0)] (.J 0 1)) (.n 0))
def rs:List RV:=[.t 4]
attribute [push_cast] nd body
theorem ok:B9 prog NO nd body 2 rs=true:=by kernel_rfl
abbrev L3 (a b c d:V)(B:Nat)(H:Dh)(Q:QX):Prop:=AB prog nd B (DW 3 1 0 0) [(3,a),(9,b),(10,c),(11,d)] H Q
end LG
namespace OF
def nd:Nat->C
 | 0=>.R [.E 97 3 18,.U 98 JX [.s 97,(.c (.sl 1 []))],.U 99 IK [.s 98,(.c (.str [120]))],.A 20 99] (.seq (.dr [0,1,2,3,4,5,6,7,8,9,10,11,12,13,14,15,16,17,18] [.A 100 1,.A 101 2,.A 102 3,.A 103 20,.E 104 3 18,.U 105 CP [.s 103,.s 104],.A 106 20,.A 107 15,.D 108 3 11,.E 109 3 108,.U 110 CP [.s 107,.s 109],.U 111 CP [.s 106,.s 110],.A 112 20,.E 113 3 19,.U 114 CP [.s 112,.s 113],.bd 115 [.int .i64 0,.int .i64 0,.sl 1 [],.str [],.bool false,.sl 3 [],.str [],.bool false,.sl 3 [],.str [],.bool false,.sl 3 []] [(0,1,(.s 100)),(1,1,(.s 101)),(2,1,(.s 102)),(3,3,(.s 105)),(6,3,(.s 111)),(9,3,(.s 114))],.K 12 8 115,.mv 9 (.c (.bool true)),.mv 10 (.i 0)]) (.ret))
 | 1=>.R [.A 82 15,.D 83 0 11,.E 84 3 83,.U 85 CP [.s 82,.s 84],.al 18 A3 CM,.L 18 3 85] (.seq (.dr [0,1,2,3,4,5,6,7,8] [.E 86 3 18,.A 87 3,.A 88 15,.D 89 3 12,.E 90 3 89,.U 91 CP [.s 88,.s 90],.U 92 QP [.s 86,.s 87,.s 91],.al 19 A3 CM,.L 19 3 92]) (.seq (.R [.E 93 3 19,.U 94 Qh [.s 93],.Q 95 94] (.W 95 (.R [.bd 96 [.int .i64 0,.int .i64 0,.sl 1 [],.str [],.bool false,.sl 3 [],.str [],.bool false,.sl 3 [],.str [],.bool false,.sl 3 []] [],.K 12 8 96,.mv 9 (.c (.bool false)),.mv 10 (.i 3)] (.ret)) (.skip))) (.n 0)))
 | 2=>.R [.bd 80 [.int .i64 0,.int .i64 0,.sl 1 [],.str [],.bool false,.sl 3 [],.str [],.bool false,.sl 3 [],.str [],.bool false,.sl 3 []] [],.A 81 17,.K 12 8 80,.mv 9 (.c (.bool false)),.A 10 81] (.ret)
 | _=>.skip
def body:C:=.R [.al 8 DO [.int .i64 0,.int .i64 0,.sl 1 [],.str [],.bool false,.sl 3 [],.str [],.bool false,.sl 3 [],.str [],.bool false,.sl 3 []],.mv 9 (.c (.bool false)),.mv 10 (.i 0)] (.seq (.dr [0,1,2,3,4,5,6,7,8,9] [.A 21 0,.A 22 1,.G 23 6 21 22,.E 24 6 23,.U 25 JM [.s 24,(.c (.str [120]))],.A 26 0,.A 27 2,.G 28 6 26 27,.E 29 6 28,.U 30 JM [.s 29,(.c (.str [121]))],.alt [([10,11,12,13],[.al 11 BS [.str [],.bool false,.sl 3 [],.str [],.bool false,.sl 3 []],.al 12 BS [.str [],.bool false,.sl 3 [],.str [],.bool false,.sl 3 []],.L 11 6 25,.L 12 6 30]),([11,10,12,13],[.al 12 BS [.str [],.bool false,.sl 3 [],.str [],.bool false,.sl 3 []],.al 11 BS [.str [],.bool false,.sl 3 [],.str [],.bool false,.sl 3 []],.L 11 6 25,.L 12 6 30])]]) (.R [.D 32 0 11,.E 33 3 32,.A 34 3,.U 35 T0 [.s 33,.s 34],.A 31 35,.F 36 31 0,.F 37 31 1,.al 13 A3 CM,.L 13 3 36,.A 14 37] (.R [.E 39 3 13,.D 40 0 12,.E 41 3 40,.bd 42 [.str [],.bool false,.sl 3 [],.str [],.bool false,.sl 3 []] [(0,3,(.s 39)),(3,3,(.s 41))],.bs 43 6 [.s 42],.U 44 Iu [.s 43],.A 38 44,.F 45 38 0,.F 46 38 1,.F 47 38 2,.A 15 45,.A 16 46,.A 17 47] (.seq (.R [.A 48 17,.J 49 48,.A 50 49,.P 50 false [51,52] [.A 51 16,.Q 52 51],.M 53 50 52,.A 54 53,.P 54 false [55,56,57,58,59] [.A 55 15,.D 56 0 11,.E 57 3 56,.U 58 M5 [.s 55,.s 57],.Q 59 58],.M 60 54 59,.A 61 60,.P 61 false [62,63,64,65,66] [.A 62 15,.D 63 3 11,.E 64 3 63,.U 65 M5 [.s 62,.s 64],.Q 66 65],.M 67 61 66,.A 68 67,.P 68 false [69,70,71,72,73] [.A 69 15,.D 70 3 12,.E 71 3 70,.U 72 M5 [.s 69,.s 71],.Q 73 72],.M 74 68 73] (.W 74 (.seq (.R [.A 75 17,.X 76 .eql 75 0,.A 77 76,.P 77 true [78] [.A 78 16],.N 79 77 78] (.W 79 (.reg [.mv 17 (.i 3)]) (.skip))) (.n 2)) (.skip))) (.n 1)))))
def rs:List RV:=[.a 8 12,.t 9,.t 10]
attribute [push_cast] nd body
theorem ok:B9 prog Xv nd body 4 rs=true:=by kernel_rfl
end OF
namespace Jy
def nd:Nat->C
 | 0=>.R [.mv 2 (.c (.bool true))] (.ret)
 | 1=>.gh [.ks 0 [1,7,8,9]] (.m 3)
 | 2=>.seq (.blk 1 (.R [.G 11 1 7 9,.B 12 11,.A 4 12] (.R [.E 13 3 1,.A 14 4,.U 15 K9 [.s 13,.s 14],.X 16 .gtr 15 1] (.W 16 (.R [.mv 2 (.c (.bool false))] (.ret)) (.skip))))) (.reg [.X 17 .add 9 1,.A 9 17])
 | 3=>.R [.V 10 .lss 9 8] (.seq (.W 10 (.skip) (.exit 0)) (.n 2))
 | _=>.skip
def body:C:=.R [.Z 1 A3 0,.mv 2 (.c (.bool false))] (.seq (.R [.E 5 3 1,.bs 6 3 [.s 5],.U 7 M1 [.s 6],.Y 8 7,.mv 9 (.i 0)] (.J 0 1)) (.n 0))
def rs:List RV:=[.t 2]
attribute [push_cast] nd body
theorem ok:B9 prog OB nd body 1 rs=true:=by kernel_rfl
abbrev L3 (a b c d:V)(B:Nat)(H:Dh)(Q:QX):Prop:=AB prog nd B (DW 3 1 0 0) [(1,a),(7,b),(8,c),(9,d)] H Q
end Jy
namespace NH
def nd:Nat->C
 | 0=>.R [.A 20 1,.bd 21 CM [(0,1,(.s 20)),(1,1,(.c (.bool true)))],.K 3 4 21] (.ret)
 | 1=>.gh [.ks 1 [1,4,7,8,9]] (.m 3)
 | 2=>.seq (.blk 1 (.R [.G 11 4 7 9,.E 12 4 11,.al 6 C4 [.str [],.str [],.bool false,.sl 3 []],.L 6 4 12] (.R [.D 13 0 6,.B 14 13,.A 15 1,.V 16 .eql 14 15] (.W 16 (.R [.D 17 1 6,.E 18 3 17,.K 3 4 18] (.ret)) (.skip))))) (.reg [.X 19 .add 9 1,.A 9 19])
 | 3=>.R [.V 10 .lss 9 8] (.seq (.W 10 (.skip) (.exit 0)) (.n 2))
 | _=>.skip
def body:C:=.R [.al 4 A3 CM] (.seq (.R [.A 7 0,.Y 8 7,.mv 9 (.i 0)] (.J 0 1)) (.n 0))
def rs:List RV:=[.a 4 3]
attribute [push_cast] nd body
theorem ok:B9 prog HR nd body 2 rs=true:=by kernel_rfl
abbrev L3 (a b c d e:V)(B:Nat)(H:Dh)(Q:QX):Prop:=AB prog nd B (DW 3 1 0 0) [(1,a),(4,b),(7,c),(8,d),(9,e)] H Q
end NH
namespace HC
def nd (_:Nat):C:=.skip
def body:C:=.R [.mv 4 (.c (.str []))] (.R [.A 5 0,.A 6 1,.U 7 EB [.s 5,.s 6],.A 4 7] (.ret))
def rs:List RV:=[.t 4]
attribute [push_cast] nd body
theorem ok:B9 prog Gc nd body 2 rs=true:=by kernel_rfl
end HC
namespace CS
def nd (_:Nat):C:=.skip
def body:C:=.R [.mv 4 (.c (.bool false))] (.R [.A 5 0,.A 6 1,.U 7 D4 [.s 5,.s 6],.X 8 .geq 7 0,.A 4 8] (.ret))
def rs:List RV:=[.t 4]
attribute [push_cast] nd body
theorem ok:B9 prog BL nd body 2 rs=true:=by kernel_rfl
end CS
namespace N3
def nd (_:Nat):C:=.skip
def body:C:=.R [.mv 2 (.c (.bool false))] (.R [.A 3 0,.U 4 MT [.s 3],.Q 5 4,.A 2 5] (.ret))
def rs:List RV:=[.t 2]
attribute [push_cast] nd body
theorem ok:B9 prog Hm nd body 1 rs=true:=by kernel_rfl
end N3
namespace PE
def nd (_:Nat):C:=.skip
def body:C:=.R [.mv 2 (.c (.bool false))] (.R [.A 3 0,.bin 4 .geq (.s 3) (.c (.int .u8 97)),.A 5 4,.P 5 true [6,7] [.A 6 0,.bin 7 .leq (.s 6) (.c (.int .u8 122))],.N 8 5 7,.A 9 8,.P 9 false [10,11,12] [.A 10 0,.bin 11 .geq (.s 10) (.c (.int .u8 65)),.A 12 11],.P 12 true [13,14] [.A 13 0,.bin 14 .leq (.s 13) (.c (.int .u8 90))],.P 9 false [15] [.N 15 12 14],.M 16 9 15,.A 17 16,.P 17 false [18,19,20] [.A 18 0,.bin 19 .geq (.s 18) (.c (.int .u8 48)),.A 20 19],.P 20 true [21,22] [.A 21 0,.bin 22 .leq (.s 21) (.c (.int .u8 57))],.P 17 false [23] [.N 23 20 22],.M 24 17 23,.A 25 24,.P 25 false [26,27] [.A 26 0,.bin 27 .eql (.s 26) (.c (.int .u8 95))],.M 28 25 27,.A 29 28,.P 29 false [30,31] [.A 30 0,.bin 31 .eql (.s 30) (.c (.int .u8 39))],.M 32 29 31,.A 2 32] (.ret))
def rs:List RV:=[.t 2]
attribute [push_cast] nd body
theorem ok:B9 prog MT nd body 1 rs=true:=by kernel_rfl
end PE
namespace BG
def nd:Nat->C
 | 0=>.R [.mv 4 (.i (-1))] (.ret)
 | 1=>.gh [.ks 0 [0,1,7,8]] (.m 3)
 | 2=>.seq (.blk 1 (.R [.A 10 8,.A 5 10] (.R [.A 11 1,.A 12 0,.A 13 5,.G 14 3 12 13,.E 15 3 14,.callvp (some 16) (.s 11) [.s 15]] (.W 16 (.R [.A 17 5,.A 4 17] (.ret)) (.skip))))) (.reg [.X 18 .add 8 1,.A 8 18])
 | 3=>.R [.V 9 .lss 8 7] (.seq (.W 9 (.skip) (.exit 0)) (.n 2))
 | _=>.skip
def body:C:=.R [.mv 4 (.i 0)] (.seq (.R [.A 6 0,.Y 7 6,.mv 8 (.i 0)] (.J 0 1)) (.n 0))
def rs:List RV:=[.t 4]
attribute [push_cast] nd body
theorem ok:B9 prog Bb nd body 2 rs=true:=by kernel_rfl
abbrev L3 (a b c d:V)(B:Nat)(H:Dh)(Q:QX):Prop:=AB prog nd B (DW 3 1 0 0) [(0,a),(1,b),(7,c),(8,d)] H Q
end BG
namespace Ok
def nd (_:Nat):C:=.skip
def body:C:=.R [.mv 2 (.c (.bool false))] (.R [.A 3 0,.bin 4 .neq (.s 3) (.c (.str [])),.A 5 4,.P 5 true [6,7,8,9,10,11] [.A 6 0,.A 7 0,.lens 8 (.s 7),.X 9 .sub 8 1,.ix 10 (.s 6) (.s 9),.bin 11 .eql (.s 10) (.c (.int .u8 35))],.N 12 5 11,.A 2 12] (.ret))
def rs:List RV:=[.t 2]
attribute [push_cast] nd body
theorem ok:B9 prog KK nd body 1 rs=true:=by kernel_rfl
end Ok
namespace JT
def nd:Nat->C
 | 0=>.R [.mv 2 (.c (.bool true))] (.ret)
 | 1=>.gh [.ks 0 [0,5,6]] (.m 3)
 | 2=>.seq (.blk 1 (.R [.A 8 6,.A 3 8] (.R [.A 9 0,.A 10 3,.ix 11 (.s 9) (.s 10),.U 12 O3 [.s 11],.Q 13 12] (.W 13 (.R [.mv 2 (.c (.bool false))] (.ret)) (.skip))))) (.reg [.X 14 .add 6 1,.A 6 14])
 | 3=>.R [.V 7 .lss 6 5] (.seq (.W 7 (.skip) (.exit 0)) (.n 2))
 | _=>.skip
def body:C:=.R [.mv 2 (.c (.bool false))] (.seq (.R [.A 4 0,.lens 5 (.s 4),.mv 6 (.i 0)] (.J 0 1)) (.n 0))
def rs:List RV:=[.t 2]
attribute [push_cast] nd body
theorem ok:B9 prog JF nd body 1 rs=true:=by kernel_rfl
abbrev L3 (a b c:V)(B:Nat)(H:Dh)(Q:QX):Prop:=AB prog nd B (DW 3 1 0 0) [(0,a),(5,b),(6,c)] H Q
end JT
namespace Nq
def nd:Nat->C
 | 0=>.R [.mv 4 (.c (.bool false))] (.ret)
 | 1=>.gh [.ks 0 [1,7,8,9]] (.m 3)
 | 2=>.seq (.blk 1 (.R [.G 11 4 7 9,.E 12 4 11,.al 6 C4 [.str [],.str [],.bool false,.sl 3 []],.L 6 4 12] (.R [.D 13 0 6,.B 14 13,.A 15 1,.V 16 .eql 14 15] (.W 16 (.R [.mv 4 (.c (.bool true))] (.ret)) (.skip))))) (.reg [.X 17 .add 9 1,.A 9 17])
 | 3=>.R [.V 10 .lss 9 8] (.seq (.W 10 (.skip) (.exit 0)) (.n 2))
 | _=>.skip
def body:C:=.R [.mv 4 (.c (.bool false))] (.seq (.R [.A 7 0,.Y 8 7,.mv 9 (.i 0)] (.J 0 1)) (.n 0))
def rs:List RV:=[.t 4]
attribute [push_cast] nd body
theorem ok:B9 prog Me nd body 2 rs=true:=by kernel_rfl
abbrev L3 (a b c d:V)(B:Nat)(H:Dh)(Q:QX):Prop:=AB prog nd B (DW 3 1 0 0) [(1,a),(7,b),(8,c),(9,d)] H Q
end Nq
namespace Pv
def nd:Nat->C
 | 0=>.seq (.dr [1,2,3,5,6,0,4,7,8,9,10,11,12,13,14] [.A 25 0,.A 26 7,.sx 27 4 (.s 25) none (some (.s 26)),.A 29 1,.E 30 3 5,.bo 24 C4 4 [],.app 28 C4 4 64 (.s 24) (.s 27),.bd 31 [.str [],.str [],.bool false,.sl 3 []] [(0,1,(.s 29)),(1,3,(.s 30))],.bs 32 4 [.s 31],.app 33 C4 4 64 (.s 28) (.s 32),.A 34 0,.A 35 7,.sx 36 4 (.s 34) (some (.s 35)) none,.app 37 C4 4 64 (.s 33) (.s 36),.A 6 37]) (.ret)
 | 1=>.gh [.ks 0 [0,1,5,7]] (.m 3)
 | 2=>.blk 1 (.reg [.A 22 7,.X 23 .add 22 1,.A 7 23])
 | 3=>.seq (.R [.A 8 7,.A 9 0,.Y 10 9,.V 11 .lss 8 10,.A 12 11,.P 12 true [13,14,15,16,17,18,19,20] [.A 13 0,.A 14 7,.G 15 4 13 14,.D 16 0 15,.B 17 16,.A 18 1,.U 19 D7 [.s 17,.s 18],.X 20 .lss 19 0],.N 21 12 20] (.W 21 (.skip) (.exit 0))) (.n 2)
 | _=>.skip
def body:C:=.R [.Z 5 A3 2,.mv 6 (.c (.sl 4 []))] (.R [.mv 7 (.i 0)] (.seq (.J 0 1) (.n 0)))
def rs:List RV:=[.t 6]
attribute [push_cast] nd body
theorem ok:B9 prog RN nd body 3 rs=true:=by kernel_rfl
abbrev L3 (a b c d:V)(B:Nat)(H:Dh)(Q:QX):Prop:=AB prog nd B (DW 3 1 0 0) [(0,a),(1,b),(5,c),(7,d)] H Q
end Pv
namespace GV
def nd:Nat->C
 | 0=>.R [.A 19 0,.E 20 3 3,.U 21 IP [.s 19,.s 20],.K 3 4 21,.mv 5 (.i 0)] (.ret)
 | _=>.skip
def body:C:=.R [.Z 3 A3 1,.al 4 A3 CM,.mv 5 (.i 0)] (.seq (.R [.A 7 0,.E 8 3 3,.U 9 Iq [.s 7,.s 8],.al 6 Gy [.int .i64 0,.int .i64 0],.L 6 2 9] (.R [.D 10 0 6,.B 11 10,.X 12 .gtr 11 4000,.A 13 12,.P 13 false [14,15,16] [.D 14 1 6,.B 15 14,.X 16 .gtr 15 200],.M 17 13 16] (.W 17 (.R [.bd 18 CM [],.K 3 4 18,.mv 5 (.i 3)] (.ret)) (.skip)))) (.n 0))
def rs:List RV:=[.a 4 3,.t 5]
attribute [push_cast] nd body
theorem ok:B9 prog FA nd body 2 rs=true:=by kernel_rfl
end GV
namespace Nf
def nd:Nat->C
 | 0=>.R [.E 47 3 7,.K 3 6 47] (.ret)
 | 1=>.gh [.ks 3 [1,5,6,7,21,22,23]] (.m 3)
 | 2=>.seq (.blk 1 (.R [.A 25 23,.G 26 3 21 23,.E 27 3 26,.al 9 A3 CM,.A 8 25,.K 3 9 27] (.seq (.R [.A 28 8,.A 29 1,.ia 30 1 (.s 29) (.i 0),.B 31 30,.V 32 .eql 28 31] (.W 32 (.dr [0,1,2,3,4,5] [.E 33 3 9,.A 34 1,.sx 35 1 (.s 34) (some (.i 1)) none,.E 36 3 5,.U 37 OG [.s 33,.s 35,.s 36],.K 3 9 37]) (.reg [.E 38 3 9,.U 39 Hw [.s 38],.K 3 9 39]))) (.reg [.D 40 2 7,.B 41 40,.E 42 3 9,.bs 43 3 [.s 42],.app 44 A3 3 48 (.s 41) (.s 43),.D 45 2 7,.K 1 45 44])))) (.reg [.X 46 .add 23 1,.A 23 46])
 | 3=>.R [.V 24 .lss 23 22] (.seq (.W 24 (.skip) (.exit 0)) (.n 2))
 | 4=>.R [.D 15 0 3,.B 16 15,.D 17 1 3,.B 18 17,.bd 19 [.str [],.bool false,.nil] [(0,1,(.s 16)),(1,1,(.s 18))],.al 7 A3 [.str [],.bool false,.nil],.K 3 7 19,.ono A3 3 2 (.s 7)] (.seq (.R [.D 20 2 3,.B 21 20,.Y 22 21,.mv 23 (.i 0)] (.J 0 1)) (.n 0))
 | _=>.skip
def body:C:=.R [.Z 3 A3 0,.Z 5 A3 2,.al 6 A3 CM] (.seq (.R [.A 10 1,.Y 11 10,.X 12 .eql 11 0] (.W 12 (.R [.E 13 3 5,.U 14 Hw [.s 13],.K 3 6 14] (.ret)) (.skip))) (.n 4))
def rs:List RV:=[.a 6 3]
attribute [push_cast] nd body
theorem ok:B9 prog OG nd body 3 rs=true:=by kernel_rfl
abbrev L3 (a b c d e f g:V)(B:Nat)(H:Dh)(Q:QX):Prop:=AB prog nd B (DW 3 1 0 0) [(1,a),(5,b),(6,c),(7,d),(21,e),(22,f),(23,g)] H Q
end Nf
namespace Nw
def nd:Nat->C
 | 0=>.R [.A 43 7,.A 44 8,.X 45 .add 44 1,.A 4 43,.A 5 45] (.ret)
 | 1=>.gh [.ks 0 [0,7,8,24,25,26]] (.m 3)
 | 2=>.seq (.blk 1 (.R [.G 28 3 24 26,.E 29 3 28,.al 10 A3 CM,.L 10 3 29] (.R [.A 31 0,.E 32 3 10,.U 33 MC [.s 31,.s 32],.A 30 33,.F 34 30 0,.F 35 30 1,.A 11 34,.A 12 35] (.reg [.A 36 7,.A 37 11,.V 38 .add 36 37,.A 39 8,.A 40 12,.mx 41 (.s 39) (.s 40),.A 7 38,.A 8 41])))) (.reg [.X 42 .add 26 1,.A 26 42])
 | 3=>.R [.V 27 .lss 26 25] (.seq (.W 27 (.skip) (.exit 0)) (.n 2))
 | 4=>.R [.mv 7 (.i 1),.mv 8 (.i 0)] (.seq (.R [.D 23 2 3,.B 24 23,.Y 25 24,.mv 26 (.i 0)] (.J 0 1)) (.n 0))
 | _=>.skip
def body:C:=.R [.Z 3 A3 1,.mv 4 (.i 0),.mv 5 (.i 0)] (.seq (.R [.D 13 1 3,.B 14 13] (.W 14 (.R [.A 15 0,.D 16 0 3,.B 17 16,.U 18 HR [.s 15,.s 17],.al 6 A3 CM,.L 6 3 18] (.seq (.dr [0,1,2,3,4,5] [.E 19 3 6,.U 20 Jo [.s 19],.E 21 3 6,.U 22 I0 [.s 21],.A 4 20,.A 5 22]) (.ret))) (.skip))) (.n 4))
def rs:List RV:=[.t 4,.t 5]
attribute [push_cast] nd body
theorem ok:B9 prog MC nd body 2 rs=true:=by kernel_rfl
abbrev L3 (a b c d e f:V)(B:Nat)(H:Dh)(Q:QX):Prop:=AB prog nd B (DW 3 1 0 0) [(0,a),(7,b),(8,c),(24,d),(25,e),(26,f)] H Q
end Nw
namespace T5
def nd:Nat->C
 | 0=>.R [.bo 12 A3 3 [],.op (.e2r 12),.D 13 2 3,.B 14 13,.apr 15 A3 3 48 (.s 12) (.s 14),.A 7 15] (.seq (.dr [0,1,2,3,4,5,6,7,8,9,10,11,12,13,14,15] [.A 16 7,.A 17 1,.ia 18 1 (.s 17) (.i 0),.B 19 18,.A 20 7,.A 21 1,.ia 22 1 (.s 21) (.i 0),.B 23 22,.G 24 3 20 23,.E 25 3 24,.A 26 1,.sx 27 1 (.s 26) (some (.i 1)) none,.E 28 3 5,.U 29 QP [.s 25,.s 27,.s 28],.G 30 3 16 19,.K 3 30 29]) (.R [.D 31 0 3,.B 32 31,.frz 7,.A 33 7,.bd 34 CM [(0,1,(.s 32)),(2,1,(.s 33))],.K 3 6 34] (.ret)))
 | _=>.skip
def body:C:=.R [.Z 3 A3 0,.Z 5 A3 2,.al 6 A3 CM] (.seq (.R [.A 8 1,.Y 9 8,.X 10 .eql 9 0] (.W 10 (.R [.E 11 3 5,.K 3 6 11] (.ret)) (.skip))) (.n 0))
def rs:List RV:=[.a 6 3]
attribute [push_cast] nd body
theorem ok:B9 prog QP nd body 3 rs=true:=by kernel_rfl
end T5
namespace PS
def nd:Nat->C
 | 0=>.R [.mv 2 (.i 0)] (.ret)
 | 1=>.gh [.ks 0 [6,7,8]] (.m 3)
 | 2=>.seq (.blk 1 (.R [.G 10 3 6 8,.E 11 3 10,.al 4 A3 CM,.L 4 3 11] (.R [.E 12 3 4,.U 13 Oe [.s 12],.A 5 13] (.R [.A 14 5,.J 15 14] (.W 15 (.R [.A 16 5,.A 2 16] (.ret)) (.skip)))))) (.reg [.X 17 .add 8 1,.A 8 17])
 | 3=>.R [.V 9 .lss 8 7] (.seq (.W 9 (.skip) (.exit 0)) (.n 2))
 | _=>.skip
def body:C:=.R [.mv 2 (.i 0)] (.seq (.R [.A 6 0,.Y 7 6,.mv 8 (.i 0)] (.J 0 1)) (.n 0))
def rs:List RV:=[.t 2]
attribute [push_cast] nd body
theorem ok:B9 prog Sd nd body 1 rs=true:=by kernel_rfl
abbrev L3 (a b c:V)(B:Nat)(H:Dh)(Q:QX):Prop:=AB prog nd B (DW 3 1 0 0) [(6,a),(7,b),(8,c)] H Q
end PS
namespace IH
def nd (_:Nat):C:=.skip
def body:C:=.R [.mv 4 (.c (.bool false))] (.R [.A 5 0,.A 6 1,.U 7 Dj [.s 5,.s 6],.A 4 7] (.ret))
def rs:List RV:=[.t 4]
attribute [push_cast] nd body
theorem ok:B9 prog GN nd body 2 rs=true:=by kernel_rfl
end IH
namespace BF
def nd:Nat->C
 | 0=>.R [.mv 4 (.i (-1))] (.ret)
 | 1=>.gh [.ks 0 [0,1,7,8]] (.m 3)
 | 2=>.seq (.blk 1 (.R [.A 10 8,.A 5 10] (.R [.A 11 1,.A 12 0,.A 13 5,.G 14 6 12 13,.E 15 6 14,.callvp (some 16) (.s 11) [.s 15]] (.W 16 (.R [.A 17 5,.A 4 17] (.ret)) (.skip))))) (.reg [.X 18 .add 8 1,.A 8 18])
 | 3=>.R [.V 9 .lss 8 7] (.seq (.W 9 (.skip) (.exit 0)) (.n 2))
 | _=>.skip
def body:C:=.R [.mv 4 (.i 0)] (.seq (.R [.A 6 0,.Y 7 6,.mv 8 (.i 0)] (.J 0 1)) (.n 0))
def rs:List RV:=[.t 4]
attribute [push_cast] nd body
theorem ok:B9 prog D3 nd body 2 rs=true:=by kernel_rfl
abbrev L3 (a b c d:V)(B:Nat)(H:Dh)(Q:QX):Prop:=AB prog nd B (DW 3 1 0 0) [(0,a),(1,b),(7,c),(8,d)] H Q
end BF
namespace Cg
def nd (_:Nat):C:=.skip
def body:C:=.R [.mv 4 (.c (.bool false))] (.R [.A 5 0,.A 6 1,.U 7 Cj [.s 5,.s 6],.X 8 .geq 7 0,.A 4 8] (.ret))
def rs:List RV:=[.t 4]
attribute [push_cast] nd body
theorem ok:B9 prog Bm nd body 2 rs=true:=by kernel_rfl
end Cg
namespace OL
def nd (_:Nat):C:=.skip
def body:C:=.R [.mv 3 (.c (.bool false))] (.R [.B 4 1,.A 5 0,.U 6 Cy [.s 4,.s 5],.Q 7 6,.A 3 7] (.ret))
def rs:List RV:=[.t 3]
attribute [push_cast] nd body
theorem ok:B9 prog Qe nd body 2 rs=true:=by kernel_rfl
end OL
namespace CQ
def nd (_:Nat):C:=.skip
def body:C:=.R [.mv 4 (.c (.bool false))] (.R [.A 5 0,.A 6 1,.U 7 AU [.s 5,.s 6],.X 8 .geq 7 0,.A 4 8] (.ret))
def rs:List RV:=[.t 4]
attribute [push_cast] nd body
theorem ok:B9 prog Cy nd body 2 rs=true:=by kernel_rfl
end CQ
namespace Gs
def nd:Nat->C
 | 0=>.R [.mv 4 (.c (.bool true))] (.ret)
 | 1=>.gh [.ks 0 [0,18,19,20]] (.m 3)
 | 2=>.seq (.blk 1 (.R [.G 22 4 18 20,.E 23 4 22,.al 6 A7 J2,.L 6 4 23] (.R [.A 24 0,.E 25 4 6,.U 26 KO [.s 24,.s 25],.Q 27 26] (.W 27 (.R [.mv 4 (.c (.bool false))] (.ret)) (.skip))))) (.reg [.X 28 .add 20 1,.A 20 28])
 | 3=>.R [.V 21 .lss 20 19] (.seq (.W 21 (.skip) (.exit 0)) (.n 2))
 | 4=>.seq (.R [.D 17 3 3,.B 18 17,.Y 19 18,.mv 20 (.i 0)] (.J 0 1)) (.n 0)
 | _=>.skip
def body:C:=.R [.Z 3 A7 1,.mv 4 (.c (.bool false))] (.seq (.R [.D 7 0 3,.B 8 7,.X 9 .lss 8 0,.A 10 9,.P 10 false [11,12,13,14,15] [.D 11 0 3,.B 12 11,.A 13 0,.Y 14 13,.V 15 .gtr 12 14],.M 16 10 15] (.W 16 (.R [.mv 4 (.c (.bool false))] (.ret)) (.skip))) (.n 4))
def rs:List RV:=[.t 4]
attribute [push_cast] nd body
theorem ok:B9 prog KO nd body 2 rs=true:=by kernel_rfl
abbrev L3 (a b c d:V)(B:Nat)(H:Dh)(Q:QX):Prop:=AB prog nd B (DW 3 1 0 0) [(0,a),(18,b),(19,c),(20,d)] H Q
end Gs
namespace Cl
def nd:Nat->C
 | 0=>.R [.mv 4 (.c (.bool true))] (.ret)
 | 1=>.gh [.ks 0 [0,56,57,58]] (.m 3)
 | 2=>.seq (.blk 2 (.R [.G 60 4 56 58,.E 61 4 60,.al 6 A7 J2,.L 6 4 61] (.R [.A 62 0,.E 63 4 6,.U 64 KH [.s 62,.s 63],.Q 65 64] (.W 65 (.R [.mv 4 (.c (.bool false))] (.ret)) (.skip))))) (.reg [.X 66 .add 58 1,.A 58 66])
 | 3=>.R [.V 59 .lss 58 57] (.seq (.W 59 (.skip) (.exit 1)) (.n 2))
 | 4=>.seq (.R [.D 55 3 3,.B 56 55,.Y 57 56,.mv 58 (.i 0)] (.J 1 1)) (.n 0)
 | _=>.skip
def body:C:=.R [.Z 3 A7 1,.mv 4 (.c (.bool false))] (.seq (.blk 0 (.R [.D 18 0 3,.B 19 18,.X 20 .gtr 19 0,.A 17 20] (.W 17 (.seq (.dr [0,1,2,3,4,5,6,7,8,9,10,11,12,13,14,15,16,17,18,19,20] [.D 21 2 3,.B 22 21,.A 23 22,.P 23 false [24] [.D 24 1 3],.P 23 false [25] [.B 25 24],.P 23 false [26] [.bin 26 .neq (.s 25) (.c (.str []))],.M 27 23 26,.A 28 27,.P 28 false [29] [.D 29 3 3],.P 28 false [30] [.B 30 29],.P 28 false [31] [.Y 31 30],.P 28 false [32] [.A 32 0],.P 28 false [33] [.D 33 0 3],.P 28 false [34] [.B 34 33],.P 28 false [35] [.X 35 .sub 34 1],.P 28 false [36] [.G 36 6 32 35],.P 28 false [37] [.E 37 6 36],.P 28 false [38] [.U 38 Gb [.s 37]],.P 28 false [39] [.Y 39 38],.P 28 false [40] [.V 40 .neq 31 39],.M 41 28 40]) (.W 41 (.R [.mv 4 (.c (.bool false))] (.ret)) (.skip))) (.R [.D 43 2 3,.B 44 43,.A 42 44] (.W 42 (.R [.D 45 1 3,.B 46 45,.U 47 Ee [.s 46,(.c (.bool false))],.Q 48 47,.A 49 48,.P 49 false [50,51,52,53] [.D 50 3 3,.B 51 50,.Y 52 51,.X 53 .gtr 52 0],.M 54 49 53] (.W 54 (.R [.mv 4 (.c (.bool false))] (.ret)) (.skip))) (.R [.D 7 1 3,.B 8 7,.U 9 Ee [.s 8,(.c (.bool true))],.Q 10 9,.A 11 10,.P 11 false [12,13,14,15] [.D 12 3 3,.B 13 12,.Y 14 13,.X 15 .gtr 14 8],.M 16 11 15] (.W 16 (.R [.mv 4 (.c (.bool false))] (.ret)) (.skip)))))))) (.n 4))
def rs:List RV:=[.t 4]
attribute [push_cast] nd body
theorem ok:B9 prog KH nd body 2 rs=true:=by kernel_rfl
abbrev L3 (a b c d:V)(B:Nat)(H:Dh)(Q:QX):Prop:=AB prog nd B (DW 3 1 1 0) [(0,a),(56,b),(57,c),(58,d)] H Q
end Cl
namespace HV
def nd:Nat->C
 | 0=>.R [.A 24 1,.A 4 24] (.ret)
 | 1=>.gh [.ks 0 [1,14,15,16]] (.m 3)
 | 2=>.seq (.blk 1 (.R [.G 18 3 14 16,.E 19 3 18,.al 6 A3 CM,.L 6 3 19] (.reg [.E 20 3 6,.A 21 1,.U 22 JO [.s 20,.s 21],.A 1 22]))) (.reg [.X 23 .add 16 1,.A 16 23])
 | 3=>.R [.V 17 .lss 16 15] (.seq (.W 17 (.skip) (.exit 0)) (.n 2))
 | 4=>.seq (.R [.D 13 2 2,.B 14 13,.Y 15 14,.mv 16 (.i 0)] (.J 0 1)) (.n 0)
 | _=>.skip
def body:C:=.R [.Z 2 A3 0,.mv 4 (.c (.sl 1 []))] (.seq (.R [.D 7 1 2,.B 8 7] (.W 8 (.reg [.A 9 1,.D 10 0 2,.B 11 10,.U 12 KF [.s 9,.s 11],.A 1 12]) (.skip))) (.n 4))
def rs:List RV:=[.t 4]
attribute [push_cast] nd body
theorem ok:B9 prog JO nd body 2 rs=true:=by kernel_rfl
abbrev L3 (a b c d:V)(B:Nat)(H:Dh)(Q:QX):Prop:=AB prog nd B (DW 3 1 0 0) [(1,a),(14,b),(15,c),(16,d)] H Q
end HV
namespace Pk
def nd (_:Nat):C:=.skip
def body:C:=.R [.Z 2 A7 0,.mv 3 (.c (.bool false))] (.R [.E 4 4 2,.B 5 1,.U 6 K6 [.s 4,.s 5],.Q 7 6,.A 3 7] (.ret))
def rs:List RV:=[.t 3]
attribute [push_cast] nd body
theorem ok:B9 prog N2 nd body 2 rs=true:=by kernel_rfl
end Pk
namespace Rj
def nd (_:Nat):C:=.skip
def body:C:=.R [.mv 0 (.c .nilf)] (.R [.mkm 2,.al 1 Bc [.nilm],.K 1 1 2] (.R [.mf 3 Dn [] [.s 1],.A 0 3] (.ret)))
def rs:List RV:=[.t 0]
attribute [push_cast] nd body
theorem ok:B9 prog Fv nd body 0 rs=true:=by kernel_rfl
end Rj
end Go.Dw
end
section
namespace Go.Dw
variable {s:List K} {B:Nat} {t:T} {H:List Ob} {Q:X->T->List Ob->Prop}
namespace Ei
def nd:Nat->C
 | 0=>.R [.call (some 83) Fv [],.A 20 83] (.seq (.dr [0,1,2,3,5,6,8] [.A 84 2,.U 85 BQ [.s 84],.A 86 20,.lar 87 3 (.s 14),.A 89 20,.lar 90 3 (.s 16),.A 92 20,.alt [([4],[.callv (some 88) (.s 86) [.s 87],.alt [([7,9,10,11,12,13,14],[.callv (some 91) (.s 89) [.s 90],.E 93 3 18,.callv (some 94) (.s 92) [.s 93],.bd 95 [.int .i64 0,.int .i64 0,.sl 1 [],.str [],.bool false,.sl 3 [],.str [],.bool false,.sl 3 [],.str [],.bool false,.sl 3 []] [(2,1,(.s 85)),(3,3,(.s 88)),(6,3,(.s 91)),(9,3,(.s 94))],.K 12 8 95,.mv 9 (.c (.bool true)),.mv 10 (.i 0)]),([9,7,10,11,12,13,14],[.E 93 3 18,.callv (some 91) (.s 89) [.s 90],.callv (some 94) (.s 92) [.s 93],.bd 95 [.int .i64 0,.int .i64 0,.sl 1 [],.str [],.bool false,.sl 3 [],.str [],.bool false,.sl 3 [],.str [],.bool false,.sl 3 []] [(2,1,(.s 85)),(3,3,(.s 88)),(6,3,(.s 91)),(9,3,(.s 94))],.K 12 8 95,.mv 9 (.c (.bool true)),.mv 10 (.i 0)])]]),([9,4,7,10,11,12,13,14],[.E 93 3 18,.callv (some 88) (.s 86) [.s 87],.callv (some 91) (.s 89) [.s 90],.callv (some 94) (.s 92) [.s 93],.bd 95 [.int .i64 0,.int .i64 0,.sl 1 [],.str [],.bool false,.sl 3 [],.str [],.bool false,.sl 3 [],.str [],.bool false,.sl 3 []] [(2,1,(.s 85)),(3,3,(.s 88)),(6,3,(.s 91)),(9,3,(.s 94))],.K 12 8 95,.mv 9 (.c (.bool true)),.mv 10 (.i 0)])]]) (.ret))
 | 1=>.R [.E 72 3 14,.A 73 2,.E 74 3 18,.U 75 OG [.s 72,.s 73,.s 74],.U 76 OM [.s 75],.A 71 76,.F 77 71 0,.F 78 71 1,.K 3 18 77,.A 13 78] (.seq (.R [.A 79 13,.J 80 79] (.W 80 (.R [.bd 81 [.int .i64 0,.int .i64 0,.sl 1 [],.str [],.bool false,.sl 3 [],.str [],.bool false,.sl 3 [],.str [],.bool false,.sl 3 []] [],.A 82 13,.K 12 8 81,.mv 9 (.c (.bool false)),.A 10 82] (.ret)) (.skip))) (.n 0))
 | 2=>.R [.A 40 11,.D 41 0 4,.E 42 3 41,.U 43 FA [.s 40,.s 42],.A 39 43,.F 44 39 0,.F 45 39 1,.al 14 A3 CM,.L 14 3 44,.A 15 45] (.R [.A 47 11,.D 48 3 4,.E 49 3 48,.U 50 FA [.s 47,.s 49],.A 46 50,.F 51 46 0,.F 52 46 1,.al 16 A3 CM,.L 16 3 51,.A 17 52] (.R [.A 54 11,.D 55 3 5,.E 56 3 55,.U 57 FA [.s 54,.s 56],.A 53 57,.F 58 53 0,.F 59 53 1,.al 18 A3 CM,.K 3 18 58,.A 19 59] (.seq (.R [.A 60 15,.J 61 60,.A 62 61,.P 62 false [63,64] [.A 63 17,.J 64 63],.M 65 62 64,.A 66 65,.P 66 false [67,68] [.A 67 19,.J 68 67],.M 69 66 68] (.W 69 (.R [.bd 70 [.int .i64 0,.int .i64 0,.sl 1 [],.str [],.bool false,.sl 3 [],.str [],.bool false,.sl 3 [],.str [],.bool false,.sl 3 []] [],.K 12 8 70,.mv 9 (.c (.bool false)),.mv 10 (.i 3)] (.ret)) (.skip))) (.n 1))))
 | _=>.skip
def body:C:=.R [.Z 4 BS 0,.Z 5 BS 1,.Z 7 A3 3,.al 8 DO [.int .i64 0,.int .i64 0,.sl 1 [],.str [],.bool false,.sl 3 [],.str [],.bool false,.sl 3 [],.str [],.bool false,.sl 3 []],.mv 9 (.c (.bool false)),.mv 10 (.i 0)] (.R [.E 22 3 7,.D 23 0 5,.E 24 3 23,.bd 25 [.str [],.bool false,.sl 3 [],.str [],.bool false,.sl 3 []] [(0,3,(.s 22)),(3,3,(.s 24))],.bs 26 6 [.s 25],.U 27 JI [.s 26],.A 21 27,.F 28 21 0,.F 29 21 1,.F 30 21 2,.A 11 28,.A 12 29,.A 13 30] (.seq (.R [.A 31 13,.J 32 31,.A 33 32,.P 33 false [34,35] [.A 34 12,.Q 35 34],.M 36 33 35] (.W 36 (.R [.bd 37 [.int .i64 0,.int .i64 0,.sl 1 [],.str [],.bool false,.sl 3 [],.str [],.bool false,.sl 3 [],.str [],.bool false,.sl 3 []] [],.A 38 13,.K 12 8 37,.mv 9 (.c (.bool false)),.A 10 38] (.ret)) (.skip))) (.n 2)))
def rs:List RV:=[.a 8 12,.t 9,.t 10]
attribute [push_cast] nd body
theorem ok:B9 prog ML nd body 4 rs=true:=by kernel_rfl
end Ei
namespace MY
def nd (_:Nat):C:=.skip
def body:C:=.R [.Z 1 BS 0,.al 2 BS [.str [],.bool false,.sl 3 [],.str [],.bool false,.sl 3 []]] (.R [.mkm 6,.al 3 Bc [.nilm],.K 1 3 6] (.R [.mf 7 CH [] [.s 3],.A 4 7] (.R [.D 8 0 1,.E 9 3 8,.A 10 4,.call (some 11) Df [.s 9,.s 10],.al 5 A3 CM,.L 5 3 11] (.seq (.dr [0,1,2,3,4,5,6] [.lar 12 3 (.s 5),.far 13 3 (.s 1),.lar 14 3 (.s 13),.A 15 4,.call (some 16) Df [.s 14,.s 15],.bd 17 [.str [],.bool false,.sl 3 [],.str [],.bool false,.sl 3 []] [(0,3,(.s 12)),(3,3,(.s 16))],.K 6 2 17]) (.ret)))))
def rs:List RV:=[.a 2 6]
attribute [push_cast] nd body
theorem ok:B9 prog Kl nd body 1 rs=true:=by kernel_rfl
end MY
namespace Jj
def nd (_:Nat):C:=.skip
def body:C:=.R [.mv 3 (.c (.bool false))] (.R [.E 4 3 1,.A 5 0,.U 6 KI [.s 4,.s 5],.X 7 .gtr 6 1,.A 3 7] (.ret))
def rs:List RV:=[.t 3]
attribute [push_cast] nd body
theorem ok:B9 prog Hr nd body 2 rs=true:=by kernel_rfl
end Jj
namespace HB
def nd:Nat->C
 | 0=>.R [.A 31 5,.A 4 31] (.ret)
 | 1=>.gh [.ks 0 [1,5,19,20,21]] (.m 3)
 | 2=>.seq (.blk 1 (.R [.G 23 3 19 21,.E 24 3 23,.al 7 A3 CM,.L 7 3 24] (.reg [.A 25 5,.E 26 3 7,.A 27 1,.U 28 KI [.s 26,.s 27],.V 29 .add 25 28,.A 5 29]))) (.reg [.X 30 .add 21 1,.A 21 30])
 | 3=>.R [.V 22 .lss 21 20] (.seq (.W 22 (.skip) (.exit 0)) (.n 2))
 | 4=>.seq (.R [.D 18 2 2,.B 19 18,.Y 20 19,.mv 21 (.i 0)] (.J 0 1)) (.n 0)
 | _=>.skip
def body:C:=.R [.Z 2 A3 0,.mv 4 (.i 0)] (.R [.mv 5 (.i 0)] (.seq (.R [.D 8 1 2,.B 9 8,.A 10 9,.P 10 true [11,12,13,14] [.D 11 0 2,.B 12 11,.A 13 1,.V 14 .eql 12 13],.N 15 10 14] (.W 15 (.reg [.A 16 5,.X 17 .add 16 1,.A 5 17]) (.skip))) (.n 4)))
def rs:List RV:=[.t 4]
attribute [push_cast] nd body
theorem ok:B9 prog KI nd body 2 rs=true:=by kernel_rfl
abbrev L3 (a b c d e:V)(B:Nat)(H:Dh)(Q:QX):Prop:=AB prog nd B (DW 3 1 0 0) [(1,a),(5,b),(19,c),(20,d),(21,e)] H Q
end HB
namespace Ig
def nd:Nat->C
 | 0=>.R [.mv 2 (.i 0)] (.ret)
 | 1=>.gh [.ks 0 [6,7,8]] (.m 3)
 | 2=>.seq (.blk 1 (.R [.G 10 3 6 8,.E 11 3 10,.al 4 A3 CM,.L 4 3 11] (.R [.E 12 3 4,.U 13 Pn [.s 12],.A 5 13] (.R [.A 14 5,.J 15 14] (.W 15 (.R [.A 16 5,.A 2 16] (.ret)) (.skip)))))) (.reg [.X 17 .add 8 1,.A 8 17])
 | 3=>.R [.V 9 .lss 8 7] (.seq (.W 9 (.skip) (.exit 0)) (.n 2))
 | _=>.skip
def body:C:=.R [.mv 2 (.i 0)] (.seq (.R [.A 6 0,.Y 7 6,.mv 8 (.i 0)] (.J 0 1)) (.n 0))
def rs:List RV:=[.t 2]
attribute [push_cast] nd body
theorem ok:B9 prog LL nd body 1 rs=true:=by kernel_rfl
abbrev L3 (a b c:V)(B:Nat)(H:Dh)(Q:QX):Prop:=AB prog nd B (DW 3 1 0 0) [(6,a),(7,b),(8,c)] H Q
end Ig
namespace Cn
def nd:Nat->C
 | 0=>.R [.A 94 1,.A 4 94,.mv 5 (.c (.bool true))] (.ret)
 | 1=>.gh [.ks 0 [1,77,78,79]] (.m 3)
 | 2=>.seq (.blk 3 (.R [.G 81 3 77 79,.E 82 3 81,.al 8 A3 CM,.L 8 3 82] (.R [.E 84 3 8,.A 85 1,.U 86 JL [.s 84,.s 85],.A 83 86,.F 87 83 0,.F 88 83 1,.A 9 87,.A 10 88] (.seq (.R [.A 89 10,.Q 90 89] (.W 90 (.R [.A 91 1,.A 4 91,.mv 5 (.c (.bool false))] (.ret)) (.skip))) (.reg [.A 92 9,.A 1 92]))))) (.reg [.X 93 .add 79 1,.A 79 93])
 | 3=>.R [.V 80 .lss 79 78] (.seq (.W 80 (.skip) (.exit 2)) (.n 2))
 | 4=>.seq (.R [.D 76 2 2,.B 77 76,.Y 78 77,.mv 79 (.i 0)] (.J 2 1)) (.n 0)
 | 5=>.seq (.seq (.dr [0,1,2,3,4,5,6,7,8] [.A 66 1,.A 67 6,.G 68 2 66 67,.D 69 1 68,.B 70 69,.D 71 2 2,.B 72 71,.Y 73 72,.V 74 .neq 70 73]) (.W 74 (.R [.A 75 1,.A 4 75,.mv 5 (.c (.bool false))] (.ret)) (.skip))) (.n 4)
 | 6=>.seq (.seq (.dr [0,1,2,3,4,5,6,7,8,9,10,11,12,13] [.A 35 6,.A 36 1,.Y 37 36,.V 38 .eql 35 37,.A 39 38,.P 39 false [40] [.A 40 1],.P 39 false [41] [.A 41 6],.P 39 false [42] [.G 42 2 40 41],.P 39 false [43] [.D 43 0 42],.P 39 false [44] [.B 44 43],.P 39 false [45] [.D 45 0 2],.P 39 false [46] [.B 46 45],.P 39 false [47] [.V 47 .neq 44 46],.M 48 39 47]) (.W 48 (.dr [1,2,3,5,6,7,8,0,4,9,10,11,12,13,14,15,16,17] [.A 50 1,.A 51 6,.sx 52 2 (.s 50) none (some (.s 51)),.D 54 0 2,.B 55 54,.D 56 2 2,.B 57 56,.bo 49 Sv 2 [],.app 53 Sv 2 24 (.s 49) (.s 52),.Y 58 57,.bd 59 [.str [],.int .i64 0] [(0,1,(.s 55)),(1,1,(.s 58))],.bs 60 2 [.s 59],.app 61 Sv 2 24 (.s 53) (.s 60),.A 62 1,.A 63 6,.sx 64 2 (.s 62) (some (.s 63)) none,.app 65 Sv 2 24 (.s 61) (.s 64),.A 1 65]) (.skip))) (.n 5)
 | 7=>.gh [.ks 0 [1,2,6]] (.m 9)
 | 8=>.blk 1 (.reg [.A 33 6,.X 34 .add 33 1,.A 6 34])
 | 9=>.seq (.seq (.dr [0,1,2,3,4,5,6,7,8,9,10,11,12,13,14] [.A 18 6,.A 19 1,.Y 20 19,.V 21 .lss 18 20,.A 22 21,.P 22 true [23] [.A 23 1],.P 22 true [24] [.A 24 6],.P 22 true [25] [.G 25 2 23 24],.P 22 true [26] [.D 26 0 25],.P 22 true [27] [.B 27 26],.P 22 true [28] [.D 28 0 2],.P 22 true [29] [.B 29 28],.P 22 true [30] [.U 30 D7 [.s 27,.s 29]],.P 22 true [31] [.X 31 .lss 30 0],.N 32 22 31]) (.W 32 (.skip) (.exit 0))) (.n 8)
 | 10=>.R [.mv 6 (.i 0)] (.seq (.J 0 7) (.n 6))
 | 11=>.seq (.R [.D 14 0 2,.B 15 14,.U 16 KK [.s 15]] (.W 16 (.R [.A 17 1,.A 4 17,.mv 5 (.c (.bool false))] (.ret)) (.skip))) (.n 10)
 | _=>.skip
def body:C:=.R [.Z 2 A3 0,.mv 4 (.c (.sl 2 [])),.mv 5 (.c (.bool false))] (.seq (.R [.D 11 1 2,.B 12 11] (.W 12 (.R [.A 13 1,.A 4 13,.mv 5 (.c (.bool true))] (.ret)) (.skip))) (.n 11))
def rs:List RV:=[.t 4,.t 5]
attribute [push_cast] nd body
theorem ok:B9 prog JL nd body 2 rs=true:=by kernel_rfl
abbrev L3 (a b c d:V)(B:Nat)(H:Dh)(Q:QX):Prop:=AB prog nd B (DW 3 1 2 0) [(1,a),(77,b),(78,c),(79,d)] H Q
abbrev L9 (a b c:V)(B:Nat)(H:Dh)(Q:QX):Prop:=AB prog nd B (DW 9 7 0 6) [(1,a),(2,b),(6,c)] H Q
end Cn
namespace KU
def nd:Nat->C
 | 0=>.R [.A 29 5,.A 4 29] (.ret)
 | 1=>.gh [.ks 0 [1,5,17,18,19]] (.m 3)
 | 2=>.seq (.blk 1 (.R [.G 21 3 17 19,.E 22 3 21,.al 7 A3 CM,.L 7 3 22] (.reg [.A 23 5,.E 24 3 7,.A 25 1,.U 26 K9 [.s 24,.s 25],.V 27 .add 23 26,.A 5 27]))) (.reg [.X 28 .add 19 1,.A 19 28])
 | 3=>.R [.V 20 .lss 19 18] (.seq (.W 20 (.skip) (.exit 0)) (.n 2))
 | 4=>.seq (.R [.D 16 2 2,.B 17 16,.Y 18 17,.mv 19 (.i 0)] (.J 0 1)) (.n 0)
 | _=>.skip
def body:C:=.R [.Z 2 A3 0,.mv 4 (.i 0)] (.R [.mv 5 (.i 0)] (.seq (.R [.D 8 1 2,.B 9 8,.A 10 9,.P 10 true [11,12,13,14] [.D 11 0 2,.B 12 11,.A 13 1,.V 14 .eql 12 13],.N 15 10 14] (.W 15 (.reg [.mv 5 (.i 1)]) (.skip))) (.n 4)))
def rs:List RV:=[.t 4]
attribute [push_cast] nd body
theorem ok:B9 prog K9 nd body 2 rs=true:=by kernel_rfl
abbrev L3 (a b c d e:V)(B:Nat)(H:Dh)(Q:QX):Prop:=AB prog nd B (DW 3 1 0 0) [(1,a),(5,b),(17,c),(18,d),(19,e)] H Q
end KU
namespace PA
def nd (_:Nat):C:=.skip
def body:C:=.R [.Z 2 BS 0,.al 4 BS [.str [],.bool false,.sl 3 [],.str [],.bool false,.sl 3 []]] (.R [.E 6 6 2,.U 7 PW [.s 6],.A 8 1,.U 9 IK [.s 7,.s 8],.A 5 9] (.seq (.dr [0,1,2,3,4,5,6,7,8,9] [.A 10 5,.D 11 0 2,.E 12 3 11,.U 13 CP [.s 10,.s 12],.A 14 5,.D 15 3 2,.E 16 3 15,.U 17 CP [.s 14,.s 16],.bd 18 [.str [],.bool false,.sl 3 [],.str [],.bool false,.sl 3 []] [(0,3,(.s 13)),(3,3,(.s 17))],.K 6 4 18]) (.ret)))
def rs:List RV:=[.a 4 6]
attribute [push_cast] nd body
theorem ok:B9 prog JM nd body 2 rs=true:=by kernel_rfl
end PA
namespace Ej
def nd:Nat->C
 | 0=>.R [.A 55 8,.A 2 55,.mv 3 (.c (.bool true)),.mv 4 (.i 0)] (.ret)
 | 1=>.gh [.ks 3 [5,8,35,36,37]] (.m 3)
 | 2=>.seq (.blk 3 (.R [.G 39 4 35 37,.E 40 4 39,.al 10 C4 [.str [],.str [],.bool false,.sl 3 []],.L 10 4 40] (.dr [0,1,2,3,4,5,6,7,8,9,10,11,12,13] [.A 41 8,.D 42 0 10,.B 43 42,.A 44 5,.nc 45 (.s 44),.D 46 0 45,.B 47 46,.D 48 1 10,.E 49 3 48,.U 50 JN [.s 47,.s 49],.bd 51 [.str [],.str [],.bool false,.sl 3 []] [(0,1,(.s 43)),(1,3,(.s 50))],.bs 52 4 [.s 51],.app 53 C4 4 64 (.s 41) (.s 52),.A 8 53]))) (.reg [.X 54 .add 37 1,.A 37 54])
 | 3=>.R [.V 38 .lss 37 36] (.seq (.W 38 (.skip) (.exit 2)) (.n 2))
 | 4=>.R [.mv 8 (.c .nil),.non 8 C4 4] (.seq (.R [.A 32 5,.nc 33 (.s 32),.D 34 0 33,.B 35 34,.Y 36 35,.mv 37 (.i 0)] (.J 2 1)) (.n 0))
 | 5=>.seq (.R [.A 27 5,.nc 28 (.s 27),.D 29 0 28,.B 30 29,.U 31 Pj [.s 30]] (.W 31 (.R [.mv 2 (.c (.sl 4 [])),.mv 3 (.c (.bool false)),.mv 4 (.i 3)] (.ret)) (.skip))) (.n 4)
 | 6=>.gh [.ks 2 [5,13,14,15]] (.m 8)
 | 7=>.seq (.blk 1 (.R [.G 17 6 13 15,.E 18 6 17,.al 7 BS [.str [],.bool false,.sl 3 [],.str [],.bool false,.sl 3 []],.L 7 6 18] (.R [.A 19 5,.D 20 0 7,.E 21 3 20,.D 22 3 7,.E 23 3 22,.call (some 24) Fd [.s 19,.s 21,.s 23],.Q 25 24] (.W 25 (.R [.mv 2 (.c (.sl 4 [])),.mv 3 (.c (.bool false)),.mv 4 (.i 0)] (.ret)) (.skip))))) (.reg [.X 26 .add 15 1,.A 15 26])
 | 8=>.R [.V 16 .lss 15 14] (.seq (.W 16 (.skip) (.exit 0)) (.n 7))
 | _=>.skip
def body:C:=.R [.mv 2 (.c (.sl 4 [])),.mv 3 (.c (.bool false)),.mv 4 (.i 0)] (.R [.bd 11 [.sl 4 [],.nil] [],.bx 12 CZ (.s 11),.ono F6 2 1 (.s 12),.A 5 12] (.seq (.R [.A 13 0,.Y 14 13,.mv 15 (.i 0)] (.J 0 6)) (.n 5)))
def rs:List RV:=[.t 2,.t 3,.t 4]
attribute [push_cast] nd body
theorem ok:B9 prog Iu nd body 1 rs=true:=by kernel_rfl
abbrev L3 (a b c d e:V)(B:Nat)(H:Dh)(Q:QX):Prop:=AB prog nd B (DW 3 1 2 0) [(5,a),(8,b),(35,c),(36,d),(37,e)] H Q
abbrev L8 (a b c d:V)(B:Nat)(H:Dh)(Q:QX):Prop:=AB prog nd B (DW 8 6 0 5) [(5,a),(13,b),(14,c),(15,d)] H Q
end Ej
namespace Te
def nd (_:Nat):C:=.skip
def body:C:=.R [.Z 3 A3 1,.mv 4 (.c (.bool false))] (.R [.A 8 0,.E 9 3 3,.U 10 MC [.s 8,.s 9],.A 7 10,.F 11 7 0,.F 12 7 1,.A 5 11,.A 6 12] (.R [.A 13 5,.X 14 .leq 13 4000,.A 15 14,.P 15 true [16,17] [.A 16 6,.X 17 .leq 16 200],.N 18 15 17,.A 4 18] (.ret)))
def rs:List RV:=[.t 4]
attribute [push_cast] nd body
theorem ok:B9 prog M5 nd body 2 rs=true:=by kernel_rfl
end Te
namespace NC
def nd (_:Nat):C:=.skip
def body:C:=.R [.Z 1 A3 0,.mv 2 (.c (.bool false))] (.R [.E 3 3 1,.U 4 Jo [.s 3],.X 5 .leq 4 4000,.A 6 5,.P 6 true [7,8,9] [.E 7 3 1,.U 8 I0 [.s 7],.X 9 .leq 8 200],.N 10 6 9,.A 2 10] (.ret))
def rs:List RV:=[.t 2]
attribute [push_cast] nd body
theorem ok:B9 prog Qh nd body 1 rs=true:=by kernel_rfl
end NC
namespace DD
def nd:Nat->C
 | 0=>.R [.A 39 5,.A 4 39] (.ret)
 | 1=>.gh [.ks 1 [0,1,5,11,12,13]] (.m 6)
 | 2=>.gh [.ks 1 [0,1,5,7,11,12,13,17,18,19]] (.m 4)
 | 3=>.seq (.blk 3 (.R [.A 21 19,.G 22 1 17 19,.B 23 22,.A 8 21,.A 9 23] (.R [.A 24 9,.A 25 7,.V 26 .eql 24 25] (.W 26 (.reg [.A 27 5,.A 28 7,.A 29 1,.A 30 8,.U 31 I8 [.s 30],.V 32 .add 29 31,.bd 33 CM [(0,1,(.s 32)),(1,1,(.c (.bool true)))],.bd 34 [.str [],.str [],.bool false,.sl 3 []] [(0,1,(.s 28)),(1,3,(.s 33))],.bs 35 4 [.s 34],.app 36 C4 4 64 (.s 27) (.s 35),.A 5 36]) (.skip))))) (.reg [.X 37 .add 19 1,.A 19 37])
 | 4=>.R [.V 20 .lss 19 18] (.seq (.W 20 (.skip) (.exit 2)) (.n 3))
 | 5=>.seq (.blk 1 (.R [.G 15 1 11 13,.B 16 15,.A 7 16] (.R [.A 17 0,.Y 18 17,.mv 19 (.i 0)] (.J 2 2)))) (.reg [.X 38 .add 13 1,.A 13 38])
 | 6=>.R [.V 14 .lss 13 12] (.seq (.W 14 (.skip) (.exit 0)) (.n 5))
 | _=>.skip
def body:C:=.R [.mv 4 (.c (.sl 4 []))] (.R [.mv 5 (.c .nil),.non 5 C4 4] (.seq (.R [.A 10 0,.U 11 O8 [.s 10],.Y 12 11,.mv 13 (.i 0)] (.J 0 1)) (.n 0)))
def rs:List RV:=[.t 4]
attribute [push_cast] nd body
theorem ok:B9 prog IK nd body 2 rs=true:=by kernel_rfl
abbrev L4 (a b c d e f g h i j:V)(B:Nat)(H:Dh)(Q:QX):Prop:=AB prog nd B [.c (.m 4),.c (.loop (.n 2)),.mk 2,.mk 1,.c (.reg [.X 38 .add 13 1,.A 13 38]),.c (.loop (.n 1)),.mk 0,.c (.n 0)] [(0,a),(1,b),(5,c),(7,d),(11,e),(12,f),(13,g),(17,h),(18,i),(19,j)] H Q
abbrev L6 (a b c d e f:V)(B:Nat)(H:Dh)(Q:QX):Prop:=AB prog nd B (DW 6 1 0 0) [(0,a),(1,b),(5,c),(11,d),(12,e),(13,f)] H Q
end DD
namespace KY
def nd:Nat->C
 | 0=>.R [.A 33 1,.A 4 33] (.ret)
 | 1=>.gh [.ks 0 [1,23,24,25]] (.m 3)
 | 2=>.seq (.blk 1 (.R [.G 27 3 23 25,.E 28 3 27,.al 6 A3 CM,.L 6 3 28] (.reg [.E 29 3 6,.A 30 1,.U 31 JX [.s 29,.s 30],.A 1 31]))) (.reg [.X 32 .add 25 1,.A 25 32])
 | 3=>.R [.V 26 .lss 25 24] (.seq (.W 26 (.skip) (.exit 0)) (.n 2))
 | 4=>.seq (.R [.D 22 2 2,.B 23 22,.Y 24 23,.mv 25 (.i 0)] (.J 0 1)) (.n 0)
 | 5=>.R [.A 21 1,.A 4 21] (.ret)
 | _=>.skip
def body:C:=.R [.Z 2 A3 0,.mv 4 (.c (.sl 1 []))] (.seq (.R [.D 7 1 2,.B 8 7] (.W 8 (.seq (.R [.A 9 1,.D 10 0 2,.B 11 10,.U 12 NA [.s 9,.s 11],.Q 13 12] (.W 13 (.dr [1,3,4,0,2,5,6,7] [.A 15 1,.D 17 0 2,.B 18 17,.bo 14 C7 1 [],.app 16 C7 1 16 (.s 14) (.s 15),.bs 19 1 [.s 18],.app 20 C7 1 16 (.s 16) (.s 19),.A 1 20]) (.skip))) (.n 5)) (.skip))) (.n 4))
def rs:List RV:=[.t 4]
attribute [push_cast] nd body
theorem ok:B9 prog JX nd body 2 rs=true:=by kernel_rfl
abbrev L3 (a b c d:V)(B:Nat)(H:Dh)(Q:QX):Prop:=AB prog nd B (DW 3 1 0 0) [(1,a),(23,b),(24,c),(25,d)] H Q
end KY
namespace DC
def nd:Nat->C
 | 0=>.R [.A 15 0,.A 4 15] (.ret)
 | _=>.skip
def body:C:=.R [.mv 4 (.c (.str []))] (.seq (.R [.A 5 0,.A 6 1,.U 7 Dj [.s 5,.s 6]] (.W 7 (.R [.A 8 0,.A 9 0,.lens 10 (.s 9),.A 11 1,.lens 12 (.s 11),.V 13 .sub 10 12,.sxs 14 (.s 8) none (some (.s 13)),.A 4 14] (.ret)) (.skip))) (.n 0))
def rs:List RV:=[.t 4]
attribute [push_cast] nd body
theorem ok:B9 prog EB nd body 2 rs=true:=by kernel_rfl
end DC
namespace BE
def nd:Nat->C
 | 0=>.R [.mv 4 (.i (-1))] (.ret)
 | 1=>.gh [.ks 0 [0,1,7,8]] (.m 3)
 | 2=>.seq (.blk 1 (.R [.A 10 8,.A 5 10] (.R [.A 11 1,.A 12 0,.A 13 5,.G 14 1 12 13,.B 15 14,.callvp (some 16) (.s 11) [.s 15]] (.W 16 (.R [.A 17 5,.A 4 17] (.ret)) (.skip))))) (.reg [.X 18 .add 8 1,.A 8 18])
 | 3=>.R [.V 9 .lss 8 7] (.seq (.W 9 (.skip) (.exit 0)) (.n 2))
 | _=>.skip
def body:C:=.R [.mv 4 (.i 0)] (.seq (.R [.A 6 0,.Y 7 6,.mv 8 (.i 0)] (.J 0 1)) (.n 0))
def rs:List RV:=[.t 4]
attribute [push_cast] nd body
theorem ok:B9 prog D4 nd body 2 rs=true:=by kernel_rfl
abbrev L3 (a b c d:V)(B:Nat)(H:Dh)(Q:QX):Prop:=AB prog nd B (DW 3 1 0 0) [(0,a),(1,b),(7,c),(8,d)] H Q
end BE
namespace NU
def nd:Nat->C
 | 0=>.R [.A 17 0,.A 18 6,.G 19 4 17 18,.D 20 1 19,.E 21 3 20,.K 3 4 21,.mv 5 (.c (.bool true))] (.ret)
 | _=>.skip
def body:C:=.R [.al 4 A3 CM,.mv 5 (.c (.bool false))] (.R [.A 9 0,.A 10 1,.call (some 11) AL [.s 9,.s 10,(.f LZ)],.A 8 11,.F 12 8 0,.F 13 8 1,.A 6 12,.A 7 13] (.seq (.R [.A 14 7,.Q 15 14] (.W 15 (.R [.bd 16 CM [],.K 3 4 16,.mv 5 (.c (.bool false))] (.ret)) (.skip))) (.n 0)))
def rs:List RV:=[.a 4 3,.t 5]
attribute [push_cast] nd body
theorem ok:B9 prog Ky nd body 2 rs=true:=by kernel_rfl
end NU
namespace Ym
def nd (_:Nat):C:=.skip
def body:C:=.R [.Z 5 A3 2,.mv 6 (.c (.sl 4 []))] (.R [.A 10 0,.A 11 1,.call (some 12) AL [.s 10,.s 11,(.f Lp)],.A 9 12,.F 13 9 0,.F 14 9 1,.A 7 13,.A 8 14] (.R [.A 15 0,.A 16 7,.A 17 1,.E 18 3 5,.bd 19 [.str [],.str [],.bool false,.sl 3 []] [(0,1,(.s 17)),(1,3,(.s 18))],.bo 20 C4 4 [.s 19],.call (some 21) FM [.s 15,.s 16,.s 20],.A 6 21] (.ret)))
def rs:List RV:=[.t 6]
attribute [push_cast] nd body
theorem ok:B9 prog Og nd body 3 rs=true:=by kernel_rfl
end Ym
namespace Sc
def nd (_:Nat):C:=.skip
def body:C:=.R [.mv 2 (.c (.bool false))] (.R [.A 3 0,.bin 4 .geq (.s 3) (.c (.int .u8 65)),.A 5 4,.P 5 true [6,7] [.A 6 0,.bin 7 .leq (.s 6) (.c (.int .u8 90))],.N 8 5 7,.A 9 8,.P 9 false [10,11,12] [.A 10 0,.bin 11 .geq (.s 10) (.c (.int .u8 97)),.A 12 11],.P 12 true [13,14] [.A 13 0,.bin 14 .leq (.s 13) (.c (.int .u8 122))],.P 9 false [15] [.N 15 12 14],.M 16 9 15,.A 17 16,.P 17 false [18,19,20] [.A 18 0,.bin 19 .geq (.s 18) (.c (.int .u8 48)),.A 20 19],.P 20 true [21,22] [.A 21 0,.bin 22 .leq (.s 21) (.c (.int .u8 57))],.P 17 false [23] [.N 23 20 22],.M 24 17 23,.A 25 24,.P 25 false [26,27] [.A 26 0,.bin 27 .eql (.s 26) (.c (.int .u8 95))],.M 28 25 27,.A 29 28,.P 29 false [30,31] [.A 30 0,.bin 31 .eql (.s 30) (.c (.int .u8 39))],.M 32 29 31,.A 2 32] (.ret))
def rs:List RV:=[.t 2]
attribute [push_cast] nd body
theorem ok:B9 prog O3 nd body 1 rs=true:=by kernel_rfl
end Sc
namespace GA
def nd:Nat->C
 | 0=>.R [.D 51 1 7,.B 52 51,.X 53 .add 52 1,.D 54 1 7,.K 1 54 53] (.R [.E 55 2 7,.K 2 4 55] (.ret))
 | 1=>.gh [.ks 2 [0,4,7,29,30,31]] (.m 3)
 | 2=>.seq (.blk 1 (.R [.G 33 3 29 31,.E 34 3 33,.al 9 A3 CM,.L 9 3 34] (.R [.A 35 0,.E 36 3 9,.U 37 Iq [.s 35,.s 36],.al 10 Gy [.int .i64 0,.int .i64 0],.L 10 2 37] (.dr [0,1,2,3,4,5,6,7,10] [.D 38 0 7,.B 39 38,.D 40 0 10,.B 41 40,.V 42 .add 39 41,.D 43 1 7,.B 44 43,.D 45 1 10,.D 48 0 7,.alt [([8,9,11,12,13],[.B 46 45,.mx 47 (.s 44) (.s 46),.K 1 48 42,.D 49 1 7,.K 1 49 47]),([11,8,9,12,13],[.K 1 48 42,.B 46 45,.mx 47 (.s 44) (.s 46),.D 49 1 7,.K 1 49 47])]])))) (.reg [.X 50 .add 31 1,.A 31 50])
 | 3=>.R [.V 32 .lss 31 30] (.seq (.W 32 (.skip) (.exit 0)) (.n 2))
 | 4=>.R [.bd 27 [.int .i64 0,.int .i64 0] [(0,1,(.i 1)),(1,1,(.i 0))],.al 7 Gy [.int .i64 0,.int .i64 0],.K 2 7 27] (.seq (.R [.D 28 2 3,.B 29 28,.Y 30 29,.mv 31 (.i 0)] (.J 0 1)) (.n 0))
 | 5=>.R [.bd 26 [.int .i64 0,.int .i64 0] [(0,1,(.i 1)),(1,1,(.i 1))],.K 2 4 26] (.ret)
 | _=>.skip
def body:C:=.R [.Z 3 A3 1,.al 4 Gy [.int .i64 0,.int .i64 0]] (.seq (.R [.D 11 1 3,.B 12 11] (.W 12 (.seq (.R [.A 14 0,.D 15 0 3,.B 16 15,.U 17 Ky [.s 14,.s 16],.A 13 17,.F 18 13 0,.F 19 13 1,.al 5 A3 CM,.L 5 3 18,.A 6 19] (.R [.A 20 6] (.W 20 (.seq (.dr [0,1,2,3,4,5] [.E 21 3 5,.U 22 K5 [.s 21],.E 23 3 5,.U 24 IR [.s 23],.bd 25 [.int .i64 0,.int .i64 0] [(0,1,(.s 22)),(1,1,(.s 24))],.K 2 4 25]) (.ret)) (.skip)))) (.n 5)) (.skip))) (.n 4))
def rs:List RV:=[.a 4 2]
attribute [push_cast] nd body
theorem ok:B9 prog Iq nd body 2 rs=true:=by kernel_rfl
abbrev L3 (a b c d e f:V)(B:Nat)(H:Dh)(Q:QX):Prop:=AB prog nd B (DW 3 1 0 0) [(0,a),(4,b),(7,c),(29,d),(30,e),(31,f)] H Q
end GA
namespace GG
def nd:Nat->C
 | 0=>.R [.E 44 3 7,.K 3 4 44] (.ret)
 | 1=>.gh [.ks 3 [0,4,7,29,30,31]] (.m 3)
 | 2=>.seq (.blk 1 (.R [.G 33 3 29 31,.E 34 3 33,.al 9 A3 CM,.L 9 3 34] (.dr [0,1,2,3,4,5,6,7,8] [.D 35 2 7,.B 36 35,.A 37 0,.E 38 3 9,.U 39 IP [.s 37,.s 38],.bs 40 3 [.s 39],.app 41 A3 3 48 (.s 36) (.s 40),.D 42 2 7,.K 1 42 41]))) (.reg [.X 43 .add 31 1,.A 31 43])
 | 3=>.R [.V 32 .lss 31 30] (.seq (.W 32 (.skip) (.exit 0)) (.n 2))
 | 4=>.R [.D 25 0 3,.B 26 25,.bd 27 [.str [],.bool false,.nil] [(0,1,(.s 26))],.al 7 A3 [.str [],.bool false,.nil],.K 3 7 27,.ono A3 3 2 (.s 7)] (.seq (.R [.D 28 2 3,.B 29 28,.Y 30 29,.mv 31 (.i 0)] (.J 0 1)) (.n 0))
 | 5=>.R [.D 22 0 3,.B 23 22,.bd 24 CM [(0,1,(.s 23)),(1,1,(.c (.bool true)))],.K 3 4 24] (.ret)
 | _=>.skip
def body:C:=.R [.Z 3 A3 1,.al 4 A3 CM] (.seq (.R [.D 10 1 3,.B 11 10] (.W 11 (.seq (.R [.A 13 0,.D 14 0 3,.B 15 14,.U 16 Ky [.s 13,.s 15],.A 12 16,.F 17 12 0,.F 18 12 1,.al 5 A3 CM,.L 5 3 17,.A 6 18] (.R [.A 19 6] (.W 19 (.R [.E 20 3 5,.U 21 Hw [.s 20],.K 3 4 21] (.ret)) (.skip)))) (.n 5)) (.skip))) (.n 4))
def rs:List RV:=[.a 4 3]
attribute [push_cast] nd body
theorem ok:B9 prog IP nd body 2 rs=true:=by kernel_rfl
abbrev L3 (a b c d e f:V)(B:Nat)(H:Dh)(Q:QX):Prop:=AB prog nd B (DW 3 1 0 0) [(0,a),(4,b),(7,c),(29,d),(30,e),(31,f)] H Q
end GG
namespace DZ
def nd (_:Nat):C:=.skip
def body:C:=.R [.mv 4 (.c (.bool false))] (.R [.A 5 0,.lens 6 (.s 5),.A 7 1,.lens 8 (.s 7),.V 9 .geq 6 8,.A 10 9,.P 10 true [11,12,13,14,15,16,17,18,19] [.A 11 0,.A 12 0,.lens 13 (.s 12),.A 14 1,.lens 15 (.s 14),.V 16 .sub 13 15,.sxs 17 (.s 11) (some (.s 16)) none,.A 18 1,.V 19 .eql 17 18],.N 20 10 19,.A 4 20] (.ret))
def rs:List RV:=[.t 4]
attribute [push_cast] nd body
theorem ok:B9 prog Dj nd body 2 rs=true:=by kernel_rfl
end DZ
namespace Bj
def nd:Nat->C
 | 0=>.R [.mv 4 (.i (-1))] (.ret)
 | 1=>.gh [.ks 0 [0,1,7,8]] (.m 3)
 | 2=>.seq (.blk 1 (.R [.A 10 8,.A 5 10] (.R [.A 11 1,.A 12 0,.A 13 5,.G 14 1 12 13,.B 15 14,.callvp (some 16) (.s 11) [.s 15]] (.W 16 (.R [.A 17 5,.A 4 17] (.ret)) (.skip))))) (.reg [.X 18 .add 8 1,.A 8 18])
 | 3=>.R [.V 9 .lss 8 7] (.seq (.W 9 (.skip) (.exit 0)) (.n 2))
 | _=>.skip
def body:C:=.R [.mv 4 (.i 0)] (.seq (.R [.A 6 0,.Y 7 6,.mv 8 (.i 0)] (.J 0 1)) (.n 0))
def rs:List RV:=[.t 4]
attribute [push_cast] nd body
theorem ok:B9 prog Cj nd body 2 rs=true:=by kernel_rfl
abbrev L3 (a b c d:V)(B:Nat)(H:Dh)(Q:QX):Prop:=AB prog nd B (DW 3 1 0 0) [(0,a),(1,b),(7,c),(8,d)] H Q
end Bj
namespace Jm
def nd:Nat->C
 | 0=>.seq (.dr [0,1,2,3,4,5,6,7,8,9,10,11,12] [.bo 34 C7 1 [],.A 35 0,.A 36 5,.sx 37 1 (.s 35) none (some (.s 36)),.app 38 C7 1 16 (.s 34) (.s 37),.A 39 1,.bs 40 1 [.s 39],.app 41 C7 1 16 (.s 38) (.s 40),.A 42 0,.A 43 5,.sx 44 1 (.s 42) (some (.s 43)) none,.app 45 C7 1 16 (.s 41) (.s 44),.A 4 45]) (.ret)
 | 1=>.seq (.R [.A 21 5,.A 22 0,.Y 23 22,.V 24 .lss 21 23,.A 25 24,.P 25 true [26,27,28,29,30,31] [.A 26 0,.A 27 5,.G 28 1 26 27,.B 29 28,.A 30 1,.V 31 .eql 29 30],.N 32 25 31] (.W 32 (.R [.A 33 0,.A 4 33] (.ret)) (.skip))) (.n 0)
 | 2=>.gh [.ks 0 [0,1,5]] (.m 4)
 | 3=>.blk 1 (.reg [.A 19 5,.X 20 .add 19 1,.A 5 20])
 | 4=>.seq (.R [.A 6 5,.A 7 0,.Y 8 7,.V 9 .lss 6 8,.A 10 9,.P 10 true [11,12,13,14,15,16,17] [.A 11 0,.A 12 5,.G 13 1 11 12,.B 14 13,.A 15 1,.U 16 D7 [.s 14,.s 15],.X 17 .lss 16 0],.N 18 10 17] (.W 18 (.skip) (.exit 0))) (.n 3)
 | _=>.skip
def body:C:=.R [.mv 4 (.c (.sl 1 []))] (.R [.mv 5 (.i 0)] (.seq (.J 0 2) (.n 1)))
def rs:List RV:=[.t 4]
attribute [push_cast] nd body
theorem ok:B9 prog KF nd body 2 rs=true:=by kernel_rfl
abbrev L4 (a b c:V)(B:Nat)(H:Dh)(Q:QX):Prop:=AB prog nd B (DW 4 2 0 1) [(0,a),(1,b),(5,c)] H Q
end Jm
namespace P8
def nd (_:Nat):C:=.skip
def body:C:=.R [.Z 2 A3 0,.al 3 A3 CM] (.R [.E 4 3 2,.mf 5 EH [] [.s 1],.call (some 6) Df [.s 4,.s 5],.K 3 3 6] (.ret))
def rs:List RV:=[.a 3 3]
attribute [push_cast] nd body
theorem ok:B9 prog Dn nd body 2 rs=true:=by kernel_rfl
end P8
namespace KS
def nd:Nat->C
 | 0=>.R [.E 34 3 5,.K 3 4 34] (.ret)
 | 1=>.gh [.ks 3 [1,4,5,19,20,21]] (.m 3)
 | 2=>.seq (.blk 1 (.R [.G 23 3 19 21,.E 24 3 23,.al 7 A3 CM,.L 7 3 24] (.dr [2,3] [.E 27 3 7,.A 28 1,.alt [([0],[.D 25 2 5,.alt [([1,4,5,6,7,8],[.B 26 25,.call (some 29) Df [.s 27,.s 28],.bs 30 3 [.s 29],.app 31 A3 3 48 (.s 26) (.s 30),.D 32 2 5,.K 1 32 31]),([4,1,5,6,7,8],[.call (some 29) Df [.s 27,.s 28],.B 26 25,.bs 30 3 [.s 29],.app 31 A3 3 48 (.s 26) (.s 30),.D 32 2 5,.K 1 32 31])]]),([4,0,1,5,6,7,8],[.call (some 29) Df [.s 27,.s 28],.D 25 2 5,.B 26 25,.bs 30 3 [.s 29],.app 31 A3 3 48 (.s 26) (.s 30),.D 32 2 5,.K 1 32 31])]]))) (.reg [.X 33 .add 21 1,.A 21 33])
 | 3=>.R [.V 22 .lss 21 20] (.seq (.W 22 (.skip) (.exit 0)) (.n 2))
 | 4=>.R [.D 15 0 2,.B 16 15,.bd 17 [.str [],.bool false,.nil] [(0,1,(.s 16))],.al 5 A3 [.str [],.bool false,.nil],.K 3 5 17,.ono A3 3 2 (.s 5)] (.seq (.R [.D 18 2 2,.B 19 18,.Y 20 19,.mv 21 (.i 0)] (.J 0 1)) (.n 0))
 | _=>.skip
def body:C:=.R [.Z 2 A3 0,.al 4 A3 CM] (.seq (.R [.D 8 1 2,.B 9 8] (.W 9 (.R [.A 10 1,.D 11 0 2,.B 12 11,.callv (some 13) (.s 10) [.s 12],.bd 14 CM [(0,1,(.s 13)),(1,1,(.c (.bool true)))],.K 3 4 14] (.ret)) (.skip))) (.n 4))
def rs:List RV:=[.a 4 3]
attribute [push_cast] nd body
theorem ok:B9 prog Df nd body 2 rs=true:=by kernel_rfl
abbrev L3 (a b c d e f:V)(B:Nat)(H:Dh)(Q:QX):Prop:=AB prog nd B (DW 3 1 0 0) [(1,a),(4,b),(5,c),(19,d),(20,e),(21,f)] H Q
end KS
namespace Mq
def nd:Nat->C
 | 0=>.R [.B 14 1,.A 15 0,.lkp 16 true false (.str []) (.s 14) (.s 15),.A 3 16] (.ret)
 | _=>.skip
def body:C:=.R [.mv 3 (.c (.str []))] (.seq (.R [.B 4 1,.A 5 0,.lkp 6 true false (.str []) (.s 4) (.s 5),.bin 7 .eql (.s 6) (.c (.str []))] (.W 7 (.dr [0,1,2,3,4,5,6] [.B 8 1,.A 9 0,.B 10 1,.lnm 11 (.s 10),.U 12 Gm [.s 11],.bin 13 .add (.c (.str [120])) (.s 12),.mup true (.s 8) (.s 9) (.s 13)]) (.skip))) (.n 0))
def rs:List RV:=[.t 3]
attribute [push_cast] nd body
theorem ok:B9 prog EH nd body 2 rs=true:=by kernel_rfl
end Mq
namespace Of
def nd (_:Nat):C:=.skip
def body:C:=.R [.mv 2 (.c (.str []))] (.R [.A 3 0,.U 4 Kf [.s 3],.A 2 4] (.ret))
def rs:List RV:=[.t 2]
attribute [push_cast] nd body
theorem ok:B9 prog Gm nd body 1 rs=true:=by kernel_rfl
end Of
namespace CO
def nd:Nat->C
 | 0=>.R [.frz 8,.A 61 8,.A 2 61,.mv 3 (.c (.bool true)),.mv 4 (.i 0)] (.ret)
 | 1=>.gh [.ks 6 [5,8,9,36]] (.m 3)
 | 2=>.blk 3 (.R [.en 39 (.s 36),.F 40 39 0,.A 10 40] (.R [.A 41 10,.bd 42 CM [(0,1,(.s 41)),(1,1,(.c (.bool true)))],.al 11 A3 CM,.L 11 3 42] (.seq (.R [.A 43 5,.E 44 3 11,.A 45 9,.call (some 46) Cv [.s 43,.s 44,.s 45],.al 12 DG [.int .i64 0,.int .i64 0],.L 12 2 46] (.R [.D 47 0 12,.B 48 47,.X 49 .gtr 48 4000,.A 50 49,.P 50 false [51,52,53] [.D 51 1 12,.B 52 51,.X 53 .gtr 52 200],.M 54 50 53] (.W 54 (.R [.mv 2 (.c (.sl 4 [])),.mv 3 (.c (.bool false)),.mv 4 (.i 3)] (.ret)) (.skip)))) (.reg [.A 55 8,.A 56 10,.A 57 5,.E 58 3 11,.call (some 59) BR [.s 57,.s 58],.call (some 60) Og [.s 55,.s 56,.s 59],.A 8 60]))))
 | 3=>.R [.nx 37 (.s 36),.F 38 37 0] (.seq (.W 38 (.skip) (.exit 2)) (.n 2))
 | 4=>.R [.mv 8 (.c .nil),.rnon 8 C4 4] (.R [.mkm 31,.A 9 31] (.seq (.R [.A 32 5,.nc 33 (.s 32),.D 34 0 33,.B 35 34,.rg 36 (.s 35)] (.J 2 1)) (.n 0)))
 | 5=>.gh [.ks 3 [5,17,18,19]] (.m 7)
 | 6=>.seq (.blk 1 (.R [.G 21 6 17 19,.E 22 6 21,.al 7 BS [.str [],.bool false,.sl 3 [],.str [],.bool false,.sl 3 []],.L 7 6 22] (.R [.A 23 5,.D 24 0 7,.E 25 3 24,.D 26 3 7,.E 27 3 26,.call (some 28) E0 [.s 23,.s 25,.s 27],.Q 29 28] (.W 29 (.R [.mv 2 (.c (.sl 4 [])),.mv 3 (.c (.bool false)),.mv 4 (.i 0)] (.ret)) (.skip))))) (.reg [.X 30 .add 19 1,.A 19 30])
 | 7=>.R [.V 20 .lss 19 18] (.seq (.W 20 (.skip) (.exit 0)) (.n 6))
 | _=>.skip
def body:C:=.R [.mv 2 (.c (.sl 4 [])),.mv 3 (.c (.bool false)),.mv 4 (.i 0)] (.R [.mkm 13,.mkm 14,.bd 15 [.nilm,.nilm] [(0,1,(.s 13)),(1,1,(.s 14))],.bx 16 B4 (.s 15),.A 5 16] (.seq (.R [.A 17 0,.Y 18 17,.mv 19 (.i 0)] (.J 0 5)) (.n 4)))
def rs:List RV:=[.t 2,.t 3,.t 4]
attribute [push_cast] nd body
theorem ok:B9 prog JI nd body 1 rs=true:=by kernel_rfl
abbrev L3 (a b c d:V)(B:Nat)(H:Dh)(Q:QX):Prop:=AB prog nd B (DW 3 1 2 0) [(5,a),(8,b),(9,c),(36,d)] H Q
abbrev L7 (a b c d:V)(B:Nat)(H:Dh)(Q:QX):Prop:=AB prog nd B (DW 7 5 0 4) [(5,a),(17,b),(18,c),(19,d)] H Q
end CO
namespace OQ
def nd:Nat->C
 | 0=>.R [.B 14 1,.A 15 0,.lkp 16 true false (.str []) (.s 14) (.s 15),.A 3 16] (.ret)
 | _=>.skip
def body:C:=.R [.mv 3 (.c (.str []))] (.seq (.R [.B 4 1,.A 5 0,.lkp 6 true false (.str []) (.s 4) (.s 5),.bin 7 .eql (.s 6) (.c (.str []))] (.W 7 (.dr [0,1,2,3,4,5,6] [.B 8 1,.A 9 0,.B 10 1,.lnm 11 (.s 10),.U 12 Gm [.s 11],.bin 13 .add (.c (.str [121])) (.s 12),.mup true (.s 8) (.s 9) (.s 13)]) (.skip))) (.n 0))
def rs:List RV:=[.t 3]
attribute [push_cast] nd body
theorem ok:B9 prog CH nd body 2 rs=true:=by kernel_rfl
end OQ
namespace UR
def nd (_:Nat):C:=.skip
def body:C:=.R [.Z 1 BS 0,.mv 2 (.c (.sl 1 []))] (.R [.D 3 0 1,.E 4 3 3,.U 5 JX [.s 4,(.c (.sl 1 []))],.A 2 5] (.ret))
def rs:List RV:=[.t 2]
attribute [push_cast] nd body
theorem ok:B9 prog PW nd body 1 rs=true:=by kernel_rfl
end UR
namespace BN
def nd:Nat->C
 | 0=>.R [.mv 6 (.c (.bool true))] (.ret)
 | 1=>.seq (.R [.A 107 8] (.W 107 (.dr [0,1,2,3,4,5,6,7,8,9,10] [.A 108 0,.A 109 0,.nc 110 (.s 109),.D 111 1 110,.B 112 111,.E 113 2 7,.bs 114 2 [.s 113],.app 115 F6 2 32 (.s 112) (.s 114),.nc 116 (.s 108),.D 117 1 116,.K 1 117 115]) (.skip))) (.n 0)
 | 2=>.gh [.ks 3 [0,4,5,7,8,89,90]] (.m 4)
 | 3=>.seq (.blk 2 (.R [.A 92 90,.A 9 92] (.seq (.dr [0,1,2,3,4,5,6,7,8,9,10,11,12] [.A 93 0,.D 94 2 4,.B 95 94,.A 96 9,.G 97 3 95 96,.E 98 3 97,.D 99 2 5,.B 100 99,.A 101 9,.G 102 3 100 101,.E 103 3 102,.call (some 104) Fd [.s 93,.s 98,.s 103],.Q 105 104]) (.W 105 (.R [.mv 6 (.c (.bool false))] (.ret)) (.skip))))) (.reg [.X 106 .add 90 1,.A 90 106])
 | 4=>.R [.V 91 .lss 90 89] (.seq (.W 91 (.skip) (.exit 1)) (.n 3))
 | 5=>.seq (.R [.D 87 2 4,.B 88 87,.Y 89 88,.mv 90 (.i 0)] (.J 1 2)) (.n 1)
 | 6=>.seq (.dr [0,1,2,3,4,5,6,7,8,9,10,11,12,13] [.A 30 0,.nc 31 (.s 30),.D 32 0 31,.B 33 32,.E 34 3 4,.U 35 LT [.s 33,.s 34],.A 36 0,.nc 37 (.s 36),.D 38 0 37,.B 39 38,.E 40 3 5,.U 41 LT [.s 39,.s 40],.K 3 4 35,.K 3 5 41]) (.seq (.blk 0 (.R [.D 43 1 4,.B 44 43,.A 45 44,.P 45 true [46,47] [.D 46 1 5,.B 47 46],.N 48 45 47,.A 49 48,.P 49 true [50,51,52,53,54] [.D 50 0 4,.B 51 50,.D 52 0 5,.B 53 52,.V 54 .eql 51 53],.N 55 49 54,.A 42 55] (.W 42 (.R [.mv 6 (.c (.bool true))] (.ret)) (.R [.D 57 1 4,.B 58 57,.A 56 58] (.W 56 (.R [.A 59 0,.D 60 0 4,.B 61 60,.E 62 3 5,.call (some 63) FR [.s 59,.s 61,.s 62],.A 6 63] (.ret)) (.R [.D 65 1 5,.B 66 65,.A 64 66] (.W 64 (.R [.A 67 0,.D 68 0 5,.B 69 68,.E 70 3 4,.call (some 71) FR [.s 67,.s 69,.s 70],.A 6 71] (.ret)) (.R [.D 73 0 4,.B 74 73,.D 75 0 5,.B 76 75,.V 77 .neq 74 76,.A 78 77,.P 78 false [79,80,81,82,83,84,85] [.D 79 2 4,.B 80 79,.Y 81 80,.D 82 2 5,.B 83 82,.Y 84 83,.V 85 .neq 81 84],.M 86 78 85,.A 72 86] (.W 72 (.R [.mv 6 (.c (.bool false))] (.ret)) (.skip)))))))))) (.n 5))
 | 7=>.seq (.R [.A 21 8,.A 22 21,.P 22 true [23,24,25,26,27,28] [.A 23 0,.D 24 0 4,.B 25 24,.D 26 0 5,.B 27 26,.call (some 28) Hx [.s 23,.s 25,.s 27]],.N 29 22 28] (.W 29 (.R [.mv 6 (.c (.bool true))] (.ret)) (.skip))) (.n 6)
 | _=>.skip
def body:C:=.R [.bx 4 A3 (.s 1),.bx 5 A3 (.s 2),.mv 6 (.c (.bool false))] (.seq (.dr [0,1,2,3,4,5,6,7] [.D 10 0 4,.B 11 10,.D 12 0 5,.B 13 12,.bd 14 [.str [],.str []] [(0,1,(.s 11)),(1,1,(.s 13))],.D 15 1 4,.B 16 15,.A 17 16,.alt [([8],[.P 17 true [18] [.D 18 1 5],.alt [([9,10,11,12,13],[.P 17 true [19] [.B 19 18],.N 20 17 19,.al 7 F6 [.str [],.str []],.L 7 2 14,.A 8 20]),([11],[.al 7 F6 [.str [],.str []],.alt [([9,10,12,13],[.P 17 true [19] [.B 19 18],.N 20 17 19,.L 7 2 14,.A 8 20]),([12,9,10,13],[.L 7 2 14,.P 17 true [19] [.B 19 18],.N 20 17 19,.A 8 20])]])]]),([11],[.al 7 F6 [.str [],.str []],.alt [([8],[.P 17 true [18] [.D 18 1 5],.alt [([9,10,12,13],[.P 17 true [19] [.B 19 18],.N 20 17 19,.L 7 2 14,.A 8 20]),([12,9,10,13],[.L 7 2 14,.P 17 true [19] [.B 19 18],.N 20 17 19,.A 8 20])]]),([12,8,9,10,13],[.L 7 2 14,.P 17 true [18] [.D 18 1 5],.P 17 true [19] [.B 19 18],.N 20 17 19,.A 8 20])]])]]) (.n 7))
def rs:List RV:=[.t 6]
attribute [push_cast] nd body
theorem ok:B9 prog Fd nd body 3 rs=true:=by kernel_rfl
abbrev L4 (a b c d e f g:V)(B:Nat)(H:Dh)(Q:QX):Prop:=AB prog nd B (DW 4 2 1 1) [(0,a),(4,b),(5,c),(7,d),(8,e),(89,f),(90,g)] H Q
end BN
namespace Cp
def nd:Nat->C
 | 0=>.R [.mv 2 (.c (.bool false))] (.ret)
 | 1=>.gh [.ks 2 [3,4,43,44]] (.m 3)
 | 2=>.seq (.blk 5 (.R [.A 46 44,.A 7 46] (.R [.A 47 3,.A 48 7,.G 49 1 47 48,.B 50 49,.X 51 .gtr 50 4000,.A 52 51,.P 52 false [53,54,55,56,57] [.A 53 4,.A 54 7,.G 55 1 53 54,.B 56 55,.X 57 .gtr 56 200],.M 58 52 57] (.W 58 (.R [.mv 2 (.c (.bool true))] (.ret)) (.skip))))) (.reg [.X 59 .add 44 1,.A 44 59])
 | 3=>.R [.V 45 .lss 44 43] (.seq (.W 45 (.skip) (.exit 4)) (.n 2))
 | 4=>.seq (.R [.A 42 0,.Y 43 42,.mv 44 (.i 0)] (.J 4 1)) (.n 0)
 | 5=>.gh [.ks 2 [0,3,4,15,16]] (.m 10)
 | 6=>.gh [.ks 2 [0,3,4,15,16,18,19,20]] (.m 8)
 | 7=>.seq (.blk 3 (.R [.A 22 20,.G 23 4 18 20,.E 24 4 23,.al 6 C4 [.str [],.str [],.bool false,.sl 3 []],.A 5 22,.L 6 4 24] (.reg [.A 26 3,.A 27 5,.A 28 4,.A 29 5,.A 30 0,.A 31 3,.A 32 4,.D 33 1 6,.E 34 3 33,.call (some 35) JE [.s 30,.s 31,.s 32,.s 34],.A 25 35,.F 36 25 0,.F 37 25 1,.G 38 1 26 27,.K 1 38 36,.G 39 1 28 29,.K 1 39 37]))) (.reg [.X 40 .add 20 1,.A 20 40])
 | 8=>.R [.V 21 .lss 20 19] (.seq (.W 21 (.skip) (.exit 2)) (.n 7))
 | 9=>.seq (.blk 1 (.R [.A 18 0,.Y 19 18,.mv 20 (.i 0)] (.J 2 6))) (.reg [.X 41 .add 16 1,.A 16 41])
 | 10=>.R [.V 17 .lss 16 15] (.seq (.W 17 (.skip) (.exit 0)) (.n 9))
 | _=>.skip
def body:C:=.R [.mv 2 (.c (.bool false))] (.seq (.dr [0,1,3,4] [.A 8 0,.Y 9 8,.A 11 0,.Y 12 11,.alt [([2,5,6,7],[.mk 10 EN 1 8 [.int .i64 0] (.s 9),.mk 13 EN 1 8 [.int .i64 0] (.s 12),.A 3 10,.A 4 13]),([5,2,6,7],[.mk 13 EN 1 8 [.int .i64 0] (.s 12),.mk 10 EN 1 8 [.int .i64 0] (.s 9),.A 3 10,.A 4 13])]]) (.seq (.R [.A 14 0,.Y 15 14,.mv 16 (.i 0)] (.J 0 5)) (.n 4)))
def rs:List RV:=[.t 2]
attribute [push_cast] nd body
theorem ok:B9 prog Pj nd body 1 rs=true:=by kernel_rfl
abbrev L3 (a b c d:V)(B:Nat)(H:Dh)(Q:QX):Prop:=AB prog nd B (DW 3 1 4 0) [(3,a),(4,b),(43,c),(44,d)] H Q
abbrev L8 (a b c d e f g h:V)(B:Nat)(H:Dh)(Q:QX):Prop:=AB prog nd B [.c (.m 8),.c (.loop (.n 6)),.mk 2,.mk 1,.c (.reg [.X 41 .add 16 1,.A 16 41]),.c (.loop (.n 5)),.mk 0,.c (.n 4)] [(0,a),(3,b),(4,c),(15,d),(16,e),(18,f),(19,g),(20,h)] H Q
abbrev L10 (a b c d e:V)(B:Nat)(H:Dh)(Q:QX):Prop:=AB prog nd B (DW 10 5 0 4) [(0,a),(3,b),(4,c),(15,d),(16,e)] H Q
end Cp
namespace K3
def nd:Nat->C
 | 0=>.R [.E 33 3 5,.K 3 4 33] (.ret)
 | 1=>.gh [.ks 4 [0,4,5,18,19,20]] (.m 3)
 | 2=>.seq (.blk 1 (.R [.G 22 3 18 20,.E 23 3 22,.al 7 A3 CM,.L 7 3 23] (.dr [0,1,2,3,4,5,6,7,8] [.D 24 2 5,.B 25 24,.A 26 0,.E 27 3 7,.U 28 JN [.s 26,.s 27],.bs 29 3 [.s 28],.app 30 A3 3 48 (.s 25) (.s 29),.D 31 2 5,.K 1 31 30]))) (.reg [.X 32 .add 20 1,.A 20 32])
 | 3=>.R [.V 21 .lss 20 19] (.seq (.W 21 (.skip) (.exit 0)) (.n 2))
 | 4=>.R [.D 14 0 3,.B 15 14,.bd 16 [.str [],.bool false,.nil] [(0,1,(.s 15))],.al 5 A3 [.str [],.bool false,.nil],.K 3 5 16,.ono A3 3 2 (.s 5)] (.seq (.R [.D 17 2 3,.B 18 17,.Y 19 18,.mv 20 (.i 0)] (.J 0 1)) (.n 0))
 | _=>.skip
def body:C:=.R [.bx 3 A3 (.s 1),.al 4 A3 CM] (.R [.A 8 0,.E 9 3 3,.U 10 LT [.s 8,.s 9],.K 3 3 10] (.seq (.R [.D 11 1 3,.B 12 11] (.W 12 (.R [.E 13 3 3,.K 3 4 13] (.ret)) (.skip))) (.n 4)))
def rs:List RV:=[.a 4 3]
attribute [push_cast] nd body
theorem ok:B9 prog JN nd body 2 rs=true:=by kernel_rfl
abbrev L3 (a b c d e f:V)(B:Nat)(H:Dh)(Q:QX):Prop:=AB prog nd B (DW 3 1 0 0) [(0,a),(4,b),(5,c),(18,d),(19,e),(20,f)] H Q
end K3
namespace O9
def nd:Nat->C
 | 0=>.R [.A 16 3,.A 2 16] (.ret)
 | 1=>.gh [.ks 0 [3,6,7,8]] (.m 3)
 | 2=>.seq (.blk 1 (.R [.G 10 1 6 8,.B 11 10,.A 5 11] (.reg [.A 12 3,.A 13 5,.U 14 KF [.s 12,.s 13],.A 3 14]))) (.reg [.X 15 .add 8 1,.A 8 15])
 | 3=>.R [.V 9 .lss 8 7] (.seq (.W 9 (.skip) (.exit 0)) (.n 2))
 | _=>.skip
def body:C:=.R [.mv 2 (.c (.sl 1 []))] (.R [.mv 3 (.c (.sl 1 []))] (.seq (.R [.A 6 0,.Y 7 6,.mv 8 (.i 0)] (.J 0 1)) (.n 0)))
def rs:List RV:=[.t 2]
attribute [push_cast] nd body
theorem ok:B9 prog O8 nd body 1 rs=true:=by kernel_rfl
abbrev L3 (a b c d:V)(B:Nat)(H:Dh)(Q:QX):Prop:=AB prog nd B (DW 3 1 0 0) [(3,a),(6,b),(7,c),(8,d)] H Q
end O9
namespace OE
def nd:Nat->C
 | 0=>.R [.A 10 0,.X 11 .quo 10 10,.U 12 I8 [.s 11],.A 13 0,.X 14 .rem 13 10,.U 15 I8 [.s 14],.V 16 .add 12 15,.A 2 16] (.ret)
 | _=>.skip
def body:C:=.R [.mv 2 (.c (.str []))] (.seq (.R [.A 3 0,.X 4 .lss 3 10] (.W 4 (.R [.A 5 0,.bin 6 .add (.i 48) (.s 5),.cvi 7 .u8 (.s 6),.bs 8 1 [.s 7],.b2s 9 (.s 8),.A 2 9] (.ret)) (.skip))) (.n 0))
def rs:List RV:=[.t 2]
attribute [push_cast] nd body
theorem ok:B9 prog I8 nd body 1 rs=true:=by kernel_rfl
end OE
namespace Qw
def nd:Nat->C
 | 0=>.R [.mv 4 (.c (.bool false))] (.ret)
 | 1=>.gh [.ks 0 [1,7,8,9]] (.m 3)
 | 2=>.seq (.blk 1 (.R [.G 11 1 7 9,.B 12 11,.A 6 12] (.R [.A 13 6,.A 14 1,.V 15 .eql 13 14] (.W 15 (.R [.mv 4 (.c (.bool true))] (.ret)) (.skip))))) (.reg [.X 16 .add 9 1,.A 9 16])
 | 3=>.R [.V 10 .lss 9 8] (.seq (.W 10 (.skip) (.exit 0)) (.n 2))
 | _=>.skip
def body:C:=.R [.mv 4 (.c (.bool false))] (.seq (.R [.A 7 0,.Y 8 7,.mv 9 (.i 0)] (.J 0 1)) (.n 0))
def rs:List RV:=[.t 4]
attribute [push_cast] nd body
theorem ok:B9 prog NA nd body 2 rs=true:=by kernel_rfl
abbrev L3 (a b c d:V)(B:Nat)(H:Dh)(Q:QX):Prop:=AB prog nd B (DW 3 1 0 0) [(1,a),(7,b),(8,c),(9,d)] H Q
end Qw
namespace Ai
def nd:Nat->C
 | 0=>.R [.A 35 9,.A 36 9,.A 37 8,.V 38 .lss 36 37,.A 39 38,.P 39 true [40,41,42,43,44,45,46,47] [.A 40 2,.A 41 0,.A 42 9,.G 43 4 41 42,.E 44 4 43,.A 45 1,.callvp (some 46) (.s 40) [.s 44,.s 45],.X 47 .eql 46 0],.N 48 39 47,.A 6 35,.A 7 48] (.ret)
 | 1=>.gh [.ks 0 [0,1,2,8,9,10]] (.m 3)
 | 2=>.blk 1 (.R [.A 18 9,.A 19 10,.V 20 .add 18 19,.cvi 21 .u64 (.s 20),.sh 22 .shr (.s 21) (.c (.int .u64 1)),.cvi 23 .i64 (.s 22),.A 11 23] (.R [.A 24 2,.A 25 0,.A 26 11,.G 27 4 25 26,.E 28 4 27,.A 29 1,.callvp (some 30) (.s 24) [.s 28,.s 29],.X 31 .lss 30 0] (.W 31 (.reg [.A 32 11,.X 33 .add 32 1,.A 9 33]) (.reg [.A 34 11,.A 10 34]))))
 | 3=>.seq (.R [.A 15 9,.A 16 10,.V 17 .lss 15 16] (.W 17 (.skip) (.exit 0))) (.n 2)
 | _=>.skip
def body:C:=.R [.mv 6 (.i 0),.mv 7 (.c (.bool false))] (.R [.A 12 0,.Y 13 12,.A 8 13] (.R [.A 14 8,.mv 9 (.i 0),.A 10 14] (.seq (.J 0 1) (.n 0))))
def rs:List RV:=[.t 6,.t 7]
attribute [push_cast] nd body
theorem ok:B9 prog AL nd body 3 rs=true:=by kernel_rfl
abbrev L3 (a b c d e f:V)(B:Nat)(H:Dh)(Q:QX):Prop:=AB prog nd B (DW 3 1 0 0) [(0,a),(1,b),(2,c),(8,d),(9,e),(10,f)] H Q
end Ai
namespace Oc
def nd (_:Nat):C:=.skip
def body:C:=.R [.Z 2 C4 0,.mv 4 (.i 0)] (.R [.D 5 0 2,.B 6 5,.A 7 1,.U 8 FP [.s 6,.s 7],.A 4 8] (.ret))
def rs:List RV:=[.t 4]
attribute [push_cast] nd body
theorem ok:B9 prog LZ nd body 2 rs=true:=by kernel_rfl
end Oc
namespace Kd
def nd (_:Nat):C:=.skip
def body:C:=.R [.mv 4 (.i 0)] (.R [.A 5 0,.A 6 1,.U 7 EO [.s 5,.s 6],.A 4 7] (.ret))
def rs:List RV:=[.t 4]
attribute [push_cast] nd body
theorem ok:B9 prog FP nd body 2 rs=true:=by kernel_rfl
end Kd
namespace NQ
def nd (_:Nat):C:=.skip
def body:C:=.R [.Z 2 C4 0,.mv 4 (.i 0)] (.R [.D 5 0 2,.B 6 5,.A 7 1,.U 8 FP [.s 6,.s 7],.A 4 8] (.ret))
def rs:List RV:=[.t 4]
attribute [push_cast] nd body
theorem ok:B9 prog Lp nd body 2 rs=true:=by kernel_rfl
end NQ
namespace MN
def nd (_:Nat):C:=.skip
def body:C:=.R [.mv 2 (.c (.str []))] (.R [.A 3 0,.U 4 n_strconv_FormatInt [.s 3,(.i 10)],.A 2 4] (.ret))
def rs:List RV:=[.t 2]
attribute [push_cast] nd body
theorem ok:B9 prog Kf nd body 1 rs=true:=by kernel_rfl
end MN
namespace Cc
def nd:Nat->C
 | 0=>.R [.mv 6 (.c (.bool true))] (.ret)
 | 1=>.gh [.ks 2 [0,4,5,84,85]] (.m 3)
 | 2=>.seq (.blk 2 (.R [.A 87 85,.A 8 87] (.seq (.dr [0,1,2,3,4,5,6,7,8,9,10,11,12] [.A 88 0,.D 89 2 4,.B 90 89,.A 91 8,.G 92 3 90 91,.E 93 3 92,.D 94 2 5,.B 95 94,.A 96 8,.G 97 3 95 96,.E 98 3 97,.call (some 99) E0 [.s 88,.s 93,.s 98],.Q 100 99]) (.W 100 (.R [.mv 6 (.c (.bool false))] (.ret)) (.skip))))) (.reg [.X 101 .add 85 1,.A 85 101])
 | 3=>.R [.V 86 .lss 85 84] (.seq (.W 86 (.skip) (.exit 1)) (.n 2))
 | 4=>.seq (.R [.D 82 2 4,.B 83 82,.Y 84 83,.mv 85 (.i 0)] (.J 1 1)) (.n 0)
 | 5=>.seq (.dr [0,1,3] [.A 31 0,.E 32 3 4,.A 34 0,.alt [([2,4,5,6,7],[.call (some 33) Cs [.s 31,.s 32],.E 35 3 5,.call (some 36) Cs [.s 34,.s 35],.K 3 4 33,.K 3 5 36]),([4,2,5,6,7],[.E 35 3 5,.call (some 33) Cs [.s 31,.s 32],.call (some 36) Cs [.s 34,.s 35],.K 3 4 33,.K 3 5 36])]]) (.seq (.blk 0 (.R [.D 38 1 4,.B 39 38,.A 40 39,.P 40 true [41,42] [.D 41 1 5,.B 42 41],.N 43 40 42,.A 44 43,.P 44 true [45,46,47,48,49] [.D 45 0 4,.B 46 45,.D 47 0 5,.B 48 47,.V 49 .eql 46 48],.N 50 44 49,.A 37 50] (.W 37 (.R [.mv 6 (.c (.bool true))] (.ret)) (.R [.D 52 1 4,.B 53 52,.A 51 53] (.W 51 (.R [.A 54 0,.D 55 0 4,.B 56 55,.E 57 3 5,.call (some 58) EF [.s 54,.s 56,.s 57],.A 6 58] (.ret)) (.R [.D 60 1 5,.B 61 60,.A 59 61] (.W 59 (.R [.A 62 0,.D 63 0 5,.B 64 63,.E 65 3 4,.call (some 66) EF [.s 62,.s 64,.s 65],.A 6 66] (.ret)) (.R [.D 68 0 4,.B 69 68,.D 70 0 5,.B 71 70,.V 72 .neq 69 71,.A 73 72,.P 73 false [74,75,76,77,78,79,80] [.D 74 2 4,.B 75 74,.Y 76 75,.D 77 2 5,.B 78 77,.Y 79 78,.V 80 .neq 76 79],.M 81 73 80,.A 67 81] (.W 67 (.R [.mv 6 (.c (.bool false))] (.ret)) (.skip)))))))))) (.n 4))
 | _=>.skip
def body:C:=.R [.bx 4 A3 (.s 1),.bx 5 A3 (.s 2),.mv 6 (.c (.bool false))] (.seq (.R [.D 9 1 4,.B 10 9,.A 11 10,.P 11 true [12,13] [.D 12 1 5,.B 13 12],.N 14 11 13] (.W 14 (.R [.D 15 0 4,.B 16 15,.D 17 0 5,.B 18 17,.bd 19 [.str [],.str []] [(0,1,(.s 16)),(1,1,(.s 18))],.al 7 F6 [.str [],.str []],.L 7 2 19] (.seq (.seq (.dr [0,1,2,3,4,5] [.A 20 0,.nc 21 (.s 20),.D 22 1 21,.B 23 22,.E 24 2 7,.lkq 25 [true,true] false (.bool false) (.s 23) (.s 24)]) (.W 25 (.R [.mv 6 (.c (.bool true))] (.ret)) (.skip))) (.dr [0,1,2,3,4,5] [.A 26 0,.nc 27 (.s 26),.D 28 1 27,.B 29 28,.E 30 2 7,.muq [true,true] (.s 29) (.s 30) (.c (.bool true))]))) (.skip))) (.n 5))
def rs:List RV:=[.t 6]
attribute [push_cast] nd body
theorem ok:B9 prog E0 nd body 3 rs=true:=by kernel_rfl
abbrev L3 (a b c d e:V)(B:Nat)(H:Dh)(Q:QX):Prop:=AB prog nd B (DW 3 1 1 0) [(0,a),(4,b),(5,c),(84,d),(85,e)] H Q
end Cc
namespace CW
def nd:Nat->C
 | 0=>.R [.D 75 1 12,.B 76 75,.X 77 .add 76 1,.D 78 1 12,.K 1 78 77] (.R [.E 79 2 12,.K 2 6 79] (.ret))
 | 1=>.gh [.ks 2 [0,2,6,12,51,52,53]] (.m 3)
 | 2=>.seq (.blk 1 (.R [.G 55 3 51 53,.E 56 3 55,.al 14 A3 CM,.L 14 3 56] (.R [.A 57 0,.E 58 3 14,.A 59 2,.call (some 60) Cv [.s 57,.s 58,.s 59],.al 15 DG [.int .i64 0,.int .i64 0],.L 15 2 60] (.dr [0,1,2,3,4,5,6,7,8,11] [.D 61 0 12,.B 62 61,.D 63 0 15,.B 64 63,.V 65 .add 62 64,.mn 66 (.s 65) (.i 4001),.D 67 1 12,.B 68 67,.D 69 1 15,.D 72 0 12,.alt [([9,10,12,13,14],[.B 70 69,.mx 71 (.s 68) (.s 70),.K 1 72 66,.D 73 1 12,.K 1 73 71]),([12,9,10,13,14],[.K 1 72 66,.B 70 69,.mx 71 (.s 68) (.s 70),.D 73 1 12,.K 1 73 71])]])))) (.reg [.X 74 .add 53 1,.A 53 74])
 | 3=>.R [.V 54 .lss 53 52] (.seq (.W 54 (.skip) (.exit 0)) (.n 2))
 | 4=>.R [.bd 49 [.int .i64 0,.int .i64 0] [(0,1,(.i 1)),(1,1,(.i 0))],.al 12 DG [.int .i64 0,.int .i64 0],.K 2 12 49] (.seq (.R [.D 50 2 4,.B 51 50,.Y 52 51,.mv 53 (.i 0)] (.J 0 1)) (.n 0))
 | 5=>.R [.A 40 0,.E 41 3 7,.A 42 2,.call (some 43) Cv [.s 40,.s 41,.s 42],.al 11 DG [.int .i64 0,.int .i64 0],.L 11 2 43] (.R [.A 44 2,.D 45 0 4,.B 46 45,.E 47 2 11,.mup true (.s 44) (.s 46) (.s 47)] (.R [.E 48 2 11,.K 2 6 48] (.ret)))
 | 6=>.seq (.R [.A 32 2,.D 33 0 4,.B 34 33,.lkp 35 true true (.agg [.int .i64 0,.int .i64 0]) (.s 32) (.s 34),.A 31 35,.F 36 31 0,.F 37 31 1,.al 9 DG [.int .i64 0,.int .i64 0],.L 9 2 36,.A 10 37] (.R [.A 38 10] (.W 38 (.R [.E 39 2 9,.K 2 6 39] (.ret)) (.skip)))) (.n 5)
 | _=>.skip
def body:C:=.R [.Z 4 A3 1,.al 6 DG [.int .i64 0,.int .i64 0]] (.seq (.R [.D 16 1 4,.B 17 16] (.W 17 (.seq (.dr [0,1,2,3,4,5,6,7,8,9,10,11,12] [.A 19 0,.nc 20 (.s 19),.D 21 0 20,.B 22 21,.D 23 0 4,.B 24 23,.lkp 25 true true (.agg [.str [],.bool false,.sl 3 []]) (.s 22) (.s 24),.A 18 25,.F 26 18 0,.F 27 18 1,.al 7 A3 CM,.L 7 3 26,.A 8 27]) (.seq (.R [.A 28 8,.Q 29 28] (.W 29 (.R [.bd 30 [.int .i64 0,.int .i64 0] [(0,1,(.i 1)),(1,1,(.i 1))],.K 2 6 30] (.ret)) (.skip))) (.n 6))) (.skip))) (.n 4))
def rs:List RV:=[.a 6 2]
attribute [push_cast] nd body
theorem ok:B9 prog Cv nd body 3 rs=true:=by kernel_rfl
abbrev L3 (a b c d e f g:V)(B:Nat)(H:Dh)(Q:QX):Prop:=AB prog nd B (DW 3 1 0 0) [(0,a),(2,b),(6,c),(12,d),(51,e),(52,f),(53,g)] H Q
end CW
namespace EG
def nd:Nat->C
 | 0=>.R [.E 48 3 7,.K 3 4 48] (.ret)
 | 1=>.gh [.ks 3 [0,4,7,33,34,35]] (.m 3)
 | 2=>.seq (.blk 1 (.R [.G 37 3 33 35,.E 38 3 37,.al 9 A3 CM,.L 9 3 38] (.dr [2,3] [.A 41 0,.E 42 3 9,.alt [([0],[.D 39 2 7,.alt [([1,4,5,6,7,8],[.B 40 39,.call (some 43) BR [.s 41,.s 42],.bs 44 3 [.s 43],.app 45 A3 3 48 (.s 40) (.s 44),.D 46 2 7,.K 1 46 45]),([4,1,5,6,7,8],[.call (some 43) BR [.s 41,.s 42],.B 40 39,.bs 44 3 [.s 43],.app 45 A3 3 48 (.s 40) (.s 44),.D 46 2 7,.K 1 46 45])]]),([4,0,1,5,6,7,8],[.call (some 43) BR [.s 41,.s 42],.D 39 2 7,.B 40 39,.bs 44 3 [.s 43],.app 45 A3 3 48 (.s 40) (.s 44),.D 46 2 7,.K 1 46 45])]]))) (.reg [.X 47 .add 35 1,.A 35 47])
 | 3=>.R [.V 36 .lss 35 34] (.seq (.W 36 (.skip) (.exit 0)) (.n 2))
 | 4=>.R [.D 29 0 3,.B 30 29,.bd 31 [.str [],.bool false,.nil] [(0,1,(.s 30))],.al 7 A3 [.str [],.bool false,.nil],.K 3 7 31,.ono A3 3 2 (.s 7)] (.seq (.R [.D 32 2 3,.B 33 32,.Y 34 33,.mv 35 (.i 0)] (.J 0 1)) (.n 0))
 | 5=>.R [.D 26 0 3,.B 27 26,.bd 28 CM [(0,1,(.s 27)),(1,1,(.c (.bool true)))],.K 3 4 28] (.ret)
 | _=>.skip
def body:C:=.R [.Z 3 A3 1,.al 4 A3 CM] (.seq (.R [.D 10 1 3,.B 11 10] (.W 11 (.seq (.seq (.dr [0,1,2,3,4,5,6,7,8,9,10,11,12] [.A 13 0,.nc 14 (.s 13),.D 15 0 14,.B 16 15,.D 17 0 3,.B 18 17,.lkp 19 true true (.agg [.str [],.bool false,.sl 3 []]) (.s 16) (.s 18),.A 12 19,.F 20 12 0,.F 21 12 1,.al 5 A3 CM,.L 5 3 20,.A 6 21]) (.R [.A 22 6] (.W 22 (.R [.A 23 0,.E 24 3 5,.call (some 25) BR [.s 23,.s 24],.K 3 4 25] (.ret)) (.skip)))) (.n 5)) (.skip))) (.n 4))
def rs:List RV:=[.a 4 3]
attribute [push_cast] nd body
theorem ok:B9 prog BR nd body 2 rs=true:=by kernel_rfl
abbrev L3 (a b c d e f:V)(B:Nat)(H:Dh)(Q:QX):Prop:=AB prog nd B (DW 3 1 0 0) [(0,a),(4,b),(7,c),(33,d),(34,e),(35,f)] H Q
end EG
namespace GE
def nd:Nat->C
 | 0=>.R [.mv 6 (.c (.bool false))] (.ret)
 | 1=>.gh [.ks 0 [1,2,12,13,14]] (.m 3)
 | 2=>.seq (.blk 1 (.R [.G 16 2 12 14,.E 17 2 16,.al 8 F6 [.str [],.str []],.L 8 2 17] (.R [.E 18 2 8,.A 19 1,.A 20 2,.bd 21 [.str [],.str []] [(0,1,(.s 19)),(1,1,(.s 20))],.eqs 22 false [true,true] (.s 18) (.s 21)] (.W 22 (.R [.mv 6 (.c (.bool true))] (.ret)) (.skip))))) (.reg [.X 23 .add 14 1,.A 14 23])
 | 3=>.R [.V 15 .lss 14 13] (.seq (.W 15 (.skip) (.exit 0)) (.n 2))
 | _=>.skip
def body:C:=.R [.mv 6 (.c (.bool false))] (.seq (.R [.A 9 0,.nc 10 (.s 9),.D 11 1 10,.B 12 11,.Y 13 12,.mv 14 (.i 0)] (.J 0 1)) (.n 0))
def rs:List RV:=[.t 6]
attribute [push_cast] nd body
theorem ok:B9 prog Hx nd body 3 rs=true:=by kernel_rfl
abbrev L3 (a b c d e:V)(B:Nat)(H:Dh)(Q:QX):Prop:=AB prog nd B (DW 3 1 0 0) [(1,a),(2,b),(12,c),(13,d),(14,e)] H Q
end GE
namespace N9
def nd:Nat->C
 | 0=>.R [.E 17 3 3,.K 3 4 17] (.ret)
 | 1=>.gh [.ks 2 [0,3,4]] (.m 3)
 | 2=>.blk 1 (.reg [.A 13 0,.D 14 0 3,.B 15 14,.U 16 HR [.s 13,.s 15],.K 3 3 16])
 | 3=>.seq (.R [.D 5 1 3,.B 6 5,.A 7 6,.P 7 true [8,9,10,11] [.A 8 0,.D 9 0 3,.B 10 9,.U 11 Me [.s 8,.s 10]],.N 12 7 11] (.W 12 (.skip) (.exit 0))) (.n 2)
 | _=>.skip
def body:C:=.R [.bx 3 A3 (.s 1),.al 4 A3 CM] (.seq (.J 0 1) (.n 0))
def rs:List RV:=[.a 4 3]
attribute [push_cast] nd body
theorem ok:B9 prog LT nd body 2 rs=true:=by kernel_rfl
abbrev L3 (a b c:V)(B:Nat)(H:Dh)(Q:QX):Prop:=AB prog nd B (DW 3 1 0 0) [(0,a),(3,b),(4,c)] H Q
end N9
namespace OZ
def nd:Nat->C
 | 0=>.seq (.dr [0,1,2,3,4,5,6,7,8,9,10] [.A 15 0,.A 16 0,.nc 17 (.s 16),.D 18 0 17,.B 19 18,.A 20 1,.E 21 3 5,.U 22 RN [.s 19,.s 20,.s 21],.nc 23 (.s 15),.D 24 0 23,.K 1 24 22]) (.R [.mv 6 (.c (.bool true))] (.ret))
 | _=>.skip
def body:C:=.R [.Z 5 A3 2,.mv 6 (.c (.bool false))] (.seq (.seq (.dr [0,1,2,3,4,6,5,7] [.A 7 0,.nc 8 (.s 7),.D 9 0 8,.B 10 9,.E 11 3 5,.A 13 1,.call (some 12) JY [.s 10,.s 11,(.c .nil)],.U 14 NA [.s 12,.s 13]]) (.W 14 (.R [.mv 6 (.c (.bool false))] (.ret)) (.skip))) (.n 0))
def rs:List RV:=[.t 6]
attribute [push_cast] nd body
theorem ok:B9 prog FR nd body 3 rs=true:=by kernel_rfl
end OZ
namespace JR
def nd:Nat->C
 | 0=>.R [.A 64 12,.A 65 13,.mn 66 (.s 65) (.i 200),.X 67 .add 66 1,.A 8 64,.A 9 67] (.ret)
 | 1=>.gh [.ks 0 [0,1,2,12,13,42,43,44]] (.m 3)
 | 2=>.seq (.blk 3 (.R [.G 46 3 42 44,.E 47 3 46,.al 15 A3 CM,.L 15 3 47] (.R [.A 49 0,.A 50 1,.A 51 2,.E 52 3 15,.call (some 53) JE [.s 49,.s 50,.s 51,.s 52],.A 48 53,.F 54 48 0,.F 55 48 1,.A 16 54,.A 17 55] (.reg [.A 56 12,.A 57 16,.V 58 .add 56 57,.mn 59 (.s 58) (.i 4001),.A 60 13,.A 61 17,.mx 62 (.s 60) (.s 61),.A 12 59,.A 13 62])))) (.reg [.X 63 .add 44 1,.A 44 63])
 | 3=>.R [.V 45 .lss 44 43] (.seq (.W 45 (.skip) (.exit 2)) (.n 2))
 | 4=>.R [.mv 12 (.i 1),.mv 13 (.i 0)] (.seq (.R [.D 41 2 7,.B 42 41,.Y 43 42,.mv 44 (.i 0)] (.J 2 1)) (.n 0))
 | 5=>.R [.mv 8 (.i 1),.mv 9 (.i 1)] (.ret)
 | 6=>.gh [.ks 0 [1,2,7,20,21,22]] (.m 8)
 | 7=>.seq (.blk 1 (.R [.A 24 22,.G 25 4 20 22,.E 26 4 25,.al 11 C4 [.str [],.str [],.bool false,.sl 3 []],.A 10 24,.L 11 4 26] (.R [.D 27 0 11,.B 28 27,.D 29 0 7,.B 30 29,.V 31 .eql 28 30] (.W 31 (.seq (.dr [0,1,2,3,4,5,6,7,8,9] [.A 32 1,.A 33 10,.G 34 1 32 33,.B 35 34,.A 36 2,.A 37 10,.G 38 1 36 37,.B 39 38,.A 8 35,.A 9 39]) (.ret)) (.skip))))) (.reg [.X 40 .add 22 1,.A 22 40])
 | 8=>.R [.V 23 .lss 22 21] (.seq (.W 23 (.skip) (.exit 0)) (.n 7))
 | _=>.skip
def body:C:=.R [.Z 7 A3 3,.mv 8 (.i 0),.mv 9 (.i 0)] (.seq (.R [.D 18 1 7,.B 19 18] (.W 19 (.seq (.R [.A 20 0,.Y 21 20,.mv 22 (.i 0)] (.J 0 6)) (.n 5)) (.skip))) (.n 4))
def rs:List RV:=[.t 8,.t 9]
attribute [push_cast] nd body
theorem ok:B9 prog JE nd body 4 rs=true:=by kernel_rfl
abbrev L3 (a b c d e f g h:V)(B:Nat)(H:Dh)(Q:QX):Prop:=AB prog nd B (DW 3 1 2 0) [(0,a),(1,b),(2,c),(12,d),(13,e),(42,f),(43,g),(44,h)] H Q
abbrev L8 (a b c d e f:V)(B:Nat)(H:Dh)(Q:QX):Prop:=AB prog nd B [.c (.m 8),.c (.loop (.n 6)),.mk 0,.c (.n 5),.c (.n 4)] [(1,a),(2,b),(7,c),(20,d),(21,e),(22,f)] H Q
end JR
namespace FJ
def nd (_:Nat):C:=.skip
def body:C:=.R [.mv 4 (.i 0)] (.R [.A 5 0,.A 6 1,.U 7 Cm [.s 5,.s 6],.A 4 7] (.ret))
def rs:List RV:=[.t 4]
attribute [push_cast] nd body
theorem ok:B9 prog EO nd body 2 rs=true:=by kernel_rfl
end FJ
namespace Fp
def nd:Nat->C
 | 0=>.R [.E 22 3 3,.K 3 4 22] (.ret)
 | 1=>.gh [.ks 2 [0,3,4]] (.m 3)
 | 2=>.blk 1 (.seq (.dr [0,1,2,3,4,5,6,7,8,9,10,11,12] [.A 10 0,.nc 11 (.s 10),.D 12 0 11,.B 13 12,.D 14 0 3,.B 15 14,.lkp 16 true true (.agg [.str [],.bool false,.sl 3 []]) (.s 13) (.s 15),.A 9 16,.F 17 9 0,.F 18 9 1,.al 5 A3 CM,.L 5 3 17,.A 6 18]) (.seq (.R [.A 19 6,.Q 20 19] (.W 20 (.exit 0) (.skip))) (.reg [.E 21 3 5,.K 3 3 21])))
 | 3=>.seq (.R [.D 7 1 3,.B 8 7] (.W 8 (.skip) (.exit 0))) (.n 2)
 | _=>.skip
def body:C:=.R [.bx 3 A3 (.s 1),.al 4 A3 CM] (.seq (.J 0 1) (.n 0))
def rs:List RV:=[.a 4 3]
attribute [push_cast] nd body
theorem ok:B9 prog Cs nd body 2 rs=true:=by kernel_rfl
abbrev L3 (a b c:V)(B:Nat)(H:Dh)(Q:QX):Prop:=AB prog nd B (DW 3 1 0 0) [(0,a),(3,b),(4,c)] H Q
end Fp
namespace Mv
def nd:Nat->C
 | 0=>.seq (.dr [0,1,2,3,4,5,6] [.A 12 0,.nc 13 (.s 12),.D 14 0 13,.B 15 14,.A 16 1,.E 17 3 5,.mup true (.s 15) (.s 16) (.s 17)]) (.R [.mv 6 (.c (.bool true))] (.ret))
 | _=>.skip
def body:C:=.R [.Z 5 A3 2,.mv 6 (.c (.bool false))] (.seq (.R [.A 7 0,.A 8 1,.E 9 3 5,.mkm 10,.call (some 11) C3 [.s 7,.s 8,.s 9,.s 10]] (.W 11 (.R [.mv 6 (.c (.bool false))] (.ret)) (.skip))) (.n 0))
def rs:List RV:=[.t 6]
attribute [push_cast] nd body
theorem ok:B9 prog EF nd body 3 rs=true:=by kernel_rfl
end Mv
namespace GB
def nd:Nat->C
 | 0=>.R [.A 45 2,.A 6 45] (.ret)
 | 1=>.gh [.kt [0,2,34,35,36]] (.m 3)
 | 2=>.seq (.blk 1 (.R [.G 38 3 34 36,.E 39 3 38,.al 8 A3 CM,.L 8 3 39] (.reg [.A 40 0,.E 41 3 8,.A 42 2,.call (some 43) JY [.s 40,.s 41,.s 42],.A 2 43]))) (.reg [.X 44 .add 36 1,.A 36 44])
 | 3=>.R [.V 37 .lss 36 35] (.seq (.W 37 (.skip) (.exit 0)) (.n 2))
 | 4=>.seq (.R [.D 33 2 4,.B 34 33,.Y 35 34,.mv 36 (.i 0)] (.J 0 1)) (.n 0)
 | 5=>.R [.A 32 2,.A 6 32] (.ret)
 | 6=>.R [.A 16 2,.D 17 0 4,.B 18 17,.bs 19 1 [.s 18],.app 20 C7 1 16 (.s 16) (.s 19),.A 2 20] (.seq (.R [.A 21 0,.D 22 0 4,.B 23 22,.U 24 Me [.s 21,.s 23]] (.W 24 (.reg [.A 25 0,.A 26 0,.D 27 0 4,.B 28 27,.U 29 HR [.s 26,.s 28],.A 30 2,.call (some 31) JY [.s 25,.s 29,.s 30],.A 2 31]) (.skip))) (.n 5))
 | _=>.skip
def body:C:=.R [.Z 4 A3 1,.noz 2 C7 1,.mv 6 (.c (.sl 1 []))] (.seq (.R [.D 9 1 4,.B 10 9] (.W 10 (.seq (.R [.A 11 2,.D 12 0 4,.B 13 12,.U 14 NA [.s 11,.s 13]] (.W 14 (.R [.A 15 2,.A 6 15] (.ret)) (.skip))) (.n 6)) (.skip))) (.n 4))
def rs:List RV:=[.t 6]
attribute [push_cast] nd body
theorem ok:B9 prog JY nd body 3 rs=true:=by kernel_rfl
abbrev L3 (a b c d e:V)(B:Nat)(H:Dh)(Q:QX):Prop:=AB prog nd B (DW 3 1 0 0) [(0,a),(2,b),(34,c),(35,d),(36,e)] H Q
end GB
end Go.Dw
end
section
namespace Go.Dw
variable {s:List K} {B:Nat} {t:T} {H:List Ob} {Q:X->T->List Ob->Prop}
namespace Ka
def nd:Nat->C
 | 0=>.R [.D 43 2 6,.B 44 43,.mf 45 Db [] [.s 4,.s 5,.s 7],.call (some 46) AN [.s 44,.s 45],.A 8 46] (.ret)
 | 1=>.R [.B 35 7,.D 36 0 6,.B 37 36,.mup true (.s 35) (.s 37) (.c (.bool true))] (.R [.B 38 4,.B 39 5,.E 40 3 9,.B 41 7,.call (some 42) C3 [.s 38,.s 39,.s 40,.s 41],.A 8 42] (.ret))
 | 2=>.seq (.dr [0,1,2,3,4,5,6,7,8,9,10,11,12] [.B 18 4,.nc 19 (.s 18),.D 20 0 19,.B 21 20,.D 22 0 6,.B 23 22,.lkp 24 true true (.agg [.str [],.bool false,.sl 3 []]) (.s 21) (.s 23),.A 17 24,.F 25 17 0,.F 26 17 1,.al 9 A3 CM,.L 9 3 25,.A 10 26]) (.seq (.R [.A 27 10,.Q 28 27,.A 29 28,.P 29 false [30,31,32,33] [.B 30 7,.D 31 0 6,.B 32 31,.lkp 33 true false (.bool false) (.s 30) (.s 32)],.M 34 29 33] (.W 34 (.R [.mv 8 (.c (.bool false))] (.ret)) (.skip))) (.n 1))
 | _=>.skip
def body:C:=.R [.bx 4 ID (.s 0),.Z 5 C7 1,.Z 6 A3 2,.bx 7 Dt (.s 3),.mv 8 (.c (.bool false))] (.seq (.R [.D 11 1 6,.B 12 11] (.W 12 (.seq (.R [.D 13 0 6,.B 14 13,.B 15 5,.V 16 .eql 14 15] (.W 16 (.R [.mv 8 (.c (.bool true))] (.ret)) (.skip))) (.n 2)) (.skip))) (.n 0))
def rs:List RV:=[.t 8]
attribute [push_cast] nd body
theorem ok:B9 prog C3 nd body 4 rs=true:=by kernel_rfl
end Ka
namespace II
def nd (_:Nat):C:=.skip
def body:C:=.R [.Z 4 A3 0,.mv 5 (.c (.bool false))] (.R [.B 6 1,.B 7 2,.E 8 3 4,.B 9 3,.call (some 10) C3 [.s 6,.s 7,.s 8,.s 9],.A 5 10] (.ret))
def rs:List RV:=[.t 5]
attribute [push_cast] nd body
theorem ok:B9 prog Db nd body 4 rs=true:=by kernel_rfl
end II
end Go.Dw
end
namespace Go.Dw
theorem Vn (t:Term)(hs:size t<2^62):PF K5 [Ap t] (.int .i64 (size t)):=by
 induction t using Ag with
 | h t ih =>
 refine Ab Qv.ok rfl ?_
 have hst:=AJ t
 have hl:=Aj t.args
 push_cast
 refine Ad (n:=t.args.length) (R:=fun k=>Qv.L3 (.int .i64 ((1+Ac (t.args.take k):Nat):Int)) (Bg t.args) (.int .i64 t.args.length) (.int .i64 k) 0 [] _) ?_ ?_ 0 (by omega)
 ·intro k hk ih2
  have h1:=Ft _ _ hk
  have h2:=Ez t.args (k+1)
  have hm:=A4 hk
  refine A8.2 ?_
  push_cast[BT hk]
  refine .of (ih _ hm (by omega)) ?_
  push_cast[CV (show k<2^62 by omega)]
  rw[Bs (by omega) (by omega)]
  rw[h1]at ih2
  simpa[Int.add_assoc]using ih2
 ·refine A8.2 ?_
  push_cast[B8 (Nat.le_refl _)]
  refine A1 ?_
  push_cast[Qv.rs,List.take_length,hst]
theorem ec {f:Term->Term->Bool}{g:Nat}(l m:List Term)(hl:l.length<2^62)(h:∀ a∈l,∀ b,PF g [Ap a,Ap b] (.bool (f a b))) :
  PF BB [Bg l,Bg m,.fn (.func g) [] []] (.bool (qR f l m)):=by
 refine Ab AI.ok rfl ?_
 push_cast
 refine⟨fun hne=>A1 ?_,fun he=>?_⟩
 ·push_cast[AI.rs]
  cases hq:qR f l m with
  | false=>rfl
  | true=>have:=lc hq;omega
 ·have he:l.length=m.length:=by omega
  refine Ad (n:=l.length) (R:=fun k=>qR f (l.drop k) (m.drop k)=qR f l m->AI.L3 (Bg m) (.fn (.func g) [] []) (Bg l) (.int .i64 l.length) (.int .i64 k) 0 [] _) ?_ ?_ 0 (by omega) (by simp)
  ·intro k hk ih hq
   have hkm:k<m.length:=by omega
   refine A8.2 ?_
   push_cast[BT hk,BT hkm]
   refine .of (h _ (A4 hk) _) ?_
   push_cast[CV (show k<2^62 by omega)]
   rw[Al hk,Al hkm]at hq
   simp only[qR]at hq
   refine⟨fun hf=>A1 ?_,fun hf=>?_⟩
   ·push_cast[AI.rs]
    simp only[Bool.not_eq_true']at hf
    rw[hf,Bool.false_and]at hq
    exact hq
   ·simp only[Bool.not_eq_false']at hf
    simp only[hf,Bool.true_and]at hq
    exact ih hq
  ·intro hq
   refine A8.2 ?_
   push_cast[B8 (Nat.le_refl _)]
   refine A1 ?_
   push_cast[AI.rs]
   rw[List.drop_eq_nil_of_le (by omega),List.drop_eq_nil_of_le (by omega)]at hq
   simpa[qR]using hq
theorem bq (a b:Term)(hs:size a<2^62):PF If [Ap a,Ap b] (.bool (decide (a=b))):=by
 induction a using Ag generalizing b with
 | h a ih =>
 have hst:=AJ a
 have hl:=Aj a.args
 refine Ab Oj.ok rfl ?_
 have hE:=ec (f:=fun a b=>decide (a=b)) (g:=If) a.args b.args (by omega) fun x hx y=>ih x hx y (by have:=Bt hx;omega)
 rw[pK fun _ _ _=>rfl]at hE
 have hi:=UW a b
 by_cases h1:a.name=b.name<;>by_cases h2:a.var=b.var<;>push_cast[h1,h2,beq_self_eq_true,show ∀ x y:Bool,(x==y)=decide (x=y) from fun x y=>by cases x<;>cases y<;>rfl]
 ·refine .of hE ?_
  push_cast
  refine A1 ?_
  push_cast[Oj.rs]
  simp[hi,h1,h2]
 all_goals
  refine A1 ?_
  push_cast[Oj.rs]
  simp[hi,h1,h2]
theorem J8 {p:UInt8->Bool}{g:Nat}{caps:List V}(hc:∀ σ,AR σ caps=caps)(l:List UInt8)(hl:l.length<2^62)(h:∀ a∈l,PF g (.int .u8 a.toNat::caps) (.bool (p a))) :
  PF D4 [DI zY 1 l,.fn (.func g) [] caps] (.int .i64 (KM p l)):=by
 refine Ab BE.ok rfl ?_
 push_cast[hc]
 refine Ad (n:=l.length) (R:=fun k=>(∀ j,j<k->p (l.getD j default)=false)->BE.L3 (DI zY 1 l) (.fn (.func g) [] caps) (.int .i64 l.length) (.int .i64 k) 0 [] _) ?_ ?_ 0 (by omega) (by intro j hj;omega)
 ·intro k hk ih hq
  refine A8.2 ?_
  push_cast[BT hk,ZE,nF,hc]
  refine .of (h _ (A4 hk)) ?_
  push_cast[CV (show k<2^62 by omega),hc]
  refine⟨fun hp=>A1 ?_,fun hp=>?_⟩
  ·push_cast[BE.rs]
   rw[GF hk hp hq]
  ·exact ih fun j hj=>by rcases Nat.lt_succ_iff_lt_or_eq.1 hj with h | rfl;exact hq j h;exact hp
 ·intro hq
  refine A8.2 ?_
  push_cast[B8 (Nat.le_refl _)]
  refine A1 ?_
  push_cast[BE.rs]
  rw[HT hq]
theorem I1 {p:UInt8->Bool}{g:Nat}{caps:List V}(hc:∀ σ,AR σ caps=caps)(l:List UInt8)(hl:l.length<2^62)(h:∀ a∈l,PF g (.int .u8 a.toNat::caps) (.bool (p a))) :
  PF BL [DI zY 1 l,.fn (.func g) [] caps] (.bool (l.any p)):=by
 refine Ab CS.ok rfl ?_
 push_cast[hc]
 refine .of (J8 hc l hl h) ?_
 push_cast[hc]
 refine A1 ?_
 push_cast[CS.rs,Ng]
theorem Ji {p:Term->Bool}{g:Nat}{caps:List V}(hc:∀ σ,AR σ caps=caps)(l:List Term)(hl:l.length<2^62)(h:∀ a∈l,PF g (Ap a::caps) (.bool (p a))) :
  PF Bb [DI cT 3 l,.fn (.func g) [] caps] (.int .i64 (KM p l)):=by
 refine Ab BG.ok rfl ?_
 push_cast[hc]
 refine Ad (n:=l.length) (R:=fun k=>(∀ j,j<k->p (l.getD j default)=false)->BG.L3 (DI cT 3 l) (.fn (.func g) [] caps) (.int .i64 l.length) (.int .i64 k) 0 [] _) ?_ ?_ 0 (by omega) (by intro j hj;omega)
 ·intro k hk ih hq
  refine A8.2 ?_
  push_cast[BT hk,ZE,nF,hc]
  refine .of (h _ (A4 hk)) ?_
  push_cast[CV (show k<2^62 by omega),hc]
  refine⟨fun hp=>A1 ?_,fun hp=>?_⟩
  ·push_cast[BG.rs]
   rw[GF hk hp hq]
  ·exact ih fun j hj=>by rcases Nat.lt_succ_iff_lt_or_eq.1 hj with h | rfl;exact hq j h;exact hp
 ·intro hq
  refine A8.2 ?_
  push_cast[B8 (Nat.le_refl _)]
  refine A1 ?_
  push_cast[BG.rs]
  rw[HT hq]
theorem I2 {p:Term->Bool}{g:Nat}{caps:List V}(hc:∀ σ,AR σ caps=caps)(l:List Term)(hl:l.length<2^62)(h:∀ a∈l,PF g (Ap a::caps) (.bool (p a))) :
  PF AN [DI cT 3 l,.fn (.func g) [] caps] (.bool (l.any p)):=by
 refine Ab CT.ok rfl ?_
 push_cast[hc]
 refine .of (Ji hc l hl h) ?_
 push_cast[hc]
 refine A1 ?_
 push_cast[CT.rs,Ng]
theorem Jg {p:A2->Bool}{g:Nat}{caps:List V}(hc:∀ σ,AR σ caps=caps)(l:List A2)(hl:l.length<2^62)(h:∀ a∈l,PF g (JW a::caps) (.bool (p a))) :
  PF D3 [DI cR 6 l,.fn (.func g) [] caps] (.int .i64 (KM p l)):=by
 refine Ab BF.ok rfl ?_
 push_cast[hc]
 refine Ad (n:=l.length) (R:=fun k=>(∀ j,j<k->p (l.getD j default)=false)->BF.L3 (DI cR 6 l) (.fn (.func g) [] caps) (.int .i64 l.length) (.int .i64 k) 0 [] _) ?_ ?_ 0 (by omega) (by intro j hj;omega)
 ·intro k hk ih hq
  refine A8.2 ?_
  push_cast[BT hk,ZE,nF,hc]
  refine .of (h _ (A4 hk)) ?_
  push_cast[CV (show k<2^62 by omega),hc]
  refine⟨fun hp=>A1 ?_,fun hp=>?_⟩
  ·push_cast[BF.rs]
   rw[GF hk hp hq]
  ·exact ih fun j hj=>by rcases Nat.lt_succ_iff_lt_or_eq.1 hj with h | rfl;exact hq j h;exact hp
 ·intro hq
  refine A8.2 ?_
  push_cast[B8 (Nat.le_refl _)]
  refine A1 ?_
  push_cast[BF.rs]
  rw[HT hq]
theorem E5 {p:A2->Bool}{g:Nat}{caps:List V}(hc:∀ σ,AR σ caps=caps)(l:List A2)(hl:l.length<2^62)(h:∀ a∈l,PF g (JW a::caps) (.bool (p a))) :
  PF BK [DI cR 6 l,.fn (.func g) [] caps] (.bool (l.any p)):=by
 refine Ab CR.ok rfl ?_
 push_cast[hc]
 refine .of (Jg hc l hl h) ?_
 push_cast[hc]
 refine A1 ?_
 push_cast[CR.rs,Ng]
theorem HE {p:A9->Bool}{g:Nat}{caps:List V}(hc:∀ σ,AR σ caps=caps)(l:List A9)(hl:l.length<2^62)(h:∀ a∈l,PF g (.str a::caps) (.bool (p a))) :
  PF Cj [DI cS 1 l,.fn (.func g) [] caps] (.int .i64 (KM p l)):=by
 refine Ab Bj.ok rfl ?_
 push_cast[hc]
 refine Ad (n:=l.length) (R:=fun k=>(∀ j,j<k->p (l.getD j default)=false)->Bj.L3 (DI cS 1 l) (.fn (.func g) [] caps) (.int .i64 l.length) (.int .i64 k) 0 [] _) ?_ ?_ 0 (by omega) (by intro j hj;omega)
 ·intro k hk ih hq
  refine A8.2 ?_
  push_cast[BT hk,ZE,nF,hc]
  refine .of (h _ (A4 hk)) ?_
  push_cast[CV (show k<2^62 by omega),hc]
  refine⟨fun hp=>A1 ?_,fun hp=>?_⟩
  ·push_cast[Bj.rs]
   rw[GF hk hp hq]
  ·exact ih fun j hj=>by rcases Nat.lt_succ_iff_lt_or_eq.1 hj with h | rfl;exact hq j h;exact hp
 ·intro hq
  refine A8.2 ?_
  push_cast[B8 (Nat.le_refl _)]
  refine A1 ?_
  push_cast[Bj.rs]
  rw[HT hq]
theorem Dl {p:A9->Bool}{g:Nat}{caps:List V}(hc:∀ σ,AR σ caps=caps)(l:List A9)(hl:l.length<2^62)(h:∀ a∈l,PF g (.str a::caps) (.bool (p a))) :
  PF Bm [DI cS 1 l,.fn (.func g) [] caps] (.bool (l.any p)):=by
 refine Ab Cg.ok rfl ?_
 push_cast[hc]
 refine .of (HE hc l hl h) ?_
 push_cast[hc]
 refine A1 ?_
 push_cast[Cg.rs,Ng]
def EA (c:UInt8):Bool:=decide (97<=c.toNat/\c.toNat<=122)||decide (65<=c.toNat/\c.toNat<=90)||decide (48<=c.toNat/\c.toNat<=57)||decide (c.toNat=95)||decide (c.toNat=39)
theorem SB {p:Prop}(c:UInt8)
  (h:∀ b1 b2 b3 b4 b5 b6 b7 b8:Bool,((97:Int)<=(c.toNat:Int))=(b1=true)->((c.toNat:Int)<=122)=(b2=true)->((65:Int)<=(c.toNat:Int))=(b3=true)->((c.toNat:Int)<=90)=(b4=true)->((48:Int)<=(c.toNat:Int))=(b5=true)->((c.toNat:Int)<=57)=(b6=true) ->
   ((c.toNat:Int)=95)=(b7=true)->((c.toNat:Int)=39)=(b8=true)->EA c=((b1&&b2)||(b3&&b4)||(b5&&b6)||b7||b8) ->
   (b1,b2,b3,b4,b5,b6,b7,b8)∈[(false,true,false,true,false,true,false,false),(false,true,false,true,false,true,false,true),(false,true,false,true,true,true,false,false),(false,true,false,true,true,false,false,false),(false,true,true,true,true,false,false,false),(false,true,true,false,true,false,false,false),(false,true,true,false,true,false,true,false),(true,true,true,false,true,false,false,false),(true,false,true,false,true,false,false,false)]->p):p:=by
 have hr:(c.toNat<39\/40<=c.toNat/\c.toNat<48)\/(c.toNat=39)\/(48<=c.toNat/\c.toNat<=57)\/(58<=c.toNat/\c.toNat<65)\/(65<=c.toNat/\c.toNat<=90)\/(91<=c.toNat/\c.toNat<97/\c.toNat≠95)\/(c.toNat=95)\/(97<=c.toNat/\c.toNat<=122)\/(122<c.toNat):=by omega
 rcases hr with hr | hr | hr | hr | hr | hr | hr | hr | hr
 ·refine h false true false true false true false false ?_ ?_ ?_ ?_ ?_ ?_ ?_ ?_ ?_ (by simp)
  case refine_9=>simp[EA];omega
  all_goals (simp;omega)
 ·refine h false true false true false true false true ?_ ?_ ?_ ?_ ?_ ?_ ?_ ?_ ?_ (by simp)
  case refine_9=>simp[EA];omega
  all_goals (simp;omega)
 ·refine h false true false true true true false false ?_ ?_ ?_ ?_ ?_ ?_ ?_ ?_ ?_ (by simp)
  case refine_9=>simp[EA];omega
  all_goals (simp;omega)
 ·refine h false true false true true false false false ?_ ?_ ?_ ?_ ?_ ?_ ?_ ?_ ?_ (by simp)
  case refine_9=>simp[EA];omega
  all_goals (simp;omega)
 ·refine h false true true true true false false false ?_ ?_ ?_ ?_ ?_ ?_ ?_ ?_ ?_ (by simp)
  case refine_9=>simp[EA];omega
  all_goals (simp;omega)
 ·refine h false true true false true false false false ?_ ?_ ?_ ?_ ?_ ?_ ?_ ?_ ?_ (by simp)
  case refine_9=>simp[EA];omega
  all_goals (simp;omega)
 ·refine h false true true false true false true false ?_ ?_ ?_ ?_ ?_ ?_ ?_ ?_ ?_ (by simp)
  case refine_9=>simp[EA];omega
  all_goals (simp;omega)
 ·refine h true true true false true false false false ?_ ?_ ?_ ?_ ?_ ?_ ?_ ?_ ?_ (by simp)
  case refine_9=>simp[EA];omega
  all_goals (simp;omega)
 ·refine h true false true false true false false false ?_ ?_ ?_ ?_ ?_ ?_ ?_ ?_ ?_ (by simp)
  case refine_9=>simp[EA];omega
  all_goals (simp;omega)
theorem Z9 (c:UInt8):PF MT [.int .u8 c.toNat] (.bool (EA c)):=by
 refine Ab PE.ok rfl ?_
 refine SB c fun b1 b2 b3 b4 b5 b6 b7 b8 e1 e2 e3 e4 e5 e6 e7 e8 hl hm=>?_
 rw[hl];clear hl
 simp only[List.mem_cons,Prod.mk.injEq,List.not_mem_nil,or_false]at hm
 rcases hm with h | h | h | h | h | h | h | h | h<;>obtain⟨rfl,rfl,rfl,rfl,rfl,rfl,rfl,rfl⟩:=h<;>push_cast[e1,e2,e3,e4,e5,e6,e7,e8]<;>refine A1 ?_<;>push_cast[PE.rs]<;>rfl
theorem bE (c:UInt8):PF O3 [.int .u8 c.toNat] (.bool (EA c)):=by
 refine Ab Sc.ok rfl ?_
 refine SB c fun b1 b2 b3 b4 b5 b6 b7 b8 e1 e2 e3 e4 e5 e6 e7 e8 hl hm=>?_
 rw[hl];clear hl
 simp only[List.mem_cons,Prod.mk.injEq,List.not_mem_nil,or_false]at hm
 rcases hm with h | h | h | h | h | h | h | h | h<;>obtain⟨rfl,rfl,rfl,rfl,rfl,rfl,rfl,rfl⟩:=h<;>push_cast[e1,e2,e3,e4,e5,e6,e7,e8]<;>refine A1 ?_<;>push_cast[Sc.rs]<;>rfl
def Ia (s p:A9):Bool:=decide (p.length<=s.length)&&decide (s.drop (s.length-p.length)=p)
theorem AcG {a b:Nat}(h:b<=a)(h2:a<2^62):IntKind.i64.wrap ((a:Int)-(b:Int))=((a-b:Nat):Int):=by rw[Bs (by omega) (by omega)];omega
theorem HO (s p:A9)(h1:s.length<2^62)(h2:p.length<2^62):PF Dj [.str s,.str p] (.bool (Ia s p)):=by
 refine Ab DZ.ok rfl ?_
 by_cases h:p.length<=s.length
 ·have hi:((p.length:Int)<=(s.length:Int))=True:=eq_true (by omega)
  push_cast[hi,AcG h h1]
  refine⟨by omega,A1 ?_⟩
  push_cast[DZ.rs,Ia,h]
  rw[List.take_of_length_le (by simp)]
 ·have hi:((p.length:Int)<=(s.length:Int))=False:=eq_false (by omega)
  push_cast[hi]
  refine A1 ?_
  push_cast[DZ.rs,Ia,h]
def JC (s p:A9):A9:=if Ia s p then s.take (s.length-p.length) else s
theorem MU (s p:A9)(h1:s.length<2^62)(h2:p.length<2^62):PF EB [.str s,.str p] (.str (JC s p)):=by
 refine Ab DC.ok rfl ?_
 push_cast
 refine .of (HO s p h1 h2) ?_
 push_cast
 refine⟨fun h=>?_,fun h=>A1 ?_⟩
 ·have hl:p.length<=s.length:=by simp only[Ia,Bool.and_eq_true,decide_eq_true_eq]at h;exact h.1
  push_cast[AcG hl h1]
  refine⟨by omega,A1 ?_⟩
  push_cast[DC.rs,JC,h]
  simp
 ·push_cast[DC.rs,JC,h]
theorem Q1 (s p:A9)(h1:s.length<2^62)(h2:p.length<2^62):PF Gc [.str s,.str p] (.str (JC s p)):=by
 refine Ab HC.ok rfl ?_
 push_cast
 refine .of (MU s p h1 h2) ?_
 push_cast
 exact A1 (by push_cast[HC.rs])
theorem R9 (s p:A9)(h1:s.length<2^62)(h2:p.length<2^62):PF GN [.str s,.str p] (.bool (Ia s p)):=by
 refine Ab IH.ok rfl ?_
 push_cast
 refine .of (HO s p h1 h2) ?_
 push_cast
 exact A1 (by push_cast[IH.rs])
theorem YH (s:A9)(h1:s.length<2^62):PF MK [.str s] (.bool (Ia s [35])):=by
 refine Ab PG.ok rfl ?_
 push_cast
 refine .of (R9 s [35] h1 (by decide)) ?_
 push_cast
 exact A1 (by push_cast[PG.rs])
theorem VN (c:UInt8):PF Hm [.int .u8 c.toNat] (.bool (!EA c)):=by
 refine Ab N3.ok rfl ?_
 push_cast
 refine .of (Z9 c) ?_
 push_cast
 exact A1 (by push_cast[N3.rs])
def Et (s:A9)(marked:Bool):A9:=if marked then JC s [35] else s
def Cb (s:A9)(marked:Bool):Bool:=decide (s.length<=24)&&(!decide (Et s marked=[])&&(Et s marked).all EA)
theorem Wc {α:Type}(p:α->Bool)(l:List α):(!l.any fun a=>!p a)=l.all p:=by induction l with | nil=>rfl | cons a l ih=>simp_all
theorem fM (s p:A9):(JC s p).length<=s.length:=by unfold JC;split<;>simp
theorem XX (s:A9)(m:Bool):(Et s m).length<=s.length:=by unfold Et;split;exact fM _ _;exact Nat.le_refl _
theorem Rt (s:A9)(m:Bool)(h1:s.length<2^62):PF DF [.str s,.bool m] (.bool (Cb s m)):=by
 refine Ab FY.ok rfl ?_
 push_cast
 refine⟨fun h=>A1 ?_,fun h=>?_⟩
 ·push_cast[FY.rs,Cb]
  rw[show decide (s.length<=24)=false from decide_eq_false (by omega)];rfl
 ·have hlen:s.length<=24:=by omega
  have fin:∀ u:A9,u.length<=24->u=Et s m->PF BL [DI zY 1 u,.fn (.func Hm) [] []] (.bool (u.any fun c=>!EA c)):=fun u hu _=>I1 (p:=fun c=>!EA c) (caps:=[]) (fun _=>by push_cast) u (by omega) fun c _=>VN c
  have hnl:=XX s m
  have hmx:(Et s m).length<=Ah:=by unfold Ah;omega
  cases m with
  | true =>
   push_cast
   refine .of (Q1 s [35] h1 (by decide)) ?_
   have hn:JC s [35]=Et s true:=rfl
   rw[hn]
   push_cast
   by_cases hu:Et s true=[]
   ·push_cast[hu]
    exact A1 (by push_cast[FY.rs,Cb,hu])
   ·push_cast[hu,hmx]
    refine .of (fin _ (by omega) rfl) ?_
    push_cast
    exact A1 (by push_cast[FY.rs,Cb,hu,hlen,Wc])
  | false =>
   have hn:s=Et s false:=rfl
   have hmx':s.length<=Ah:=by unfold Ah;omega
   push_cast
   by_cases hu:s=[]
   ·push_cast[hu]
    exact A1 (by push_cast[FY.rs,Cb];simp[hu,Et])
   ·push_cast[hu,hmx']
    refine .of (fin _ (by omega) rfl) ?_
    push_cast
    exact A1 (by push_cast[FY.rs,Cb,<-hn,hu,hlen,Wc])
mutual
def depth:Term->Nat
 | .mk _ _ l=>AC l+1
def AC:List Term->Nat
 | []=>0
 | a::l=>max (depth a) (AC l)
end
theorem Fg (t:Term):depth t=AC t.args+1:=by cases t;simp[depth,Term.args]
theorem Ey (a b:List Term):AC (a++b)=max (AC a) (AC b):=by
 induction a with
 | nil=>simp[AC]
 | cons x xs ih=>simp[AC,ih,Nat.max_assoc]
theorem Nz (l:List Term)(k:Nat)(h:k<l.length):AC (l.take (k+1))=max (AC (l.take k)) (depth (l.getD k default)):=by
 rw[Aa h,Ey];simp[AC]
mutual
theorem GX:∀ t,depth t<=size t
 | .mk _ _ l=>by simp only[depth,size];have:=E6 l;omega
theorem E6:∀ l,AC l<=Ac l
 | []=>by simp[AC,Ac]
 | a::l=>by simp only[AC,Ac];have:=GX a;have:=E6 l;omega
end
theorem Io (l:List Term)(k:Nat):AC (l.take k)<=AC l:=by
 conv=>rhs;rw[<-List.take_append_drop k l]
 rw[Ey];omega
theorem AdN {a b:Nat}:(if (b:Int) > (a:Int) then (b:Int) else (a:Int))=((max a b:Nat):Int):=by split<;>omega
attribute [push_cast] AdN
theorem SY (t:Term)(hs:size t<2^62):PF IR [Ap t] (.int .i64 (depth t)):=by
 induction t using Ag with
 | h t ih =>
 refine Ab O4.ok rfl ?_
 have hst:=AJ t
 have hl:=Aj t.args
 have hd:=E6 t.args
 push_cast
 refine Ad (n:=t.args.length) (R:=fun k=>O4.L3 (.int .i64 (AC (t.args.take k):Nat)) (Bg t.args) (.int .i64 t.args.length) (.int .i64 k) 0 [] _) ?_ ?_ 0 (by omega)
 ·intro k hk ih2
  have h1:=Nz _ _ hk
  have hm:=A4 hk
  have:=Bt hm
  refine A8.2 ?_
  push_cast[BT hk]
  refine .of (ih _ hm (by omega)) ?_
  push_cast[CV (show k<2^62 by omega)]
  rw[h1]at ih2
  exact ih2
 ·refine A8.2 ?_
  push_cast[B8 (Nat.le_refl _)]
  rw[Bs (by have:=Io t.args t.args.length;omega) (by have:=Io t.args t.args.length;omega)]
  refine A1 ?_
  push_cast[O4.rs,List.take_length,Fg t]
def tb:Term->Nat
 | .mk n _ l=>1+n.length+tbs l
where tbs:List Term->Nat
 | []=>0
 | a::l=>tb a+tbs l
abbrev tbs:=tb.tbs
theorem KA (t:Term):tb t=1+t.name.length+tbs t.args:=by cases t;simp[tb,Term.name,Term.args]
theorem Ol {l:List Term}{a:Term}(h:a∈l):tb a<=tbs l:=by
 induction l with
 | nil=>cases h
 | cons x xs ih=>rcases List.mem_cons.1 h with rfl | h<;>simp[tbs,tb.tbs];have:=ih h;simp only[tbs]at this;omega
mutual
theorem AS:∀ t,size t<=tb t
 | .mk _ _ l=>by simp only[size,tb];have:=NR l;simp only[tbs]at this;omega
theorem NR:∀ l,Ac l<=tbs l
 | []=>by simp[Ac]
 | a::l=>by simp only[Ac,tbs,tb.tbs];have:=AS a;have:=NR l;simp only[tbs]at this;omega
end
mutual
def Ca:Term->Bool
 | .mk n v l=>if v then decide (l.length=0)&&Cb n false else decide (l.length<=8)&&(Cb n true&&Ox l)
def Ox:List Term->Bool
 | []=>true
 | a::l=>Ca a&&Ox l
end
theorem V3 (l:List Term):Ox l=l.all Ca:=by induction l with | nil=>rfl | cons a l ih=>simp[Ox,ih]
theorem EU (t:Term):Ca t=if t.var then decide (t.args.length=0)&&Cb t.name false else decide (t.args.length<=8)&&(Cb t.name true&&t.args.all Ca):=by
 cases t with | mk n v l=>cases v<;>simp[Ca,V3,Term.var,Term.args,Term.name]<;>rfl
theorem Ha (l:List Term):l.length<=tbs l:=Nat.le_trans (Aj l) (NR l)
theorem YY (t:Term)(hs:tb t<2^62):PF JP [Ap t] (.bool (Ca t)):=by
 induction t using Ag with
 | h t ih =>
 have htb:=KA t
 have hl:=Ha t.args
 have hI:∀ m,PF DF [.str t.name,.bool m] (.bool (Cb t.name m)):=fun m=>Rt _ m (by omega)
 have hC:=I2 (p:=fun a=>!Ca a) (g:=Kh) (caps:=[]) (fun _=>by push_cast) t.args (by omega) fun a ha=>by
  refine Ab N8.ok rfl ?_
  push_cast
  refine .of (ih a ha (by have:=Ol ha;omega)) ?_
  push_cast
  exact A1 (by push_cast[N8.rs])
 refine Ab Ge.ok rfl ?_
 cases hv:t.var with
 | true =>
  by_cases h0:t.args.length=0
  ·push_cast[hv,h0]
   refine .of (hI false) ?_
   push_cast
   exact A1 (by push_cast[Ge.rs,EU t,hv,h0])
  ·have hi:((t.args.length:Int)=0)=False:=eq_false (by omega)
   push_cast[hv,hi]
   exact A1 (by push_cast[Ge.rs,EU t,hv,h0])
 | false =>
  by_cases h0:t.args.length<=8
  ·have hi:((t.args.length:Int)<=8)=True:=eq_true (by omega)
   push_cast[hv,hi]
   refine .of (hI true) ?_
   cases hn:Cb t.name true
   ·push_cast
    exact A1 (by push_cast[Ge.rs,EU t,hv,h0,hn])
   ·push_cast
    refine .of hC ?_
    push_cast
    exact A1 (by push_cast[Ge.rs,EU t,hv,h0,hn,Wc])
  ·have hi:((t.args.length:Int)<=8)=False:=eq_false (by omega)
   push_cast[hv,hi]
   exact A1 (by push_cast[Ge.rs,EU t,hv,h0])
def BO (t:Term):Bool:=decide (size t<=4000)&&decide (depth t<=200)
theorem UZ (t:Term)(hs:size t<2^62):PF Mi [Ap t] (.bool (BO t)):=by
 refine Ab QL.ok rfl ?_
 push_cast
 refine .of (Vn t hs) ?_
 push_cast
 by_cases h:size t<=4000
 ·have hi:((size t:Int)<=4000)=True:=eq_true (by omega)
  push_cast[hi]
  refine .of (SY t hs) ?_
  push_cast
  exact A1 (by push_cast[QL.rs,BO,h];simp;omega)
 ·have hi:((size t:Int)<=4000)=False:=eq_false (by omega)
  push_cast[hi]
  exact A1 (by push_cast[QL.rs,BO,h])
def F2 (t:Term):Int:=if Ca t then (if BO t then 0 else 3) else 4
theorem ba (t:Term)(hs:tb t<2^62):PF Oe [Ap t] (.int .i64 (F2 t)):=by
 refine Ab NX.ok rfl ?_
 push_cast
 refine .of (YY t hs) ?_
 cases hf:Ca t
 ·push_cast
  exact A1 (by push_cast[NX.rs,F2,hf])
 ·push_cast
  refine .of (UZ t (by have:=AS t;omega)) ?_
  cases hg:BO t<;>push_cast<;>exact A1 (by push_cast[NX.rs,F2,hf,hg])
theorem U9 {n b:Nat}(h:n<2^40)(hb:b<=64):(n+1)*b<=Ah:=by
 have:(n+1)*b<=(2^40)*64:=Nat.mul_le_mul (by omega) hb
 unfold Ah;omega
theorem NZ (t:Term)(hs:size t<2^40):PF Hw [Ap t] (Ap t):=by
 induction t using Ag with
 | h t ih =>
 refine Ab Tk.ok rfl ?_
 have hst:=AJ t
 have hl:=Aj t.args
 push_cast
 refine Ad (n:=t.args.length) (R:=fun k=>Tk.L3 (.ptr 0 0) (.ptr 1 0) (Bg t.args) (.int .i64 t.args.length) (.int .i64 k) 0
  [.cells A3 [.str [],.bool false,.sl 3 []],.cells A3 [.str t.name,.bool t.var,Bf cT 2 3 (t.args.take k)],.arr A3 3 k] _) ?_ ?_ 0 (by omega)
 ·intro k hk ih2
  have hm:=A4 hk
  have hsm:=Bt hm
  have hlt:(t.args.take k).length=k:=by simp;omega
  refine A8.2 ?_
  push_cast[BT hk]
  refine .of (ih _ hm (by omega)) ?_
  push_cast[hlt,U9 (show k<2^40 by omega) (show 48<=64 by omega),CV (show k<2^62 by omega)]
  rw[Aa hk]at ih2
  exact ih2
 ·refine A8.2 ?_
  push_cast[B8 (Nat.le_refl _)]
  refine A1 ?_
  push_cast[Tk.rs,List.take_length]
  rw[Ap,OV]
def Dg (t:Term):List Int->Option Term
 | []=>some t
 | i::p=>if 0<=i/\i<t.args.length then Dg (t.args.getD i.toNat default) p else none
def uo:Term:=.mk [] false []
def Va:Option Term->V
 | some t=>.tup [Ap t,.bool true]
 | none=>.tup [Ap uo,.bool false]
def IG (t:Term)(p:List Int)(x:Term):Term:=match p with
 | []=>x
 | i::p=>.mk t.name t.var (if 0<=i/\i<t.args.length then t.args.set i.toNat (IG (t.args.getD i.toNat default) p x) else t.args)
theorem U8 {t x:Term}{i:Int}{p:List Int}:(IG t (i::p) x).args=if 0<=i/\i<t.args.length then t.args.set i.toNat (IG (t.args.getD i.toNat default) p x) else t.args:=rfl
theorem Z4 {t x:Term}{i:Int}{p:List Int}{k:Nat}(hk:k<t.args.length):(IG t (i::p) x).args.getD k default=if (k:Int)=i then IG (t.args.getD k default) p x else t.args.getD k default:=by
 rw[U8]
 by_cases h:0<=i/\i<t.args.length
 ·rw[if_pos h]
  by_cases e:(k:Int)=i
  ·rw[if_pos e]
   subst e
   simp[List.getD_eq_getElem?_getD,hk]
  ·rw[if_neg e]
   simp only[List.getD_eq_getElem?_getD]
   rw[List.getElem?_set_ne (by omega)]
 ·rw[if_neg h,if_neg (by omega)]
theorem YR {t x:Term}{i:Int}{p:List Int}:(IG t (i::p) x).args.length=t.args.length:=by
 rw[U8];split<;>simp
theorem kW {t x:Term}{i:Int}{p:List Int}:(IG t (i::p) x).name=t.name/\(IG t (i::p) x).var=t.var:=⟨rfl,rfl⟩
theorem jw (p:List Int):∀ (t x:Term),size t<2^40->size x<2^40->p.length<2^40->PF OG [Ap t,Ht p,Ap x] (Ap (IG t p x)):=by
 induction p with
 | nil =>
  intro t x ht hx hp
  refine Ab Nf.ok rfl ?_
  push_cast[List.length_nil]
  refine .of (NZ x hx) ?_
  push_cast
  refine A1 ?_
  push_cast[Nf.rs]
  rfl
 | cons i p ih =>
  intro t x ht hx hp
  have hst:=AJ t
  have hl:=Aj t.args
  have hpl:(i::p).length=p.length+1:=rfl
  refine Ab Nf.ok rfl ?_
  have hne:((p.length:Int)+1=0)=False:=eq_false (by omega)
  push_cast[hne]
  have hal:=YR (t:=t) (x:=x) (i:=i) (p:=p)
  refine Ad (n:=t.args.length) (R:=fun k=>Nf.L3 (Ht (i::p)) (.ro (cT x) 0) (.ptr 0 0) (.ptr 1 0) (Bg t.args) (.int .i64 t.args.length) (.int .i64 k) 0
   [.cells A3 [.str [],.bool false,.sl 3 []],.cells A3 [.str t.name,.bool t.var,Bf cT 2 3 ((IG t (i::p) x).args.take k)],.arr A3 3 k] _) ?_ ?_ 0 (by omega)
  ·intro k hk ih2
   have hm:=A4 hk
   have hsm:=Bt hm
   have hlt:((IG t (i::p) x).args.take k).length=k:=by simp;omega
   rw[Aa (by omega),Z4 hk]at ih2
   refine A8.2 ?_
   have h0:((0:Int)<(p.length:Int)+1)=True:=eq_true (by omega)
   have hb:(1<=p.length+1)=True:=eq_true (by omega)
   by_cases he:(k:Int)=i
   ·rw[if_pos he]at ih2
    subst he
    push_cast[BT hk,h0,List.getD_cons_zero,hb,List.drop_succ_cons,List.drop_zero,List.take_length]
    refine .of (ih _ _ (by omega) hx (by simp at hp;omega)) ?_
    push_cast[hlt,U9 (show k<2^40 by omega) (show 48<=64 by omega),CV (show k<2^62 by omega)]
    exact ih2
   ·rw[if_neg he]at ih2
    push_cast[BT hk,h0,List.getD_cons_zero,he,hb]
    refine .of (NZ _ (by omega)) ?_
    push_cast[hlt,U9 (show k<2^40 by omega) (show 48<=64 by omega),CV (show k<2^62 by omega)]
    exact ih2
  ·refine A8.2 ?_
   push_cast[B8 (Nat.le_refl _)]
   refine A1 ?_
   rw[List.take_of_length_le (by omega)]
   push_cast[Nf.rs]
   rw[Ap,OV,kW.1,kW.2]
def GK (r:Option Term)(e:Int):V:=match r with
 | some t=>.tup [Ap t,.int .i64 e]
 | none=>.tup [Ap uo,.int .i64 e]
theorem XD (t:Term)(hs:size t<2^62):PF OM [Ap t] (if BO t then GK (some t) 0 else GK none 3):=by
 refine Ab Xm.ok rfl ?_
 push_cast
 refine .of (UZ t hs) ?_
 cases hf:BO t<;>push_cast<;>exact A1 (by push_cast[Xm.rs];rfl)
def Je:List Term->Int
 | []=>0
 | a::l=>if F2 a≠0 then F2 a else Je l
theorem iw (l:List Term)(hl:l.length<2^62)(hs:∀ t∈l,tb t<2^62):PF Sd [Bg l] (.int .i64 (Je l)):=by
 refine Ab PS.ok rfl ?_
 push_cast
 refine Ad (n:=l.length) (R:=fun k=>Je (l.drop k)=Je l->PS.L3 (Bg l) (.int .i64 l.length) (.int .i64 k) 0 [] _) ?_ ?_ 0 (by omega) rfl
 ·intro k hk ih hq
  refine A8.2 ?_
  push_cast[BT hk]
  refine .of (ba _ (hs _ (A4 hk))) ?_
  rw[Al hk]at hq
  simp only[Je]at hq
  push_cast[CV (show k<2^62 by omega)]
  refine⟨fun h=>A1 ?_,fun h=>ih ?_⟩
  ·push_cast[PS.rs]
   rw[<-hq,if_pos h]
  ·rw[<-hq,if_neg h]
 ·intro hq
  refine A8.2 ?_
  push_cast[B8 (Nat.le_refl _)]
  refine A1 ?_
  push_cast[PS.rs]
  rw[<-hq,List.drop_eq_nil_of_le (Nat.le_refl _)];rfl
abbrev Id:A9->A9->Int:=Lib.compareBytes
theorem pQ {a b:UInt8}(h1:¬ a<b)(h2:¬ b<a):a=b:=UInt8.le_antisymm (UInt8.not_lt.1 h2) (UInt8.not_lt.1 h1)
theorem W8:∀ a b:A9,Id a b=if a<b then -1 else if b<a then 1 else 0
 | [],[]=>by simp[Id,Lib.compareBytes]
 | [],_::_=>by simp[Id,Lib.compareBytes]
 | _::_,[]=>by simp[Id,Lib.compareBytes]
 | x::a,y::b=>by
  have ih:=W8 a b
  simp only[Id,Lib.compareBytes,List.cons_lt_cons_iff]at ih ⊢
  by_cases h1:x<y
  ·simp[h1]
  ·by_cases h2:y<x
   ·have hne:x≠y:=fun e=>by subst e;exact h1 h2
    have hne':y≠x:=fun e=>hne e.symm
    simp[h1,h2,hne]
   ·have:=pQ h1 h2
    subst this
    simp[h1,ih]
theorem Nd {a b c:A9}(h:a<b)(h2:b<c):a<c:=List.lt_trans h h2
theorem ol {a b:A9}(h:a<b):¬ b<a:=List.lt_asymm h
theorem Dr (a:A9):¬ a<a:=List.lt_irrefl a
theorem Xy {a b:A9}(h:¬ a<b)(h2:¬ b<a):a=b:=List.le_antisymm h2 h
theorem JS {a b:A9}:Id a b<0↔a<b:=by
 rw[W8]
 by_cases h:a<b
 ·simp[h]
 ·by_cases h2:b<a<;>simp[h,h2]
theorem QM {a b:A9}:Id a b=0↔a=b:=by
 rw[W8]
 by_cases h:a<b
 ·simp only[h,if_true];constructor
  ·intro e;omega
  ·intro e;subst e;exact absurd h (Dr a)
 ·by_cases h2:b<a
  ·simp only[h,h2,if_true,if_false];constructor
   ·intro e;omega
   ·intro e;subst e;exact absurd h2 (Dr a)
  ·simp only[h,h2,if_false,true_iff];exact Xy h h2
theorem IC:∀ a b:A9,Op.bytesLess a b=decide (a<b)
 | [],[]=>by simp[Op.bytesLess]
 | [],_::_=>by simp[Op.bytesLess]
 | _::_,[]=>by simp[Op.bytesLess]
 | x::a,y::b=>by
  simp only[Op.bytesLess,List.cons_lt_cons_iff,IC a b]
  rw[Bool.eq_iff_iff];simp
def DE (s:List A6):Prop:=s.Pairwise fun a b=>a.name<b.name
def IT (v:A9):List A6->Nat
 | []=>0
 | b::s=>if b.name<v then IT v s+1 else 0
theorem RT (v:A9):∀ s,IT v s<=s.length
 | []=>Nat.le_refl _
 | b::s=>by simp only[IT,List.length_cons];have:=RT v s;split<;>omega
theorem Xp {v:A9}:∀ {s:List A6} {j:Nat},j<IT v s->(s.getD j default).name<v
 | [],j,h=>by simp[IT]at h
 | b::s,j,h=>by
  simp only[IT]at h
  split at h
  ·rename_i hb
   cases j with
   | zero=>simpa using hb
   | succ j=>simpa using Xp (s:=s) (j:=j) (by omega)
  ·omega
theorem XI {v:A9}:∀ {s:List A6} {j:Nat},DE s->IT v s<=j->j<s.length->¬ (s.getD j default).name<v
 | [],j,_,_,h=>by simp at h
 | b::s,j,hs,h,hj=>by
  obtain⟨h1,h2⟩:=List.pairwise_cons.1 hs
  simp only[IT]at h
  split at h
  ·rename_i hb
   cases j with
   | zero=>omega
   | succ j=>simpa using XI (s:=s) (j:=j) h2 (by omega) (by simpa using hj)
  ·rename_i hb
   cases j with
   | zero=>simpa using hb
   | succ j =>
    have hm:s.getD j default∈s:=A4 (by simpa using hj)
    have:=h1 _ hm
    intro hlt
    simp only[List.getD_cons_succ]at hlt
    exact hb (Nd this hlt)
def Ae:List A6->A9->Option Term
 | [],_=>none
 | b::s,v=>if b.name=v then some b.term else Ae s v
def bound (s:List A6)(v:A9):Bool:=(Ae s v).isSome
theorem NG {v:A9}:∀ {s:List A6},DE s->Ae s v=if IT v s<s.length/\(s.getD (IT v s) default).name=v then some (s.getD (IT v s) default).term else none
 | [],_=>by simp[Ae]
 | b::s,hs=>by
  obtain⟨h1,h2⟩:=List.pairwise_cons.1 hs
  simp only[Ae,IT]
  by_cases hb:b.name<v
  ·have hne:b.name≠v:=fun e=>by rw[e]at hb;exact Dr v hb
   simp only[hne,if_false,hb,if_true,NG h2,List.getD_cons_succ,List.length_cons,Nat.add_lt_add_iff_right]
  ·simp only[hb,if_false,List.getD_cons_zero,List.length_cons]
   by_cases he:b.name=v
   ·simp[he]
   ·simp only[he,if_false,and_false]
    have:∀ c∈s,c.name≠v:=fun c hc e=>by
     have h3:=h1 c hc
     rw[e]at h3
     exact hb h3
    clear h1 h2 hs
    induction s with
    | nil=>rfl
    | cons c s ih=>simp only[Ae];rw[if_neg (this c (by simp)),ih fun d hd=>this d (by simp[hd])]
theorem fX (a b:A9):PF Cm [.str a,.str b] (.int .i64 (Id a b)):=by
 intro c vs hH hc hr
 obtain⟨v1,vs1,rfl,h1,v2,vs2,rfl,h2,h3⟩:=hr
 have h1:v1=.string ⟨⟨a⟩⟩:=h1
 have h2:v2=.string ⟨⟨b⟩⟩:=h2
 have h3:vs2=[]:=h3
 subst h1 h2 h3
 right
 refine⟨_,c.w,?_,_,.int .i64 (Id a b),c,rfl,rfl,⟨rfl,hH⟩,hc,rfl,.refl c⟩
 rw[run_callFunc_extern GU (by kernel_rfl) (by kernel_rfl) (by kernel_rfl) (e:=Extern.BytealgCompare.compare) (by kernel_rfl)]
 have:=Lib.run_compareString (P:=prog) ⟨⟨a⟩⟩ ⟨⟨b⟩⟩ c.w
 rw[this];rfl
theorem VT (a b:A9):PF EO [.str a,.str b] (.int .i64 (Id a b)):=by
 refine Ab FJ.ok rfl ?_
 push_cast
 refine .of (fX a b) ?_
 push_cast
 exact A1 (by push_cast[FJ.rs])
theorem Mj (a b:A9):PF FP [.str a,.str b] (.int .i64 (Id a b)):=by
 refine Ab Kd.ok rfl ?_
 push_cast
 refine .of (VT a b) ?_
 push_cast
 exact A1 (by push_cast[Kd.rs])
theorem Ww (b:A6)(v:A9):PF LZ [Y7 b,.str v] (.int .i64 (Id b.name v)):=by
 refine Ab Oc.ok rfl ?_
 push_cast
 refine .of (Mj _ _) ?_
 push_cast
 exact A1 (by push_cast[Oc.rs])
theorem XB (b:A6)(v:A9):PF Lp [Y7 b,.str v] (.int .i64 (Id b.name v)):=by
 refine Ab NQ.ok rfl ?_
 push_cast
 refine .of (Mj _ _) ?_
 push_cast
 exact A1 (by push_cast[NQ.rs])
theorem Acn {i j:Nat}(hi:i<2^61)(hj:j<2^61):IntKind.i64.wrap ((IntKind.u64.wrap (IntKind.i64.wrap ((i:Int)+(j:Int)))).fdiv (2^min 1 IntKind.u64.bits))=(((i+j) / 2:Nat):Int):=by
 rw[Bs (x:=(i:Int)+j) (by omega) (by omega)]
 have h1:IntKind.u64.wrap ((i:Int)+(j:Int))=((i+j:Nat):Int):=by unfold IntKind.wrap IntKind.bits IntKind.signed;simp;omega
 rw[h1]
 have h2:(2^min 1 IntKind.u64.bits:Int)=2:=by decide
 rw[h2]
 have h3:((i+j:Nat):Int).fdiv 2=(((i+j) / 2:Nat):Int):=by
  rw[Int.fdiv_eq_ediv_of_nonneg _ (by omega)];omega
 rw[h3,Bs (by omega) (by omega)]
theorem WO {g:Nat}(hg:∀ b v,PF g [Y7 b,.str v] (.int .i64 (Id b.name v)))(s:List A6)(v:A9)(hs:DE s)(hl:s.length<2^61) :
  PF AL [Bi s,.str v,.fn (.func g) [] []] (.tup [.int .i64 (IT v s),.bool (bound s v)]):=by
 refine Ab Ai.ok rfl ?_
 have hle:=RT v s
 push_cast
 have key:∀ (m i j:Nat),j-i<=m->i<=IT v s->IT v s<=j->j<=s.length->Ai.L3 (Bi s) (.str v) (.fn (.func g) [] []) (.int .i64 s.length) (.int .i64 i) (.int .i64 j) 0 []
   (Bx 0 Ai.rs fun x' H'=>x'=.tup [.int .i64 (IT v s),.bool (bound s v)]/\H'=[]):=by
  intro m
  induction m with
  | zero =>
   intro i j hm h1 h2 h3
   have hij:i=IT v s:=by omega
   refine A8.2 ?_
   push_cast[B8 (show j<=i by omega)]
   unfold bound
   rw[NG hs]
   by_cases hi:i<s.length
   ·push_cast[BT hi]
    refine .of (hg _ _) ?_
    push_cast
    refine A1 ?_
    push_cast[Ai.rs,QM,hij]
    rw[hij]at hi
    by_cases hn:(s.getD (IT v s) default).name=v
    ·rw[if_pos ⟨hi,hn⟩];simp only[hn];rfl
    ·rw[if_neg (fun h=>hn h.2)];simp only[hn];rfl
   ·push_cast[B8 (show s.length<=i by omega)]
    refine A1 ?_
    push_cast[Ai.rs,hij]
    rw[if_neg (fun h=>hi (by omega))]
    rfl
  | succ m ih =>
   intro i j hm h1 h2 h3
   by_cases hij:i<j
   ·refine A8.2 ?_
    have hh:=Acn (i:=i) (j:=j) (by omega) (by omega)
    generalize hq:(i+j) / 2=h at hh
    have hk:h<s.length:=by omega
    push_cast[BT hij]
    simp only[hh]
    push_cast[BT hk]
    refine .of (hg _ _) ?_
    push_cast[CV (show h<2^62 by omega),JS]
    refine⟨fun hc=>ih (h+1) j (by omega) ?_ h2 h3,fun hc=>ih i h (by omega) h1 ?_ (by omega)⟩
    ·rcases Nat.lt_or_ge h (IT v s)with h4 | h4
     ·omega
     ·exact absurd hc (XI hs h4 hk)
    ·rcases Nat.lt_or_ge h (IT v s)with h4 | h4
     ·exact absurd (Xp h4) hc
     ·exact h4
   ·exact ih i j (by omega) h1 h2 h3
 exact key s.length 0 s.length (by omega) (by omega) hle (Nat.le_refl _)
theorem T4 (s:List A6)(v:A9)(hs:DE s)(hl:s.length<2^61):PF Ky [Bi s,.str v] (Va (Ae s v)):=by
 have hB:=WO Ww s v hs hl
 have hi:=NG (v:=v) hs
 refine Ab NU.ok rfl ?_
 push_cast
 refine ZY hB ?_
 push_cast
 unfold bound
 by_cases hc:IT v s<s.length/\(s.getD (IT v s) default).name=v
 ·rw[if_pos hc]at hi
  push_cast[hi,Option.isSome_some,BT hc.1]
  refine A1 ?_
  push_cast[NU.rs]
  rfl
 ·rw[if_neg hc]at hi
  push_cast[hi,Option.isSome_none]
  refine A1 ?_
  push_cast[NU.rs]
  rfl
def YF:List A6->Nat
 | []=>0
 | b::s=>1+b.name.length+tb b.term+YF s
theorem xJ {s:List A6}{b:A6}(h:b∈s):1+b.name.length+tb b.term<=YF s:=by
 induction s with
 | nil=>cases h
 | cons x xs ih=>rcases List.mem_cons.1 h with rfl | h<;>simp[YF];have:=ih h;omega
theorem Rc (s:List A6):s.length<=YF s:=by
 induction s with
 | nil=>simp
 | cons x xs ih=>simp only[YF,List.length_cons];omega
theorem Ao {α:Type}{l:List α}:l.drop l.length=[]:=List.drop_eq_nil_of_le (Nat.le_refl _)
theorem AaG {k:Nat}(hk:k<2^62)(h0:0<k):IntKind.i64.wrap ((k:Int)-1)=((k-1:Nat):Int):=by rw[Bs (by omega) (by omega)];omega
theorem sle {a b:A9}:(decide (a<b)||a==b)=!decide (b<a):=by
 by_cases h:b<a
 ·have h1:¬ a<b:=ol h
  have h2:a≠b:=fun e=>by subst e;exact Dr _ h
  simp[h,h1,h2]
 ·by_cases h1:a<b
  ·simp[h,h1]
  ·have:=Xy h1 h
   simp[h,this]
theorem ju {a b:List UInt8}:Hy .leq a b=some (.bool (!decide (b<a))):=by unfold Hy;simp only[IC];rw[<-sle]
theorem iG {a b:List UInt8}:Hy .gtr a b=some (.bool (decide (b<a))):=by unfold Hy;simp only[IC];rw[sle,Bool.not_not]
theorem jB {a b:List UInt8}:Hy .geq a b=some (.bool (!decide (a<b))):=by unfold Hy;simp only[IC]
attribute [push_cast] ju iG jB IC
mutual
def AD (s:List A6):Term->Term
 | .mk n v l=>if v then (Ae s n).getD (.mk n true []) else .mk n false (kj s l)
def kj (s:List A6):List Term->List Term
 | []=>[]
 | a::l=>AD s a::kj s l
end
theorem ZK (s:List A6)(l:List Term):kj s l=l.map (AD s):=by induction l with | nil=>rfl | cons a l ih=>simp[kj,ih]
theorem Iw (s:List A6)(t:Term):AD s t=if t.var then (Ae s t.name).getD (.mk t.name true []) else .mk t.name false (t.args.map (AD s)):=by
 cases t with | mk n v l=>simp only[AD,ZK,Term.var,Term.name,Term.args];rfl
theorem Uh {s:List A6}{v:A9}{x:Term}(h:Ae s v=some x):∃ b∈s,b.name=v/\b.term=x:=by
 induction s with
 | nil=>cases h
 | cons b s ih =>
  simp only[Ae]at h
  split at h
  ·rename_i h2;exact⟨b,by simp,h2,by simpa using h⟩
  ·obtain⟨c,hc,h3⟩:=ih h;exact⟨c,by simp[hc],h3⟩
theorem Sh {s:List A6}{v:A9}{x:Term}(h:Ae s v=some x):tb x<=YF s:=by
 obtain⟨b,hb,_,rfl⟩:=Uh h
 have:=xJ hb;omega
theorem Sq {f:Term->Term}{m:Nat}:∀ {l:List Term},(∀ a∈l,size (f a)<=size a*m)->Ac (l.map f)<=Ac l*m
 | [],_=>by simp[Ac]
 | a::l,h=>by
  have h1:=h a (by simp)
  have h2:=Sq (l:=l) fun b hb=>h b (by simp[hb])
  simp only[List.map_cons,Ac,Nat.add_mul];omega
theorem nX (s:List A6)(t:Term):size (AD s t)<=size t*(1+YF s):=by
 induction t using Ag with
 | h t ih =>
  rw[Iw]
  have h1:1*(1+YF s)<=size t*(1+YF s):=Nat.mul_le_mul_right _ (by rw[AJ];omega)
  split
  ·cases hx:Ae s t.name with
   | some x=>have:=Sh hx;have:=AS x;simp only[Option.getD_some];omega
   | none=>simp only[Option.getD_none,size,Ac];omega
  ·have:=Sq (f:=AD s) (m:=1+YF s) ih
   simp only[size,AJ t,Nat.add_mul];omega
theorem Yo (s:List A6)(hs:DE s)(hb:YF s<2^40)(t:Term)(ht:tb t<2^40):PF IP [Bi s,Ap t] (Ap (AD s t)):=by
 have hl:=Rc s
 induction t using Ag with
 | h t ih =>
 have hI:=T4 s t.name hs (by omega)
 have htb:=KA t
 have hlt:=Ha t.args
 refine Ab GG.ok rfl ?_
 cases hv:t.var with
 | true =>
  push_cast[hv]
  refine .of hI ?_
  rw[Iw,hv]
  cases hx:Ae s t.name with
  | some x =>
   have h1:=Sh hx
   have h2:=AS x
   push_cast[Va]
   refine .of (NZ x (by omega)) ?_
   push_cast
   refine A1 ?_
   push_cast[GG.rs]
   rfl
  | none =>
   push_cast[Va]
   refine A1 ?_
   push_cast[GG.rs]
   rfl
 | false =>
  have he:AD s t=.mk t.name false (t.args.map (AD s)):=by rw[Iw,hv];rfl
  rw[he]
  push_cast[hv]
  refine Ad (n:=t.args.length) (R:=fun k=>GG.L3 (Bi s) (.ptr 0 0) (.ptr 1 0) (Bg t.args) (.int .i64 t.args.length) (.int .i64 k) 0
   [.cells A3 [.str [],.bool false,.sl 3 []],.cells A3 [.str t.name,.bool false,Bf cT 2 3 ((t.args.take k).map (AD s))],.arr A3 3 k] _) ?_ ?_ 0 (by omega)
  ·intro k hk ih2
   have hm:=A4 hk
   have htm:=Ol hm
   have hlt:((t.args.take k).map (AD s)).length=k:=by simp;omega
   rw[Aa hk,List.map_append]at ih2
   refine A8.2 ?_
   push_cast[BT hk]
   refine .of (ih _ hm (by omega)) ?_
   push_cast[hlt,U9 (show k<2^40 by omega) (show 48<=64 by omega),CV (show k<2^62 by omega)]
   exact ih2
  ·refine A8.2 ?_
   push_cast[B8 (Nat.le_refl _)]
   refine A1 ?_
   push_cast[GG.rs,List.take_length,zf]
theorem mE (s:List A6)(t:Term):(if 4000<size (AD s t)\/200<depth (AD s t) then GK none 3 else GK (some (AD s t)) 0)=if BO (AD s t) then GK (some (AD s t)) 0 else GK none 3:=by
 unfold BO
 by_cases h1:4000<size (AD s t)
 ·rw[if_pos (.inl h1),if_neg (by simp;omega)]
 ·by_cases h2:200<depth (AD s t)
  ·rw[if_pos (.inr h2),if_neg (by simp;omega)]
  ·rw[if_neg (by omega),if_pos (by simp;omega)]
end Go.Dw
section
namespace Go.Dw
theorem SD {rs:List RV}{t:T}{H:List Ob}{Q:V->List Ob->Prop}{e:X}(k:Nat){x:V}{o:Ob}(h:UG rs t H=some x)(hk:H[k]?=some o)(hq:Q (ren (Ay [k]) x) [A5 (Ay [k]) o])
  (he:e=.ret\/e=.fall:=by first | exact .inl rfl | exact .inr rfl):Bx 0 rs Q e t H:=by
 refine bH (B:=0) he [k] (by simp) (fun i hi=>?_) h ?_
 ·simp only[List.mem_singleton]at hi;subst hi;exact (List.getElem?_eq_some_iff.1 hk).1
 ·have:give (List.range 0++[k]) H=[A5 (Ay [k]) o]:=by
   simp only[List.range_zero,List.nil_append,give,List.map_cons,List.map_nil,List.getD_eq_getElem?_getD,hk,Option.getD_some]
  rw[this];exact hq
theorem RW (p:List Int)(hp:p.length<2^40):Spec prog BQ [Ht p] [] fun x' H'=>x'=Bf cI 0 1 p/\H'=[.arr EN 1 p.length]:=by
 refine AK mixed CD.ok rfl ?_
 push_cast
 intro c hc
 refine⟨fun h=>?_,fun h=>⟨by rw[List.length_map];unfold Ah;omega,?_⟩⟩
 ·have hp0:p=[]:=by simpa using hc (by cases c<;>simp_all)
  subst hp0
  exact SD 1 rfl rfl ⟨rfl,rfl⟩
 ·exact SD 1 rfl rfl ⟨rfl,by simp[A5]⟩
section
variable {α:Type} {H l:List α} {n:Nat} (h:H.length = n)
include h
theorem aZ (k:Nat):(H++l)[n+k]?=l[k]?:=by rw[List.getElem?_append_right (by omega)];congr 1;omega
theorem dj:(H++l)[n]?=l[0]?:=aZ h 0
theorem aQ (k:Nat)(x:α):(H++l).set (n+k) x=H++l.set k x:=by rw[List.set_append_right _ _ (by omega)];congr 2;omega
theorem fy (x:α):(H++l).set n x=H++l.set 0 x:=aQ h 0 x
theorem tp:(H++l).take n=H:=List.take_left' h
end
theorem nj {n:Nat}{H:List Ob}(h:IU n H):H.map (A5 (AM n))=H:=h.2
theorem R1 (n:Nat):Ay (List.range n)=AM n:=by
 funext i
 unfold Ay AM
 by_cases h:i<n
 ·rw[if_pos h,List.findIdx?_eq_some_iff_getElem]
  refine⟨by simpa using h,by simp,fun j hj=>by simp;omega⟩
 ·rw[if_neg h,List.findIdx?_eq_none_iff]
  intro x hx
  have:=List.mem_range.1 hx
  simp;omega
theorem Zr {n:Nat}{H J:List Ob}(h:IU n H):give (List.range n) (H++J)=H:=by
 have h2:=h.2
 unfold give
 rw[R1]
 conv=>rhs;rw[<-h2]
 apply List.ext_getElem
 ·simp[h.1]
 ·intro i hi1 hi2
  have hi:i<H.length:=by simpa[h.1]using hi1
  simp[List.getD_eq_getElem?_getD,List.getElem?_append_left hi,hi]
theorem jm {n:Nat}{H J H':List Ob}(h:IU n H)(h':IU n H'):takeB (List.range n) (H++J) H'=H'++J:=by
 have hb:∀ i,i<n->BY (List.range n) (H++J).length i=some i:=fun i hi=>by simp[BY,hi]
 unfold takeB
 rw[List.length_range,List.drop_of_length_le (by rw[h'.1];exact Nat.le_refl _),List.map_nil,List.append_nil,fR h'.2 hb]
 unfold Pq
 rw[R1]
 apply List.ext_getElem
 ·simp[h.1,h'.1]
 ·intro i hi1 hi2
  simp only[List.getElem_map,List.getElem_range]
  unfold AM
  by_cases hi:i<n
  ·have:i<H'.length:=by rw[h'.1];exact hi
   rw[if_pos hi,List.getElem_append_left this]
   simp[List.getD_eq_getElem?_getD,this]
  ·rw[if_neg hi,List.getElem_append_right (by rw[h'.1];omega)]
   have:H.length<=i:=by rw[h.1];omega
   simp only[List.getD_eq_getElem?_getD]
   rw[List.getElem?_append_right this]
   have h3:i-H.length<J.length:=by simp only[List.length_append,h'.1]at hi2;rw[h.1];omega
   simp only[h.1,h'.1]at h3 ⊢
   simp[h3]
section
variable {N:Nat->C} {B:Nat} {s:List K} {t:T} {H:List Ob} {Q:X->T->List Ob->Prop}
theorem jv {d:Option Nat}{l:List S}{F:Fn}{vs vs':List V}{n:Nat}{J:List Ob}{R:V->List Ob->Prop}(h:IU n H)(hvs:AR (AM n) vs=vs')(hs:GP prog F vs' H R)(hR:∀ x H',R x H'->IU n H')
  (k:∀ x H',R x H'->AB prog N B (.r l::s) (FK d (ren (BY (List.range n) (H++J).length) x) t) (H'++J) Q):By prog N B d l s t Q F vs (H++J):=by
 refine By.some (List.range n) List.nodup_range (fun i hi=>by have:=List.mem_range.1 hi;rw[List.length_append,h.1];omega) (R:=R) ?_ ?_
 ·rw[Zr h,R1,hvs];exact hs
 ·intro x H' hx _
  rw[jm h (hR x H' hx)]
  exact k x H' hx
end
theorem An {rs:List RV}{t:T}{n:Nat}{H J:List Ob}{Q:V->List Ob->Prop}{e:X}{x:V}(h:IU n H)(hr:UG rs t (H++J)=some x)(hq:Q (ren (AM n) x) H)
  (he:e=.ret\/e=.fall:=by first | exact .inl rfl | exact .inr rfl):Bx n rs Q e t (H++J):=by
 refine bH (B:=n) he [] (by simp[List.nodup_range]) (fun i hi=>by cases hi) hr ?_
 rw[List.append_nil,Zr h,R1];exact hq
mutual
def Aq:Term->List Int->List (List Int×Term)
 | .mk n v l,p=>(p,.mk n v l)::B6 l p 0
def B6:List Term->List Int->Nat->List (List Int×Term)
 | [],_,_=>[]
 | a::l,p,i=>Aq a (p++[(i:Int)])++B6 l p (i+1)
end
theorem GQ (t:Term)(p:List Int):Aq t p=(p,t)::B6 t.args p 0:=by cases t;simp[Aq,Term.args]
theorem Rh (a b:List Term)(p:List Int)(i:Nat):B6 (a++b) p i=B6 a p i++B6 b p (i+a.length):=by
 induction a generalizing i with
 | nil=>simp[B6]
 | cons x xs ih=>simp only[List.cons_append,B6,ih,List.append_assoc,List.length_cons];congr 3;omega
theorem Uk {l:List Term}{p:List Int}{k:Nat}(h:k<l.length):B6 (l.take (k+1)) p 0=B6 (l.take k) p 0++Aq (l.getD k default) (p++[(k:Int)]):=by
 rw[Aa h,Rh]
 have:(l.take k).length=k:=by simp;omega
 simp[B6,this]
theorem dP {l:List Term}{p:List Int}{k:Nat}(h:k<l.length):B6 l p 0=B6 (l.take k) p 0++(Aq (l.getD k default) (p++[(k:Int)])++B6 (l.drop (k+1)) p (k+1)):=by
 have h1:l=l.take k++(l.getD k default::l.drop (k+1)):=by rw[<-Al h,List.take_append_drop]
 have:(l.take k).length=k:=by simp;omega
 conv=>lhs;rw[h1,Rh]
 rw[B6,this,Nat.zero_add]
def Kn (x:List Int×Term):List V:=[Ht x.1,Ap x.2]
theorem Abb {α:Type}{l a b c:List α}{k:Nat}(h:l.drop k=a++(b++c)):l.drop (k+a.length)=b++c:=by
 rw[<-List.drop_drop,h,List.drop_left]
theorem Ab1 {α:Type}{l b:List α}{a:α}{k:Nat}(h:l.drop k=a::b):l[k]?=some a:=by
 have:=List.getElem?_drop (xs:=l) (i:=k) (j:=0)
 rw[h]at this;simpa using this.symm
theorem dJ {F:Fn}{G:Nat->List Ob->Prop}{S:List Ob->Prop}{n:Nat}{its:List (List Int×Term)}(hG:∀ k H,G k H->IU n H)(hS:∀ H,S H->IU n H)
  (hF:∀ k it H,its[k]?=some it->G k H->GP prog F (Kn it) H fun x H'=>x=.bool true/\G (k+1) H'\/x=.bool false/\S H') (t:Term) :
  ∀ (p:List Int)(k:Nat) (rest:List (List Int×Term)),its.drop k=Aq t p++rest->p.length+size t<2^40->∀ H,G k H->Spec prog Gg [Ap t,Ht p,.fn F [] []] H fun x H'=>x=.bool true/\G (k+(Aq t p).length) H'\/x=.bool false/\S H':=by
 induction t using Ag with
 | h t ih =>
 intro p k rest hd hsz H hg
 have hH:=hG _ _ hg
 have hl:=Aj t.args
 have hst:=AJ t
 rw[GQ,List.cons_append]at hd
 refine AK mixed UL.ok rfl ?_
 push_cast
 refine .all (hF k _ H (Ab1 hd) hg) ?_
 rintro x H1 (⟨rfl,hg1⟩|⟨rfl,hs1⟩)
 case inr =>
  push_cast
  refine Dy (.inl rfl) rfl (.inr ⟨rfl,hs1⟩)
 case inl =>
  have hH1:=hG _ _ hg1
  have hkp:∀ H1,IU n H1->(H1.take H.length).map (A5 (AM H.length))=H1:=fun H1 h=>by rw[hH.1,List.take_of_length_le (Nat.le_of_eq h.1),h.2]
  push_cast[hkp H1 hH1]
  have hd1:its.drop (k+1)=B6 t.args p 0++rest:=by rw[<-List.drop_drop,hd];rfl
  refine Ad (n:=t.args.length) (R:=fun j=>∀ H1,G (k+1+(B6 (t.args.take j) p 0).length) H1->UL.L3 (Ht p) (.fn F [] []) (Bg t.args) (.int .i64 t.args.length) (.int .i64 j) H.length H1 _) ?_ ?_ 0 (by omega) H1 hg1
  ·intro j hj ih2 H1 hg1
   have hm:=A4 hj
   have hsm:=Bt hm
   have hH1:=hG _ _ hg1
   have hn:H.length=n:=hH.1
   rw[hn]
   refine A8.2 ?_
   push_cast[BT hj,hH1.1,dj hH1.1,aZ hH1.1,aQ hH1.1,fy hH1.1,CV (show j<2^62 by omega)]
   have hp1:(p++[(j:Int)]).length+size (t.args.getD j default)<2^40:=by rw[List.length_append,List.length_singleton];omega
   have hd2:its.drop (k+1+(B6 (t.args.take j) p 0).length)=Aq (t.args.getD j default) (p++[(j:Int)])++(B6 (t.args.drop (j+1)) p (j+1)++rest):=by
    refine Abb ?_
    rw[hd1,dP hj];simp
   have hw:GP prog (.func Gg) _ _ _:=Be▸ih _ hm _ _ _ hd2 hp1 H1 hg1
   rw[Uk hj,List.length_append]at ih2
   refine⟨?_,?_⟩ <;>
   ·refine ZY (RW p (by omega)) ?_
    push_cast[hH1.1,dj hH1.1,aZ hH1.1,aQ hH1.1,fy hH1.1]
    refine⟨by unfold Ah;omega,?_⟩
    refine jv hH1 (vs':=[Ap (t.args.getD j default),Ht (p++[(j:Int)]),.fn F [] []]) ?_ hw ?_ ?_
    ·push_cast
     rw[if_neg (by omega)]
     simp[DI,cI]
    ·rintro x H2 (⟨_,h⟩|⟨_,h⟩)
     ·exact hG _ _ h
     ·exact hS _ h
    ·rintro x H2 (⟨rfl,h⟩|⟨rfl,h⟩)
     ·have hH2:=hG _ _ h
      push_cast[CV (show j<2^62 by omega),tp hH2.1,nj hH2]
      have:=ih2 H2 (by rw[<-Nat.add_assoc];exact h)
      rw[hn]at this
      exact this
     ·have hH2:=hS _ h
      push_cast
      exact An hH2 rfl (.inr ⟨rfl,h⟩)
  ·intro H1 hg1
   refine A8.2 ?_
   push_cast[B8 (Nat.le_refl _)]
   refine Dy (.inl rfl) rfl (.inl ⟨rfl,?_⟩)
   rw[List.take_length]at hg1
   rw[GQ,List.length_cons,Nat.add_comm _ 1,<-Nat.add_assoc]
   exact hg1
theorem Ib (t:Term)(hs:size t<2^40):WJ prog Dd [] [.ro (cT t) 0] ((Aq t []).map Kn):=by
 intro F G S n hG hS hF H hg
 have hH:=hG _ _ hg
 refine OK mixed Vz.ok rfl ?_
 push_cast
 have hw:=dJ (F:=F) (n:=n) (its:=Aq t []) hG hS (fun k it H' hit=>hF k (Kn it) H' (by rw[List.getElem?_map,hit];rfl)) t [] 0 [] (by simp) (by simpa using hs) H hg
 have hw:GP prog (.func Gg) _ _ _:=Be▸hw
 refine By.all hw ?_
 rintro x H1 (⟨rfl,h⟩|⟨rfl,h⟩)
 ·push_cast
  exact Dy (.inr rfl) rfl (.inl (by rw[Nat.zero_add]at h;rw[List.length_map];exact h))
 ·push_cast
  exact Dy (.inr rfl) rfl (.inr h)
theorem Mp (t:Term):PF HS [Ap t] (.fn (.func Dd) [] [.ro (cT t) 0]):=by
 refine Ab TQ.ok rfl ?_
 push_cast
 exact A1 (by push_cast[TQ.rs])
end Go.Dw
end
section
namespace Go.Proofs
open Go.RowKit Go.Shelf Go.Sort
def Tryz.laysSort_ren:Go.Shelf.Ren:=⟨fun | 190=>125 | 125=>182 | 258=>181 | 128=>243 | 129=>244 | 302=>234 | 303=>235 | 304=>236 | 305=>237 | 306=>238 | 307=>239 | 308=>240 | 309=>241 | 310=>242 | 333=>273 | 329=>274 | 330=>275 | 334=>276 | 335=>277 | 336=>278 | 344=>298 | n=>n,fun | 31=>108 | 9=>9 | 3=>3 | 46=>208 | 0=>0 | 51=>252 | 53=>254 | 4=>4 | 183=>246 | 182=>245 | 131=>238 | 5=>5 | 218=>274 | 222=>278 | 228=>296 | 229=>117 | n=>n,fun | n=>n⟩
theorem Tryz.laysSort:Go.Proofs.Lays.n190 Tryz.prog Tryz.laysSort_ren:={
 mixed:=by kernel_rfl
 f125:=Tryz.func182.trans (congrArg some (by kernel_rfl))
 f128:=Tryz.func243.trans (congrArg some (by kernel_rfl))
 f129:=Tryz.func244.trans (congrArg some (by kernel_rfl))
 f190:=Tryz.func125.trans (congrArg some (by kernel_rfl))
 f258:=Tryz.func181.trans (congrArg some (by kernel_rfl))
 f302:=Tryz.func234.trans (congrArg some (by kernel_rfl))
 f303:=Tryz.func235.trans (congrArg some (by kernel_rfl))
 f304:=Tryz.func236.trans (congrArg some (by kernel_rfl))
 f305:=Tryz.func237.trans (congrArg some (by kernel_rfl))
 f306:=Tryz.func238.trans (congrArg some (by kernel_rfl))
 f307:=Tryz.func239.trans (congrArg some (by kernel_rfl))
 f308:=Tryz.func240.trans (congrArg some (by kernel_rfl))
 f309:=Tryz.func241.trans (congrArg some (by kernel_rfl))
 f310:=Tryz.func242.trans (congrArg some (by kernel_rfl))
 f329:=Tryz.func274.trans (congrArg some (by kernel_rfl))
 f330:=Tryz.func275.trans (congrArg some (by kernel_rfl))
 f333:=Tryz.func273.trans (congrArg some (by kernel_rfl))
 f334:=Tryz.func276.trans (congrArg some (by kernel_rfl))
 f335:=Tryz.func277.trans (congrArg some (by kernel_rfl))
 f336:=Tryz.func278.trans (congrArg some (by kernel_rfl))
 f344:=Tryz.func298.trans (congrArg some (by kernel_rfl))
 t0:=Tryz.underlying0
 a0:=Tryz.isAgg0
 z0:=Tryz.sizeOf0
 v0:=Tryz.zeroValue0
 t3:=Tryz.underlying3
 a3:=Tryz.isAgg3
 z3:=Tryz.sizeOf3
 v3:=Tryz.zeroValue3
 t4:=Tryz.underlying4
 a4:=Tryz.isAgg4
 z4:=Tryz.sizeOf4
 v4:=Tryz.zeroValue4
 t5:=Tryz.underlying5
 a5:=Tryz.isAgg5
 z5:=Tryz.sizeOf5
 v5:=Tryz.zeroValue5
 t9:=Tryz.underlying9
 a9:=Tryz.isAgg9
 z9:=Tryz.sizeOf9
 v9:=Tryz.zeroValue9
 t31:=Tryz.underlying108
 a31:=Tryz.isAgg108
 z31:=Tryz.sizeOf108
 v31:=Tryz.zeroValue108
 t46:=Tryz.underlying208
 a46:=Tryz.isAgg208
 z46:=Tryz.sizeOf208
 v46:=Tryz.zeroValue208
 t51:=Tryz.underlying252
 a51:=Tryz.isAgg252
 z51:=Tryz.sizeOf252
 v51:=Tryz.zeroValue252
 t53:=Tryz.underlying254
 a53:=Tryz.isAgg254
 z53:=Tryz.sizeOf254
 v53:=Tryz.zeroValue254
 t131:=Tryz.underlying238
 a131:=Tryz.isAgg238
 z131:=Tryz.sizeOf238
 v131:=Tryz.zeroValue238
 t182:=Tryz.underlying245
 a182:=Tryz.isAgg245
 z182:=Tryz.sizeOf245
 v182:=Tryz.zeroValue245
 t183:=Tryz.underlying246
 a183:=Tryz.isAgg246
 z183:=Tryz.sizeOf246
 v183:=Tryz.zeroValue246
 t218:=Tryz.underlying274
 a218:=Tryz.isAgg274
 z218:=Tryz.sizeOf274
 v218:=Tryz.zeroValue274
 t222:=Tryz.underlying278
 a222:=Tryz.isAgg278
 z222:=Tryz.sizeOf278
 v222:=Tryz.zeroValue278
 t228:=Tryz.underlying296
 a228:=Tryz.isAgg296
 z228:=Tryz.sizeOf296
 v228:=Tryz.zeroValue296
 t229:=Tryz.underlying117
 a229:=Tryz.isAgg117
 z229:=Tryz.sizeOf117
 v229:=Tryz.zeroValue117 }
theorem Tryz.sort_num:Tryz.laysSort_ren.f 190=Go.Dw.n_slices_Sort_s_string_string:=by kernel_rfl
theorem Tryz.sort_in (args:Array Value)(w:World):(callFunc Go.Dw.n_slices_Sort_s_string_string args).run Tryz.prog w=.ok (.enter Go.Dw.n_slices_Sort_s_string_string args) w:=by
 have:=enters_of (P:=Tryz.prog) Tryz.laysSort.f190 (by kernel_rfl) rfl args w
 rw[Tryz.sort_num]at this
 exact this
abbrev sortS (l:List (List UInt8)):List (List UInt8):=l.mergeSort fun x y=>decide (x<=y)
theorem Tryz.sort_c (blk off cap:Nat)(zs:List (List UInt8))(w:World)(hH:Holds encStr w blk off zs.toArray)(hblk:blk<w.heap.size)(hsz:zs.length<4611686018427387904) :
  Calls Tryz.prog Go.Dw.n_slices_Sort_s_string_string #[.slice (some ⟨blk,off,none⟩) zs.length cap] w fun e w' =>
   e=.returned (.tuple #[])/\∃ n os,w'=grow (putRow encStr (Sort.ahead w n) blk off (sortS zs).toArray) os:=by
 have:=calls_of_every_depth fun D=>AnyS.slices_Sort_string_alone Tryz.laysSort D blk off cap zs w hH hblk hsz
 rw[Tryz.sort_num]at this
 exact this
theorem Tryz.sort_n (cap:Nat)(w:World):Calls Tryz.prog Go.Dw.n_slices_Sort_s_string_string #[.slice none 0 cap] w fun e w'=>e=.returned (.tuple #[])/\w'=w:=by
 have:=calls_of_every_depth fun D=>AnyS.slices_Sort_string_none_alone Tryz.laysSort D none cap w
 rw[Tryz.sort_num]at this
 exact this
end Go.Proofs
namespace Go.Dw
open Go.Proofs Go.Sort
theorem fb (l:List (List UInt8)):Spec prog n_slices_Sort_s_string_string [.rw 0 1 l.length] [.row C7 1 (l.map fun s=>[V.str s])] fun x H'=>x=.tup []/\H'=[.row C7 1 ((sortS l).map fun s=>[V.str s])]:=by
 intro c vs hH hc hr
 obtain⟨v,vs',rfl,h1,h2⟩:=hr
 have h2:vs'=[]:=h2
 subst h2
 left
 have h0:c.H[0]?=some (.row C7 1 (l.map fun s=>[V.str s])):=by rw[hH];rfl
 obtain⟨q1,q2⟩:=hc.obj 0 _ h0
 obtain⟨p1,⟨a,k,p2,p3,p4⟩,p5⟩:=h1
 have hcur:=(p5 _ _ _ h0).2.2 (by simp)
 have hperm:(sortS l).length=l.length:=(List.mergeSort_perm l _).length_eq
 refine⟨Tryz.sort_in _ _,?_⟩
 cases hρ:c.ρ 0 with
 | none =>
  have hl:l=[]:=by simpa using q1 hρ
  subst hl
  rw[hρ]at hcur
  have hcur:v=.slice none 0 0:=hcur
  subst hcur
  refine (Tryz.sort_n 0 c.w).mono ?_
  rintro e w' ⟨rfl,rfl⟩
  exact⟨_,.tup [],c,rfl,rfl,⟨rfl,by rw[hH];simp⟩,hc,⟨#[],rfl,rfl⟩,.refl c⟩
 | some bk =>
  obtain⟨b,m⟩:=bk
  rw[hρ]at hcur
  have hcur:v=.slice (some ⟨b,0,none⟩) l.length m:=hcur
  subst hcur
  obtain⟨vs,r1,r2,r3,r4,r5,r6⟩:=q2 b m hρ
  have hblt:b<c.w.heap.size:=(Array.getElem?_eq_some_iff.1 r1).1
  have hcell:∀ j (s:List UInt8),l[j]?=some s->vs[j]?=some (encStr s):=fun j s hj=>by
   obtain⟨_,hx⟩:=r6 j [V.str s] (by rw[List.getElem?_map,hj];rfl)
   obtain⟨v,e1,_,e3⟩:=hx 0 _ rfl
   have e3:v=.string ⟨⟨s⟩⟩:=e3
   rw[Nat.mul_one,Nat.add_zero]at e1
   rw[e1,e3]
  have hHolds:Holds encStr c.w b 0 l.toArray:=fun j hj=>by
   have hj:j<l.length:=by simpa using hj
   have hg:l[j]?=some l[j]:=by simp[hj]
   have:=hcell j _ hg
   have hgd:l.toArray[j]! = l[j]:=by simp[hj]
   refine⟨?_,?_⟩
   ·simp only[World.cell?,r1,Nat.zero_add,hgd]
    exact this
   ·simp[World.frozen?,r1]
  refine (Tryz.sort_c b 0 m l c.w hHolds hblt (by unfold Ah at p3;omega)).mono ?_
  rintro e w' ⟨rfl,n,os,rfl⟩
  generalize hso:sortS l=so at hperm
  generalize hw':grow (putRow encStr (Sort.ahead c.w n) b 0 so.toArray) os=w'
  have hsz:w'.heap.size=c.w.heap.size+os.size:=by subst hw';simp[grow,putRow,mapBlock,Sort.ahead]
  have hoth:∀ b',b'<c.w.heap.size->b'≠b->w'.heap[b']?=c.w.heap[b']?:=fun b' h1 h2=>by
   subst hw'
   simp only[grow,putRow,mapBlock,Sort.ahead]
   rw[Array.getElem?_append_left (by simpa using h1),Array.getElem?_modify,if_neg (Ne.symm h2)]
  have hsame:w'.heap[b]?=some (.cells (putCells encStr 0 so.toArray vs) C7 (0,0)):=by
   subst hw'
   simp only[grow,putRow,mapBlock,Sort.ahead]
   rw[Array.getElem?_append_left (by simpa using hblt),Array.getElem?_modify,if_pos rfl,r1]
   rfl
  have howns:∀ b',c.owns b'↔b'=b:=fun b'=>by
   constructor
   ·rintro ⟨i,k',h1,h2⟩
    have:i=0:=by rw[hH]at h1;simpa using h1
    subst this
    rw[hρ]at h2;cases h2;rfl
   ·rintro rfl;exact⟨0,m,p1,hρ⟩
  refine⟨_,.tup [],⟨w',c.ok,c.ρ,[.row C7 1 (so.map fun s=>[V.str s])]⟩,rfl,rfl,⟨rfl,rfl⟩,?_,⟨#[],rfl,rfl⟩,?_⟩
  ·refine⟨fun i j b1 k1 k2 h1 h2 _ _=>?_,fun b' o h=>?_,fun i o hi=>?_,hc.glob.keep (fun b' hb hno=>hoth b' hb fun e=>hno ((howns b').2 e)) fun b' ⟨i,k',h1,h2⟩=>.inl ⟨i,k',by rw[hH];exact h1,h2⟩⟩
   ·simp only[List.length_singleton]at h1 h2;omega
   ·have:=hc.okLt _ _ h;show b'<w'.heap.size;omega
   ·cases i with
    | succ i=>simp at hi
    | zero =>
     simp only[List.getElem?_cons_zero,Option.some.injEq]at hi
     subst hi
     refine⟨fun h=>?_,fun b' k' h=>?_⟩
     ·have h:c.ρ 0=none:=h
      rw[hρ]at h;cases h
     ·have h:c.ρ 0=some (b',k'):=h
      rw[hρ]at h;cases h
      refine⟨putCells encStr 0 so.toArray vs,hsame,by simpa[putCells]using r2,by simpa[hperm]using r3,r4,r5,fun i el hi=>?_⟩
      rw[List.getElem?_map]at hi
      cases hs:so[i]? with
      | none=>rw[hs]at hi;cases hi
      | some s =>
       rw[hs]at hi;cases hi
       refine⟨rfl,fun j x hx=>?_⟩
       cases j with
       | succ j=>simp at hx
       | zero =>
        simp only[List.getElem?_cons_zero,Option.some.injEq]at hx
        subst hx
        have hil:i<so.length:=(List.getElem?_eq_some_iff.1 hs).1
        have hsi:so[i]=s:=(List.getElem?_eq_some_iff.1 hs).2
        have hiv:i<vs.size:=by rw[List.length_map]at r3;omega
        refine⟨encStr s,?_,rfl,rfl⟩
        rw[Nat.mul_one,Nat.add_zero]
        simp only[putCells,Array.getElem?_mapIdx,Array.getElem?_eq_getElem hiv,Option.map_some]
        rw[if_pos (by simpa using hil)]
        simp[hil,hsi]
  ·refine⟨fun _ _ h=>h,fun b' o h=>?_,by show c.w.heap.size<=w'.heap.size;omega,fun _ _ h=>.inl h,fun b' hb hno=>hoth b' hb (fun e=>hno ((howns b').2 e)),fun b' hb=>.inl ?_,fun j o hj=>?_,?_,?_,?_,?_⟩
   ·have hne:b'≠b:=fun e=>r5 o (e▸h)
    simp only[World.cell?]
    rw[hoth b' (hc.okLt _ _ h) hne]
   ·obtain⟨i,k',h1,h2⟩:=hb
    exact⟨i,k',by rw[hH];exact h1,h2⟩
   ·rw[hH]at hj
    cases j with
    | succ j=>simp at hj
    | zero =>
     simp only[List.getElem?_cons_zero,Option.some.injEq]at hj
     subst hj
     exact⟨_,rfl,rfl,rfl,by simp[hperm],fun _=>rfl⟩
   ·subst hw';rfl
   ·subst hw';rfl
   ·subst hw';rfl
   ·subst hw';exact Nat.le_add_right _ _
end Go.Dw
end
