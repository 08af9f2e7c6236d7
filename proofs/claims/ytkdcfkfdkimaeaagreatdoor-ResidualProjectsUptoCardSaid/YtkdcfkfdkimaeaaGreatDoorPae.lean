/-
  Contracts and lemmas for ResidualProjects: part e of 11.
-/
import Derived.Test.YtkdcfkfdkimaeaaGreatDoorPad
set_option linter.unusedVariables false
set_option linter.unusedSimpArgs false
set_option maxRecDepth 100000
section
namespace Go.Dw
variable {s:List K} {B:Nat} {t:T} {H:List Ob} {Q:X->T->List Ob->Prop}
namespace BL
def nd:Nat->C
 | 0=>.R [.mv 4 (.i (-1))] (.ret)
 | 1=>.gh [.ks 0 [0,1,7,8]] (.m 3)
 | 2=>.seq (.blk 1 (.R [.A 10 8,.A 5 10] (.R [.A 11 1,.A 12 0,.A 13 5,.G 14 1 12 13,.B 15 14,.V 16 .eql 11 15] (.W 16 (.R [.A 17 5,.A 4 17] (.ret)) (.skip))))) (.reg [.X 18 .add 8 1,.A 8 18])
 | 3=>.R [.V 9 .lss 8 7] (.seq (.W 9 (.skip) (.exit 0)) (.n 2))
 | _=>.skip
def body:C:=.R [.mv 4 (.i 0)] (.seq (.R [.A 6 0,.Y 7 6,.mv 8 (.i 0)] (.J 0 1)) (.n 0))
def rs:List RV:=[.t 4]
attribute [push_cast] nd body
theorem ok:Bd prog AY nd body 2 rs=true:=by kernel_rfl
abbrev L3 (a b c d:V)(B:Nat)(H:CX)(Q:QX):Prop:=Ax prog nd B (DA 3 1 0 0) [(0,a),(1,b),(7,c),(8,d)] H Q
end BL
namespace HD
def nd:Nat->C
 | 0=>.R [.A 15 0,.E 16 4 3,.U 17 DD [.s 15,.s 16,(.c (.bool false))],.A 14 17,.F 18 14 0,.F 19 14 1,.al 6 A3 Co,.L 6 3 18,.A 7 19] (.R [.A 20 7,.A 4 20] (.ret))
 | _=>.skip
def body:C:=.R [.Z 3 A8 1,.mv 4 (.i 0)] (.seq (.R [.A 8 0,.E 9 4 3,.U 10 PB [.s 8,.s 9],.A 5 10] (.R [.A 11 5,.J 12 11] (.W 12 (.R [.A 13 5,.A 4 13] (.ret)) (.skip)))) (.n 0))
def rs:List RV:=[.t 4]
attribute [push_cast] nd body
theorem ok:Bd prog Ir nd body 2 rs=true:=by kernel_rfl
end HD
namespace Ke
def nd:Nat->C
 | 0=>.R [.D 45 0 3,.B 46 45,.bd 47 Lq [(1,1,(.s 46))],.A 48 9,.U 49 Js [.s 47,.s 48],.K 6 6 49] (.ret)
 | 1=>.gh [.ks 2 [1,2,3,6,9,31,32,33]] (.m 3)
 | 2=>.seq (.blk 3 (.R [.G 35 3 31 33,.E 36 3 35,.al 11 A3 Co,.L 11 3 36] (.reg [.A 37 9,.E 38 3 11,.A 39 1,.A 40 2,.U 41 OU [.s 38,.s 39,.s 40],.bs 42 6 [.s 41],.app 43 Ay 6 72 (.s 37) (.s 42),.A 9 43]))) (.reg [.X 44 .add 33 1,.A 33 44])
 | 3=>.R [.V 34 .lss 33 32] (.seq (.W 34 (.skip) (.exit 2)) (.n 2))
 | 4=>.R [.mv 9 (.c .nil),.non 9 Ay 6] (.seq (.R [.D 30 2 3,.B 31 30,.Y 32 31,.mv 33 (.i 0)] (.J 2 1)) (.n 0))
 | 5=>.gh [.ks 1 [1,2,3,6,14,15,16]] (.m 7)
 | 6=>.seq (.blk 1 (.R [.A 18 16,.G 19 1 14 16,.B 20 19,.A 7 18,.A 8 20] (.R [.A 21 8,.D 22 0 3,.B 23 22,.V 24 .eql 21 23] (.W 24 (.R [.A 25 2,.A 26 7,.G 27 6 25 26,.E 28 6 27,.K 6 6 28] (.ret)) (.skip))))) (.reg [.X 29 .add 16 1,.A 16 29])
 | 7=>.R [.V 17 .lss 16 15] (.seq (.W 17 (.skip) (.exit 0)) (.n 6))
 | _=>.skip
def body:C:=.R [.Z 3 A3 0,.al 6 Ay [.int .i64 0,.str [],.bool false,.sl 4 [],.int .i64 0,.int .i64 0]] (.seq (.R [.D 12 1 3,.B 13 12] (.W 13 (.R [.A 14 1,.Y 15 14,.mv 16 (.i 0)] (.J 0 5)) (.skip))) (.n 4))
def rs:List RV:=[.a 6 6]
attribute [push_cast] nd body
theorem ok:Bd prog OU nd body 3 rs=true:=by kernel_rfl
abbrev L3 (a b c d e f g h:V)(B:Nat)(H:CX)(Q:QX):Prop:=Ax prog nd B (DA 3 1 2 0) [(1,a),(2,b),(3,c),(6,d),(9,e),(31,f),(32,g),(33,h)] H Q
abbrev L7 (a b c d e f g:V)(B:Nat)(H:CX)(Q:QX):Prop:=Ax prog nd B (DA 7 5 0 4) [(1,a),(2,b),(3,c),(6,d),(14,e),(15,f),(16,g)] H Q
end Ke
namespace XC
def nd (_:Nat):C:=.skip
def body:C:=.R [.Z 1 BY 0,.mv 2 (.c (.sl 1 []))] (.R [.D 3 0 1,.E 4 3 3,.bs 5 3 [.s 4],.U 6 M5 [.s 5],.A 2 6] (.ret))
def rs:List RV:=[.t 2]
attribute [push_cast] nd body
theorem ok:Bd prog GG nd body 1 rs=true:=by kernel_rfl
end XC
namespace Hz
def nd:Nat->C
 | 0=>.R [.A 28 7,.A 6 28] (.ret)
 | 1=>.gh [.ks 1 [0,1,2,7,10,11]] (.m 3)
 | 2=>.seq (.blk 1 (.R [.A 13 11,.A 8 13] (.dr [0,1,2,3,4,5,6,7,8,9,10,11,12,13] [.A 14 7,.A 15 0,.A 16 1,.A 17 8,.G 18 4 16 17,.E 19 4 18,.A 20 2,.A 21 8,.G 22 4 20 21,.E 23 4 22,.U 24 E1 [.s 15,.s 19,.s 23],.bs 25 6 [.s 24],.app 26 Ay 6 72 (.s 14) (.s 25),.A 7 26]))) (.reg [.X 27 .add 11 1,.A 11 27])
 | 3=>.R [.V 12 .lss 11 10] (.seq (.W 12 (.skip) (.exit 0)) (.n 2))
 | _=>.skip
def body:C:=.R [.mv 6 (.c (.sl 6 []))] (.R [.mv 7 (.c .nil),.non 7 Ay 6] (.seq (.R [.A 9 1,.Y 10 9,.mv 11 (.i 0)] (.J 0 1)) (.n 0)))
def rs:List RV:=[.t 6]
attribute [push_cast] nd body
theorem ok:Bd prog FI nd body 3 rs=true:=by kernel_rfl
abbrev L3 (a b c d e f:V)(B:Nat)(H:CX)(Q:QX):Prop:=Ax prog nd B (DA 3 1 0 0) [(0,a),(1,b),(2,c),(7,d),(10,e),(11,f)] H Q
end Hz
namespace Qh
def nd:Nat->C
 | 0=>.R [.D 45 5 5,.B 46 45,.X 47 .add 46 1,.D 48 5 5,.K 1 48 47] (.R [.E 49 6 5,.K 6 4 49] (.ret))
 | 1=>.gh [.ks 3 [4,5,16,17,18]] (.m 3)
 | 2=>.seq (.blk 1 (.R [.G 20 6 16 18,.E 21 6 20,.al 7 Ay [.int .i64 0,.str [],.bool false,.sl 4 [],.int .i64 0,.int .i64 0],.L 7 6 21] (.R [.D 22 0 5,.D 23 3 22,.B 24 23,.D 25 0 7,.E 26 4 25,.bs 27 4 [.s 26],.app 28 A8 4 56 (.s 24) (.s 27),.D 29 0 5,.D 30 3 29,.K 1 30 28] (.R [.D 31 4 5,.B 32 31,.D 33 4 7,.B 34 33,.V 35 .add 32 34,.mn 36 (.i 1099511627776) (.s 35),.D 37 4 5,.K 1 37 36] (.reg [.D 38 5 5,.B 39 38,.D 40 5 7,.B 41 40,.mx 42 (.s 39) (.s 41),.D 43 5 5,.K 1 43 42]))))) (.reg [.X 44 .add 18 1,.A 18 44])
 | 3=>.R [.V 19 .lss 18 17] (.seq (.W 19 (.skip) (.exit 0)) (.n 2))
 | _=>.skip
def body:C:=.R [.Z 2 A8 0,.al 4 Ay [.int .i64 0,.str [],.bool false,.sl 4 [],.int .i64 0,.int .i64 0]] (.R [.D 8 0 2,.B 9 8,.D 10 1 2,.B 11 10,.D 12 2 2,.B 13 12,.bd 14 [.int .i64 0,.str [],.bool false,.nil] [(0,1,(.s 9)),(1,1,(.s 11)),(2,1,(.s 13))],.bd 15 [.int .i64 0,.str [],.bool false,.nil,.int .i64 0,.int .i64 0] [(0,4,(.s 14)),(4,1,(.i 1))],.al 5 Ay [.int .i64 0,.str [],.bool false,.nil,.int .i64 0,.int .i64 0],.K 6 5 15,.ono A8 4 3 (.s 5)] (.seq (.R [.A 16 1,.Y 17 16,.mv 18 (.i 0)] (.J 0 1)) (.n 0)))
def rs:List RV:=[.a 4 6]
attribute [push_cast] nd body
theorem ok:Bd prog Js nd body 2 rs=true:=by kernel_rfl
abbrev L3 (a b c d e:V)(B:Nat)(H:CX)(Q:QX):Prop:=Ax prog nd B (DA 3 1 0 0) [(4,a),(5,b),(16,c),(17,d),(18,e)] H Q
end Qh
namespace Lz
def nd:Nat->C
 | 0=>.R [.mv 8 (.c (.bool true))] (.ret)
 | 1=>.gh [.ks 0 [2,3,4,5,44,45]] (.m 3)
 | 2=>.seq (.blk 1 (.R [.A 47 45,.A 9 47] (.seq (.dr [0,1,2,3,4,5,6,7,8,9,10,11,12,13] [.D 48 2 4,.B 49 48,.A 50 9,.G 51 3 49 50,.E 52 3 51,.D 53 3 5,.B 54 53,.A 55 9,.G 56 4 54 55,.E 57 4 56,.A 58 2,.A 59 3,.call (some 60) N0 [.s 52,.s 57,.s 58,.s 59],.Q 61 60]) (.W 61 (.R [.mv 8 (.c (.bool false))] (.ret)) (.skip))))) (.reg [.X 62 .add 45 1,.A 45 62])
 | 3=>.R [.V 46 .lss 45 44] (.seq (.W 46 (.skip) (.exit 0)) (.n 2))
 | 4=>.seq (.R [.D 42 2 4,.B 43 42,.Y 44 43,.mv 45 (.i 0)] (.J 0 1)) (.n 0)
 | 5=>.seq (.R [.D 19 0 5,.B 20 19,.J 21 20,.A 22 21,.P 22 false [23,24] [.D 23 2 5,.B 24 23],.M 25 22 24,.A 26 25,.P 26 false [27,28,29,30,31] [.D 27 1 5,.B 28 27,.D 29 0 4,.B 30 29,.V 31 .neq 28 30],.M 32 26 31,.A 33 32,.P 33 false [34,35,36,37,38,39,40] [.D 34 3 5,.B 35 34,.Y 36 35,.D 37 2 4,.B 38 37,.Y 39 38,.V 40 .neq 36 39],.M 41 33 40] (.W 41 (.R [.mv 8 (.c (.bool false))] (.ret)) (.skip))) (.n 4)
 | _=>.skip
def body:C:=.R [.Z 4 A3 0,.Z 5 A8 1,.mv 8 (.c (.bool false))] (.seq (.R [.D 10 1 4,.B 11 10] (.W 11 (.seq (.dr [0,1,2,3,4,5,6,7] [.A 12 3,.A 13 2,.D 14 0 4,.B 15 14,.U 16 Mz [.s 13,.s 15],.E 17 4 5,.G 18 4 12 16,.K 4 18 17]) (.R [.mv 8 (.c (.bool true))] (.ret))) (.skip))) (.n 5))
def rs:List RV:=[.t 8]
attribute [push_cast] nd body
theorem ok:Bd prog N0 nd body 4 rs=true:=by kernel_rfl
abbrev L3 (a b c d e f:V)(B:Nat)(H:CX)(Q:QX):Prop:=Ax prog nd B (DA 3 1 0 0) [(2,a),(3,b),(4,c),(5,d),(44,e),(45,f)] H Q
end Lz
namespace Fe
def nd:Nat->C
 | 0=>.R [.mv 4 (.i 0)] (.ret)
 | 1=>.seq (.blk 0 (.R [.E 12 4 3,.mf 13 Kq [] [.s 2],.U 14 Km [.s 12,.s 13],.Q 15 14,.A 11 15] (.W 11 (.R [.mv 4 (.i 8)] (.ret)) (.R [.E 17 4 3,.mf 18 Kz [] [.s 2],.U 19 Km [.s 17,.s 18],.Q 20 19,.A 16 20] (.W 16 (.R [.mv 4 (.i 4)] (.ret)) (.R [.E 22 4 3,.U 23 GS [.s 22],.X 24 .gtr 23 4000,.A 25 24,.P 25 false [26,27,28] [.E 26 4 3,.U 27 FV [.s 26],.X 28 .gtr 27 200],.M 29 25 28,.A 21 29] (.W 21 (.R [.mv 4 (.i 3)] (.ret)) (.skip)))))))) (.n 0)
 | _=>.skip
def body:C:=.R [.Z 2 U7 0,.Z 3 A8 1,.mv 4 (.i 0)] (.seq (.R [.B 6 2,.U 7 E2 [.s 6],.A 5 7] (.R [.A 8 5,.J 9 8] (.W 9 (.R [.A 10 5,.A 4 10] (.ret)) (.skip)))) (.n 1))
def rs:List RV:=[.t 4]
attribute [push_cast] nd body
theorem ok:Bd prog Nj nd body 2 rs=true:=by kernel_rfl
end Fe
namespace M3
def nd:Nat->C
 | 0=>.R [.A 35 0,.D 36 0 4,.B 37 36,.X 38 .sub 37 1,.G 39 6 35 38,.E 40 6 39,.al 10 BY [.str [],.bool false,.sl 3 [],.str [],.bool false,.sl 3 []],.L 10 6 40] (.seq (.dr [0,1,2,3,4,5,6,7,8,9] [.A 41 2,.E 42 6 10,.callvp (some 43) (.s 41) [.s 42],.D 44 0 10,.E 45 3 44,.bs 46 3 [.s 45],.U 47 Di [.s 46],.A 48 7,.U 49 Lc [.s 43,.s 47,.s 48],.K 3 6 49]) (.ret))
 | 1=>.seq (.R [.D 26 0 4,.B 27 26,.X 28 .eql 27 0] (.W 28 (.R [.D 29 1 4,.B 30 29,.D 31 2 4,.B 32 31,.A 33 7,.bd 34 Co [(0,1,(.s 30)),(1,1,(.s 32)),(2,1,(.s 33))],.K 3 6 34] (.ret)) (.skip))) (.n 0)
 | 2=>.gh [.ks 2 [0,2,4,6,7,12,13,14]] (.m 4)
 | 3=>.seq (.blk 1 (.R [.G 16 4 12 14,.E 17 4 16,.al 9 A8 Lq,.L 9 4 17] (.reg [.A 18 7,.A 19 0,.E 20 4 9,.A 21 2,.U 22 KP [.s 19,.s 20,.s 21],.bs 23 3 [.s 22],.app 24 A3 3 48 (.s 18) (.s 23),.A 7 24]))) (.reg [.X 25 .add 14 1,.A 14 25])
 | 4=>.R [.V 15 .lss 14 13] (.seq (.W 15 (.skip) (.exit 0)) (.n 3))
 | _=>.skip
def body:C:=.R [.Z 4 A8 1,.al 6 A3 Co] (.R [.mv 7 (.c .nil),.non 7 A3 3] (.seq (.R [.D 11 3 4,.B 12 11,.Y 13 12,.mv 14 (.i 0)] (.J 0 2)) (.n 1)))
def rs:List RV:=[.a 6 3]
attribute [push_cast] nd body
theorem ok:Bd prog KP nd body 3 rs=true:=by kernel_rfl
abbrev L4 (a b c d e f g h:V)(B:Nat)(H:CX)(Q:QX):Prop:=Ax prog nd B (DA 4 2 0 1) [(0,a),(2,b),(4,c),(6,d),(7,e),(12,f),(13,g),(14,h)] H Q
end M3
namespace Qm
def nd (_:Nat):C:=.skip
def body:C:=.R [.Z 1 A3 0,.mv 2 (.c (.bool false))] (.R [.al 3 F1 [.int .i64 0],.st 1 (.s 3) (.i 4000)] (.R [.al 4 GQ [.nilf]] (.R [.mf 5 DE [] [.s 3,.s 4],.K 1 4 5] (.R [.B 6 4,.E 7 3 1,.callv (some 8) (.s 6) [.s 7],.A 2 8] (.ret)))))
def rs:List RV:=[.t 2]
attribute [push_cast] nd body
theorem ok:Bd prog Nf nd body 1 rs=true:=by kernel_rfl
end Qm
namespace YH
def nd:Nat->C
 | 0=>.R [.E 8 3 1,.K 3 2 8,.mv 3 (.i 0)] (.ret)
 | _=>.skip
def body:C:=.R [.Z 1 A3 0,.al 2 A3 Co,.mv 3 (.i 0)] (.seq (.R [.E 4 3 1,.U 5 N4 [.s 4],.Q 6 5] (.W 6 (.R [.bd 7 Co [],.K 3 2 7,.mv 3 (.i 3)] (.ret)) (.skip))) (.n 0))
def rs:List RV:=[.a 2 3,.t 3]
attribute [push_cast] nd body
theorem ok:Bd prog P5 nd body 1 rs=true:=by kernel_rfl
end YH
namespace T5
def nd:Nat->C
 | 0=>.R [.E 26 3 3,.K 3 2 26] (.ret)
 | 1=>.gh [.ks 3 [2,3,12,13,14]] (.m 3)
 | 2=>.seq (.blk 1 (.R [.G 16 3 12 14,.E 17 3 16,.al 5 A3 Co,.L 5 3 17] (.dr [0,1,2,3,4,5,6,7] [.D 18 2 3,.B 19 18,.E 20 3 5,.U 21 HY [.s 20],.bs 22 3 [.s 21],.app 23 A3 3 48 (.s 19) (.s 22),.D 24 2 3,.K 1 24 23]))) (.reg [.X 25 .add 14 1,.A 14 25])
 | 3=>.R [.V 15 .lss 14 13] (.seq (.W 15 (.skip) (.exit 0)) (.n 2))
 | _=>.skip
def body:C:=.R [.Z 1 A3 0,.al 2 A3 Co] (.R [.D 6 0 1,.B 7 6,.D 8 1 1,.B 9 8,.bd 10 [.str [],.bool false,.nil] [(0,1,(.s 7)),(1,1,(.s 9))],.al 3 A3 [.str [],.bool false,.nil],.K 3 3 10,.ono A3 3 2 (.s 3)] (.seq (.R [.D 11 2 1,.B 12 11,.Y 13 12,.mv 14 (.i 0)] (.J 0 1)) (.n 0)))
def rs:List RV:=[.a 2 3]
attribute [push_cast] nd body
theorem ok:Bd prog HY nd body 1 rs=true:=by kernel_rfl
abbrev L3 (a b c d e:V)(B:Nat)(H:CX)(Q:QX):Prop:=Ax prog nd B (DA 3 1 0 0) [(2,a),(3,b),(12,c),(13,d),(14,e)] H Q
end T5
namespace Ln
def nd:Nat->C
 | 0=>.R [.A 10 0,.U 11 Nt [.s 10],.F 12 11 0,.F 13 11 1,.A 2 12,.A 3 13] (.ret)
 | _=>.skip
def body:C:=.R [.mv 2 (.c (.sl 12 [])),.mv 3 (.i 0)] (.seq (.R [.A 5 0,.U 6 E2 [.s 5],.A 4 6] (.R [.A 7 4,.J 8 7] (.W 8 (.R [.A 9 4,.mv 2 (.c (.sl 12 [])),.A 3 9] (.ret)) (.skip)))) (.n 0))
def rs:List RV:=[.t 2,.t 3]
attribute [push_cast] nd body
theorem ok:Bd prog M1 nd body 1 rs=true:=by kernel_rfl
end Ln
namespace OA
def nd (_:Nat):C:=.skip
def body:C:=.R [.mv 2 (.c (.bool false))] (.R [.A 3 0,.U 4 BP [.s 3,(.f JI)],.Q 5 4,.A 2 5] (.ret))
def rs:List RV:=[.t 2]
attribute [push_cast] nd body
theorem ok:Bd prog LK nd body 1 rs=true:=by kernel_rfl
end OA
namespace CS
def nd:Nat->C
 | 0=>.R [.mv 2 (.i 0)] (.ret)
 | 1=>.gh [.ks 0 [20,21,22]] (.m 3)
 | 2=>.seq (.blk 1 (.R [.G 24 6 20 22,.E 25 6 24,.al 7 BY [.str [],.bool false,.sl 3 [],.str [],.bool false,.sl 3 []],.L 7 6 25] (.R [.D 26 0 7,.D 27 1 26,.B 28 27,.A 29 28,.P 29 false [30,31,32,33,34,35] [.D 30 3 7,.E 31 3 30,.D 32 0 7,.E 33 3 32,.U 34 P3 [.s 31,.s 33],.Q 35 34],.M 36 29 35] (.W 36 (.R [.mv 2 (.i 7)] (.ret)) (.skip))))) (.reg [.X 37 .add 22 1,.A 22 37])
 | 3=>.R [.V 23 .lss 22 21] (.seq (.W 23 (.skip) (.exit 0)) (.n 2))
 | 4=>.seq (.R [.A 20 0,.Y 21 20,.mv 22 (.i 0)] (.J 0 1)) (.n 0)
 | 5=>.seq (.R [.A 14 0,.U 15 N8 [.s 14],.A 13 15,.F 16 13 0,.F 17 13 1,.A 4 16,.A 5 17] (.R [.A 18 5,.Q 19 18] (.W 19 (.R [.mv 2 (.i 6)] (.ret)) (.skip)))) (.n 4)
 | _=>.skip
def body:C:=.R [.mv 2 (.i 0)] (.seq (.R [.A 8 0,.U 9 PE [.s 8],.A 3 9] (.R [.A 10 3,.J 11 10] (.W 11 (.R [.A 12 3,.A 2 12] (.ret)) (.skip)))) (.n 5))
def rs:List RV:=[.t 2]
attribute [push_cast] nd body
theorem ok:Bd prog Eo nd body 1 rs=true:=by kernel_rfl
abbrev L3 (a b c:V)(B:Nat)(H:CX)(Q:QX):Prop:=Ax prog nd B (DA 3 1 0 0) [(20,a),(21,b),(22,c)] H Q
end CS
namespace D6
def nd:Nat->C
 | 0=>.R [.A 80 4,.A 2 80,.mv 3 (.i 0)] (.ret)
 | 1=>.seq (.R [.A 77 4,.Y 78 77,.X 79 .gtr 78 4096] (.W 79 (.R [.mv 2 (.c (.sl 12 [])),.mv 3 (.i 3)] (.ret)) (.skip))) (.n 0)
 | 2=>.gh [.ks 1 [0,4,15,16]] (.m 12)
 | 3=>.gh [.ks 1 [0,4,5,15,16,24,25,26]] (.m 10)
 | 4=>.gh [.ks 2 [0,4,5,7,8,15,16,24,25,26,41,42]] (.m 8)
 | 5=>.R [.A 69 12] (.W 69 (.reg [.A 70 4,.E 71 12 11,.bs 72 12 [.s 71],.app 73 DY 12 184 (.s 70) (.s 72),.A 4 73]) (.skip))
 | 6=>.R [.A 58 0,.A 59 5,.A 60 10,.A 61 7,.U 62 Xa [.s 58,.s 59,.s 60,.s 61],.A 57 62,.F 63 57 0,.F 64 57 1,.F 65 57 2,.al 11 DY [.int .i64 0,.int .i64 0,.sl 1 [],.str [],.bool false,.sl 3 [],.str [],.bool false,.sl 3 [],.str [],.bool false,.sl 3 []],.L 11 12 63,.A 12 64,.A 13 65] (.seq (.R [.A 66 13,.J 67 66] (.W 67 (.R [.A 68 13,.mv 2 (.c (.sl 12 [])),.A 3 68] (.ret)) (.skip))) (.n 5))
 | 7=>.seq (.blk 5 (.R [.A 44 42,.A 10 44] (.seq (.R [.D 45 1 8,.B 46 45,.A 47 46,.P 47 false [48,49,50,51] [.A 48 5,.A 49 10,.V 50 .eql 48 49,.A 51 50],.P 51 true [52,53,54] [.A 52 7,.Y 53 52,.X 54 .eql 53 0],.P 47 false [55] [.N 55 51 54],.M 56 47 55] (.W 56 (.exit 5) (.skip))) (.n 6)))) (.reg [.X 74 .add 42 1,.A 42 74])
 | 8=>.R [.V 43 .lss 42 41] (.seq (.W 43 (.skip) (.exit 4)) (.n 7))
 | 9=>.seq (.blk 3 (.R [.G 28 1 24 26,.B 29 28,.A 7 29] (.R [.A 31 0,.A 32 5,.G 33 6 31 32,.D 34 0 33,.E 35 3 34,.A 36 7,.U 37 TX [.s 35,.s 36],.A 30 37,.F 38 30 0,.F 39 30 1,.al 8 A3 Co,.L 8 3 38,.A 9 39] (.R [.A 40 0,.Y 41 40,.mv 42 (.i 0)] (.J 4 4))))) (.reg [.X 75 .add 26 1,.A 26 75])
 | 10=>.R [.V 27 .lss 26 25] (.seq (.W 27 (.skip) (.exit 2)) (.n 9))
 | 11=>.seq (.blk 1 (.R [.A 18 16,.A 5 18] (.R [.A 19 0,.A 20 5,.G 21 6 19 20,.D 22 0 21,.E 23 3 22,.U 24 HG [.s 23],.Y 25 24,.mv 26 (.i 0)] (.J 2 3)))) (.reg [.X 76 .add 16 1,.A 16 76])
 | 12=>.R [.V 17 .lss 16 15] (.seq (.W 17 (.skip) (.exit 0)) (.n 11))
 | _=>.skip
def body:C:=.R [.mv 2 (.c (.sl 12 [])),.mv 3 (.i 0)] (.R [.mv 4 (.c .nil),.non 4 DY 12] (.seq (.R [.A 14 0,.Y 15 14,.mv 16 (.i 0)] (.J 0 2)) (.n 1)))
def rs:List RV:=[.t 2,.t 3]
attribute [push_cast] nd body
theorem ok:Bd prog Sp nd body 1 rs=true:=by kernel_rfl
abbrev L8 (a b c d e f g h i j k l:V)(B:Nat)(H:CX)(Q:QX):Prop:=Ax prog nd B [.c (.m 8),.c (.loop (.n 4)),.mk 4,.mk 3,.c (.reg [.X 75 .add 26 1,.A 26 75]),.c (.loop (.n 3)),.mk 2,.mk 1,.c (.reg [.X 76 .add 16 1,.A 16 76]),.c (.loop (.n 2)),.mk 0,.c (.n 1)] [(0,a),(4,b),(5,c),(7,d),(8,e),(15,f),(16,g),(24,h),(25,i),(26,j),(41,k),(42,l)] H Q
abbrev L10 (a b c d e f g h:V)(B:Nat)(H:CX)(Q:QX):Prop:=Ax prog nd B [.c (.m 10),.c (.loop (.n 3)),.mk 2,.mk 1,.c (.reg [.X 76 .add 16 1,.A 16 76]),.c (.loop (.n 2)),.mk 0,.c (.n 1)] [(0,a),(4,b),(5,c),(15,d),(16,e),(24,f),(25,g),(26,h)] H Q
abbrev L12 (a b c d:V)(B:Nat)(H:CX)(Q:QX):Prop:=Ax prog nd B (DA 12 2 0 1) [(0,a),(4,b),(15,c),(16,d)] H Q
end D6
namespace F2
def nd:Nat->C
 | 0=>.R [.mv 2 (.c (.bool true))] (.ret)
 | 1=>.gh [.ks 0 [5,6,7]] (.m 3)
 | 2=>.seq (.blk 1 (.R [.G 9 6 5 7,.E 10 6 9,.al 4 BY [.str [],.bool false,.sl 3 [],.str [],.bool false,.sl 3 []],.L 4 6 10] (.R [.D 11 0 4,.E 12 3 11,.U 13 Of [.s 12],.Q 14 13] (.W 14 (.R [.mv 2 (.c (.bool false))] (.ret)) (.skip))))) (.reg [.X 15 .add 7 1,.A 7 15])
 | 3=>.R [.V 8 .lss 7 6] (.seq (.W 8 (.skip) (.exit 0)) (.n 2))
 | _=>.skip
def body:C:=.R [.mv 2 (.c (.bool false))] (.seq (.R [.A 5 0,.Y 6 5,.mv 7 (.i 0)] (.J 0 1)) (.n 0))
def rs:List RV:=[.t 2]
attribute [push_cast] nd body
theorem ok:Bd prog Jy nd body 1 rs=true:=by kernel_rfl
abbrev L3 (a b c:V)(B:Nat)(H:CX)(Q:QX):Prop:=Ax prog nd B (DA 3 1 0 0) [(5,a),(6,b),(7,c)] H Q
end F2
namespace Jn
def nd:Nat->C
 | 0=>.R [.A 54 11,.A 55 12,.X 56 .add 55 1,.A 8 54,.A 9 56] (.ret)
 | 1=>.gh [.ks 0 [1,2,3,11,12,32,33,34]] (.m 3)
 | 2=>.seq (.blk 1 (.R [.G 36 3 32 34,.E 37 3 36,.al 14 A3 Co,.L 14 3 37] (.R [.E 39 3 14,.A 40 1,.A 41 2,.A 42 3,.U 43 Lh [.s 39,.s 40,.s 41,.s 42],.A 38 43,.F 44 38 0,.F 45 38 1,.A 15 44,.A 16 45] (.R [.A 46 11,.A 47 15,.V 48 .add 46 47,.mn 49 (.i 1099511627776) (.s 48),.A 11 49] (.reg [.A 50 12,.A 51 16,.mx 52 (.s 50) (.s 51),.A 12 52]))))) (.reg [.X 53 .add 34 1,.A 34 53])
 | 3=>.R [.V 35 .lss 34 33] (.seq (.W 35 (.skip) (.exit 0)) (.n 2))
 | 4=>.R [.mv 11 (.i 1),.mv 12 (.i 0)] (.seq (.R [.D 31 2 4,.B 32 31,.Y 33 32,.mv 34 (.i 0)] (.J 0 1)) (.n 0))
 | _=>.skip
def body:C:=.R [.Z 4 A3 0,.mv 8 (.i 0),.mv 9 (.i 0)] (.seq (.R [.D 17 1 4,.B 18 17] (.W 18 (.R [.A 19 1,.D 20 0 4,.B 21 20,.U 22 Mz [.s 19,.s 21],.A 10 22] (.seq (.dr [0,1,2,3,4,5,6,7,8,9] [.A 23 2,.A 24 10,.G 25 1 23 24,.B 26 25,.A 27 3,.A 28 10,.G 29 1 27 28,.B 30 29,.A 8 26,.A 9 30]) (.ret))) (.skip))) (.n 4))
def rs:List RV:=[.t 8,.t 9]
attribute [push_cast] nd body
theorem ok:Bd prog Lh nd body 4 rs=true:=by kernel_rfl
abbrev L3 (a b c d e f g h:V)(B:Nat)(H:CX)(Q:QX):Prop:=Ax prog nd B (DA 3 1 0 0) [(1,a),(2,b),(3,c),(11,d),(12,e),(32,f),(33,g),(34,h)] H Q
end Jn
namespace Yz
def nd:Nat->C
 | 0=>.R [.D 8 0 2,.E 9 3 8,.K 3 4 9] (.ret)
 | _=>.skip
def body:C:=.R [.Z 2 BY 0,.al 4 A3 Co] (.seq (.R [.A 5 1] (.W 5 (.R [.D 6 3 2,.E 7 3 6,.K 3 4 7] (.ret)) (.skip))) (.n 0))
def rs:List RV:=[.a 4 3]
attribute [push_cast] nd body
theorem ok:Bd prog OI nd body 2 rs=true:=by kernel_rfl
end Yz
namespace NN
def nd:Nat->C
 | 0=>.R [.E 33 3 5,.K 3 4 33] (.ret)
 | 1=>.gh [.ks 3 [0,4,5,18,19,20]] (.m 3)
 | 2=>.seq (.blk 1 (.R [.G 22 3 18 20,.E 23 3 22,.al 7 A3 Co,.L 7 3 23] (.dr [0,1,2,3,4,5,6,7,8] [.D 24 2 5,.B 25 24,.A 26 0,.E 27 3 7,.U 28 CQ [.s 26,.s 27],.bs 29 3 [.s 28],.app 30 A3 3 48 (.s 25) (.s 29),.D 31 2 5,.K 1 31 30]))) (.reg [.X 32 .add 20 1,.A 20 32])
 | 3=>.R [.V 21 .lss 20 19] (.seq (.W 21 (.skip) (.exit 0)) (.n 2))
 | 4=>.R [.D 14 0 3,.B 15 14,.bd 16 [.str [],.bool false,.nil] [(0,1,(.s 15))],.al 5 A3 [.str [],.bool false,.nil],.K 3 5 16,.ono A3 3 2 (.s 5)] (.seq (.R [.D 17 2 3,.B 18 17,.Y 19 18,.mv 20 (.i 0)] (.J 0 1)) (.n 0))
 | _=>.skip
def body:C:=.R [.Z 3 A3 1,.al 4 A3 Co] (.seq (.R [.D 8 1 3,.B 9 8] (.W 9 (.R [.A 10 0,.D 11 0 3,.B 12 11,.U 13 I3 [.s 10,.s 12],.K 3 4 13] (.ret)) (.skip))) (.n 4))
def rs:List RV:=[.a 4 3]
attribute [push_cast] nd body
theorem ok:Bd prog CQ nd body 2 rs=true:=by kernel_rfl
abbrev L3 (a b c d e f:V)(B:Nat)(H:CX)(Q:QX):Prop:=Ax prog nd B (DA 3 1 0 0) [(0,a),(4,b),(5,c),(18,d),(19,e),(20,f)] H Q
end NN
namespace Gz
def nd:Nat->C
 | 0=>.R [.A 11 0,.bin 12 .neq (.s 11) (.c (.str [])),.A 13 12,.P 13 true [14,15,16,17] [.A 14 0,.s2b 15 (.s 14),.U 16 BQ [.s 15,(.f HF)],.Q 17 16],.N 18 13 17,.A 4 18] (.ret)
 | 1=>.seq (.R [.A 8 1] (.W 8 (.reg [.A 9 0,.U 10 Gs [.s 9,(.c (.str [35]))],.A 0 10]) (.skip))) (.n 0)
 | _=>.skip
def body:C:=.R [.mv 4 (.c (.bool false))] (.seq (.R [.A 5 0,.lens 6 (.s 5),.X 7 .gtr 6 24] (.W 7 (.R [.mv 4 (.c (.bool false))] (.ret)) (.skip))) (.n 1))
def rs:List RV:=[.t 4]
attribute [push_cast] nd body
theorem ok:Bd prog DQ nd body 2 rs=true:=by kernel_rfl
end Gz
namespace CV
def nd (_:Nat):C:=.skip
def body:C:=.R [.mv 4 (.c (.bool false))] (.R [.A 5 0,.A 6 1,.U 7 Bh [.s 5,.s 6],.X 8 .geq 7 0,.A 4 8] (.ret))
def rs:List RV:=[.t 4]
attribute [push_cast] nd body
theorem ok:Bd prog AO nd body 2 rs=true:=by kernel_rfl
end CV
namespace Nd
def nd (_:Nat):C:=.skip
def body:C:=.R [.Z 1 A3 0,.mv 2 (.c (.bool false))] (.R [.E 3 3 1,.U 4 JW [.s 3],.Q 5 4,.A 2 5] (.ret))
def rs:List RV:=[.t 2]
attribute [push_cast] nd body
theorem ok:Bd prog Kt nd body 1 rs=true:=by kernel_rfl
end Nd
namespace Re
def nd:Nat->C
 | 0=>.R [.A 18 3,.A 2 18] (.ret)
 | 1=>.gh [.ks 0 [3,7,8,9]] (.m 3)
 | 2=>.seq (.blk 1 (.R [.G 11 3 7 9,.E 12 3 11,.al 5 A3 Co,.L 5 3 12] (.reg [.A 13 3,.E 14 3 5,.U 15 Kg [.s 14],.V 16 .add 13 15,.A 3 16]))) (.reg [.X 17 .add 9 1,.A 9 17])
 | 3=>.R [.V 10 .lss 9 8] (.seq (.W 10 (.skip) (.exit 0)) (.n 2))
 | _=>.skip
def body:C:=.R [.Z 1 A3 0,.mv 2 (.i 0)] (.R [.mv 3 (.i 1)] (.seq (.R [.D 6 2 1,.B 7 6,.Y 8 7,.mv 9 (.i 0)] (.J 0 1)) (.n 0)))
def rs:List RV:=[.t 2]
attribute [push_cast] nd body
theorem ok:Bd prog Kg nd body 1 rs=true:=by kernel_rfl
abbrev L3 (a b c d:V)(B:Nat)(H:CX)(Q:QX):Prop:=Ax prog nd B (DA 3 1 0 0) [(3,a),(7,b),(8,c),(9,d)] H Q
end Re
namespace Od
def nd:Nat->C
 | 0=>.R [.A 18 3,.X 19 .add 18 1,.A 2 19] (.ret)
 | 1=>.gh [.ks 0 [3,7,8,9]] (.m 3)
 | 2=>.seq (.blk 1 (.R [.G 11 3 7 9,.E 12 3 11,.al 5 A3 Co,.L 5 3 12] (.reg [.A 13 3,.E 14 3 5,.U 15 IW [.s 14],.mx 16 (.s 13) (.s 15),.A 3 16]))) (.reg [.X 17 .add 9 1,.A 9 17])
 | 3=>.R [.V 10 .lss 9 8] (.seq (.W 10 (.skip) (.exit 0)) (.n 2))
 | _=>.skip
def body:C:=.R [.Z 1 A3 0,.mv 2 (.i 0)] (.R [.mv 3 (.i 0)] (.seq (.R [.D 6 2 1,.B 7 6,.Y 8 7,.mv 9 (.i 0)] (.J 0 1)) (.n 0)))
def rs:List RV:=[.t 2]
attribute [push_cast] nd body
theorem ok:Bd prog IW nd body 1 rs=true:=by kernel_rfl
abbrev L3 (a b c d:V)(B:Nat)(H:CX)(Q:QX):Prop:=Ax prog nd B (DA 3 1 0 0) [(3,a),(7,b),(8,c),(9,d)] H Q
end Od
namespace VL
def nd (_:Nat):C:=.skip
def body:C:=.reg [.E 3 3 1,.A 4 0,.call (some 5) Gt [.s 3,(.c (.sl 1 [])),.s 4]]
def rs:List RV:=[]
attribute [push_cast] nd body
theorem ok:Bd prog Dh nd body 2 rs=true:=by kernel_rfl
end VL
namespace Vg
def nd:Nat->C
 | 0=>.R [.mv 6 (.c (.bool true))] (.ret)
 | 1=>.gh [.ks 0 [1,2,15,16,17]] (.m 3)
 | 2=>.seq (.blk 1 (.R [.A 19 17,.G 20 3 15 17,.E 21 3 20,.al 8 A3 Co,.A 7 19,.L 8 3 21] (.seq (.dr [1,3,4,6] [.A 23 1,.A 25 7,.bs 26 1 [.s 25],.A 28 2,.alt [([0,2,5,7,8],[.E 22 3 8,.call (some 24) BV [.s 23],.app 27 F1 1 8 (.s 24) (.s 26),.call (some 29) Gt [.s 22,.s 27,.s 28],.Q 30 29]),([2,0,5,7,8],[.call (some 24) BV [.s 23],.E 22 3 8,.app 27 F1 1 8 (.s 24) (.s 26),.call (some 29) Gt [.s 22,.s 27,.s 28],.Q 30 29])]]) (.W 30 (.R [.mv 6 (.c (.bool false))] (.ret)) (.skip))))) (.reg [.X 31 .add 17 1,.A 17 31])
 | 3=>.R [.V 18 .lss 17 16] (.seq (.W 18 (.skip) (.exit 0)) (.n 2))
 | 4=>.seq (.R [.D 14 2 3,.B 15 14,.Y 16 15,.mv 17 (.i 0)] (.J 0 1)) (.n 0)
 | _=>.skip
def body:C:=.R [.Z 3 A3 0,.mv 6 (.c (.bool false))] (.seq (.R [.A 9 2,.A 10 1,.E 11 3 3,.callv (some 12) (.s 9) [.s 10,.s 11],.Q 13 12] (.W 13 (.R [.mv 6 (.c (.bool false))] (.ret)) (.skip))) (.n 4))
def rs:List RV:=[.t 6]
attribute [push_cast] nd body
theorem ok:Bd prog Gt nd body 3 rs=true:=by kernel_rfl
abbrev L3 (a b c d e:V)(B:Nat)(H:CX)(Q:QX):Prop:=Ax prog nd B (DA 3 1 0 0) [(1,a),(2,b),(15,c),(16,d),(17,e)] H Q
end Vg
namespace CO
def nd:Nat->C
 | 0=>.R [.bo 5 F1 1 [],.A 6 0,.app 7 F1 1 8 (.s 5) (.s 6),.A 2 7] (.ret)
 | _=>.skip
def body:C:=.R [.mv 2 (.c .nil),.non 2 F1 1] (.seq (.R [.A 3 0,.nl 4 false (.s 3)] (.W 4 (.R [.mv 2 (.c .nil),.non 2 F1 1] (.ret)) (.skip))) (.n 0))
def rs:List RV:=[.t 2]
attribute [push_cast] nd body
theorem ok:Bd prog BV nd body 1 rs=true:=by kernel_rfl
end CO
namespace Fq
def nd:Nat->C
 | 0=>.R [.A 18 0,.bin 19 .neq (.s 18) (.c (.str [])),.A 20 19,.P 20 true [21,22] [.A 21 0,.U 22 JR [.s 21]],.N 23 20 22,.A 4 23] (.ret)
 | 1=>.seq (.R [.A 8 1,.A 9 8,.P 9 true [10,11] [.A 10 0,.U 11 Lf [.s 10]],.N 12 9 11] (.W 12 (.reg [.A 13 0,.A 14 0,.lens 15 (.s 14),.X 16 .sub 15 1,.sxs 17 (.s 13) none (some (.s 16)),.A 0 17]) (.skip))) (.n 0)
 | _=>.skip
def body:C:=.R [.mv 4 (.c (.bool false))] (.seq (.R [.A 5 0,.lens 6 (.s 5),.X 7 .gtr 6 24] (.W 7 (.R [.mv 4 (.c (.bool false))] (.ret)) (.skip))) (.n 1))
def rs:List RV:=[.t 4]
attribute [push_cast] nd body
theorem ok:Bd prog Ez nd body 2 rs=true:=by kernel_rfl
end Fq
namespace EJ
def nd:Nat->C
 | 0=>.R [.A 34 3,.A 2 34] (.ret)
 | 1=>.gh [.ks 1 [3,11,12,13]] (.m 6)
 | 2=>.gh [.ks 2 [3,4,11,12,13,19,20,21]] (.m 4)
 | 3=>.seq (.blk 3 (.R [.G 23 1 19 21,.B 24 23,.A 7 24] (.reg [.A 25 3,.A 26 4,.bo 27 F1 1 [.s 26],.A 28 7,.app 29 F1 1 8 (.s 27) (.s 28),.bs 30 1 [.s 29],.app 31 WQ 1 24 (.s 25) (.s 30),.A 3 31]))) (.reg [.X 32 .add 21 1,.A 21 32])
 | 4=>.R [.V 22 .lss 21 20] (.seq (.W 22 (.skip) (.exit 2)) (.n 3))
 | 5=>.seq (.blk 1 (.R [.A 15 13,.G 16 3 11 13,.E 17 3 16,.al 5 A3 Co,.A 4 15,.L 5 3 17] (.R [.E 18 3 5,.U 19 HG [.s 18],.Y 20 19,.mv 21 (.i 0)] (.J 2 2)))) (.reg [.X 33 .add 13 1,.A 13 33])
 | 6=>.R [.V 14 .lss 13 12] (.seq (.W 14 (.skip) (.exit 0)) (.n 5))
 | _=>.skip
def body:C:=.R [.Z 1 A3 0,.mv 2 (.c (.sl 1 []))] (.R [.bs 8 1 [],.bo 9 WQ 1 [.s 8],.A 3 9] (.seq (.R [.D 10 2 1,.B 11 10,.Y 12 11,.mv 13 (.i 0)] (.J 0 1)) (.n 0)))
def rs:List RV:=[.t 2]
attribute [push_cast] nd body
theorem ok:Bd prog HG nd body 1 rs=true:=by kernel_rfl
abbrev L4 (a b c d e f g h:V)(B:Nat)(H:CX)(Q:QX):Prop:=Ax prog nd B [.c (.m 4),.c (.loop (.n 2)),.mk 2,.mk 1,.c (.reg [.X 33 .add 13 1,.A 13 33]),.c (.loop (.n 1)),.mk 0,.c (.n 0)] [(3,a),(4,b),(11,c),(12,d),(13,e),(19,f),(20,g),(21,h)] H Q
abbrev L6 (a b c d:V)(B:Nat)(H:CX)(Q:QX):Prop:=Ax prog nd B (DA 6 1 0 0) [(3,a),(11,b),(12,c),(13,d)] H Q
end EJ
namespace Ul
def nd:Nat->C
 | 0=>.R [.E 30 3 2,.K 3 4 30,.mv 5 (.c (.bool true))] (.ret)
 | 1=>.gh [.ks 2 [2,4,8,9,10]] (.m 3)
 | 2=>.seq (.blk 1 (.R [.G 12 1 8 10,.B 13 12,.A 7 13] (.seq (.R [.A 14 7,.X 15 .lss 14 0,.A 16 15,.P 16 false [17,18,19,20,21] [.A 17 7,.D 18 2 2,.B 19 18,.Y 20 19,.V 21 .geq 17 20],.M 22 16 21] (.W 22 (.R [.bd 23 Co [],.K 3 4 23,.mv 5 (.c (.bool false))] (.ret)) (.skip))) (.reg [.D 24 2 2,.B 25 24,.A 26 7,.G 27 3 25 26,.E 28 3 27,.K 3 2 28])))) (.reg [.X 29 .add 10 1,.A 10 29])
 | 3=>.R [.V 11 .lss 10 9] (.seq (.W 11 (.skip) (.exit 0)) (.n 2))
 | _=>.skip
def body:C:=.R [.bx 2 A3 (.s 0),.al 4 A3 Co,.mv 5 (.c (.bool false))] (.seq (.R [.A 8 1,.Y 9 8,.mv 10 (.i 0)] (.J 0 1)) (.n 0))
def rs:List RV:=[.a 4 3,.t 5]
attribute [push_cast] nd body
theorem ok:Bd prog TX nd body 2 rs=true:=by kernel_rfl
abbrev L3 (a b c d e:V)(B:Nat)(H:CX)(Q:QX):Prop:=Ax prog nd B (DA 3 1 0 0) [(2,a),(4,b),(8,c),(9,d),(10,e)] H Q
end Ul
namespace El
def nd:Nat->C
 | 0=>.R [.mv 2 (.i 0)] (.ret)
 | 1=>.gh [.ks 0 [9,10,11]] (.m 3)
 | 2=>.seq (.blk 1 (.R [.G 13 6 9 11,.E 14 6 13,.al 4 BY [.str [],.bool false,.sl 3 [],.str [],.bool false,.sl 3 []],.L 4 6 14] (.R [.D 15 0 4,.E 16 3 15,.D 17 3 4,.E 18 3 17,.bs 19 3 [.s 16,.s 18],.U 20 SG [.s 19],.A 5 20] (.R [.A 21 5,.J 22 21] (.W 22 (.R [.A 23 5,.A 2 23] (.ret)) (.skip)))))) (.reg [.X 24 .add 11 1,.A 11 24])
 | 3=>.R [.V 12 .lss 11 10] (.seq (.W 12 (.skip) (.exit 0)) (.n 2))
 | 4=>.seq (.R [.A 9 0,.Y 10 9,.mv 11 (.i 0)] (.J 0 1)) (.n 0)
 | _=>.skip
def body:C:=.R [.mv 2 (.i 0)] (.seq (.R [.A 6 0,.Y 7 6,.X 8 .gtr 7 64] (.W 8 (.R [.mv 2 (.i 3)] (.ret)) (.skip))) (.n 4))
def rs:List RV:=[.t 2]
attribute [push_cast] nd body
theorem ok:Bd prog IY nd body 1 rs=true:=by kernel_rfl
abbrev L3 (a b c:V)(B:Nat)(H:CX)(Q:QX):Prop:=Ax prog nd B (DA 3 1 0 0) [(9,a),(10,b),(11,c)] H Q
end El
namespace Ex
def nd:Nat->C
 | 0=>.R [.B 57 4,.K 1 2 57,.st 1 (.s 3) (.c (.bool true))] (.ret)
 | 1=>.gh [.ks 4 [2,3,4,10,14,15,16]] (.m 8)
 | 2=>.gh [.ks 5 [2,3,4,10,14,15,16,24,25]] (.m 6)
 | 3=>.seq (.R [.B 35 4,.D 36 0 10,.B 37 36,.lkp 38 true true (.int .i64 0) (.s 35) (.s 37),.A 34 38,.F 39 34 0,.F 40 34 1,.A 11 39,.A 12 40] (.R [.A 41 12,.A 42 41,.P 42 true [43,44,45,46,47] [.A 43 11,.D 44 2 10,.B 45 44,.Y 46 45,.V 47 .neq 43 46],.N 48 42 47] (.W 48 (.R [.st 1 (.s 2) (.c .nilm),.st 1 (.s 3) (.c (.bool false))] (.ret)) (.skip)))) (.reg [.B 49 4,.D 50 0 10,.B 51 50,.D 52 2 10,.B 53 52,.Y 54 53,.mup true (.s 49) (.s 51) (.s 54)])
 | 4=>.blk 5 (.seq (.R [.D 32 1 10,.B 33 32] (.W 33 (.exit 5) (.skip))) (.n 3))
 | 5=>.seq (.blk 3 (.R [.ixa 27 3 2 (some 3) (.s 24) (.s 25),.al 8 A3 Co,.L 8 3 27] (.R [.E 28 3 8,.U 29 Ie [.s 28]] (.blk 4 (.rf (.s 29) [30,31] (.reg [.al 10 A3 Co,.L 10 3 31]) (.m 4)))))) (.reg [.X 55 .add 25 1,.A 25 55])
 | 6=>.R [.X 26 .lss 25 2] (.seq (.W 26 (.skip) (.exit 2)) (.n 5))
 | 7=>.seq (.blk 1 (.R [.G 18 6 14 16,.E 19 6 18,.al 6 BY [.str [],.bool false,.sl 3 [],.str [],.bool false,.sl 3 []],.L 6 6 19] (.R [.D 20 0 6,.E 21 3 20,.D 22 3 6,.E 23 3 22,.bd 24 [.str [],.bool false,.sl 3 [],.str [],.bool false,.sl 3 []] [(0,3,(.s 21)),(3,3,(.s 23))],.mv 25 (.i 0)] (.J 2 2)))) (.reg [.X 56 .add 16 1,.A 16 56])
 | 8=>.R [.V 17 .lss 16 15] (.seq (.W 17 (.skip) (.exit 0)) (.n 7))
 | _=>.skip
def body:C:=.R [.al 2 Iv [.nilm],.al 3 ko [.bool false]] (.R [.mkm 13,.al 4 Iv [.nilm],.K 1 4 13] (.seq (.R [.A 14 0,.Y 15 14,.mv 16 (.i 0)] (.J 0 1)) (.n 0)))
def rs:List RV:=[.c 2,.c 3]
attribute [push_cast] nd body
theorem ok:Bd prog J1 nd body 1 rs=true:=by kernel_rfl
abbrev L6 (a b c d e f g h i:V)(B:Nat)(H:CX)(Q:QX):Prop:=Ax prog nd B [.c (.m 6),.c (.loop (.n 2)),.mk 2,.mk 1,.c (.reg [.X 56 .add 16 1,.A 16 56]),.c (.loop (.n 1)),.mk 0,.c (.n 0)] [(2,a),(3,b),(4,c),(10,d),(14,e),(15,f),(16,g),(24,h),(25,i)] H Q
abbrev L8 (a b c d e f g:V)(B:Nat)(H:CX)(Q:QX):Prop:=Ax prog nd B (DA 8 1 0 0) [(2,a),(3,b),(4,c),(10,d),(14,e),(15,f),(16,g)] H Q
end Ex
namespace PL
def nd (_:Nat):C:=.skip
def body:C:=.R [.mv 2 (.c (.bool false))] (.R [.A 3 0,.U 4 Hn [.s 3,(.c (.str [35]))],.A 2 4] (.ret))
def rs:List RV:=[.t 2]
attribute [push_cast] nd body
theorem ok:Bd prog Nb nd body 1 rs=true:=by kernel_rfl
end PL
namespace CW
def nd (_:Nat):C:=.skip
def body:C:=.R [.mv 4 (.c (.bool false))] (.R [.A 5 0,.A 6 1,.U 7 Dd [.s 5,.s 6],.X 8 .geq 7 0,.A 4 8] (.ret))
def rs:List RV:=[.t 4]
attribute [push_cast] nd body
theorem ok:Bd prog BP nd body 2 rs=true:=by kernel_rfl
end CW
namespace Oy
def nd (_:Nat):C:=.skip
def body:C:=.R [.Z 1 BY 0,.mv 2 (.c (.bool false))] (.R [.D 4 0 1,.E 5 3 4,.bs 6 3 [.s 5],.U 7 Di [.s 6],.al 3 Xt [.sl 1 []],.L 3 1 7] (.R [.D 8 0 1,.D 9 1 8,.B 10 9,.A 11 10,.P 11 false [12,13,14,15,16,17] [.D 12 3 1,.E 13 3 12,.bs 14 3 [.s 13],.U 15 Di [.s 14],.mf 16 PV [] [.s 3],.U 17 Bu [.s 15,.s 16]],.M 18 11 17,.A 2 18] (.ret)))
def rs:List RV:=[.t 2]
attribute [push_cast] nd body
theorem ok:Bd prog Le nd body 1 rs=true:=by kernel_rfl
end Oy
namespace Ju
def nd:Nat->C
 | 0=>.R [.mv 4 (.i 0)] (.ret)
 | 1=>.seq (.R [.E 19 4 3,.U 20 Qe [.s 19],.Q 21 20] (.W 21 (.R [.mv 4 (.i 3)] (.ret)) (.skip))) (.n 0)
 | 2=>.seq (.R [.A 15 0,.E 16 4 3,.U 17 Li [.s 15,.s 16],.Q 18 17] (.W 18 (.R [.mv 4 (.i 4)] (.ret)) (.skip))) (.n 1)
 | 3=>.seq (.R [.A 11 0,.E 12 4 3,.U 13 KV [.s 11,.s 12],.Q 14 13] (.W 14 (.R [.mv 4 (.i 8)] (.ret)) (.skip))) (.n 2)
 | _=>.skip
def body:C:=.R [.Z 3 A8 1,.mv 4 (.i 0)] (.seq (.R [.A 6 0,.U 7 Eo [.s 6],.A 5 7] (.R [.A 8 5,.J 9 8] (.W 9 (.R [.A 10 5,.A 4 10] (.ret)) (.skip)))) (.n 3))
def rs:List RV:=[.t 4]
attribute [push_cast] nd body
theorem ok:Bd prog PB nd body 2 rs=true:=by kernel_rfl
end Ju
namespace TR
def nd:Nat->C
 | 0=>.R [.A 16 3,.A 2 16] (.ret)
 | 1=>.gh [.ks 0 [3,6,7,8]] (.m 3)
 | 2=>.seq (.blk 1 (.R [.G 10 3 6 8,.E 11 3 10,.al 5 A3 Co,.L 5 3 11] (.reg [.E 12 3 5,.A 13 3,.U 14 JQ [.s 12,.s 13],.A 3 14]))) (.reg [.X 15 .add 8 1,.A 8 15])
 | 3=>.R [.V 9 .lss 8 7] (.seq (.W 9 (.skip) (.exit 0)) (.n 2))
 | _=>.skip
def body:C:=.R [.mv 2 (.c (.sl 1 []))] (.R [.mv 3 (.c (.sl 1 []))] (.seq (.R [.A 6 0,.Y 7 6,.mv 8 (.i 0)] (.J 0 1)) (.n 0)))
def rs:List RV:=[.t 2]
attribute [push_cast] nd body
theorem ok:Bd prog M5 nd body 1 rs=true:=by kernel_rfl
abbrev L3 (a b c d:V)(B:Nat)(H:CX)(Q:QX):Prop:=Ax prog nd B (DA 3 1 0 0) [(3,a),(6,b),(7,c),(8,d)] H Q
end TR
end Go.Dw
end
section
namespace Go.Dw
variable {s:List K} {B:Nat} {t:T} {H:List Ob} {Q:X->T->List Ob->Prop}
namespace Lx
def nd:Nat->C
 | 0=>.R [.mv 4 (.i (-1))] (.ret)
 | 1=>.gh [.ks 0 [1,7,8,9]] (.m 3)
 | 2=>.seq (.blk 1 (.R [.A 11 9,.G 12 1 7 9,.B 13 12,.A 5 11,.A 6 13] (.R [.A 14 6,.A 15 1,.V 16 .eql 14 15] (.W 16 (.R [.A 17 5,.A 4 17] (.ret)) (.skip))))) (.reg [.X 18 .add 9 1,.A 9 18])
 | 3=>.R [.V 10 .lss 9 8] (.seq (.W 10 (.skip) (.exit 0)) (.n 2))
 | _=>.skip
def body:C:=.R [.mv 4 (.i 0)] (.seq (.R [.A 7 0,.Y 8 7,.mv 9 (.i 0)] (.J 0 1)) (.n 0))
def rs:List RV:=[.t 4]
attribute [push_cast] nd body
theorem ok:Bd prog Mz nd body 2 rs=true:=by kernel_rfl
abbrev L3 (a b c d:V)(B:Nat)(H:CX)(Q:QX):Prop:=Ax prog nd B (DA 3 1 0 0) [(1,a),(7,b),(8,c),(9,d)] H Q
end Lx
namespace R3
def nd (_:Nat):C:=.skip
def body:C:=.R [.Z 2 A8 0,.Z 3 SO 1,.mv 4 (.c (.bool false))] (.R [.B 5 3,.E 6 4 2,.callvp (some 7) (.s 5) [.s 6],.A 8 7,.P 8 true [9,10,11,12,13] [.D 9 3 2,.B 10 9,.mf 11 Ng [] [.s 3],.U 12 Ck [.s 10,.s 11],.Q 13 12],.N 14 8 13,.A 4 14] (.ret))
def rs:List RV:=[.t 4]
attribute [push_cast] nd body
theorem ok:Bd prog Km nd body 2 rs=true:=by kernel_rfl
end R3
namespace K0
def nd (_:Nat):C:=.skip
def body:C:=.R [.Z 2 A8 0,.mv 3 (.c (.bool false))] (.R [.D 4 0 2,.B 5 4,.X 6 .geq 5 0,.A 7 6,.P 7 true [8,9,10,11,12] [.D 8 0 2,.B 9 8,.B 10 1,.Y 11 10,.V 12 .leq 9 11],.N 13 7 12,.A 3 13] (.ret))
def rs:List RV:=[.t 3]
attribute [push_cast] nd body
theorem ok:Bd prog Kq nd body 2 rs=true:=by kernel_rfl
end K0
namespace Nx
def nd (_:Nat):C:=.skip
def body:C:=.R [.Z 2 A8 0,.mv 3 (.c (.bool false))] (.R [.B 4 1,.E 5 4 2,.U 6 LX [.s 4,.s 5],.A 3 6] (.ret))
def rs:List RV:=[.t 3]
attribute [push_cast] nd body
theorem ok:Bd prog Kz nd body 2 rs=true:=by kernel_rfl
end Nx
namespace DN
def nd:Nat->C
 | 0=>.R [.D 45 3 3,.B 46 45,.Y 47 46,.X 48 .leq 47 8,.A 49 48,.P 49 true [50,51,52] [.D 50 1 3,.B 51 50,.U 52 DQ [.s 51,(.c (.bool true))]],.N 53 49 52,.A 4 53] (.ret)
 | _=>.skip
def body:C:=.R [.Z 3 A8 1,.mv 4 (.c (.bool false))] (.seq (.blk 0 (.R [.D 6 0 3,.B 7 6,.X 8 .gtr 7 0,.A 5 8] (.W 5 (.seq (.dr [0,1,2,3,4,5,6,7,8,9,10,11,12,13,14,15,16,17,18,19,20,21,22,23,24] [.D 9 1 3,.B 10 9,.bin 11 .eql (.s 10) (.c (.str [])),.A 12 11,.P 12 true [13] [.D 13 2 3],.P 12 true [14] [.B 14 13],.P 12 true [15] [.Q 15 14],.N 16 12 15,.A 17 16,.P 17 true [18] [.D 18 3 3],.P 17 true [19] [.B 19 18],.P 17 true [20] [.Y 20 19],.P 17 true [21] [.A 21 0],.P 17 true [22] [.D 22 0 3],.P 17 true [23] [.B 23 22],.P 17 true [24] [.X 24 .sub 23 1],.P 17 true [25] [.G 25 6 21 24],.P 17 true [26] [.D 26 0 25],.P 17 true [27] [.E 27 3 26],.P 17 true [28] [.bs 28 3 [.s 27]],.P 17 true [29] [.U 29 Di [.s 28]],.P 17 true [30] [.Y 30 29],.P 17 true [31] [.V 31 .eql 20 30],.N 32 17 31,.A 4 32]) (.ret)) (.R [.D 34 2 3,.B 35 34,.A 33 35] (.W 33 (.R [.D 36 3 3,.B 37 36,.Y 38 37,.X 39 .eql 38 0,.A 40 39,.P 40 true [41,42,43] [.D 41 1 3,.B 42 41,.U 43 DQ [.s 42,(.c (.bool false))]],.N 44 40 43,.A 4 44] (.ret)) (.skip)))))) (.n 0))
def rs:List RV:=[.t 4]
attribute [push_cast] nd body
theorem ok:Bd prog LX nd body 2 rs=true:=by kernel_rfl
end DN
namespace Mr
def nd:Nat->C
 | 0=>.R [.E 39 3 7,.K 3 6 39] (.ret)
 | 1=>.gh [.ks 3 [1,2,6,7,23,24,25]] (.m 3)
 | 2=>.seq (.blk 1 (.R [.G 27 3 23 25,.E 28 3 27,.al 9 A3 Co,.L 9 3 28] (.dr [0,1,2,3,4,5,6,7,8,9] [.D 29 2 7,.B 30 29,.E 31 3 9,.A 32 1,.A 33 2,.U 34 Lc [.s 31,.s 32,.s 33],.bs 35 3 [.s 34],.app 36 A3 3 48 (.s 30) (.s 35),.D 37 2 7,.K 1 37 36]))) (.reg [.X 38 .add 25 1,.A 25 38])
 | 3=>.R [.V 26 .lss 25 24] (.seq (.W 26 (.skip) (.exit 0)) (.n 2))
 | 4=>.R [.D 19 0 3,.B 20 19,.bd 21 [.str [],.bool false,.nil] [(0,1,(.s 20))],.al 7 A3 [.str [],.bool false,.nil],.K 3 7 21,.ono A3 3 2 (.s 7)] (.seq (.R [.D 22 2 3,.B 23 22,.Y 24 23,.mv 25 (.i 0)] (.J 0 1)) (.n 0))
 | _=>.skip
def body:C:=.R [.Z 3 A3 0,.al 6 A3 Co] (.seq (.R [.D 10 1 3,.B 11 10] (.W 11 (.R [.A 12 2,.A 13 1,.D 14 0 3,.B 15 14,.U 16 AY [.s 13,.s 15],.G 17 3 12 16,.E 18 3 17,.K 3 6 18] (.ret)) (.skip))) (.n 4))
def rs:List RV:=[.a 6 3]
attribute [push_cast] nd body
theorem ok:Bd prog Lc nd body 3 rs=true:=by kernel_rfl
abbrev L3 (a b c d e f g:V)(B:Nat)(H:CX)(Q:QX):Prop:=Ax prog nd B (DA 3 1 0 0) [(1,a),(2,b),(6,c),(7,d),(23,e),(24,f),(25,g)] H Q
end Mr
namespace RM
def nd (_:Nat):C:=.skip
def body:C:=.R [.Z 3 A3 0,.mv 4 (.c (.bool false))] (.R [.B 5 1,.X 6 .sub 5 1,.K 1 1 6] (.R [.B 7 1,.X 8 .lss 7 0,.A 9 8,.P 9 false [10,11,12,13] [.D 10 2 3,.B 11 10,.B 12 2,.call (some 13) AO [.s 11,.s 12]],.M 14 9 13,.A 4 14] (.ret)))
def rs:List RV:=[.t 4]
attribute [push_cast] nd body
theorem ok:Bd prog DE nd body 3 rs=true:=by kernel_rfl
end RM
namespace Cv
def nd:Nat->C
 | 0=>.R [.B 81 4,.K 1 2 81,.st 1 (.s 3) (.i 0)] (.ret)
 | 1=>.gh [.ks 4 [1,2,3,4,8,9,15,16,17]] (.m 11)
 | 2=>.gh [.ks 1 [2,3,4,5,6,8,9,39,40,41]] (.m 7)
 | 3=>.R [.B 76 4,.Y 77 76,.X 78 .gtr 77 4096] (.W 78 (.R [.st 1 (.s 2) (.c (.sl 12 [])),.st 1 (.s 3) (.i 3)] (.ret)) (.skip))
 | 4=>.seq (.R [.A 67 13] (.W 67 (.R [.B 68 5,.A 69 10,.D 70 0 12,.K 1 70 68,.D 71 1 12,.K 1 71 69] (.reg [.B 72 4,.E 73 12 12,.bs 74 12 [.s 73],.app 75 DY 12 184 (.s 72) (.s 74),.K 1 4 75])) (.skip))) (.n 3)
 | 5=>.seq (.dr [0,1,2,3,4,5,6,7,8,9,10,11,12,13] [.E 55 6 6,.E 56 6 11,.U 57 Kx [.s 56],.A 58 8,.E 59 3 9,.U 60 Nw [.s 55,.s 57,.s 58,.s 59],.A 54 60,.F 61 54 0,.F 62 54 1,.F 63 54 2,.al 12 DY [.int .i64 0,.int .i64 0,.sl 1 [],.str [],.bool false,.sl 3 [],.str [],.bool false,.sl 3 [],.str [],.bool false,.sl 3 []],.K 12 12 61,.A 13 62,.A 14 63]) (.seq (.R [.A 64 14,.J 65 64] (.W 65 (.R [.A 66 14,.st 1 (.s 2) (.c (.sl 12 [])),.K 1 3 66] (.ret)) (.skip))) (.n 4))
 | 6=>.seq (.blk 5 (.R [.A 43 41,.G 44 6 39 41,.E 45 6 44,.al 11 BY [.str [],.bool false,.sl 3 [],.str [],.bool false,.sl 3 []],.A 10 43,.L 11 6 45] (.seq (.R [.B 46 5,.A 47 10,.V 48 .eql 46 47,.A 49 48,.P 49 true [50,51,52] [.A 50 8,.Y 51 50,.X 52 .eql 51 0],.N 53 49 52] (.W 53 (.exit 5) (.skip))) (.n 5)))) (.reg [.X 79 .add 41 1,.A 41 79])
 | 7=>.R [.V 42 .lss 41 40] (.seq (.W 42 (.skip) (.exit 4)) (.n 6))
 | 8=>.R [.B 39 1,.Y 40 39,.mv 41 (.i 0)] (.J 4 2)
 | 9=>.blk 3 (.seq (.R [.D 37 1 9,.B 38 37] (.W 38 (.exit 3) (.skip))) (.n 8))
 | 10=>.seq (.blk 1 (.R [.A 19 17,.G 20 6 15 17,.E 21 6 20,.al 5 F1 [.int .i64 0],.al 6 BY [.str [],.bool false,.sl 3 [],.str [],.bool false,.sl 3 []],.L 5 1 19,.K 6 6 21] (.R [.call (some 22) FF [],.A 7 22] (.seq (.dr [0,1,2,4] [.A 23 7,.D 24 0 6,.E 25 3 24,.A 27 7,.alt [([3,5,6,7,8,9],[.callv (some 26) (.s 23) [.s 25],.D 28 3 6,.E 29 3 28,.callv (some 30) (.s 27) [.s 29],.bd 31 [.str [],.bool false,.sl 3 [],.str [],.bool false,.sl 3 []] [(0,3,(.s 26)),(3,3,(.s 30))],.K 6 6 31]),([5],[.D 28 3 6,.alt [([3,6,7,8,9],[.callv (some 26) (.s 23) [.s 25],.E 29 3 28,.callv (some 30) (.s 27) [.s 29],.bd 31 [.str [],.bool false,.sl 3 [],.str [],.bool false,.sl 3 []] [(0,3,(.s 26)),(3,3,(.s 30))],.K 6 6 31]),([6,3,7,8,9],[.E 29 3 28,.callv (some 26) (.s 23) [.s 25],.callv (some 30) (.s 27) [.s 29],.bd 31 [.str [],.bool false,.sl 3 [],.str [],.bool false,.sl 3 []] [(0,3,(.s 26)),(3,3,(.s 30))],.K 6 6 31])]])]]) (.R [.D 32 0 6,.E 33 3 32,.U 34 Ie [.s 33]] (.blk 2 (.rf (.s 34) [35,36] (.R [.A 8 35] (.reg [.al 9 A3 Co,.L 9 3 36])) (.m 9)))))))) (.reg [.X 80 .add 17 1,.A 17 80])
 | 11=>.R [.V 18 .lss 17 16] (.seq (.W 18 (.skip) (.exit 0)) (.n 10))
 | _=>.skip
def body:C:=.R [.Z 1 U7 0,.al 2 Fj [.sl 12 []],.al 3 WH [.int .i64 0]] (.R [.al 4 Fj [.nil],.ono DY 12 0 (.s 4)] (.seq (.R [.B 15 1,.Y 16 15,.mv 17 (.i 0)] (.J 0 1)) (.n 0)))
def rs:List RV:=[.c 2,.c 3]
attribute [push_cast] nd body
theorem ok:Bd prog Nt nd body 1 rs=true:=by kernel_rfl
abbrev L7 (a b c d e f g h i j:V)(B:Nat)(H:CX)(Q:QX):Prop:=Ax prog nd B [.c (.m 7),.c (.loop (.n 2)),.mk 4,.mk 3] [(2,a),(3,b),(4,c),(5,d),(6,e),(8,f),(9,g),(39,h),(40,i),(41,j)] H Q
abbrev L11 (a b c d e f g h i:V)(B:Nat)(H:CX)(Q:QX):Prop:=Ax prog nd B (DA 11 1 0 0) [(1,a),(2,b),(3,c),(4,d),(8,e),(9,f),(15,g),(16,h),(17,i)] H Q
end Cv
namespace LM
def nd (_:Nat):C:=.skip
def body:C:=.R [.Z 1 BY 0,.mv 2 (.c (.bool false))] (.R [.D 3 0 1,.E 4 3 3,.U 5 JB [.s 4],.Q 6 5,.A 2 6] (.ret))
def rs:List RV:=[.t 2]
attribute [push_cast] nd body
theorem ok:Bd prog JI nd body 1 rs=true:=by kernel_rfl
end LM
namespace Me
def nd (_:Nat):C:=.skip
def body:C:=.R [.Z 1 A3 0,.mv 2 (.c (.bool false))] (.R [.E 3 3 1,.bs 4 3 [.s 3],.U 5 Di [.s 4],.mf 6 HV [] [.s 1],.U 7 Bu [.s 5,.s 6],.Q 8 7,.A 2 8] (.ret))
def rs:List RV:=[.t 2]
attribute [push_cast] nd body
theorem ok:Bd prog JB nd body 1 rs=true:=by kernel_rfl
end Me
namespace LD
def nd:Nat->C
 | 0=>.R [.mv 2 (.i 0)] (.ret)
 | 1=>.gh [.ks 0 [9,10,11]] (.m 3)
 | 2=>.seq (.blk 1 (.R [.G 13 6 9 11,.E 14 6 13,.al 4 BY [.str [],.bool false,.sl 3 [],.str [],.bool false,.sl 3 []],.L 4 6 14] (.R [.D 15 0 4,.E 16 3 15,.D 17 3 4,.E 18 3 17,.bs 19 3 [.s 16,.s 18],.U 20 LG [.s 19],.A 5 20] (.R [.A 21 5,.J 22 21] (.W 22 (.R [.A 23 5,.A 2 23] (.ret)) (.skip)))))) (.reg [.X 24 .add 11 1,.A 11 24])
 | 3=>.R [.V 12 .lss 11 10] (.seq (.W 12 (.skip) (.exit 0)) (.n 2))
 | 4=>.seq (.R [.A 9 0,.Y 10 9,.mv 11 (.i 0)] (.J 0 1)) (.n 0)
 | _=>.skip
def body:C:=.R [.mv 2 (.i 0)] (.seq (.R [.A 6 0,.Y 7 6,.X 8 .gtr 7 64] (.W 8 (.R [.mv 2 (.i 3)] (.ret)) (.skip))) (.n 4))
def rs:List RV:=[.t 2]
attribute [push_cast] nd body
theorem ok:Bd prog PE nd body 1 rs=true:=by kernel_rfl
abbrev L3 (a b c:V)(B:Nat)(H:CX)(Q:QX):Prop:=Ax prog nd B (DA 3 1 0 0) [(9,a),(10,b),(11,c)] H Q
end LD
namespace GD
def nd:Nat->C
 | 0=>.R [.A 38 4,.A 2 38,.mv 3 (.c (.bool true))] (.ret)
 | 1=>.gh [.ks 0 [4,11,12,13]] (.m 6)
 | 2=>.gh [.ks 1 [4,11,12,13,21,22,23]] (.m 4)
 | 3=>.seq (.blk 3 (.R [.G 25 3 21 23,.E 26 3 25,.al 8 A3 Co,.L 8 3 26] (.R [.E 28 3 8,.A 29 4,.U 30 JT [.s 28,.s 29],.A 27 30,.F 31 27 0,.F 32 27 1,.A 9 31,.A 10 32] (.seq (.R [.A 33 10,.Q 34 33] (.W 34 (.R [.mv 2 (.c (.sl 2 [])),.mv 3 (.c (.bool false))] (.ret)) (.skip))) (.reg [.A 35 9,.A 4 35]))))) (.reg [.X 36 .add 23 1,.A 23 36])
 | 4=>.R [.V 24 .lss 23 22] (.seq (.W 24 (.skip) (.exit 2)) (.n 3))
 | 5=>.seq (.blk 1 (.R [.G 15 6 11 13,.E 16 6 15,.al 6 BY [.str [],.bool false,.sl 3 [],.str [],.bool false,.sl 3 []],.L 6 6 16] (.R [.D 17 0 6,.E 18 3 17,.D 19 3 6,.E 20 3 19,.bs 21 3 [.s 18,.s 20],.Y 22 21,.mv 23 (.i 0)] (.J 2 2)))) (.reg [.X 37 .add 13 1,.A 13 37])
 | 6=>.R [.V 14 .lss 13 12] (.seq (.W 14 (.skip) (.exit 0)) (.n 5))
 | _=>.skip
def body:C:=.R [.mv 2 (.c (.sl 2 [])),.mv 3 (.c (.bool false))] (.R [.mv 4 (.c (.sl 2 []))] (.seq (.R [.A 11 0,.Y 12 11,.mv 13 (.i 0)] (.J 0 1)) (.n 0)))
def rs:List RV:=[.t 2,.t 3]
attribute [push_cast] nd body
theorem ok:Bd prog N8 nd body 1 rs=true:=by kernel_rfl
abbrev L4 (a b c d e f g:V)(B:Nat)(H:CX)(Q:QX):Prop:=Ax prog nd B [.c (.m 4),.c (.loop (.n 2)),.mk 2,.mk 1,.c (.reg [.X 37 .add 13 1,.A 13 37]),.c (.loop (.n 1)),.mk 0,.c (.n 0)] [(4,a),(11,b),(12,c),(13,d),(21,e),(22,f),(23,g)] H Q
abbrev L6 (a b c d:V)(B:Nat)(H:CX)(Q:QX):Prop:=Ax prog nd B (DA 6 1 0 0) [(4,a),(11,b),(12,c),(13,d)] H Q
end GD
namespace LF
def nd:Nat->C
 | 0=>.R [.mv 4 (.c (.bool true))] (.ret)
 | 1=>.gh [.ks 0 [3,9,10,11]] (.m 3)
 | 2=>.seq (.blk 1 (.R [.G 13 1 9 11,.B 14 13,.A 6 14] (.R [.E 15 3 3,.A 16 6,.U 17 Kj [.s 15,.s 16],.X 18 .eql 17 0] (.W 18 (.R [.mv 4 (.c (.bool false))] (.ret)) (.skip))))) (.reg [.X 19 .add 11 1,.A 11 19])
 | 3=>.R [.V 12 .lss 11 10] (.seq (.W 12 (.skip) (.exit 0)) (.n 2))
 | _=>.skip
def body:C:=.R [.Z 2 A3 0,.Z 3 A3 1,.mv 4 (.c (.bool false))] (.seq (.R [.E 7 3 2,.bs 8 3 [.s 7],.U 9 M5 [.s 8],.Y 10 9,.mv 11 (.i 0)] (.J 0 1)) (.n 0))
def rs:List RV:=[.t 4]
attribute [push_cast] nd body
theorem ok:Bd prog P3 nd body 2 rs=true:=by kernel_rfl
abbrev L3 (a b c d:V)(B:Nat)(H:CX)(Q:QX):Prop:=Ax prog nd B (DA 3 1 0 0) [(3,a),(9,b),(10,c),(11,d)] H Q
end LF
namespace On
def nd:Nat->C
 | 0=>.R [.E 97 3 18,.U 98 Kd [.s 97,(.c (.sl 1 []))],.U 99 IA [.s 98,(.c (.str [120]))],.A 20 99] (.seq (.dr [0,1,2,3,4,5,6,7,8,9,10,11,12,13,14,15,16,17,18] [.A 100 1,.A 101 2,.A 102 3,.A 103 20,.E 104 3 18,.U 105 CQ [.s 103,.s 104],.A 106 20,.A 107 15,.D 108 3 11,.E 109 3 108,.U 110 CQ [.s 107,.s 109],.U 111 CQ [.s 106,.s 110],.A 112 20,.E 113 3 19,.U 114 CQ [.s 112,.s 113],.bd 115 [.int .i64 0,.int .i64 0,.sl 1 [],.str [],.bool false,.sl 3 [],.str [],.bool false,.sl 3 [],.str [],.bool false,.sl 3 []] [(0,1,(.s 100)),(1,1,(.s 101)),(2,1,(.s 102)),(3,3,(.s 105)),(6,3,(.s 111)),(9,3,(.s 114))],.K 12 8 115,.mv 9 (.c (.bool true)),.mv 10 (.i 0)]) (.ret))
 | 1=>.R [.A 82 15,.D 83 0 11,.E 84 3 83,.U 85 CQ [.s 82,.s 84],.al 18 A3 Co,.L 18 3 85] (.seq (.dr [0,1,2,3,4,5,6,7,8] [.E 86 3 18,.A 87 3,.A 88 15,.D 89 3 12,.E 90 3 89,.U 91 CQ [.s 88,.s 90],.U 92 QQ [.s 86,.s 87,.s 91],.al 19 A3 Co,.L 19 3 92]) (.seq (.R [.E 93 3 19,.U 94 Qa [.s 93],.Q 95 94] (.W 95 (.R [.bd 96 [.int .i64 0,.int .i64 0,.sl 1 [],.str [],.bool false,.sl 3 [],.str [],.bool false,.sl 3 [],.str [],.bool false,.sl 3 []] [],.K 12 8 96,.mv 9 (.c (.bool false)),.mv 10 (.i 3)] (.ret)) (.skip))) (.n 0)))
 | 2=>.R [.bd 80 [.int .i64 0,.int .i64 0,.sl 1 [],.str [],.bool false,.sl 3 [],.str [],.bool false,.sl 3 [],.str [],.bool false,.sl 3 []] [],.A 81 17,.K 12 8 80,.mv 9 (.c (.bool false)),.A 10 81] (.ret)
 | _=>.skip
def body:C:=.R [.al 8 DY [.int .i64 0,.int .i64 0,.sl 1 [],.str [],.bool false,.sl 3 [],.str [],.bool false,.sl 3 [],.str [],.bool false,.sl 3 []],.mv 9 (.c (.bool false)),.mv 10 (.i 0)] (.seq (.dr [0,1,2,3,4,5,6,7,8,9] [.A 21 0,.A 22 1,.G 23 6 21 22,.E 24 6 23,.U 25 JS [.s 24,(.c (.str [120]))],.A 26 0,.A 27 2,.G 28 6 26 27,.E 29 6 28,.U 30 JS [.s 29,(.c (.str [121]))],.alt [([10,11,12,13],[.al 11 BY [.str [],.bool false,.sl 3 [],.str [],.bool false,.sl 3 []],.al 12 BY [.str [],.bool false,.sl 3 [],.str [],.bool false,.sl 3 []],.L 11 6 25,.L 12 6 30]),([11,10,12,13],[.al 12 BY [.str [],.bool false,.sl 3 [],.str [],.bool false,.sl 3 []],.al 11 BY [.str [],.bool false,.sl 3 [],.str [],.bool false,.sl 3 []],.L 11 6 25,.L 12 6 30])]]) (.R [.D 32 0 11,.E 33 3 32,.A 34 3,.U 35 TX [.s 33,.s 34],.A 31 35,.F 36 31 0,.F 37 31 1,.al 13 A3 Co,.L 13 3 36,.A 14 37] (.R [.E 39 3 13,.D 40 0 12,.E 41 3 40,.bd 42 [.str [],.bool false,.sl 3 [],.str [],.bool false,.sl 3 []] [(0,3,(.s 39)),(3,3,(.s 41))],.bs 43 6 [.s 42],.U 44 IR [.s 43],.A 38 44,.F 45 38 0,.F 46 38 1,.F 47 38 2,.A 15 45,.A 16 46,.A 17 47] (.seq (.R [.A 48 17,.J 49 48,.A 50 49,.P 50 false [51,52] [.A 51 16,.Q 52 51],.M 53 50 52,.A 54 53,.P 54 false [55,56,57,58,59] [.A 55 15,.D 56 0 11,.E 57 3 56,.U 58 Mk [.s 55,.s 57],.Q 59 58],.M 60 54 59,.A 61 60,.P 61 false [62,63,64,65,66] [.A 62 15,.D 63 3 11,.E 64 3 63,.U 65 Mk [.s 62,.s 64],.Q 66 65],.M 67 61 66,.A 68 67,.P 68 false [69,70,71,72,73] [.A 69 15,.D 70 3 12,.E 71 3 70,.U 72 Mk [.s 69,.s 71],.Q 73 72],.M 74 68 73] (.W 74 (.seq (.R [.A 75 17,.X 76 .eql 75 0,.A 77 76,.P 77 true [78] [.A 78 16],.N 79 77 78] (.W 79 (.reg [.mv 17 (.i 3)]) (.skip))) (.n 2)) (.skip))) (.n 1)))))
def rs:List RV:=[.a 8 12,.t 9,.t 10]
attribute [push_cast] nd body
theorem ok:Bd prog Xa nd body 4 rs=true:=by kernel_rfl
end On
namespace Jo
def nd:Nat->C
 | 0=>.R [.mv 2 (.c (.bool true))] (.ret)
 | 1=>.gh [.ks 0 [1,7,8,9]] (.m 3)
 | 2=>.seq (.blk 1 (.R [.G 11 1 7 9,.B 12 11,.A 4 12] (.R [.E 13 3 1,.A 14 4,.U 15 Kj [.s 13,.s 14],.X 16 .gtr 15 1] (.W 16 (.R [.mv 2 (.c (.bool false))] (.ret)) (.skip))))) (.reg [.X 17 .add 9 1,.A 9 17])
 | 3=>.R [.V 10 .lss 9 8] (.seq (.W 10 (.skip) (.exit 0)) (.n 2))
 | _=>.skip
def body:C:=.R [.Z 1 A3 0,.mv 2 (.c (.bool false))] (.seq (.R [.E 5 3 1,.bs 6 3 [.s 5],.U 7 M5 [.s 6],.Y 8 7,.mv 9 (.i 0)] (.J 0 1)) (.n 0))
def rs:List RV:=[.t 2]
attribute [push_cast] nd body
theorem ok:Bd prog Of nd body 1 rs=true:=by kernel_rfl
abbrev L3 (a b c d:V)(B:Nat)(H:CX)(Q:QX):Prop:=Ax prog nd B (DA 3 1 0 0) [(1,a),(7,b),(8,c),(9,d)] H Q
end Jo
namespace NU
def nd:Nat->C
 | 0=>.R [.A 20 1,.bd 21 Co [(0,1,(.s 20)),(1,1,(.c (.bool true)))],.K 3 4 21] (.ret)
 | 1=>.gh [.ks 1 [1,4,7,8,9]] (.m 3)
 | 2=>.seq (.blk 1 (.R [.G 11 4 7 9,.E 12 4 11,.al 6 Cc [.str [],.str [],.bool false,.sl 3 []],.L 6 4 12] (.R [.D 13 0 6,.B 14 13,.A 15 1,.V 16 .eql 14 15] (.W 16 (.R [.D 17 1 6,.E 18 3 17,.K 3 4 18] (.ret)) (.skip))))) (.reg [.X 19 .add 9 1,.A 9 19])
 | 3=>.R [.V 10 .lss 9 8] (.seq (.W 10 (.skip) (.exit 0)) (.n 2))
 | _=>.skip
def body:C:=.R [.al 4 A3 Co] (.seq (.R [.A 7 0,.Y 8 7,.mv 9 (.i 0)] (.J 0 1)) (.n 0))
def rs:List RV:=[.a 4 3]
attribute [push_cast] nd body
theorem ok:Bd prog I3 nd body 2 rs=true:=by kernel_rfl
abbrev L3 (a b c d e:V)(B:Nat)(H:CX)(Q:QX):Prop:=Ax prog nd B (DA 3 1 0 0) [(1,a),(4,b),(7,c),(8,d),(9,e)] H Q
end NU
namespace HO
def nd (_:Nat):C:=.skip
def body:C:=.R [.mv 4 (.c (.str []))] (.R [.A 5 0,.A 6 1,.U 7 EL [.s 5,.s 6],.A 4 7] (.ret))
def rs:List RV:=[.t 4]
attribute [push_cast] nd body
theorem ok:Bd prog Gs nd body 2 rs=true:=by kernel_rfl
end HO
namespace CU
def nd (_:Nat):C:=.skip
def body:C:=.R [.mv 4 (.c (.bool false))] (.R [.A 5 0,.A 6 1,.U 7 Da [.s 5,.s 6],.X 8 .geq 7 0,.A 4 8] (.ret))
def rs:List RV:=[.t 4]
attribute [push_cast] nd body
theorem ok:Bd prog BQ nd body 2 rs=true:=by kernel_rfl
end CU
namespace Nu
def nd (_:Nat):C:=.skip
def body:C:=.R [.mv 2 (.c (.bool false))] (.R [.A 3 0,.U 4 Np [.s 3],.Q 5 4,.A 2 5] (.ret))
def rs:List RV:=[.t 2]
attribute [push_cast] nd body
theorem ok:Bd prog HF nd body 1 rs=true:=by kernel_rfl
end Nu
namespace QD
def nd (_:Nat):C:=.skip
def body:C:=.R [.mv 2 (.c (.bool false))] (.R [.A 3 0,.bin 4 .geq (.s 3) (.c (.int .u8 97)),.A 5 4,.P 5 true [6,7] [.A 6 0,.bin 7 .leq (.s 6) (.c (.int .u8 122))],.N 8 5 7,.A 9 8,.P 9 false [10,11,12] [.A 10 0,.bin 11 .geq (.s 10) (.c (.int .u8 65)),.A 12 11],.P 12 true [13,14] [.A 13 0,.bin 14 .leq (.s 13) (.c (.int .u8 90))],.P 9 false [15] [.N 15 12 14],.M 16 9 15,.A 17 16,.P 17 false [18,19,20] [.A 18 0,.bin 19 .geq (.s 18) (.c (.int .u8 48)),.A 20 19],.P 20 true [21,22] [.A 21 0,.bin 22 .leq (.s 21) (.c (.int .u8 57))],.P 17 false [23] [.N 23 20 22],.M 24 17 23,.A 25 24,.P 25 false [26,27] [.A 26 0,.bin 27 .eql (.s 26) (.c (.int .u8 95))],.M 28 25 27,.A 29 28,.P 29 false [30,31] [.A 30 0,.bin 31 .eql (.s 30) (.c (.int .u8 39))],.M 32 29 31,.A 2 32] (.ret))
def rs:List RV:=[.t 2]
attribute [push_cast] nd body
theorem ok:Bd prog Np nd body 1 rs=true:=by kernel_rfl
end QD
namespace BK
def nd:Nat->C
 | 0=>.R [.mv 4 (.i (-1))] (.ret)
 | 1=>.gh [.ks 0 [0,1,7,8]] (.m 3)
 | 2=>.seq (.blk 1 (.R [.A 10 8,.A 5 10] (.R [.A 11 1,.A 12 0,.A 13 5,.G 14 3 12 13,.E 15 3 14,.callvp (some 16) (.s 11) [.s 15]] (.W 16 (.R [.A 17 5,.A 4 17] (.ret)) (.skip))))) (.reg [.X 18 .add 8 1,.A 8 18])
 | 3=>.R [.V 9 .lss 8 7] (.seq (.W 9 (.skip) (.exit 0)) (.n 2))
 | _=>.skip
def body:C:=.R [.mv 4 (.i 0)] (.seq (.R [.A 6 0,.Y 7 6,.mv 8 (.i 0)] (.J 0 1)) (.n 0))
def rs:List RV:=[.t 4]
attribute [push_cast] nd body
theorem ok:Bd prog Bh nd body 2 rs=true:=by kernel_rfl
abbrev L3 (a b c d:V)(B:Nat)(H:CX)(Q:QX):Prop:=Ax prog nd B (DA 3 1 0 0) [(0,a),(1,b),(7,c),(8,d)] H Q
end BK
namespace O8
def nd (_:Nat):C:=.skip
def body:C:=.R [.mv 2 (.c (.bool false))] (.R [.A 3 0,.bin 4 .neq (.s 3) (.c (.str [])),.A 5 4,.P 5 true [6,7,8,9,10,11] [.A 6 0,.A 7 0,.lens 8 (.s 7),.X 9 .sub 8 1,.ix 10 (.s 6) (.s 9),.bin 11 .eql (.s 10) (.c (.int .u8 35))],.N 12 5 11,.A 2 12] (.ret))
def rs:List RV:=[.t 2]
attribute [push_cast] nd body
theorem ok:Bd prog Lf nd body 1 rs=true:=by kernel_rfl
end O8
namespace Ki
def nd:Nat->C
 | 0=>.R [.mv 2 (.c (.bool true))] (.ret)
 | 1=>.gh [.ks 0 [0,5,6]] (.m 3)
 | 2=>.seq (.blk 1 (.R [.A 8 6,.A 3 8] (.R [.A 9 0,.A 10 3,.ix 11 (.s 9) (.s 10),.U 12 OW [.s 11],.Q 13 12] (.W 13 (.R [.mv 2 (.c (.bool false))] (.ret)) (.skip))))) (.reg [.X 14 .add 6 1,.A 6 14])
 | 3=>.R [.V 7 .lss 6 5] (.seq (.W 7 (.skip) (.exit 0)) (.n 2))
 | _=>.skip
def body:C:=.R [.mv 2 (.c (.bool false))] (.seq (.R [.A 4 0,.lens 5 (.s 4),.mv 6 (.i 0)] (.J 0 1)) (.n 0))
def rs:List RV:=[.t 2]
attribute [push_cast] nd body
theorem ok:Bd prog JR nd body 1 rs=true:=by kernel_rfl
abbrev L3 (a b c:V)(B:Nat)(H:CX)(Q:QX):Prop:=Ax prog nd B (DA 3 1 0 0) [(0,a),(5,b),(6,c)] H Q
end Ki
namespace NZ
def nd:Nat->C
 | 0=>.R [.mv 4 (.c (.bool false))] (.ret)
 | 1=>.gh [.ks 0 [1,7,8,9]] (.m 3)
 | 2=>.seq (.blk 1 (.R [.G 11 4 7 9,.E 12 4 11,.al 6 Cc [.str [],.str [],.bool false,.sl 3 []],.L 6 4 12] (.R [.D 13 0 6,.B 14 13,.A 15 1,.V 16 .eql 14 15] (.W 16 (.R [.mv 4 (.c (.bool true))] (.ret)) (.skip))))) (.reg [.X 17 .add 9 1,.A 9 17])
 | 3=>.R [.V 10 .lss 9 8] (.seq (.W 10 (.skip) (.exit 0)) (.n 2))
 | _=>.skip
def body:C:=.R [.mv 4 (.c (.bool false))] (.seq (.R [.A 7 0,.Y 8 7,.mv 9 (.i 0)] (.J 0 1)) (.n 0))
def rs:List RV:=[.t 4]
attribute [push_cast] nd body
theorem ok:Bd prog ME nd body 2 rs=true:=by kernel_rfl
abbrev L3 (a b c d:V)(B:Nat)(H:CX)(Q:QX):Prop:=Ax prog nd B (DA 3 1 0 0) [(1,a),(7,b),(8,c),(9,d)] H Q
end NZ
namespace PW
def nd:Nat->C
 | 0=>.seq (.dr [1,2,3,5,6,0,4,7,8,9,10,11,12,13,14] [.A 25 0,.A 26 7,.sx 27 4 (.s 25) none (some (.s 26)),.A 29 1,.E 30 3 5,.bo 24 Cc 4 [],.app 28 Cc 4 64 (.s 24) (.s 27),.bd 31 [.str [],.str [],.bool false,.sl 3 []] [(0,1,(.s 29)),(1,3,(.s 30))],.bs 32 4 [.s 31],.app 33 Cc 4 64 (.s 28) (.s 32),.A 34 0,.A 35 7,.sx 36 4 (.s 34) (some (.s 35)) none,.app 37 Cc 4 64 (.s 33) (.s 36),.A 6 37]) (.ret)
 | 1=>.gh [.ks 0 [0,1,5,7]] (.m 3)
 | 2=>.blk 1 (.reg [.A 22 7,.X 23 .add 22 1,.A 7 23])
 | 3=>.seq (.R [.A 8 7,.A 9 0,.Y 10 9,.V 11 .lss 8 10,.A 12 11,.P 12 true [13,14,15,16,17,18,19,20] [.A 13 0,.A 14 7,.G 15 4 13 14,.D 16 0 15,.B 17 16,.A 18 1,.U 19 D8 [.s 17,.s 18],.X 20 .lss 19 0],.N 21 12 20] (.W 21 (.skip) (.exit 0))) (.n 2)
 | _=>.skip
def body:C:=.R [.Z 5 A3 2,.mv 6 (.c (.sl 4 []))] (.R [.mv 7 (.i 0)] (.seq (.J 0 1) (.n 0)))
def rs:List RV:=[.t 6]
attribute [push_cast] nd body
theorem ok:Bd prog S7 nd body 3 rs=true:=by kernel_rfl
abbrev L3 (a b c d:V)(B:Nat)(H:CX)(Q:QX):Prop:=Ax prog nd B (DA 3 1 0 0) [(0,a),(1,b),(5,c),(7,d)] H Q
end PW
namespace Hw
def nd:Nat->C
 | 0=>.R [.A 19 0,.E 20 3 3,.U 21 IJ [.s 19,.s 20],.K 3 4 21,.mv 5 (.i 0)] (.ret)
 | _=>.skip
def body:C:=.R [.Z 3 A3 1,.al 4 A3 Co,.mv 5 (.i 0)] (.seq (.R [.A 7 0,.E 8 3 3,.U 9 Ja [.s 7,.s 8],.al 6 GR [.int .i64 0,.int .i64 0],.L 6 2 9] (.R [.D 10 0 6,.B 11 10,.X 12 .gtr 11 4000,.A 13 12,.P 13 false [14,15,16] [.D 14 1 6,.B 15 14,.X 16 .gtr 15 200],.M 17 13 16] (.W 17 (.R [.bd 18 Co [],.K 3 4 18,.mv 5 (.i 3)] (.ret)) (.skip)))) (.n 0))
def rs:List RV:=[.a 4 3,.t 5]
attribute [push_cast] nd body
theorem ok:Bd prog FE nd body 2 rs=true:=by kernel_rfl
end Hw
namespace NS
def nd:Nat->C
 | 0=>.R [.E 47 3 7,.K 3 6 47] (.ret)
 | 1=>.gh [.ks 3 [1,5,6,7,21,22,23]] (.m 3)
 | 2=>.seq (.blk 1 (.R [.A 25 23,.G 26 3 21 23,.E 27 3 26,.al 9 A3 Co,.A 8 25,.K 3 9 27] (.seq (.R [.A 28 8,.A 29 1,.ia 30 1 (.s 29) (.i 0),.B 31 30,.V 32 .eql 28 31] (.W 32 (.dr [0,1,2,3,4,5] [.E 33 3 9,.A 34 1,.sx 35 1 (.s 34) (some (.i 1)) none,.E 36 3 5,.U 37 OV [.s 33,.s 35,.s 36],.K 3 9 37]) (.reg [.E 38 3 9,.U 39 HY [.s 38],.K 3 9 39]))) (.reg [.D 40 2 7,.B 41 40,.E 42 3 9,.bs 43 3 [.s 42],.app 44 A3 3 48 (.s 41) (.s 43),.D 45 2 7,.K 1 45 44])))) (.reg [.X 46 .add 23 1,.A 23 46])
 | 3=>.R [.V 24 .lss 23 22] (.seq (.W 24 (.skip) (.exit 0)) (.n 2))
 | 4=>.R [.D 15 0 3,.B 16 15,.D 17 1 3,.B 18 17,.bd 19 [.str [],.bool false,.nil] [(0,1,(.s 16)),(1,1,(.s 18))],.al 7 A3 [.str [],.bool false,.nil],.K 3 7 19,.ono A3 3 2 (.s 7)] (.seq (.R [.D 20 2 3,.B 21 20,.Y 22 21,.mv 23 (.i 0)] (.J 0 1)) (.n 0))
 | _=>.skip
def body:C:=.R [.Z 3 A3 0,.Z 5 A3 2,.al 6 A3 Co] (.seq (.R [.A 10 1,.Y 11 10,.X 12 .eql 11 0] (.W 12 (.R [.E 13 3 5,.U 14 HY [.s 13],.K 3 6 14] (.ret)) (.skip))) (.n 4))
def rs:List RV:=[.a 6 3]
attribute [push_cast] nd body
theorem ok:Bd prog OV nd body 3 rs=true:=by kernel_rfl
abbrev L3 (a b c d e f g:V)(B:Nat)(H:CX)(Q:QX):Prop:=Ax prog nd B (DA 3 1 0 0) [(1,a),(5,b),(6,c),(7,d),(21,e),(22,f),(23,g)] H Q
end NS
namespace NO
def nd:Nat->C
 | 0=>.R [.A 43 7,.A 44 8,.X 45 .add 44 1,.A 4 43,.A 5 45] (.ret)
 | 1=>.gh [.ks 0 [0,7,8,24,25,26]] (.m 3)
 | 2=>.seq (.blk 1 (.R [.G 28 3 24 26,.E 29 3 28,.al 10 A3 Co,.L 10 3 29] (.R [.A 31 0,.E 32 3 10,.U 33 MX [.s 31,.s 32],.A 30 33,.F 34 30 0,.F 35 30 1,.A 11 34,.A 12 35] (.reg [.A 36 7,.A 37 11,.V 38 .add 36 37,.A 39 8,.A 40 12,.mx 41 (.s 39) (.s 40),.A 7 38,.A 8 41])))) (.reg [.X 42 .add 26 1,.A 26 42])
 | 3=>.R [.V 27 .lss 26 25] (.seq (.W 27 (.skip) (.exit 0)) (.n 2))
 | 4=>.R [.mv 7 (.i 1),.mv 8 (.i 0)] (.seq (.R [.D 23 2 3,.B 24 23,.Y 25 24,.mv 26 (.i 0)] (.J 0 1)) (.n 0))
 | _=>.skip
def body:C:=.R [.Z 3 A3 1,.mv 4 (.i 0),.mv 5 (.i 0)] (.seq (.R [.D 13 1 3,.B 14 13] (.W 14 (.R [.A 15 0,.D 16 0 3,.B 17 16,.U 18 I3 [.s 15,.s 17],.al 6 A3 Co,.L 6 3 18] (.seq (.dr [0,1,2,3,4,5] [.E 19 3 6,.U 20 Jz [.s 19],.E 21 3 6,.U 22 I5 [.s 21],.A 4 20,.A 5 22]) (.ret))) (.skip))) (.n 4))
def rs:List RV:=[.t 4,.t 5]
attribute [push_cast] nd body
theorem ok:Bd prog MX nd body 2 rs=true:=by kernel_rfl
abbrev L3 (a b c d e f:V)(B:Nat)(H:CX)(Q:QX):Prop:=Ax prog nd B (DA 3 1 0 0) [(0,a),(7,b),(8,c),(24,d),(25,e),(26,f)] H Q
end NO
namespace TH
def nd:Nat->C
 | 0=>.R [.bo 12 A3 3 [],.op (.e2r 12),.D 13 2 3,.B 14 13,.apr 15 A3 3 48 (.s 12) (.s 14),.A 7 15] (.seq (.dr [0,1,2,3,4,5,6,7,8,9,10,11,12,13,14,15] [.A 16 7,.A 17 1,.ia 18 1 (.s 17) (.i 0),.B 19 18,.A 20 7,.A 21 1,.ia 22 1 (.s 21) (.i 0),.B 23 22,.G 24 3 20 23,.E 25 3 24,.A 26 1,.sx 27 1 (.s 26) (some (.i 1)) none,.E 28 3 5,.U 29 QQ [.s 25,.s 27,.s 28],.G 30 3 16 19,.K 3 30 29]) (.R [.D 31 0 3,.B 32 31,.frz 7,.A 33 7,.bd 34 Co [(0,1,(.s 32)),(2,1,(.s 33))],.K 3 6 34] (.ret)))
 | _=>.skip
def body:C:=.R [.Z 3 A3 0,.Z 5 A3 2,.al 6 A3 Co] (.seq (.R [.A 8 1,.Y 9 8,.X 10 .eql 9 0] (.W 10 (.R [.E 11 3 5,.K 3 6 11] (.ret)) (.skip))) (.n 0))
def rs:List RV:=[.a 6 3]
attribute [push_cast] nd body
theorem ok:Bd prog QQ nd body 3 rs=true:=by kernel_rfl
end TH
namespace PO
def nd:Nat->C
 | 0=>.R [.mv 2 (.i 0)] (.ret)
 | 1=>.gh [.ks 0 [6,7,8]] (.m 3)
 | 2=>.seq (.blk 1 (.R [.G 10 3 6 8,.E 11 3 10,.al 4 A3 Co,.L 4 3 11] (.R [.E 12 3 4,.U 13 P2 [.s 12],.A 5 13] (.R [.A 14 5,.J 15 14] (.W 15 (.R [.A 16 5,.A 2 16] (.ret)) (.skip)))))) (.reg [.X 17 .add 8 1,.A 8 17])
 | 3=>.R [.V 9 .lss 8 7] (.seq (.W 9 (.skip) (.exit 0)) (.n 2))
 | _=>.skip
def body:C:=.R [.mv 2 (.i 0)] (.seq (.R [.A 6 0,.Y 7 6,.mv 8 (.i 0)] (.J 0 1)) (.n 0))
def rs:List RV:=[.t 2]
attribute [push_cast] nd body
theorem ok:Bd prog SG nd body 1 rs=true:=by kernel_rfl
abbrev L3 (a b c:V)(B:Nat)(H:CX)(Q:QX):Prop:=Ax prog nd B (DA 3 1 0 0) [(6,a),(7,b),(8,c)] H Q
end PO
namespace IU
def nd (_:Nat):C:=.skip
def body:C:=.R [.mv 4 (.c (.bool false))] (.R [.A 5 0,.A 6 1,.U 7 Dp [.s 5,.s 6],.A 4 7] (.ret))
def rs:List RV:=[.t 4]
attribute [push_cast] nd body
theorem ok:Bd prog Hn nd body 2 rs=true:=by kernel_rfl
end IU
namespace BM
def nd:Nat->C
 | 0=>.R [.mv 4 (.i (-1))] (.ret)
 | 1=>.gh [.ks 0 [0,1,7,8]] (.m 3)
 | 2=>.seq (.blk 1 (.R [.A 10 8,.A 5 10] (.R [.A 11 1,.A 12 0,.A 13 5,.G 14 6 12 13,.E 15 6 14,.callvp (some 16) (.s 11) [.s 15]] (.W 16 (.R [.A 17 5,.A 4 17] (.ret)) (.skip))))) (.reg [.X 18 .add 8 1,.A 8 18])
 | 3=>.R [.V 9 .lss 8 7] (.seq (.W 9 (.skip) (.exit 0)) (.n 2))
 | _=>.skip
def body:C:=.R [.mv 4 (.i 0)] (.seq (.R [.A 6 0,.Y 7 6,.mv 8 (.i 0)] (.J 0 1)) (.n 0))
def rs:List RV:=[.t 4]
attribute [push_cast] nd body
theorem ok:Bd prog Dd nd body 2 rs=true:=by kernel_rfl
abbrev L3 (a b c d:V)(B:Nat)(H:CX)(Q:QX):Prop:=Ax prog nd B (DA 3 1 0 0) [(0,a),(1,b),(7,c),(8,d)] H Q
end BM
namespace Cl
def nd (_:Nat):C:=.skip
def body:C:=.R [.mv 4 (.c (.bool false))] (.R [.A 5 0,.A 6 1,.U 7 Cs [.s 5,.s 6],.X 8 .geq 7 0,.A 4 8] (.ret))
def rs:List RV:=[.t 4]
attribute [push_cast] nd body
theorem ok:Bd prog Bu nd body 2 rs=true:=by kernel_rfl
end Cl
namespace OG
def nd (_:Nat):C:=.skip
def body:C:=.R [.mv 3 (.c (.bool false))] (.R [.B 4 1,.A 5 0,.U 6 CE [.s 4,.s 5],.Q 7 6,.A 3 7] (.ret))
def rs:List RV:=[.t 3]
attribute [push_cast] nd body
theorem ok:Bd prog PV nd body 2 rs=true:=by kernel_rfl
end OG
namespace CY
def nd (_:Nat):C:=.skip
def body:C:=.R [.mv 4 (.c (.bool false))] (.R [.A 5 0,.A 6 1,.U 7 AY [.s 5,.s 6],.X 8 .geq 7 0,.A 4 8] (.ret))
def rs:List RV:=[.t 4]
attribute [push_cast] nd body
theorem ok:Bd prog CE nd body 2 rs=true:=by kernel_rfl
end CY
namespace Gu
def nd:Nat->C
 | 0=>.R [.mv 4 (.c (.bool true))] (.ret)
 | 1=>.gh [.ks 0 [0,18,19,20]] (.m 3)
 | 2=>.seq (.blk 1 (.R [.G 22 4 18 20,.E 23 4 22,.al 6 A8 Lq,.L 6 4 23] (.R [.A 24 0,.E 25 4 6,.U 26 KV [.s 24,.s 25],.Q 27 26] (.W 27 (.R [.mv 4 (.c (.bool false))] (.ret)) (.skip))))) (.reg [.X 28 .add 20 1,.A 20 28])
 | 3=>.R [.V 21 .lss 20 19] (.seq (.W 21 (.skip) (.exit 0)) (.n 2))
 | 4=>.seq (.R [.D 17 3 3,.B 18 17,.Y 19 18,.mv 20 (.i 0)] (.J 0 1)) (.n 0)
 | _=>.skip
def body:C:=.R [.Z 3 A8 1,.mv 4 (.c (.bool false))] (.seq (.R [.D 7 0 3,.B 8 7,.X 9 .lss 8 0,.A 10 9,.P 10 false [11,12,13,14,15] [.D 11 0 3,.B 12 11,.A 13 0,.Y 14 13,.V 15 .gtr 12 14],.M 16 10 15] (.W 16 (.R [.mv 4 (.c (.bool false))] (.ret)) (.skip))) (.n 4))
def rs:List RV:=[.t 4]
attribute [push_cast] nd body
theorem ok:Bd prog KV nd body 2 rs=true:=by kernel_rfl
abbrev L3 (a b c d:V)(B:Nat)(H:CX)(Q:QX):Prop:=Ax prog nd B (DA 3 1 0 0) [(0,a),(18,b),(19,c),(20,d)] H Q
end Gu
namespace Cr
def nd:Nat->C
 | 0=>.R [.mv 4 (.c (.bool true))] (.ret)
 | 1=>.gh [.ks 0 [0,56,57,58]] (.m 3)
 | 2=>.seq (.blk 2 (.R [.G 60 4 56 58,.E 61 4 60,.al 6 A8 Lq,.L 6 4 61] (.R [.A 62 0,.E 63 4 6,.U 64 Li [.s 62,.s 63],.Q 65 64] (.W 65 (.R [.mv 4 (.c (.bool false))] (.ret)) (.skip))))) (.reg [.X 66 .add 58 1,.A 58 66])
 | 3=>.R [.V 59 .lss 58 57] (.seq (.W 59 (.skip) (.exit 1)) (.n 2))
 | 4=>.seq (.R [.D 55 3 3,.B 56 55,.Y 57 56,.mv 58 (.i 0)] (.J 1 1)) (.n 0)
 | _=>.skip
def body:C:=.R [.Z 3 A8 1,.mv 4 (.c (.bool false))] (.seq (.blk 0 (.R [.D 18 0 3,.B 19 18,.X 20 .gtr 19 0,.A 17 20] (.W 17 (.seq (.dr [0,1,2,3,4,5,6,7,8,9,10,11,12,13,14,15,16,17,18,19,20] [.D 21 2 3,.B 22 21,.A 23 22,.P 23 false [24] [.D 24 1 3],.P 23 false [25] [.B 25 24],.P 23 false [26] [.bin 26 .neq (.s 25) (.c (.str []))],.M 27 23 26,.A 28 27,.P 28 false [29] [.D 29 3 3],.P 28 false [30] [.B 30 29],.P 28 false [31] [.Y 31 30],.P 28 false [32] [.A 32 0],.P 28 false [33] [.D 33 0 3],.P 28 false [34] [.B 34 33],.P 28 false [35] [.X 35 .sub 34 1],.P 28 false [36] [.G 36 6 32 35],.P 28 false [37] [.E 37 6 36],.P 28 false [38] [.U 38 GG [.s 37]],.P 28 false [39] [.Y 39 38],.P 28 false [40] [.V 40 .neq 31 39],.M 41 28 40]) (.W 41 (.R [.mv 4 (.c (.bool false))] (.ret)) (.skip))) (.R [.D 43 2 3,.B 44 43,.A 42 44] (.W 42 (.R [.D 45 1 3,.B 46 45,.U 47 Ez [.s 46,(.c (.bool false))],.Q 48 47,.A 49 48,.P 49 false [50,51,52,53] [.D 50 3 3,.B 51 50,.Y 52 51,.X 53 .gtr 52 0],.M 54 49 53] (.W 54 (.R [.mv 4 (.c (.bool false))] (.ret)) (.skip))) (.R [.D 7 1 3,.B 8 7,.U 9 Ez [.s 8,(.c (.bool true))],.Q 10 9,.A 11 10,.P 11 false [12,13,14,15] [.D 12 3 3,.B 13 12,.Y 14 13,.X 15 .gtr 14 8],.M 16 11 15] (.W 16 (.R [.mv 4 (.c (.bool false))] (.ret)) (.skip)))))))) (.n 4))
def rs:List RV:=[.t 4]
attribute [push_cast] nd body
theorem ok:Bd prog Li nd body 2 rs=true:=by kernel_rfl
abbrev L3 (a b c d:V)(B:Nat)(H:CX)(Q:QX):Prop:=Ax prog nd B (DA 3 1 1 0) [(0,a),(56,b),(57,c),(58,d)] H Q
end Cr
namespace Ia
def nd:Nat->C
 | 0=>.R [.A 24 1,.A 4 24] (.ret)
 | 1=>.gh [.ks 0 [1,14,15,16]] (.m 3)
 | 2=>.seq (.blk 1 (.R [.G 18 3 14 16,.E 19 3 18,.al 6 A3 Co,.L 6 3 19] (.reg [.E 20 3 6,.A 21 1,.U 22 JQ [.s 20,.s 21],.A 1 22]))) (.reg [.X 23 .add 16 1,.A 16 23])
 | 3=>.R [.V 17 .lss 16 15] (.seq (.W 17 (.skip) (.exit 0)) (.n 2))
 | 4=>.seq (.R [.D 13 2 2,.B 14 13,.Y 15 14,.mv 16 (.i 0)] (.J 0 1)) (.n 0)
 | _=>.skip
def body:C:=.R [.Z 2 A3 0,.mv 4 (.c (.sl 1 []))] (.seq (.R [.D 7 1 2,.B 8 7] (.W 8 (.reg [.A 9 1,.D 10 0 2,.B 11 10,.U 12 KQ [.s 9,.s 11],.A 1 12]) (.skip))) (.n 4))
def rs:List RV:=[.t 4]
attribute [push_cast] nd body
theorem ok:Bd prog JQ nd body 2 rs=true:=by kernel_rfl
abbrev L3 (a b c d:V)(B:Nat)(H:CX)(Q:QX):Prop:=Ax prog nd B (DA 3 1 0 0) [(1,a),(14,b),(15,c),(16,d)] H Q
end Ia
namespace Qj
def nd (_:Nat):C:=.skip
def body:C:=.R [.Z 2 A8 0,.mv 3 (.c (.bool false))] (.R [.E 4 4 2,.B 5 1,.U 6 Km [.s 4,.s 5],.Q 7 6,.A 3 7] (.ret))
def rs:List RV:=[.t 3]
attribute [push_cast] nd body
theorem ok:Bd prog Ng nd body 2 rs=true:=by kernel_rfl
end Qj
namespace RA
def nd (_:Nat):C:=.skip
def body:C:=.R [.mv 0 (.c .nilf)] (.R [.mkm 2,.al 1 Bi [.nilm],.K 1 1 2] (.R [.mf 3 Dv [] [.s 1],.A 0 3] (.ret)))
def rs:List RV:=[.t 0]
attribute [push_cast] nd body
theorem ok:Bd prog FF nd body 0 rs=true:=by kernel_rfl
end RA
end Go.Dw
end
section
namespace Go.Dw
variable {s:List K} {B:Nat} {t:T} {H:List Ob} {Q:X->T->List Ob->Prop}
namespace EB
def nd:Nat->C
 | 0=>.R [.call (some 83) FF [],.A 20 83] (.seq (.dr [0,1,2,3,5,6,8] [.A 84 2,.U 85 BV [.s 84],.A 86 20,.lar 87 3 (.s 14),.A 89 20,.lar 90 3 (.s 16),.A 92 20,.alt [([4],[.callv (some 88) (.s 86) [.s 87],.alt [([7,9,10,11,12,13,14],[.callv (some 91) (.s 89) [.s 90],.E 93 3 18,.callv (some 94) (.s 92) [.s 93],.bd 95 [.int .i64 0,.int .i64 0,.sl 1 [],.str [],.bool false,.sl 3 [],.str [],.bool false,.sl 3 [],.str [],.bool false,.sl 3 []] [(2,1,(.s 85)),(3,3,(.s 88)),(6,3,(.s 91)),(9,3,(.s 94))],.K 12 8 95,.mv 9 (.c (.bool true)),.mv 10 (.i 0)]),([9,7,10,11,12,13,14],[.E 93 3 18,.callv (some 91) (.s 89) [.s 90],.callv (some 94) (.s 92) [.s 93],.bd 95 [.int .i64 0,.int .i64 0,.sl 1 [],.str [],.bool false,.sl 3 [],.str [],.bool false,.sl 3 [],.str [],.bool false,.sl 3 []] [(2,1,(.s 85)),(3,3,(.s 88)),(6,3,(.s 91)),(9,3,(.s 94))],.K 12 8 95,.mv 9 (.c (.bool true)),.mv 10 (.i 0)])]]),([9,4,7,10,11,12,13,14],[.E 93 3 18,.callv (some 88) (.s 86) [.s 87],.callv (some 91) (.s 89) [.s 90],.callv (some 94) (.s 92) [.s 93],.bd 95 [.int .i64 0,.int .i64 0,.sl 1 [],.str [],.bool false,.sl 3 [],.str [],.bool false,.sl 3 [],.str [],.bool false,.sl 3 []] [(2,1,(.s 85)),(3,3,(.s 88)),(6,3,(.s 91)),(9,3,(.s 94))],.K 12 8 95,.mv 9 (.c (.bool true)),.mv 10 (.i 0)])]]) (.ret))
 | 1=>.R [.E 72 3 14,.A 73 2,.E 74 3 18,.U 75 OV [.s 72,.s 73,.s 74],.U 76 P5 [.s 75],.A 71 76,.F 77 71 0,.F 78 71 1,.K 3 18 77,.A 13 78] (.seq (.R [.A 79 13,.J 80 79] (.W 80 (.R [.bd 81 [.int .i64 0,.int .i64 0,.sl 1 [],.str [],.bool false,.sl 3 [],.str [],.bool false,.sl 3 [],.str [],.bool false,.sl 3 []] [],.A 82 13,.K 12 8 81,.mv 9 (.c (.bool false)),.A 10 82] (.ret)) (.skip))) (.n 0))
 | 2=>.R [.A 40 11,.D 41 0 4,.E 42 3 41,.U 43 FE [.s 40,.s 42],.A 39 43,.F 44 39 0,.F 45 39 1,.al 14 A3 Co,.L 14 3 44,.A 15 45] (.R [.A 47 11,.D 48 3 4,.E 49 3 48,.U 50 FE [.s 47,.s 49],.A 46 50,.F 51 46 0,.F 52 46 1,.al 16 A3 Co,.L 16 3 51,.A 17 52] (.R [.A 54 11,.D 55 3 5,.E 56 3 55,.U 57 FE [.s 54,.s 56],.A 53 57,.F 58 53 0,.F 59 53 1,.al 18 A3 Co,.K 3 18 58,.A 19 59] (.seq (.R [.A 60 15,.J 61 60,.A 62 61,.P 62 false [63,64] [.A 63 17,.J 64 63],.M 65 62 64,.A 66 65,.P 66 false [67,68] [.A 67 19,.J 68 67],.M 69 66 68] (.W 69 (.R [.bd 70 [.int .i64 0,.int .i64 0,.sl 1 [],.str [],.bool false,.sl 3 [],.str [],.bool false,.sl 3 [],.str [],.bool false,.sl 3 []] [],.K 12 8 70,.mv 9 (.c (.bool false)),.mv 10 (.i 3)] (.ret)) (.skip))) (.n 1))))
 | _=>.skip
def body:C:=.R [.Z 4 BY 0,.Z 5 BY 1,.Z 7 A3 3,.al 8 DY [.int .i64 0,.int .i64 0,.sl 1 [],.str [],.bool false,.sl 3 [],.str [],.bool false,.sl 3 [],.str [],.bool false,.sl 3 []],.mv 9 (.c (.bool false)),.mv 10 (.i 0)] (.R [.E 22 3 7,.D 23 0 5,.E 24 3 23,.bd 25 [.str [],.bool false,.sl 3 [],.str [],.bool false,.sl 3 []] [(0,3,(.s 22)),(3,3,(.s 24))],.bs 26 6 [.s 25],.U 27 JO [.s 26],.A 21 27,.F 28 21 0,.F 29 21 1,.F 30 21 2,.A 11 28,.A 12 29,.A 13 30] (.seq (.R [.A 31 13,.J 32 31,.A 33 32,.P 33 false [34,35] [.A 34 12,.Q 35 34],.M 36 33 35] (.W 36 (.R [.bd 37 [.int .i64 0,.int .i64 0,.sl 1 [],.str [],.bool false,.sl 3 [],.str [],.bool false,.sl 3 [],.str [],.bool false,.sl 3 []] [],.A 38 13,.K 12 8 37,.mv 9 (.c (.bool false)),.A 10 38] (.ret)) (.skip))) (.n 2)))
def rs:List RV:=[.a 8 12,.t 9,.t 10]
attribute [push_cast] nd body
theorem ok:Bd prog Nw nd body 4 rs=true:=by kernel_rfl
end EB
namespace Nq
def nd (_:Nat):C:=.skip
def body:C:=.R [.Z 1 BY 0,.al 2 BY [.str [],.bool false,.sl 3 [],.str [],.bool false,.sl 3 []]] (.R [.mkm 6,.al 3 Bi [.nilm],.K 1 3 6] (.R [.mf 7 CL [] [.s 3],.A 4 7] (.R [.D 8 0 1,.E 9 3 8,.A 10 4,.call (some 11) Dl [.s 9,.s 10],.al 5 A3 Co,.L 5 3 11] (.seq (.dr [0,1,2,3,4,5,6] [.lar 12 3 (.s 5),.far 13 3 (.s 1),.lar 14 3 (.s 13),.A 15 4,.call (some 16) Dl [.s 14,.s 15],.bd 17 [.str [],.bool false,.sl 3 [],.str [],.bool false,.sl 3 []] [(0,3,(.s 12)),(3,3,(.s 16))],.K 6 2 17]) (.ret)))))
def rs:List RV:=[.a 2 6]
attribute [push_cast] nd body
theorem ok:Bd prog Kx nd body 1 rs=true:=by kernel_rfl
end Nq
namespace JF
def nd (_:Nat):C:=.skip
def body:C:=.R [.mv 3 (.c (.bool false))] (.R [.E 4 3 1,.A 5 0,.U 6 La [.s 4,.s 5],.X 7 .gtr 6 1,.A 3 7] (.ret))
def rs:List RV:=[.t 3]
attribute [push_cast] nd body
theorem ok:Bd prog HV nd body 2 rs=true:=by kernel_rfl
end JF
namespace HN
def nd:Nat->C
 | 0=>.R [.A 31 5,.A 4 31] (.ret)
 | 1=>.gh [.ks 0 [1,5,19,20,21]] (.m 3)
 | 2=>.seq (.blk 1 (.R [.G 23 3 19 21,.E 24 3 23,.al 7 A3 Co,.L 7 3 24] (.reg [.A 25 5,.E 26 3 7,.A 27 1,.U 28 La [.s 26,.s 27],.V 29 .add 25 28,.A 5 29]))) (.reg [.X 30 .add 21 1,.A 21 30])
 | 3=>.R [.V 22 .lss 21 20] (.seq (.W 22 (.skip) (.exit 0)) (.n 2))
 | 4=>.seq (.R [.D 18 2 2,.B 19 18,.Y 20 19,.mv 21 (.i 0)] (.J 0 1)) (.n 0)
 | _=>.skip
def body:C:=.R [.Z 2 A3 0,.mv 4 (.i 0)] (.R [.mv 5 (.i 0)] (.seq (.R [.D 8 1 2,.B 9 8,.A 10 9,.P 10 true [11,12,13,14] [.D 11 0 2,.B 12 11,.A 13 1,.V 14 .eql 12 13],.N 15 10 14] (.W 15 (.reg [.A 16 5,.X 17 .add 16 1,.A 5 17]) (.skip))) (.n 4)))
def rs:List RV:=[.t 4]
attribute [push_cast] nd body
theorem ok:Bd prog La nd body 2 rs=true:=by kernel_rfl
abbrev L3 (a b c d e:V)(B:Nat)(H:CX)(Q:QX):Prop:=Ax prog nd B (DA 3 1 0 0) [(1,a),(5,b),(19,c),(20,d),(21,e)] H Q
end HN
namespace J0
def nd:Nat->C
 | 0=>.R [.mv 2 (.i 0)] (.ret)
 | 1=>.gh [.ks 0 [6,7,8]] (.m 3)
 | 2=>.seq (.blk 1 (.R [.G 10 3 6 8,.E 11 3 10,.al 4 A3 Co,.L 4 3 11] (.R [.E 12 3 4,.U 13 Q8 [.s 12],.A 5 13] (.R [.A 14 5,.J 15 14] (.W 15 (.R [.A 16 5,.A 2 16] (.ret)) (.skip)))))) (.reg [.X 17 .add 8 1,.A 8 17])
 | 3=>.R [.V 9 .lss 8 7] (.seq (.W 9 (.skip) (.exit 0)) (.n 2))
 | _=>.skip
def body:C:=.R [.mv 2 (.i 0)] (.seq (.R [.A 6 0,.Y 7 6,.mv 8 (.i 0)] (.J 0 1)) (.n 0))
def rs:List RV:=[.t 2]
attribute [push_cast] nd body
theorem ok:Bd prog LG nd body 1 rs=true:=by kernel_rfl
abbrev L3 (a b c:V)(B:Nat)(H:CX)(Q:QX):Prop:=Ax prog nd B (DA 3 1 0 0) [(6,a),(7,b),(8,c)] H Q
end J0
namespace Cy
def nd:Nat->C
 | 0=>.R [.A 94 1,.A 4 94,.mv 5 (.c (.bool true))] (.ret)
 | 1=>.gh [.ks 0 [1,77,78,79]] (.m 3)
 | 2=>.seq (.blk 3 (.R [.G 81 3 77 79,.E 82 3 81,.al 8 A3 Co,.L 8 3 82] (.R [.E 84 3 8,.A 85 1,.U 86 JT [.s 84,.s 85],.A 83 86,.F 87 83 0,.F 88 83 1,.A 9 87,.A 10 88] (.seq (.R [.A 89 10,.Q 90 89] (.W 90 (.R [.A 91 1,.A 4 91,.mv 5 (.c (.bool false))] (.ret)) (.skip))) (.reg [.A 92 9,.A 1 92]))))) (.reg [.X 93 .add 79 1,.A 79 93])
 | 3=>.R [.V 80 .lss 79 78] (.seq (.W 80 (.skip) (.exit 2)) (.n 2))
 | 4=>.seq (.R [.D 76 2 2,.B 77 76,.Y 78 77,.mv 79 (.i 0)] (.J 2 1)) (.n 0)
 | 5=>.seq (.seq (.dr [0,1,2,3,4,5,6,7,8] [.A 66 1,.A 67 6,.G 68 2 66 67,.D 69 1 68,.B 70 69,.D 71 2 2,.B 72 71,.Y 73 72,.V 74 .neq 70 73]) (.W 74 (.R [.A 75 1,.A 4 75,.mv 5 (.c (.bool false))] (.ret)) (.skip))) (.n 4)
 | 6=>.seq (.seq (.dr [0,1,2,3,4,5,6,7,8,9,10,11,12,13] [.A 35 6,.A 36 1,.Y 37 36,.V 38 .eql 35 37,.A 39 38,.P 39 false [40] [.A 40 1],.P 39 false [41] [.A 41 6],.P 39 false [42] [.G 42 2 40 41],.P 39 false [43] [.D 43 0 42],.P 39 false [44] [.B 44 43],.P 39 false [45] [.D 45 0 2],.P 39 false [46] [.B 46 45],.P 39 false [47] [.V 47 .neq 44 46],.M 48 39 47]) (.W 48 (.dr [1,2,3,5,6,7,8,0,4,9,10,11,12,13,14,15,16,17] [.A 50 1,.A 51 6,.sx 52 2 (.s 50) none (some (.s 51)),.D 54 0 2,.B 55 54,.D 56 2 2,.B 57 56,.bo 49 Tk 2 [],.app 53 Tk 2 24 (.s 49) (.s 52),.Y 58 57,.bd 59 [.str [],.int .i64 0] [(0,1,(.s 55)),(1,1,(.s 58))],.bs 60 2 [.s 59],.app 61 Tk 2 24 (.s 53) (.s 60),.A 62 1,.A 63 6,.sx 64 2 (.s 62) (some (.s 63)) none,.app 65 Tk 2 24 (.s 61) (.s 64),.A 1 65]) (.skip))) (.n 5)
 | 7=>.gh [.ks 0 [1,2,6]] (.m 9)
 | 8=>.blk 1 (.reg [.A 33 6,.X 34 .add 33 1,.A 6 34])
 | 9=>.seq (.seq (.dr [0,1,2,3,4,5,6,7,8,9,10,11,12,13,14] [.A 18 6,.A 19 1,.Y 20 19,.V 21 .lss 18 20,.A 22 21,.P 22 true [23] [.A 23 1],.P 22 true [24] [.A 24 6],.P 22 true [25] [.G 25 2 23 24],.P 22 true [26] [.D 26 0 25],.P 22 true [27] [.B 27 26],.P 22 true [28] [.D 28 0 2],.P 22 true [29] [.B 29 28],.P 22 true [30] [.U 30 D8 [.s 27,.s 29]],.P 22 true [31] [.X 31 .lss 30 0],.N 32 22 31]) (.W 32 (.skip) (.exit 0))) (.n 8)
 | 10=>.R [.mv 6 (.i 0)] (.seq (.J 0 7) (.n 6))
 | 11=>.seq (.R [.D 14 0 2,.B 15 14,.U 16 Lf [.s 15]] (.W 16 (.R [.A 17 1,.A 4 17,.mv 5 (.c (.bool false))] (.ret)) (.skip))) (.n 10)
 | _=>.skip
def body:C:=.R [.Z 2 A3 0,.mv 4 (.c (.sl 2 [])),.mv 5 (.c (.bool false))] (.seq (.R [.D 11 1 2,.B 12 11] (.W 12 (.R [.A 13 1,.A 4 13,.mv 5 (.c (.bool true))] (.ret)) (.skip))) (.n 11))
def rs:List RV:=[.t 4,.t 5]
attribute [push_cast] nd body
theorem ok:Bd prog JT nd body 2 rs=true:=by kernel_rfl
abbrev L3 (a b c d:V)(B:Nat)(H:CX)(Q:QX):Prop:=Ax prog nd B (DA 3 1 2 0) [(1,a),(77,b),(78,c),(79,d)] H Q
abbrev L9 (a b c:V)(B:Nat)(H:CX)(Q:QX):Prop:=Ax prog nd B (DA 9 7 0 6) [(1,a),(2,b),(6,c)] H Q
end Cy
namespace Lr
def nd:Nat->C
 | 0=>.R [.A 29 5,.A 4 29] (.ret)
 | 1=>.gh [.ks 0 [1,5,17,18,19]] (.m 3)
 | 2=>.seq (.blk 1 (.R [.G 21 3 17 19,.E 22 3 21,.al 7 A3 Co,.L 7 3 22] (.reg [.A 23 5,.E 24 3 7,.A 25 1,.U 26 Kj [.s 24,.s 25],.V 27 .add 23 26,.A 5 27]))) (.reg [.X 28 .add 19 1,.A 19 28])
 | 3=>.R [.V 20 .lss 19 18] (.seq (.W 20 (.skip) (.exit 0)) (.n 2))
 | 4=>.seq (.R [.D 16 2 2,.B 17 16,.Y 18 17,.mv 19 (.i 0)] (.J 0 1)) (.n 0)
 | _=>.skip
def body:C:=.R [.Z 2 A3 0,.mv 4 (.i 0)] (.R [.mv 5 (.i 0)] (.seq (.R [.D 8 1 2,.B 9 8,.A 10 9,.P 10 true [11,12,13,14] [.D 11 0 2,.B 12 11,.A 13 1,.V 14 .eql 12 13],.N 15 10 14] (.W 15 (.reg [.mv 5 (.i 1)]) (.skip))) (.n 4)))
def rs:List RV:=[.t 4]
attribute [push_cast] nd body
theorem ok:Bd prog Kj nd body 2 rs=true:=by kernel_rfl
abbrev L3 (a b c d e:V)(B:Nat)(H:CX)(Q:QX):Prop:=Ax prog nd B (DA 3 1 0 0) [(1,a),(5,b),(17,c),(18,d),(19,e)] H Q
end Lr
namespace Qq
def nd (_:Nat):C:=.skip
def body:C:=.R [.Z 2 BY 0,.al 4 BY [.str [],.bool false,.sl 3 [],.str [],.bool false,.sl 3 []]] (.R [.E 6 6 2,.U 7 PP [.s 6],.A 8 1,.U 9 IA [.s 7,.s 8],.A 5 9] (.seq (.dr [0,1,2,3,4,5,6,7,8,9] [.A 10 5,.D 11 0 2,.E 12 3 11,.U 13 CQ [.s 10,.s 12],.A 14 5,.D 15 3 2,.E 16 3 15,.U 17 CQ [.s 14,.s 16],.bd 18 [.str [],.bool false,.sl 3 [],.str [],.bool false,.sl 3 []] [(0,3,(.s 13)),(3,3,(.s 17))],.K 6 4 18]) (.ret)))
def rs:List RV:=[.a 4 6]
attribute [push_cast] nd body
theorem ok:Bd prog JS nd body 2 rs=true:=by kernel_rfl
end Qq
namespace Ew
def nd:Nat->C
 | 0=>.R [.A 55 8,.A 2 55,.mv 3 (.c (.bool true)),.mv 4 (.i 0)] (.ret)
 | 1=>.gh [.ks 3 [5,8,35,36,37]] (.m 3)
 | 2=>.seq (.blk 3 (.R [.G 39 4 35 37,.E 40 4 39,.al 10 Cc [.str [],.str [],.bool false,.sl 3 []],.L 10 4 40] (.dr [0,1,2,3,4,5,6,7,8,9,10,11,12,13] [.A 41 8,.D 42 0 10,.B 43 42,.A 44 5,.nc 45 (.s 44),.D 46 0 45,.B 47 46,.D 48 1 10,.E 49 3 48,.U 50 JZ [.s 47,.s 49],.bd 51 [.str [],.str [],.bool false,.sl 3 []] [(0,1,(.s 43)),(1,3,(.s 50))],.bs 52 4 [.s 51],.app 53 Cc 4 64 (.s 41) (.s 52),.A 8 53]))) (.reg [.X 54 .add 37 1,.A 37 54])
 | 3=>.R [.V 38 .lss 37 36] (.seq (.W 38 (.skip) (.exit 2)) (.n 2))
 | 4=>.R [.mv 8 (.c .nil),.non 8 Cc 4] (.seq (.R [.A 32 5,.nc 33 (.s 32),.D 34 0 33,.B 35 34,.Y 36 35,.mv 37 (.i 0)] (.J 2 1)) (.n 0))
 | 5=>.seq (.R [.A 27 5,.nc 28 (.s 27),.D 29 0 28,.B 30 29,.U 31 Q0 [.s 30]] (.W 31 (.R [.mv 2 (.c (.sl 4 [])),.mv 3 (.c (.bool false)),.mv 4 (.i 3)] (.ret)) (.skip))) (.n 4)
 | 6=>.gh [.ks 2 [5,13,14,15]] (.m 8)
 | 7=>.seq (.blk 1 (.R [.G 17 6 13 15,.E 18 6 17,.al 7 BY [.str [],.bool false,.sl 3 [],.str [],.bool false,.sl 3 []],.L 7 6 18] (.R [.A 19 5,.D 20 0 7,.E 21 3 20,.D 22 3 7,.E 23 3 22,.call (some 24) Fs [.s 19,.s 21,.s 23],.Q 25 24] (.W 25 (.R [.mv 2 (.c (.sl 4 [])),.mv 3 (.c (.bool false)),.mv 4 (.i 0)] (.ret)) (.skip))))) (.reg [.X 26 .add 15 1,.A 15 26])
 | 8=>.R [.V 16 .lss 15 14] (.seq (.W 16 (.skip) (.exit 0)) (.n 7))
 | _=>.skip
def body:C:=.R [.mv 2 (.c (.sl 4 [])),.mv 3 (.c (.bool false)),.mv 4 (.i 0)] (.R [.bd 11 [.sl 4 [],.nil] [],.bx 12 D2 (.s 11),.ono Ff 2 1 (.s 12),.A 5 12] (.seq (.R [.A 13 0,.Y 14 13,.mv 15 (.i 0)] (.J 0 6)) (.n 5)))
def rs:List RV:=[.t 2,.t 3,.t 4]
attribute [push_cast] nd body
theorem ok:Bd prog IR nd body 1 rs=true:=by kernel_rfl
abbrev L3 (a b c d e:V)(B:Nat)(H:CX)(Q:QX):Prop:=Ax prog nd B (DA 3 1 2 0) [(5,a),(8,b),(35,c),(36,d),(37,e)] H Q
abbrev L8 (a b c d:V)(B:Nat)(H:CX)(Q:QX):Prop:=Ax prog nd B (DA 8 6 0 5) [(5,a),(13,b),(14,c),(15,d)] H Q
end Ew
namespace TG
def nd (_:Nat):C:=.skip
def body:C:=.R [.Z 3 A3 1,.mv 4 (.c (.bool false))] (.R [.A 8 0,.E 9 3 3,.U 10 MX [.s 8,.s 9],.A 7 10,.F 11 7 0,.F 12 7 1,.A 5 11,.A 6 12] (.R [.A 13 5,.X 14 .leq 13 4000,.A 15 14,.P 15 true [16,17] [.A 16 6,.X 17 .leq 16 200],.N 18 15 17,.A 4 18] (.ret)))
def rs:List RV:=[.t 4]
attribute [push_cast] nd body
theorem ok:Bd prog Mk nd body 2 rs=true:=by kernel_rfl
end TG
namespace ND
def nd (_:Nat):C:=.skip
def body:C:=.R [.Z 1 A3 0,.mv 2 (.c (.bool false))] (.R [.E 3 3 1,.U 4 Jz [.s 3],.X 5 .leq 4 4000,.A 6 5,.P 6 true [7,8,9] [.E 7 3 1,.U 8 I5 [.s 7],.X 9 .leq 8 200],.N 10 6 9,.A 2 10] (.ret))
def rs:List RV:=[.t 2]
attribute [push_cast] nd body
theorem ok:Bd prog Qa nd body 1 rs=true:=by kernel_rfl
end ND
namespace DP
def nd:Nat->C
 | 0=>.R [.A 39 5,.A 4 39] (.ret)
 | 1=>.gh [.ks 1 [0,1,5,11,12,13]] (.m 6)
 | 2=>.gh [.ks 1 [0,1,5,7,11,12,13,17,18,19]] (.m 4)
 | 3=>.seq (.blk 3 (.R [.A 21 19,.G 22 1 17 19,.B 23 22,.A 8 21,.A 9 23] (.R [.A 24 9,.A 25 7,.V 26 .eql 24 25] (.W 26 (.reg [.A 27 5,.A 28 7,.A 29 1,.A 30 8,.U 31 IO [.s 30],.V 32 .add 29 31,.bd 33 Co [(0,1,(.s 32)),(1,1,(.c (.bool true)))],.bd 34 [.str [],.str [],.bool false,.sl 3 []] [(0,1,(.s 28)),(1,3,(.s 33))],.bs 35 4 [.s 34],.app 36 Cc 4 64 (.s 27) (.s 35),.A 5 36]) (.skip))))) (.reg [.X 37 .add 19 1,.A 19 37])
 | 4=>.R [.V 20 .lss 19 18] (.seq (.W 20 (.skip) (.exit 2)) (.n 3))
 | 5=>.seq (.blk 1 (.R [.G 15 1 11 13,.B 16 15,.A 7 16] (.R [.A 17 0,.Y 18 17,.mv 19 (.i 0)] (.J 2 2)))) (.reg [.X 38 .add 13 1,.A 13 38])
 | 6=>.R [.V 14 .lss 13 12] (.seq (.W 14 (.skip) (.exit 0)) (.n 5))
 | _=>.skip
def body:C:=.R [.mv 4 (.c (.sl 4 []))] (.R [.mv 5 (.c .nil),.non 5 Cc 4] (.seq (.R [.A 10 0,.U 11 O7 [.s 10],.Y 12 11,.mv 13 (.i 0)] (.J 0 1)) (.n 0)))
def rs:List RV:=[.t 4]
attribute [push_cast] nd body
theorem ok:Bd prog IA nd body 2 rs=true:=by kernel_rfl
abbrev L4 (a b c d e f g h i j:V)(B:Nat)(H:CX)(Q:QX):Prop:=Ax prog nd B [.c (.m 4),.c (.loop (.n 2)),.mk 2,.mk 1,.c (.reg [.X 38 .add 13 1,.A 13 38]),.c (.loop (.n 1)),.mk 0,.c (.n 0)] [(0,a),(1,b),(5,c),(7,d),(11,e),(12,f),(13,g),(17,h),(18,i),(19,j)] H Q
abbrev L6 (a b c d e f:V)(B:Nat)(H:CX)(Q:QX):Prop:=Ax prog nd B (DA 6 1 0 0) [(0,a),(1,b),(5,c),(11,d),(12,e),(13,f)] H Q
end DP
namespace Lt
def nd:Nat->C
 | 0=>.R [.A 33 1,.A 4 33] (.ret)
 | 1=>.gh [.ks 0 [1,23,24,25]] (.m 3)
 | 2=>.seq (.blk 1 (.R [.G 27 3 23 25,.E 28 3 27,.al 6 A3 Co,.L 6 3 28] (.reg [.E 29 3 6,.A 30 1,.U 31 Kd [.s 29,.s 30],.A 1 31]))) (.reg [.X 32 .add 25 1,.A 25 32])
 | 3=>.R [.V 26 .lss 25 24] (.seq (.W 26 (.skip) (.exit 0)) (.n 2))
 | 4=>.seq (.R [.D 22 2 2,.B 23 22,.Y 24 23,.mv 25 (.i 0)] (.J 0 1)) (.n 0)
 | 5=>.R [.A 21 1,.A 4 21] (.ret)
 | _=>.skip
def body:C:=.R [.Z 2 A3 0,.mv 4 (.c (.sl 1 []))] (.seq (.R [.D 7 1 2,.B 8 7] (.W 8 (.seq (.R [.A 9 1,.D 10 0 2,.B 11 10,.U 12 NQ [.s 9,.s 11],.Q 13 12] (.W 13 (.dr [1,3,4,0,2,5,6,7] [.A 15 1,.D 17 0 2,.B 18 17,.bo 14 Cf 1 [],.app 16 Cf 1 16 (.s 14) (.s 15),.bs 19 1 [.s 18],.app 20 Cf 1 16 (.s 16) (.s 19),.A 1 20]) (.skip))) (.n 5)) (.skip))) (.n 4))
def rs:List RV:=[.t 4]
attribute [push_cast] nd body
theorem ok:Bd prog Kd nd body 2 rs=true:=by kernel_rfl
abbrev L3 (a b c d:V)(B:Nat)(H:CX)(Q:QX):Prop:=Ax prog nd B (DA 3 1 0 0) [(1,a),(23,b),(24,c),(25,d)] H Q
end Lt
namespace DL
def nd:Nat->C
 | 0=>.R [.A 15 0,.A 4 15] (.ret)
 | _=>.skip
def body:C:=.R [.mv 4 (.c (.str []))] (.seq (.R [.A 5 0,.A 6 1,.U 7 Dp [.s 5,.s 6]] (.W 7 (.R [.A 8 0,.A 9 0,.lens 10 (.s 9),.A 11 1,.lens 12 (.s 11),.V 13 .sub 10 12,.sxs 14 (.s 8) none (some (.s 13)),.A 4 14] (.ret)) (.skip))) (.n 0))
def rs:List RV:=[.t 4]
attribute [push_cast] nd body
theorem ok:Bd prog EL nd body 2 rs=true:=by kernel_rfl
end DL
namespace BN
def nd:Nat->C
 | 0=>.R [.mv 4 (.i (-1))] (.ret)
 | 1=>.gh [.ks 0 [0,1,7,8]] (.m 3)
 | 2=>.seq (.blk 1 (.R [.A 10 8,.A 5 10] (.R [.A 11 1,.A 12 0,.A 13 5,.G 14 1 12 13,.B 15 14,.callvp (some 16) (.s 11) [.s 15]] (.W 16 (.R [.A 17 5,.A 4 17] (.ret)) (.skip))))) (.reg [.X 18 .add 8 1,.A 8 18])
 | 3=>.R [.V 9 .lss 8 7] (.seq (.W 9 (.skip) (.exit 0)) (.n 2))
 | _=>.skip
def body:C:=.R [.mv 4 (.i 0)] (.seq (.R [.A 6 0,.Y 7 6,.mv 8 (.i 0)] (.J 0 1)) (.n 0))
def rs:List RV:=[.t 4]
attribute [push_cast] nd body
theorem ok:Bd prog Da nd body 2 rs=true:=by kernel_rfl
abbrev L3 (a b c d:V)(B:Nat)(H:CX)(Q:QX):Prop:=Ax prog nd B (DA 3 1 0 0) [(0,a),(1,b),(7,c),(8,d)] H Q
end BN
namespace Oj
def nd:Nat->C
 | 0=>.R [.A 17 0,.A 18 6,.G 19 4 17 18,.D 20 1 19,.E 21 3 20,.K 3 4 21,.mv 5 (.c (.bool true))] (.ret)
 | _=>.skip
def body:C:=.R [.al 4 A3 Co,.mv 5 (.c (.bool false))] (.R [.A 9 0,.A 10 1,.call (some 11) AL [.s 9,.s 10,(.f Md)],.A 8 11,.F 12 8 0,.F 13 8 1,.A 6 12,.A 7 13] (.seq (.R [.A 14 7,.Q 15 14] (.W 15 (.R [.bd 16 Co [],.K 3 4 16,.mv 5 (.c (.bool false))] (.ret)) (.skip))) (.n 0)))
def rs:List RV:=[.a 4 3,.t 5]
attribute [push_cast] nd body
theorem ok:Bd prog Lj nd body 2 rs=true:=by kernel_rfl
end Oj
namespace XS
def nd (_:Nat):C:=.skip
def body:C:=.R [.Z 5 A3 2,.mv 6 (.c (.sl 4 []))] (.R [.A 10 0,.A 11 1,.call (some 12) AL [.s 10,.s 11,(.f M2)],.A 9 12,.F 13 9 0,.F 14 9 1,.A 7 13,.A 8 14] (.R [.A 15 0,.A 16 7,.A 17 1,.E 18 3 5,.bd 19 [.str [],.str [],.bool false,.sl 3 []] [(0,1,(.s 17)),(1,3,(.s 18))],.bo 20 Cc 4 [.s 19],.call (some 21) Gk [.s 15,.s 16,.s 20],.A 6 21] (.ret)))
def rs:List RV:=[.t 6]
attribute [push_cast] nd body
theorem ok:Bd prog OH nd body 3 rs=true:=by kernel_rfl
end XS
namespace SC
def nd (_:Nat):C:=.skip
def body:C:=.R [.mv 2 (.c (.bool false))] (.R [.A 3 0,.bin 4 .geq (.s 3) (.c (.int .u8 65)),.A 5 4,.P 5 true [6,7] [.A 6 0,.bin 7 .leq (.s 6) (.c (.int .u8 90))],.N 8 5 7,.A 9 8,.P 9 false [10,11,12] [.A 10 0,.bin 11 .geq (.s 10) (.c (.int .u8 97)),.A 12 11],.P 12 true [13,14] [.A 13 0,.bin 14 .leq (.s 13) (.c (.int .u8 122))],.P 9 false [15] [.N 15 12 14],.M 16 9 15,.A 17 16,.P 17 false [18,19,20] [.A 18 0,.bin 19 .geq (.s 18) (.c (.int .u8 48)),.A 20 19],.P 20 true [21,22] [.A 21 0,.bin 22 .leq (.s 21) (.c (.int .u8 57))],.P 17 false [23] [.N 23 20 22],.M 24 17 23,.A 25 24,.P 25 false [26,27] [.A 26 0,.bin 27 .eql (.s 26) (.c (.int .u8 95))],.M 28 25 27,.A 29 28,.P 29 false [30,31] [.A 30 0,.bin 31 .eql (.s 30) (.c (.int .u8 39))],.M 32 29 31,.A 2 32] (.ret))
def rs:List RV:=[.t 2]
attribute [push_cast] nd body
theorem ok:Bd prog OW nd body 1 rs=true:=by kernel_rfl
end SC
namespace GT
def nd:Nat->C
 | 0=>.R [.D 51 1 7,.B 52 51,.X 53 .add 52 1,.D 54 1 7,.K 1 54 53] (.R [.E 55 2 7,.K 2 4 55] (.ret))
 | 1=>.gh [.ks 2 [0,4,7,29,30,31]] (.m 3)
 | 2=>.seq (.blk 1 (.R [.G 33 3 29 31,.E 34 3 33,.al 9 A3 Co,.L 9 3 34] (.R [.A 35 0,.E 36 3 9,.U 37 Ja [.s 35,.s 36],.al 10 GR [.int .i64 0,.int .i64 0],.L 10 2 37] (.dr [0,1,2,3,4,5,6,7,10] [.D 38 0 7,.B 39 38,.D 40 0 10,.B 41 40,.V 42 .add 39 41,.D 43 1 7,.B 44 43,.D 45 1 10,.D 48 0 7,.alt [([8,9,11,12,13],[.B 46 45,.mx 47 (.s 44) (.s 46),.K 1 48 42,.D 49 1 7,.K 1 49 47]),([11,8,9,12,13],[.K 1 48 42,.B 46 45,.mx 47 (.s 44) (.s 46),.D 49 1 7,.K 1 49 47])]])))) (.reg [.X 50 .add 31 1,.A 31 50])
 | 3=>.R [.V 32 .lss 31 30] (.seq (.W 32 (.skip) (.exit 0)) (.n 2))
 | 4=>.R [.bd 27 [.int .i64 0,.int .i64 0] [(0,1,(.i 1)),(1,1,(.i 0))],.al 7 GR [.int .i64 0,.int .i64 0],.K 2 7 27] (.seq (.R [.D 28 2 3,.B 29 28,.Y 30 29,.mv 31 (.i 0)] (.J 0 1)) (.n 0))
 | 5=>.R [.bd 26 [.int .i64 0,.int .i64 0] [(0,1,(.i 1)),(1,1,(.i 1))],.K 2 4 26] (.ret)
 | _=>.skip
def body:C:=.R [.Z 3 A3 1,.al 4 GR [.int .i64 0,.int .i64 0]] (.seq (.R [.D 11 1 3,.B 12 11] (.W 12 (.seq (.R [.A 14 0,.D 15 0 3,.B 16 15,.U 17 Lj [.s 14,.s 16],.A 13 17,.F 18 13 0,.F 19 13 1,.al 5 A3 Co,.L 5 3 18,.A 6 19] (.R [.A 20 6] (.W 20 (.seq (.dr [0,1,2,3,4,5] [.E 21 3 5,.U 22 Kg [.s 21],.E 23 3 5,.U 24 IW [.s 23],.bd 25 [.int .i64 0,.int .i64 0] [(0,1,(.s 22)),(1,1,(.s 24))],.K 2 4 25]) (.ret)) (.skip)))) (.n 5)) (.skip))) (.n 4))
def rs:List RV:=[.a 4 2]
attribute [push_cast] nd body
theorem ok:Bd prog Ja nd body 2 rs=true:=by kernel_rfl
abbrev L3 (a b c d e f:V)(B:Nat)(H:CX)(Q:QX):Prop:=Ax prog nd B (DA 3 1 0 0) [(0,a),(4,b),(7,c),(29,d),(30,e),(31,f)] H Q
end GT
namespace GU
def nd:Nat->C
 | 0=>.R [.E 44 3 7,.K 3 4 44] (.ret)
 | 1=>.gh [.ks 3 [0,4,7,29,30,31]] (.m 3)
 | 2=>.seq (.blk 1 (.R [.G 33 3 29 31,.E 34 3 33,.al 9 A3 Co,.L 9 3 34] (.dr [0,1,2,3,4,5,6,7,8] [.D 35 2 7,.B 36 35,.A 37 0,.E 38 3 9,.U 39 IJ [.s 37,.s 38],.bs 40 3 [.s 39],.app 41 A3 3 48 (.s 36) (.s 40),.D 42 2 7,.K 1 42 41]))) (.reg [.X 43 .add 31 1,.A 31 43])
 | 3=>.R [.V 32 .lss 31 30] (.seq (.W 32 (.skip) (.exit 0)) (.n 2))
 | 4=>.R [.D 25 0 3,.B 26 25,.bd 27 [.str [],.bool false,.nil] [(0,1,(.s 26))],.al 7 A3 [.str [],.bool false,.nil],.K 3 7 27,.ono A3 3 2 (.s 7)] (.seq (.R [.D 28 2 3,.B 29 28,.Y 30 29,.mv 31 (.i 0)] (.J 0 1)) (.n 0))
 | 5=>.R [.D 22 0 3,.B 23 22,.bd 24 Co [(0,1,(.s 23)),(1,1,(.c (.bool true)))],.K 3 4 24] (.ret)
 | _=>.skip
def body:C:=.R [.Z 3 A3 1,.al 4 A3 Co] (.seq (.R [.D 10 1 3,.B 11 10] (.W 11 (.seq (.R [.A 13 0,.D 14 0 3,.B 15 14,.U 16 Lj [.s 13,.s 15],.A 12 16,.F 17 12 0,.F 18 12 1,.al 5 A3 Co,.L 5 3 17,.A 6 18] (.R [.A 19 6] (.W 19 (.R [.E 20 3 5,.U 21 HY [.s 20],.K 3 4 21] (.ret)) (.skip)))) (.n 5)) (.skip))) (.n 4))
def rs:List RV:=[.a 4 3]
attribute [push_cast] nd body
theorem ok:Bd prog IJ nd body 2 rs=true:=by kernel_rfl
abbrev L3 (a b c d e f:V)(B:Nat)(H:CX)(Q:QX):Prop:=Ax prog nd B (DA 3 1 0 0) [(0,a),(4,b),(7,c),(29,d),(30,e),(31,f)] H Q
end GU
namespace E9
def nd (_:Nat):C:=.skip
def body:C:=.R [.mv 4 (.c (.bool false))] (.R [.A 5 0,.lens 6 (.s 5),.A 7 1,.lens 8 (.s 7),.V 9 .geq 6 8,.A 10 9,.P 10 true [11,12,13,14,15,16,17,18,19] [.A 11 0,.A 12 0,.lens 13 (.s 12),.A 14 1,.lens 15 (.s 14),.V 16 .sub 13 15,.sxs 17 (.s 11) (some (.s 16)) none,.A 18 1,.V 19 .eql 17 18],.N 20 10 19,.A 4 20] (.ret))
def rs:List RV:=[.t 4]
attribute [push_cast] nd body
theorem ok:Bd prog Dp nd body 2 rs=true:=by kernel_rfl
end E9
namespace Bp
def nd:Nat->C
 | 0=>.R [.mv 4 (.i (-1))] (.ret)
 | 1=>.gh [.ks 0 [0,1,7,8]] (.m 3)
 | 2=>.seq (.blk 1 (.R [.A 10 8,.A 5 10] (.R [.A 11 1,.A 12 0,.A 13 5,.G 14 1 12 13,.B 15 14,.callvp (some 16) (.s 11) [.s 15]] (.W 16 (.R [.A 17 5,.A 4 17] (.ret)) (.skip))))) (.reg [.X 18 .add 8 1,.A 8 18])
 | 3=>.R [.V 9 .lss 8 7] (.seq (.W 9 (.skip) (.exit 0)) (.n 2))
 | _=>.skip
def body:C:=.R [.mv 4 (.i 0)] (.seq (.R [.A 6 0,.Y 7 6,.mv 8 (.i 0)] (.J 0 1)) (.n 0))
def rs:List RV:=[.t 4]
attribute [push_cast] nd body
theorem ok:Bd prog Cs nd body 2 rs=true:=by kernel_rfl
abbrev L3 (a b c d:V)(B:Nat)(H:CX)(Q:QX):Prop:=Ax prog nd B (DA 3 1 0 0) [(0,a),(1,b),(7,c),(8,d)] H Q
end Bp
namespace JK
def nd:Nat->C
 | 0=>.seq (.dr [0,1,2,3,4,5,6,7,8,9,10,11,12] [.bo 34 Cf 1 [],.A 35 0,.A 36 5,.sx 37 1 (.s 35) none (some (.s 36)),.app 38 Cf 1 16 (.s 34) (.s 37),.A 39 1,.bs 40 1 [.s 39],.app 41 Cf 1 16 (.s 38) (.s 40),.A 42 0,.A 43 5,.sx 44 1 (.s 42) (some (.s 43)) none,.app 45 Cf 1 16 (.s 41) (.s 44),.A 4 45]) (.ret)
 | 1=>.seq (.R [.A 21 5,.A 22 0,.Y 23 22,.V 24 .lss 21 23,.A 25 24,.P 25 true [26,27,28,29,30,31] [.A 26 0,.A 27 5,.G 28 1 26 27,.B 29 28,.A 30 1,.V 31 .eql 29 30],.N 32 25 31] (.W 32 (.R [.A 33 0,.A 4 33] (.ret)) (.skip))) (.n 0)
 | 2=>.gh [.ks 0 [0,1,5]] (.m 4)
 | 3=>.blk 1 (.reg [.A 19 5,.X 20 .add 19 1,.A 5 20])
 | 4=>.seq (.R [.A 6 5,.A 7 0,.Y 8 7,.V 9 .lss 6 8,.A 10 9,.P 10 true [11,12,13,14,15,16,17] [.A 11 0,.A 12 5,.G 13 1 11 12,.B 14 13,.A 15 1,.U 16 D8 [.s 14,.s 15],.X 17 .lss 16 0],.N 18 10 17] (.W 18 (.skip) (.exit 0))) (.n 3)
 | _=>.skip
def body:C:=.R [.mv 4 (.c (.sl 1 []))] (.R [.mv 5 (.i 0)] (.seq (.J 0 2) (.n 1)))
def rs:List RV:=[.t 4]
attribute [push_cast] nd body
theorem ok:Bd prog KQ nd body 2 rs=true:=by kernel_rfl
abbrev L4 (a b c:V)(B:Nat)(H:CX)(Q:QX):Prop:=Ax prog nd B (DA 4 2 0 1) [(0,a),(1,b),(5,c)] H Q
end JK
namespace P9
def nd (_:Nat):C:=.skip
def body:C:=.R [.Z 2 A3 0,.al 3 A3 Co] (.R [.E 4 3 2,.mf 5 EU [] [.s 1],.call (some 6) Dl [.s 4,.s 5],.K 3 3 6] (.ret))
def rs:List RV:=[.a 3 3]
attribute [push_cast] nd body
theorem ok:Bd prog Dv nd body 2 rs=true:=by kernel_rfl
end P9
namespace KS
def nd:Nat->C
 | 0=>.R [.E 34 3 5,.K 3 4 34] (.ret)
 | 1=>.gh [.ks 3 [1,4,5,19,20,21]] (.m 3)
 | 2=>.seq (.blk 1 (.R [.G 23 3 19 21,.E 24 3 23,.al 7 A3 Co,.L 7 3 24] (.dr [2,3] [.E 27 3 7,.A 28 1,.alt [([0],[.D 25 2 5,.alt [([1,4,5,6,7,8],[.B 26 25,.call (some 29) Dl [.s 27,.s 28],.bs 30 3 [.s 29],.app 31 A3 3 48 (.s 26) (.s 30),.D 32 2 5,.K 1 32 31]),([4,1,5,6,7,8],[.call (some 29) Dl [.s 27,.s 28],.B 26 25,.bs 30 3 [.s 29],.app 31 A3 3 48 (.s 26) (.s 30),.D 32 2 5,.K 1 32 31])]]),([4,0,1,5,6,7,8],[.call (some 29) Dl [.s 27,.s 28],.D 25 2 5,.B 26 25,.bs 30 3 [.s 29],.app 31 A3 3 48 (.s 26) (.s 30),.D 32 2 5,.K 1 32 31])]]))) (.reg [.X 33 .add 21 1,.A 21 33])
 | 3=>.R [.V 22 .lss 21 20] (.seq (.W 22 (.skip) (.exit 0)) (.n 2))
 | 4=>.R [.D 15 0 2,.B 16 15,.bd 17 [.str [],.bool false,.nil] [(0,1,(.s 16))],.al 5 A3 [.str [],.bool false,.nil],.K 3 5 17,.ono A3 3 2 (.s 5)] (.seq (.R [.D 18 2 2,.B 19 18,.Y 20 19,.mv 21 (.i 0)] (.J 0 1)) (.n 0))
 | _=>.skip
def body:C:=.R [.Z 2 A3 0,.al 4 A3 Co] (.seq (.R [.D 8 1 2,.B 9 8] (.W 9 (.R [.A 10 1,.D 11 0 2,.B 12 11,.callv (some 13) (.s 10) [.s 12],.bd 14 Co [(0,1,(.s 13)),(1,1,(.c (.bool true)))],.K 3 4 14] (.ret)) (.skip))) (.n 4))
def rs:List RV:=[.a 4 3]
attribute [push_cast] nd body
theorem ok:Bd prog Dl nd body 2 rs=true:=by kernel_rfl
abbrev L3 (a b c d e f:V)(B:Nat)(H:CX)(Q:QX):Prop:=Ax prog nd B (DA 3 1 0 0) [(1,a),(4,b),(5,c),(19,d),(20,e),(21,f)] H Q
end KS
namespace MB
def nd:Nat->C
 | 0=>.R [.B 14 1,.A 15 0,.lkp 16 true false (.str []) (.s 14) (.s 15),.A 3 16] (.ret)
 | _=>.skip
def body:C:=.R [.mv 3 (.c (.str []))] (.seq (.R [.B 4 1,.A 5 0,.lkp 6 true false (.str []) (.s 4) (.s 5),.bin 7 .eql (.s 6) (.c (.str []))] (.W 7 (.dr [0,1,2,3,4,5,6] [.B 8 1,.A 9 0,.B 10 1,.lnm 11 (.s 10),.U 12 GM [.s 11],.bin 13 .add (.c (.str [120])) (.s 12),.mup true (.s 8) (.s 9) (.s 13)]) (.skip))) (.n 0))
def rs:List RV:=[.t 3]
attribute [push_cast] nd body
theorem ok:Bd prog EU nd body 2 rs=true:=by kernel_rfl
end MB
namespace Ot
def nd (_:Nat):C:=.skip
def body:C:=.R [.mv 2 (.c (.str []))] (.R [.A 3 0,.U 4 Kv [.s 3],.A 2 4] (.ret))
def rs:List RV:=[.t 2]
attribute [push_cast] nd body
theorem ok:Bd prog GM nd body 1 rs=true:=by kernel_rfl
end Ot
namespace CR
def nd:Nat->C
 | 0=>.R [.frz 8,.A 61 8,.A 2 61,.mv 3 (.c (.bool true)),.mv 4 (.i 0)] (.ret)
 | 1=>.gh [.ks 6 [5,8,9,36]] (.m 3)
 | 2=>.blk 3 (.R [.en 39 (.s 36),.F 40 39 0,.A 10 40] (.R [.A 41 10,.bd 42 Co [(0,1,(.s 41)),(1,1,(.c (.bool true)))],.al 11 A3 Co,.L 11 3 42] (.seq (.R [.A 43 5,.E 44 3 11,.A 45 9,.call (some 46) Cw [.s 43,.s 44,.s 45],.al 12 DS [.int .i64 0,.int .i64 0],.L 12 2 46] (.R [.D 47 0 12,.B 48 47,.X 49 .gtr 48 4000,.A 50 49,.P 50 false [51,52,53] [.D 51 1 12,.B 52 51,.X 53 .gtr 52 200],.M 54 50 53] (.W 54 (.R [.mv 2 (.c (.sl 4 [])),.mv 3 (.c (.bool false)),.mv 4 (.i 3)] (.ret)) (.skip)))) (.reg [.A 55 8,.A 56 10,.A 57 5,.E 58 3 11,.call (some 59) BX [.s 57,.s 58],.call (some 60) OH [.s 55,.s 56,.s 59],.A 8 60]))))
 | 3=>.R [.nx 37 (.s 36),.F 38 37 0] (.seq (.W 38 (.skip) (.exit 2)) (.n 2))
 | 4=>.R [.mv 8 (.c .nil),.rnon 8 Cc 4] (.R [.mkm 31,.A 9 31] (.seq (.R [.A 32 5,.nc 33 (.s 32),.D 34 0 33,.B 35 34,.rg 36 (.s 35)] (.J 2 1)) (.n 0)))
 | 5=>.gh [.ks 3 [5,17,18,19]] (.m 7)
 | 6=>.seq (.blk 1 (.R [.G 21 6 17 19,.E 22 6 21,.al 7 BY [.str [],.bool false,.sl 3 [],.str [],.bool false,.sl 3 []],.L 7 6 22] (.R [.A 23 5,.D 24 0 7,.E 25 3 24,.D 26 3 7,.E 27 3 26,.call (some 28) Ea [.s 23,.s 25,.s 27],.Q 29 28] (.W 29 (.R [.mv 2 (.c (.sl 4 [])),.mv 3 (.c (.bool false)),.mv 4 (.i 0)] (.ret)) (.skip))))) (.reg [.X 30 .add 19 1,.A 19 30])
 | 7=>.R [.V 20 .lss 19 18] (.seq (.W 20 (.skip) (.exit 0)) (.n 6))
 | _=>.skip
def body:C:=.R [.mv 2 (.c (.sl 4 [])),.mv 3 (.c (.bool false)),.mv 4 (.i 0)] (.R [.mkm 13,.mkm 14,.bd 15 [.nilm,.nilm] [(0,1,(.s 13)),(1,1,(.s 14))],.bx 16 Bc (.s 15),.A 5 16] (.seq (.R [.A 17 0,.Y 18 17,.mv 19 (.i 0)] (.J 0 5)) (.n 4)))
def rs:List RV:=[.t 2,.t 3,.t 4]
attribute [push_cast] nd body
theorem ok:Bd prog JO nd body 1 rs=true:=by kernel_rfl
abbrev L3 (a b c d:V)(B:Nat)(H:CX)(Q:QX):Prop:=Ax prog nd B (DA 3 1 2 0) [(5,a),(8,b),(9,c),(36,d)] H Q
abbrev L7 (a b c d:V)(B:Nat)(H:CX)(Q:QX):Prop:=Ax prog nd B (DA 7 5 0 4) [(5,a),(17,b),(18,c),(19,d)] H Q
end CR
namespace Pe
def nd:Nat->C
 | 0=>.R [.B 14 1,.A 15 0,.lkp 16 true false (.str []) (.s 14) (.s 15),.A 3 16] (.ret)
 | _=>.skip
def body:C:=.R [.mv 3 (.c (.str []))] (.seq (.R [.B 4 1,.A 5 0,.lkp 6 true false (.str []) (.s 4) (.s 5),.bin 7 .eql (.s 6) (.c (.str []))] (.W 7 (.dr [0,1,2,3,4,5,6] [.B 8 1,.A 9 0,.B 10 1,.lnm 11 (.s 10),.U 12 GM [.s 11],.bin 13 .add (.c (.str [121])) (.s 12),.mup true (.s 8) (.s 9) (.s 13)]) (.skip))) (.n 0))
def rs:List RV:=[.t 3]
attribute [push_cast] nd body
theorem ok:Bd prog CL nd body 2 rs=true:=by kernel_rfl
end Pe
namespace UA
def nd (_:Nat):C:=.skip
def body:C:=.R [.Z 1 BY 0,.mv 2 (.c (.sl 1 []))] (.R [.D 3 0 1,.E 4 3 3,.U 5 Kd [.s 4,(.c (.sl 1 []))],.A 2 5] (.ret))
def rs:List RV:=[.t 2]
attribute [push_cast] nd body
theorem ok:Bd prog PP nd body 1 rs=true:=by kernel_rfl
end UA
namespace BT
def nd:Nat->C
 | 0=>.R [.mv 6 (.c (.bool true))] (.ret)
 | 1=>.seq (.R [.A 107 8] (.W 107 (.dr [0,1,2,3,4,5,6,7,8,9,10] [.A 108 0,.A 109 0,.nc 110 (.s 109),.D 111 1 110,.B 112 111,.E 113 2 7,.bs 114 2 [.s 113],.app 115 Ff 2 32 (.s 112) (.s 114),.nc 116 (.s 108),.D 117 1 116,.K 1 117 115]) (.skip))) (.n 0)
 | 2=>.gh [.ks 3 [0,4,5,7,8,89,90]] (.m 4)
 | 3=>.seq (.blk 2 (.R [.A 92 90,.A 9 92] (.seq (.dr [0,1,2,3,4,5,6,7,8,9,10,11,12] [.A 93 0,.D 94 2 4,.B 95 94,.A 96 9,.G 97 3 95 96,.E 98 3 97,.D 99 2 5,.B 100 99,.A 101 9,.G 102 3 100 101,.E 103 3 102,.call (some 104) Fs [.s 93,.s 98,.s 103],.Q 105 104]) (.W 105 (.R [.mv 6 (.c (.bool false))] (.ret)) (.skip))))) (.reg [.X 106 .add 90 1,.A 90 106])
 | 4=>.R [.V 91 .lss 90 89] (.seq (.W 91 (.skip) (.exit 1)) (.n 3))
 | 5=>.seq (.R [.D 87 2 4,.B 88 87,.Y 89 88,.mv 90 (.i 0)] (.J 1 2)) (.n 1)
 | 6=>.seq (.dr [0,1,2,3,4,5,6,7,8,9,10,11,12,13] [.A 30 0,.nc 31 (.s 30),.D 32 0 31,.B 33 32,.E 34 3 4,.U 35 LP [.s 33,.s 34],.A 36 0,.nc 37 (.s 36),.D 38 0 37,.B 39 38,.E 40 3 5,.U 41 LP [.s 39,.s 40],.K 3 4 35,.K 3 5 41]) (.seq (.blk 0 (.R [.D 43 1 4,.B 44 43,.A 45 44,.P 45 true [46,47] [.D 46 1 5,.B 47 46],.N 48 45 47,.A 49 48,.P 49 true [50,51,52,53,54] [.D 50 0 4,.B 51 50,.D 52 0 5,.B 53 52,.V 54 .eql 51 53],.N 55 49 54,.A 42 55] (.W 42 (.R [.mv 6 (.c (.bool true))] (.ret)) (.R [.D 57 1 4,.B 58 57,.A 56 58] (.W 56 (.R [.A 59 0,.D 60 0 4,.B 61 60,.E 62 3 5,.call (some 63) Gf [.s 59,.s 61,.s 62],.A 6 63] (.ret)) (.R [.D 65 1 5,.B 66 65,.A 64 66] (.W 64 (.R [.A 67 0,.D 68 0 5,.B 69 68,.E 70 3 4,.call (some 71) Gf [.s 67,.s 69,.s 70],.A 6 71] (.ret)) (.R [.D 73 0 4,.B 74 73,.D 75 0 5,.B 76 75,.V 77 .neq 74 76,.A 78 77,.P 78 false [79,80,81,82,83,84,85] [.D 79 2 4,.B 80 79,.Y 81 80,.D 82 2 5,.B 83 82,.Y 84 83,.V 85 .neq 81 84],.M 86 78 85,.A 72 86] (.W 72 (.R [.mv 6 (.c (.bool false))] (.ret)) (.skip)))))))))) (.n 5))
 | 7=>.seq (.R [.A 21 8,.A 22 21,.P 22 true [23,24,25,26,27,28] [.A 23 0,.D 24 0 4,.B 25 24,.D 26 0 5,.B 27 26,.call (some 28) HR [.s 23,.s 25,.s 27]],.N 29 22 28] (.W 29 (.R [.mv 6 (.c (.bool true))] (.ret)) (.skip))) (.n 6)
 | _=>.skip
def body:C:=.R [.bx 4 A3 (.s 1),.bx 5 A3 (.s 2),.mv 6 (.c (.bool false))] (.seq (.dr [0,1,2,3,4,5,6,7] [.D 10 0 4,.B 11 10,.D 12 0 5,.B 13 12,.bd 14 [.str [],.str []] [(0,1,(.s 11)),(1,1,(.s 13))],.D 15 1 4,.B 16 15,.A 17 16,.alt [([8],[.P 17 true [18] [.D 18 1 5],.alt [([9,10,11,12,13],[.P 17 true [19] [.B 19 18],.N 20 17 19,.al 7 Ff [.str [],.str []],.L 7 2 14,.A 8 20]),([11],[.al 7 Ff [.str [],.str []],.alt [([9,10,12,13],[.P 17 true [19] [.B 19 18],.N 20 17 19,.L 7 2 14,.A 8 20]),([12,9,10,13],[.L 7 2 14,.P 17 true [19] [.B 19 18],.N 20 17 19,.A 8 20])]])]]),([11],[.al 7 Ff [.str [],.str []],.alt [([8],[.P 17 true [18] [.D 18 1 5],.alt [([9,10,12,13],[.P 17 true [19] [.B 19 18],.N 20 17 19,.L 7 2 14,.A 8 20]),([12,9,10,13],[.L 7 2 14,.P 17 true [19] [.B 19 18],.N 20 17 19,.A 8 20])]]),([12,8,9,10,13],[.L 7 2 14,.P 17 true [18] [.D 18 1 5],.P 17 true [19] [.B 19 18],.N 20 17 19,.A 8 20])]])]]) (.n 7))
def rs:List RV:=[.t 6]
attribute [push_cast] nd body
theorem ok:Bd prog Fs nd body 3 rs=true:=by kernel_rfl
abbrev L4 (a b c d e f g:V)(B:Nat)(H:CX)(Q:QX):Prop:=Ax prog nd B (DA 4 2 1 1) [(0,a),(4,b),(5,c),(7,d),(8,e),(89,f),(90,g)] H Q
end BT
namespace Cu
def nd:Nat->C
 | 0=>.R [.mv 2 (.c (.bool false))] (.ret)
 | 1=>.gh [.ks 2 [3,4,43,44]] (.m 3)
 | 2=>.seq (.blk 5 (.R [.A 46 44,.A 7 46] (.R [.A 47 3,.A 48 7,.G 49 1 47 48,.B 50 49,.X 51 .gtr 50 4000,.A 52 51,.P 52 false [53,54,55,56,57] [.A 53 4,.A 54 7,.G 55 1 53 54,.B 56 55,.X 57 .gtr 56 200],.M 58 52 57] (.W 58 (.R [.mv 2 (.c (.bool true))] (.ret)) (.skip))))) (.reg [.X 59 .add 44 1,.A 44 59])
 | 3=>.R [.V 45 .lss 44 43] (.seq (.W 45 (.skip) (.exit 4)) (.n 2))
 | 4=>.seq (.R [.A 42 0,.Y 43 42,.mv 44 (.i 0)] (.J 4 1)) (.n 0)
 | 5=>.gh [.ks 2 [0,3,4,15,16]] (.m 10)
 | 6=>.gh [.ks 2 [0,3,4,15,16,18,19,20]] (.m 8)
 | 7=>.seq (.blk 3 (.R [.A 22 20,.G 23 4 18 20,.E 24 4 23,.al 6 Cc [.str [],.str [],.bool false,.sl 3 []],.A 5 22,.L 6 4 24] (.reg [.A 26 3,.A 27 5,.A 28 4,.A 29 5,.A 30 0,.A 31 3,.A 32 4,.D 33 1 6,.E 34 3 33,.call (some 35) K1 [.s 30,.s 31,.s 32,.s 34],.A 25 35,.F 36 25 0,.F 37 25 1,.G 38 1 26 27,.K 1 38 36,.G 39 1 28 29,.K 1 39 37]))) (.reg [.X 40 .add 20 1,.A 20 40])
 | 8=>.R [.V 21 .lss 20 19] (.seq (.W 21 (.skip) (.exit 2)) (.n 7))
 | 9=>.seq (.blk 1 (.R [.A 18 0,.Y 19 18,.mv 20 (.i 0)] (.J 2 6))) (.reg [.X 41 .add 16 1,.A 16 41])
 | 10=>.R [.V 17 .lss 16 15] (.seq (.W 17 (.skip) (.exit 0)) (.n 9))
 | _=>.skip
def body:C:=.R [.mv 2 (.c (.bool false))] (.seq (.dr [0,1,3,4] [.A 8 0,.Y 9 8,.A 11 0,.Y 12 11,.alt [([2,5,6,7],[.mk 10 F1 1 8 [.int .i64 0] (.s 9),.mk 13 F1 1 8 [.int .i64 0] (.s 12),.A 3 10,.A 4 13]),([5,2,6,7],[.mk 13 F1 1 8 [.int .i64 0] (.s 12),.mk 10 F1 1 8 [.int .i64 0] (.s 9),.A 3 10,.A 4 13])]]) (.seq (.R [.A 14 0,.Y 15 14,.mv 16 (.i 0)] (.J 0 5)) (.n 4)))
def rs:List RV:=[.t 2]
attribute [push_cast] nd body
theorem ok:Bd prog Q0 nd body 1 rs=true:=by kernel_rfl
abbrev L3 (a b c d:V)(B:Nat)(H:CX)(Q:QX):Prop:=Ax prog nd B (DA 3 1 4 0) [(3,a),(4,b),(43,c),(44,d)] H Q
abbrev L8 (a b c d e f g h:V)(B:Nat)(H:CX)(Q:QX):Prop:=Ax prog nd B [.c (.m 8),.c (.loop (.n 6)),.mk 2,.mk 1,.c (.reg [.X 41 .add 16 1,.A 16 41]),.c (.loop (.n 5)),.mk 0,.c (.n 4)] [(0,a),(3,b),(4,c),(15,d),(16,e),(18,f),(19,g),(20,h)] H Q
abbrev L10 (a b c d e:V)(B:Nat)(H:CX)(Q:QX):Prop:=Ax prog nd B (DA 10 5 0 4) [(0,a),(3,b),(4,c),(15,d),(16,e)] H Q
end Cu
namespace K7
def nd:Nat->C
 | 0=>.R [.E 33 3 5,.K 3 4 33] (.ret)
 | 1=>.gh [.ks 4 [0,4,5,18,19,20]] (.m 3)
 | 2=>.seq (.blk 1 (.R [.G 22 3 18 20,.E 23 3 22,.al 7 A3 Co,.L 7 3 23] (.dr [0,1,2,3,4,5,6,7,8] [.D 24 2 5,.B 25 24,.A 26 0,.E 27 3 7,.U 28 JZ [.s 26,.s 27],.bs 29 3 [.s 28],.app 30 A3 3 48 (.s 25) (.s 29),.D 31 2 5,.K 1 31 30]))) (.reg [.X 32 .add 20 1,.A 20 32])
 | 3=>.R [.V 21 .lss 20 19] (.seq (.W 21 (.skip) (.exit 0)) (.n 2))
 | 4=>.R [.D 14 0 3,.B 15 14,.bd 16 [.str [],.bool false,.nil] [(0,1,(.s 15))],.al 5 A3 [.str [],.bool false,.nil],.K 3 5 16,.ono A3 3 2 (.s 5)] (.seq (.R [.D 17 2 3,.B 18 17,.Y 19 18,.mv 20 (.i 0)] (.J 0 1)) (.n 0))
 | _=>.skip
def body:C:=.R [.bx 3 A3 (.s 1),.al 4 A3 Co] (.R [.A 8 0,.E 9 3 3,.U 10 LP [.s 8,.s 9],.K 3 3 10] (.seq (.R [.D 11 1 3,.B 12 11] (.W 12 (.R [.E 13 3 3,.K 3 4 13] (.ret)) (.skip))) (.n 4)))
def rs:List RV:=[.a 4 3]
attribute [push_cast] nd body
theorem ok:Bd prog JZ nd body 2 rs=true:=by kernel_rfl
abbrev L3 (a b c d e f:V)(B:Nat)(H:CX)(Q:QX):Prop:=Ax prog nd B (DA 3 1 0 0) [(0,a),(4,b),(5,c),(18,d),(19,e),(20,f)] H Q
end K7
namespace Og
def nd:Nat->C
 | 0=>.R [.A 16 3,.A 2 16] (.ret)
 | 1=>.gh [.ks 0 [3,6,7,8]] (.m 3)
 | 2=>.seq (.blk 1 (.R [.G 10 1 6 8,.B 11 10,.A 5 11] (.reg [.A 12 3,.A 13 5,.U 14 KQ [.s 12,.s 13],.A 3 14]))) (.reg [.X 15 .add 8 1,.A 8 15])
 | 3=>.R [.V 9 .lss 8 7] (.seq (.W 9 (.skip) (.exit 0)) (.n 2))
 | _=>.skip
def body:C:=.R [.mv 2 (.c (.sl 1 []))] (.R [.mv 3 (.c (.sl 1 []))] (.seq (.R [.A 6 0,.Y 7 6,.mv 8 (.i 0)] (.J 0 1)) (.n 0)))
def rs:List RV:=[.t 2]
attribute [push_cast] nd body
theorem ok:Bd prog O7 nd body 1 rs=true:=by kernel_rfl
abbrev L3 (a b c d:V)(B:Nat)(H:CX)(Q:QX):Prop:=Ax prog nd B (DA 3 1 0 0) [(3,a),(6,b),(7,c),(8,d)] H Q
end Og
namespace Ow
def nd:Nat->C
 | 0=>.R [.A 10 0,.X 11 .quo 10 10,.U 12 IO [.s 11],.A 13 0,.X 14 .rem 13 10,.U 15 IO [.s 14],.V 16 .add 12 15,.A 2 16] (.ret)
 | _=>.skip
def body:C:=.R [.mv 2 (.c (.str []))] (.seq (.R [.A 3 0,.X 4 .lss 3 10] (.W 4 (.R [.A 5 0,.bin 6 .add (.i 48) (.s 5),.cvi 7 .u8 (.s 6),.bs 8 1 [.s 7],.b2s 9 (.s 8),.A 2 9] (.ret)) (.skip))) (.n 0))
def rs:List RV:=[.t 2]
attribute [push_cast] nd body
theorem ok:Bd prog IO nd body 1 rs=true:=by kernel_rfl
end Ow
namespace QJ
def nd:Nat->C
 | 0=>.R [.mv 4 (.c (.bool false))] (.ret)
 | 1=>.gh [.ks 0 [1,7,8,9]] (.m 3)
 | 2=>.seq (.blk 1 (.R [.G 11 1 7 9,.B 12 11,.A 6 12] (.R [.A 13 6,.A 14 1,.V 15 .eql 13 14] (.W 15 (.R [.mv 4 (.c (.bool true))] (.ret)) (.skip))))) (.reg [.X 16 .add 9 1,.A 9 16])
 | 3=>.R [.V 10 .lss 9 8] (.seq (.W 10 (.skip) (.exit 0)) (.n 2))
 | _=>.skip
def body:C:=.R [.mv 4 (.c (.bool false))] (.seq (.R [.A 7 0,.Y 8 7,.mv 9 (.i 0)] (.J 0 1)) (.n 0))
def rs:List RV:=[.t 4]
attribute [push_cast] nd body
theorem ok:Bd prog NQ nd body 2 rs=true:=by kernel_rfl
abbrev L3 (a b c d:V)(B:Nat)(H:CX)(Q:QX):Prop:=Ax prog nd B (DA 3 1 0 0) [(1,a),(7,b),(8,c),(9,d)] H Q
end QJ
namespace Aj
def nd:Nat->C
 | 0=>.R [.A 35 9,.A 36 9,.A 37 8,.V 38 .lss 36 37,.A 39 38,.P 39 true [40,41,42,43,44,45,46,47] [.A 40 2,.A 41 0,.A 42 9,.G 43 4 41 42,.E 44 4 43,.A 45 1,.callvp (some 46) (.s 40) [.s 44,.s 45],.X 47 .eql 46 0],.N 48 39 47,.A 6 35,.A 7 48] (.ret)
 | 1=>.gh [.ks 0 [0,1,2,8,9,10]] (.m 3)
 | 2=>.blk 1 (.R [.A 18 9,.A 19 10,.V 20 .add 18 19,.cvi 21 .u64 (.s 20),.sh 22 .shr (.s 21) (.c (.int .u64 1)),.cvi 23 .i64 (.s 22),.A 11 23] (.R [.A 24 2,.A 25 0,.A 26 11,.G 27 4 25 26,.E 28 4 27,.A 29 1,.callvp (some 30) (.s 24) [.s 28,.s 29],.X 31 .lss 30 0] (.W 31 (.reg [.A 32 11,.X 33 .add 32 1,.A 9 33]) (.reg [.A 34 11,.A 10 34]))))
 | 3=>.seq (.R [.A 15 9,.A 16 10,.V 17 .lss 15 16] (.W 17 (.skip) (.exit 0))) (.n 2)
 | _=>.skip
def body:C:=.R [.mv 6 (.i 0),.mv 7 (.c (.bool false))] (.R [.A 12 0,.Y 13 12,.A 8 13] (.R [.A 14 8,.mv 9 (.i 0),.A 10 14] (.seq (.J 0 1) (.n 0))))
def rs:List RV:=[.t 6,.t 7]
attribute [push_cast] nd body
theorem ok:Bd prog AL nd body 3 rs=true:=by kernel_rfl
abbrev L3 (a b c d e f:V)(B:Nat)(H:CX)(Q:QX):Prop:=Ax prog nd B (DA 3 1 0 0) [(0,a),(1,b),(2,c),(8,d),(9,e),(10,f)] H Q
end Aj
namespace OX
def nd (_:Nat):C:=.skip
def body:C:=.R [.Z 2 Cc 0,.mv 4 (.i 0)] (.R [.D 5 0 2,.B 6 5,.A 7 1,.U 8 Gl [.s 6,.s 7],.A 4 8] (.ret))
def rs:List RV:=[.t 4]
attribute [push_cast] nd body
theorem ok:Bd prog Md nd body 2 rs=true:=by kernel_rfl
end OX
namespace Kp
def nd (_:Nat):C:=.skip
def body:C:=.R [.mv 4 (.i 0)] (.R [.A 5 0,.A 6 1,.U 7 F8 [.s 5,.s 6],.A 4 7] (.ret))
def rs:List RV:=[.t 4]
attribute [push_cast] nd body
theorem ok:Bd prog Gl nd body 2 rs=true:=by kernel_rfl
end Kp
namespace Ov
def nd (_:Nat):C:=.skip
def body:C:=.R [.Z 2 Cc 0,.mv 4 (.i 0)] (.R [.D 5 0 2,.B 6 5,.A 7 1,.U 8 Gl [.s 6,.s 7],.A 4 8] (.ret))
def rs:List RV:=[.t 4]
attribute [push_cast] nd body
theorem ok:Bd prog M2 nd body 2 rs=true:=by kernel_rfl
end Ov
namespace N9
def nd (_:Nat):C:=.skip
def body:C:=.R [.mv 2 (.c (.str []))] (.R [.A 3 0,.U 4 n_strconv_FormatInt [.s 3,(.i 10)],.A 2 4] (.ret))
def rs:List RV:=[.t 2]
attribute [push_cast] nd body
theorem ok:Bd prog Kv nd body 1 rs=true:=by kernel_rfl
end N9
namespace Cg
def nd:Nat->C
 | 0=>.R [.mv 6 (.c (.bool true))] (.ret)
 | 1=>.gh [.ks 2 [0,4,5,84,85]] (.m 3)
 | 2=>.seq (.blk 2 (.R [.A 87 85,.A 8 87] (.seq (.dr [0,1,2,3,4,5,6,7,8,9,10,11,12] [.A 88 0,.D 89 2 4,.B 90 89,.A 91 8,.G 92 3 90 91,.E 93 3 92,.D 94 2 5,.B 95 94,.A 96 8,.G 97 3 95 96,.E 98 3 97,.call (some 99) Ea [.s 88,.s 93,.s 98],.Q 100 99]) (.W 100 (.R [.mv 6 (.c (.bool false))] (.ret)) (.skip))))) (.reg [.X 101 .add 85 1,.A 85 101])
 | 3=>.R [.V 86 .lss 85 84] (.seq (.W 86 (.skip) (.exit 1)) (.n 2))
 | 4=>.seq (.R [.D 82 2 4,.B 83 82,.Y 84 83,.mv 85 (.i 0)] (.J 1 1)) (.n 0)
 | 5=>.seq (.dr [0,1,3] [.A 31 0,.E 32 3 4,.A 34 0,.alt [([2,4,5,6,7],[.call (some 33) CA [.s 31,.s 32],.E 35 3 5,.call (some 36) CA [.s 34,.s 35],.K 3 4 33,.K 3 5 36]),([4,2,5,6,7],[.E 35 3 5,.call (some 33) CA [.s 31,.s 32],.call (some 36) CA [.s 34,.s 35],.K 3 4 33,.K 3 5 36])]]) (.seq (.blk 0 (.R [.D 38 1 4,.B 39 38,.A 40 39,.P 40 true [41,42] [.D 41 1 5,.B 42 41],.N 43 40 42,.A 44 43,.P 44 true [45,46,47,48,49] [.D 45 0 4,.B 46 45,.D 47 0 5,.B 48 47,.V 49 .eql 46 48],.N 50 44 49,.A 37 50] (.W 37 (.R [.mv 6 (.c (.bool true))] (.ret)) (.R [.D 52 1 4,.B 53 52,.A 51 53] (.W 51 (.R [.A 54 0,.D 55 0 4,.B 56 55,.E 57 3 5,.call (some 58) EQ [.s 54,.s 56,.s 57],.A 6 58] (.ret)) (.R [.D 60 1 5,.B 61 60,.A 59 61] (.W 59 (.R [.A 62 0,.D 63 0 5,.B 64 63,.E 65 3 4,.call (some 66) EQ [.s 62,.s 64,.s 65],.A 6 66] (.ret)) (.R [.D 68 0 4,.B 69 68,.D 70 0 5,.B 71 70,.V 72 .neq 69 71,.A 73 72,.P 73 false [74,75,76,77,78,79,80] [.D 74 2 4,.B 75 74,.Y 76 75,.D 77 2 5,.B 78 77,.Y 79 78,.V 80 .neq 76 79],.M 81 73 80,.A 67 81] (.W 67 (.R [.mv 6 (.c (.bool false))] (.ret)) (.skip)))))))))) (.n 4))
 | _=>.skip
def body:C:=.R [.bx 4 A3 (.s 1),.bx 5 A3 (.s 2),.mv 6 (.c (.bool false))] (.seq (.R [.D 9 1 4,.B 10 9,.A 11 10,.P 11 true [12,13] [.D 12 1 5,.B 13 12],.N 14 11 13] (.W 14 (.R [.D 15 0 4,.B 16 15,.D 17 0 5,.B 18 17,.bd 19 [.str [],.str []] [(0,1,(.s 16)),(1,1,(.s 18))],.al 7 Ff [.str [],.str []],.L 7 2 19] (.seq (.seq (.dr [0,1,2,3,4,5] [.A 20 0,.nc 21 (.s 20),.D 22 1 21,.B 23 22,.E 24 2 7,.lkq 25 [true,true] false (.bool false) (.s 23) (.s 24)]) (.W 25 (.R [.mv 6 (.c (.bool true))] (.ret)) (.skip))) (.dr [0,1,2,3,4,5] [.A 26 0,.nc 27 (.s 26),.D 28 1 27,.B 29 28,.E 30 2 7,.muq [true,true] (.s 29) (.s 30) (.c (.bool true))]))) (.skip))) (.n 5))
def rs:List RV:=[.t 6]
attribute [push_cast] nd body
theorem ok:Bd prog Ea nd body 3 rs=true:=by kernel_rfl
abbrev L3 (a b c d e:V)(B:Nat)(H:CX)(Q:QX):Prop:=Ax prog nd B (DA 3 1 1 0) [(0,a),(4,b),(5,c),(84,d),(85,e)] H Q
end Cg
namespace D4
def nd:Nat->C
 | 0=>.R [.D 75 1 12,.B 76 75,.X 77 .add 76 1,.D 78 1 12,.K 1 78 77] (.R [.E 79 2 12,.K 2 6 79] (.ret))
 | 1=>.gh [.ks 2 [0,2,6,12,51,52,53]] (.m 3)
 | 2=>.seq (.blk 1 (.R [.G 55 3 51 53,.E 56 3 55,.al 14 A3 Co,.L 14 3 56] (.R [.A 57 0,.E 58 3 14,.A 59 2,.call (some 60) Cw [.s 57,.s 58,.s 59],.al 15 DS [.int .i64 0,.int .i64 0],.L 15 2 60] (.dr [0,1,2,3,4,5,6,7,8,11] [.D 61 0 12,.B 62 61,.D 63 0 15,.B 64 63,.V 65 .add 62 64,.mn 66 (.s 65) (.i 4001),.D 67 1 12,.B 68 67,.D 69 1 15,.D 72 0 12,.alt [([9,10,12,13,14],[.B 70 69,.mx 71 (.s 68) (.s 70),.K 1 72 66,.D 73 1 12,.K 1 73 71]),([12,9,10,13,14],[.K 1 72 66,.B 70 69,.mx 71 (.s 68) (.s 70),.D 73 1 12,.K 1 73 71])]])))) (.reg [.X 74 .add 53 1,.A 53 74])
 | 3=>.R [.V 54 .lss 53 52] (.seq (.W 54 (.skip) (.exit 0)) (.n 2))
 | 4=>.R [.bd 49 [.int .i64 0,.int .i64 0] [(0,1,(.i 1)),(1,1,(.i 0))],.al 12 DS [.int .i64 0,.int .i64 0],.K 2 12 49] (.seq (.R [.D 50 2 4,.B 51 50,.Y 52 51,.mv 53 (.i 0)] (.J 0 1)) (.n 0))
 | 5=>.R [.A 40 0,.E 41 3 7,.A 42 2,.call (some 43) Cw [.s 40,.s 41,.s 42],.al 11 DS [.int .i64 0,.int .i64 0],.L 11 2 43] (.R [.A 44 2,.D 45 0 4,.B 46 45,.E 47 2 11,.mup true (.s 44) (.s 46) (.s 47)] (.R [.E 48 2 11,.K 2 6 48] (.ret)))
 | 6=>.seq (.R [.A 32 2,.D 33 0 4,.B 34 33,.lkp 35 true true (.agg [.int .i64 0,.int .i64 0]) (.s 32) (.s 34),.A 31 35,.F 36 31 0,.F 37 31 1,.al 9 DS [.int .i64 0,.int .i64 0],.L 9 2 36,.A 10 37] (.R [.A 38 10] (.W 38 (.R [.E 39 2 9,.K 2 6 39] (.ret)) (.skip)))) (.n 5)
 | _=>.skip
def body:C:=.R [.Z 4 A3 1,.al 6 DS [.int .i64 0,.int .i64 0]] (.seq (.R [.D 16 1 4,.B 17 16] (.W 17 (.seq (.dr [0,1,2,3,4,5,6,7,8,9,10,11,12] [.A 19 0,.nc 20 (.s 19),.D 21 0 20,.B 22 21,.D 23 0 4,.B 24 23,.lkp 25 true true (.agg [.str [],.bool false,.sl 3 []]) (.s 22) (.s 24),.A 18 25,.F 26 18 0,.F 27 18 1,.al 7 A3 Co,.L 7 3 26,.A 8 27]) (.seq (.R [.A 28 8,.Q 29 28] (.W 29 (.R [.bd 30 [.int .i64 0,.int .i64 0] [(0,1,(.i 1)),(1,1,(.i 1))],.K 2 6 30] (.ret)) (.skip))) (.n 6))) (.skip))) (.n 4))
def rs:List RV:=[.a 6 2]
attribute [push_cast] nd body
theorem ok:Bd prog Cw nd body 3 rs=true:=by kernel_rfl
abbrev L3 (a b c d e f g:V)(B:Nat)(H:CX)(Q:QX):Prop:=Ax prog nd B (DA 3 1 0 0) [(0,a),(2,b),(6,c),(12,d),(51,e),(52,f),(53,g)] H Q
end D4
namespace ES
def nd:Nat->C
 | 0=>.R [.E 48 3 7,.K 3 4 48] (.ret)
 | 1=>.gh [.ks 3 [0,4,7,33,34,35]] (.m 3)
 | 2=>.seq (.blk 1 (.R [.G 37 3 33 35,.E 38 3 37,.al 9 A3 Co,.L 9 3 38] (.dr [2,3] [.A 41 0,.E 42 3 9,.alt [([0],[.D 39 2 7,.alt [([1,4,5,6,7,8],[.B 40 39,.call (some 43) BX [.s 41,.s 42],.bs 44 3 [.s 43],.app 45 A3 3 48 (.s 40) (.s 44),.D 46 2 7,.K 1 46 45]),([4,1,5,6,7,8],[.call (some 43) BX [.s 41,.s 42],.B 40 39,.bs 44 3 [.s 43],.app 45 A3 3 48 (.s 40) (.s 44),.D 46 2 7,.K 1 46 45])]]),([4,0,1,5,6,7,8],[.call (some 43) BX [.s 41,.s 42],.D 39 2 7,.B 40 39,.bs 44 3 [.s 43],.app 45 A3 3 48 (.s 40) (.s 44),.D 46 2 7,.K 1 46 45])]]))) (.reg [.X 47 .add 35 1,.A 35 47])
 | 3=>.R [.V 36 .lss 35 34] (.seq (.W 36 (.skip) (.exit 0)) (.n 2))
 | 4=>.R [.D 29 0 3,.B 30 29,.bd 31 [.str [],.bool false,.nil] [(0,1,(.s 30))],.al 7 A3 [.str [],.bool false,.nil],.K 3 7 31,.ono A3 3 2 (.s 7)] (.seq (.R [.D 32 2 3,.B 33 32,.Y 34 33,.mv 35 (.i 0)] (.J 0 1)) (.n 0))
 | 5=>.R [.D 26 0 3,.B 27 26,.bd 28 Co [(0,1,(.s 27)),(1,1,(.c (.bool true)))],.K 3 4 28] (.ret)
 | _=>.skip
def body:C:=.R [.Z 3 A3 1,.al 4 A3 Co] (.seq (.R [.D 10 1 3,.B 11 10] (.W 11 (.seq (.seq (.dr [0,1,2,3,4,5,6,7,8,9,10,11,12] [.A 13 0,.nc 14 (.s 13),.D 15 0 14,.B 16 15,.D 17 0 3,.B 18 17,.lkp 19 true true (.agg [.str [],.bool false,.sl 3 []]) (.s 16) (.s 18),.A 12 19,.F 20 12 0,.F 21 12 1,.al 5 A3 Co,.L 5 3 20,.A 6 21]) (.R [.A 22 6] (.W 22 (.R [.A 23 0,.E 24 3 5,.call (some 25) BX [.s 23,.s 24],.K 3 4 25] (.ret)) (.skip)))) (.n 5)) (.skip))) (.n 4))
def rs:List RV:=[.a 4 3]
attribute [push_cast] nd body
theorem ok:Bd prog BX nd body 2 rs=true:=by kernel_rfl
abbrev L3 (a b c d e f:V)(B:Nat)(H:CX)(Q:QX):Prop:=Ax prog nd B (DA 3 1 0 0) [(0,a),(4,b),(7,c),(33,d),(34,e),(35,f)] H Q
end ES
namespace GZ
def nd:Nat->C
 | 0=>.R [.mv 6 (.c (.bool false))] (.ret)
 | 1=>.gh [.ks 0 [1,2,12,13,14]] (.m 3)
 | 2=>.seq (.blk 1 (.R [.G 16 2 12 14,.E 17 2 16,.al 8 Ff [.str [],.str []],.L 8 2 17] (.R [.E 18 2 8,.A 19 1,.A 20 2,.bd 21 [.str [],.str []] [(0,1,(.s 19)),(1,1,(.s 20))],.eqs 22 false [true,true] (.s 18) (.s 21)] (.W 22 (.R [.mv 6 (.c (.bool true))] (.ret)) (.skip))))) (.reg [.X 23 .add 14 1,.A 14 23])
 | 3=>.R [.V 15 .lss 14 13] (.seq (.W 15 (.skip) (.exit 0)) (.n 2))
 | _=>.skip
def body:C:=.R [.mv 6 (.c (.bool false))] (.seq (.R [.A 9 0,.nc 10 (.s 9),.D 11 1 10,.B 12 11,.Y 13 12,.mv 14 (.i 0)] (.J 0 1)) (.n 0))
def rs:List RV:=[.t 6]
attribute [push_cast] nd body
theorem ok:Bd prog HR nd body 3 rs=true:=by kernel_rfl
abbrev L3 (a b c d e:V)(B:Nat)(H:CX)(Q:QX):Prop:=Ax prog nd B (DA 3 1 0 0) [(1,a),(2,b),(12,c),(13,d),(14,e)] H Q
end GZ
namespace O0
def nd:Nat->C
 | 0=>.R [.E 17 3 3,.K 3 4 17] (.ret)
 | 1=>.gh [.ks 2 [0,3,4]] (.m 3)
 | 2=>.blk 1 (.reg [.A 13 0,.D 14 0 3,.B 15 14,.U 16 I3 [.s 13,.s 15],.K 3 3 16])
 | 3=>.seq (.R [.D 5 1 3,.B 6 5,.A 7 6,.P 7 true [8,9,10,11] [.A 8 0,.D 9 0 3,.B 10 9,.U 11 ME [.s 8,.s 10]],.N 12 7 11] (.W 12 (.skip) (.exit 0))) (.n 2)
 | _=>.skip
def body:C:=.R [.bx 3 A3 (.s 1),.al 4 A3 Co] (.seq (.J 0 1) (.n 0))
def rs:List RV:=[.a 4 3]
attribute [push_cast] nd body
theorem ok:Bd prog LP nd body 2 rs=true:=by kernel_rfl
abbrev L3 (a b c:V)(B:Nat)(H:CX)(Q:QX):Prop:=Ax prog nd B (DA 3 1 0 0) [(0,a),(3,b),(4,c)] H Q
end O0
namespace Pm
def nd:Nat->C
 | 0=>.seq (.dr [0,1,2,3,4,5,6,7,8,9,10] [.A 15 0,.A 16 0,.nc 17 (.s 16),.D 18 0 17,.B 19 18,.A 20 1,.E 21 3 5,.U 22 S7 [.s 19,.s 20,.s 21],.nc 23 (.s 15),.D 24 0 23,.K 1 24 22]) (.R [.mv 6 (.c (.bool true))] (.ret))
 | _=>.skip
def body:C:=.R [.Z 5 A3 2,.mv 6 (.c (.bool false))] (.seq (.seq (.dr [0,1,2,3,4,6,5,7] [.A 7 0,.nc 8 (.s 7),.D 9 0 8,.B 10 9,.E 11 3 5,.A 13 1,.call (some 12) Kc [.s 10,.s 11,(.c .nil)],.U 14 NQ [.s 12,.s 13]]) (.W 14 (.R [.mv 6 (.c (.bool false))] (.ret)) (.skip))) (.n 0))
def rs:List RV:=[.t 6]
attribute [push_cast] nd body
theorem ok:Bd prog Gf nd body 3 rs=true:=by kernel_rfl
end Pm
namespace Ka
def nd:Nat->C
 | 0=>.R [.A 64 12,.A 65 13,.mn 66 (.s 65) (.i 200),.X 67 .add 66 1,.A 8 64,.A 9 67] (.ret)
 | 1=>.gh [.ks 0 [0,1,2,12,13,42,43,44]] (.m 3)
 | 2=>.seq (.blk 3 (.R [.G 46 3 42 44,.E 47 3 46,.al 15 A3 Co,.L 15 3 47] (.R [.A 49 0,.A 50 1,.A 51 2,.E 52 3 15,.call (some 53) K1 [.s 49,.s 50,.s 51,.s 52],.A 48 53,.F 54 48 0,.F 55 48 1,.A 16 54,.A 17 55] (.reg [.A 56 12,.A 57 16,.V 58 .add 56 57,.mn 59 (.s 58) (.i 4001),.A 60 13,.A 61 17,.mx 62 (.s 60) (.s 61),.A 12 59,.A 13 62])))) (.reg [.X 63 .add 44 1,.A 44 63])
 | 3=>.R [.V 45 .lss 44 43] (.seq (.W 45 (.skip) (.exit 2)) (.n 2))
 | 4=>.R [.mv 12 (.i 1),.mv 13 (.i 0)] (.seq (.R [.D 41 2 7,.B 42 41,.Y 43 42,.mv 44 (.i 0)] (.J 2 1)) (.n 0))
 | 5=>.R [.mv 8 (.i 1),.mv 9 (.i 1)] (.ret)
 | 6=>.gh [.ks 0 [1,2,7,20,21,22]] (.m 8)
 | 7=>.seq (.blk 1 (.R [.A 24 22,.G 25 4 20 22,.E 26 4 25,.al 11 Cc [.str [],.str [],.bool false,.sl 3 []],.A 10 24,.L 11 4 26] (.R [.D 27 0 11,.B 28 27,.D 29 0 7,.B 30 29,.V 31 .eql 28 30] (.W 31 (.seq (.dr [0,1,2,3,4,5,6,7,8,9] [.A 32 1,.A 33 10,.G 34 1 32 33,.B 35 34,.A 36 2,.A 37 10,.G 38 1 36 37,.B 39 38,.A 8 35,.A 9 39]) (.ret)) (.skip))))) (.reg [.X 40 .add 22 1,.A 22 40])
 | 8=>.R [.V 23 .lss 22 21] (.seq (.W 23 (.skip) (.exit 0)) (.n 7))
 | _=>.skip
def body:C:=.R [.Z 7 A3 3,.mv 8 (.i 0),.mv 9 (.i 0)] (.seq (.R [.D 18 1 7,.B 19 18] (.W 19 (.seq (.R [.A 20 0,.Y 21 20,.mv 22 (.i 0)] (.J 0 6)) (.n 5)) (.skip))) (.n 4))
def rs:List RV:=[.t 8,.t 9]
attribute [push_cast] nd body
theorem ok:Bd prog K1 nd body 4 rs=true:=by kernel_rfl
abbrev L3 (a b c d e f g h:V)(B:Nat)(H:CX)(Q:QX):Prop:=Ax prog nd B (DA 3 1 2 0) [(0,a),(1,b),(2,c),(12,d),(13,e),(42,f),(43,g),(44,h)] H Q
abbrev L8 (a b c d e f:V)(B:Nat)(H:CX)(Q:QX):Prop:=Ax prog nd B [.c (.m 8),.c (.loop (.n 6)),.mk 0,.c (.n 5),.c (.n 4)] [(1,a),(2,b),(7,c),(20,d),(21,e),(22,f)] H Q
end Ka
namespace FY
def nd (_:Nat):C:=.skip
def body:C:=.R [.mv 4 (.i 0)] (.R [.A 5 0,.A 6 1,.U 7 Cp [.s 5,.s 6],.A 4 7] (.ret))
def rs:List RV:=[.t 4]
attribute [push_cast] nd body
theorem ok:Bd prog F8 nd body 2 rs=true:=by kernel_rfl
end FY
namespace Ft
def nd:Nat->C
 | 0=>.R [.E 22 3 3,.K 3 4 22] (.ret)
 | 1=>.gh [.ks 2 [0,3,4]] (.m 3)
 | 2=>.blk 1 (.seq (.dr [0,1,2,3,4,5,6,7,8,9,10,11,12] [.A 10 0,.nc 11 (.s 10),.D 12 0 11,.B 13 12,.D 14 0 3,.B 15 14,.lkp 16 true true (.agg [.str [],.bool false,.sl 3 []]) (.s 13) (.s 15),.A 9 16,.F 17 9 0,.F 18 9 1,.al 5 A3 Co,.L 5 3 17,.A 6 18]) (.seq (.R [.A 19 6,.Q 20 19] (.W 20 (.exit 0) (.skip))) (.reg [.E 21 3 5,.K 3 3 21])))
 | 3=>.seq (.R [.D 7 1 3,.B 8 7] (.W 8 (.skip) (.exit 0))) (.n 2)
 | _=>.skip
def body:C:=.R [.bx 3 A3 (.s 1),.al 4 A3 Co] (.seq (.J 0 1) (.n 0))
def rs:List RV:=[.a 4 3]
attribute [push_cast] nd body
theorem ok:Bd prog CA nd body 2 rs=true:=by kernel_rfl
abbrev L3 (a b c:V)(B:Nat)(H:CX)(Q:QX):Prop:=Ax prog nd B (DA 3 1 0 0) [(0,a),(3,b),(4,c)] H Q
end Ft
namespace N5
def nd:Nat->C
 | 0=>.seq (.dr [0,1,2,3,4,5,6] [.A 12 0,.nc 13 (.s 12),.D 14 0 13,.B 15 14,.A 16 1,.E 17 3 5,.mup true (.s 15) (.s 16) (.s 17)]) (.R [.mv 6 (.c (.bool true))] (.ret))
 | _=>.skip
def body:C:=.R [.Z 5 A3 2,.mv 6 (.c (.bool false))] (.seq (.R [.A 7 0,.A 8 1,.E 9 3 5,.mkm 10,.call (some 11) Cd [.s 7,.s 8,.s 9,.s 10]] (.W 11 (.R [.mv 6 (.c (.bool false))] (.ret)) (.skip))) (.n 0))
def rs:List RV:=[.t 6]
attribute [push_cast] nd body
theorem ok:Bd prog EQ nd body 3 rs=true:=by kernel_rfl
end N5
namespace Hh
def nd:Nat->C
 | 0=>.R [.A 45 2,.A 6 45] (.ret)
 | 1=>.gh [.kt [0,2,34,35,36]] (.m 3)
 | 2=>.seq (.blk 1 (.R [.G 38 3 34 36,.E 39 3 38,.al 8 A3 Co,.L 8 3 39] (.reg [.A 40 0,.E 41 3 8,.A 42 2,.call (some 43) Kc [.s 40,.s 41,.s 42],.A 2 43]))) (.reg [.X 44 .add 36 1,.A 36 44])
 | 3=>.R [.V 37 .lss 36 35] (.seq (.W 37 (.skip) (.exit 0)) (.n 2))
 | 4=>.seq (.R [.D 33 2 4,.B 34 33,.Y 35 34,.mv 36 (.i 0)] (.J 0 1)) (.n 0)
 | 5=>.R [.A 32 2,.A 6 32] (.ret)
 | 6=>.R [.A 16 2,.D 17 0 4,.B 18 17,.bs 19 1 [.s 18],.app 20 Cf 1 16 (.s 16) (.s 19),.A 2 20] (.seq (.R [.A 21 0,.D 22 0 4,.B 23 22,.U 24 ME [.s 21,.s 23]] (.W 24 (.reg [.A 25 0,.A 26 0,.D 27 0 4,.B 28 27,.U 29 I3 [.s 26,.s 28],.A 30 2,.call (some 31) Kc [.s 25,.s 29,.s 30],.A 2 31]) (.skip))) (.n 5))
 | _=>.skip
def body:C:=.R [.Z 4 A3 1,.noz 2 Cf 1,.mv 6 (.c (.sl 1 []))] (.seq (.R [.D 9 1 4,.B 10 9] (.W 10 (.seq (.R [.A 11 2,.D 12 0 4,.B 13 12,.U 14 NQ [.s 11,.s 13]] (.W 14 (.R [.A 15 2,.A 6 15] (.ret)) (.skip))) (.n 6)) (.skip))) (.n 4))
def rs:List RV:=[.t 6]
attribute [push_cast] nd body
theorem ok:Bd prog Kc nd body 3 rs=true:=by kernel_rfl
abbrev L3 (a b c d e:V)(B:Nat)(H:CX)(Q:QX):Prop:=Ax prog nd B (DA 3 1 0 0) [(0,a),(2,b),(34,c),(35,d),(36,e)] H Q
end Hh
end Go.Dw
end
section
namespace Go.Dw
variable {s:List K} {B:Nat} {t:T} {H:List Ob} {Q:X->T->List Ob->Prop}
namespace K9
def nd:Nat->C
 | 0=>.R [.D 43 2 6,.B 44 43,.mf 45 Dj [] [.s 4,.s 5,.s 7],.call (some 46) AO [.s 44,.s 45],.A 8 46] (.ret)
 | 1=>.R [.B 35 7,.D 36 0 6,.B 37 36,.mup true (.s 35) (.s 37) (.c (.bool true))] (.R [.B 38 4,.B 39 5,.E 40 3 9,.B 41 7,.call (some 42) Cd [.s 38,.s 39,.s 40,.s 41],.A 8 42] (.ret))
 | 2=>.seq (.dr [0,1,2,3,4,5,6,7,8,9,10,11,12] [.B 18 4,.nc 19 (.s 18),.D 20 0 19,.B 21 20,.D 22 0 6,.B 23 22,.lkp 24 true true (.agg [.str [],.bool false,.sl 3 []]) (.s 21) (.s 23),.A 17 24,.F 25 17 0,.F 26 17 1,.al 9 A3 Co,.L 9 3 25,.A 10 26]) (.seq (.R [.A 27 10,.Q 28 27,.A 29 28,.P 29 false [30,31,32,33] [.B 30 7,.D 31 0 6,.B 32 31,.lkp 33 true false (.bool false) (.s 30) (.s 32)],.M 34 29 33] (.W 34 (.R [.mv 8 (.c (.bool false))] (.ret)) (.skip))) (.n 1))
 | _=>.skip
def body:C:=.R [.bx 4 IK (.s 0),.Z 5 Cf 1,.Z 6 A3 2,.bx 7 DC (.s 3),.mv 8 (.c (.bool false))] (.seq (.R [.D 11 1 6,.B 12 11] (.W 12 (.seq (.R [.D 13 0 6,.B 14 13,.B 15 5,.V 16 .eql 14 15] (.W 16 (.R [.mv 8 (.c (.bool true))] (.ret)) (.skip))) (.n 2)) (.skip))) (.n 0))
def rs:List RV:=[.t 8]
attribute [push_cast] nd body
theorem ok:Bd prog Cd nd body 4 rs=true:=by kernel_rfl
end K9
namespace J5
def nd (_:Nat):C:=.skip
def body:C:=.R [.Z 4 A3 0,.mv 5 (.c (.bool false))] (.R [.B 6 1,.B 7 2,.E 8 3 4,.B 9 3,.call (some 10) Cd [.s 6,.s 7,.s 8,.s 9],.A 5 10] (.ret))
def rs:List RV:=[.t 5]
attribute [push_cast] nd body
theorem ok:Bd prog Dj nd body 4 rs=true:=by kernel_rfl
end J5
end Go.Dw
end
namespace Go.Dw
theorem VA (t:Term)(hs:size t<2^62):PF Kg [An t] (.int .i64 (size t)):=by
 induction t using Ai with
 | h t ih =>
 refine Ab Re.ok rfl ?_
 have hst:=AJ t
 have hl:=Am t.args
 push_cast
 refine Ac (n:=t.args.length) (R:=fun k=>Re.L3 (.int .i64 ((1+Ae (t.args.take k):Nat):Int)) (Bk t.args) (.int .i64 t.args.length) (.int .i64 k) 0 [] _) ?_ ?_ 0 (by omega)
 ·intro k hk ih2
  have h1:=FN _ _ hk
  have h2:=EF t.args (k+1)
  have hm:=A4 hk
  refine A5.2 ?_
  push_cast[BC hk]
  refine .of (ih _ hm (by omega)) ?_
  push_cast[CD (show k<2^62 by omega)]
  rw[Bn (by omega) (by omega)]
  rw[h1]at ih2
  simpa[Int.add_assoc]using ih2
 ·refine A5.2 ?_
  push_cast[AZ (Nat.le_refl _)]
  refine A1 ?_
  push_cast[Re.rs,List.take_length,hst]
theorem dS {f:Term->Term->Bool}{g:Nat}(l m:List Term)(hl:l.length<2^62)(h:∀ a∈l,∀ b,PF g [An a,An b] (.bool (f a b))) :
  PF BG [Bk l,Bk m,.fn (.func g) [] []] (.bool (uj f l m)):=by
 refine Ab AI.ok rfl ?_
 push_cast
 refine⟨fun hne=>A1 ?_,fun he=>?_⟩
 ·push_cast[AI.rs]
  cases hq:uj f l m with
  | false=>rfl
  | true=>have:=lv hq;omega
 ·have he:l.length=m.length:=by omega
  refine Ac (n:=l.length) (R:=fun k=>uj f (l.drop k) (m.drop k)=uj f l m->AI.L3 (Bk m) (.fn (.func g) [] []) (Bk l) (.int .i64 l.length) (.int .i64 k) 0 [] _) ?_ ?_ 0 (by omega) (by simp)
  ·intro k hk ih hq
   have hkm:k<m.length:=by omega
   refine A5.2 ?_
   push_cast[BC hk,BC hkm]
   refine .of (h _ (A4 hk) _) ?_
   push_cast[CD (show k<2^62 by omega)]
   rw[Ag hk,Ag hkm]at hq
   simp only[uj]at hq
   refine⟨fun hf=>A1 ?_,fun hf=>?_⟩
   ·push_cast[AI.rs]
    simp only[Bool.not_eq_true']at hf
    rw[hf,Bool.false_and]at hq
    exact hq
   ·simp only[Bool.not_eq_false']at hf
    simp only[hf,Bool.true_and]at hq
    exact ih hq
  ·intro hq
   refine A5.2 ?_
   push_cast[AZ (Nat.le_refl _)]
   refine A1 ?_
   push_cast[AI.rs]
   rw[List.drop_eq_nil_of_le (by omega),List.drop_eq_nil_of_le (by omega)]at hq
   simpa[uj]using hq
theorem Ok (a b:Term)(hs:size a<2^62):PF Fu [An a,An b] (.bool (decide (a=b))):=by
 induction a using Ai generalizing b with
 | h a ih =>
 have hst:=AJ a
 have hl:=Am a.args
 refine Ab OE.ok rfl ?_
 have hE:=dS (f:=fun a b=>decide (a=b)) (g:=Fu) a.args b.args (by omega) fun x hx y=>ih x hx y (by have:=By hx;omega)
 rw[qV fun _ _ _=>rfl]at hE
 have hi:=Vv a b
 by_cases h1:a.name=b.name<;>by_cases h2:a.var=b.var<;>push_cast[h1,h2,beq_self_eq_true,show ∀ x y:Bool,(x==y)=decide (x=y) from fun x y=>by cases x<;>cases y<;>rfl]
 ·refine .of hE ?_
  push_cast
  refine A1 ?_
  push_cast[OE.rs]
  simp[hi,h1,h2]
 all_goals
  refine A1 ?_
  push_cast[OE.rs]
  simp[hi,h1,h2]
theorem JM {p:UInt8->Bool}{g:Nat}{caps:List V}(hc:∀ σ,AS σ caps=caps)(l:List UInt8)(hl:l.length<2^62)(h:∀ a∈l,PF g (.int .u8 a.toNat::caps) (.bool (p a))) :
  PF Da [DT cU8 1 l,.fn (.func g) [] caps] (.int .i64 (Ld p l)):=by
 refine Ab BN.ok rfl ?_
 push_cast[hc]
 refine Ac (n:=l.length) (R:=fun k=>(∀ j,j<k->p (l.getD j default)=false)->BN.L3 (DT cU8 1 l) (.fn (.func g) [] caps) (.int .i64 l.length) (.int .i64 k) 0 [] _) ?_ ?_ 0 (by omega) (by intro j hj;omega)
 ·intro k hk ih hq
  refine A5.2 ?_
  push_cast[BC hk,aP,nW,hc]
  refine .of (h _ (A4 hk)) ?_
  push_cast[CD (show k<2^62 by omega),hc]
  refine⟨fun hp=>A1 ?_,fun hp=>?_⟩
  ·push_cast[BN.rs]
   rw[Hc hk hp hq]
  ·exact ih fun j hj=>by rcases Nat.lt_succ_iff_lt_or_eq.1 hj with h | rfl;exact hq j h;exact hp
 ·intro hq
  refine A5.2 ?_
  push_cast[AZ (Nat.le_refl _)]
  refine A1 ?_
  push_cast[BN.rs]
  rw[Ij hq]
theorem Il {p:UInt8->Bool}{g:Nat}{caps:List V}(hc:∀ σ,AS σ caps=caps)(l:List UInt8)(hl:l.length<2^62)(h:∀ a∈l,PF g (.int .u8 a.toNat::caps) (.bool (p a))) :
  PF BQ [DT cU8 1 l,.fn (.func g) [] caps] (.bool (l.any p)):=by
 refine Ab CU.ok rfl ?_
 push_cast[hc]
 refine .of (JM hc l hl h) ?_
 push_cast[hc]
 refine A1 ?_
 push_cast[CU.rs,NF]
theorem JD {p:Term->Bool}{g:Nat}{caps:List V}(hc:∀ σ,AS σ caps=caps)(l:List Term)(hl:l.length<2^62)(h:∀ a∈l,PF g (An a::caps) (.bool (p a))) :
  PF Bh [DT cT 3 l,.fn (.func g) [] caps] (.int .i64 (Ld p l)):=by
 refine Ab BK.ok rfl ?_
 push_cast[hc]
 refine Ac (n:=l.length) (R:=fun k=>(∀ j,j<k->p (l.getD j default)=false)->BK.L3 (DT cT 3 l) (.fn (.func g) [] caps) (.int .i64 l.length) (.int .i64 k) 0 [] _) ?_ ?_ 0 (by omega) (by intro j hj;omega)
 ·intro k hk ih hq
  refine A5.2 ?_
  push_cast[BC hk,aP,nW,hc]
  refine .of (h _ (A4 hk)) ?_
  push_cast[CD (show k<2^62 by omega),hc]
  refine⟨fun hp=>A1 ?_,fun hp=>?_⟩
  ·push_cast[BK.rs]
   rw[Hc hk hp hq]
  ·exact ih fun j hj=>by rcases Nat.lt_succ_iff_lt_or_eq.1 hj with h | rfl;exact hq j h;exact hp
 ·intro hq
  refine A5.2 ?_
  push_cast[AZ (Nat.le_refl _)]
  refine A1 ?_
  push_cast[BK.rs]
  rw[Ij hq]
theorem Im {p:Term->Bool}{g:Nat}{caps:List V}(hc:∀ σ,AS σ caps=caps)(l:List Term)(hl:l.length<2^62)(h:∀ a∈l,PF g (An a::caps) (.bool (p a))) :
  PF AO [DT cT 3 l,.fn (.func g) [] caps] (.bool (l.any p)):=by
 refine Ab CV.ok rfl ?_
 push_cast[hc]
 refine .of (JD hc l hl h) ?_
 push_cast[hc]
 refine A1 ?_
 push_cast[CV.rs,NF]
theorem Jr {p:A2->Bool}{g:Nat}{caps:List V}(hc:∀ σ,AS σ caps=caps)(l:List A2)(hl:l.length<2^62)(h:∀ a∈l,PF g (Kn a::caps) (.bool (p a))) :
  PF Dd [DT cR 6 l,.fn (.func g) [] caps] (.int .i64 (Ld p l)):=by
 refine Ab BM.ok rfl ?_
 push_cast[hc]
 refine Ac (n:=l.length) (R:=fun k=>(∀ j,j<k->p (l.getD j default)=false)->BM.L3 (DT cR 6 l) (.fn (.func g) [] caps) (.int .i64 l.length) (.int .i64 k) 0 [] _) ?_ ?_ 0 (by omega) (by intro j hj;omega)
 ·intro k hk ih hq
  refine A5.2 ?_
  push_cast[BC hk,aP,nW,hc]
  refine .of (h _ (A4 hk)) ?_
  push_cast[CD (show k<2^62 by omega),hc]
  refine⟨fun hp=>A1 ?_,fun hp=>?_⟩
  ·push_cast[BM.rs]
   rw[Hc hk hp hq]
  ·exact ih fun j hj=>by rcases Nat.lt_succ_iff_lt_or_eq.1 hj with h | rfl;exact hq j h;exact hp
 ·intro hq
  refine A5.2 ?_
  push_cast[AZ (Nat.le_refl _)]
  refine A1 ?_
  push_cast[BM.rs]
  rw[Ij hq]
theorem Ee {p:A2->Bool}{g:Nat}{caps:List V}(hc:∀ σ,AS σ caps=caps)(l:List A2)(hl:l.length<2^62)(h:∀ a∈l,PF g (Kn a::caps) (.bool (p a))) :
  PF BP [DT cR 6 l,.fn (.func g) [] caps] (.bool (l.any p)):=by
 refine Ab CW.ok rfl ?_
 push_cast[hc]
 refine .of (Jr hc l hl h) ?_
 push_cast[hc]
 refine A1 ?_
 push_cast[CW.rs,NF]
theorem HX {p:A9->Bool}{g:Nat}{caps:List V}(hc:∀ σ,AS σ caps=caps)(l:List A9)(hl:l.length<2^62)(h:∀ a∈l,PF g (.str a::caps) (.bool (p a))) :
  PF Cs [DT cS 1 l,.fn (.func g) [] caps] (.int .i64 (Ld p l)):=by
 refine Ab Bp.ok rfl ?_
 push_cast[hc]
 refine Ac (n:=l.length) (R:=fun k=>(∀ j,j<k->p (l.getD j default)=false)->Bp.L3 (DT cS 1 l) (.fn (.func g) [] caps) (.int .i64 l.length) (.int .i64 k) 0 [] _) ?_ ?_ 0 (by omega) (by intro j hj;omega)
 ·intro k hk ih hq
  refine A5.2 ?_
  push_cast[BC hk,aP,nW,hc]
  refine .of (h _ (A4 hk)) ?_
  push_cast[CD (show k<2^62 by omega),hc]
  refine⟨fun hp=>A1 ?_,fun hp=>?_⟩
  ·push_cast[Bp.rs]
   rw[Hc hk hp hq]
  ·exact ih fun j hj=>by rcases Nat.lt_succ_iff_lt_or_eq.1 hj with h | rfl;exact hq j h;exact hp
 ·intro hq
  refine A5.2 ?_
  push_cast[AZ (Nat.le_refl _)]
  refine A1 ?_
  push_cast[Bp.rs]
  rw[Ij hq]
theorem Dr {p:A9->Bool}{g:Nat}{caps:List V}(hc:∀ σ,AS σ caps=caps)(l:List A9)(hl:l.length<2^62)(h:∀ a∈l,PF g (.str a::caps) (.bool (p a))) :
  PF Bu [DT cS 1 l,.fn (.func g) [] caps] (.bool (l.any p)):=by
 refine Ab Cl.ok rfl ?_
 push_cast[hc]
 refine .of (HX hc l hl h) ?_
 push_cast[hc]
 refine A1 ?_
 push_cast[Cl.rs,NF]
def EN (c:UInt8):Bool:=decide (97<=c.toNat/\c.toNat<=122)||decide (65<=c.toNat/\c.toNat<=90)||decide (48<=c.toNat/\c.toNat<=57)||decide (c.toNat=95)||decide (c.toNat=39)
theorem TK {p:Prop}(c:UInt8)
  (h:∀ b1 b2 b3 b4 b5 b6 b7 b8:Bool,((97:Int)<=(c.toNat:Int))=(b1=true)->((c.toNat:Int)<=122)=(b2=true)->((65:Int)<=(c.toNat:Int))=(b3=true)->((c.toNat:Int)<=90)=(b4=true)->((48:Int)<=(c.toNat:Int))=(b5=true)->((c.toNat:Int)<=57)=(b6=true) ->
   ((c.toNat:Int)=95)=(b7=true)->((c.toNat:Int)=39)=(b8=true)->EN c=((b1&&b2)||(b3&&b4)||(b5&&b6)||b7||b8) ->
   (b1,b2,b3,b4,b5,b6,b7,b8)∈[(false,true,false,true,false,true,false,false),(false,true,false,true,false,true,false,true),(false,true,false,true,true,true,false,false),(false,true,false,true,true,false,false,false),(false,true,true,true,true,false,false,false),(false,true,true,false,true,false,false,false),(false,true,true,false,true,false,true,false),(true,true,true,false,true,false,false,false),(true,false,true,false,true,false,false,false)]->p):p:=by
 have hr:(c.toNat<39\/40<=c.toNat/\c.toNat<48)\/(c.toNat=39)\/(48<=c.toNat/\c.toNat<=57)\/(58<=c.toNat/\c.toNat<65)\/(65<=c.toNat/\c.toNat<=90)\/(91<=c.toNat/\c.toNat<97/\c.toNat≠95)\/(c.toNat=95)\/(97<=c.toNat/\c.toNat<=122)\/(122<c.toNat):=by omega
 rcases hr with hr | hr | hr | hr | hr | hr | hr | hr | hr
 ·refine h false true false true false true false false ?_ ?_ ?_ ?_ ?_ ?_ ?_ ?_ ?_ (by simp)
  case refine_9=>simp[EN];omega
  all_goals (simp;omega)
 ·refine h false true false true false true false true ?_ ?_ ?_ ?_ ?_ ?_ ?_ ?_ ?_ (by simp)
  case refine_9=>simp[EN];omega
  all_goals (simp;omega)
 ·refine h false true false true true true false false ?_ ?_ ?_ ?_ ?_ ?_ ?_ ?_ ?_ (by simp)
  case refine_9=>simp[EN];omega
  all_goals (simp;omega)
 ·refine h false true false true true false false false ?_ ?_ ?_ ?_ ?_ ?_ ?_ ?_ ?_ (by simp)
  case refine_9=>simp[EN];omega
  all_goals (simp;omega)
 ·refine h false true true true true false false false ?_ ?_ ?_ ?_ ?_ ?_ ?_ ?_ ?_ (by simp)
  case refine_9=>simp[EN];omega
  all_goals (simp;omega)
 ·refine h false true true false true false false false ?_ ?_ ?_ ?_ ?_ ?_ ?_ ?_ ?_ (by simp)
  case refine_9=>simp[EN];omega
  all_goals (simp;omega)
 ·refine h false true true false true false true false ?_ ?_ ?_ ?_ ?_ ?_ ?_ ?_ ?_ (by simp)
  case refine_9=>simp[EN];omega
  all_goals (simp;omega)
 ·refine h true true true false true false false false ?_ ?_ ?_ ?_ ?_ ?_ ?_ ?_ ?_ (by simp)
  case refine_9=>simp[EN];omega
  all_goals (simp;omega)
 ·refine h true false true false true false false false ?_ ?_ ?_ ?_ ?_ ?_ ?_ ?_ ?_ (by simp)
  case refine_9=>simp[EN];omega
  all_goals (simp;omega)
theorem Zs (c:UInt8):PF Np [.int .u8 c.toNat] (.bool (EN c)):=by
 refine Ab QD.ok rfl ?_
 refine TK c fun b1 b2 b3 b4 b5 b6 b7 b8 e1 e2 e3 e4 e5 e6 e7 e8 hl hm=>?_
 rw[hl];clear hl
 simp only[List.mem_cons,Prod.mk.injEq,List.not_mem_nil,or_false]at hm
 rcases hm with h | h | h | h | h | h | h | h | h<;>obtain⟨rfl,rfl,rfl,rfl,rfl,rfl,rfl,rfl⟩:=h<;>push_cast[e1,e2,e3,e4,e5,e6,e7,e8]<;>refine A1 ?_<;>push_cast[QD.rs]<;>rfl
theorem dJ (c:UInt8):PF OW [.int .u8 c.toNat] (.bool (EN c)):=by
 refine Ab SC.ok rfl ?_
 refine TK c fun b1 b2 b3 b4 b5 b6 b7 b8 e1 e2 e3 e4 e5 e6 e7 e8 hl hm=>?_
 rw[hl];clear hl
 simp only[List.mem_cons,Prod.mk.injEq,List.not_mem_nil,or_false]at hm
 rcases hm with h | h | h | h | h | h | h | h | h<;>obtain⟨rfl,rfl,rfl,rfl,rfl,rfl,rfl,rfl⟩:=h<;>push_cast[e1,e2,e3,e4,e5,e6,e7,e8]<;>refine A1 ?_<;>push_cast[SC.rs]<;>rfl
def J2 (s p:A9):Bool:=decide (p.length<=s.length)&&decide (s.drop (s.length-p.length)=p)
theorem AdM {a b:Nat}(h:b<=a)(h2:a<2^62):IntKind.i64.wrap ((a:Int)-(b:Int))=((a-b:Nat):Int):=by rw[Bn (by omega) (by omega)];omega
theorem I6 (s p:A9)(h1:s.length<2^62)(h2:p.length<2^62):PF Dp [.str s,.str p] (.bool (J2 s p)):=by
 refine Ab E9.ok rfl ?_
 by_cases h:p.length<=s.length
 ·have hi:((p.length:Int)<=(s.length:Int))=True:=eq_true (by omega)
  push_cast[hi,AdM h h1]
  refine⟨by omega,A1 ?_⟩
  push_cast[E9.rs,J2,h]
  rw[List.take_of_length_le (by simp)]
 ·have hi:((p.length:Int)<=(s.length:Int))=False:=eq_false (by omega)
  push_cast[hi]
  refine A1 ?_
  push_cast[E9.rs,J2,h]
def JP (s p:A9):A9:=if J2 s p then s.take (s.length-p.length) else s
theorem Ny (s p:A9)(h1:s.length<2^62)(h2:p.length<2^62):PF EL [.str s,.str p] (.str (JP s p)):=by
 refine Ab DL.ok rfl ?_
 push_cast
 refine .of (I6 s p h1 h2) ?_
 push_cast
 refine⟨fun h=>?_,fun h=>A1 ?_⟩
 ·have hl:p.length<=s.length:=by simp only[J2,Bool.and_eq_true,decide_eq_true_eq]at h;exact h.1
  push_cast[AdM hl h1]
  refine⟨by omega,A1 ?_⟩
  push_cast[DL.rs,JP,h]
  simp
 ·push_cast[DL.rs,JP,h]
theorem PI (s p:A9)(h1:s.length<2^62)(h2:p.length<2^62):PF Gs [.str s,.str p] (.str (JP s p)):=by
 refine Ab HO.ok rfl ?_
 push_cast
 refine .of (Ny s p h1 h2) ?_
 push_cast
 exact A1 (by push_cast[HO.rs])
theorem Rn (s p:A9)(h1:s.length<2^62)(h2:p.length<2^62):PF Hn [.str s,.str p] (.bool (J2 s p)):=by
 refine Ab IU.ok rfl ?_
 push_cast
 refine .of (I6 s p h1 h2) ?_
 push_cast
 exact A1 (by push_cast[IU.rs])
theorem Zk (s:A9)(h1:s.length<2^62):PF Nb [.str s] (.bool (J2 s [35])):=by
 refine Ab PL.ok rfl ?_
 push_cast
 refine .of (Rn s [35] h1 (by decide)) ?_
 push_cast
 exact A1 (by push_cast[PL.rs])
theorem Wm (c:UInt8):PF HF [.int .u8 c.toNat] (.bool (!EN c)):=by
 refine Ab Nu.ok rfl ?_
 push_cast
 refine .of (Zs c) ?_
 push_cast
 exact A1 (by push_cast[Nu.rs])
def EG (s:A9)(marked:Bool):A9:=if marked then JP s [35] else s
def BW (s:A9)(marked:Bool):Bool:=decide (s.length<=24)&&(!decide (EG s marked=[])&&(EG s marked).all EN)
theorem Wx {α:Type}(p:α->Bool)(l:List α):(!l.any fun a=>!p a)=l.all p:=by induction l with | nil=>rfl | cons a l ih=>simp_all
theorem fx (s p:A9):(JP s p).length<=s.length:=by unfold JP;split<;>simp
theorem Yj (s:A9)(m:Bool):(EG s m).length<=s.length:=by unfold EG;split;exact fx _ _;exact Nat.le_refl _
theorem RP (s:A9)(m:Bool)(h1:s.length<2^62):PF DQ [.str s,.bool m] (.bool (BW s m)):=by
 refine Ab Gz.ok rfl ?_
 push_cast
 refine⟨fun h=>A1 ?_,fun h=>?_⟩
 ·push_cast[Gz.rs,BW]
  rw[show decide (s.length<=24)=false from decide_eq_false (by omega)];rfl
 ·have hlen:s.length<=24:=by omega
  have fin:∀ u:A9,u.length<=24->u=EG s m->PF BQ [DT cU8 1 u,.fn (.func HF) [] []] (.bool (u.any fun c=>!EN c)):=fun u hu _=>Il (p:=fun c=>!EN c) (caps:=[]) (fun _=>by push_cast) u (by omega) fun c _=>Wm c
  have hnl:=Yj s m
  have hmx:(EG s m).length<=Ah:=by unfold Ah;omega
  cases m with
  | true =>
   push_cast
   refine .of (PI s [35] h1 (by decide)) ?_
   have hn:JP s [35]=EG s true:=rfl
   rw[hn]
   push_cast
   by_cases hu:EG s true=[]
   ·push_cast[hu]
    exact A1 (by push_cast[Gz.rs,BW,hu])
   ·push_cast[hu,hmx]
    refine .of (fin _ (by omega) rfl) ?_
    push_cast
    exact A1 (by push_cast[Gz.rs,BW,hu,hlen,Wx])
  | false =>
   have hn:s=EG s false:=rfl
   have hmx':s.length<=Ah:=by unfold Ah;omega
   push_cast
   by_cases hu:s=[]
   ·push_cast[hu]
    exact A1 (by push_cast[Gz.rs,BW];simp[hu,EG])
   ·push_cast[hu,hmx']
    refine .of (fin _ (by omega) rfl) ?_
    push_cast
    exact A1 (by push_cast[Gz.rs,BW,<-hn,hu,hlen,Wx])
mutual
def depth:Term->Nat
 | .mk _ _ l=>AD l+1
def AD:List Term->Nat
 | []=>0
 | a::l=>max (depth a) (AD l)
end
theorem Fz (t:Term):depth t=AD t.args+1:=by cases t;simp[depth,Term.args]
theorem EM (a b:List Term):AD (a++b)=max (AD a) (AD b):=by
 induction a with
 | nil=>simp[AD]
 | cons x xs ih=>simp[AD,ih,Nat.max_assoc]
theorem O3 (l:List Term)(k:Nat)(h:k<l.length):AD (l.take (k+1))=max (AD (l.take k)) (depth (l.getD k default)):=by
 rw[Aa h,EM];simp[AD]
mutual
theorem HB:∀ t,depth t<=size t
 | .mk _ _ l=>by simp only[depth,size];have:=En l;omega
theorem En:∀ l,AD l<=Ae l
 | []=>by simp[AD,Ae]
 | a::l=>by simp only[AD,Ae];have:=HB a;have:=En l;omega
end
theorem IX (l:List Term)(k:Nat):AD (l.take k)<=AD l:=by
 conv=>rhs;rw[<-List.take_append_drop k l]
 rw[EM];omega
theorem Ae8 {a b:Nat}:(if (b:Int) > (a:Int) then (b:Int) else (a:Int))=((max a b:Nat):Int):=by split<;>omega
attribute [push_cast] Ae8
theorem Tv (t:Term)(hs:size t<2^62):PF IW [An t] (.int .i64 (depth t)):=by
 induction t using Ai with
 | h t ih =>
 refine Ab Od.ok rfl ?_
 have hst:=AJ t
 have hl:=Am t.args
 have hd:=En t.args
 push_cast
 refine Ac (n:=t.args.length) (R:=fun k=>Od.L3 (.int .i64 (AD (t.args.take k):Nat)) (Bk t.args) (.int .i64 t.args.length) (.int .i64 k) 0 [] _) ?_ ?_ 0 (by omega)
 ·intro k hk ih2
  have h1:=O3 _ _ hk
  have hm:=A4 hk
  have:=By hm
  refine A5.2 ?_
  push_cast[BC hk]
  refine .of (ih _ hm (by omega)) ?_
  push_cast[CD (show k<2^62 by omega)]
  rw[h1]at ih2
  exact ih2
 ·refine A5.2 ?_
  push_cast[AZ (Nat.le_refl _)]
  rw[Bn (by have:=IX t.args t.args.length;omega) (by have:=IX t.args t.args.length;omega)]
  refine A1 ?_
  push_cast[Od.rs,List.take_length,Fz t]
def tb:Term->Nat
 | .mk n _ l=>1+n.length+tbs l
where tbs:List Term->Nat
 | []=>0
 | a::l=>tb a+tbs l
abbrev tbs:=tb.tbs
theorem KX (t:Term):tb t=1+t.name.length+tbs t.args:=by cases t;simp[tb,Term.name,Term.args]
theorem OC {l:List Term}{a:Term}(h:a∈l):tb a<=tbs l:=by
 induction l with
 | nil=>cases h
 | cons x xs ih=>rcases List.mem_cons.1 h with rfl | h<;>simp[tbs,tb.tbs];have:=ih h;simp only[tbs]at this;omega
mutual
theorem AX:∀ t,size t<=tb t
 | .mk _ _ l=>by simp only[size,tb];have:=OK l;simp only[tbs]at this;omega
theorem OK:∀ l,Ae l<=tbs l
 | []=>by simp[Ae]
 | a::l=>by simp only[Ae,tbs,tb.tbs];have:=AX a;have:=OK l;simp only[tbs]at this;omega
end
mutual
def Db:Term->Bool
 | .mk n v l=>if v then decide (l.length=0)&&BW n false else decide (l.length<=8)&&(BW n true&&P1 l)
def P1:List Term->Bool
 | []=>true
 | a::l=>Db a&&P1 l
end
theorem VJ (l:List Term):P1 l=l.all Db:=by induction l with | nil=>rfl | cons a l ih=>simp[P1,ih]
theorem EX (t:Term):Db t=if t.var then decide (t.args.length=0)&&BW t.name false else decide (t.args.length<=8)&&(BW t.name true&&t.args.all Db):=by
 cases t with | mk n v l=>cases v<;>simp[Db,VJ,Term.var,Term.args,Term.name]<;>rfl
theorem Hp (l:List Term):l.length<=tbs l:=Nat.le_trans (Am l) (OK l)
theorem ZC (t:Term)(hs:tb t<2^62):PF JW [An t] (.bool (Db t)):=by
 induction t using Ai with
 | h t ih =>
 have htb:=KX t
 have hl:=Hp t.args
 have hI:∀ m,PF DQ [.str t.name,.bool m] (.bool (BW t.name m)):=fun m=>RP _ m (by omega)
 have hC:=Im (p:=fun a=>!Db a) (g:=Kt) (caps:=[]) (fun _=>by push_cast) t.args (by omega) fun a ha=>by
  refine Ab Nd.ok rfl ?_
  push_cast
  refine .of (ih a ha (by have:=OC ha;omega)) ?_
  push_cast
  exact A1 (by push_cast[Nd.rs])
 refine Ab Gw.ok rfl ?_
 cases hv:t.var with
 | true =>
  by_cases h0:t.args.length=0
  ·push_cast[hv,h0]
   refine .of (hI false) ?_
   push_cast
   exact A1 (by push_cast[Gw.rs,EX t,hv,h0])
  ·have hi:((t.args.length:Int)=0)=False:=eq_false (by omega)
   push_cast[hv,hi]
   exact A1 (by push_cast[Gw.rs,EX t,hv,h0])
 | false =>
  by_cases h0:t.args.length<=8
  ·have hi:((t.args.length:Int)<=8)=True:=eq_true (by omega)
   push_cast[hv,hi]
   refine .of (hI true) ?_
   cases hn:BW t.name true
   ·push_cast
    exact A1 (by push_cast[Gw.rs,EX t,hv,h0,hn])
   ·push_cast
    refine .of hC ?_
    push_cast
    exact A1 (by push_cast[Gw.rs,EX t,hv,h0,hn,Wx])
  ·have hi:((t.args.length:Int)<=8)=False:=eq_false (by omega)
   push_cast[hv,hi]
   exact A1 (by push_cast[Gw.rs,EX t,hv,h0])
def BJ (t:Term):Bool:=decide (size t<=4000)&&decide (depth t<=200)
theorem VV (t:Term)(hs:size t<2^62):PF N4 [An t] (.bool (BJ t)):=by
 refine Ab R9.ok rfl ?_
 push_cast
 refine .of (VA t hs) ?_
 push_cast
 by_cases h:size t<=4000
 ·have hi:((size t:Int)<=4000)=True:=eq_true (by omega)
  push_cast[hi]
  refine .of (Tv t hs) ?_
  push_cast
  exact A1 (by push_cast[R9.rs,BJ,h];simp;omega)
 ·have hi:((size t:Int)<=4000)=False:=eq_false (by omega)
  push_cast[hi]
  exact A1 (by push_cast[R9.rs,BJ,h])
def FQ (t:Term):Int:=if Db t then (if BJ t then 0 else 3) else 4
theorem du (t:Term)(hs:tb t<2^62):PF P2 [An t] (.int .i64 (FQ t)):=by
 refine Ab Ou.ok rfl ?_
 push_cast
 refine .of (ZC t hs) ?_
 cases hf:Db t
 ·push_cast
  exact A1 (by push_cast[Ou.rs,FQ,hf])
 ·push_cast
  refine .of (VV t (by have:=AX t;omega)) ?_
  cases hg:BJ t<;>push_cast<;>exact A1 (by push_cast[Ou.rs,FQ,hf,hg])
end Go.Dw
