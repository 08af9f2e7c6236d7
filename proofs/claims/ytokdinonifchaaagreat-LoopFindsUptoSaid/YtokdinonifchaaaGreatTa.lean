/-
  Functions of the program, printed for the reader.
-/
import Derived.Test.YtokdinonifchaaaGreatNm
set_option maxRecDepth 100000
namespace Go.Dw
namespace l14_LoopFinds
def nd : Nat → C
  | 0 => .seq (.reg [.mv 59 (.s 8), .un 60 .not (.s 59), .mv 61 (.s 60), .gd (.s 61) false [62, 63, 64, 65] [.mv 62 (.s 0), .la 63 6 (.s 7), .callp (some 64) n_loop_Check [(.s 62), (.s 63)], .bin 65 .eql (.s 64) (.i 0)], .pick 66 (.s 61) (.c (.bool true)) (.s 65), .mv 67 (.s 66), .gd (.s 67) true [68] [.callp (some 68) n_l14_alive []], .pick 69 (.s 67) (.s 68) (.c (.bool false)), .mv 6 (.s 69)]) (.ret)
  | 1 => .seq (.seq (.reg [.mv 45 (.s 9), .mv 46 (.s 10), .bin 47 .neq (.s 45) (.s 46), .mv 48 (.s 47), .gd (.s 48) false [49, 50, 51] [.mv 49 (.s 8), .mv 50 (.s 12), .bb 51 .neq (.s 49) (.s 50)], .pick 52 (.s 48) (.c (.bool true)) (.s 51), .mv 53 (.s 52), .gd (.s 53) false [54, 55, 56, 57] [.la 54 6 (.s 7), .la 55 6 (.s 11), .callp (some 56) n_r14_Same [(.s 54), (.s 55)], .un 57 .not (.s 56)], .pick 58 (.s 53) (.c (.bool true)) (.s 57)]) (.cond (.s 58) (.seq (.reg [.mv 6 (.c (.bool false))]) (.ret)) (.skip))) (.n 0)
  | 2 => .seq (.reg [.bd 34 [.str [], .bool false, .sl 3 [], .sl 2 [], .sl 1 [], .sl 4 []] [], .al 11 t_Loop [.str [], .bool false, .sl 3 [], .sl 2 [], .sl 1 [], .sl 4 []], .st 6 (.s 11) (.s 34), .mv 12 (.c (.bool false))]) (.seq (.seq (.reg [.mv 35 (.s 10), .bin 36 .eql (.s 35) (.i 0)]) (.cond (.s 36) (.reg [.mv 38 (.s 0), .la 39 3 (.s 4), .mv 40 (.s 2), .callp (some 41) n_r14_Find [(.s 38), (.s 39), (.s 40)], .mv 37 (.s 41), .ex 42 (.s 37) 0, .ex 43 (.s 37) 1, .ex 44 (.s 37) 2, .st 6 (.s 11) (.s 42), .mv 12 (.s 43), .mv 10 (.s 44)]) (.skip))) (.n 1))
  | _ => .skip
def body : C := .seq (.reg [.br 4 t_Term (.s 1), .mv 6 (.c (.bool false))]) (.seq (.reg [.mv 14 (.s 0), .la 15 3 (.s 4), .mv 16 (.s 2), .callp (some 17) n_loop_Find [(.s 14), (.s 15), (.s 16)], .mv 13 (.s 17), .ex 18 (.s 13) 0, .ex 19 (.s 13) 1, .ex 20 (.s 13) 2, .al 7 t_Loop [.str [], .bool false, .sl 3 [], .sl 2 [], .sl 1 [], .sl 4 []], .sf 7 6 (.s 18), .mv 8 (.s 19), .mv 9 (.s 20)]) (.seq (.reg [.mv 21 (.s 0), .la 22 3 (.s 4), .callp (some 23) n_r04_Check [(.s 21), (.s 22)], .mv 10 (.s 23)]) (.seq (.seq (.reg [.mv 24 (.s 10), .bin 25 .eql (.s 24) (.i 0), .mv 26 (.s 25), .gd (.s 26) true [27, 28, 29] [.mv 27 (.s 2), .bin 28 .lss (.s 27) (.i 1), .mv 29 (.s 28)], .gd (.s 29) false [30, 31] [.mv 30 (.s 2), .bin 31 .gtr (.s 30) (.i 4096)], .gd (.s 26) true [32] [.pick 32 (.s 29) (.c (.bool true)) (.s 31)], .pick 33 (.s 26) (.s 32) (.c (.bool false))]) (.cond (.s 33) (.reg [.mv 10 (.i 2)]) (.skip))) (.n 2))))
def rs : List RV := [.t 6]
attribute [push_cast] nd body
theorem ok : okF prog n_l14_LoopFinds nd body 3 rs = true := by kernel_rfl
end l14_LoopFinds
namespace r14_Check
def nd : Nat → C
  | 0 => .seq (.reg [.mv 4 (.i 0)]) (.ret)
  | 1 => .seq (.seq (.dr [0, 1, 2, 3, 4, 5, 6, 7, 8] [.fa 47 5 (.s 3), .ld 48 (.s 47), .fa 49 0 (.s 3), .fa 50 0 (.s 49), .la 51 3 (.s 50), .callp (some 52) n_r01_Apply [(.s 48), (.s 51)], .la 53 3 (.s 6), .callp (some 54) n_r01_Equal [(.s 52), (.s 53)], .un 55 .not (.s 54)]) (.cond (.s 55) (.seq (.reg [.mv 4 (.i 11)]) (.ret)) (.skip))) (.n 0)
  | 2 => .seq (.seq (.reg [.fa 40 5 (.s 3), .ld 41 (.s 40), .fa 42 0 (.s 3), .fa 43 0 (.s 42), .la 44 3 (.s 43), .callp (some 45) n_r01_Fits [(.s 41), (.s 44)], .un 46 .not (.s 45)]) (.cond (.s 46) (.seq (.reg [.mv 4 (.i 3)]) (.ret)) (.skip))) (.n 1)
  | 3 => .seq (.seq (.reg [.fa 34 5 (.s 3), .ld 35 (.s 34), .callp (some 36) n_r01_CheckSubst [(.s 35)], .mv 8 (.s 36)]) (.seq (.reg [.mv 37 (.s 8), .bin 38 .neq (.s 37) (.i 0)]) (.cond (.s 38) (.seq (.reg [.mv 39 (.s 8), .mv 4 (.s 39)]) (.ret)) (.skip)))) (.n 2)
  | 4 => .seq (.dr [0, 1, 2, 3, 4, 5, 6, 7, 8, 9, 10, 11, 12] [.mv 23 (.s 0), .fa 24 0 (.s 3), .la 25 4 (.s 24), .callp (some 26) n_r05_Last [(.s 23), (.s 25)], .fa 27 4 (.s 3), .ld 28 (.s 27), .callp (some 29) n_r01_At [(.s 26), (.s 28)], .mv 22 (.s 29), .ex 30 (.s 22) 0, .ex 31 (.s 22) 1, .al 6 t_Term [.str [], .bool false, .sl 3 []], .sf 6 3 (.s 30), .mv 7 (.s 31)]) (.seq (.seq (.reg [.mv 32 (.s 7), .un 33 .not (.s 32)]) (.cond (.s 33) (.seq (.reg [.mv 4 (.i 8)]) (.ret)) (.skip))) (.n 3))
  | 5 => .seq (.seq (.reg [.fa 17 0 (.s 3), .fa 18 3 (.s 17), .ld 19 (.s 18), .len 20 (.s 19), .bin 21 .eql (.s 20) (.i 0)]) (.cond (.s 21) (.seq (.reg [.mv 4 (.i 11)]) (.ret)) (.skip))) (.n 4)
  | _ => .skip
def body : C := .seq (.reg [.br 3 t_Loop (.s 1), .mv 4 (.i 0)]) (.seq (.seq (.reg [.mv 9 (.s 0), .fa 10 0 (.s 3), .la 11 4 (.s 10), .bs 12 4 [(.s 11)], .callp (some 13) n_r05_Check [(.s 9), (.s 12)], .mv 5 (.s 13)]) (.seq (.reg [.mv 14 (.s 5), .bin 15 .neq (.s 14) (.i 0)]) (.cond (.s 15) (.seq (.reg [.mv 16 (.s 5), .mv 4 (.s 16)]) (.ret)) (.skip)))) (.n 5))
def rs : List RV := [.t 4]
attribute [push_cast] nd body
theorem ok : okF prog n_r14_Check nd body 2 rs = true := by kernel_rfl
end r14_Check
namespace loop_Check
def nd : Nat → C
  | 0 => .seq (.reg [.mv 4 (.i 0)]) (.ret)
  | 1 => .seq (.seq (.reg [.la 51 3 (.s 7), .la 52 3 (.s 9), .callp (some 53) n_term_Equal [(.s 51), (.s 52)], .un 54 .not (.s 53)]) (.cond (.s 54) (.seq (.reg [.mv 4 (.i 11)]) (.ret)) (.skip))) (.n 0)
  | 2 => .seq (.reg [.fa 40 5 (.s 3), .ld 41 (.s 40), .fa 42 0 (.s 3), .fa 43 0 (.s 42), .la 44 3 (.s 43), .callp (some 45) n_term_Apply [(.s 41), (.s 44)], .mv 39 (.s 45), .ex 46 (.s 39) 0, .ex 47 (.s 39) 1, .al 9 t_Term [.str [], .bool false, .sl 3 []], .sf 9 3 (.s 46), .mv 6 (.s 47)]) (.seq (.seq (.reg [.mv 48 (.s 6), .bin 49 .neq (.s 48) (.i 0)]) (.cond (.s 49) (.seq (.reg [.mv 50 (.s 6), .mv 4 (.s 50)]) (.ret)) (.skip))) (.n 1))
  | 3 => .seq (.dr [0, 1, 2, 3, 4, 5, 6, 7, 8, 9, 10, 11, 12, 13, 14] [.mv 26 (.s 5), .mv 27 (.s 5), .len 28 (.s 27), .bin 29 .sub (.s 28) (.i 1), .ia 30 3 (.s 26) (.s 29), .la 31 3 (.s 30), .fa 32 4 (.s 3), .ld 33 (.s 32), .callp (some 34) n_term_Sub [(.s 31), (.s 33)], .mv 25 (.s 34), .ex 35 (.s 25) 0, .ex 36 (.s 25) 1, .al 7 t_Term [.str [], .bool false, .sl 3 []], .sf 7 3 (.s 35), .mv 8 (.s 36)]) (.seq (.seq (.reg [.mv 37 (.s 8), .un 38 .not (.s 37)]) (.cond (.s 38) (.seq (.reg [.mv 4 (.i 8)]) (.ret)) (.skip))) (.n 2))
  | 4 => .seq (.seq (.reg [.fa 20 0 (.s 3), .fa 21 3 (.s 20), .ld 22 (.s 21), .len 23 (.s 22), .bin 24 .eql (.s 23) (.i 0)]) (.cond (.s 24) (.seq (.reg [.mv 4 (.i 11)]) (.ret)) (.skip))) (.n 3)
  | _ => .skip
def body : C := .seq (.reg [.br 3 t_Loop (.s 1), .mv 4 (.i 0)]) (.seq (.reg [.mv 11 (.s 0), .fa 12 0 (.s 3), .la 13 4 (.s 12), .callp (some 14) n_derive_Terms [(.s 11), (.s 13)], .mv 10 (.s 14), .ex 15 (.s 10) 0, .ex 16 (.s 10) 1, .mv 5 (.s 15), .mv 6 (.s 16)]) (.seq (.seq (.reg [.mv 17 (.s 6), .bin 18 .neq (.s 17) (.i 0)]) (.cond (.s 18) (.seq (.reg [.mv 19 (.s 6), .mv 4 (.s 19)]) (.ret)) (.skip))) (.n 4)))
def rs : List RV := [.t 4]
attribute [push_cast] nd body
theorem ok : okF prog n_loop_Check nd body 2 rs = true := by kernel_rfl
end loop_Check
namespace loop_Unroll
def nd : Nat → C
  | 0 => .seq (.reg [.la 83 4 (.s 9), .st 4 (.s 6) (.s 83), .mv 7 (.i 0)]) (.ret)
  | 1 => .seq (.seq (.reg [.mv 74 (.s 0), .la 75 4 (.s 9), .callp (some 76) n_derive_Run [(.s 74), (.s 75)], .mv 73 (.s 76), .ex 77 (.s 73) 0, .ex 78 (.s 73) 1, .mv 13 (.s 77), .mv 14 (.s 78)]) (.seq (.reg [.mv 79 (.s 14), .bin 80 .neq (.s 79) (.i 0)]) (.cond (.s 80) (.seq (.reg [.bd 81 [.str [], .bool false, .sl 3 [], .sl 2 []] [], .mv 82 (.s 14), .st 4 (.s 6) (.s 81), .mv 7 (.s 82)]) (.ret)) (.skip)))) (.n 0)
  | 2 => .gh [.ks 3 [0, 4, 6, 9, 10, 42, 43]] (.m 7)
  | 3 => .gh [.ks 3 [0, 4, 6, 9, 10, 42, 43, 47, 48, 49]] (.m 5)
  | 4 => .seq (.blk 3 (.seq (.reg [.ia 51 2 (.s 47) (.s 49), .la 52 2 (.s 51), .al 12 t_Step [.int .i64 0, .sl 1 []], .sf 12 2 (.s 52)]) (.dr [0, 1, 2, 3, 4, 5, 6, 7, 8, 9, 10, 11, 12, 13] [.fa 53 3 (.s 9), .ld 54 (.s 53), .fa 55 0 (.s 12), .ld 56 (.s 55), .mv 57 (.s 10), .fa 58 1 (.s 12), .ld 59 (.s 58), .bs 60 1 [(.s 57), (.s 59)], .callp (some 61) n_slices_Concat_s_int_int [(.s 60)], .bd 62 [.int .i64 0, .sl 1 []] [(0, 1, (.s 56)), (1, 1, (.s 61))], .bs 63 2 [(.s 62)], .app 64 t_Step 2 32 (.s 54) (.s 63), .fa 65 3 (.s 9), .st 1 (.s 65) (.s 64)]))) (.reg [.bin 66 .add (.s 49) (.i 1), .mv 49 (.s 66)])
  | 5 => .seq (.reg [.bin 50 .lss (.s 49) (.s 48)]) (.seq (.cond (.s 50) (.skip) (.exit 2)) (.n 4))
  | 6 => .seq (.blk 1 (.seq (.seq (.reg [.fa 45 0 (.s 4), .fa 46 3 (.s 45), .ld 47 (.s 46), .len 48 (.s 47), .mv 49 (.i 0)]) (.blk 2 (.loop (.n 3)))) (.reg [.mv 67 (.s 10), .fa 68 4 (.s 4), .ld 69 (.s 68), .bs 70 1 [(.s 67), (.s 69)], .callp (some 71) n_slices_Concat_s_int_int [(.s 70)], .mv 10 (.s 71)]))) (.reg [.bin 72 .add (.s 43) (.i 1), .mv 43 (.s 72)])
  | 7 => .seq (.reg [.bin 44 .lss (.s 43) (.s 42)]) (.seq (.cond (.s 44) (.skip) (.exit 0)) (.n 6))
  | 8 => .seq (.reg [.fa 37 0 (.s 4), .fa 38 0 (.s 37), .la 39 3 (.s 38), .callp (some 40) n_term_Own [(.s 39)], .bd 41 [.str [], .bool false, .sl 3 [], .nil] [(0, 3, (.s 40))], .al 9 t_Chain [.str [], .bool false, .sl 3 [], .nil], .st 4 (.s 9) (.s 41), .ono t_Step 2 3 (.s 9)]) (.seq (.reg [.mv 10 (.c (.sl 1 []))]) (.seq (.seq (.reg [.mv 42 (.s 2), .mv 43 (.i 0)]) (.blk 0 (.loop (.n 2)))) (.n 1)))
  | 9 => .seq (.seq (.reg [.mv 29 (.s 2), .fa 30 0 (.s 4), .fa 31 3 (.s 30), .ld 32 (.s 31), .len 33 (.s 32), .bin 34 .mul (.s 29) (.s 33), .bin 35 .gtr (.s 34) (.i 4096)]) (.cond (.s 35) (.seq (.reg [.bd 36 [.str [], .bool false, .sl 3 [], .sl 2 []] [], .st 4 (.s 6) (.s 36), .mv 7 (.i 3)]) (.ret)) (.skip))) (.n 8)
  | 10 => .seq (.seq (.reg [.mv 22 (.s 2), .bin 23 .lss (.s 22) (.i 0), .mv 24 (.s 23), .gd (.s 24) false [25, 26] [.mv 25 (.s 2), .bin 26 .gtr (.s 25) (.i 4096)], .pick 27 (.s 24) (.c (.bool true)) (.s 26)]) (.cond (.s 27) (.seq (.reg [.bd 28 [.str [], .bool false, .sl 3 [], .sl 2 []] [], .st 4 (.s 6) (.s 28), .mv 7 (.i 2)]) (.ret)) (.skip))) (.n 9)
  | _ => .skip
def body : C := .seq (.reg [.br 4 t_Loop (.s 1), .al 6 t_Chain [.str [], .bool false, .sl 3 [], .sl 2 []], .mv 7 (.i 0)]) (.seq (.seq (.reg [.mv 15 (.s 0), .la 16 6 (.s 4), .callp (some 17) n_loop_Check [(.s 15), (.s 16)], .mv 8 (.s 17)]) (.seq (.reg [.mv 18 (.s 8), .bin 19 .neq (.s 18) (.i 0)]) (.cond (.s 19) (.seq (.reg [.bd 20 [.str [], .bool false, .sl 3 [], .sl 2 []] [], .mv 21 (.s 8), .st 4 (.s 6) (.s 20), .mv 7 (.s 21)]) (.ret)) (.skip)))) (.n 10))
def rs : List RV := [.a 6 4, .t 7]
attribute [push_cast] nd body
theorem ok : okF prog n_loop_Unroll nd body 3 rs = true := by kernel_rfl
abbrev L5 (v0 v4 v6 v9 v10 v42 v43 v47 v48 v49 : V) (B : Nat) (H : List Ob) (Q : X → T → List Ob → Prop) : Prop := Run prog nd B [.c (.m 5), .c (.loop (.n 3)), .mk 2, .c (.reg [.mv 67 (.s 10), .fa 68 4 (.s 4), .ld 69 (.s 68), .bs 70 1 [(.s 67), (.s 69)], .callp (some 71) n_slices_Concat_s_int_int [(.s 70)], .mv 10 (.s 71)]), .mk 1, .c (.reg [.bin 72 .add (.s 43) (.i 1), .mv 43 (.s 72)]), .c (.loop (.n 2)), .mk 0, .c (.n 1)] [(0, v0), (4, v4), (6, v6), (9, v9), (10, v10), (42, v42), (43, v43), (47, v47), (48, v48), (49, v49)] H Q
theorem G5 {v0 v4 v6 v9 v10 v42 v43 v47 v48 v49 : V} {B : Nat} {H : List Ob} {Q : X → T → List Ob → Prop} (h : Run prog nd B [.c (nd 5), .c (.loop (.n 3)), .mk 2, .c (.reg [.mv 67 (.s 10), .fa 68 4 (.s 4), .ld 69 (.s 68), .bs 70 1 [(.s 67), (.s 69)], .callp (some 71) n_slices_Concat_s_int_int [(.s 70)], .mv 10 (.s 71)]), .mk 1, .c (.reg [.bin 72 .add (.s 43) (.i 1), .mv 43 (.s 72)]), .c (.loop (.n 2)), .mk 0, .c (.n 1)] [(0, v0), (4, v4), (6, v6), (9, v9), (10, v10), (42, v42), (43, v43), (47, v47), (48, v48), (49, v49)] H Q) : L5 v0 v4 v6 v9 v10 v42 v43 v47 v48 v49 B H Q := run_m.2 h
abbrev L7 (v0 v4 v6 v9 v10 v42 v43 : V) (B : Nat) (H : List Ob) (Q : X → T → List Ob → Prop) : Prop := Run prog nd B [.c (.m 7), .c (.loop (.n 2)), .mk 0, .c (.n 1)] [(0, v0), (4, v4), (6, v6), (9, v9), (10, v10), (42, v42), (43, v43)] H Q
theorem G7 {v0 v4 v6 v9 v10 v42 v43 : V} {B : Nat} {H : List Ob} {Q : X → T → List Ob → Prop} (h : Run prog nd B [.c (nd 7), .c (.loop (.n 2)), .mk 0, .c (.n 1)] [(0, v0), (4, v4), (6, v6), (9, v9), (10, v10), (42, v42), (43, v43)] H Q) : L7 v0 v4 v6 v9 v10 v42 v43 B H Q := run_m.2 h
end loop_Unroll
namespace r05_Check
def nd : Nat → C
  | 0 => .seq (.reg [.mv 4 (.i 0)]) (.ret)
  | 1 => .gh [.ks 0 [0, 15, 16, 17]] (.m 3)
  | 2 => .seq (.blk 1 (.seq (.reg [.ia 19 4 (.s 15) (.s 17), .la 20 4 (.s 19), .al 7 t_Chain [.str [], .bool false, .sl 3 [], .sl 2 []], .sf 7 4 (.s 20)]) (.seq (.reg [.mv 22 (.s 0), .la 23 4 (.s 7), .callp (some 24) n_r05_Terms [(.s 22), (.s 23)], .mv 21 (.s 24), .ex 25 (.s 21) 0, .ex 26 (.s 21) 1, .mv 8 (.s 25), .mv 9 (.s 26)]) (.seq (.reg [.mv 27 (.s 9), .bin 28 .neq (.s 27) (.i 0)]) (.cond (.s 28) (.seq (.reg [.mv 29 (.s 9), .mv 4 (.s 29)]) (.ret)) (.skip)))))) (.reg [.bin 30 .add (.s 17) (.i 1), .mv 17 (.s 30)])
  | 3 => .seq (.reg [.bin 18 .lss (.s 17) (.s 16)]) (.seq (.cond (.s 18) (.skip) (.exit 0)) (.n 2))
  | 4 => .seq (.seq (.reg [.mv 15 (.s 1), .len 16 (.s 15), .mv 17 (.i 0)]) (.blk 0 (.loop (.n 1)))) (.n 0)
  | _ => .skip
def body : C := .seq (.reg [.mv 4 (.i 0)]) (.seq (.seq (.reg [.mv 10 (.s 0), .callp (some 11) n_r01_CheckSystem [(.s 10)], .mv 5 (.s 11)]) (.seq (.reg [.mv 12 (.s 5), .bin 13 .neq (.s 12) (.i 0)]) (.cond (.s 13) (.seq (.reg [.mv 14 (.s 5), .mv 4 (.s 14)]) (.ret)) (.skip)))) (.n 4))
def rs : List RV := [.t 4]
attribute [push_cast] nd body
theorem ok : okF prog n_r05_Check nd body 2 rs = true := by kernel_rfl
abbrev L3 (v0 v15 v16 v17 : V) (B : Nat) (H : List Ob) (Q : X → T → List Ob → Prop) : Prop := Run prog nd B [.c (.m 3), .c (.loop (.n 1)), .mk 0, .c (.n 0)] [(0, v0), (15, v15), (16, v16), (17, v17)] H Q
theorem G3 {v0 v15 v16 v17 : V} {B : Nat} {H : List Ob} {Q : X → T → List Ob → Prop} (h : Run prog nd B [.c (nd 3), .c (.loop (.n 1)), .mk 0, .c (.n 0)] [(0, v0), (15, v15), (16, v16), (17, v17)] H Q) : L3 v0 v15 v16 v17 B H Q := run_m.2 h
end r05_Check
namespace l14_alive
def nd (_ : Nat) : C := .skip
def body : C := .seq (.reg [.mv 0 (.c (.bool false))]) (.seq (.reg [.callp (some 9) n_l14_example [], .mv 8 (.s 9), .ex 10 (.s 8) 0, .ex 11 (.s 8) 1, .al 2 t_Loop [.str [], .bool false, .sl 3 [], .sl 2 [], .sl 1 [], .sl 4 []], .mv 1 (.s 10), .sf 2 6 (.s 11)]) (.seq (.reg [.mv 13 (.s 1), .la 14 6 (.s 2), .callp (some 15) n_loop_Unroll [(.s 13), (.s 14), (.i 3)], .mv 12 (.s 15), .ex 16 (.s 12) 0, .ex 17 (.s 12) 1, .al 3 t_Chain [.str [], .bool false, .sl 3 [], .sl 2 []], .sf 3 4 (.s 16), .mv 4 (.s 17)]) (.seq (.reg [.mv 19 (.s 1), .fa 20 0 (.s 2), .fa 21 0 (.s 20), .la 22 3 (.s 21), .callp (some 23) n_loop_Find [(.s 19), (.s 22), (.i 5)], .mv 18 (.s 23), .ex 24 (.s 18) 0, .ex 25 (.s 18) 1, .ex 26 (.s 18) 2, .al 5 t_Loop [.str [], .bool false, .sl 3 [], .sl 2 [], .sl 1 [], .sl 4 []], .sf 5 6 (.s 24), .mv 6 (.s 25), .mv 7 (.s 26)]) (.seq (.reg [.mv 27 (.s 1), .la 28 6 (.s 2), .callp (some 29) n_loop_Check [(.s 27), (.s 28)], .bin 30 .eql (.s 29) (.i 0), .mv 31 (.s 30), .gd (.s 31) true [32, 33] [.mv 32 (.s 4), .bin 33 .eql (.s 32) (.i 0)], .pick 34 (.s 31) (.s 33) (.c (.bool false)), .mv 35 (.s 34), .gd (.s 35) true [36, 37, 38, 39] [.fa 36 3 (.s 3), .ld 37 (.s 36), .len 38 (.s 37), .bin 39 .eql (.s 38) (.i 3)], .pick 40 (.s 35) (.s 39) (.c (.bool false)), .mv 41 (.s 40), .gd (.s 41) true [42, 43, 44, 45, 46, 47, 48] [.fa 42 3 (.s 3), .ld 43 (.s 42), .ia 44 2 (.s 43) (.i 2), .fa 45 1 (.s 44), .ld 46 (.s 45), .bs 47 1 [(.i 0), (.i 0)], .callp (some 48) n_r01_SamePos [(.s 46), (.s 47)]], .pick 49 (.s 41) (.s 48) (.c (.bool false)), .mv 50 (.s 49), .gd (.s 50) true [51, 52] [.mv 51 (.s 7), .bin 52 .eql (.s 51) (.i 0)], .pick 53 (.s 50) (.s 52) (.c (.bool false)), .mv 54 (.s 53), .gd (.s 54) true [55] [.mv 55 (.s 6)], .pick 56 (.s 54) (.s 55) (.c (.bool false)), .mv 57 (.s 56), .gd (.s 57) true [58, 59, 60] [.la 58 6 (.s 5), .la 59 6 (.s 2), .callp (some 60) n_r14_Same [(.s 58), (.s 59)]], .pick 61 (.s 57) (.s 60) (.c (.bool false)), .mv 0 (.s 61)]) (.ret)))))
def rs : List RV := [.t 0]
attribute [push_cast] nd body
theorem ok : okF prog n_l14_alive nd body 0 rs = true := by kernel_rfl
end l14_alive
namespace loop_Find
def nd : Nat → C
  | 0 => .seq (.reg [.bd 70 [.str [], .bool false, .sl 3 [], .sl 2 [], .sl 1 [], .sl 4 []] [], .st 6 (.s 6) (.s 70), .mv 7 (.c (.bool false)), .mv 8 (.i 0)]) (.ret)
  | 1 => .gh [.ks 2 [4, 6, 9, 29, 30, 31]] (.m 5)
  | 2 => .seq (.reg [.frc 3 (.s 16), .la 65 4 (.s 16), .mv 66 (.s 13), .mv 67 (.s 14), .bd 68 [.str [], .bool false, .sl 3 [], .sl 2 [], .sl 1 [], .sl 4 []] [(0, 4, (.s 65)), (4, 1, (.s 66)), (5, 1, (.s 67))], .st 6 (.s 6) (.s 68), .mv 7 (.c (.bool true)), .mv 8 (.i 0)]) (.ret)
  | 3 => .seq (.reg [.la 49 3 (.s 9), .fa 50 0 (.s 12), .ld 51 (.s 50), .call (some 52) n_loop_chain [(.s 49), (.s 51)], .al 16 t_Chain [.str [], .bool false, .sl 3 [], .nil], .st 4 (.s 16) (.s 52)]) (.seq (.seq (.reg [.fa 53 3 (.s 16), .ld 54 (.s 53), .fa 55 2 (.s 12), .la 56 2 (.s 55), .bs 57 2 [(.s 56)], .apr 58 t_Step 2 32 (.s 54) (.s 57), .fa 59 3 (.s 16), .st 1 (.s 59) (.s 58)]) (.seq (.reg [.fa 60 3 (.s 16), .ld 61 (.s 60), .len 62 (.s 61), .bin 63 .gtr (.s 62) (.i 4096)]) (.cond (.s 63) (.seq (.reg [.bd 64 [.str [], .bool false, .sl 3 [], .sl 2 [], .sl 1 [], .sl 4 []] [], .st 6 (.s 6) (.s 64), .mv 7 (.c (.bool false)), .mv 8 (.i 3)]) (.ret)) (.skip)))) (.n 2))
  | 4 => .seq (.blk 1 (.seq (.reg [.ia 33 4 (.s 29) (.s 31), .la 34 4 (.s 33), .al 12 t_Edge [.int .i64 0, .int .i64 0, .int .i64 0, .sl 1 []], .sf 12 4 (.s 34)]) (.seq (.dr [0, 1, 2, 3, 4, 5, 6, 7, 8, 9, 10, 11, 12, 13, 14] [.la 36 3 (.s 4), .fa 37 0 (.s 9), .ld 38 (.s 37), .fa 39 1 (.s 12), .ld 40 (.s 39), .ia 41 3 (.s 38) (.s 40), .la 42 3 (.s 41), .callp (some 43) n_loop_instance [(.s 36), (.s 42)], .mv 35 (.s 43), .ex 44 (.s 35) 0, .ex 45 (.s 35) 1, .ex 46 (.s 35) 2, .mv 13 (.s 44), .mv 14 (.s 45), .mv 15 (.s 46)]) (.seq (.seq (.reg [.mv 47 (.s 15), .un 48 .not (.s 47)]) (.cond (.s 48) (.exit 1) (.skip))) (.n 3))))) (.reg [.bin 69 .add (.s 31) (.i 1), .mv 31 (.s 69)])
  | 5 => .seq (.reg [.bin 32 .lss (.s 31) (.s 30)]) (.seq (.cond (.s 32) (.skip) (.exit 0)) (.n 4))
  | 6 => .seq (.seq (.reg [.fa 28 1 (.s 9), .ld 29 (.s 28), .len 30 (.s 29), .mv 31 (.i 0)]) (.blk 0 (.loop (.n 1)))) (.n 0)
  | _ => .skip
def body : C := .seq (.reg [.br 4 t_Term (.s 1), .al 6 t_Loop [.str [], .bool false, .sl 3 [], .sl 2 [], .sl 1 [], .sl 4 []], .mv 7 (.c (.bool false)), .mv 8 (.i 0)]) (.seq (.reg [.mv 18 (.s 0), .la 19 3 (.s 4), .mv 20 (.s 2), .callp (some 21) n_derive_Explore [(.s 18), (.s 19), (.s 20)], .mv 17 (.s 21), .ex 22 (.s 17) 0, .ex 23 (.s 17) 1, .al 9 t_Graph [.sl 3 [], .sl 4 [], .bool false], .sf 9 3 (.s 22), .mv 10 (.s 23)]) (.seq (.seq (.reg [.mv 24 (.s 10), .bin 25 .neq (.s 24) (.i 0)]) (.cond (.s 25) (.seq (.reg [.bd 26 [.str [], .bool false, .sl 3 [], .sl 2 [], .sl 1 [], .sl 4 []] [], .mv 27 (.s 10), .st 6 (.s 6) (.s 26), .mv 7 (.c (.bool false)), .mv 8 (.s 27)]) (.ret)) (.skip))) (.n 6)))
def rs : List RV := [.a 6 6, .t 7, .t 8]
attribute [push_cast] nd body
theorem ok : okF prog n_loop_Find nd body 3 rs = true := by kernel_rfl
abbrev L5 (v4 v6 v9 v29 v30 v31 : V) (B : Nat) (H : List Ob) (Q : X → T → List Ob → Prop) : Prop := Run prog nd B [.c (.m 5), .c (.loop (.n 1)), .mk 0, .c (.n 0)] [(4, v4), (6, v6), (9, v9), (29, v29), (30, v30), (31, v31)] H Q
theorem G5 {v4 v6 v9 v29 v30 v31 : V} {B : Nat} {H : List Ob} {Q : X → T → List Ob → Prop} (h : Run prog nd B [.c (nd 5), .c (.loop (.n 1)), .mk 0, .c (.n 0)] [(4, v4), (6, v6), (9, v9), (29, v29), (30, v30), (31, v31)] H Q) : L5 v4 v6 v9 v29 v30 v31 B H Q := run_m.2 h
end loop_Find
namespace r04_Check
def nd : Nat → C
  | 0 => .seq (.reg [.la 11 3 (.s 3), .callp (some 12) n_r01_Check [(.s 11)], .mv 4 (.s 12)]) (.ret)
  | _ => .skip
def body : C := .seq (.reg [.br 3 t_Term (.s 1), .mv 4 (.i 0)]) (.seq (.seq (.reg [.mv 6 (.s 0), .callp (some 7) n_r01_CheckSystem [(.s 6)], .mv 5 (.s 7)]) (.seq (.reg [.mv 8 (.s 5), .bin 9 .neq (.s 8) (.i 0)]) (.cond (.s 9) (.seq (.reg [.mv 10 (.s 5), .mv 4 (.s 10)]) (.ret)) (.skip)))) (.n 0))
def rs : List RV := [.t 4]
attribute [push_cast] nd body
theorem ok : okF prog n_r04_Check nd body 2 rs = true := by kernel_rfl
end r04_Check
namespace r14_Find
def nd : Nat → C
  | 0 => .seq (.reg [.bd 65 [.str [], .bool false, .sl 3 [], .sl 2 [], .sl 1 [], .sl 4 []] [], .st 6 (.s 6) (.s 65), .mv 7 (.c (.bool false)), .mv 8 (.i 0)]) (.ret)
  | 1 => .gh [.ks 2 [4, 6, 9, 29, 30, 31]] (.m 3)
  | 2 => .seq (.blk 1 (.seq (.reg [.ia 33 4 (.s 29) (.s 31), .la 34 4 (.s 33), .al 12 t_Edge [.int .i64 0, .int .i64 0, .int .i64 0, .sl 1 []], .sf 12 4 (.s 34)]) (.seq (.dr [0, 1, 2, 3, 4, 5, 6, 7, 8, 9, 10, 11, 12, 13, 14] [.la 36 3 (.s 4), .fa 37 0 (.s 9), .ld 38 (.s 37), .fa 39 1 (.s 12), .ld 40 (.s 39), .ia 41 3 (.s 38) (.s 40), .la 42 3 (.s 41), .callp (some 43) n_r14_instance [(.s 36), (.s 42)], .mv 35 (.s 43), .ex 44 (.s 35) 0, .ex 45 (.s 35) 1, .ex 46 (.s 35) 2, .mv 13 (.s 44), .mv 14 (.s 45), .mv 15 (.s 46)]) (.seq (.reg [.mv 47 (.s 15)]) (.cond (.s 47) (.seq (.dr [1, 2, 3] [.la 49 3 (.s 9), .fa 50 0 (.s 12), .ld 51 (.s 50), .alt [([0], [.bo 48 t_Step 2 [], .alt [([4, 5, 6, 7, 8, 9, 10], [.call (some 52) n_r05_Path [(.s 49), (.s 51)], .app 53 t_Step 2 32 (.s 48) (.s 52), .fa 54 2 (.s 12), .la 55 2 (.s 54), .bs 56 2 [(.s 55)], .app 57 t_Step 2 32 (.s 53) (.s 56), .mv 16 (.s 57)]), ([6], [.fa 54 2 (.s 12), .alt [([4, 5, 7, 8, 9, 10], [.call (some 52) n_r05_Path [(.s 49), (.s 51)], .app 53 t_Step 2 32 (.s 48) (.s 52), .la 55 2 (.s 54), .bs 56 2 [(.s 55)], .app 57 t_Step 2 32 (.s 53) (.s 56), .mv 16 (.s 57)]), ([7, 8, 4, 5, 9, 10], [.la 55 2 (.s 54), .bs 56 2 [(.s 55)], .call (some 52) n_r05_Path [(.s 49), (.s 51)], .app 53 t_Step 2 32 (.s 48) (.s 52), .app 57 t_Step 2 32 (.s 53) (.s 56), .mv 16 (.s 57)])]])]]), ([4, 6, 7, 0, 5, 8, 9, 10], [.call (some 52) n_r05_Path [(.s 49), (.s 51)], .fa 54 2 (.s 12), .la 55 2 (.s 54), .bo 48 t_Step 2 [], .app 53 t_Step 2 32 (.s 48) (.s 52), .bs 56 2 [(.s 55)], .app 57 t_Step 2 32 (.s 53) (.s 56), .mv 16 (.s 57)]), ([6], [.fa 54 2 (.s 12), .alt [([0], [.bo 48 t_Step 2 [], .alt [([4, 5, 7, 8, 9, 10], [.call (some 52) n_r05_Path [(.s 49), (.s 51)], .app 53 t_Step 2 32 (.s 48) (.s 52), .la 55 2 (.s 54), .bs 56 2 [(.s 55)], .app 57 t_Step 2 32 (.s 53) (.s 56), .mv 16 (.s 57)]), ([7, 8, 4, 5, 9, 10], [.la 55 2 (.s 54), .bs 56 2 [(.s 55)], .call (some 52) n_r05_Path [(.s 49), (.s 51)], .app 53 t_Step 2 32 (.s 48) (.s 52), .app 57 t_Step 2 32 (.s 53) (.s 56), .mv 16 (.s 57)])]]), ([4, 7, 0, 5, 8, 9, 10], [.call (some 52) n_r05_Path [(.s 49), (.s 51)], .la 55 2 (.s 54), .bo 48 t_Step 2 [], .app 53 t_Step 2 32 (.s 48) (.s 52), .bs 56 2 [(.s 55)], .app 57 t_Step 2 32 (.s 53) (.s 56), .mv 16 (.s 57)]), ([7, 8], [.la 55 2 (.s 54), .bs 56 2 [(.s 55)], .alt [([0, 4, 5, 9, 10], [.bo 48 t_Step 2 [], .call (some 52) n_r05_Path [(.s 49), (.s 51)], .app 53 t_Step 2 32 (.s 48) (.s 52), .app 57 t_Step 2 32 (.s 53) (.s 56), .mv 16 (.s 57)]), ([4, 0, 5, 9, 10], [.call (some 52) n_r05_Path [(.s 49), (.s 51)], .bo 48 t_Step 2 [], .app 53 t_Step 2 32 (.s 48) (.s 52), .app 57 t_Step 2 32 (.s 53) (.s 56), .mv 16 (.s 57)])]])]])]]) (.seq (.reg [.la 58 3 (.s 4), .mv 59 (.s 16), .bd 60 [.str [], .bool false, .sl 3 [], .sl 2 []] [(0, 3, (.s 58)), (3, 1, (.s 59))], .mv 61 (.s 13), .mv 62 (.s 14), .bd 63 [.str [], .bool false, .sl 3 [], .sl 2 [], .sl 1 [], .sl 4 []] [(0, 4, (.s 60)), (4, 1, (.s 61)), (5, 1, (.s 62))], .st 6 (.s 6) (.s 63), .mv 7 (.c (.bool true)), .mv 8 (.i 0)]) (.ret))) (.skip)))))) (.reg [.bin 64 .add (.s 31) (.i 1), .mv 31 (.s 64)])
  | 3 => .seq (.reg [.bin 32 .lss (.s 31) (.s 30)]) (.seq (.cond (.s 32) (.skip) (.exit 0)) (.n 2))
  | 4 => .seq (.seq (.reg [.fa 28 1 (.s 9), .ld 29 (.s 28), .len 30 (.s 29), .mv 31 (.i 0)]) (.blk 0 (.loop (.n 1)))) (.n 0)
  | _ => .skip
def body : C := .seq (.reg [.br 4 t_Term (.s 1), .al 6 t_Loop [.str [], .bool false, .sl 3 [], .sl 2 [], .sl 1 [], .sl 4 []], .mv 7 (.c (.bool false)), .mv 8 (.i 0)]) (.seq (.reg [.mv 18 (.s 0), .la 19 3 (.s 4), .mv 20 (.s 2), .callp (some 21) n_r05_Explore [(.s 18), (.s 19), (.s 20)], .mv 17 (.s 21), .ex 22 (.s 17) 0, .ex 23 (.s 17) 1, .al 9 t_Graph [.sl 3 [], .sl 4 [], .bool false], .sf 9 3 (.s 22), .mv 10 (.s 23)]) (.seq (.seq (.reg [.mv 24 (.s 10), .bin 25 .neq (.s 24) (.i 0)]) (.cond (.s 25) (.seq (.reg [.bd 26 [.str [], .bool false, .sl 3 [], .sl 2 [], .sl 1 [], .sl 4 []] [], .mv 27 (.s 10), .st 6 (.s 6) (.s 26), .mv 7 (.c (.bool false)), .mv 8 (.s 27)]) (.ret)) (.skip))) (.n 4)))
def rs : List RV := [.a 6 6, .t 7, .t 8]
attribute [push_cast] nd body
theorem ok : okF prog n_r14_Find nd body 3 rs = true := by kernel_rfl
abbrev L3 (v4 v6 v9 v29 v30 v31 : V) (B : Nat) (H : List Ob) (Q : X → T → List Ob → Prop) : Prop := Run prog nd B [.c (.m 3), .c (.loop (.n 1)), .mk 0, .c (.n 0)] [(4, v4), (6, v6), (9, v9), (29, v29), (30, v30), (31, v31)] H Q
theorem G3 {v4 v6 v9 v29 v30 v31 : V} {B : Nat} {H : List Ob} {Q : X → T → List Ob → Prop} (h : Run prog nd B [.c (nd 3), .c (.loop (.n 1)), .mk 0, .c (.n 0)] [(4, v4), (6, v6), (9, v9), (29, v29), (30, v30), (31, v31)] H Q) : L3 v4 v6 v9 v29 v30 v31 B H Q := run_m.2 h
end r14_Find
namespace r14_Same
def nd : Nat → C
  | 0 => .seq (.reg [.mv 4 (.c (.bool true))]) (.ret)
  | 1 => .gh [.ks 0 [3, 45, 46, 47]] (.m 3)
  | 2 => .seq (.blk 1 (.seq (.reg [.mv 49 (.s 47), .ia 50 2 (.s 45) (.s 47), .la 51 2 (.s 50), .al 6 t_Step [.int .i64 0, .sl 1 []], .mv 5 (.s 49), .sf 6 2 (.s 51)]) (.seq (.reg [.fa 52 0 (.s 3), .fa 53 3 (.s 52), .ld 54 (.s 53), .mv 55 (.s 5), .ia 56 2 (.s 54) (.s 55), .la 57 2 (.s 56), .al 7 t_Step [.int .i64 0, .sl 1 []], .sf 7 2 (.s 57)]) (.seq (.reg [.fa 58 0 (.s 6), .ld 59 (.s 58), .fa 60 0 (.s 7), .ld 61 (.s 60), .bin 62 .neq (.s 59) (.s 61), .mv 63 (.s 62), .gd (.s 63) false [64, 65, 66, 67, 68, 69] [.fa 64 1 (.s 6), .ld 65 (.s 64), .fa 66 1 (.s 7), .ld 67 (.s 66), .callp (some 68) n_r01_SamePos [(.s 65), (.s 67)], .un 69 .not (.s 68)], .pick 70 (.s 63) (.c (.bool true)) (.s 69)]) (.cond (.s 70) (.seq (.reg [.mv 4 (.c (.bool false))]) (.ret)) (.skip)))))) (.reg [.bin 71 .add (.s 47) (.i 1), .mv 47 (.s 71)])
  | 3 => .seq (.reg [.bin 48 .lss (.s 47) (.s 46)]) (.seq (.cond (.s 48) (.skip) (.exit 0)) (.n 2))
  | 4 => .seq (.seq (.reg [.fa 43 0 (.s 2), .fa 44 3 (.s 43), .ld 45 (.s 44), .len 46 (.s 45), .mv 47 (.i 0)]) (.blk 0 (.loop (.n 1)))) (.n 0)
  | _ => .skip
def body : C := .seq (.reg [.br 2 t_Loop (.s 0), .br 3 t_Loop (.s 1), .mv 4 (.c (.bool false))]) (.seq (.seq (.reg [.fa 8 0 (.s 2), .fa 9 0 (.s 8), .la 10 3 (.s 9), .fa 11 0 (.s 3), .fa 12 0 (.s 11), .la 13 3 (.s 12), .callp (some 14) n_r01_Equal [(.s 10), (.s 13)], .un 15 .not (.s 14), .mv 16 (.s 15), .gd (.s 16) false [17, 18, 19, 20, 21, 22, 23, 24, 25] [.fa 17 0 (.s 2), .fa 18 3 (.s 17), .ld 19 (.s 18), .len 20 (.s 19), .fa 21 0 (.s 3), .fa 22 3 (.s 21), .ld 23 (.s 22), .len 24 (.s 23), .bin 25 .neq (.s 20) (.s 24)], .pick 26 (.s 16) (.c (.bool true)) (.s 25), .mv 27 (.s 26), .gd (.s 27) false [28, 29, 30, 31, 32, 33] [.fa 28 4 (.s 2), .ld 29 (.s 28), .fa 30 4 (.s 3), .ld 31 (.s 30), .callp (some 32) n_r01_SamePos [(.s 29), (.s 31)], .un 33 .not (.s 32)], .pick 34 (.s 27) (.c (.bool true)) (.s 33), .mv 35 (.s 34), .gd (.s 35) false [36, 37, 38, 39, 40, 41] [.fa 36 5 (.s 2), .ld 37 (.s 36), .fa 38 5 (.s 3), .ld 39 (.s 38), .callp (some 40) n_r01_SameSubst [(.s 37), (.s 39)], .un 41 .not (.s 40)], .pick 42 (.s 35) (.c (.bool true)) (.s 41)]) (.cond (.s 42) (.seq (.reg [.mv 4 (.c (.bool false))]) (.ret)) (.skip))) (.n 4))
def rs : List RV := [.t 4]
attribute [push_cast] nd body
theorem ok : okF prog n_r14_Same nd body 2 rs = true := by kernel_rfl
abbrev L3 (v3 v45 v46 v47 : V) (B : Nat) (H : List Ob) (Q : X → T → List Ob → Prop) : Prop := Run prog nd B [.c (.m 3), .c (.loop (.n 1)), .mk 0, .c (.n 0)] [(3, v3), (45, v45), (46, v46), (47, v47)] H Q
theorem G3 {v3 v45 v46 v47 : V} {B : Nat} {H : List Ob} {Q : X → T → List Ob → Prop} (h : Run prog nd B [.c (nd 3), .c (.loop (.n 1)), .mk 0, .c (.n 0)] [(3, v3), (45, v45), (46, v46), (47, v47)] H Q) : L3 v3 v45 v46 v47 B H Q := run_m.2 h
end r14_Same
namespace r01_CheckSystem
def nd : Nat → C
  | 0 => .seq (.reg [.mv 2 (.i 0)]) (.ret)
  | 1 => .gh [.ks 0 [20, 21, 22]] (.m 3)
  | 2 => .seq (.blk 1 (.seq (.reg [.ia 24 6 (.s 20) (.s 22), .la 25 6 (.s 24), .al 7 t_Rule [.str [], .bool false, .sl 3 [], .str [], .bool false, .sl 3 []], .sf 7 6 (.s 25)]) (.seq (.reg [.fa 26 0 (.s 7), .fa 27 1 (.s 26), .ld 28 (.s 27), .mv 29 (.s 28), .gd (.s 29) false [30, 31, 32, 33, 34, 35] [.fa 30 3 (.s 7), .la 31 3 (.s 30), .fa 32 0 (.s 7), .la 33 3 (.s 32), .callp (some 34) n_r01_Within [(.s 31), (.s 33)], .un 35 .not (.s 34)], .pick 36 (.s 29) (.c (.bool true)) (.s 35)]) (.cond (.s 36) (.seq (.reg [.mv 2 (.i 7)]) (.ret)) (.skip))))) (.reg [.bin 37 .add (.s 22) (.i 1), .mv 22 (.s 37)])
  | 3 => .seq (.reg [.bin 23 .lss (.s 22) (.s 21)]) (.seq (.cond (.s 23) (.skip) (.exit 0)) (.n 2))
  | 4 => .seq (.seq (.reg [.mv 20 (.s 0), .len 21 (.s 20), .mv 22 (.i 0)]) (.blk 0 (.loop (.n 1)))) (.n 0)
  | 5 => .seq (.seq (.reg [.mv 14 (.s 0), .callp (some 15) n_r01_Symbols [(.s 14)], .mv 13 (.s 15), .ex 16 (.s 13) 0, .ex 17 (.s 13) 1, .mv 4 (.s 16), .mv 5 (.s 17)]) (.seq (.reg [.mv 18 (.s 5), .un 19 .not (.s 18)]) (.cond (.s 19) (.seq (.reg [.mv 2 (.i 6)]) (.ret)) (.skip)))) (.n 4)
  | _ => .skip
def body : C := .seq (.reg [.mv 2 (.i 0)]) (.seq (.seq (.reg [.mv 8 (.s 0), .callp (some 9) n_r01_Rules [(.s 8)], .mv 3 (.s 9)]) (.seq (.reg [.mv 10 (.s 3), .bin 11 .neq (.s 10) (.i 0)]) (.cond (.s 11) (.seq (.reg [.mv 12 (.s 3), .mv 2 (.s 12)]) (.ret)) (.skip)))) (.n 5))
def rs : List RV := [.t 2]
attribute [push_cast] nd body
theorem ok : okF prog n_r01_CheckSystem nd body 1 rs = true := by kernel_rfl
abbrev L3 (v20 v21 v22 : V) (B : Nat) (H : List Ob) (Q : X → T → List Ob → Prop) : Prop := Run prog nd B [.c (.m 3), .c (.loop (.n 1)), .mk 0, .c (.n 0)] [(20, v20), (21, v21), (22, v22)] H Q
theorem G3 {v20 v21 v22 : V} {B : Nat} {H : List Ob} {Q : X → T → List Ob → Prop} (h : Run prog nd B [.c (nd 3), .c (.loop (.n 1)), .mk 0, .c (.n 0)] [(20, v20), (21, v21), (22, v22)] H Q) : L3 v20 v21 v22 B H Q := run_m.2 h
end r01_CheckSystem
namespace r01_At
def nd : Nat → C
  | 0 => .seq (.reg [.la 30 3 (.s 2), .st 3 (.s 4) (.s 30), .mv 5 (.c (.bool true))]) (.ret)
  | 1 => .gh [.ks 2 [2, 4, 8, 9, 10]] (.m 3)
  | 2 => .seq (.blk 1 (.seq (.reg [.ia 12 1 (.s 8) (.s 10), .ld 13 (.s 12), .mv 7 (.s 13)]) (.seq (.seq (.reg [.mv 14 (.s 7), .bin 15 .lss (.s 14) (.i 0), .mv 16 (.s 15), .gd (.s 16) false [17, 18, 19, 20, 21] [.mv 17 (.s 7), .fa 18 2 (.s 2), .ld 19 (.s 18), .len 20 (.s 19), .bin 21 .geq (.s 17) (.s 20)], .pick 22 (.s 16) (.c (.bool true)) (.s 21)]) (.cond (.s 22) (.seq (.reg [.bd 23 [.str [], .bool false, .sl 3 []] [], .st 3 (.s 4) (.s 23), .mv 5 (.c (.bool false))]) (.ret)) (.skip))) (.reg [.fa 24 2 (.s 2), .ld 25 (.s 24), .mv 26 (.s 7), .ia 27 3 (.s 25) (.s 26), .la 28 3 (.s 27), .st 3 (.s 2) (.s 28)])))) (.reg [.bin 29 .add (.s 10) (.i 1), .mv 10 (.s 29)])
  | 3 => .seq (.reg [.bin 11 .lss (.s 10) (.s 9)]) (.seq (.cond (.s 11) (.skip) (.exit 0)) (.n 2))
  | _ => .skip
def body : C := .seq (.reg [.bx 2 t_Term (.s 0), .al 4 t_Term [.str [], .bool false, .sl 3 []], .mv 5 (.c (.bool false))]) (.seq (.seq (.reg [.mv 8 (.s 1), .len 9 (.s 8), .mv 10 (.i 0)]) (.blk 0 (.loop (.n 1)))) (.n 0))
def rs : List RV := [.a 4 3, .t 5]
attribute [push_cast] nd body
theorem ok : okF prog n_r01_At nd body 2 rs = true := by kernel_rfl
abbrev L3 (v2 v4 v8 v9 v10 : V) (B : Nat) (H : List Ob) (Q : X → T → List Ob → Prop) : Prop := Run prog nd B [.c (.m 3), .c (.loop (.n 1)), .mk 0, .c (.n 0)] [(2, v2), (4, v4), (8, v8), (9, v9), (10, v10)] H Q
theorem G3 {v2 v4 v8 v9 v10 : V} {B : Nat} {H : List Ob} {Q : X → T → List Ob → Prop} (h : Run prog nd B [.c (nd 3), .c (.loop (.n 1)), .mk 0, .c (.n 0)] [(2, v2), (4, v4), (8, v8), (9, v9), (10, v10)] H Q) : L3 v2 v4 v8 v9 v10 B H Q := run_m.2 h
end r01_At
namespace r05_Last
def nd (_ : Nat) : C := .skip
def body : C := .seq (.reg [.br 3 t_Chain (.s 1), .al 4 t_Term [.str [], .bool false, .sl 3 []]]) (.seq (.reg [.mv 8 (.s 0), .la 9 4 (.s 3), .callp (some 10) n_r05_Terms [(.s 8), (.s 9)], .mv 7 (.s 10), .ex 11 (.s 7) 0, .ex 12 (.s 7) 1, .mv 5 (.s 11), .mv 6 (.s 12)]) (.seq (.reg [.mv 13 (.s 5), .mv 14 (.s 5), .len 15 (.s 14), .bin 16 .sub (.s 15) (.i 1), .ia 17 3 (.s 13) (.s 16), .la 18 3 (.s 17), .st 3 (.s 4) (.s 18)]) (.ret)))
def rs : List RV := [.a 4 3]
attribute [push_cast] nd body
theorem ok : okF prog n_r05_Last nd body 2 rs = true := by kernel_rfl
end r05_Last
namespace r01_CheckSubst
def nd : Nat → C
  | 0 => .seq (.reg [.mv 2 (.i 0)]) (.ret)
  | 1 => .gh [.ks 0 [36, 37, 38]] (.m 3)
  | 2 => .seq (.blk 3 (.seq (.reg [.ia 40 4 (.s 36) (.s 38), .la 41 4 (.s 40), .al 6 t_Bind [.str [], .str [], .bool false, .sl 3 []], .sf 6 4 (.s 41)]) (.seq (.reg [.fa 42 1 (.s 6), .la 43 3 (.s 42), .callp (some 44) n_r01_Check [(.s 43)], .mv 7 (.s 44)]) (.seq (.reg [.mv 45 (.s 7), .bin 46 .neq (.s 45) (.i 0)]) (.cond (.s 46) (.seq (.reg [.mv 47 (.s 7), .mv 2 (.s 47)]) (.ret)) (.skip)))))) (.reg [.bin 48 .add (.s 38) (.i 1), .mv 38 (.s 48)])
  | 3 => .seq (.reg [.bin 39 .lss (.s 38) (.s 37)]) (.seq (.cond (.s 39) (.skip) (.exit 2)) (.n 2))
  | 4 => .seq (.seq (.reg [.mv 36 (.s 0), .len 37 (.s 36), .mv 38 (.i 0)]) (.blk 2 (.loop (.n 1)))) (.n 0)
  | 5 => .gh [.ks 0 [0, 8, 9, 10]] (.m 7)
  | 6 => .seq (.blk 1 (.seq (.reg [.mv 12 (.s 10), .ia 13 4 (.s 8) (.s 10), .la 14 4 (.s 13), .al 4 t_Bind [.str [], .str [], .bool false, .sl 3 []], .mv 3 (.s 12), .sf 4 4 (.s 14)]) (.seq (.dr [0, 1, 2, 3, 4, 5, 6, 7, 8, 9, 10, 11, 12, 13, 14, 15, 16, 17, 18, 19] [.fa 15 0 (.s 4), .ld 16 (.s 15), .callp (some 17) n_r01_IsName [(.s 16), (.c (.bool false))], .un 18 .not (.s 17), .mv 19 (.s 18), .gd (.s 19) false [20] [.mv 20 (.s 3)], .gd (.s 19) false [21] [.bin 21 .gtr (.s 20) (.i 0)], .gd (.s 19) false [22] [.mv 22 (.s 21)], .gd (.s 22) true [23] [.mv 23 (.s 0)], .gd (.s 22) true [24] [.mv 24 (.s 3)], .gd (.s 22) true [25] [.bin 25 .sub (.s 24) (.i 1)], .gd (.s 22) true [26] [.ia 26 4 (.s 23) (.s 25)], .gd (.s 22) true [27] [.fa 27 0 (.s 26)], .gd (.s 22) true [28] [.ld 28 (.s 27)], .gd (.s 22) true [29] [.fa 29 0 (.s 4)], .gd (.s 22) true [30] [.ld 30 (.s 29)], .gd (.s 22) true [31] [.callp (some 31) n_r01_CompareNames [(.s 28), (.s 30)]], .gd (.s 22) true [32] [.bin 32 .geq (.s 31) (.i 0)], .gd (.s 19) false [33] [.pick 33 (.s 22) (.s 32) (.c (.bool false))], .pick 34 (.s 19) (.c (.bool true)) (.s 33)]) (.cond (.s 34) (.seq (.reg [.mv 2 (.i 4)]) (.ret)) (.skip))))) (.reg [.bin 35 .add (.s 10) (.i 1), .mv 10 (.s 35)])
  | 7 => .seq (.reg [.bin 11 .lss (.s 10) (.s 9)]) (.seq (.cond (.s 11) (.skip) (.exit 0)) (.n 6))
  | _ => .skip
def body : C := .seq (.reg [.mv 2 (.i 0)]) (.seq (.seq (.reg [.mv 8 (.s 0), .len 9 (.s 8), .mv 10 (.i 0)]) (.blk 0 (.loop (.n 5)))) (.n 4))
def rs : List RV := [.t 2]
attribute [push_cast] nd body
theorem ok : okF prog n_r01_CheckSubst nd body 1 rs = true := by kernel_rfl
abbrev L3 (v36 v37 v38 : V) (B : Nat) (H : List Ob) (Q : X → T → List Ob → Prop) : Prop := Run prog nd B [.c (.m 3), .c (.loop (.n 1)), .mk 2, .c (.n 0)] [(36, v36), (37, v37), (38, v38)] H Q
theorem G3 {v36 v37 v38 : V} {B : Nat} {H : List Ob} {Q : X → T → List Ob → Prop} (h : Run prog nd B [.c (nd 3), .c (.loop (.n 1)), .mk 2, .c (.n 0)] [(36, v36), (37, v37), (38, v38)] H Q) : L3 v36 v37 v38 B H Q := run_m.2 h
abbrev L7 (v0 v8 v9 v10 : V) (B : Nat) (H : List Ob) (Q : X → T → List Ob → Prop) : Prop := Run prog nd B [.c (.m 7), .c (.loop (.n 5)), .mk 0, .c (.n 4)] [(0, v0), (8, v8), (9, v9), (10, v10)] H Q
theorem G7 {v0 v8 v9 v10 : V} {B : Nat} {H : List Ob} {Q : X → T → List Ob → Prop} (h : Run prog nd B [.c (nd 7), .c (.loop (.n 5)), .mk 0, .c (.n 4)] [(0, v0), (8, v8), (9, v9), (10, v10)] H Q) : L7 v0 v8 v9 v10 B H Q := run_m.2 h
end r01_CheckSubst
namespace r01_Fits
def nd (_ : Nat) : C := .skip
def body : C := .seq (.reg [.br 3 t_Term (.s 1), .mv 4 (.c (.bool false))]) (.seq (.reg [.mv 8 (.s 0), .la 9 3 (.s 3), .callp (some 10) n_r01_Grown [(.s 8), (.s 9)], .mv 7 (.s 10), .ex 11 (.s 7) 0, .ex 12 (.s 7) 1, .mv 5 (.s 11), .mv 6 (.s 12)]) (.seq (.reg [.mv 13 (.s 5), .bin 14 .leq (.s 13) (.i 4000), .mv 15 (.s 14), .gd (.s 15) true [16, 17] [.mv 16 (.s 6), .bin 17 .leq (.s 16) (.i 200)], .pick 18 (.s 15) (.s 17) (.c (.bool false)), .mv 4 (.s 18)]) (.ret)))
def rs : List RV := [.t 4]
attribute [push_cast] nd body
theorem ok : okF prog n_r01_Fits nd body 2 rs = true := by kernel_rfl
end r01_Fits
namespace r01_Equal
def nd (_ : Nat) : C := .skip
def body : C := .seq (.reg [.br 2 t_Term (.s 0), .br 3 t_Term (.s 1), .mv 4 (.c (.bool false))]) (.seq (.reg [.la 5 3 (.s 2), .la 6 3 (.s 3), .callp (some 7) n_r01_Compare [(.s 5), (.s 6)], .bin 8 .eql (.s 7) (.i 0), .mv 4 (.s 8)]) (.ret))
def rs : List RV := [.t 4]
attribute [push_cast] nd body
theorem ok : okF prog n_r01_Equal nd body 2 rs = true := by kernel_rfl
end r01_Equal
namespace r01_Apply
def nd : Nat → C
  | 0 => .seq (.reg [.la 33 3 (.s 5), .st 3 (.s 4) (.s 33)]) (.ret)
  | 1 => .gh [.ks 3 [0, 4, 5, 18, 19, 20]] (.m 3)
  | 2 => .seq (.blk 1 (.seq (.reg [.ia 22 3 (.s 18) (.s 20), .la 23 3 (.s 22), .al 7 t_Term [.str [], .bool false, .sl 3 []], .sf 7 3 (.s 23)]) (.dr [0, 1, 2, 3, 4, 5, 6, 7, 8] [.fa 24 2 (.s 5), .ld 25 (.s 24), .mv 26 (.s 0), .la 27 3 (.s 7), .callp (some 28) n_r01_Apply [(.s 26), (.s 27)], .bs 29 3 [(.s 28)], .app 30 t_Term 3 48 (.s 25) (.s 29), .fa 31 2 (.s 5), .st 1 (.s 31) (.s 30)]))) (.reg [.bin 32 .add (.s 20) (.i 1), .mv 20 (.s 32)])
  | 3 => .seq (.reg [.bin 21 .lss (.s 20) (.s 19)]) (.seq (.cond (.s 21) (.skip) (.exit 0)) (.n 2))
  | 4 => .seq (.reg [.fa 14 0 (.s 3), .ld 15 (.s 14), .bd 16 [.str [], .bool false, .nil] [(0, 1, (.s 15))], .al 5 t_Term [.str [], .bool false, .nil], .st 3 (.s 5) (.s 16), .ono t_Term 3 2 (.s 5)]) (.seq (.seq (.reg [.fa 17 2 (.s 3), .ld 18 (.s 17), .len 19 (.s 18), .mv 20 (.i 0)]) (.blk 0 (.loop (.n 1)))) (.n 0))
  | _ => .skip
def body : C := .seq (.reg [.br 3 t_Term (.s 1), .al 4 t_Term [.str [], .bool false, .sl 3 []]]) (.seq (.seq (.reg [.fa 8 1 (.s 3), .ld 9 (.s 8)]) (.cond (.s 9) (.seq (.reg [.mv 10 (.s 0), .fa 11 0 (.s 3), .ld 12 (.s 11), .callp (some 13) n_r01_Image [(.s 10), (.s 12)], .st 3 (.s 4) (.s 13)]) (.ret)) (.skip))) (.n 4))
def rs : List RV := [.a 4 3]
attribute [push_cast] nd body
theorem ok : okF prog n_r01_Apply nd body 2 rs = true := by kernel_rfl
abbrev L3 (v0 v4 v5 v18 v19 v20 : V) (B : Nat) (H : List Ob) (Q : X → T → List Ob → Prop) : Prop := Run prog nd B [.c (.m 3), .c (.loop (.n 1)), .mk 0, .c (.n 0)] [(0, v0), (4, v4), (5, v5), (18, v18), (19, v19), (20, v20)] H Q
theorem G3 {v0 v4 v5 v18 v19 v20 : V} {B : Nat} {H : List Ob} {Q : X → T → List Ob → Prop} (h : Run prog nd B [.c (nd 3), .c (.loop (.n 1)), .mk 0, .c (.n 0)] [(0, v0), (4, v4), (5, v5), (18, v18), (19, v19), (20, v20)] H Q) : L3 v0 v4 v5 v18 v19 v20 B H Q := run_m.2 h
end r01_Apply
namespace derive_Terms
def nd : Nat → C
  | 0 => .seq (.reg [.mv 12 (.s 0), .la 13 4 (.s 3), .callp (some 14) n_derive_Run [(.s 12), (.s 13)], .ex 15 (.s 14) 0, .ex 16 (.s 14) 1, .mv 4 (.s 15), .mv 5 (.s 16)]) (.ret)
  | _ => .skip
def body : C := .seq (.reg [.br 3 t_Chain (.s 1), .mv 4 (.c (.sl 3 [])), .mv 5 (.i 0)]) (.seq (.seq (.reg [.mv 7 (.s 0), .callp (some 8) n_term_CheckSystem [(.s 7)], .mv 6 (.s 8)]) (.seq (.reg [.mv 9 (.s 6), .bin 10 .neq (.s 9) (.i 0)]) (.cond (.s 10) (.seq (.reg [.mv 11 (.s 6), .mv 4 (.c (.sl 3 [])), .mv 5 (.s 11)]) (.ret)) (.skip)))) (.n 0))
def rs : List RV := [.t 4, .t 5]
attribute [push_cast] nd body
theorem ok : okF prog n_derive_Terms nd body 2 rs = true := by kernel_rfl
end derive_Terms
namespace term_Sub
def nd : Nat → C
  | 0 => .seq (.reg [.la 30 3 (.s 2), .st 3 (.s 4) (.s 30), .mv 5 (.c (.bool true))]) (.ret)
  | 1 => .gh [.ks 2 [2, 4, 8, 9, 10]] (.m 3)
  | 2 => .seq (.blk 1 (.seq (.reg [.ia 12 1 (.s 8) (.s 10), .ld 13 (.s 12), .mv 7 (.s 13)]) (.seq (.seq (.reg [.mv 14 (.s 7), .bin 15 .lss (.s 14) (.i 0), .mv 16 (.s 15), .gd (.s 16) false [17, 18, 19, 20, 21] [.mv 17 (.s 7), .fa 18 2 (.s 2), .ld 19 (.s 18), .len 20 (.s 19), .bin 21 .geq (.s 17) (.s 20)], .pick 22 (.s 16) (.c (.bool true)) (.s 21)]) (.cond (.s 22) (.seq (.reg [.bd 23 [.str [], .bool false, .sl 3 []] [], .st 3 (.s 4) (.s 23), .mv 5 (.c (.bool false))]) (.ret)) (.skip))) (.reg [.fa 24 2 (.s 2), .ld 25 (.s 24), .mv 26 (.s 7), .ia 27 3 (.s 25) (.s 26), .la 28 3 (.s 27), .st 3 (.s 2) (.s 28)])))) (.reg [.bin 29 .add (.s 10) (.i 1), .mv 10 (.s 29)])
  | 3 => .seq (.reg [.bin 11 .lss (.s 10) (.s 9)]) (.seq (.cond (.s 11) (.skip) (.exit 0)) (.n 2))
  | _ => .skip
def body : C := .seq (.reg [.bx 2 t_Term (.s 0), .al 4 t_Term [.str [], .bool false, .sl 3 []], .mv 5 (.c (.bool false))]) (.seq (.seq (.reg [.mv 8 (.s 1), .len 9 (.s 8), .mv 10 (.i 0)]) (.blk 0 (.loop (.n 1)))) (.n 0))
def rs : List RV := [.a 4 3, .t 5]
attribute [push_cast] nd body
theorem ok : okF prog n_term_Sub nd body 2 rs = true := by kernel_rfl
abbrev L3 (v2 v4 v8 v9 v10 : V) (B : Nat) (H : List Ob) (Q : X → T → List Ob → Prop) : Prop := Run prog nd B [.c (.m 3), .c (.loop (.n 1)), .mk 0, .c (.n 0)] [(2, v2), (4, v4), (8, v8), (9, v9), (10, v10)] H Q
theorem G3 {v2 v4 v8 v9 v10 : V} {B : Nat} {H : List Ob} {Q : X → T → List Ob → Prop} (h : Run prog nd B [.c (nd 3), .c (.loop (.n 1)), .mk 0, .c (.n 0)] [(2, v2), (4, v4), (8, v8), (9, v9), (10, v10)] H Q) : L3 v2 v4 v8 v9 v10 B H Q := run_m.2 h
end term_Sub
namespace term_Apply
def nd : Nat → C
  | 0 => .seq (.reg [.mv 20 (.s 0), .la 21 3 (.s 3), .callp (some 22) n_term_Instance [(.s 20), (.s 21)], .ex 23 (.s 22) 0, .ex 24 (.s 22) 1, .st 3 (.s 4) (.s 23), .mv 5 (.s 24)]) (.ret)
  | 1 => .seq (.seq (.reg [.la 14 3 (.s 3), .callp (some 15) n_term_Check [(.s 14)], .mv 7 (.s 15)]) (.seq (.reg [.mv 16 (.s 7), .bin 17 .neq (.s 16) (.i 0)]) (.cond (.s 17) (.seq (.reg [.bd 18 [.str [], .bool false, .sl 3 []] [], .mv 19 (.s 7), .st 3 (.s 4) (.s 18), .mv 5 (.s 19)]) (.ret)) (.skip)))) (.n 0)
  | _ => .skip
def body : C := .seq (.reg [.br 3 t_Term (.s 1), .al 4 t_Term [.str [], .bool false, .sl 3 []], .mv 5 (.i 0)]) (.seq (.seq (.reg [.mv 8 (.s 0), .callp (some 9) n_term_CheckSubst [(.s 8)], .mv 6 (.s 9)]) (.seq (.reg [.mv 10 (.s 6), .bin 11 .neq (.s 10) (.i 0)]) (.cond (.s 11) (.seq (.reg [.bd 12 [.str [], .bool false, .sl 3 []] [], .mv 13 (.s 6), .st 3 (.s 4) (.s 12), .mv 5 (.s 13)]) (.ret)) (.skip)))) (.n 1))
def rs : List RV := [.a 4 3, .t 5]
attribute [push_cast] nd body
theorem ok : okF prog n_term_Apply nd body 2 rs = true := by kernel_rfl
end term_Apply
namespace term_Equal
def nd (_ : Nat) : C := .skip
def body : C := .seq (.reg [.br 2 t_Term (.s 0), .br 3 t_Term (.s 1), .mv 4 (.c (.bool false))]) (.seq (.reg [.fa 5 0 (.s 2), .ld 6 (.s 5), .fa 7 0 (.s 3), .ld 8 (.s 7), .bin 9 .eql (.s 6) (.s 8), .mv 10 (.s 9), .gd (.s 10) true [11, 12, 13, 14, 15] [.fa 11 1 (.s 2), .ld 12 (.s 11), .fa 13 1 (.s 3), .ld 14 (.s 13), .bb 15 .eql (.s 12) (.s 14)], .pick 16 (.s 10) (.s 15) (.c (.bool false)), .mv 17 (.s 16), .gd (.s 17) true [18, 19, 20, 21, 22] [.fa 18 2 (.s 2), .ld 19 (.s 18), .fa 20 2 (.s 3), .ld 21 (.s 20), .callp (some 22) n_slices_EqualFunc_s_Term_s_Term_Term_Term [(.s 19), (.s 21), (.f n_term_Equal)]], .pick 23 (.s 17) (.s 22) (.c (.bool false)), .mv 4 (.s 23)]) (.ret))
def rs : List RV := [.t 4]
attribute [push_cast] nd body
theorem ok : okF prog n_term_Equal nd body 2 rs = true := by kernel_rfl
end term_Equal
namespace term_Own
def nd : Nat → C
  | 0 => .seq (.reg [.la 26 3 (.s 3), .st 3 (.s 2) (.s 26)]) (.ret)
  | 1 => .gh [.ks 3 [2, 3, 12, 13, 14]] (.m 3)
  | 2 => .seq (.blk 1 (.seq (.reg [.ia 16 3 (.s 12) (.s 14), .la 17 3 (.s 16), .al 5 t_Term [.str [], .bool false, .sl 3 []], .sf 5 3 (.s 17)]) (.dr [0, 1, 2, 3, 4, 5, 6, 7] [.fa 18 2 (.s 3), .ld 19 (.s 18), .la 20 3 (.s 5), .callp (some 21) n_term_Own [(.s 20)], .bs 22 3 [(.s 21)], .app 23 t_Term 3 48 (.s 19) (.s 22), .fa 24 2 (.s 3), .st 1 (.s 24) (.s 23)]))) (.reg [.bin 25 .add (.s 14) (.i 1), .mv 14 (.s 25)])
  | 3 => .seq (.reg [.bin 15 .lss (.s 14) (.s 13)]) (.seq (.cond (.s 15) (.skip) (.exit 0)) (.n 2))
  | _ => .skip
def body : C := .seq (.reg [.br 1 t_Term (.s 0), .al 2 t_Term [.str [], .bool false, .sl 3 []]]) (.seq (.reg [.fa 6 0 (.s 1), .ld 7 (.s 6), .fa 8 1 (.s 1), .ld 9 (.s 8), .bd 10 [.str [], .bool false, .nil] [(0, 1, (.s 7)), (1, 1, (.s 9))], .al 3 t_Term [.str [], .bool false, .nil], .st 3 (.s 3) (.s 10), .ono t_Term 3 2 (.s 3)]) (.seq (.seq (.reg [.fa 11 2 (.s 1), .ld 12 (.s 11), .len 13 (.s 12), .mv 14 (.i 0)]) (.blk 0 (.loop (.n 1)))) (.n 0)))
def rs : List RV := [.a 2 3]
attribute [push_cast] nd body
theorem ok : okF prog n_term_Own nd body 1 rs = true := by kernel_rfl
abbrev L3 (v2 v3 v12 v13 v14 : V) (B : Nat) (H : List Ob) (Q : X → T → List Ob → Prop) : Prop := Run prog nd B [.c (.m 3), .c (.loop (.n 1)), .mk 0, .c (.n 0)] [(2, v2), (3, v3), (12, v12), (13, v13), (14, v14)] H Q
theorem G3 {v2 v3 v12 v13 v14 : V} {B : Nat} {H : List Ob} {Q : X → T → List Ob → Prop} (h : Run prog nd B [.c (nd 3), .c (.loop (.n 1)), .mk 0, .c (.n 0)] [(2, v2), (3, v3), (12, v12), (13, v13), (14, v14)] H Q) : L3 v2 v3 v12 v13 v14 B H Q := run_m.2 h
end term_Own
namespace slices_Concat_s_int_int
def nd : Nat → C
  | 0 => .seq (.reg [.mv 35 (.s 6), .mv 2 (.s 35)]) (.ret)
  | 1 => .gh [.ks 1 [6, 25, 26, 27]] (.m 3)
  | 2 => .seq (.blk 3 (.seq (.reg [.ia 29 1 (.s 25) (.s 27), .ld 30 (.s 29), .mv 8 (.s 30)]) (.reg [.mv 31 (.s 6), .mv 32 (.s 8), .app 33 t_int 1 8 (.s 31) (.s 32), .mv 6 (.s 33)]))) (.reg [.bin 34 .add (.s 27) (.i 1), .mv 27 (.s 34)])
  | 3 => .seq (.reg [.bin 28 .lss (.s 27) (.s 26)]) (.seq (.cond (.s 28) (.skip) (.exit 2)) (.n 2))
  | 4 => .seq (.reg [.mv 23 (.s 3), .call (some 24) n_slices_Grow_s_int_int [(.c .nil), (.s 23)], .mv 6 (.s 24)]) (.seq (.seq (.reg [.mv 25 (.s 0), .len 26 (.s 25), .mv 27 (.i 0)]) (.blk 2 (.loop (.n 1)))) (.n 0))
  | 5 => .gh [.ks 0 [0, 3, 9, 10, 11]] (.m 7)
  | 6 => .seq (.blk 1 (.seq (.reg [.ia 13 1 (.s 9) (.s 11), .ld 14 (.s 13), .mv 5 (.s 14)]) (.seq (.reg [.mv 15 (.s 3), .mv 16 (.s 5), .len 17 (.s 16), .bin 18 .add (.s 15) (.s 17), .mv 3 (.s 18)]) (.seq (.reg [.mv 19 (.s 3), .bin 20 .lss (.s 19) (.i 0)]) (.cond (.s 20) (.bad) (.skip)))))) (.reg [.bin 22 .add (.s 11) (.i 1), .mv 11 (.s 22)])
  | 7 => .seq (.reg [.bin 12 .lss (.s 11) (.s 10)]) (.seq (.cond (.s 12) (.skip) (.exit 0)) (.n 6))
  | _ => .skip
def body : C := .seq (.reg [.mv 2 (.c (.sl 1 []))]) (.seq (.reg [.mv 3 (.i 0)]) (.seq (.seq (.reg [.mv 9 (.s 0), .len 10 (.s 9), .mv 11 (.i 0)]) (.blk 0 (.loop (.n 5)))) (.n 4)))
def rs : List RV := [.t 2]
attribute [push_cast] nd body
theorem ok : okF prog n_slices_Concat_s_int_int nd body 1 rs = true := by kernel_rfl
abbrev L3 (v6 v25 v26 v27 : V) (B : Nat) (H : List Ob) (Q : X → T → List Ob → Prop) : Prop := Run prog nd B [.c (.m 3), .c (.loop (.n 1)), .mk 2, .c (.n 0)] [(6, v6), (25, v25), (26, v26), (27, v27)] H Q
theorem G3 {v6 v25 v26 v27 : V} {B : Nat} {H : List Ob} {Q : X → T → List Ob → Prop} (h : Run prog nd B [.c (nd 3), .c (.loop (.n 1)), .mk 2, .c (.n 0)] [(6, v6), (25, v25), (26, v26), (27, v27)] H Q) : L3 v6 v25 v26 v27 B H Q := run_m.2 h
abbrev L7 (v0 v3 v9 v10 v11 : V) (B : Nat) (H : List Ob) (Q : X → T → List Ob → Prop) : Prop := Run prog nd B [.c (.m 7), .c (.loop (.n 5)), .mk 0, .c (.n 4)] [(0, v0), (3, v3), (9, v9), (10, v10), (11, v11)] H Q
theorem G7 {v0 v3 v9 v10 v11 : V} {B : Nat} {H : List Ob} {Q : X → T → List Ob → Prop} (h : Run prog nd B [.c (nd 7), .c (.loop (.n 5)), .mk 0, .c (.n 4)] [(0, v0), (3, v3), (9, v9), (10, v10), (11, v11)] H Q) : L7 v0 v3 v9 v10 v11 B H Q := run_m.2 h
end slices_Concat_s_int_int
namespace derive_Run
def nd : Nat → C
  | 0 => .seq (.reg [.mv 52 (.s 7), .mv 4 (.s 52), .mv 5 (.i 0)]) (.ret)
  | 1 => .gh [.ks 1 [0, 7, 27, 28, 29]] (.m 3)
  | 2 => .seq (.blk 1 (.seq (.reg [.mv 31 (.s 29), .ia 32 2 (.s 27) (.s 29), .la 33 2 (.s 32), .al 9 t_Step [.int .i64 0, .sl 1 []], .mv 8 (.s 31), .sf 9 2 (.s 33)]) (.seq (.dr [0, 1, 2, 3, 4, 5, 6, 7, 8, 9, 10, 11, 12] [.mv 35 (.s 0), .mv 36 (.s 7), .mv 37 (.s 8), .ia 38 3 (.s 36) (.s 37), .la 39 3 (.s 38), .la 40 2 (.s 9), .callp (some 41) n_rewrite_Do [(.s 35), (.s 39), (.s 40)], .mv 34 (.s 41), .ex 42 (.s 34) 0, .ex 43 (.s 34) 1, .al 10 t_Term [.str [], .bool false, .sl 3 []], .sf 10 3 (.s 42), .mv 11 (.s 43)]) (.seq (.seq (.reg [.mv 44 (.s 11), .bin 45 .neq (.s 44) (.i 0)]) (.cond (.s 45) (.seq (.reg [.mv 46 (.s 11), .mv 4 (.c (.sl 3 [])), .mv 5 (.s 46)]) (.ret)) (.skip))) (.reg [.mv 47 (.s 7), .la 48 3 (.s 10), .bs 49 3 [(.s 48)], .app 50 t_Term 3 48 (.s 47) (.s 49), .mv 7 (.s 50)]))))) (.reg [.bin 51 .add (.s 29) (.i 1), .mv 29 (.s 51)])
  | 3 => .seq (.reg [.bin 30 .lss (.s 29) (.s 28)]) (.seq (.cond (.s 30) (.skip) (.exit 0)) (.n 2))
  | 4 => .seq (.reg [.fa 22 0 (.s 3), .la 23 3 (.s 22), .callp (some 24) n_term_Own [(.s 23)], .bo 25 t_Term 3 [(.s 24)], .mv 7 (.s 25)]) (.seq (.seq (.reg [.fa 26 3 (.s 3), .ld 27 (.s 26), .len 28 (.s 27), .mv 29 (.i 0)]) (.blk 0 (.loop (.n 1)))) (.n 0))
  | 5 => .seq (.seq (.reg [.fa 16 0 (.s 3), .la 17 3 (.s 16), .callp (some 18) n_term_Check [(.s 17)], .mv 6 (.s 18)]) (.seq (.reg [.mv 19 (.s 6), .bin 20 .neq (.s 19) (.i 0)]) (.cond (.s 20) (.seq (.reg [.mv 21 (.s 6), .mv 4 (.c (.sl 3 [])), .mv 5 (.s 21)]) (.ret)) (.skip)))) (.n 4)
  | _ => .skip
def body : C := .seq (.reg [.br 3 t_Chain (.s 1), .mv 4 (.c (.sl 3 [])), .mv 5 (.i 0)]) (.seq (.seq (.reg [.fa 12 3 (.s 3), .ld 13 (.s 12), .len 14 (.s 13), .bin 15 .gtr (.s 14) (.i 4096)]) (.cond (.s 15) (.seq (.reg [.mv 4 (.c (.sl 3 [])), .mv 5 (.i 3)]) (.ret)) (.skip))) (.n 5))
def rs : List RV := [.t 4, .t 5]
attribute [push_cast] nd body
theorem ok : okF prog n_derive_Run nd body 2 rs = true := by kernel_rfl
abbrev L3 (v0 v7 v27 v28 v29 : V) (B : Nat) (H : List Ob) (Q : X → T → List Ob → Prop) : Prop := Run prog nd B [.c (.m 3), .c (.loop (.n 1)), .mk 0, .c (.n 0)] [(0, v0), (7, v7), (27, v27), (28, v28), (29, v29)] H Q
theorem G3 {v0 v7 v27 v28 v29 : V} {B : Nat} {H : List Ob} {Q : X → T → List Ob → Prop} (h : Run prog nd B [.c (nd 3), .c (.loop (.n 1)), .mk 0, .c (.n 0)] [(0, v0), (7, v7), (27, v27), (28, v28), (29, v29)] H Q) : L3 v0 v7 v27 v28 v29 B H Q := run_m.2 h
end derive_Run
namespace r05_Terms
def nd : Nat → C
  | 0 => .seq (.reg [.mv 52 (.s 7), .mv 4 (.s 52), .mv 5 (.i 0)]) (.ret)
  | 1 => .gh [.ks 1 [0, 7, 26, 27, 28]] (.m 3)
  | 2 => .seq (.blk 1 (.seq (.reg [.ia 30 2 (.s 26) (.s 28), .la 31 2 (.s 30), .al 9 t_Step [.int .i64 0, .sl 1 []], .sf 9 2 (.s 31)]) (.seq (.dr [0, 1, 2, 3, 4, 5, 6, 7, 8, 9, 10, 11, 12, 13, 14] [.mv 33 (.s 0), .mv 34 (.s 7), .mv 35 (.s 7), .len 36 (.s 35), .bin 37 .sub (.s 36) (.i 1), .ia 38 3 (.s 34) (.s 37), .la 39 3 (.s 38), .la 40 2 (.s 9), .callp (some 41) n_r04_Step [(.s 33), (.s 39), (.s 40)], .mv 32 (.s 41), .ex 42 (.s 32) 0, .ex 43 (.s 32) 1, .al 10 t_Term [.str [], .bool false, .sl 3 []], .sf 10 3 (.s 42), .mv 11 (.s 43)]) (.seq (.seq (.reg [.mv 44 (.s 11), .bin 45 .neq (.s 44) (.i 0)]) (.cond (.s 45) (.seq (.reg [.mv 46 (.s 11), .mv 4 (.c (.sl 3 [])), .mv 5 (.s 46)]) (.ret)) (.skip))) (.reg [.mv 47 (.s 7), .la 48 3 (.s 10), .bs 49 3 [(.s 48)], .app 50 t_Term 3 48 (.s 47) (.s 49), .mv 7 (.s 50)]))))) (.reg [.bin 51 .add (.s 28) (.i 1), .mv 28 (.s 51)])
  | 3 => .seq (.reg [.bin 29 .lss (.s 28) (.s 27)]) (.seq (.cond (.s 29) (.skip) (.exit 0)) (.n 2))
  | 4 => .seq (.reg [.fa 22 0 (.s 3), .la 23 3 (.s 22), .bo 24 t_Term 3 [(.s 23)], .mv 7 (.s 24)]) (.seq (.seq (.reg [.fa 25 3 (.s 3), .ld 26 (.s 25), .len 27 (.s 26), .mv 28 (.i 0)]) (.blk 0 (.loop (.n 1)))) (.n 0))
  | 5 => .seq (.seq (.reg [.fa 16 0 (.s 3), .la 17 3 (.s 16), .callp (some 18) n_r01_Check [(.s 17)], .mv 6 (.s 18)]) (.seq (.reg [.mv 19 (.s 6), .bin 20 .neq (.s 19) (.i 0)]) (.cond (.s 20) (.seq (.reg [.mv 21 (.s 6), .mv 4 (.c (.sl 3 [])), .mv 5 (.s 21)]) (.ret)) (.skip)))) (.n 4)
  | _ => .skip
def body : C := .seq (.reg [.br 3 t_Chain (.s 1), .mv 4 (.c (.sl 3 [])), .mv 5 (.i 0)]) (.seq (.seq (.reg [.fa 12 3 (.s 3), .ld 13 (.s 12), .len 14 (.s 13), .bin 15 .gtr (.s 14) (.i 4096)]) (.cond (.s 15) (.seq (.reg [.mv 4 (.c (.sl 3 [])), .mv 5 (.i 3)]) (.ret)) (.skip))) (.n 5))
def rs : List RV := [.t 4, .t 5]
attribute [push_cast] nd body
theorem ok : okF prog n_r05_Terms nd body 2 rs = true := by kernel_rfl
abbrev L3 (v0 v7 v26 v27 v28 : V) (B : Nat) (H : List Ob) (Q : X → T → List Ob → Prop) : Prop := Run prog nd B [.c (.m 3), .c (.loop (.n 1)), .mk 0, .c (.n 0)] [(0, v0), (7, v7), (26, v26), (27, v27), (28, v28)] H Q
theorem G3 {v0 v7 v26 v27 v28 : V} {B : Nat} {H : List Ob} {Q : X → T → List Ob → Prop} (h : Run prog nd B [.c (nd 3), .c (.loop (.n 1)), .mk 0, .c (.n 0)] [(0, v0), (7, v7), (26, v26), (27, v27), (28, v28)] H Q) : L3 v0 v7 v26 v27 v28 B H Q := run_m.2 h
end r05_Terms
namespace r04_SameChain
def nd (_ : Nat) : C := .skip
def body : C := .seq (.reg [.br 2 t_Chain (.s 0), .br 3 t_Chain (.s 1), .mv 4 (.c (.bool false))]) (.seq (.reg [.fa 5 0 (.s 2), .la 6 3 (.s 5), .fa 7 0 (.s 3), .la 8 3 (.s 7), .callp (some 9) n_r01_Equal [(.s 6), (.s 8)], .mv 10 (.s 9), .gd (.s 10) true [11, 12, 13, 14, 15] [.fa 11 3 (.s 2), .ld 12 (.s 11), .fa 13 3 (.s 3), .ld 14 (.s 13), .callp (some 15) n_r04_SameSteps [(.s 12), (.s 14)]], .pick 16 (.s 10) (.s 15) (.c (.bool false)), .mv 4 (.s 16)]) (.ret))
def rs : List RV := [.t 4]
attribute [push_cast] nd body
theorem ok : okF prog n_r04_SameChain nd body 2 rs = true := by kernel_rfl
end r04_SameChain
namespace l14_example
def nd (_ : Nat) : C := .skip
def body : C := .seq (.reg [.mv 0 (.c (.sl 6 [])), .al 1 t_Loop [.str [], .bool false, .sl 3 [], .sl 2 [], .sl 1 [], .sl 4 []]]) (.seq (.reg [.callp (some 9) n_r02_System [(.c (.str [40, 86, 65, 82, 32, 120, 41, 32, 40, 82, 85, 76, 69, 83, 32, 102, 40, 120, 41, 32, 45, 62, 32, 103, 40, 102, 40, 115, 40, 120, 41, 41, 41, 41]))], .mv 8 (.s 9), .ex 10 (.s 8) 0, .ex 11 (.s 8) 1, .ex 12 (.s 8) 2, .mv 2 (.s 10), .mv 3 (.s 11), .mv 4 (.s 12)]) (.seq (.reg [.bs 14 1 [(.c (.str [120]))], .callp (some 15) n_r02_Term [(.c (.str [115, 40, 120, 41])), (.s 14)], .mv 13 (.s 15), .ex 16 (.s 13) 0, .ex 17 (.s 13) 1, .ex 18 (.s 13) 2, .al 5 t_Term [.str [], .bool false, .sl 3 []], .sf 5 3 (.s 16), .mv 6 (.s 17), .mv 7 (.s 18)]) (.seq (.dr [0, 1, 2, 3, 4, 5, 6, 7, 8, 9, 10, 11, 12, 13, 14] [.mv 19 (.s 2), .mv 20 (.s 2), .ia 21 6 (.s 20) (.i 0), .fa 22 0 (.s 21), .la 23 3 (.s 22), .bd 24 [.int .i64 0, .sl 1 []] [], .bs 25 2 [(.s 24)], .bd 26 [.str [], .bool false, .sl 3 [], .sl 2 []] [(0, 3, (.s 23)), (3, 1, (.s 25))], .bs 27 1 [(.i 0)], .la 28 3 (.s 5), .bd 29 [.str [], .str [], .bool false, .sl 3 []] [(0, 1, (.c (.str [120]))), (1, 3, (.s 28))], .bs 30 4 [(.s 29)], .bd 31 [.str [], .bool false, .sl 3 [], .sl 2 [], .sl 1 [], .sl 4 []] [(0, 4, (.s 26)), (4, 1, (.s 27)), (5, 1, (.s 30))], .mv 0 (.s 19), .st 6 (.s 1) (.s 31)]) (.ret))))
def rs : List RV := [.t 0, .a 1 6]
attribute [push_cast] nd body
theorem ok : okF prog n_l14_example nd body 0 rs = true := by kernel_rfl
end l14_example
namespace r01_SamePos
def nd : Nat → C
  | 0 => .seq (.reg [.mv 4 (.c (.bool true))]) (.ret)
  | 1 => .gh [.ks 0 [0, 1, 12, 13]] (.m 3)
  | 2 => .seq (.blk 1 (.seq (.reg [.mv 15 (.s 13), .mv 5 (.s 15)]) (.seq (.dr [0, 1, 2, 3, 4, 5, 6, 7, 8] [.mv 16 (.s 0), .mv 17 (.s 5), .ia 18 1 (.s 16) (.s 17), .ld 19 (.s 18), .mv 20 (.s 1), .mv 21 (.s 5), .ia 22 1 (.s 20) (.s 21), .ld 23 (.s 22), .bin 24 .neq (.s 19) (.s 23)]) (.cond (.s 24) (.seq (.reg [.mv 4 (.c (.bool false))]) (.ret)) (.skip))))) (.reg [.bin 25 .add (.s 13) (.i 1), .mv 13 (.s 25)])
  | 3 => .seq (.reg [.bin 14 .lss (.s 13) (.s 12)]) (.seq (.cond (.s 14) (.skip) (.exit 0)) (.n 2))
  | 4 => .seq (.seq (.reg [.mv 11 (.s 0), .len 12 (.s 11), .mv 13 (.i 0)]) (.blk 0 (.loop (.n 1)))) (.n 0)
  | _ => .skip
def body : C := .seq (.reg [.mv 4 (.c (.bool false))]) (.seq (.seq (.reg [.mv 6 (.s 0), .len 7 (.s 6), .mv 8 (.s 1), .len 9 (.s 8), .bin 10 .neq (.s 7) (.s 9)]) (.cond (.s 10) (.seq (.reg [.mv 4 (.c (.bool false))]) (.ret)) (.skip))) (.n 4))
def rs : List RV := [.t 4]
attribute [push_cast] nd body
theorem ok : okF prog n_r01_SamePos nd body 2 rs = true := by kernel_rfl
abbrev L3 (v0 v1 v12 v13 : V) (B : Nat) (H : List Ob) (Q : X → T → List Ob → Prop) : Prop := Run prog nd B [.c (.m 3), .c (.loop (.n 1)), .mk 0, .c (.n 0)] [(0, v0), (1, v1), (12, v12), (13, v13)] H Q
theorem G3 {v0 v1 v12 v13 : V} {B : Nat} {H : List Ob} {Q : X → T → List Ob → Prop} (h : Run prog nd B [.c (nd 3), .c (.loop (.n 1)), .mk 0, .c (.n 0)] [(0, v0), (1, v1), (12, v12), (13, v13)] H Q) : L3 v0 v1 v12 v13 B H Q := run_m.2 h
end r01_SamePos
namespace derive_Explore
def nd : Nat → C
  | 0 => .seq (.reg [.mv 23 (.s 0), .la 24 3 (.s 4), .mv 25 (.s 2), .callp (some 26) n_derive_explore [(.s 23), (.s 24), (.s 25)], .ex 27 (.s 26) 0, .ex 28 (.s 26) 1, .st 3 (.s 6) (.s 27), .mv 7 (.s 28)]) (.ret)
  | 1 => .seq (.seq (.reg [.mv 16 (.s 2), .bin 17 .lss (.s 16) (.i 1), .mv 18 (.s 17), .gd (.s 18) false [19, 20] [.mv 19 (.s 2), .bin 20 .gtr (.s 19) (.i 4096)], .pick 21 (.s 18) (.c (.bool true)) (.s 20)]) (.cond (.s 21) (.seq (.reg [.bd 22 [.sl 3 [], .sl 4 [], .bool false] [], .st 3 (.s 6) (.s 22), .mv 7 (.i 2)]) (.ret)) (.skip))) (.n 0)
  | _ => .skip
def body : C := .seq (.reg [.br 4 t_Term (.s 1), .al 6 t_Graph [.sl 3 [], .sl 4 [], .bool false], .mv 7 (.i 0)]) (.seq (.seq (.reg [.mv 9 (.s 0), .la 10 3 (.s 4), .callp (some 11) n_rewrite_Both [(.s 9), (.s 10)], .mv 8 (.s 11)]) (.seq (.reg [.mv 12 (.s 8), .bin 13 .neq (.s 12) (.i 0)]) (.cond (.s 13) (.seq (.reg [.bd 14 [.sl 3 [], .sl 4 [], .bool false] [], .mv 15 (.s 8), .st 3 (.s 6) (.s 14), .mv 7 (.s 15)]) (.ret)) (.skip)))) (.n 1))
def rs : List RV := [.a 6 3, .t 7]
attribute [push_cast] nd body
theorem ok : okF prog n_derive_Explore nd body 3 rs = true := by kernel_rfl
end derive_Explore
namespace loop_instance
def nd : Nat → C
  | 0 => .seq (.reg [.st 1 (.s 4) (.c (.sl 1 [])), .st 1 (.s 5) (.c (.sl 4 [])), .st 1 (.s 6) (.c (.bool false))]) (.ret)
  | 1 => .seq (.reg [.mv 41 (.s 7), .call (some 42) n_slices_Clone_s_int_int [(.s 41)], .mv 43 (.s 11), .st 1 (.s 4) (.s 42), .st 1 (.s 5) (.s 43), .st 1 (.s 6) (.c (.bool true))]) (.ret)
  | 2 => .gh [.ks 2 [4, 5, 6, 7, 11, 25, 26, 27]] (.m 4)
  | 3 => .seq (.blk 3 (.seq (.reg [.ia 29 4 (.s 25) (.s 27), .la 30 4 (.s 29), .al 13 t_Bind [.str [], .str [], .bool false, .sl 3 []], .sf 13 4 (.s 30)]) (.dr [0, 1, 2, 3, 4, 5, 6, 7, 8, 9] [.mv 31 (.s 11), .fa 32 0 (.s 13), .ld 33 (.s 32), .fa 34 1 (.s 13), .la 35 3 (.s 34), .callp (some 36) n_term_Own [(.s 35)], .bd 37 [.str [], .str [], .bool false, .sl 3 []] [(0, 1, (.s 33)), (1, 3, (.s 36))], .bs 38 4 [(.s 37)], .app 39 t_Bind 4 64 (.s 31) (.s 38), .mv 11 (.s 39)]))) (.reg [.bin 40 .add (.s 27) (.i 1), .mv 27 (.s 40)])
  | 4 => .seq (.reg [.bin 28 .lss (.s 27) (.s 26)]) (.seq (.cond (.s 28) (.skip) (.exit 2)) (.n 3))
  | 5 => .blk 1 (.seq (.reg [.la 19 3 (.s 2), .la 20 3 (.s 8), .callp (some 21) n_unify_Find [(.s 19), (.s 20)], .mv 18 (.s 21), .ex 22 (.s 18) 0, .ex 23 (.s 18) 1, .mv 9 (.s 22), .mv 10 (.s 23)]) (.seq (.reg [.mv 24 (.s 10)]) (.cond (.s 24) (.seq (.reg [.mv 11 (.c .nil), .non 11 t_Bind 4]) (.seq (.seq (.reg [.mv 25 (.s 9), .len 26 (.s 25), .mv 27 (.i 0)]) (.blk 2 (.loop (.n 2)))) (.n 1))) (.skip))))
  | _ => .skip
def body : C := .seq (.reg [.br 2 t_Term (.s 0), .br 3 t_Term (.s 1), .al 4 t_s_int [.sl 1 []], .al 5 t_s_Bind [.sl 4 []], .al 6 t_bool [.bool false]]) (.seq (.seq (.reg [.la 14 3 (.s 3), .callp (some 15) n_term_Walk [(.s 14)]]) (.blk 0 (.rf (.s 15) [16, 17] (.seq (.reg [.mv 7 (.s 16)]) (.reg [.al 8 t_Term [.str [], .bool false, .sl 3 []], .sf 8 3 (.s 17)])) (.m 5)))) (.n 0))
def rs : List RV := [.c 4, .c 5, .c 6]
attribute [push_cast] nd body
theorem ok : okF prog n_loop_instance nd body 2 rs = true := by kernel_rfl
abbrev L4 (v4 v5 v6 v7 v11 v25 v26 v27 : V) (B : Nat) (H : List Ob) (Q : X → T → List Ob → Prop) : Prop := Run prog nd B [.c (.m 4), .c (.loop (.n 2)), .mk 2, .c (.n 1), .mk 1] [(4, v4), (5, v5), (6, v6), (7, v7), (11, v11), (25, v25), (26, v26), (27, v27)] H Q
theorem G4 {v4 v5 v6 v7 v11 v25 v26 v27 : V} {B : Nat} {H : List Ob} {Q : X → T → List Ob → Prop} (h : Run prog nd B [.c (nd 4), .c (.loop (.n 2)), .mk 2, .c (.n 1), .mk 1] [(4, v4), (5, v5), (6, v6), (7, v7), (11, v11), (25, v25), (26, v26), (27, v27)] H Q) : L4 v4 v5 v6 v7 v11 v25 v26 v27 B H Q := run_m.2 h
end loop_instance
namespace loop_chain
def nd : Nat → C
  | 0 => .seq (.reg [.fa 36 3 (.s 5), .ld 37 (.s 36), .call (some 38) n_slices_Reverse_s_Step_Step [(.s 37)]]) (.seq (.reg [.la 39 4 (.s 5), .st 4 (.s 4) (.s 39)]) (.ret))
  | 1 => .gh [.ks 4 [2, 3, 4, 5]] (.m 3)
  | 2 => .blk 1 (.seq (.reg [.fa 15 1 (.s 2), .ld 16 (.s 15), .mf 17 n_loop_chain_1 [] [(.s 3)], .call (some 18) n_slices_IndexFunc_s_Edge_Edge [(.s 16), (.s 17)], .mv 6 (.s 18)]) (.seq (.dr [0, 1, 2, 3, 4, 5, 6, 7, 8, 9, 10, 11] [.fa 19 3 (.s 5), .ld 20 (.s 19), .fa 21 1 (.s 2), .ld 22 (.s 21), .mv 23 (.s 6), .ia 24 4 (.s 22) (.s 23), .fa 25 2 (.s 24), .la 26 2 (.s 25), .bs 27 2 [(.s 26)], .apr 28 t_Step 2 32 (.s 20) (.s 27), .fa 29 3 (.s 5), .st 1 (.s 29) (.s 28)]) (.reg [.fa 30 1 (.s 2), .ld 31 (.s 30), .mv 32 (.s 6), .ia 33 4 (.s 31) (.s 32), .fa 34 0 (.s 33), .ld 35 (.s 34), .st 1 (.s 3) (.s 35)])))
  | 3 => .seq (.seq (.reg [.ld 13 (.s 3), .bin 14 .gtr (.s 13) (.i 0)]) (.cond (.s 14) (.skip) (.exit 0))) (.n 2)
  | _ => .skip
def body : C := .seq (.reg [.br 2 t_Graph (.s 0), .bx 3 t_int (.s 1), .al 4 t_Chain [.str [], .bool false, .sl 3 [], .sl 2 []]]) (.seq (.reg [.fa 7 0 (.s 2), .ld 8 (.s 7), .ia 9 3 (.s 8) (.i 0), .la 10 3 (.s 9), .callp (some 11) n_term_Own [(.s 10)], .bd 12 [.str [], .bool false, .sl 3 [], .nil] [(0, 3, (.s 11))], .al 5 t_Chain [.str [], .bool false, .sl 3 [], .nil], .st 4 (.s 5) (.s 12), .rono t_Step 2 3 (.s 5)]) (.seq (.blk 0 (.loop (.n 1))) (.n 0)))
def rs : List RV := [.a 4 4]
attribute [push_cast] nd body
theorem ok : okF prog n_loop_chain nd body 2 rs = true := by kernel_rfl
abbrev L3 (v2 v3 v4 v5 : V) (B : Nat) (H : List Ob) (Q : X → T → List Ob → Prop) : Prop := Run prog nd B [.c (.m 3), .c (.loop (.n 1)), .mk 0, .c (.n 0)] [(2, v2), (3, v3), (4, v4), (5, v5)] H Q
theorem G3 {v2 v3 v4 v5 : V} {B : Nat} {H : List Ob} {Q : X → T → List Ob → Prop} (h : Run prog nd B [.c (nd 3), .c (.loop (.n 1)), .mk 0, .c (.n 0)] [(2, v2), (3, v3), (4, v4), (5, v5)] H Q) : L3 v2 v3 v4 v5 B H Q := run_m.2 h
end loop_chain
namespace r01_Check
def nd : Nat → C
  | 0 => .seq (.reg [.mv 2 (.i 0)]) (.ret)
  | 1 => .seq (.seq (.reg [.la 6 3 (.s 1), .callp (some 7) n_r01_Size [(.s 6)], .bin 8 .gtr (.s 7) (.i 4000), .mv 9 (.s 8), .gd (.s 9) false [10, 11, 12] [.la 10 3 (.s 1), .callp (some 11) n_r01_Depth [(.s 10)], .bin 12 .gtr (.s 11) (.i 200)], .pick 13 (.s 9) (.c (.bool true)) (.s 12)]) (.cond (.s 13) (.seq (.reg [.mv 2 (.i 3)]) (.ret)) (.skip))) (.n 0)
  | _ => .skip
def body : C := .seq (.reg [.br 1 t_Term (.s 0), .mv 2 (.i 0)]) (.seq (.seq (.reg [.la 3 3 (.s 1), .callp (some 4) n_r01_Formed [(.s 3)], .un 5 .not (.s 4)]) (.cond (.s 5) (.seq (.reg [.mv 2 (.i 4)]) (.ret)) (.skip))) (.n 1))
def rs : List RV := [.t 2]
attribute [push_cast] nd body
theorem ok : okF prog n_r01_Check nd body 1 rs = true := by kernel_rfl
end r01_Check
namespace r05_Explore
def nd : Nat → C
  | 0 => .seq (.reg [.la 87 3 (.s 8), .st 3 (.s 6) (.s 87), .mv 7 (.i 0)]) (.ret)
  | 1 => .gh [.ks 4 [0, 2, 6, 8, 9]] (.m 8)
  | 2 => .gh [.ks 4 [0, 2, 6, 8, 9, 31, 32, 33]] (.m 6)
  | 3 => .seq (.seq (.reg [.mv 66 (.s 14), .bin 67 .lss (.s 66) (.i 0)]) (.cond (.s 67) (.seq (.reg [.fa 68 0 (.s 8), .ld 69 (.s 68), .len 70 (.s 69), .mv 14 (.s 70)]) (.reg [.fa 71 0 (.s 8), .ld 72 (.s 71), .la 73 3 (.s 12), .bs 74 3 [(.s 73)], .app 75 t_Term 3 48 (.s 72) (.s 74), .fa 76 0 (.s 8), .st 1 (.s 76) (.s 75)])) (.skip))) (.reg [.fa 77 1 (.s 8), .ld 78 (.s 77), .mv 79 (.s 9), .mv 80 (.s 14), .la 81 2 (.s 11), .bd 82 [.int .i64 0, .int .i64 0, .int .i64 0, .sl 1 []] [(0, 1, (.s 79)), (1, 1, (.s 80)), (2, 2, (.s 81))], .bs 83 4 [(.s 82)], .app 84 t_Edge 4 48 (.s 78) (.s 83), .fa 85 1 (.s 8), .st 1 (.s 85) (.s 84)])
  | 4 => .seq (.reg [.fa 52 0 (.s 8), .ld 53 (.s 52), .la 54 3 (.s 12), .callp (some 55) n_r05_Find [(.s 53), (.s 54)], .mv 14 (.s 55)]) (.seq (.seq (.reg [.mv 56 (.s 14), .bin 57 .lss (.s 56) (.i 0), .mv 58 (.s 57), .gd (.s 58) true [59, 60, 61, 62, 63] [.fa 59 0 (.s 8), .ld 60 (.s 59), .len 61 (.s 60), .mv 62 (.s 2), .bin 63 .geq (.s 61) (.s 62)], .pick 64 (.s 58) (.s 63) (.c (.bool false))]) (.cond (.s 64) (.seq (.reg [.fa 65 2 (.s 8), .st 1 (.s 65) (.c (.bool false))]) (.exit 3)) (.skip))) (.n 3))
  | 5 => .seq (.blk 3 (.seq (.reg [.ia 35 2 (.s 31) (.s 33), .la 36 2 (.s 35), .al 11 t_Step [.int .i64 0, .sl 1 []], .sf 11 2 (.s 36)]) (.seq (.dr [0, 1, 2, 3, 4, 5, 6, 7, 8, 9, 10, 11, 12, 13] [.mv 38 (.s 0), .fa 39 0 (.s 8), .ld 40 (.s 39), .mv 41 (.s 9), .ia 42 3 (.s 40) (.s 41), .la 43 3 (.s 42), .la 44 2 (.s 11), .callp (some 45) n_r04_Step [(.s 38), (.s 43), (.s 44)], .mv 37 (.s 45), .ex 46 (.s 37) 0, .ex 47 (.s 37) 1, .al 12 t_Term [.str [], .bool false, .sl 3 []], .sf 12 3 (.s 46), .mv 13 (.s 47)]) (.seq (.seq (.reg [.mv 48 (.s 13), .bin 49 .neq (.s 48) (.i 0)]) (.cond (.s 49) (.seq (.reg [.bd 50 [.sl 3 [], .sl 4 [], .bool false] [], .mv 51 (.s 13), .st 3 (.s 6) (.s 50), .mv 7 (.s 51)]) (.ret)) (.skip))) (.n 4))))) (.reg [.bin 86 .add (.s 33) (.i 1), .mv 33 (.s 86)])
  | 6 => .seq (.reg [.bin 34 .lss (.s 33) (.s 32)]) (.seq (.cond (.s 34) (.skip) (.exit 2)) (.n 5))
  | 7 => .seq (.blk 1 (.seq (.reg [.mv 25 (.s 0), .fa 26 0 (.s 8), .ld 27 (.s 26), .mv 28 (.s 9), .ia 29 3 (.s 27) (.s 28), .la 30 3 (.s 29), .callp (some 31) n_r04_Redexes [(.s 25), (.s 30), (.i 1)], .len 32 (.s 31), .mv 33 (.i 0)]) (.blk 2 (.loop (.n 2))))) (.reg [.mv 23 (.s 9), .bin 24 .add (.s 23) (.i 1), .mv 9 (.s 24)])
  | 8 => .seq (.seq (.reg [.mv 18 (.s 9), .fa 19 0 (.s 8), .ld 20 (.s 19), .len 21 (.s 20), .bin 22 .lss (.s 18) (.s 21)]) (.cond (.s 22) (.skip) (.exit 0))) (.n 7)
  | _ => .skip
def body : C := .seq (.reg [.br 4 t_Term (.s 1), .al 6 t_Graph [.sl 3 [], .sl 4 [], .bool false], .mv 7 (.i 0)]) (.seq (.reg [.la 15 3 (.s 4), .bo 16 t_Term 3 [(.s 15)], .bd 17 [.nil, .nil, .bool false] [(0, 1, (.s 16)), (2, 1, (.c (.bool true)))], .al 8 t_Graph [.nil, .nil, .bool false], .st 3 (.s 8) (.s 17), .ono t_Edge 4 1 (.s 8)]) (.seq (.seq (.reg [.mv 9 (.i 0)]) (.blk 0 (.loop (.n 1)))) (.n 0)))
def rs : List RV := [.a 6 3, .t 7]
attribute [push_cast] nd body
theorem ok : okF prog n_r05_Explore nd body 3 rs = true := by kernel_rfl
abbrev L6 (v0 v2 v6 v8 v9 v31 v32 v33 : V) (B : Nat) (H : List Ob) (Q : X → T → List Ob → Prop) : Prop := Run prog nd B [.c (.m 6), .c (.loop (.n 2)), .mk 2, .mk 1, .c (.reg [.mv 23 (.s 9), .bin 24 .add (.s 23) (.i 1), .mv 9 (.s 24)]), .c (.loop (.n 1)), .mk 0, .c (.n 0)] [(0, v0), (2, v2), (6, v6), (8, v8), (9, v9), (31, v31), (32, v32), (33, v33)] H Q
theorem G6 {v0 v2 v6 v8 v9 v31 v32 v33 : V} {B : Nat} {H : List Ob} {Q : X → T → List Ob → Prop} (h : Run prog nd B [.c (nd 6), .c (.loop (.n 2)), .mk 2, .mk 1, .c (.reg [.mv 23 (.s 9), .bin 24 .add (.s 23) (.i 1), .mv 9 (.s 24)]), .c (.loop (.n 1)), .mk 0, .c (.n 0)] [(0, v0), (2, v2), (6, v6), (8, v8), (9, v9), (31, v31), (32, v32), (33, v33)] H Q) : L6 v0 v2 v6 v8 v9 v31 v32 v33 B H Q := run_m.2 h
abbrev L8 (v0 v2 v6 v8 v9 : V) (B : Nat) (H : List Ob) (Q : X → T → List Ob → Prop) : Prop := Run prog nd B [.c (.m 8), .c (.loop (.n 1)), .mk 0, .c (.n 0)] [(0, v0), (2, v2), (6, v6), (8, v8), (9, v9)] H Q
theorem G8 {v0 v2 v6 v8 v9 : V} {B : Nat} {H : List Ob} {Q : X → T → List Ob → Prop} (h : Run prog nd B [.c (nd 8), .c (.loop (.n 1)), .mk 0, .c (.n 0)] [(0, v0), (2, v2), (6, v6), (8, v8), (9, v9)] H Q) : L8 v0 v2 v6 v8 v9 B H Q := run_m.2 h
end r05_Explore
namespace r14_instance
def nd : Nat → C
  | 0 => .seq (.reg [.mv 4 (.c (.sl 1 [])), .mv 5 (.c (.sl 4 [])), .mv 6 (.c (.bool false))]) (.ret)
  | 1 => .gh [.ks 0 [2, 3, 14, 15, 16]] (.m 3)
  | 2 => .seq (.blk 1 (.seq (.reg [.ia 18 1 (.s 14) (.s 16), .ld 19 (.s 18), .mv 8 (.s 19)]) (.seq (.reg [.la 21 3 (.s 3), .mv 22 (.s 8), .callp (some 23) n_r01_At [(.s 21), (.s 22)], .mv 20 (.s 23), .ex 24 (.s 20) 0, .ex 25 (.s 20) 1, .al 9 t_Term [.str [], .bool false, .sl 3 []], .sf 9 3 (.s 24), .mv 10 (.s 25)]) (.seq (.reg [.la 27 3 (.s 2), .la 28 3 (.s 9), .callp (some 29) n_r03_Match [(.s 27), (.s 28)], .mv 26 (.s 29), .ex 30 (.s 26) 0, .ex 31 (.s 26) 1, .mv 11 (.s 30), .mv 12 (.s 31)]) (.seq (.reg [.mv 32 (.s 12)]) (.cond (.s 32) (.seq (.reg [.mv 33 (.s 8), .mv 34 (.s 11), .mv 4 (.s 33), .mv 5 (.s 34), .mv 6 (.c (.bool true))]) (.ret)) (.skip))))))) (.reg [.bin 35 .add (.s 16) (.i 1), .mv 16 (.s 35)])
  | 3 => .seq (.reg [.bin 17 .lss (.s 16) (.s 15)]) (.seq (.cond (.s 17) (.skip) (.exit 0)) (.n 2))
  | _ => .skip
def body : C := .seq (.reg [.br 2 t_Term (.s 0), .br 3 t_Term (.s 1), .mv 4 (.c (.sl 1 [])), .mv 5 (.c (.sl 4 [])), .mv 6 (.c (.bool false))]) (.seq (.seq (.reg [.la 13 3 (.s 3), .callp (some 14) n_r01_Positions [(.s 13)], .len 15 (.s 14), .mv 16 (.i 0)]) (.blk 0 (.loop (.n 1)))) (.n 0))
def rs : List RV := [.t 4, .t 5, .t 6]
attribute [push_cast] nd body
theorem ok : okF prog n_r14_instance nd body 2 rs = true := by kernel_rfl
abbrev L3 (v2 v3 v14 v15 v16 : V) (B : Nat) (H : List Ob) (Q : X → T → List Ob → Prop) : Prop := Run prog nd B [.c (.m 3), .c (.loop (.n 1)), .mk 0, .c (.n 0)] [(2, v2), (3, v3), (14, v14), (15, v15), (16, v16)] H Q
theorem G3 {v2 v3 v14 v15 v16 : V} {B : Nat} {H : List Ob} {Q : X → T → List Ob → Prop} (h : Run prog nd B [.c (nd 3), .c (.loop (.n 1)), .mk 0, .c (.n 0)] [(2, v2), (3, v3), (14, v14), (15, v15), (16, v16)] H Q) : L3 v2 v3 v14 v15 v16 B H Q := run_m.2 h
end r14_instance
namespace r05_Path
def nd : Nat → C
  | 0 => .seq (.reg [.mv 4 (.c .nil), .non 4 t_Step 2]) (.ret)
  | 1 => .gh [.ks 1 [1, 2, 10, 11, 12]] (.m 3)
  | 2 => .seq (.blk 1 (.seq (.reg [.ia 14 4 (.s 10) (.s 12), .la 15 4 (.s 14), .al 6 t_Edge [.int .i64 0, .int .i64 0, .int .i64 0, .sl 1 []], .sf 6 4 (.s 15)]) (.seq (.reg [.fa 16 1 (.s 6), .ld 17 (.s 16), .mv 18 (.s 1), .bin 19 .eql (.s 17) (.s 18)]) (.cond (.s 19) (.seq (.dr [0, 1, 2] [.la 20 3 (.s 2), .fa 21 0 (.s 6), .ld 22 (.s 21), .alt [([3, 4, 5, 6, 7, 8], [.call (some 23) n_r05_Path [(.s 20), (.s 22)], .fa 24 2 (.s 6), .la 25 2 (.s 24), .bs 26 2 [(.s 25)], .app 27 t_Step 2 32 (.s 23) (.s 26), .mv 4 (.s 27)]), ([4], [.fa 24 2 (.s 6), .alt [([3, 5, 6, 7, 8], [.call (some 23) n_r05_Path [(.s 20), (.s 22)], .la 25 2 (.s 24), .bs 26 2 [(.s 25)], .app 27 t_Step 2 32 (.s 23) (.s 26), .mv 4 (.s 27)]), ([5, 6, 3, 7, 8], [.la 25 2 (.s 24), .bs 26 2 [(.s 25)], .call (some 23) n_r05_Path [(.s 20), (.s 22)], .app 27 t_Step 2 32 (.s 23) (.s 26), .mv 4 (.s 27)])]])]]) (.ret)) (.skip))))) (.reg [.bin 28 .add (.s 12) (.i 1), .mv 12 (.s 28)])
  | 3 => .seq (.reg [.bin 13 .lss (.s 12) (.s 11)]) (.seq (.cond (.s 13) (.skip) (.exit 0)) (.n 2))
  | 4 => .seq (.seq (.reg [.fa 9 1 (.s 2), .ld 10 (.s 9), .len 11 (.s 10), .mv 12 (.i 0)]) (.blk 0 (.loop (.n 1)))) (.n 0)
  | _ => .skip
def body : C := .seq (.reg [.br 2 t_Graph (.s 0), .mv 4 (.c .nil), .non 4 t_Step 2]) (.seq (.seq (.reg [.mv 7 (.s 1), .bin 8 .eql (.s 7) (.i 0)]) (.cond (.s 8) (.seq (.reg [.mv 4 (.c .nil), .non 4 t_Step 2]) (.ret)) (.skip))) (.n 4))
def rs : List RV := [.t 4]
attribute [push_cast] nd body
theorem ok : okF prog n_r05_Path nd body 2 rs = true := by kernel_rfl
abbrev L3 (v1 v2 v10 v11 v12 : V) (B : Nat) (H : List Ob) (Q : X → T → List Ob → Prop) : Prop := Run prog nd B [.c (.m 3), .c (.loop (.n 1)), .mk 0, .c (.n 0)] [(1, v1), (2, v2), (10, v10), (11, v11), (12, v12)] H Q
theorem G3 {v1 v2 v10 v11 v12 : V} {B : Nat} {H : List Ob} {Q : X → T → List Ob → Prop} (h : Run prog nd B [.c (nd 3), .c (.loop (.n 1)), .mk 0, .c (.n 0)] [(1, v1), (2, v2), (10, v10), (11, v11), (12, v12)] H Q) : L3 v1 v2 v10 v11 v12 B H Q := run_m.2 h
end r05_Path
namespace r01_SameSubst
def nd : Nat → C
  | 0 => .seq (.reg [.mv 4 (.c (.bool true))]) (.ret)
  | 1 => .gh [.ks 0 [0, 1, 12, 13]] (.m 3)
  | 2 => .seq (.blk 1 (.seq (.reg [.mv 15 (.s 13), .mv 5 (.s 15)]) (.seq (.dr [0, 1, 2, 3, 4, 5, 6, 7, 8, 9, 10, 11, 12, 13, 14, 15, 16, 17, 18, 19, 20, 21, 22, 23, 24] [.mv 16 (.s 0), .mv 17 (.s 5), .ia 18 4 (.s 16) (.s 17), .fa 19 0 (.s 18), .ld 20 (.s 19), .mv 21 (.s 1), .mv 22 (.s 5), .ia 23 4 (.s 21) (.s 22), .fa 24 0 (.s 23), .ld 25 (.s 24), .bin 26 .neq (.s 20) (.s 25), .mv 27 (.s 26), .gd (.s 27) false [28] [.mv 28 (.s 0)], .gd (.s 27) false [29] [.mv 29 (.s 5)], .gd (.s 27) false [30] [.ia 30 4 (.s 28) (.s 29)], .gd (.s 27) false [31] [.fa 31 1 (.s 30)], .gd (.s 27) false [32] [.la 32 3 (.s 31)], .gd (.s 27) false [33] [.mv 33 (.s 1)], .gd (.s 27) false [34] [.mv 34 (.s 5)], .gd (.s 27) false [35] [.ia 35 4 (.s 33) (.s 34)], .gd (.s 27) false [36] [.fa 36 1 (.s 35)], .gd (.s 27) false [37] [.la 37 3 (.s 36)], .gd (.s 27) false [38] [.callp (some 38) n_r01_Equal [(.s 32), (.s 37)]], .gd (.s 27) false [39] [.un 39 .not (.s 38)], .pick 40 (.s 27) (.c (.bool true)) (.s 39)]) (.cond (.s 40) (.seq (.reg [.mv 4 (.c (.bool false))]) (.ret)) (.skip))))) (.reg [.bin 41 .add (.s 13) (.i 1), .mv 13 (.s 41)])
  | 3 => .seq (.reg [.bin 14 .lss (.s 13) (.s 12)]) (.seq (.cond (.s 14) (.skip) (.exit 0)) (.n 2))
  | 4 => .seq (.seq (.reg [.mv 11 (.s 0), .len 12 (.s 11), .mv 13 (.i 0)]) (.blk 0 (.loop (.n 1)))) (.n 0)
  | _ => .skip
def body : C := .seq (.reg [.mv 4 (.c (.bool false))]) (.seq (.seq (.reg [.mv 6 (.s 0), .len 7 (.s 6), .mv 8 (.s 1), .len 9 (.s 8), .bin 10 .neq (.s 7) (.s 9)]) (.cond (.s 10) (.seq (.reg [.mv 4 (.c (.bool false))]) (.ret)) (.skip))) (.n 4))
def rs : List RV := [.t 4]
attribute [push_cast] nd body
theorem ok : okF prog n_r01_SameSubst nd body 2 rs = true := by kernel_rfl
abbrev L3 (v0 v1 v12 v13 : V) (B : Nat) (H : List Ob) (Q : X → T → List Ob → Prop) : Prop := Run prog nd B [.c (.m 3), .c (.loop (.n 1)), .mk 0, .c (.n 0)] [(0, v0), (1, v1), (12, v12), (13, v13)] H Q
theorem G3 {v0 v1 v12 v13 : V} {B : Nat} {H : List Ob} {Q : X → T → List Ob → Prop} (h : Run prog nd B [.c (nd 3), .c (.loop (.n 1)), .mk 0, .c (.n 0)] [(0, v0), (1, v1), (12, v12), (13, v13)] H Q) : L3 v0 v1 v12 v13 B H Q := run_m.2 h
end r01_SameSubst
end Go.Dw
