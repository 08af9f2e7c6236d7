/-
  Functions of the program, printed for the reader, on.
-/
import Derived.Test.YtokdinonifchaaaGreatNm
set_option maxRecDepth 100000
namespace Go.Dw
namespace r01_Count
def nd : Nat → C
  | 0 => .seq (.reg [.mv 29 (.s 5), .mv 4 (.s 29)]) (.ret)
  | 1 => .gh [.ks 0 [1, 5, 17, 18, 19]] (.m 3)
  | 2 => .seq (.blk 1 (.seq (.reg [.ia 21 3 (.s 17) (.s 19), .la 22 3 (.s 21), .al 7 t_Term [.str [], .bool false, .sl 3 []], .sf 7 3 (.s 22)]) (.reg [.mv 23 (.s 5), .la 24 3 (.s 7), .mv 25 (.s 1), .callp (some 26) n_r01_Count [(.s 24), (.s 25)], .bin 27 .add (.s 23) (.s 26), .mv 5 (.s 27)]))) (.reg [.bin 28 .add (.s 19) (.i 1), .mv 19 (.s 28)])
  | 3 => .seq (.reg [.bin 20 .lss (.s 19) (.s 18)]) (.seq (.cond (.s 20) (.skip) (.exit 0)) (.n 2))
  | 4 => .seq (.seq (.reg [.fa 16 2 (.s 2), .ld 17 (.s 16), .len 18 (.s 17), .mv 19 (.i 0)]) (.blk 0 (.loop (.n 1)))) (.n 0)
  | _ => .skip
def body : C := .seq (.reg [.br 2 t_Term (.s 0), .mv 4 (.i 0)]) (.seq (.reg [.mv 5 (.i 0)]) (.seq (.seq (.reg [.fa 8 1 (.s 2), .ld 9 (.s 8), .mv 10 (.s 9), .gd (.s 10) true [11, 12, 13, 14] [.fa 11 0 (.s 2), .ld 12 (.s 11), .mv 13 (.s 1), .bin 14 .eql (.s 12) (.s 13)], .pick 15 (.s 10) (.s 14) (.c (.bool false))]) (.cond (.s 15) (.reg [.mv 5 (.i 1)]) (.skip))) (.n 4)))
def rs : List RV := [.t 4]
attribute [push_cast] nd body
theorem ok : okF prog n_r01_Count nd body 2 rs = true := by kernel_rfl
abbrev L3 (v1 v5 v17 v18 v19 : V) (B : Nat) (H : List Ob) (Q : X → T → List Ob → Prop) : Prop := Run prog nd B [.c (.m 3), .c (.loop (.n 1)), .mk 0, .c (.n 0)] [(1, v1), (5, v5), (17, v17), (18, v18), (19, v19)] H Q
theorem G3 {v1 v5 v17 v18 v19 : V} {B : Nat} {H : List Ob} {Q : X → T → List Ob → Prop} (h : Run prog nd B [.c (nd 3), .c (.loop (.n 1)), .mk 0, .c (.n 0)] [(1, v1), (5, v5), (17, v17), (18, v18), (19, v19)] H Q) : L3 v1 v5 v17 v18 v19 B H Q := run_m.2 h
end r01_Count
namespace term_CheckRules
def nd : Nat → C
  | 0 => .seq (.reg [.mv 2 (.i 0)]) (.ret)
  | 1 => .gh [.ks 0 [9, 10, 11]] (.m 3)
  | 2 => .seq (.blk 1 (.seq (.reg [.ia 13 6 (.s 9) (.s 11), .la 14 6 (.s 13), .al 4 t_Rule [.str [], .bool false, .sl 3 [], .str [], .bool false, .sl 3 []], .sf 4 6 (.s 14)]) (.seq (.reg [.fa 15 0 (.s 4), .la 16 3 (.s 15), .fa 17 3 (.s 4), .la 18 3 (.s 17), .bs 19 3 [(.s 16), (.s 18)], .callp (some 20) n_term_All [(.s 19)], .mv 5 (.s 20)]) (.seq (.reg [.mv 21 (.s 5), .bin 22 .neq (.s 21) (.i 0)]) (.cond (.s 22) (.seq (.reg [.mv 23 (.s 5), .mv 2 (.s 23)]) (.ret)) (.skip)))))) (.reg [.bin 24 .add (.s 11) (.i 1), .mv 11 (.s 24)])
  | 3 => .seq (.reg [.bin 12 .lss (.s 11) (.s 10)]) (.seq (.cond (.s 12) (.skip) (.exit 0)) (.n 2))
  | 4 => .seq (.seq (.reg [.mv 9 (.s 0), .len 10 (.s 9), .mv 11 (.i 0)]) (.blk 0 (.loop (.n 1)))) (.n 0)
  | _ => .skip
def body : C := .seq (.reg [.mv 2 (.i 0)]) (.seq (.seq (.reg [.mv 6 (.s 0), .len 7 (.s 6), .bin 8 .gtr (.s 7) (.i 64)]) (.cond (.s 8) (.seq (.reg [.mv 2 (.i 3)]) (.ret)) (.skip))) (.n 4))
def rs : List RV := [.t 2]
attribute [push_cast] nd body
theorem ok : okF prog n_term_CheckRules nd body 1 rs = true := by kernel_rfl
abbrev L3 (v9 v10 v11 : V) (B : Nat) (H : List Ob) (Q : X → T → List Ob → Prop) : Prop := Run prog nd B [.c (.m 3), .c (.loop (.n 1)), .mk 0, .c (.n 0)] [(9, v9), (10, v10), (11, v11)] H Q
theorem G3 {v9 v10 v11 : V} {B : Nat} {H : List Ob} {Q : X → T → List Ob → Prop} (h : Run prog nd B [.c (nd 3), .c (.loop (.n 1)), .mk 0, .c (.n 0)] [(9, v9), (10, v10), (11, v11)] H Q) : L3 v9 v10 v11 B H Q := run_m.2 h
end term_CheckRules
namespace term_Arities
def nd : Nat → C
  | 0 => .seq (.reg [.ld 57 (.s 4), .st 1 (.s 2) (.s 57), .st 1 (.s 3) (.c (.bool true))]) (.ret)
  | 1 => .gh [.ks 4 [2, 3, 4, 10, 14, 15, 16]] (.m 8)
  | 2 => .gh [.ks 5 [2, 3, 4, 10, 14, 15, 16, 24, 25]] (.m 6)
  | 3 => .seq (.seq (.reg [.ld 35 (.s 4), .fa 36 0 (.s 10), .ld 37 (.s 36), .lkp 38 true true (.int .i64 0) (.s 35) (.s 37), .mv 34 (.s 38), .ex 39 (.s 34) 0, .ex 40 (.s 34) 1, .mv 11 (.s 39), .mv 12 (.s 40)]) (.seq (.reg [.mv 41 (.s 12), .mv 42 (.s 41), .gd (.s 42) true [43, 44, 45, 46, 47] [.mv 43 (.s 11), .fa 44 2 (.s 10), .ld 45 (.s 44), .len 46 (.s 45), .bin 47 .neq (.s 43) (.s 46)], .pick 48 (.s 42) (.s 47) (.c (.bool false))]) (.cond (.s 48) (.seq (.reg [.st 1 (.s 2) (.c .nilm), .st 1 (.s 3) (.c (.bool false))]) (.ret)) (.skip)))) (.reg [.ld 49 (.s 4), .fa 50 0 (.s 10), .ld 51 (.s 50), .fa 52 2 (.s 10), .ld 53 (.s 52), .len 54 (.s 53), .mup true (.s 49) (.s 51) (.s 54)])
  | 4 => .blk 5 (.seq (.seq (.reg [.fa 32 1 (.s 10), .ld 33 (.s 32)]) (.cond (.s 33) (.exit 5) (.skip))) (.n 3))
  | 5 => .seq (.blk 3 (.seq (.reg [.ixa 27 3 2 (some 3) (.s 24) (.s 25), .al 8 t_Term [.str [], .bool false, .sl 3 []], .sf 8 3 (.s 27)]) (.seq (.reg [.la 28 3 (.s 8), .callp (some 29) n_term_Walk [(.s 28)]]) (.blk 4 (.rf (.s 29) [30, 31] (.reg [.al 10 t_Term [.str [], .bool false, .sl 3 []], .sf 10 3 (.s 31)]) (.m 4)))))) (.reg [.bin 55 .add (.s 25) (.i 1), .mv 25 (.s 55)])
  | 6 => .seq (.reg [.bin 26 .lss (.s 25) (.i 2)]) (.seq (.cond (.s 26) (.skip) (.exit 2)) (.n 5))
  | 7 => .seq (.blk 1 (.seq (.reg [.ia 18 6 (.s 14) (.s 16), .la 19 6 (.s 18), .al 6 t_Rule [.str [], .bool false, .sl 3 [], .str [], .bool false, .sl 3 []], .sf 6 6 (.s 19)]) (.seq (.reg [.fa 20 0 (.s 6), .la 21 3 (.s 20), .fa 22 3 (.s 6), .la 23 3 (.s 22), .bd 24 [.str [], .bool false, .sl 3 [], .str [], .bool false, .sl 3 []] [(0, 3, (.s 21)), (3, 3, (.s 23))], .mv 25 (.i 0)]) (.blk 2 (.loop (.n 2)))))) (.reg [.bin 56 .add (.s 16) (.i 1), .mv 16 (.s 56)])
  | 8 => .seq (.reg [.bin 17 .lss (.s 16) (.s 15)]) (.seq (.cond (.s 17) (.skip) (.exit 0)) (.n 7))
  | _ => .skip
def body : C := .seq (.reg [.al 2 t_m_string_int [.nilm], .al 3 t_bool [.bool false]]) (.seq (.reg [.mkm 13, .al 4 t_m_string_int [.nilm], .st 1 (.s 4) (.s 13)]) (.seq (.seq (.reg [.mv 14 (.s 0), .len 15 (.s 14), .mv 16 (.i 0)]) (.blk 0 (.loop (.n 1)))) (.n 0)))
def rs : List RV := [.c 2, .c 3]
attribute [push_cast] nd body
theorem ok : okF prog n_term_Arities nd body 1 rs = true := by kernel_rfl
abbrev L6 (v2 v3 v4 v10 v14 v15 v16 v24 v25 : V) (B : Nat) (H : List Ob) (Q : X → T → List Ob → Prop) : Prop := Run prog nd B [.c (.m 6), .c (.loop (.n 2)), .mk 2, .mk 1, .c (.reg [.bin 56 .add (.s 16) (.i 1), .mv 16 (.s 56)]), .c (.loop (.n 1)), .mk 0, .c (.n 0)] [(2, v2), (3, v3), (4, v4), (10, v10), (14, v14), (15, v15), (16, v16), (24, v24), (25, v25)] H Q
theorem G6 {v2 v3 v4 v10 v14 v15 v16 v24 v25 : V} {B : Nat} {H : List Ob} {Q : X → T → List Ob → Prop} (h : Run prog nd B [.c (nd 6), .c (.loop (.n 2)), .mk 2, .mk 1, .c (.reg [.bin 56 .add (.s 16) (.i 1), .mv 16 (.s 56)]), .c (.loop (.n 1)), .mk 0, .c (.n 0)] [(2, v2), (3, v3), (4, v4), (10, v10), (14, v14), (15, v15), (16, v16), (24, v24), (25, v25)] H Q) : L6 v2 v3 v4 v10 v14 v15 v16 v24 v25 B H Q := run_m.2 h
abbrev L8 (v2 v3 v4 v10 v14 v15 v16 : V) (B : Nat) (H : List Ob) (Q : X → T → List Ob → Prop) : Prop := Run prog nd B [.c (.m 8), .c (.loop (.n 1)), .mk 0, .c (.n 0)] [(2, v2), (3, v3), (4, v4), (10, v10), (14, v14), (15, v15), (16, v16)] H Q
theorem G8 {v2 v3 v4 v10 v14 v15 v16 : V} {B : Nat} {H : List Ob} {Q : X → T → List Ob → Prop} (h : Run prog nd B [.c (nd 8), .c (.loop (.n 1)), .mk 0, .c (.n 0)] [(2, v2), (3, v3), (4, v4), (10, v10), (14, v14), (15, v15), (16, v16)] H Q) : L8 v2 v3 v4 v10 v14 v15 v16 B H Q := run_m.2 h
end term_Arities
namespace term_Marked
def nd (_ : Nat) : C := .skip
def body : C := .seq (.reg [.mv 2 (.c (.bool false))]) (.seq (.reg [.mv 3 (.s 0), .callp (some 4) n_strings_HasSuffix [(.s 3), (.c (.str [35]))], .mv 2 (.s 4)]) (.ret))
def rs : List RV := [.t 2]
attribute [push_cast] nd body
theorem ok : okF prog n_term_Marked nd body 1 rs = true := by kernel_rfl
end term_Marked
namespace slices_ContainsFunc_s_Rule_Rule
def nd (_ : Nat) : C := .skip
def body : C := .seq (.reg [.mv 4 (.c (.bool false))]) (.seq (.reg [.mv 5 (.s 0), .mv 6 (.s 1), .callp (some 7) n_slices_IndexFunc_s_Rule_Rule [(.s 5), (.s 6)], .bin 8 .geq (.s 7) (.i 0), .mv 4 (.s 8)]) (.ret))
def rs : List RV := [.t 4]
attribute [push_cast] nd body
theorem ok : okF prog n_slices_ContainsFunc_s_Rule_Rule nd body 2 rs = true := by kernel_rfl
end slices_ContainsFunc_s_Rule_Rule
namespace term_extra
def nd (_ : Nat) : C := .skip
def body : C := .seq (.reg [.br 1 t_Rule (.s 0), .mv 2 (.c (.bool false))]) (.seq (.reg [.fa 4 0 (.s 1), .la 5 3 (.s 4), .bs 6 3 [(.s 5)], .callp (some 7) n_term_VarsOf [(.s 6)], .al 3 t_s_string [.sl 1 []], .sf 3 1 (.s 7)]) (.seq (.reg [.fa 8 0 (.s 1), .fa 9 1 (.s 8), .ld 10 (.s 9), .mv 11 (.s 10), .gd (.s 11) false [12, 13, 14, 15, 16, 17] [.fa 12 3 (.s 1), .la 13 3 (.s 12), .bs 14 3 [(.s 13)], .callp (some 15) n_term_VarsOf [(.s 14)], .mf 16 n_term_extra_1 [] [(.s 3)], .callp (some 17) n_slices_ContainsFunc_s_string_string [(.s 15), (.s 16)]], .pick 18 (.s 11) (.c (.bool true)) (.s 17), .mv 2 (.s 18)]) (.ret)))
def rs : List RV := [.t 2]
attribute [push_cast] nd body
theorem ok : okF prog n_term_extra nd body 1 rs = true := by kernel_rfl
end term_extra
namespace r01_CompareInts
def nd : Nat → C
  | 0 => .seq (.reg [.mv 4 (.i 0)]) (.ret)
  | 1 => .seq (.seq (.reg [.mv 8 (.s 0), .mv 9 (.s 1), .bin 10 .gtr (.s 8) (.s 9)]) (.cond (.s 10) (.seq (.reg [.mv 4 (.i 1)]) (.ret)) (.skip))) (.n 0)
  | _ => .skip
def body : C := .seq (.reg [.mv 4 (.i 0)]) (.seq (.seq (.reg [.mv 5 (.s 0), .mv 6 (.s 1), .bin 7 .lss (.s 5) (.s 6)]) (.cond (.s 7) (.seq (.reg [.mv 4 (.i (-1))]) (.ret)) (.skip))) (.n 1))
def rs : List RV := [.t 4]
attribute [push_cast] nd body
theorem ok : okF prog n_r01_CompareInts nd body 2 rs = true := by kernel_rfl
end r01_CompareInts
namespace term_formed
def nd : Nat → C
  | 0 => .seq (.reg [.fa 14 2 (.s 1), .ld 15 (.s 14), .len 16 (.s 15), .bin 17 .leq (.s 16) (.i 8), .mv 18 (.s 17), .gd (.s 18) true [19, 20, 21] [.fa 19 0 (.s 1), .ld 20 (.s 19), .callp (some 21) n_term_IsName [(.s 20), (.c (.bool true))]], .pick 22 (.s 18) (.s 21) (.c (.bool false)), .mv 23 (.s 22), .gd (.s 23) true [24, 25, 26, 27] [.fa 24 2 (.s 1), .ld 25 (.s 24), .callp (some 26) n_slices_ContainsFunc_s_Term_Term [(.s 25), (.f n_term_formed_1)], .un 27 .not (.s 26)], .pick 28 (.s 23) (.s 27) (.c (.bool false)), .mv 2 (.s 28)]) (.ret)
  | _ => .skip
def body : C := .seq (.reg [.br 1 t_Term (.s 0), .mv 2 (.c (.bool false))]) (.seq (.seq (.reg [.fa 3 1 (.s 1), .ld 4 (.s 3)]) (.cond (.s 4) (.seq (.reg [.fa 5 2 (.s 1), .ld 6 (.s 5), .len 7 (.s 6), .bin 8 .eql (.s 7) (.i 0), .mv 9 (.s 8), .gd (.s 9) true [10, 11, 12] [.fa 10 0 (.s 1), .ld 11 (.s 10), .callp (some 12) n_term_IsName [(.s 11), (.c (.bool false))]], .pick 13 (.s 9) (.s 12) (.c (.bool false)), .mv 2 (.s 13)]) (.ret)) (.skip))) (.n 0))
def rs : List RV := [.t 2]
attribute [push_cast] nd body
theorem ok : okF prog n_term_formed nd body 1 rs = true := by kernel_rfl
end term_formed
namespace term_fits
def nd (_ : Nat) : C := .skip
def body : C := .seq (.reg [.br 1 t_Term (.s 0), .mv 2 (.c (.bool false))]) (.seq (.reg [.la 3 3 (.s 1), .callp (some 4) n_term_Size [(.s 3)], .bin 5 .leq (.s 4) (.i 4000), .mv 6 (.s 5), .gd (.s 6) true [7, 8, 9] [.la 7 3 (.s 1), .callp (some 8) n_term_Depth [(.s 7)], .bin 9 .leq (.s 8) (.i 200)], .pick 10 (.s 6) (.s 9) (.c (.bool false)), .mv 2 (.s 10)]) (.ret))
def rs : List RV := [.t 2]
attribute [push_cast] nd body
theorem ok : okF prog n_term_fits nd body 1 rs = true := by kernel_rfl
end term_fits
namespace term_measure
def nd : Nat → C
  | 0 => .seq (.reg [.fa 51 1 (.s 7), .ld 52 (.s 51), .bin 53 .add (.s 52) (.i 1), .fa 54 1 (.s 7), .st 1 (.s 54) (.s 53)]) (.seq (.reg [.la 55 2 (.s 7), .st 2 (.s 4) (.s 55)]) (.ret))
  | 1 => .gh [.ks 2 [0, 4, 7, 29, 30, 31]] (.m 3)
  | 2 => .seq (.blk 1 (.seq (.reg [.ia 33 3 (.s 29) (.s 31), .la 34 3 (.s 33), .al 9 t_Term [.str [], .bool false, .sl 3 []], .sf 9 3 (.s 34)]) (.seq (.reg [.mv 35 (.s 0), .la 36 3 (.s 9), .callp (some 37) n_term_measure [(.s 35), (.s 36)], .al 10 t_term_meter [.int .i64 0, .int .i64 0], .sf 10 2 (.s 37)]) (.dr [0, 1, 2, 3, 4, 5, 6, 7, 10] [.fa 38 0 (.s 7), .ld 39 (.s 38), .fa 40 0 (.s 10), .ld 41 (.s 40), .bin 42 .add (.s 39) (.s 41), .fa 43 1 (.s 7), .ld 44 (.s 43), .fa 45 1 (.s 10), .fa 48 0 (.s 7), .alt [([8, 9, 11, 12, 13], [.ld 46 (.s 45), .mx 47 (.s 44) (.s 46), .st 1 (.s 48) (.s 42), .fa 49 1 (.s 7), .st 1 (.s 49) (.s 47)]), ([11, 8, 9, 12, 13], [.st 1 (.s 48) (.s 42), .ld 46 (.s 45), .mx 47 (.s 44) (.s 46), .fa 49 1 (.s 7), .st 1 (.s 49) (.s 47)])]])))) (.reg [.bin 50 .add (.s 31) (.i 1), .mv 31 (.s 50)])
  | 3 => .seq (.reg [.bin 32 .lss (.s 31) (.s 30)]) (.seq (.cond (.s 32) (.skip) (.exit 0)) (.n 2))
  | 4 => .seq (.reg [.bd 27 [.int .i64 0, .int .i64 0] [(0, 1, (.i 1)), (1, 1, (.i 0))], .al 7 t_term_meter [.int .i64 0, .int .i64 0], .st 2 (.s 7) (.s 27)]) (.seq (.seq (.reg [.fa 28 2 (.s 3), .ld 29 (.s 28), .len 30 (.s 29), .mv 31 (.i 0)]) (.blk 0 (.loop (.n 1)))) (.n 0))
  | 5 => .seq (.reg [.bd 26 [.int .i64 0, .int .i64 0] [(0, 1, (.i 1)), (1, 1, (.i 1))], .st 2 (.s 4) (.s 26)]) (.ret)
  | _ => .skip
def body : C := .seq (.reg [.br 3 t_Term (.s 1), .al 4 t_term_meter [.int .i64 0, .int .i64 0]]) (.seq (.seq (.reg [.fa 11 1 (.s 3), .ld 12 (.s 11)]) (.cond (.s 12) (.seq (.seq (.reg [.mv 14 (.s 0), .fa 15 0 (.s 3), .ld 16 (.s 15), .callp (some 17) n_term_Image [(.s 14), (.s 16)], .mv 13 (.s 17), .ex 18 (.s 13) 0, .ex 19 (.s 13) 1, .al 5 t_Term [.str [], .bool false, .sl 3 []], .sf 5 3 (.s 18), .mv 6 (.s 19)]) (.seq (.reg [.mv 20 (.s 6)]) (.cond (.s 20) (.seq (.dr [0, 1, 2, 3, 4, 5] [.la 21 3 (.s 5), .callp (some 22) n_term_Size [(.s 21)], .la 23 3 (.s 5), .callp (some 24) n_term_Depth [(.s 23)], .bd 25 [.int .i64 0, .int .i64 0] [(0, 1, (.s 22)), (1, 1, (.s 24))], .st 2 (.s 4) (.s 25)]) (.ret)) (.skip)))) (.n 5)) (.skip))) (.n 4))
def rs : List RV := [.a 4 2]
attribute [push_cast] nd body
theorem ok : okF prog n_term_measure nd body 2 rs = true := by kernel_rfl
abbrev L3 (v0 v4 v7 v29 v30 v31 : V) (B : Nat) (H : List Ob) (Q : X → T → List Ob → Prop) : Prop := Run prog nd B [.c (.m 3), .c (.loop (.n 1)), .mk 0, .c (.n 0)] [(0, v0), (4, v4), (7, v7), (29, v29), (30, v30), (31, v31)] H Q
theorem G3 {v0 v4 v7 v29 v30 v31 : V} {B : Nat} {H : List Ob} {Q : X → T → List Ob → Prop} (h : Run prog nd B [.c (nd 3), .c (.loop (.n 1)), .mk 0, .c (.n 0)] [(0, v0), (4, v4), (7, v7), (29, v29), (30, v30), (31, v31)] H Q) : L3 v0 v4 v7 v29 v30 v31 B H Q := run_m.2 h
end term_measure
namespace term_replace
def nd : Nat → C
  | 0 => .seq (.reg [.la 44 3 (.s 7), .st 3 (.s 4) (.s 44)]) (.ret)
  | 1 => .gh [.ks 3 [0, 4, 7, 29, 30, 31]] (.m 3)
  | 2 => .seq (.blk 1 (.seq (.reg [.ia 33 3 (.s 29) (.s 31), .la 34 3 (.s 33), .al 9 t_Term [.str [], .bool false, .sl 3 []], .sf 9 3 (.s 34)]) (.dr [0, 1, 2, 3, 4, 5, 6, 7, 8] [.fa 35 2 (.s 7), .ld 36 (.s 35), .mv 37 (.s 0), .la 38 3 (.s 9), .callp (some 39) n_term_replace [(.s 37), (.s 38)], .bs 40 3 [(.s 39)], .app 41 t_Term 3 48 (.s 36) (.s 40), .fa 42 2 (.s 7), .st 1 (.s 42) (.s 41)]))) (.reg [.bin 43 .add (.s 31) (.i 1), .mv 31 (.s 43)])
  | 3 => .seq (.reg [.bin 32 .lss (.s 31) (.s 30)]) (.seq (.cond (.s 32) (.skip) (.exit 0)) (.n 2))
  | 4 => .seq (.reg [.fa 25 0 (.s 3), .ld 26 (.s 25), .bd 27 [.str [], .bool false, .nil] [(0, 1, (.s 26))], .al 7 t_Term [.str [], .bool false, .nil], .st 3 (.s 7) (.s 27), .ono t_Term 3 2 (.s 7)]) (.seq (.seq (.reg [.fa 28 2 (.s 3), .ld 29 (.s 28), .len 30 (.s 29), .mv 31 (.i 0)]) (.blk 0 (.loop (.n 1)))) (.n 0))
  | 5 => .seq (.reg [.fa 22 0 (.s 3), .ld 23 (.s 22), .bd 24 [.str [], .bool false, .sl 3 []] [(0, 1, (.s 23)), (1, 1, (.c (.bool true)))], .st 3 (.s 4) (.s 24)]) (.ret)
  | _ => .skip
def body : C := .seq (.reg [.br 3 t_Term (.s 1), .al 4 t_Term [.str [], .bool false, .sl 3 []]]) (.seq (.seq (.reg [.fa 10 1 (.s 3), .ld 11 (.s 10)]) (.cond (.s 11) (.seq (.seq (.reg [.mv 13 (.s 0), .fa 14 0 (.s 3), .ld 15 (.s 14), .callp (some 16) n_term_Image [(.s 13), (.s 15)], .mv 12 (.s 16), .ex 17 (.s 12) 0, .ex 18 (.s 12) 1, .al 5 t_Term [.str [], .bool false, .sl 3 []], .sf 5 3 (.s 17), .mv 6 (.s 18)]) (.seq (.reg [.mv 19 (.s 6)]) (.cond (.s 19) (.seq (.reg [.la 20 3 (.s 5), .callp (some 21) n_term_Own [(.s 20)], .st 3 (.s 4) (.s 21)]) (.ret)) (.skip)))) (.n 5)) (.skip))) (.n 4))
def rs : List RV := [.a 4 3]
attribute [push_cast] nd body
theorem ok : okF prog n_term_replace nd body 2 rs = true := by kernel_rfl
abbrev L3 (v0 v4 v7 v29 v30 v31 : V) (B : Nat) (H : List Ob) (Q : X → T → List Ob → Prop) : Prop := Run prog nd B [.c (.m 3), .c (.loop (.n 1)), .mk 0, .c (.n 0)] [(0, v0), (4, v4), (7, v7), (29, v29), (30, v30), (31, v31)] H Q
theorem G3 {v0 v4 v7 v29 v30 v31 : V} {B : Nat} {H : List Ob} {Q : X → T → List Ob → Prop} (h : Run prog nd B [.c (nd 3), .c (.loop (.n 1)), .mk 0, .c (.n 0)] [(0, v0), (4, v4), (7, v7), (29, v29), (30, v30), (31, v31)] H Q) : L3 v0 v4 v7 v29 v30 v31 B H Q := run_m.2 h
end term_replace
namespace rewrite_find
def nd : Nat → C
  | 0 => .seq (.reg [.mv 43 (.s 10), .mv 6 (.s 43), .mv 7 (.i 0)]) (.ret)
  | 1 => .seq (.dr [0, 1, 2, 3, 4, 5, 6, 7, 8, 9, 10, 11, 12] [.mv 31 (.s 0), .fa 32 0 (.s 5), .ld 33 (.s 32), .ia 34 6 (.s 31) (.s 33), .fa 35 0 (.s 34), .la 36 3 (.s 35), .la 37 3 (.s 8), .callp (some 38) n_unify_Find [(.s 36), (.s 37)], .mv 30 (.s 38), .ex 39 (.s 30) 0, .ex 40 (.s 30) 1, .mv 10 (.s 39), .mv 9 (.s 40)]) (.seq (.seq (.reg [.mv 41 (.s 9), .un 42 .not (.s 41)]) (.cond (.s 42) (.seq (.reg [.mv 6 (.c (.sl 4 [])), .mv 7 (.i 9)]) (.ret)) (.skip))) (.n 0))
  | 2 => .seq (.reg [.la 22 3 (.s 4), .fa 23 1 (.s 5), .ld 24 (.s 23), .callp (some 25) n_term_Sub [(.s 22), (.s 24)], .mv 21 (.s 25), .ex 26 (.s 21) 0, .ex 27 (.s 21) 1, .al 8 t_Term [.str [], .bool false, .sl 3 []], .sf 8 3 (.s 26), .mv 9 (.s 27)]) (.seq (.seq (.reg [.mv 28 (.s 9), .un 29 .not (.s 28)]) (.cond (.s 29) (.seq (.reg [.mv 6 (.c (.sl 4 [])), .mv 7 (.i 8)]) (.ret)) (.skip))) (.n 1))
  | _ => .skip
def body : C := .seq (.reg [.br 4 t_Term (.s 1), .br 5 t_Step (.s 2), .mv 6 (.c (.sl 4 [])), .mv 7 (.i 0)]) (.seq (.seq (.reg [.fa 11 0 (.s 5), .ld 12 (.s 11), .bin 13 .lss (.s 12) (.i 0), .mv 14 (.s 13), .gd (.s 14) false [15, 16, 17, 18, 19] [.fa 15 0 (.s 5), .ld 16 (.s 15), .mv 17 (.s 0), .len 18 (.s 17), .bin 19 .geq (.s 16) (.s 18)], .pick 20 (.s 14) (.c (.bool true)) (.s 19)]) (.cond (.s 20) (.seq (.reg [.mv 6 (.c (.sl 4 [])), .mv 7 (.i 8)]) (.ret)) (.skip))) (.n 2))
def rs : List RV := [.t 6, .t 7]
attribute [push_cast] nd body
theorem ok : okF prog n_rewrite_find nd body 3 rs = true := by kernel_rfl
end rewrite_find
namespace term_Fit
def nd : Nat → C
  | 0 => .seq (.reg [.la 8 3 (.s 1), .st 3 (.s 2) (.s 8), .mv 3 (.i 0)]) (.ret)
  | _ => .skip
def body : C := .seq (.reg [.br 1 t_Term (.s 0), .al 2 t_Term [.str [], .bool false, .sl 3 []], .mv 3 (.i 0)]) (.seq (.seq (.reg [.la 4 3 (.s 1), .callp (some 5) n_term_fits [(.s 4)], .un 6 .not (.s 5)]) (.cond (.s 6) (.seq (.reg [.bd 7 [.str [], .bool false, .sl 3 []] [], .st 3 (.s 2) (.s 7), .mv 3 (.i 3)]) (.ret)) (.skip))) (.n 0))
def rs : List RV := [.a 2 3, .t 3]
attribute [push_cast] nd body
theorem ok : okF prog n_term_Fit nd body 1 rs = true := by kernel_rfl
end term_Fit
namespace term_Set
def nd : Nat → C
  | 0 => .seq (.reg [.la 47 3 (.s 7), .st 3 (.s 6) (.s 47)]) (.ret)
  | 1 => .gh [.ks 3 [1, 5, 6, 7, 21, 22, 23]] (.m 3)
  | 2 => .seq (.blk 1 (.seq (.reg [.mv 25 (.s 23), .ia 26 3 (.s 21) (.s 23), .la 27 3 (.s 26), .al 9 t_Term [.str [], .bool false, .sl 3 []], .mv 8 (.s 25), .st 3 (.s 9) (.s 27)]) (.seq (.seq (.reg [.mv 28 (.s 8), .mv 29 (.s 1), .ia 30 1 (.s 29) (.i 0), .ld 31 (.s 30), .bin 32 .eql (.s 28) (.s 31)]) (.cond (.s 32) (.dr [0, 1, 2, 3, 4, 5] [.la 33 3 (.s 9), .mv 34 (.s 1), .sx 35 1 (.s 34) (some (.i 1)) none, .la 36 3 (.s 5), .callp (some 37) n_term_Set [(.s 33), (.s 35), (.s 36)], .st 3 (.s 9) (.s 37)]) (.reg [.la 38 3 (.s 9), .callp (some 39) n_term_Own [(.s 38)], .st 3 (.s 9) (.s 39)]))) (.reg [.fa 40 2 (.s 7), .ld 41 (.s 40), .la 42 3 (.s 9), .bs 43 3 [(.s 42)], .app 44 t_Term 3 48 (.s 41) (.s 43), .fa 45 2 (.s 7), .st 1 (.s 45) (.s 44)])))) (.reg [.bin 46 .add (.s 23) (.i 1), .mv 23 (.s 46)])
  | 3 => .seq (.reg [.bin 24 .lss (.s 23) (.s 22)]) (.seq (.cond (.s 24) (.skip) (.exit 0)) (.n 2))
  | 4 => .seq (.reg [.fa 15 0 (.s 3), .ld 16 (.s 15), .fa 17 1 (.s 3), .ld 18 (.s 17), .bd 19 [.str [], .bool false, .nil] [(0, 1, (.s 16)), (1, 1, (.s 18))], .al 7 t_Term [.str [], .bool false, .nil], .st 3 (.s 7) (.s 19), .ono t_Term 3 2 (.s 7)]) (.seq (.seq (.reg [.fa 20 2 (.s 3), .ld 21 (.s 20), .len 22 (.s 21), .mv 23 (.i 0)]) (.blk 0 (.loop (.n 1)))) (.n 0))
  | _ => .skip
def body : C := .seq (.reg [.br 3 t_Term (.s 0), .br 5 t_Term (.s 2), .al 6 t_Term [.str [], .bool false, .sl 3 []]]) (.seq (.seq (.reg [.mv 10 (.s 1), .len 11 (.s 10), .bin 12 .eql (.s 11) (.i 0)]) (.cond (.s 12) (.seq (.reg [.la 13 3 (.s 5), .callp (some 14) n_term_Own [(.s 13)], .st 3 (.s 6) (.s 14)]) (.ret)) (.skip))) (.n 4))
def rs : List RV := [.a 6 3]
attribute [push_cast] nd body
theorem ok : okF prog n_term_Set nd body 3 rs = true := by kernel_rfl
abbrev L3 (v1 v5 v6 v7 v21 v22 v23 : V) (B : Nat) (H : List Ob) (Q : X → T → List Ob → Prop) : Prop := Run prog nd B [.c (.m 3), .c (.loop (.n 1)), .mk 0, .c (.n 0)] [(1, v1), (5, v5), (6, v6), (7, v7), (21, v21), (22, v22), (23, v23)] H Q
theorem G3 {v1 v5 v6 v7 v21 v22 v23 : V} {B : Nat} {H : List Ob} {Q : X → T → List Ob → Prop} (h : Run prog nd B [.c (nd 3), .c (.loop (.n 1)), .mk 0, .c (.n 0)] [(1, v1), (5, v5), (6, v6), (7, v7), (21, v21), (22, v22), (23, v23)] H Q) : L3 v1 v5 v6 v7 v21 v22 v23 B H Q := run_m.2 h
end term_Set
namespace r04_Subst
def nd : Nat → C
  | 0 => .seq (.reg [.mv 45 (.s 10), .mv 6 (.s 45), .mv 7 (.i 0)]) (.ret)
  | 1 => .seq (.dr [0, 1, 2, 3, 4, 5, 6, 7, 8, 9, 10, 11, 12] [.mv 33 (.s 0), .fa 34 0 (.s 5), .ld 35 (.s 34), .ia 36 6 (.s 33) (.s 35), .fa 37 0 (.s 36), .la 38 3 (.s 37), .la 39 3 (.s 8), .callp (some 40) n_r03_Match [(.s 38), (.s 39)], .mv 32 (.s 40), .ex 41 (.s 32) 0, .ex 42 (.s 32) 1, .mv 10 (.s 41), .mv 9 (.s 42)]) (.seq (.seq (.reg [.mv 43 (.s 9), .un 44 .not (.s 43)]) (.cond (.s 44) (.seq (.reg [.mv 6 (.c (.sl 4 [])), .mv 7 (.i 9)]) (.ret)) (.skip))) (.n 0))
  | _ => .skip
def body : C := .seq (.reg [.br 4 t_Term (.s 1), .br 5 t_Step (.s 2), .mv 6 (.c (.sl 4 [])), .mv 7 (.i 0)]) (.seq (.reg [.la 12 3 (.s 4), .fa 13 1 (.s 5), .ld 14 (.s 13), .callp (some 15) n_r01_At [(.s 12), (.s 14)], .mv 11 (.s 15), .ex 16 (.s 11) 0, .ex 17 (.s 11) 1, .al 8 t_Term [.str [], .bool false, .sl 3 []], .sf 8 3 (.s 16), .mv 9 (.s 17)]) (.seq (.seq (.reg [.fa 18 0 (.s 5), .ld 19 (.s 18), .bin 20 .lss (.s 19) (.i 0), .mv 21 (.s 20), .gd (.s 21) false [22, 23, 24, 25, 26] [.fa 22 0 (.s 5), .ld 23 (.s 22), .mv 24 (.s 0), .len 25 (.s 24), .bin 26 .geq (.s 23) (.s 25)], .pick 27 (.s 21) (.c (.bool true)) (.s 26), .mv 28 (.s 27), .gd (.s 28) false [29, 30] [.mv 29 (.s 9), .un 30 .not (.s 29)], .pick 31 (.s 28) (.c (.bool true)) (.s 30)]) (.cond (.s 31) (.seq (.reg [.mv 6 (.c (.sl 4 [])), .mv 7 (.i 8)]) (.ret)) (.skip))) (.n 1)))
def rs : List RV := [.t 6, .t 7]
attribute [push_cast] nd body
theorem ok : okF prog n_r04_Subst nd body 3 rs = true := by kernel_rfl
end r04_Subst
namespace r04_replaced
def nd : Nat → C
  | 0 => .seq (.reg [.mv 54 (.s 10), .mv 55 (.s 11), .bin 56 .add (.s 55) (.i 1), .mv 8 (.s 54), .mv 9 (.s 56)]) (.ret)
  | 1 => .gh [.ks 0 [1, 2, 3, 10, 11, 22, 23, 24]] (.m 3)
  | 2 => .seq (.blk 1 (.seq (.reg [.mv 26 (.s 24), .ia 27 3 (.s 22) (.s 24), .la 28 3 (.s 27), .al 13 t_Term [.str [], .bool false, .sl 3 []], .mv 12 (.s 26), .sf 13 3 (.s 28)]) (.seq (.dr [0, 1, 2, 3, 4, 5] [.la 29 3 (.s 13), .callp (some 30) n_r01_Size [(.s 29)], .la 31 3 (.s 13), .callp (some 32) n_r01_Depth [(.s 31)], .mv 14 (.s 30), .mv 15 (.s 32)]) (.seq (.seq (.reg [.mv 33 (.s 12), .mv 34 (.s 1), .ia 35 1 (.s 34) (.i 0), .ld 36 (.s 35), .bin 37 .eql (.s 33) (.s 36)]) (.cond (.s 37) (.dr [0, 1, 2, 3, 4, 5, 6, 7, 8, 9, 10] [.la 39 3 (.s 13), .mv 40 (.s 1), .sx 41 1 (.s 40) (some (.i 1)) none, .mv 42 (.s 2), .mv 43 (.s 3), .callp (some 44) n_r04_replaced [(.s 39), (.s 41), (.s 42), (.s 43)], .mv 38 (.s 44), .ex 45 (.s 38) 0, .ex 46 (.s 38) 1, .mv 14 (.s 45), .mv 15 (.s 46)]) (.skip))) (.reg [.mv 47 (.s 10), .mv 48 (.s 14), .bin 49 .add (.s 47) (.s 48), .mv 50 (.s 11), .mv 51 (.s 15), .mx 52 (.s 50) (.s 51), .mv 10 (.s 49), .mv 11 (.s 52)]))))) (.reg [.bin 53 .add (.s 24) (.i 1), .mv 24 (.s 53)])
  | 3 => .seq (.reg [.bin 25 .lss (.s 24) (.s 23)]) (.seq (.cond (.s 25) (.skip) (.exit 0)) (.n 2))
  | 4 => .seq (.reg [.mv 10 (.i 1), .mv 11 (.i 0)]) (.seq (.seq (.reg [.fa 21 2 (.s 4), .ld 22 (.s 21), .len 23 (.s 22), .mv 24 (.i 0)]) (.blk 0 (.loop (.n 1)))) (.n 0))
  | _ => .skip
def body : C := .seq (.reg [.br 4 t_Term (.s 0), .mv 8 (.i 0), .mv 9 (.i 0)]) (.seq (.seq (.reg [.mv 16 (.s 1), .len 17 (.s 16), .bin 18 .eql (.s 17) (.i 0)]) (.cond (.s 18) (.seq (.reg [.mv 19 (.s 2), .mv 20 (.s 3), .mv 8 (.s 19), .mv 9 (.s 20)]) (.ret)) (.skip))) (.n 4))
def rs : List RV := [.t 8, .t 9]
attribute [push_cast] nd body
theorem ok : okF prog n_r04_replaced nd body 4 rs = true := by kernel_rfl
abbrev L3 (v1 v2 v3 v10 v11 v22 v23 v24 : V) (B : Nat) (H : List Ob) (Q : X → T → List Ob → Prop) : Prop := Run prog nd B [.c (.m 3), .c (.loop (.n 1)), .mk 0, .c (.n 0)] [(1, v1), (2, v2), (3, v3), (10, v10), (11, v11), (22, v22), (23, v23), (24, v24)] H Q
theorem G3 {v1 v2 v3 v10 v11 v22 v23 v24 : V} {B : Nat} {H : List Ob} {Q : X → T → List Ob → Prop} (h : Run prog nd B [.c (nd 3), .c (.loop (.n 1)), .mk 0, .c (.n 0)] [(1, v1), (2, v2), (3, v3), (10, v10), (11, v11), (22, v22), (23, v23), (24, v24)] H Q) : L3 v1 v2 v3 v10 v11 v22 v23 v24 B H Q := run_m.2 h
end r04_replaced
namespace r01_Put
def nd : Nat → C
  | 0 => .seq (.reg [.bo 12 t_Term 3 [], .op (.e2r 12), .fa 13 2 (.s 3), .ld 14 (.s 13), .apr 15 t_Term 3 48 (.s 12) (.s 14), .mv 7 (.s 15)]) (.seq (.dr [0, 1, 2, 3, 4, 5, 6, 7, 8, 9, 10, 11, 12, 13, 14, 15] [.mv 16 (.s 7), .mv 17 (.s 1), .ia 18 1 (.s 17) (.i 0), .ld 19 (.s 18), .mv 20 (.s 7), .mv 21 (.s 1), .ia 22 1 (.s 21) (.i 0), .ld 23 (.s 22), .ia 24 3 (.s 20) (.s 23), .la 25 3 (.s 24), .mv 26 (.s 1), .sx 27 1 (.s 26) (some (.i 1)) none, .la 28 3 (.s 5), .callp (some 29) n_r01_Put [(.s 25), (.s 27), (.s 28)], .ia 30 3 (.s 16) (.s 19), .st 3 (.s 30) (.s 29)]) (.seq (.reg [.fa 31 0 (.s 3), .ld 32 (.s 31), .frz 7, .mv 33 (.s 7), .bd 34 [.str [], .bool false, .sl 3 []] [(0, 1, (.s 32)), (2, 1, (.s 33))], .st 3 (.s 6) (.s 34)]) (.ret)))
  | _ => .skip
def body : C := .seq (.reg [.br 3 t_Term (.s 0), .br 5 t_Term (.s 2), .al 6 t_Term [.str [], .bool false, .sl 3 []]]) (.seq (.seq (.reg [.mv 8 (.s 1), .len 9 (.s 8), .bin 10 .eql (.s 9) (.i 0)]) (.cond (.s 10) (.seq (.reg [.la 11 3 (.s 5), .st 3 (.s 6) (.s 11)]) (.ret)) (.skip))) (.n 0))
def rs : List RV := [.a 6 3]
attribute [push_cast] nd body
theorem ok : okF prog n_r01_Put nd body 3 rs = true := by kernel_rfl
end r01_Put
namespace r02_parser_take
def nd (_ : Nat) : C := .skip
def body : C := .seq (.reg [.mv 6 (.s 0), .mv 7 (.s 1), .call (some 8) n_r02_parser_may [(.s 6), (.s 7)], .un 9 .not (.s 8)]) (.cond (.s 9) (.seq (.dr [0, 1, 2, 3, 4, 5, 6, 7, 8, 9, 10, 11, 12, 13] [.mv 11 (.s 0), .nc 12 (.s 11), .fa 13 0 (.s 12), .ld 14 (.s 13), .mv 15 (.s 0), .nc 16 (.s 15), .fa 17 1 (.s 16), .ld 18 (.s 17), .callp (some 19) n_r02_Next [(.s 14), (.s 18)], .mv 10 (.s 19), .ex 20 (.s 10) 0, .ex 21 (.s 10) 1, .mv 4 (.s 20), .mv 5 (.s 21)]) (.reg [.mv 22 (.s 0), .mv 23 (.s 5), .call (some 24) n_r02_parser_fail [(.s 22), (.s 23)]])) (.skip))
def rs : List RV := []
attribute [push_cast] nd body
theorem ok : okF prog n_r02_parser_take nd body 2 rs = true := by kernel_rfl
end r02_parser_take
namespace r02_parser_may
def nd : Nat → C
  | 0 => .seq (.reg [.mv 29 (.s 0), .mv 30 (.s 6), .mv 31 (.s 5), .lens 32 (.s 31), .bin 33 .add (.s 30) (.s 32), .nc 34 (.s 29), .fa 35 1 (.s 34), .st 1 (.s 35) (.s 33)]) (.seq (.reg [.mv 4 (.c (.bool true))]) (.ret))
  | _ => .skip
def body : C := .seq (.reg [.mv 4 (.c (.bool false))]) (.seq (.dr [0, 1, 2, 3, 4, 5, 6, 7, 8, 9, 10, 11, 12, 13] [.mv 8 (.s 0), .nc 9 (.s 8), .fa 10 0 (.s 9), .ld 11 (.s 10), .mv 12 (.s 0), .nc 13 (.s 12), .fa 14 1 (.s 13), .ld 15 (.s 14), .callp (some 16) n_r02_Next [(.s 11), (.s 15)], .mv 7 (.s 16), .ex 17 (.s 7) 0, .ex 18 (.s 7) 1, .mv 5 (.s 17), .mv 6 (.s 18)]) (.seq (.seq (.reg [.mv 19 (.s 0), .nc 20 (.s 19), .fa 21 3 (.s 20), .ld 22 (.s 21), .bin 23 .geq (.s 22) (.i 0), .mv 24 (.s 23), .gd (.s 24) false [25, 26, 27] [.mv 25 (.s 5), .mv 26 (.s 1), .bin 27 .neq (.s 25) (.s 26)], .pick 28 (.s 24) (.c (.bool true)) (.s 27)]) (.cond (.s 28) (.seq (.reg [.mv 4 (.c (.bool false))]) (.ret)) (.skip))) (.n 0)))
def rs : List RV := [.t 4]
attribute [push_cast] nd body
theorem ok : okF prog n_r02_parser_may nd body 2 rs = true := by kernel_rfl
end r02_parser_may
namespace r02_parser_declare
def nd : Nat → C
  | 0 => .gh [.ks 0 [0]] (.m 3)
  | 1 => .seq (.reg [.mv 37 (.s 0), .mv 38 (.s 0), .nc 39 (.s 38), .fa 40 2 (.s 39), .ld 41 (.s 40), .mv 42 (.s 2), .bs 43 1 [(.s 42)], .app 44 t_string 1 16 (.s 41) (.s 43), .nc 45 (.s 37), .fa 46 2 (.s 45), .st 1 (.s 46) (.s 44)]) (.reg [.mv 47 (.s 0), .mv 48 (.s 3), .mv 49 (.s 2), .lens 50 (.s 49), .bin 51 .add (.s 48) (.s 50), .nc 52 (.s 47), .fa 53 1 (.s 52), .st 1 (.s 53) (.s 51)])
  | 2 => .blk 1 (.seq (.dr [0, 1, 2, 3, 4, 5, 6, 7, 8, 9, 10, 11, 12, 13] [.mv 15 (.s 0), .nc 16 (.s 15), .fa 17 0 (.s 16), .ld 18 (.s 17), .mv 19 (.s 0), .nc 20 (.s 19), .fa 21 1 (.s 20), .ld 22 (.s 21), .callp (some 23) n_r02_Next [(.s 18), (.s 22)], .mv 14 (.s 23), .ex 24 (.s 14) 0, .ex 25 (.s 14) 1, .mv 2 (.s 24), .mv 3 (.s 25)]) (.seq (.seq (.reg [.mv 26 (.s 2), .callp (some 27) n_r02_isName [(.s 26)], .un 28 .not (.s 27), .mv 29 (.s 28), .gd (.s 29) false [30, 31, 32] [.mv 30 (.s 2), .callp (some 31) n_r01_IsName [(.s 30), (.c (.bool false))], .un 32 .not (.s 31)], .pick 33 (.s 29) (.c (.bool true)) (.s 32)]) (.cond (.s 33) (.seq (.reg [.mv 34 (.s 0), .mv 35 (.s 3), .call (some 36) n_r02_parser_fail [(.s 34), (.s 35)]]) (.ret)) (.skip))) (.n 1)))
  | 3 => .seq (.seq (.reg [.mv 4 (.s 0), .nc 5 (.s 4), .fa 6 3 (.s 5), .ld 7 (.s 6), .bin 8 .lss (.s 7) (.i 0), .mv 9 (.s 8), .gd (.s 9) true [10, 11, 12] [.mv 10 (.s 0), .call (some 11) n_r02_parser_may [(.s 10), (.c (.str [41]))], .un 12 .not (.s 11)], .pick 13 (.s 9) (.s 12) (.c (.bool false))]) (.cond (.s 13) (.skip) (.exit 0))) (.n 2)
  | _ => .skip
def body : C := .blk 0 (.loop (.n 0))
def rs : List RV := []
attribute [push_cast] nd body
theorem ok : okF prog n_r02_parser_declare nd body 1 rs = true := by kernel_rfl
abbrev L3 (v0 : V) (B : Nat) (H : List Ob) (Q : X → T → List Ob → Prop) : Prop := Run prog nd B [.c (.m 3), .c (.loop (.n 0)), .mk 0] [(0, v0)] H Q
theorem G3 {v0 : V} {B : Nat} {H : List Ob} {Q : X → T → List Ob → Prop} (h : Run prog nd B [.c (nd 3), .c (.loop (.n 0)), .mk 0] [(0, v0)] H Q) : L3 v0 B H Q := run_m.2 h
end r02_parser_declare
namespace r02_parser_term
def nd : Nat → C
  | 0 => .seq (.reg [.la 89 3 (.s 3), .st 3 (.s 2) (.s 89)]) (.ret)
  | 1 => .gh [.ks 3 [0, 2, 3]] (.m 4)
  | 2 => .seq (.dr [2] [.mv 78 (.s 0), .alt [([0], [.fa 76 2 (.s 3), .alt [([1, 3, 4, 5, 6, 7], [.ld 77 (.s 76), .call (some 79) n_r02_parser_term [(.s 78)], .bs 80 3 [(.s 79)], .app 81 t_Term 3 48 (.s 77) (.s 80), .fa 82 2 (.s 3), .st 1 (.s 82) (.s 81)]), ([3, 1, 4, 5, 6, 7], [.call (some 79) n_r02_parser_term [(.s 78)], .ld 77 (.s 76), .bs 80 3 [(.s 79)], .app 81 t_Term 3 48 (.s 77) (.s 80), .fa 82 2 (.s 3), .st 1 (.s 82) (.s 81)])]]), ([3, 0, 1, 4, 5, 6, 7], [.call (some 79) n_r02_parser_term [(.s 78)], .fa 76 2 (.s 3), .ld 77 (.s 76), .bs 80 3 [(.s 79)], .app 81 t_Term 3 48 (.s 77) (.s 80), .fa 82 2 (.s 3), .st 1 (.s 82) (.s 81)])]]) (.seq (.reg [.mv 83 (.s 0), .call (some 84) n_r02_parser_may [(.s 83), (.c (.str [44]))], .un 85 .not (.s 84)]) (.cond (.s 85) (.seq (.reg [.mv 86 (.s 0), .call (some 87) n_r02_parser_take [(.s 86), (.c (.str [41]))]]) (.seq (.reg [.la 88 3 (.s 3), .st 3 (.s 2) (.s 88)]) (.ret))) (.skip)))
  | 3 => .blk 1 (.seq (.seq (.reg [.fa 56 2 (.s 3), .ld 57 (.s 56), .len 58 (.s 57), .bin 59 .eql (.s 58) (.i 8)]) (.cond (.s 59) (.seq (.dr [0, 1, 2, 3, 4, 5, 6, 7, 8, 9, 10, 11, 12, 13] [.mv 61 (.s 0), .nc 62 (.s 61), .fa 63 0 (.s 62), .ld 64 (.s 63), .mv 65 (.s 0), .nc 66 (.s 65), .fa 67 1 (.s 66), .ld 68 (.s 67), .callp (some 69) n_r02_Next [(.s 64), (.s 68)], .mv 60 (.s 69), .ex 70 (.s 60) 0, .ex 71 (.s 60) 1, .mv 6 (.s 70), .mv 7 (.s 71)]) (.seq (.reg [.mv 72 (.s 0), .mv 73 (.s 7), .call (some 74) n_r02_parser_fail [(.s 72), (.s 73)]]) (.seq (.reg [.la 75 3 (.s 3), .st 3 (.s 2) (.s 75)]) (.ret)))) (.skip))) (.n 2))
  | 4 => .seq (.seq (.reg [.mv 51 (.s 0), .nc 52 (.s 51), .fa 53 3 (.s 52), .ld 54 (.s 53), .bin 55 .lss (.s 54) (.i 0)]) (.cond (.s 55) (.skip) (.exit 0))) (.n 3)
  | 5 => .seq (.blk 0 (.loop (.n 1))) (.n 0)
  | 6 => .seq (.seq (.reg [.mv 43 (.s 0), .call (some 44) n_r02_parser_may [(.s 43), (.c (.str [40]))], .un 45 .not (.s 44), .mv 46 (.s 45), .gd (.s 46) false [47, 48] [.mv 47 (.s 0), .call (some 48) n_r02_parser_may [(.s 47), (.c (.str [41]))]], .pick 49 (.s 46) (.c (.bool true)) (.s 48)]) (.cond (.s 49) (.seq (.reg [.la 50 3 (.s 3), .st 3 (.s 2) (.s 50)]) (.ret)) (.skip))) (.n 5)
  | 7 => .seq (.reg [.la 42 3 (.s 3), .st 3 (.s 2) (.s 42)]) (.ret)
  | 8 => .seq (.seq (.dr [0, 1, 2, 3, 4, 5, 6] [.mv 17 (.s 0), .nc 18 (.s 17), .fa 19 2 (.s 18), .ld 20 (.s 19), .fa 21 0 (.s 3), .ld 22 (.s 21), .callp (some 23) n_r01_Has [(.s 20), (.s 22)]]) (.cond (.s 23) (.seq (.reg [.fa 24 1 (.s 3), .st 1 (.s 24) (.c (.bool true))]) (.seq (.seq (.dr [0, 1, 2, 3, 4, 5, 6, 7, 8, 9, 10, 11, 12, 13] [.mv 26 (.s 0), .nc 27 (.s 26), .fa 28 0 (.s 27), .ld 29 (.s 28), .mv 30 (.s 0), .nc 31 (.s 30), .fa 32 1 (.s 31), .ld 33 (.s 32), .callp (some 34) n_r02_Next [(.s 29), (.s 33)], .mv 25 (.s 34), .ex 35 (.s 25) 0, .ex 36 (.s 25) 1, .mv 4 (.s 35), .mv 5 (.s 36)]) (.seq (.reg [.mv 37 (.s 4), .bin 38 .eql (.s 37) (.c (.str [40]))]) (.cond (.s 38) (.reg [.mv 39 (.s 0), .mv 40 (.s 5), .call (some 41) n_r02_parser_fail [(.s 39), (.s 40)]]) (.skip)))) (.n 7))) (.skip))) (.n 6)
  | _ => .skip
def body : C := .seq (.reg [.al 2 t_Term [.str [], .bool false, .sl 3 []]]) (.seq (.reg [.mv 8 (.s 0), .call (some 9) n_r02_parser_name [(.s 8)], .bd 10 [.str [], .bool false, .nil] [(0, 1, (.s 9))], .al 3 t_Term [.str [], .bool false, .nil], .st 3 (.s 3) (.s 10), .ono t_Term 3 2 (.s 3)]) (.seq (.seq (.reg [.mv 11 (.s 0), .nc 12 (.s 11), .fa 13 3 (.s 12), .ld 14 (.s 13), .bin 15 .geq (.s 14) (.i 0)]) (.cond (.s 15) (.seq (.reg [.la 16 3 (.s 3), .st 3 (.s 2) (.s 16)]) (.ret)) (.skip))) (.n 8)))
def rs : List RV := [.a 2 3]
attribute [push_cast] nd body
theorem ok : okF prog n_r02_parser_term nd body 1 rs = true := by kernel_rfl
abbrev L4 (v0 v2 v3 : V) (B : Nat) (H : List Ob) (Q : X → T → List Ob → Prop) : Prop := Run prog nd B [.c (.m 4), .c (.loop (.n 1)), .mk 0, .c (.n 0)] [(0, v0), (2, v2), (3, v3)] H Q
theorem G4 {v0 v2 v3 : V} {B : Nat} {H : List Ob} {Q : X → T → List Ob → Prop} (h : Run prog nd B [.c (nd 4), .c (.loop (.n 1)), .mk 0, .c (.n 0)] [(0, v0), (2, v2), (3, v3)] H Q) : L4 v0 v2 v3 B H Q := run_m.2 h
end r02_parser_term
namespace r02_parser_end
def nd (_ : Nat) : C := .skip
def body : C := .seq (.dr [0, 1, 2, 3, 4, 5, 6, 7, 8, 9, 10, 11, 12, 13] [.mv 5 (.s 0), .nc 6 (.s 5), .fa 7 0 (.s 6), .ld 8 (.s 7), .mv 9 (.s 0), .nc 10 (.s 9), .fa 11 1 (.s 10), .ld 12 (.s 11), .callp (some 13) n_r02_Next [(.s 8), (.s 12)], .mv 4 (.s 13), .ex 14 (.s 4) 0, .ex 15 (.s 4) 1, .mv 2 (.s 14), .mv 3 (.s 15)]) (.seq (.reg [.mv 16 (.s 2), .bin 17 .neq (.s 16) (.c (.str []))]) (.cond (.s 17) (.reg [.mv 18 (.s 0), .mv 19 (.s 3), .call (some 20) n_r02_parser_fail [(.s 18), (.s 19)]]) (.skip)))
def rs : List RV := []
attribute [push_cast] nd body
theorem ok : okF prog n_r02_parser_end nd body 1 rs = true := by kernel_rfl
end r02_parser_end
namespace derive_explorer_add
def nd : Nat → C
  | 0 => .seq (.dr [0, 1, 2, 3, 4, 5, 6, 7, 8, 9, 10, 11] [.mv 37 (.s 0), .nc 38 (.s 37), .fa 39 3 (.s 38), .ld 40 (.s 39), .mv 41 (.s 6), .mv 42 (.s 0), .nc 43 (.s 42), .fa 44 0 (.s 43), .fa 45 0 (.s 44), .ld 46 (.s 45), .len 47 (.s 46), .mup true (.s 40) (.s 41) (.s 47)]) (.seq (.dr [0, 1, 2, 3, 4, 5, 6, 7, 8, 9, 11, 12, 13] [.mv 48 (.s 0), .nc 49 (.s 48), .fa 50 0 (.s 49), .fa 51 0 (.s 50), .ld 52 (.s 51), .la 53 3 (.s 3), .len 54 (.s 52), .bs 55 3 [(.c (.agg [.str [], .bool false, .sl 3 []]))], .apr 56 t_Term 3 48 (.s 52) (.s 55), .ia 57 3 (.s 56) (.s 54), .nc 58 (.s 48), .fa 59 0 (.s 58), .fa 60 0 (.s 59), .alt [([10, 14], [.st 3 (.s 57) (.s 53), .st 1 (.s 60) (.s 56)]), ([14, 10], [.st 1 (.s 60) (.s 56), .st 3 (.s 57) (.s 53)])]]) (.seq (.reg [.mv 61 (.s 0), .nc 62 (.s 61), .fa 63 0 (.s 62), .fa 64 0 (.s 63), .ld 65 (.s 64), .len 66 (.s 65), .bin 67 .sub (.s 66) (.i 1), .mv 4 (.s 67), .mv 5 (.c (.bool true))]) (.ret)))
  | 1 => .seq (.seq (.dr [0, 1, 2, 3, 4, 5, 6, 7, 8, 9, 10] [.mv 22 (.s 0), .nc 23 (.s 22), .fa 24 0 (.s 23), .fa 25 0 (.s 24), .ld 26 (.s 25), .len 27 (.s 26), .mv 28 (.s 0), .nc 29 (.s 28), .fa 30 4 (.s 29), .ld 31 (.s 30), .bin 32 .geq (.s 27) (.s 31)]) (.cond (.s 32) (.seq (.reg [.mv 33 (.s 0), .nc 34 (.s 33), .fa 35 0 (.s 34), .fa 36 2 (.s 35), .st 1 (.s 36) (.c (.bool false))]) (.seq (.reg [.mv 4 (.i 0), .mv 5 (.c (.bool false))]) (.ret))) (.skip))) (.n 0)
  | _ => .skip
def body : C := .seq (.reg [.br 3 t_Term (.s 1), .mv 4 (.i 0), .mv 5 (.c (.bool false))]) (.seq (.reg [.la 9 3 (.s 3), .callp (some 10) n_derive_key [(.s 9)], .mv 6 (.s 10)]) (.seq (.seq (.reg [.mv 12 (.s 0), .nc 13 (.s 12), .fa 14 3 (.s 13), .ld 15 (.s 14), .mv 16 (.s 6), .lkp 17 true true (.int .i64 0) (.s 15) (.s 16), .mv 11 (.s 17), .ex 18 (.s 11) 0, .ex 19 (.s 11) 1, .mv 7 (.s 18), .mv 8 (.s 19)]) (.seq (.reg [.mv 20 (.s 8)]) (.cond (.s 20) (.seq (.reg [.mv 21 (.s 7), .mv 4 (.s 21), .mv 5 (.c (.bool true))]) (.ret)) (.skip)))) (.n 1)))
def rs : List RV := [.t 4, .t 5]
attribute [push_cast] nd body
theorem ok : okF prog n_derive_explorer_add nd body 2 rs = true := by kernel_rfl
end derive_explorer_add
namespace rewrite_All
def nd : Nat → C
  | 0 => .seq (.reg [.ld 18 (.s 5), .mv 4 (.s 18)]) (.ret)
  | 1 => .blk 1 (.dr [0, 1, 2, 3, 4, 5, 6] [.ld 12 (.s 5), .ld 13 (.s 2), .mv 14 (.s 6), .la 15 3 (.s 7), .callp (some 16) n_rewrite_at [(.s 13), (.s 14), (.s 15)], .app 17 t_Step 2 32 (.s 12) (.s 16), .st 1 (.s 5) (.s 17)])
  | _ => .skip
def body : C := .seq (.reg [.br 2 t_s_Rule (.s 0), .br 3 t_Term (.s 1), .mv 4 (.c (.sl 2 []))]) (.seq (.reg [.al 5 t_s_Step [.nil], .ono t_Step 2 0 (.s 5)]) (.seq (.seq (.reg [.la 8 3 (.s 3), .callp (some 9) n_term_Walk [(.s 8)]]) (.blk 0 (.rf (.s 9) [10, 11] (.seq (.reg [.mv 6 (.s 10)]) (.reg [.al 7 t_Term [.str [], .bool false, .sl 3 []], .sf 7 3 (.s 11)])) (.m 1)))) (.n 0)))
def rs : List RV := [.t 4]
attribute [push_cast] nd body
theorem ok : okF prog n_rewrite_All nd body 2 rs = true := by kernel_rfl
end rewrite_All
namespace term_Walk_1
def nd (_ : Nat) : C := .skip
def body : C := .reg [.la 3 3 (.s 1), .mv 4 (.s 0), .call (some 5) n_term_walk [(.s 3), (.c (.sl 1 [])), (.s 4)]]
def rs : List RV := []
attribute [push_cast] nd body
theorem ok : okF prog n_term_Walk_1 nd body 2 rs = true := by kernel_rfl
end term_Walk_1
namespace term_walk
def nd : Nat → C
  | 0 => .seq (.reg [.mv 6 (.c (.bool true))]) (.ret)
  | 1 => .gh [.ks 0 [1, 2, 15, 16, 17]] (.m 3)
  | 2 => .seq (.blk 1 (.seq (.reg [.mv 19 (.s 17), .ia 20 3 (.s 15) (.s 17), .la 21 3 (.s 20), .al 8 t_Term [.str [], .bool false, .sl 3 []], .mv 7 (.s 19), .sf 8 3 (.s 21)]) (.seq (.dr [1, 3, 4, 6] [.mv 23 (.s 1), .mv 25 (.s 7), .bs 26 1 [(.s 25)], .mv 28 (.s 2), .alt [([0, 2, 5, 7, 8], [.la 22 3 (.s 8), .call (some 24) n_slices_Clone_s_int_int [(.s 23)], .app 27 t_int 1 8 (.s 24) (.s 26), .call (some 29) n_term_walk [(.s 22), (.s 27), (.s 28)], .un 30 .not (.s 29)]), ([2, 0, 5, 7, 8], [.call (some 24) n_slices_Clone_s_int_int [(.s 23)], .la 22 3 (.s 8), .app 27 t_int 1 8 (.s 24) (.s 26), .call (some 29) n_term_walk [(.s 22), (.s 27), (.s 28)], .un 30 .not (.s 29)])]]) (.cond (.s 30) (.seq (.reg [.mv 6 (.c (.bool false))]) (.ret)) (.skip))))) (.reg [.bin 31 .add (.s 17) (.i 1), .mv 17 (.s 31)])
  | 3 => .seq (.reg [.bin 18 .lss (.s 17) (.s 16)]) (.seq (.cond (.s 18) (.skip) (.exit 0)) (.n 2))
  | 4 => .seq (.seq (.reg [.fa 14 2 (.s 3), .ld 15 (.s 14), .len 16 (.s 15), .mv 17 (.i 0)]) (.blk 0 (.loop (.n 1)))) (.n 0)
  | _ => .skip
def body : C := .seq (.reg [.br 3 t_Term (.s 0), .mv 6 (.c (.bool false))]) (.seq (.seq (.reg [.mv 9 (.s 2), .mv 10 (.s 1), .la 11 3 (.s 3), .callv (some 12) (.s 9) [(.s 10), (.s 11)], .un 13 .not (.s 12)]) (.cond (.s 13) (.seq (.reg [.mv 6 (.c (.bool false))]) (.ret)) (.skip))) (.n 4))
def rs : List RV := [.t 6]
attribute [push_cast] nd body
theorem ok : okF prog n_term_walk nd body 3 rs = true := by kernel_rfl
abbrev L3 (v1 v2 v15 v16 v17 : V) (B : Nat) (H : List Ob) (Q : X → T → List Ob → Prop) : Prop := Run prog nd B [.c (.m 3), .c (.loop (.n 1)), .mk 0, .c (.n 0)] [(1, v1), (2, v2), (15, v15), (16, v16), (17, v17)] H Q
theorem G3 {v1 v2 v15 v16 v17 : V} {B : Nat} {H : List Ob} {Q : X → T → List Ob → Prop} (h : Run prog nd B [.c (nd 3), .c (.loop (.n 1)), .mk 0, .c (.n 0)] [(1, v1), (2, v2), (15, v15), (16, v16), (17, v17)] H Q) : L3 v1 v2 v15 v16 v17 B H Q := run_m.2 h
end term_walk
namespace unify_matcher_match
def nd : Nat → C
  | 0 => .seq (.reg [.mv 6 (.c (.bool true))]) (.ret)
  | 1 => .gh [.ks 0 [0, 4, 5, 57, 58]] (.m 3)
  | 2 => .seq (.blk 1 (.seq (.reg [.mv 60 (.s 58), .mv 9 (.s 60)]) (.seq (.dr [0, 1, 2, 3, 4, 5, 6, 7, 8, 9, 10, 11, 12] [.mv 61 (.s 0), .fa 62 2 (.s 4), .ld 63 (.s 62), .mv 64 (.s 9), .ia 65 3 (.s 63) (.s 64), .la 66 3 (.s 65), .fa 67 2 (.s 5), .ld 68 (.s 67), .mv 69 (.s 9), .ia 70 3 (.s 68) (.s 69), .la 71 3 (.s 70), .call (some 72) n_unify_matcher_match [(.s 61), (.s 66), (.s 71)], .un 73 .not (.s 72)]) (.cond (.s 73) (.seq (.reg [.mv 6 (.c (.bool false))]) (.ret)) (.skip))))) (.reg [.bin 74 .add (.s 58) (.i 1), .mv 58 (.s 74)])
  | 3 => .seq (.reg [.bin 59 .lss (.s 58) (.s 57)]) (.seq (.cond (.s 59) (.skip) (.exit 0)) (.n 2))
  | 4 => .seq (.seq (.reg [.fa 55 2 (.s 4), .ld 56 (.s 55), .len 57 (.s 56), .mv 58 (.i 0)]) (.blk 0 (.loop (.n 1)))) (.n 0)
  | 5 => .seq (.seq (.reg [.fa 37 1 (.s 5), .ld 38 (.s 37), .mv 39 (.s 38), .gd (.s 39) false [40, 41, 42, 43, 44] [.fa 40 0 (.s 4), .ld 41 (.s 40), .fa 42 0 (.s 5), .ld 43 (.s 42), .bin 44 .neq (.s 41) (.s 43)], .pick 45 (.s 39) (.c (.bool true)) (.s 44), .mv 46 (.s 45), .gd (.s 46) false [47, 48, 49, 50, 51, 52, 53] [.fa 47 2 (.s 4), .ld 48 (.s 47), .len 49 (.s 48), .fa 50 2 (.s 5), .ld 51 (.s 50), .len 52 (.s 51), .bin 53 .neq (.s 49) (.s 52)], .pick 54 (.s 46) (.c (.bool true)) (.s 53)]) (.cond (.s 54) (.seq (.reg [.mv 6 (.c (.bool false))]) (.ret)) (.skip))) (.n 4)
  | 6 => .seq (.dr [0, 1, 2, 3, 4, 5, 6, 7, 8, 9, 10, 11] [.mv 26 (.s 0), .mv 27 (.s 0), .nc 28 (.s 27), .fa 29 0 (.s 28), .ld 30 (.s 29), .fa 31 0 (.s 4), .ld 32 (.s 31), .la 33 3 (.s 5), .call (some 34) n_unify_bind [(.s 30), (.s 32), (.s 33)], .nc 35 (.s 26), .fa 36 0 (.s 35), .st 1 (.s 36) (.s 34)]) (.seq (.reg [.mv 6 (.c (.bool true))]) (.ret))
  | _ => .skip
def body : C := .seq (.reg [.br 4 t_Term (.s 1), .br 5 t_Term (.s 2), .mv 6 (.c (.bool false))]) (.seq (.seq (.reg [.fa 10 1 (.s 4), .ld 11 (.s 10)]) (.cond (.s 11) (.seq (.seq (.dr [0, 1, 2, 3, 4, 5] [.mv 13 (.s 0), .nc 14 (.s 13), .fa 15 0 (.s 14), .ld 16 (.s 15), .fa 17 0 (.s 4), .ld 18 (.s 17), .alt [([6, 7, 8, 9, 10, 11, 12], [.call (some 19) n_term_Image [(.s 16), (.s 18)], .mv 12 (.s 19), .ex 20 (.s 12) 0, .ex 21 (.s 12) 1, .al 7 t_Term [.str [], .bool false, .sl 3 []], .sf 7 3 (.s 20), .mv 8 (.s 21)]), ([10, 6, 7, 8, 9, 11, 12], [.al 7 t_Term [.str [], .bool false, .sl 3 []], .call (some 19) n_term_Image [(.s 16), (.s 18)], .mv 12 (.s 19), .ex 20 (.s 12) 0, .ex 21 (.s 12) 1, .sf 7 3 (.s 20), .mv 8 (.s 21)])]]) (.seq (.reg [.mv 22 (.s 8)]) (.cond (.s 22) (.seq (.reg [.la 23 3 (.s 7), .la 24 3 (.s 5), .callp (some 25) n_term_Equal [(.s 23), (.s 24)], .mv 6 (.s 25)]) (.ret)) (.skip)))) (.n 6)) (.skip))) (.n 5))
def rs : List RV := [.t 6]
attribute [push_cast] nd body
theorem ok : okF prog n_unify_matcher_match nd body 3 rs = true := by kernel_rfl
abbrev L3 (v0 v4 v5 v57 v58 : V) (B : Nat) (H : List Ob) (Q : X → T → List Ob → Prop) : Prop := Run prog nd B [.c (.m 3), .c (.loop (.n 1)), .mk 0, .c (.n 0)] [(0, v0), (4, v4), (5, v5), (57, v57), (58, v58)] H Q
theorem G3 {v0 v4 v5 v57 v58 : V} {B : Nat} {H : List Ob} {Q : X → T → List Ob → Prop} (h : Run prog nd B [.c (nd 3), .c (.loop (.n 1)), .mk 0, .c (.n 0)] [(0, v0), (4, v4), (5, v5), (57, v57), (58, v58)] H Q) : L3 v0 v4 v5 v57 v58 B H Q := run_m.2 h
end unify_matcher_match
namespace r04_all
def nd : Nat → C
  | 0 => .seq (.reg [.mv 50 (.s 5), .mv 4 (.s 50)]) (.ret)
  | 1 => .gh [.ks 1 [0, 3, 5, 14, 15, 16]] (.m 6)
  | 2 => .gh [.ks 2 [0, 3, 5, 7, 8, 14, 15, 16, 27, 28]] (.m 4)
  | 3 => .seq (.blk 3 (.seq (.reg [.mv 30 (.s 28), .mv 10 (.s 30)]) (.seq (.dr [0, 1, 2, 3, 4, 5, 6, 7, 8, 9, 10, 11] [.mv 32 (.s 0), .mv 33 (.s 10), .ia 34 6 (.s 32) (.s 33), .fa 35 0 (.s 34), .la 36 3 (.s 35), .la 37 3 (.s 8), .callp (some 38) n_r03_Match [(.s 36), (.s 37)], .mv 31 (.s 38), .ex 39 (.s 31) 0, .ex 40 (.s 31) 1, .mv 11 (.s 39), .mv 12 (.s 40)]) (.seq (.reg [.mv 41 (.s 12)]) (.cond (.s 41) (.reg [.mv 42 (.s 5), .mv 43 (.s 10), .mv 44 (.s 7), .bd 45 [.int .i64 0, .sl 1 []] [(0, 1, (.s 43)), (1, 1, (.s 44))], .bs 46 2 [(.s 45)], .app 47 t_Step 2 32 (.s 42) (.s 46), .mv 5 (.s 47)]) (.skip)))))) (.reg [.bin 48 .add (.s 28) (.i 1), .mv 28 (.s 48)])
  | 4 => .seq (.reg [.bin 29 .lss (.s 28) (.s 27)]) (.seq (.cond (.s 29) (.skip) (.exit 2)) (.n 3))
  | 5 => .seq (.blk 1 (.seq (.reg [.ia 18 1 (.s 14) (.s 16), .ld 19 (.s 18), .mv 7 (.s 19)]) (.seq (.reg [.la 21 3 (.s 3), .mv 22 (.s 7), .callp (some 23) n_r01_At [(.s 21), (.s 22)], .mv 20 (.s 23), .ex 24 (.s 20) 0, .ex 25 (.s 20) 1, .al 8 t_Term [.str [], .bool false, .sl 3 []], .sf 8 3 (.s 24), .mv 9 (.s 25)]) (.seq (.reg [.mv 26 (.s 0), .len 27 (.s 26), .mv 28 (.i 0)]) (.blk 2 (.loop (.n 2))))))) (.reg [.bin 49 .add (.s 16) (.i 1), .mv 16 (.s 49)])
  | 6 => .seq (.reg [.bin 17 .lss (.s 16) (.s 15)]) (.seq (.cond (.s 17) (.skip) (.exit 0)) (.n 5))
  | _ => .skip
def body : C := .seq (.reg [.br 3 t_Term (.s 1), .mv 4 (.c (.sl 2 []))]) (.seq (.reg [.mv 5 (.c .nil), .non 5 t_Step 2]) (.seq (.seq (.reg [.la 13 3 (.s 3), .callp (some 14) n_r01_Positions [(.s 13)], .len 15 (.s 14), .mv 16 (.i 0)]) (.blk 0 (.loop (.n 1)))) (.n 0)))
def rs : List RV := [.t 4]
attribute [push_cast] nd body
theorem ok : okF prog n_r04_all nd body 2 rs = true := by kernel_rfl
abbrev L4 (v0 v3 v5 v7 v8 v14 v15 v16 v27 v28 : V) (B : Nat) (H : List Ob) (Q : X → T → List Ob → Prop) : Prop := Run prog nd B [.c (.m 4), .c (.loop (.n 2)), .mk 2, .mk 1, .c (.reg [.bin 49 .add (.s 16) (.i 1), .mv 16 (.s 49)]), .c (.loop (.n 1)), .mk 0, .c (.n 0)] [(0, v0), (3, v3), (5, v5), (7, v7), (8, v8), (14, v14), (15, v15), (16, v16), (27, v27), (28, v28)] H Q
theorem G4 {v0 v3 v5 v7 v8 v14 v15 v16 v27 v28 : V} {B : Nat} {H : List Ob} {Q : X → T → List Ob → Prop} (h : Run prog nd B [.c (nd 4), .c (.loop (.n 2)), .mk 2, .mk 1, .c (.reg [.bin 49 .add (.s 16) (.i 1), .mv 16 (.s 49)]), .c (.loop (.n 1)), .mk 0, .c (.n 0)] [(0, v0), (3, v3), (5, v5), (7, v7), (8, v8), (14, v14), (15, v15), (16, v16), (27, v27), (28, v28)] H Q) : L4 v0 v3 v5 v7 v8 v14 v15 v16 v27 v28 B H Q := run_m.2 h
abbrev L6 (v0 v3 v5 v14 v15 v16 : V) (B : Nat) (H : List Ob) (Q : X → T → List Ob → Prop) : Prop := Run prog nd B [.c (.m 6), .c (.loop (.n 1)), .mk 0, .c (.n 0)] [(0, v0), (3, v3), (5, v5), (14, v14), (15, v15), (16, v16)] H Q
theorem G6 {v0 v3 v5 v14 v15 v16 : V} {B : Nat} {H : List Ob} {Q : X → T → List Ob → Prop} (h : Run prog nd B [.c (nd 6), .c (.loop (.n 1)), .mk 0, .c (.n 0)] [(0, v0), (3, v3), (5, v5), (14, v14), (15, v15), (16, v16)] H Q) : L6 v0 v3 v5 v14 v15 v16 B H Q := run_m.2 h
end r04_all
namespace r03_match
def nd : Nat → C
  | 0 => .seq (.reg [.mv 72 (.s 0), .mv 6 (.s 72), .mv 7 (.c (.bool true))]) (.ret)
  | 1 => .gh [.ks 0 [0, 4, 5, 49, 50]] (.m 3)
  | 2 => .seq (.blk 1 (.seq (.reg [.mv 52 (.s 50), .mv 8 (.s 52)]) (.seq (.dr [0, 1, 2, 3, 4, 5, 6, 7, 8, 9, 10, 11, 12, 13, 14, 15, 16] [.mv 54 (.s 0), .fa 55 2 (.s 4), .ld 56 (.s 55), .mv 57 (.s 8), .ia 58 3 (.s 56) (.s 57), .la 59 3 (.s 58), .fa 60 2 (.s 5), .ld 61 (.s 60), .mv 62 (.s 8), .ia 63 3 (.s 61) (.s 62), .la 64 3 (.s 63), .callp (some 65) n_r03_match [(.s 54), (.s 59), (.s 64)], .mv 53 (.s 65), .ex 66 (.s 53) 0, .ex 67 (.s 53) 1, .mv 9 (.s 66), .mv 10 (.s 67)]) (.seq (.seq (.reg [.mv 68 (.s 10), .un 69 .not (.s 68)]) (.cond (.s 69) (.seq (.reg [.mv 6 (.c (.sl 4 [])), .mv 7 (.c (.bool false))]) (.ret)) (.skip))) (.reg [.mv 70 (.s 9), .mv 0 (.s 70)]))))) (.reg [.bin 71 .add (.s 50) (.i 1), .mv 50 (.s 71)])
  | 3 => .seq (.reg [.bin 51 .lss (.s 50) (.s 49)]) (.seq (.cond (.s 51) (.skip) (.exit 0)) (.n 2))
  | 4 => .seq (.seq (.reg [.fa 47 2 (.s 5), .ld 48 (.s 47), .len 49 (.s 48), .mv 50 (.i 0)]) (.blk 0 (.loop (.n 1)))) (.n 0)
  | 5 => .seq (.seq (.reg [.fa 29 1 (.s 5), .ld 30 (.s 29), .mv 31 (.s 30), .gd (.s 31) false [32, 33, 34, 35, 36] [.fa 32 0 (.s 5), .ld 33 (.s 32), .fa 34 0 (.s 4), .ld 35 (.s 34), .bin 36 .neq (.s 33) (.s 35)], .pick 37 (.s 31) (.c (.bool true)) (.s 36), .mv 38 (.s 37), .gd (.s 38) false [39, 40, 41, 42, 43, 44, 45] [.fa 39 2 (.s 5), .ld 40 (.s 39), .len 41 (.s 40), .fa 42 2 (.s 4), .ld 43 (.s 42), .len 44 (.s 43), .bin 45 .neq (.s 41) (.s 44)], .pick 46 (.s 38) (.c (.bool true)) (.s 45)]) (.cond (.s 46) (.seq (.reg [.mv 6 (.c (.sl 4 [])), .mv 7 (.c (.bool false))]) (.ret)) (.skip))) (.n 4)
  | 6 => .seq (.reg [.mv 24 (.s 0), .fa 25 0 (.s 4), .ld 26 (.s 25), .la 27 3 (.s 5), .callp (some 28) n_r03_with [(.s 24), (.s 26), (.s 27)], .mv 6 (.s 28), .mv 7 (.c (.bool true))]) (.ret)
  | _ => .skip
def body : C := .seq (.reg [.br 4 t_Term (.s 1), .br 5 t_Term (.s 2), .mv 6 (.c (.sl 4 [])), .mv 7 (.c (.bool false))]) (.seq (.seq (.reg [.fa 11 1 (.s 4), .ld 12 (.s 11)]) (.cond (.s 12) (.seq (.seq (.reg [.mv 13 (.s 0), .fa 14 0 (.s 4), .ld 15 (.s 14), .callp (some 16) n_r03_Bound [(.s 13), (.s 15)]]) (.cond (.s 16) (.seq (.dr [0, 1, 2, 3, 4, 5, 6, 7, 8] [.mv 17 (.s 0), .mv 18 (.s 0), .fa 19 0 (.s 4), .ld 20 (.s 19), .callp (some 21) n_r01_Image [(.s 18), (.s 20)], .la 22 3 (.s 5), .callp (some 23) n_r01_Equal [(.s 21), (.s 22)], .mv 6 (.s 17), .mv 7 (.s 23)]) (.ret)) (.skip))) (.n 6)) (.skip))) (.n 5))
def rs : List RV := [.t 6, .t 7]
attribute [push_cast] nd body
theorem ok : okF prog n_r03_match nd body 3 rs = true := by kernel_rfl
abbrev L3 (v0 v4 v5 v49 v50 : V) (B : Nat) (H : List Ob) (Q : X → T → List Ob → Prop) : Prop := Run prog nd B [.c (.m 3), .c (.loop (.n 1)), .mk 0, .c (.n 0)] [(0, v0), (4, v4), (5, v5), (49, v49), (50, v50)] H Q
theorem G3 {v0 v4 v5 v49 v50 : V} {B : Nat} {H : List Ob} {Q : X → T → List Ob → Prop} (h : Run prog nd B [.c (nd 3), .c (.loop (.n 1)), .mk 0, .c (.n 0)] [(0, v0), (4, v4), (5, v5), (49, v49), (50, v50)] H Q) : L3 v0 v4 v5 v49 v50 B H Q := run_m.2 h
end r03_match
namespace strings_TrimSuffix
def nd (_ : Nat) : C := .skip
def body : C := .seq (.reg [.mv 4 (.c (.str []))]) (.seq (.reg [.mv 5 (.s 0), .mv 6 (.s 1), .callp (some 7) n_stringslite_TrimSuffix [(.s 5), (.s 6)], .mv 4 (.s 7)]) (.ret))
def rs : List RV := [.t 4]
attribute [push_cast] nd body
theorem ok : okF prog n_strings_TrimSuffix nd body 2 rs = true := by kernel_rfl
end strings_TrimSuffix
namespace slices_ContainsFunc_s_byte_byte
def nd (_ : Nat) : C := .skip
def body : C := .seq (.reg [.mv 4 (.c (.bool false))]) (.seq (.reg [.mv 5 (.s 0), .mv 6 (.s 1), .callp (some 7) n_slices_IndexFunc_s_byte_byte [(.s 5), (.s 6)], .bin 8 .geq (.s 7) (.i 0), .mv 4 (.s 8)]) (.ret))
def rs : List RV := [.t 4]
attribute [push_cast] nd body
theorem ok : okF prog n_slices_ContainsFunc_s_byte_byte nd body 2 rs = true := by kernel_rfl
end slices_ContainsFunc_s_byte_byte
namespace term_IsName_1
def nd (_ : Nat) : C := .skip
def body : C := .seq (.reg [.mv 2 (.c (.bool false))]) (.seq (.reg [.mv 3 (.s 0), .callp (some 4) n_term_inName [(.s 3)], .un 5 .not (.s 4), .mv 2 (.s 5)]) (.ret))
def rs : List RV := [.t 2]
attribute [push_cast] nd body
theorem ok : okF prog n_term_IsName_1 nd body 1 rs = true := by kernel_rfl
end term_IsName_1
namespace term_inName
def nd (_ : Nat) : C := .skip
def body : C := .seq (.reg [.mv 2 (.c (.bool false))]) (.seq (.reg [.mv 3 (.s 0), .bin 4 .geq (.s 3) (.c (.int .u8 97)), .mv 5 (.s 4), .gd (.s 5) true [6, 7] [.mv 6 (.s 0), .bin 7 .leq (.s 6) (.c (.int .u8 122))], .pick 8 (.s 5) (.s 7) (.c (.bool false)), .mv 9 (.s 8), .gd (.s 9) false [10, 11, 12] [.mv 10 (.s 0), .bin 11 .geq (.s 10) (.c (.int .u8 65)), .mv 12 (.s 11)], .gd (.s 12) true [13, 14] [.mv 13 (.s 0), .bin 14 .leq (.s 13) (.c (.int .u8 90))], .gd (.s 9) false [15] [.pick 15 (.s 12) (.s 14) (.c (.bool false))], .pick 16 (.s 9) (.c (.bool true)) (.s 15), .mv 17 (.s 16), .gd (.s 17) false [18, 19, 20] [.mv 18 (.s 0), .bin 19 .geq (.s 18) (.c (.int .u8 48)), .mv 20 (.s 19)], .gd (.s 20) true [21, 22] [.mv 21 (.s 0), .bin 22 .leq (.s 21) (.c (.int .u8 57))], .gd (.s 17) false [23] [.pick 23 (.s 20) (.s 22) (.c (.bool false))], .pick 24 (.s 17) (.c (.bool true)) (.s 23), .mv 25 (.s 24), .gd (.s 25) false [26, 27] [.mv 26 (.s 0), .bin 27 .eql (.s 26) (.c (.int .u8 95))], .pick 28 (.s 25) (.c (.bool true)) (.s 27), .mv 29 (.s 28), .gd (.s 29) false [30, 31] [.mv 30 (.s 0), .bin 31 .eql (.s 30) (.c (.int .u8 39))], .pick 32 (.s 29) (.c (.bool true)) (.s 31), .mv 2 (.s 32)]) (.ret))
def rs : List RV := [.t 2]
attribute [push_cast] nd body
theorem ok : okF prog n_term_inName nd body 1 rs = true := by kernel_rfl
end term_inName
namespace slices_IndexFunc_s_string_string
def nd : Nat → C
  | 0 => .seq (.reg [.mv 4 (.i (-1))]) (.ret)
  | 1 => .gh [.ks 0 [0, 1, 7, 8]] (.m 3)
  | 2 => .seq (.blk 1 (.seq (.reg [.mv 10 (.s 8), .mv 5 (.s 10)]) (.seq (.reg [.mv 11 (.s 1), .mv 12 (.s 0), .mv 13 (.s 5), .ia 14 1 (.s 12) (.s 13), .ld 15 (.s 14), .callvp (some 16) (.s 11) [(.s 15)]]) (.cond (.s 16) (.seq (.reg [.mv 17 (.s 5), .mv 4 (.s 17)]) (.ret)) (.skip))))) (.reg [.bin 18 .add (.s 8) (.i 1), .mv 8 (.s 18)])
  | 3 => .seq (.reg [.bin 9 .lss (.s 8) (.s 7)]) (.seq (.cond (.s 9) (.skip) (.exit 0)) (.n 2))
  | _ => .skip
def body : C := .seq (.reg [.mv 4 (.i 0)]) (.seq (.seq (.reg [.mv 6 (.s 0), .len 7 (.s 6), .mv 8 (.i 0)]) (.blk 0 (.loop (.n 1)))) (.n 0))
def rs : List RV := [.t 4]
attribute [push_cast] nd body
theorem ok : okF prog n_slices_IndexFunc_s_string_string nd body 2 rs = true := by kernel_rfl
abbrev L3 (v0 v1 v7 v8 : V) (B : Nat) (H : List Ob) (Q : X → T → List Ob → Prop) : Prop := Run prog nd B [.c (.m 3), .c (.loop (.n 1)), .mk 0, .c (.n 0)] [(0, v0), (1, v1), (7, v7), (8, v8)] H Q
theorem G3 {v0 v1 v7 v8 : V} {B : Nat} {H : List Ob} {Q : X → T → List Ob → Prop} (h : Run prog nd B [.c (nd 3), .c (.loop (.n 1)), .mk 0, .c (.n 0)] [(0, v0), (1, v1), (7, v7), (8, v8)] H Q) : L3 v0 v1 v7 v8 B H Q := run_m.2 h
end slices_IndexFunc_s_string_string
namespace r01_letter
def nd (_ : Nat) : C := .skip
def body : C := .seq (.reg [.mv 2 (.c (.bool false))]) (.seq (.reg [.mv 3 (.s 0), .bin 4 .geq (.s 3) (.c (.int .u8 65)), .mv 5 (.s 4), .gd (.s 5) true [6, 7] [.mv 6 (.s 0), .bin 7 .leq (.s 6) (.c (.int .u8 90))], .pick 8 (.s 5) (.s 7) (.c (.bool false)), .mv 9 (.s 8), .gd (.s 9) false [10, 11, 12] [.mv 10 (.s 0), .bin 11 .geq (.s 10) (.c (.int .u8 97)), .mv 12 (.s 11)], .gd (.s 12) true [13, 14] [.mv 13 (.s 0), .bin 14 .leq (.s 13) (.c (.int .u8 122))], .gd (.s 9) false [15] [.pick 15 (.s 12) (.s 14) (.c (.bool false))], .pick 16 (.s 9) (.c (.bool true)) (.s 15), .mv 17 (.s 16), .gd (.s 17) false [18, 19, 20] [.mv 18 (.s 0), .bin 19 .geq (.s 18) (.c (.int .u8 48)), .mv 20 (.s 19)], .gd (.s 20) true [21, 22] [.mv 21 (.s 0), .bin 22 .leq (.s 21) (.c (.int .u8 57))], .gd (.s 17) false [23] [.pick 23 (.s 20) (.s 22) (.c (.bool false))], .pick 24 (.s 17) (.c (.bool true)) (.s 23), .mv 25 (.s 24), .gd (.s 25) false [26, 27] [.mv 26 (.s 0), .bin 27 .eql (.s 26) (.c (.int .u8 95))], .pick 28 (.s 25) (.c (.bool true)) (.s 27), .mv 29 (.s 28), .gd (.s 29) false [30, 31] [.mv 30 (.s 0), .bin 31 .eql (.s 30) (.c (.int .u8 39))], .pick 32 (.s 29) (.c (.bool true)) (.s 31), .mv 2 (.s 32)]) (.ret))
def rs : List RV := [.t 2]
attribute [push_cast] nd body
theorem ok : okF prog n_r01_letter nd body 1 rs = true := by kernel_rfl
end r01_letter
namespace r01_collect
def nd : Nat → C
  | 0 => .seq (.reg [.mv 24 (.s 1), .mv 4 (.s 24)]) (.ret)
  | 1 => .gh [.ks 0 [1, 14, 15, 16]] (.m 3)
  | 2 => .seq (.blk 1 (.seq (.reg [.ia 18 3 (.s 14) (.s 16), .la 19 3 (.s 18), .al 6 t_Term [.str [], .bool false, .sl 3 []], .sf 6 3 (.s 19)]) (.reg [.la 20 3 (.s 6), .mv 21 (.s 1), .callp (some 22) n_r01_collect [(.s 20), (.s 21)], .mv 1 (.s 22)]))) (.reg [.bin 23 .add (.s 16) (.i 1), .mv 16 (.s 23)])
  | 3 => .seq (.reg [.bin 17 .lss (.s 16) (.s 15)]) (.seq (.cond (.s 17) (.skip) (.exit 0)) (.n 2))
  | 4 => .seq (.seq (.reg [.fa 13 2 (.s 2), .ld 14 (.s 13), .len 15 (.s 14), .mv 16 (.i 0)]) (.blk 0 (.loop (.n 1)))) (.n 0)
  | _ => .skip
def body : C := .seq (.reg [.br 2 t_Term (.s 0), .mv 4 (.c (.sl 1 []))]) (.seq (.seq (.reg [.fa 7 1 (.s 2), .ld 8 (.s 7)]) (.cond (.s 8) (.reg [.mv 9 (.s 1), .fa 10 0 (.s 2), .ld 11 (.s 10), .callp (some 12) n_r01_Insert [(.s 9), (.s 11)], .mv 1 (.s 12)]) (.skip))) (.n 4))
def rs : List RV := [.t 4]
attribute [push_cast] nd body
theorem ok : okF prog n_r01_collect nd body 2 rs = true := by kernel_rfl
abbrev L3 (v1 v14 v15 v16 : V) (B : Nat) (H : List Ob) (Q : X → T → List Ob → Prop) : Prop := Run prog nd B [.c (.m 3), .c (.loop (.n 1)), .mk 0, .c (.n 0)] [(1, v1), (14, v14), (15, v15), (16, v16)] H Q
theorem G3 {v1 v14 v15 v16 : V} {B : Nat} {H : List Ob} {Q : X → T → List Ob → Prop} (h : Run prog nd B [.c (nd 3), .c (.loop (.n 1)), .mk 0, .c (.n 0)] [(1, v1), (14, v14), (15, v15), (16, v16)] H Q) : L3 v1 v14 v15 v16 B H Q := run_m.2 h
end r01_collect
namespace term_All
def nd : Nat → C
  | 0 => .seq (.reg [.mv 2 (.i 0)]) (.ret)
  | 1 => .gh [.ks 0 [6, 7, 8]] (.m 3)
  | 2 => .seq (.blk 1 (.seq (.reg [.ia 10 3 (.s 6) (.s 8), .la 11 3 (.s 10), .al 4 t_Term [.str [], .bool false, .sl 3 []], .sf 4 3 (.s 11)]) (.seq (.reg [.la 12 3 (.s 4), .callp (some 13) n_term_Check [(.s 12)], .mv 5 (.s 13)]) (.seq (.reg [.mv 14 (.s 5), .bin 15 .neq (.s 14) (.i 0)]) (.cond (.s 15) (.seq (.reg [.mv 16 (.s 5), .mv 2 (.s 16)]) (.ret)) (.skip)))))) (.reg [.bin 17 .add (.s 8) (.i 1), .mv 8 (.s 17)])
  | 3 => .seq (.reg [.bin 9 .lss (.s 8) (.s 7)]) (.seq (.cond (.s 9) (.skip) (.exit 0)) (.n 2))
  | _ => .skip
def body : C := .seq (.reg [.mv 2 (.i 0)]) (.seq (.seq (.reg [.mv 6 (.s 0), .len 7 (.s 6), .mv 8 (.i 0)]) (.blk 0 (.loop (.n 1)))) (.n 0))
def rs : List RV := [.t 2]
attribute [push_cast] nd body
theorem ok : okF prog n_term_All nd body 1 rs = true := by kernel_rfl
abbrev L3 (v6 v7 v8 : V) (B : Nat) (H : List Ob) (Q : X → T → List Ob → Prop) : Prop := Run prog nd B [.c (.m 3), .c (.loop (.n 1)), .mk 0, .c (.n 0)] [(6, v6), (7, v7), (8, v8)] H Q
theorem G3 {v6 v7 v8 : V} {B : Nat} {H : List Ob} {Q : X → T → List Ob → Prop} (h : Run prog nd B [.c (nd 3), .c (.loop (.n 1)), .mk 0, .c (.n 0)] [(6, v6), (7, v7), (8, v8)] H Q) : L3 v6 v7 v8 B H Q := run_m.2 h
end term_All
namespace strings_HasSuffix
def nd (_ : Nat) : C := .skip
def body : C := .seq (.reg [.mv 4 (.c (.bool false))]) (.seq (.reg [.mv 5 (.s 0), .mv 6 (.s 1), .callp (some 7) n_stringslite_HasSuffix [(.s 5), (.s 6)], .mv 4 (.s 7)]) (.ret))
def rs : List RV := [.t 4]
attribute [push_cast] nd body
theorem ok : okF prog n_strings_HasSuffix nd body 2 rs = true := by kernel_rfl
end strings_HasSuffix
namespace slices_IndexFunc_s_Rule_Rule
def nd : Nat → C
  | 0 => .seq (.reg [.mv 4 (.i (-1))]) (.ret)
  | 1 => .gh [.ks 0 [0, 1, 7, 8]] (.m 3)
  | 2 => .seq (.blk 1 (.seq (.reg [.mv 10 (.s 8), .mv 5 (.s 10)]) (.seq (.reg [.mv 11 (.s 1), .mv 12 (.s 0), .mv 13 (.s 5), .ia 14 6 (.s 12) (.s 13), .la 15 6 (.s 14), .callvp (some 16) (.s 11) [(.s 15)]]) (.cond (.s 16) (.seq (.reg [.mv 17 (.s 5), .mv 4 (.s 17)]) (.ret)) (.skip))))) (.reg [.bin 18 .add (.s 8) (.i 1), .mv 8 (.s 18)])
  | 3 => .seq (.reg [.bin 9 .lss (.s 8) (.s 7)]) (.seq (.cond (.s 9) (.skip) (.exit 0)) (.n 2))
  | _ => .skip
def body : C := .seq (.reg [.mv 4 (.i 0)]) (.seq (.seq (.reg [.mv 6 (.s 0), .len 7 (.s 6), .mv 8 (.i 0)]) (.blk 0 (.loop (.n 1)))) (.n 0))
def rs : List RV := [.t 4]
attribute [push_cast] nd body
theorem ok : okF prog n_slices_IndexFunc_s_Rule_Rule nd body 2 rs = true := by kernel_rfl
abbrev L3 (v0 v1 v7 v8 : V) (B : Nat) (H : List Ob) (Q : X → T → List Ob → Prop) : Prop := Run prog nd B [.c (.m 3), .c (.loop (.n 1)), .mk 0, .c (.n 0)] [(0, v0), (1, v1), (7, v7), (8, v8)] H Q
theorem G3 {v0 v1 v7 v8 : V} {B : Nat} {H : List Ob} {Q : X → T → List Ob → Prop} (h : Run prog nd B [.c (nd 3), .c (.loop (.n 1)), .mk 0, .c (.n 0)] [(0, v0), (1, v1), (7, v7), (8, v8)] H Q) : L3 v0 v1 v7 v8 B H Q := run_m.2 h
end slices_IndexFunc_s_Rule_Rule
namespace term_VarsOf
def nd : Nat → C
  | 0 => .seq (.reg [.mv 37 (.s 8), .call (some 38) n_slices_Sort_s_string_string [(.s 37)], .frz 8]) (.seq (.reg [.mv 39 (.s 8), .mv 2 (.s 39)]) (.ret))
  | 1 => .gh [.ks 4 [8, 28]] (.m 3)
  | 2 => .blk 5 (.seq (.reg [.en 31 (.s 28), .ex 32 (.s 31) 0, .mv 9 (.s 32)]) (.reg [.mv 33 (.s 8), .mv 34 (.s 9), .bs 35 1 [(.s 34)], .apr 36 t_string 1 16 (.s 33) (.s 35), .mv 8 (.s 36)]))
  | 3 => .seq (.reg [.nx 29 (.s 28), .ex 30 (.s 29) 0]) (.seq (.cond (.s 30) (.skip) (.exit 4)) (.n 2))
  | 4 => .seq (.reg [.mv 8 (.c .nil), .rnon 8 t_string 1]) (.seq (.seq (.reg [.ld 27 (.s 3), .rg 28 (.s 27)]) (.blk 4 (.loop (.n 1)))) (.n 0))
  | 5 => .gh [.ks 2 [3, 7, 11, 12, 13]] (.m 8)
  | 6 => .blk 3 (.seq (.reg [.fa 21 1 (.s 7), .ld 22 (.s 21)]) (.cond (.s 22) (.reg [.ld 23 (.s 3), .fa 24 0 (.s 7), .ld 25 (.s 24), .mup true (.s 23) (.s 25) (.c (.bool true))]) (.skip)))
  | 7 => .seq (.blk 1 (.seq (.reg [.ia 15 3 (.s 11) (.s 13), .la 16 3 (.s 15), .al 5 t_Term [.str [], .bool false, .sl 3 []], .sf 5 3 (.s 16)]) (.seq (.reg [.la 17 3 (.s 5), .callp (some 18) n_term_Walk [(.s 17)]]) (.blk 2 (.rf (.s 18) [19, 20] (.reg [.al 7 t_Term [.str [], .bool false, .sl 3 []], .sf 7 3 (.s 20)]) (.m 6)))))) (.reg [.bin 26 .add (.s 13) (.i 1), .mv 13 (.s 26)])
  | 8 => .seq (.reg [.bin 14 .lss (.s 13) (.s 12)]) (.seq (.cond (.s 14) (.skip) (.exit 0)) (.n 7))
  | _ => .skip
def body : C := .seq (.reg [.mv 2 (.c (.sl 1 []))]) (.seq (.reg [.mkm 10, .al 3 t_m_string_bool [.nilm], .st 1 (.s 3) (.s 10)]) (.seq (.seq (.reg [.mv 11 (.s 0), .len 12 (.s 11), .mv 13 (.i 0)]) (.blk 0 (.loop (.n 5)))) (.n 4)))
def rs : List RV := [.t 2]
attribute [push_cast] nd body
theorem ok : okF prog n_term_VarsOf nd body 1 rs = true := by kernel_rfl
abbrev L3 (v8 v28 : V) (B : Nat) (H : List Ob) (Q : X → T → List Ob → Prop) : Prop := Run prog nd B [.c (.m 3), .c (.loop (.n 1)), .mk 4, .c (.n 0)] [(8, v8), (28, v28)] H Q
theorem G3 {v8 v28 : V} {B : Nat} {H : List Ob} {Q : X → T → List Ob → Prop} (h : Run prog nd B [.c (nd 3), .c (.loop (.n 1)), .mk 4, .c (.n 0)] [(8, v8), (28, v28)] H Q) : L3 v8 v28 B H Q := run_m.2 h
abbrev L8 (v3 v7 v11 v12 v13 : V) (B : Nat) (H : List Ob) (Q : X → T → List Ob → Prop) : Prop := Run prog nd B [.c (.m 8), .c (.loop (.n 5)), .mk 0, .c (.n 4)] [(3, v3), (7, v7), (11, v11), (12, v12), (13, v13)] H Q
theorem G8 {v3 v7 v11 v12 v13 : V} {B : Nat} {H : List Ob} {Q : X → T → List Ob → Prop} (h : Run prog nd B [.c (nd 8), .c (.loop (.n 5)), .mk 0, .c (.n 4)] [(3, v3), (7, v7), (11, v11), (12, v12), (13, v13)] H Q) : L8 v3 v7 v11 v12 v13 B H Q := run_m.2 h
end term_VarsOf
namespace term_extra_1
def nd (_ : Nat) : C := .skip
def body : C := .seq (.reg [.mv 3 (.c (.bool false))]) (.seq (.reg [.ld 4 (.s 1), .mv 5 (.s 0), .callp (some 6) n_slices_Contains_s_string_string [(.s 4), (.s 5)], .un 7 .not (.s 6), .mv 3 (.s 7)]) (.ret))
def rs : List RV := [.t 3]
attribute [push_cast] nd body
theorem ok : okF prog n_term_extra_1 nd body 2 rs = true := by kernel_rfl
end term_extra_1
namespace slices_Contains_s_string_string
def nd (_ : Nat) : C := .skip
def body : C := .seq (.reg [.mv 4 (.c (.bool false))]) (.seq (.reg [.mv 5 (.s 0), .mv 6 (.s 1), .callp (some 7) n_slices_Index_s_string_string [(.s 5), (.s 6)], .bin 8 .geq (.s 7) (.i 0), .mv 4 (.s 8)]) (.ret))
def rs : List RV := [.t 4]
attribute [push_cast] nd body
theorem ok : okF prog n_slices_Contains_s_string_string nd body 2 rs = true := by kernel_rfl
end slices_Contains_s_string_string
namespace slices_ContainsFunc_s_Term_Term
def nd (_ : Nat) : C := .skip
def body : C := .seq (.reg [.mv 4 (.c (.bool false))]) (.seq (.reg [.mv 5 (.s 0), .mv 6 (.s 1), .callp (some 7) n_slices_IndexFunc_s_Term_Term [(.s 5), (.s 6)], .bin 8 .geq (.s 7) (.i 0), .mv 4 (.s 8)]) (.ret))
def rs : List RV := [.t 4]
attribute [push_cast] nd body
theorem ok : okF prog n_slices_ContainsFunc_s_Term_Term nd body 2 rs = true := by kernel_rfl
end slices_ContainsFunc_s_Term_Term
namespace term_formed_1
def nd (_ : Nat) : C := .skip
def body : C := .seq (.reg [.br 1 t_Term (.s 0), .mv 2 (.c (.bool false))]) (.seq (.reg [.la 3 3 (.s 1), .callp (some 4) n_term_formed [(.s 3)], .un 5 .not (.s 4), .mv 2 (.s 5)]) (.ret))
def rs : List RV := [.t 2]
attribute [push_cast] nd body
theorem ok : okF prog n_term_formed_1 nd body 1 rs = true := by kernel_rfl
end term_formed_1
namespace term_Size
def nd : Nat → C
  | 0 => .seq (.reg [.mv 18 (.s 3), .mv 2 (.s 18)]) (.ret)
  | 1 => .gh [.ks 0 [3, 7, 8, 9]] (.m 3)
  | 2 => .seq (.blk 1 (.seq (.reg [.ia 11 3 (.s 7) (.s 9), .la 12 3 (.s 11), .al 5 t_Term [.str [], .bool false, .sl 3 []], .sf 5 3 (.s 12)]) (.reg [.mv 13 (.s 3), .la 14 3 (.s 5), .callp (some 15) n_term_Size [(.s 14)], .bin 16 .add (.s 13) (.s 15), .mv 3 (.s 16)]))) (.reg [.bin 17 .add (.s 9) (.i 1), .mv 9 (.s 17)])
  | 3 => .seq (.reg [.bin 10 .lss (.s 9) (.s 8)]) (.seq (.cond (.s 10) (.skip) (.exit 0)) (.n 2))
  | _ => .skip
def body : C := .seq (.reg [.br 1 t_Term (.s 0), .mv 2 (.i 0)]) (.seq (.reg [.mv 3 (.i 1)]) (.seq (.seq (.reg [.fa 6 2 (.s 1), .ld 7 (.s 6), .len 8 (.s 7), .mv 9 (.i 0)]) (.blk 0 (.loop (.n 1)))) (.n 0)))
def rs : List RV := [.t 2]
attribute [push_cast] nd body
theorem ok : okF prog n_term_Size nd body 1 rs = true := by kernel_rfl
abbrev L3 (v3 v7 v8 v9 : V) (B : Nat) (H : List Ob) (Q : X → T → List Ob → Prop) : Prop := Run prog nd B [.c (.m 3), .c (.loop (.n 1)), .mk 0, .c (.n 0)] [(3, v3), (7, v7), (8, v8), (9, v9)] H Q
theorem G3 {v3 v7 v8 v9 : V} {B : Nat} {H : List Ob} {Q : X → T → List Ob → Prop} (h : Run prog nd B [.c (nd 3), .c (.loop (.n 1)), .mk 0, .c (.n 0)] [(3, v3), (7, v7), (8, v8), (9, v9)] H Q) : L3 v3 v7 v8 v9 B H Q := run_m.2 h
end term_Size
end Go.Dw
