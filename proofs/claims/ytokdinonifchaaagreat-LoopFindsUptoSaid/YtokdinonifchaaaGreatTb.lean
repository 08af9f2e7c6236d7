/-
  Functions of the program, printed for the reader, on.
-/
import Derived.Test.YtokdinonifchaaaGreatNm
set_option maxRecDepth 100000
namespace Go.Dw
namespace r01_IsName
def nd : Nat → C
  | 0 => .seq (.reg [.mv 18 (.s 0), .bin 19 .neq (.s 18) (.c (.str [])), .mv 20 (.s 19), .gd (.s 20) true [21, 22] [.mv 21 (.s 0), .callp (some 22) n_r01_Letters [(.s 21)]], .pick 23 (.s 20) (.s 22) (.c (.bool false)), .mv 4 (.s 23)]) (.ret)
  | 1 => .seq (.seq (.reg [.mv 8 (.s 1), .mv 9 (.s 8), .gd (.s 9) true [10, 11] [.mv 10 (.s 0), .callp (some 11) n_r01_Marked [(.s 10)]], .pick 12 (.s 9) (.s 11) (.c (.bool false))]) (.cond (.s 12) (.reg [.mv 13 (.s 0), .mv 14 (.s 0), .lens 15 (.s 14), .bin 16 .sub (.s 15) (.i 1), .sxs 17 (.s 13) none (some (.s 16)), .mv 0 (.s 17)]) (.skip))) (.n 0)
  | _ => .skip
def body : C := .seq (.reg [.mv 4 (.c (.bool false))]) (.seq (.seq (.reg [.mv 5 (.s 0), .lens 6 (.s 5), .bin 7 .gtr (.s 6) (.i 24)]) (.cond (.s 7) (.seq (.reg [.mv 4 (.c (.bool false))]) (.ret)) (.skip))) (.n 1))
def rs : List RV := [.t 4]
attribute [push_cast] nd body
theorem ok : okF prog n_r01_IsName nd body 2 rs = true := by kernel_rfl
end r01_IsName
namespace r01_Rules
def nd : Nat → C
  | 0 => .seq (.reg [.mv 2 (.i 0)]) (.ret)
  | 1 => .gh [.ks 0 [9, 10, 11]] (.m 3)
  | 2 => .seq (.blk 1 (.seq (.reg [.ia 13 6 (.s 9) (.s 11), .la 14 6 (.s 13), .al 4 t_Rule [.str [], .bool false, .sl 3 [], .str [], .bool false, .sl 3 []], .sf 4 6 (.s 14)]) (.seq (.reg [.fa 15 0 (.s 4), .la 16 3 (.s 15), .fa 17 3 (.s 4), .la 18 3 (.s 17), .bs 19 3 [(.s 16), (.s 18)], .callp (some 20) n_r01_CheckAll [(.s 19)], .mv 5 (.s 20)]) (.seq (.reg [.mv 21 (.s 5), .bin 22 .neq (.s 21) (.i 0)]) (.cond (.s 22) (.seq (.reg [.mv 23 (.s 5), .mv 2 (.s 23)]) (.ret)) (.skip)))))) (.reg [.bin 24 .add (.s 11) (.i 1), .mv 11 (.s 24)])
  | 3 => .seq (.reg [.bin 12 .lss (.s 11) (.s 10)]) (.seq (.cond (.s 12) (.skip) (.exit 0)) (.n 2))
  | 4 => .seq (.seq (.reg [.mv 9 (.s 0), .len 10 (.s 9), .mv 11 (.i 0)]) (.blk 0 (.loop (.n 1)))) (.n 0)
  | _ => .skip
def body : C := .seq (.reg [.mv 2 (.i 0)]) (.seq (.seq (.reg [.mv 6 (.s 0), .len 7 (.s 6), .bin 8 .gtr (.s 7) (.i 64)]) (.cond (.s 8) (.seq (.reg [.mv 2 (.i 3)]) (.ret)) (.skip))) (.n 4))
def rs : List RV := [.t 2]
attribute [push_cast] nd body
theorem ok : okF prog n_r01_Rules nd body 1 rs = true := by kernel_rfl
abbrev L3 (v9 v10 v11 : V) (B : Nat) (H : List Ob) (Q : X → T → List Ob → Prop) : Prop := Run prog nd B [.c (.m 3), .c (.loop (.n 1)), .mk 0, .c (.n 0)] [(9, v9), (10, v10), (11, v11)] H Q
theorem G3 {v9 v10 v11 : V} {B : Nat} {H : List Ob} {Q : X → T → List Ob → Prop} (h : Run prog nd B [.c (nd 3), .c (.loop (.n 1)), .mk 0, .c (.n 0)] [(9, v9), (10, v10), (11, v11)] H Q) : L3 v9 v10 v11 B H Q := run_m.2 h
end r01_Rules
namespace r01_Symbols
def nd : Nat → C
  | 0 => .seq (.reg [.mv 38 (.s 4), .mv 2 (.s 38), .mv 3 (.c (.bool true))]) (.ret)
  | 1 => .gh [.ks 0 [4, 11, 12, 13]] (.m 6)
  | 2 => .gh [.ks 1 [4, 11, 12, 13, 21, 22, 23]] (.m 4)
  | 3 => .seq (.blk 3 (.seq (.reg [.ia 25 3 (.s 21) (.s 23), .la 26 3 (.s 25), .al 8 t_Term [.str [], .bool false, .sl 3 []], .sf 8 3 (.s 26)]) (.seq (.reg [.la 28 3 (.s 8), .mv 29 (.s 4), .callp (some 30) n_r01_symbols [(.s 28), (.s 29)], .mv 27 (.s 30), .ex 31 (.s 27) 0, .ex 32 (.s 27) 1, .mv 9 (.s 31), .mv 10 (.s 32)]) (.seq (.seq (.reg [.mv 33 (.s 10), .un 34 .not (.s 33)]) (.cond (.s 34) (.seq (.reg [.mv 2 (.c (.sl 2 [])), .mv 3 (.c (.bool false))]) (.ret)) (.skip))) (.reg [.mv 35 (.s 9), .mv 4 (.s 35)]))))) (.reg [.bin 36 .add (.s 23) (.i 1), .mv 23 (.s 36)])
  | 4 => .seq (.reg [.bin 24 .lss (.s 23) (.s 22)]) (.seq (.cond (.s 24) (.skip) (.exit 2)) (.n 3))
  | 5 => .seq (.blk 1 (.seq (.reg [.ia 15 6 (.s 11) (.s 13), .la 16 6 (.s 15), .al 6 t_Rule [.str [], .bool false, .sl 3 [], .str [], .bool false, .sl 3 []], .sf 6 6 (.s 16)]) (.seq (.reg [.fa 17 0 (.s 6), .la 18 3 (.s 17), .fa 19 3 (.s 6), .la 20 3 (.s 19), .bs 21 3 [(.s 18), (.s 20)], .len 22 (.s 21), .mv 23 (.i 0)]) (.blk 2 (.loop (.n 2)))))) (.reg [.bin 37 .add (.s 13) (.i 1), .mv 13 (.s 37)])
  | 6 => .seq (.reg [.bin 14 .lss (.s 13) (.s 12)]) (.seq (.cond (.s 14) (.skip) (.exit 0)) (.n 5))
  | _ => .skip
def body : C := .seq (.reg [.mv 2 (.c (.sl 2 [])), .mv 3 (.c (.bool false))]) (.seq (.reg [.mv 4 (.c (.sl 2 []))]) (.seq (.seq (.reg [.mv 11 (.s 0), .len 12 (.s 11), .mv 13 (.i 0)]) (.blk 0 (.loop (.n 1)))) (.n 0)))
def rs : List RV := [.t 2, .t 3]
attribute [push_cast] nd body
theorem ok : okF prog n_r01_Symbols nd body 1 rs = true := by kernel_rfl
abbrev L4 (v4 v11 v12 v13 v21 v22 v23 : V) (B : Nat) (H : List Ob) (Q : X → T → List Ob → Prop) : Prop := Run prog nd B [.c (.m 4), .c (.loop (.n 2)), .mk 2, .mk 1, .c (.reg [.bin 37 .add (.s 13) (.i 1), .mv 13 (.s 37)]), .c (.loop (.n 1)), .mk 0, .c (.n 0)] [(4, v4), (11, v11), (12, v12), (13, v13), (21, v21), (22, v22), (23, v23)] H Q
theorem G4 {v4 v11 v12 v13 v21 v22 v23 : V} {B : Nat} {H : List Ob} {Q : X → T → List Ob → Prop} (h : Run prog nd B [.c (nd 4), .c (.loop (.n 2)), .mk 2, .mk 1, .c (.reg [.bin 37 .add (.s 13) (.i 1), .mv 13 (.s 37)]), .c (.loop (.n 1)), .mk 0, .c (.n 0)] [(4, v4), (11, v11), (12, v12), (13, v13), (21, v21), (22, v22), (23, v23)] H Q) : L4 v4 v11 v12 v13 v21 v22 v23 B H Q := run_m.2 h
abbrev L6 (v4 v11 v12 v13 : V) (B : Nat) (H : List Ob) (Q : X → T → List Ob → Prop) : Prop := Run prog nd B [.c (.m 6), .c (.loop (.n 1)), .mk 0, .c (.n 0)] [(4, v4), (11, v11), (12, v12), (13, v13)] H Q
theorem G6 {v4 v11 v12 v13 : V} {B : Nat} {H : List Ob} {Q : X → T → List Ob → Prop} (h : Run prog nd B [.c (nd 6), .c (.loop (.n 1)), .mk 0, .c (.n 0)] [(4, v4), (11, v11), (12, v12), (13, v13)] H Q) : L6 v4 v11 v12 v13 B H Q := run_m.2 h
end r01_Symbols
namespace r01_Within
def nd : Nat → C
  | 0 => .seq (.reg [.mv 4 (.c (.bool true))]) (.ret)
  | 1 => .gh [.ks 0 [3, 9, 10, 11]] (.m 3)
  | 2 => .seq (.blk 1 (.seq (.reg [.ia 13 1 (.s 9) (.s 11), .ld 14 (.s 13), .mv 6 (.s 14)]) (.seq (.reg [.la 15 3 (.s 3), .mv 16 (.s 6), .callp (some 17) n_r01_Count [(.s 15), (.s 16)], .bin 18 .eql (.s 17) (.i 0)]) (.cond (.s 18) (.seq (.reg [.mv 4 (.c (.bool false))]) (.ret)) (.skip))))) (.reg [.bin 19 .add (.s 11) (.i 1), .mv 11 (.s 19)])
  | 3 => .seq (.reg [.bin 12 .lss (.s 11) (.s 10)]) (.seq (.cond (.s 12) (.skip) (.exit 0)) (.n 2))
  | _ => .skip
def body : C := .seq (.reg [.br 2 t_Term (.s 0), .br 3 t_Term (.s 1), .mv 4 (.c (.bool false))]) (.seq (.seq (.reg [.la 7 3 (.s 2), .bs 8 3 [(.s 7)], .callp (some 9) n_r01_Vars [(.s 8)], .len 10 (.s 9), .mv 11 (.i 0)]) (.blk 0 (.loop (.n 1)))) (.n 0))
def rs : List RV := [.t 4]
attribute [push_cast] nd body
theorem ok : okF prog n_r01_Within nd body 2 rs = true := by kernel_rfl
abbrev L3 (v3 v9 v10 v11 : V) (B : Nat) (H : List Ob) (Q : X → T → List Ob → Prop) : Prop := Run prog nd B [.c (.m 3), .c (.loop (.n 1)), .mk 0, .c (.n 0)] [(3, v3), (9, v9), (10, v10), (11, v11)] H Q
theorem G3 {v3 v9 v10 v11 : V} {B : Nat} {H : List Ob} {Q : X → T → List Ob → Prop} (h : Run prog nd B [.c (nd 3), .c (.loop (.n 1)), .mk 0, .c (.n 0)] [(3, v3), (9, v9), (10, v10), (11, v11)] H Q) : L3 v3 v9 v10 v11 B H Q := run_m.2 h
end r01_Within
namespace r01_Has
def nd : Nat → C
  | 0 => .seq (.reg [.mv 4 (.c (.bool false))]) (.ret)
  | 1 => .gh [.ks 0 [1, 7, 8, 9]] (.m 3)
  | 2 => .seq (.blk 1 (.seq (.reg [.ia 11 1 (.s 7) (.s 9), .ld 12 (.s 11), .mv 6 (.s 12)]) (.seq (.reg [.mv 13 (.s 6), .mv 14 (.s 1), .bin 15 .eql (.s 13) (.s 14)]) (.cond (.s 15) (.seq (.reg [.mv 4 (.c (.bool true))]) (.ret)) (.skip))))) (.reg [.bin 16 .add (.s 9) (.i 1), .mv 9 (.s 16)])
  | 3 => .seq (.reg [.bin 10 .lss (.s 9) (.s 8)]) (.seq (.cond (.s 10) (.skip) (.exit 0)) (.n 2))
  | _ => .skip
def body : C := .seq (.reg [.mv 4 (.c (.bool false))]) (.seq (.seq (.reg [.mv 7 (.s 0), .len 8 (.s 7), .mv 9 (.i 0)]) (.blk 0 (.loop (.n 1)))) (.n 0))
def rs : List RV := [.t 4]
attribute [push_cast] nd body
theorem ok : okF prog n_r01_Has nd body 2 rs = true := by kernel_rfl
abbrev L3 (v1 v7 v8 v9 : V) (B : Nat) (H : List Ob) (Q : X → T → List Ob → Prop) : Prop := Run prog nd B [.c (.m 3), .c (.loop (.n 1)), .mk 0, .c (.n 0)] [(1, v1), (7, v7), (8, v8), (9, v9)] H Q
theorem G3 {v1 v7 v8 v9 : V} {B : Nat} {H : List Ob} {Q : X → T → List Ob → Prop} (h : Run prog nd B [.c (nd 3), .c (.loop (.n 1)), .mk 0, .c (.n 0)] [(1, v1), (7, v7), (8, v8), (9, v9)] H Q) : L3 v1 v7 v8 v9 B H Q := run_m.2 h
end r01_Has
namespace term_CheckSystem
def nd : Nat → C
  | 0 => .seq (.reg [.mv 2 (.i 0)]) (.ret)
  | 1 => .seq (.seq (.reg [.mv 27 (.s 0), .callp (some 28) n_slices_ContainsFunc_s_Rule_Rule [(.s 27), (.f n_term_extra)]]) (.cond (.s 28) (.seq (.reg [.mv 2 (.i 7)]) (.ret)) (.skip))) (.n 0)
  | 2 => .gh [.ks 2 [0, 20]] (.m 4)
  | 3 => .blk 1 (.seq (.reg [.en 23 (.s 20), .ex 24 (.s 23) 0, .mv 6 (.s 24)]) (.seq (.reg [.mv 25 (.s 6), .callp (some 26) n_term_Marked [(.s 25)]]) (.cond (.s 26) (.seq (.reg [.mv 2 (.i 6)]) (.ret)) (.skip))))
  | 4 => .seq (.reg [.nx 21 (.s 20), .ex 22 (.s 21) 0]) (.seq (.cond (.s 22) (.skip) (.exit 0)) (.n 3))
  | 5 => .seq (.seq (.reg [.mv 19 (.s 4), .rg 20 (.s 19)]) (.blk 0 (.loop (.n 2)))) (.n 1)
  | 6 => .seq (.reg [.mv 13 (.s 0), .call (some 14) n_term_Arities [(.s 13)], .mv 12 (.s 14), .ex 15 (.s 12) 0, .ex 16 (.s 12) 1, .mv 4 (.s 15), .mv 5 (.s 16)]) (.seq (.seq (.reg [.mv 17 (.s 5), .un 18 .not (.s 17)]) (.cond (.s 18) (.seq (.reg [.mv 2 (.i 6)]) (.ret)) (.skip))) (.n 5))
  | _ => .skip
def body : C := .seq (.reg [.mv 2 (.i 0)]) (.seq (.seq (.reg [.mv 7 (.s 0), .callp (some 8) n_term_CheckRules [(.s 7)], .mv 3 (.s 8)]) (.seq (.reg [.mv 9 (.s 3), .bin 10 .neq (.s 9) (.i 0)]) (.cond (.s 10) (.seq (.reg [.mv 11 (.s 3), .mv 2 (.s 11)]) (.ret)) (.skip)))) (.n 6))
def rs : List RV := [.t 2]
attribute [push_cast] nd body
theorem ok : okF prog n_term_CheckSystem nd body 1 rs = true := by kernel_rfl
abbrev L4 (v0 v20 : V) (B : Nat) (H : List Ob) (Q : X → T → List Ob → Prop) : Prop := Run prog nd B [.c (.m 4), .c (.loop (.n 2)), .mk 0, .c (.n 1)] [(0, v0), (20, v20)] H Q
theorem G4 {v0 v20 : V} {B : Nat} {H : List Ob} {Q : X → T → List Ob → Prop} (h : Run prog nd B [.c (nd 4), .c (.loop (.n 2)), .mk 0, .c (.n 1)] [(0, v0), (20, v20)] H Q) : L4 v0 v20 B H Q := run_m.2 h
end term_CheckSystem
namespace r01_CompareNames
def nd : Nat → C
  | 0 => .seq (.reg [.mv 31 (.s 0), .lens 32 (.s 31), .mv 33 (.s 1), .lens 34 (.s 33), .callp (some 35) n_r01_CompareInts [(.s 32), (.s 34)], .mv 4 (.s 35)]) (.ret)
  | 1 => .gh [.ks 0 [0, 1, 10, 11]] (.m 3)
  | 2 => .seq (.blk 1 (.seq (.reg [.mv 13 (.s 11), .mv 5 (.s 13)]) (.seq (.dr [0, 1, 2, 3, 4, 5, 6] [.mv 14 (.s 0), .mv 15 (.s 5), .ix 16 (.s 14) (.s 15), .mv 17 (.s 1), .mv 18 (.s 5), .ix 19 (.s 17) (.s 18), .bin 20 .neq (.s 16) (.s 19)]) (.cond (.s 20) (.seq (.dr [0, 1, 2, 3, 4, 5, 6, 7, 8, 9] [.mv 21 (.s 0), .mv 22 (.s 5), .ix 23 (.s 21) (.s 22), .cvi 24 .i64 (.s 23), .mv 25 (.s 1), .mv 26 (.s 5), .ix 27 (.s 25) (.s 26), .cvi 28 .i64 (.s 27), .callp (some 29) n_r01_CompareInts [(.s 24), (.s 28)], .mv 4 (.s 29)]) (.ret)) (.skip))))) (.reg [.bin 30 .add (.s 11) (.i 1), .mv 11 (.s 30)])
  | 3 => .seq (.reg [.bin 12 .lss (.s 11) (.s 10)]) (.seq (.cond (.s 12) (.skip) (.exit 0)) (.n 2))
  | _ => .skip
def body : C := .seq (.reg [.mv 4 (.i 0)]) (.seq (.seq (.reg [.mv 6 (.s 0), .lens 7 (.s 6), .mv 8 (.s 1), .lens 9 (.s 8), .mn 10 (.s 7) (.s 9), .mv 11 (.i 0)]) (.blk 0 (.loop (.n 1)))) (.n 0))
def rs : List RV := [.t 4]
attribute [push_cast] nd body
theorem ok : okF prog n_r01_CompareNames nd body 2 rs = true := by kernel_rfl
abbrev L3 (v0 v1 v10 v11 : V) (B : Nat) (H : List Ob) (Q : X → T → List Ob → Prop) : Prop := Run prog nd B [.c (.m 3), .c (.loop (.n 1)), .mk 0, .c (.n 0)] [(0, v0), (1, v1), (10, v10), (11, v11)] H Q
theorem G3 {v0 v1 v10 v11 : V} {B : Nat} {H : List Ob} {Q : X → T → List Ob → Prop} (h : Run prog nd B [.c (nd 3), .c (.loop (.n 1)), .mk 0, .c (.n 0)] [(0, v0), (1, v1), (10, v10), (11, v11)] H Q) : L3 v0 v1 v10 v11 B H Q := run_m.2 h
end r01_CompareNames
namespace r01_Grown
def nd : Nat → C
  | 0 => .seq (.reg [.mv 43 (.s 7), .mv 44 (.s 8), .bin 45 .add (.s 44) (.i 1), .mv 4 (.s 43), .mv 5 (.s 45)]) (.ret)
  | 1 => .gh [.ks 0 [0, 7, 8, 24, 25, 26]] (.m 3)
  | 2 => .seq (.blk 1 (.seq (.reg [.ia 28 3 (.s 24) (.s 26), .la 29 3 (.s 28), .al 10 t_Term [.str [], .bool false, .sl 3 []], .sf 10 3 (.s 29)]) (.seq (.reg [.mv 31 (.s 0), .la 32 3 (.s 10), .callp (some 33) n_r01_Grown [(.s 31), (.s 32)], .mv 30 (.s 33), .ex 34 (.s 30) 0, .ex 35 (.s 30) 1, .mv 11 (.s 34), .mv 12 (.s 35)]) (.reg [.mv 36 (.s 7), .mv 37 (.s 11), .bin 38 .add (.s 36) (.s 37), .mv 39 (.s 8), .mv 40 (.s 12), .mx 41 (.s 39) (.s 40), .mv 7 (.s 38), .mv 8 (.s 41)])))) (.reg [.bin 42 .add (.s 26) (.i 1), .mv 26 (.s 42)])
  | 3 => .seq (.reg [.bin 27 .lss (.s 26) (.s 25)]) (.seq (.cond (.s 27) (.skip) (.exit 0)) (.n 2))
  | 4 => .seq (.reg [.mv 7 (.i 1), .mv 8 (.i 0)]) (.seq (.seq (.reg [.fa 23 2 (.s 3), .ld 24 (.s 23), .len 25 (.s 24), .mv 26 (.i 0)]) (.blk 0 (.loop (.n 1)))) (.n 0))
  | _ => .skip
def body : C := .seq (.reg [.br 3 t_Term (.s 1), .mv 4 (.i 0), .mv 5 (.i 0)]) (.seq (.seq (.reg [.fa 13 1 (.s 3), .ld 14 (.s 13)]) (.cond (.s 14) (.seq (.reg [.mv 15 (.s 0), .fa 16 0 (.s 3), .ld 17 (.s 16), .callp (some 18) n_r01_Image [(.s 15), (.s 17)], .al 6 t_Term [.str [], .bool false, .sl 3 []], .sf 6 3 (.s 18)]) (.seq (.dr [0, 1, 2, 3, 4, 5] [.la 19 3 (.s 6), .callp (some 20) n_r01_Size [(.s 19)], .la 21 3 (.s 6), .callp (some 22) n_r01_Depth [(.s 21)], .mv 4 (.s 20), .mv 5 (.s 22)]) (.ret))) (.skip))) (.n 4))
def rs : List RV := [.t 4, .t 5]
attribute [push_cast] nd body
theorem ok : okF prog n_r01_Grown nd body 2 rs = true := by kernel_rfl
abbrev L3 (v0 v7 v8 v24 v25 v26 : V) (B : Nat) (H : List Ob) (Q : X → T → List Ob → Prop) : Prop := Run prog nd B [.c (.m 3), .c (.loop (.n 1)), .mk 0, .c (.n 0)] [(0, v0), (7, v7), (8, v8), (24, v24), (25, v25), (26, v26)] H Q
theorem G3 {v0 v7 v8 v24 v25 v26 : V} {B : Nat} {H : List Ob} {Q : X → T → List Ob → Prop} (h : Run prog nd B [.c (nd 3), .c (.loop (.n 1)), .mk 0, .c (.n 0)] [(0, v0), (7, v7), (8, v8), (24, v24), (25, v25), (26, v26)] H Q) : L3 v0 v7 v8 v24 v25 v26 B H Q := run_m.2 h
end r01_Grown
namespace r01_Compare
def nd : Nat → C
  | 0 => .seq (.reg [.mv 4 (.i 0)]) (.ret)
  | 1 => .gh [.ks 0 [2, 3, 36, 37]] (.m 3)
  | 2 => .seq (.blk 1 (.seq (.reg [.mv 39 (.s 37), .mv 7 (.s 39)]) (.seq (.dr [0, 1, 2, 3, 4, 5, 6, 7, 8, 9, 10, 11] [.fa 40 2 (.s 2), .ld 41 (.s 40), .mv 42 (.s 7), .ia 43 3 (.s 41) (.s 42), .la 44 3 (.s 43), .fa 45 2 (.s 3), .ld 46 (.s 45), .mv 47 (.s 7), .ia 48 3 (.s 46) (.s 47), .la 49 3 (.s 48), .callp (some 50) n_r01_Compare [(.s 44), (.s 49)], .mv 8 (.s 50)]) (.seq (.reg [.mv 51 (.s 8), .bin 52 .neq (.s 51) (.i 0)]) (.cond (.s 52) (.seq (.reg [.mv 53 (.s 8), .mv 4 (.s 53)]) (.ret)) (.skip)))))) (.reg [.bin 54 .add (.s 37) (.i 1), .mv 37 (.s 54)])
  | 3 => .seq (.reg [.bin 38 .lss (.s 37) (.s 36)]) (.seq (.cond (.s 38) (.skip) (.exit 0)) (.n 2))
  | 4 => .seq (.seq (.reg [.fa 34 2 (.s 2), .ld 35 (.s 34), .len 36 (.s 35), .mv 37 (.i 0)]) (.blk 0 (.loop (.n 1)))) (.n 0)
  | 5 => .seq (.seq (.reg [.fa 24 2 (.s 2), .ld 25 (.s 24), .len 26 (.s 25), .fa 27 2 (.s 3), .ld 28 (.s 27), .len 29 (.s 28), .callp (some 30) n_r01_CompareInts [(.s 26), (.s 29)], .mv 6 (.s 30)]) (.seq (.reg [.mv 31 (.s 6), .bin 32 .neq (.s 31) (.i 0)]) (.cond (.s 32) (.seq (.reg [.mv 33 (.s 6), .mv 4 (.s 33)]) (.ret)) (.skip)))) (.n 4)
  | 6 => .seq (.seq (.reg [.fa 16 0 (.s 2), .ld 17 (.s 16), .fa 18 0 (.s 3), .ld 19 (.s 18), .callp (some 20) n_r01_CompareNames [(.s 17), (.s 19)], .mv 5 (.s 20)]) (.seq (.reg [.mv 21 (.s 5), .bin 22 .neq (.s 21) (.i 0)]) (.cond (.s 22) (.seq (.reg [.mv 23 (.s 5), .mv 4 (.s 23)]) (.ret)) (.skip)))) (.n 5)
  | 7 => .seq (.reg [.mv 4 (.i 1)]) (.ret)
  | _ => .skip
def body : C := .seq (.reg [.br 2 t_Term (.s 0), .br 3 t_Term (.s 1), .mv 4 (.i 0)]) (.seq (.seq (.reg [.fa 9 1 (.s 2), .ld 10 (.s 9), .fa 11 1 (.s 3), .ld 12 (.s 11), .bb 13 .neq (.s 10) (.s 12)]) (.cond (.s 13) (.seq (.seq (.reg [.fa 14 1 (.s 2), .ld 15 (.s 14)]) (.cond (.s 15) (.seq (.reg [.mv 4 (.i (-1))]) (.ret)) (.skip))) (.n 7)) (.skip))) (.n 6))
def rs : List RV := [.t 4]
attribute [push_cast] nd body
theorem ok : okF prog n_r01_Compare nd body 2 rs = true := by kernel_rfl
abbrev L3 (v2 v3 v36 v37 : V) (B : Nat) (H : List Ob) (Q : X → T → List Ob → Prop) : Prop := Run prog nd B [.c (.m 3), .c (.loop (.n 1)), .mk 0, .c (.n 0)] [(2, v2), (3, v3), (36, v36), (37, v37)] H Q
theorem G3 {v2 v3 v36 v37 : V} {B : Nat} {H : List Ob} {Q : X → T → List Ob → Prop} (h : Run prog nd B [.c (nd 3), .c (.loop (.n 1)), .mk 0, .c (.n 0)] [(2, v2), (3, v3), (36, v36), (37, v37)] H Q) : L3 v2 v3 v36 v37 B H Q := run_m.2 h
end r01_Compare
namespace r01_Image
def nd : Nat → C
  | 0 => .seq (.reg [.mv 20 (.s 1), .bd 21 [.str [], .bool false, .sl 3 []] [(0, 1, (.s 20)), (1, 1, (.c (.bool true)))], .st 3 (.s 4) (.s 21)]) (.ret)
  | 1 => .gh [.ks 1 [1, 4, 7, 8, 9]] (.m 3)
  | 2 => .seq (.blk 1 (.seq (.reg [.ia 11 4 (.s 7) (.s 9), .la 12 4 (.s 11), .al 6 t_Bind [.str [], .str [], .bool false, .sl 3 []], .sf 6 4 (.s 12)]) (.seq (.reg [.fa 13 0 (.s 6), .ld 14 (.s 13), .mv 15 (.s 1), .bin 16 .eql (.s 14) (.s 15)]) (.cond (.s 16) (.seq (.reg [.fa 17 1 (.s 6), .la 18 3 (.s 17), .st 3 (.s 4) (.s 18)]) (.ret)) (.skip))))) (.reg [.bin 19 .add (.s 9) (.i 1), .mv 9 (.s 19)])
  | 3 => .seq (.reg [.bin 10 .lss (.s 9) (.s 8)]) (.seq (.cond (.s 10) (.skip) (.exit 0)) (.n 2))
  | _ => .skip
def body : C := .seq (.reg [.al 4 t_Term [.str [], .bool false, .sl 3 []]]) (.seq (.seq (.reg [.mv 7 (.s 0), .len 8 (.s 7), .mv 9 (.i 0)]) (.blk 0 (.loop (.n 1)))) (.n 0))
def rs : List RV := [.a 4 3]
attribute [push_cast] nd body
theorem ok : okF prog n_r01_Image nd body 2 rs = true := by kernel_rfl
abbrev L3 (v1 v4 v7 v8 v9 : V) (B : Nat) (H : List Ob) (Q : X → T → List Ob → Prop) : Prop := Run prog nd B [.c (.m 3), .c (.loop (.n 1)), .mk 0, .c (.n 0)] [(1, v1), (4, v4), (7, v7), (8, v8), (9, v9)] H Q
theorem G3 {v1 v4 v7 v8 v9 : V} {B : Nat} {H : List Ob} {Q : X → T → List Ob → Prop} (h : Run prog nd B [.c (nd 3), .c (.loop (.n 1)), .mk 0, .c (.n 0)] [(1, v1), (4, v4), (7, v7), (8, v8), (9, v9)] H Q) : L3 v1 v4 v7 v8 v9 B H Q := run_m.2 h
end r01_Image
namespace term_CheckSubst
def nd : Nat → C
  | 0 => .seq (.reg [.mv 2 (.i 0)]) (.ret)
  | 1 => .gh [.ks 0 [35, 36, 37]] (.m 3)
  | 2 => .seq (.blk 3 (.seq (.reg [.ia 39 4 (.s 35) (.s 37), .la 40 4 (.s 39), .al 6 t_Bind [.str [], .str [], .bool false, .sl 3 []], .sf 6 4 (.s 40)]) (.seq (.reg [.fa 41 1 (.s 6), .la 42 3 (.s 41), .callp (some 43) n_term_Check [(.s 42)], .mv 7 (.s 43)]) (.seq (.reg [.mv 44 (.s 7), .bin 45 .neq (.s 44) (.i 0)]) (.cond (.s 45) (.seq (.reg [.mv 46 (.s 7), .mv 2 (.s 46)]) (.ret)) (.skip)))))) (.reg [.bin 47 .add (.s 37) (.i 1), .mv 37 (.s 47)])
  | 3 => .seq (.reg [.bin 38 .lss (.s 37) (.s 36)]) (.seq (.cond (.s 38) (.skip) (.exit 2)) (.n 2))
  | 4 => .seq (.seq (.reg [.mv 35 (.s 0), .len 36 (.s 35), .mv 37 (.i 0)]) (.blk 2 (.loop (.n 1)))) (.n 0)
  | 5 => .gh [.ks 0 [0, 8, 9, 10]] (.m 7)
  | 6 => .seq (.blk 1 (.seq (.reg [.mv 12 (.s 10), .ia 13 4 (.s 8) (.s 10), .la 14 4 (.s 13), .al 4 t_Bind [.str [], .str [], .bool false, .sl 3 []], .mv 3 (.s 12), .sf 4 4 (.s 14)]) (.seq (.dr [0, 1, 2, 3, 4, 5, 6, 7, 8, 9, 10, 11, 12, 13, 14, 15, 16, 17, 18] [.fa 15 0 (.s 4), .ld 16 (.s 15), .callp (some 17) n_term_IsName [(.s 16), (.c (.bool false))], .un 18 .not (.s 17), .mv 19 (.s 18), .gd (.s 19) false [20] [.mv 20 (.s 3)], .gd (.s 19) false [21] [.bin 21 .gtr (.s 20) (.i 0)], .gd (.s 19) false [22] [.mv 22 (.s 21)], .gd (.s 22) true [23] [.fa 23 0 (.s 4)], .gd (.s 22) true [24] [.ld 24 (.s 23)], .gd (.s 22) true [25] [.mv 25 (.s 0)], .gd (.s 22) true [26] [.mv 26 (.s 3)], .gd (.s 22) true [27] [.bin 27 .sub (.s 26) (.i 1)], .gd (.s 22) true [28] [.ia 28 4 (.s 25) (.s 27)], .gd (.s 22) true [29] [.fa 29 0 (.s 28)], .gd (.s 22) true [30] [.ld 30 (.s 29)], .gd (.s 22) true [31] [.bin 31 .leq (.s 24) (.s 30)], .gd (.s 19) false [32] [.pick 32 (.s 22) (.s 31) (.c (.bool false))], .pick 33 (.s 19) (.c (.bool true)) (.s 32)]) (.cond (.s 33) (.seq (.reg [.mv 2 (.i 4)]) (.ret)) (.skip))))) (.reg [.bin 34 .add (.s 10) (.i 1), .mv 10 (.s 34)])
  | 7 => .seq (.reg [.bin 11 .lss (.s 10) (.s 9)]) (.seq (.cond (.s 11) (.skip) (.exit 0)) (.n 6))
  | _ => .skip
def body : C := .seq (.reg [.mv 2 (.i 0)]) (.seq (.seq (.reg [.mv 8 (.s 0), .len 9 (.s 8), .mv 10 (.i 0)]) (.blk 0 (.loop (.n 5)))) (.n 4))
def rs : List RV := [.t 2]
attribute [push_cast] nd body
theorem ok : okF prog n_term_CheckSubst nd body 1 rs = true := by kernel_rfl
abbrev L3 (v35 v36 v37 : V) (B : Nat) (H : List Ob) (Q : X → T → List Ob → Prop) : Prop := Run prog nd B [.c (.m 3), .c (.loop (.n 1)), .mk 2, .c (.n 0)] [(35, v35), (36, v36), (37, v37)] H Q
theorem G3 {v35 v36 v37 : V} {B : Nat} {H : List Ob} {Q : X → T → List Ob → Prop} (h : Run prog nd B [.c (nd 3), .c (.loop (.n 1)), .mk 2, .c (.n 0)] [(35, v35), (36, v36), (37, v37)] H Q) : L3 v35 v36 v37 B H Q := run_m.2 h
abbrev L7 (v0 v8 v9 v10 : V) (B : Nat) (H : List Ob) (Q : X → T → List Ob → Prop) : Prop := Run prog nd B [.c (.m 7), .c (.loop (.n 5)), .mk 0, .c (.n 4)] [(0, v0), (8, v8), (9, v9), (10, v10)] H Q
theorem G7 {v0 v8 v9 v10 : V} {B : Nat} {H : List Ob} {Q : X → T → List Ob → Prop} (h : Run prog nd B [.c (nd 7), .c (.loop (.n 5)), .mk 0, .c (.n 4)] [(0, v0), (8, v8), (9, v9), (10, v10)] H Q) : L7 v0 v8 v9 v10 B H Q := run_m.2 h
end term_CheckSubst
namespace term_Check
def nd : Nat → C
  | 0 => .seq (.reg [.mv 2 (.i 0)]) (.ret)
  | _ => .skip
def body : C := .seq (.reg [.br 1 t_Term (.s 0), .mv 2 (.i 0)]) (.seq (.blk 0 (.seq (.reg [.la 4 3 (.s 1), .callp (some 5) n_term_formed [(.s 4)], .un 6 .not (.s 5), .mv 3 (.s 6)]) (.cond (.s 3) (.seq (.reg [.mv 2 (.i 4)]) (.ret)) (.seq (.reg [.la 8 3 (.s 1), .callp (some 9) n_term_fits [(.s 8)], .un 10 .not (.s 9), .mv 7 (.s 10)]) (.cond (.s 7) (.seq (.reg [.mv 2 (.i 3)]) (.ret)) (.skip)))))) (.n 0))
def rs : List RV := [.t 2]
attribute [push_cast] nd body
theorem ok : okF prog n_term_Check nd body 1 rs = true := by kernel_rfl
end term_Check
namespace term_Instance
def nd : Nat → C
  | 0 => .seq (.reg [.mv 19 (.s 0), .la 20 3 (.s 3), .callp (some 21) n_term_replace [(.s 19), (.s 20)], .st 3 (.s 4) (.s 21), .mv 5 (.i 0)]) (.ret)
  | _ => .skip
def body : C := .seq (.reg [.br 3 t_Term (.s 1), .al 4 t_Term [.str [], .bool false, .sl 3 []], .mv 5 (.i 0)]) (.seq (.seq (.reg [.mv 7 (.s 0), .la 8 3 (.s 3), .callp (some 9) n_term_measure [(.s 7), (.s 8)], .al 6 t_term_meter [.int .i64 0, .int .i64 0], .sf 6 2 (.s 9)]) (.seq (.reg [.fa 10 0 (.s 6), .ld 11 (.s 10), .bin 12 .gtr (.s 11) (.i 4000), .mv 13 (.s 12), .gd (.s 13) false [14, 15, 16] [.fa 14 1 (.s 6), .ld 15 (.s 14), .bin 16 .gtr (.s 15) (.i 200)], .pick 17 (.s 13) (.c (.bool true)) (.s 16)]) (.cond (.s 17) (.seq (.reg [.bd 18 [.str [], .bool false, .sl 3 []] [], .st 3 (.s 4) (.s 18), .mv 5 (.i 3)]) (.ret)) (.skip)))) (.n 0))
def rs : List RV := [.a 4 3, .t 5]
attribute [push_cast] nd body
theorem ok : okF prog n_term_Instance nd body 2 rs = true := by kernel_rfl
end term_Instance
namespace slices_EqualFunc_s_Term_s_Term_Term_Term
def nd : Nat → C
  | 0 => .seq (.reg [.mv 6 (.c (.bool true))]) (.ret)
  | 1 => .gh [.ks 0 [1, 2, 15, 16, 17]] (.m 3)
  | 2 => .seq (.blk 1 (.seq (.reg [.mv 19 (.s 17), .ia 20 3 (.s 15) (.s 17), .la 21 3 (.s 20), .al 8 t_Term [.str [], .bool false, .sl 3 []], .mv 7 (.s 19), .sf 8 3 (.s 21)]) (.seq (.reg [.mv 22 (.s 1), .mv 23 (.s 7), .ia 24 3 (.s 22) (.s 23), .la 25 3 (.s 24), .al 9 t_Term [.str [], .bool false, .sl 3 []], .sf 9 3 (.s 25)]) (.seq (.reg [.mv 26 (.s 2), .la 27 3 (.s 8), .la 28 3 (.s 9), .callvp (some 29) (.s 26) [(.s 27), (.s 28)], .un 30 .not (.s 29)]) (.cond (.s 30) (.seq (.reg [.mv 6 (.c (.bool false))]) (.ret)) (.skip)))))) (.reg [.bin 31 .add (.s 17) (.i 1), .mv 17 (.s 31)])
  | 3 => .seq (.reg [.bin 18 .lss (.s 17) (.s 16)]) (.seq (.cond (.s 18) (.skip) (.exit 0)) (.n 2))
  | 4 => .seq (.seq (.reg [.mv 15 (.s 0), .len 16 (.s 15), .mv 17 (.i 0)]) (.blk 0 (.loop (.n 1)))) (.n 0)
  | _ => .skip
def body : C := .seq (.reg [.mv 6 (.c (.bool false))]) (.seq (.seq (.reg [.mv 10 (.s 0), .len 11 (.s 10), .mv 12 (.s 1), .len 13 (.s 12), .bin 14 .neq (.s 11) (.s 13)]) (.cond (.s 14) (.seq (.reg [.mv 6 (.c (.bool false))]) (.ret)) (.skip))) (.n 4))
def rs : List RV := [.t 6]
attribute [push_cast] nd body
theorem ok : okF prog n_slices_EqualFunc_s_Term_s_Term_Term_Term nd body 3 rs = true := by kernel_rfl
abbrev L3 (v1 v2 v15 v16 v17 : V) (B : Nat) (H : List Ob) (Q : X → T → List Ob → Prop) : Prop := Run prog nd B [.c (.m 3), .c (.loop (.n 1)), .mk 0, .c (.n 0)] [(1, v1), (2, v2), (15, v15), (16, v16), (17, v17)] H Q
theorem G3 {v1 v2 v15 v16 v17 : V} {B : Nat} {H : List Ob} {Q : X → T → List Ob → Prop} (h : Run prog nd B [.c (nd 3), .c (.loop (.n 1)), .mk 0, .c (.n 0)] [(1, v1), (2, v2), (15, v15), (16, v16), (17, v17)] H Q) : L3 v1 v2 v15 v16 v17 B H Q := run_m.2 h
end slices_EqualFunc_s_Term_s_Term_Term_Term
namespace rewrite_Do
def nd : Nat → C
  | 0 => .seq (.reg [.la 37 3 (.s 4), .fa 38 1 (.s 5), .ld 39 (.s 38), .la 40 3 (.s 10), .callp (some 41) n_term_Set [(.s 37), (.s 39), (.s 40)], .callp (some 42) n_term_Fit [(.s 41)], .ex 43 (.s 42) 0, .ex 44 (.s 42) 1, .st 3 (.s 6) (.s 43), .mv 7 (.s 44)]) (.ret)
  | 1 => .seq (.reg [.mv 23 (.s 8), .mv 24 (.s 0), .fa 25 0 (.s 5), .ld 26 (.s 25), .ia 27 6 (.s 24) (.s 26), .fa 28 3 (.s 27), .la 29 3 (.s 28), .callp (some 30) n_term_Instance [(.s 23), (.s 29)], .mv 22 (.s 30), .ex 31 (.s 22) 0, .ex 32 (.s 22) 1, .al 10 t_Term [.str [], .bool false, .sl 3 []], .sf 10 3 (.s 31), .mv 9 (.s 32)]) (.seq (.seq (.reg [.mv 33 (.s 9), .bin 34 .neq (.s 33) (.i 0)]) (.cond (.s 34) (.seq (.reg [.bd 35 [.str [], .bool false, .sl 3 []] [], .mv 36 (.s 9), .st 3 (.s 6) (.s 35), .mv 7 (.s 36)]) (.ret)) (.skip))) (.n 0))
  | _ => .skip
def body : C := .seq (.reg [.br 4 t_Term (.s 1), .br 5 t_Step (.s 2), .al 6 t_Term [.str [], .bool false, .sl 3 []], .mv 7 (.i 0)]) (.seq (.reg [.mv 12 (.s 0), .la 13 3 (.s 4), .la 14 2 (.s 5), .callp (some 15) n_rewrite_find [(.s 12), (.s 13), (.s 14)], .mv 11 (.s 15), .ex 16 (.s 11) 0, .ex 17 (.s 11) 1, .mv 8 (.s 16), .mv 9 (.s 17)]) (.seq (.seq (.reg [.mv 18 (.s 9), .bin 19 .neq (.s 18) (.i 0)]) (.cond (.s 19) (.seq (.reg [.bd 20 [.str [], .bool false, .sl 3 []] [], .mv 21 (.s 9), .st 3 (.s 6) (.s 20), .mv 7 (.s 21)]) (.ret)) (.skip))) (.n 1)))
def rs : List RV := [.a 6 3, .t 7]
attribute [push_cast] nd body
theorem ok : okF prog n_rewrite_Do nd body 3 rs = true := by kernel_rfl
end rewrite_Do
namespace r04_Step
def nd : Nat → C
  | 0 => .seq (.dr [0, 1, 2, 3, 4, 5, 6, 7, 8, 9, 10, 11, 12, 13] [.la 50 3 (.s 4), .fa 51 1 (.s 5), .ld 52 (.s 51), .mv 53 (.s 8), .mv 54 (.s 0), .fa 55 0 (.s 5), .ld 56 (.s 55), .ia 57 6 (.s 54) (.s 56), .fa 58 3 (.s 57), .la 59 3 (.s 58), .callp (some 60) n_r01_Apply [(.s 53), (.s 59)], .callp (some 61) n_r01_Put [(.s 50), (.s 52), (.s 60)], .st 3 (.s 6) (.s 61), .mv 7 (.i 0)]) (.ret)
  | 1 => .seq (.reg [.mv 24 (.s 8), .mv 25 (.s 0), .fa 26 0 (.s 5), .ld 27 (.s 26), .ia 28 6 (.s 25) (.s 27), .fa 29 3 (.s 28), .la 30 3 (.s 29), .callp (some 31) n_r01_Grown [(.s 24), (.s 30)], .mv 23 (.s 31), .ex 32 (.s 23) 0, .ex 33 (.s 23) 1, .mv 10 (.s 32), .mv 11 (.s 33)]) (.seq (.reg [.la 35 3 (.s 4), .fa 36 1 (.s 5), .ld 37 (.s 36), .mv 38 (.s 10), .mv 39 (.s 11), .callp (some 40) n_r04_replaced [(.s 35), (.s 37), (.s 38), (.s 39)], .mv 34 (.s 40), .ex 41 (.s 34) 0, .ex 42 (.s 34) 1, .mv 10 (.s 41), .mv 11 (.s 42)]) (.seq (.seq (.reg [.mv 43 (.s 10), .bin 44 .gtr (.s 43) (.i 4000), .mv 45 (.s 44), .gd (.s 45) false [46, 47] [.mv 46 (.s 11), .bin 47 .gtr (.s 46) (.i 200)], .pick 48 (.s 45) (.c (.bool true)) (.s 47)]) (.cond (.s 48) (.seq (.reg [.bd 49 [.str [], .bool false, .sl 3 []] [], .st 3 (.s 6) (.s 49), .mv 7 (.i 3)]) (.ret)) (.skip))) (.n 0)))
  | _ => .skip
def body : C := .seq (.reg [.br 4 t_Term (.s 1), .br 5 t_Step (.s 2), .al 6 t_Term [.str [], .bool false, .sl 3 []], .mv 7 (.i 0)]) (.seq (.reg [.mv 13 (.s 0), .la 14 3 (.s 4), .la 15 2 (.s 5), .callp (some 16) n_r04_Subst [(.s 13), (.s 14), (.s 15)], .mv 12 (.s 16), .ex 17 (.s 12) 0, .ex 18 (.s 12) 1, .mv 8 (.s 17), .mv 9 (.s 18)]) (.seq (.seq (.reg [.mv 19 (.s 9), .bin 20 .neq (.s 19) (.i 0)]) (.cond (.s 20) (.seq (.reg [.bd 21 [.str [], .bool false, .sl 3 []] [], .mv 22 (.s 9), .st 3 (.s 6) (.s 21), .mv 7 (.s 22)]) (.ret)) (.skip))) (.n 1)))
def rs : List RV := [.a 6 3, .t 7]
attribute [push_cast] nd body
theorem ok : okF prog n_r04_Step nd body 3 rs = true := by kernel_rfl
end r04_Step
namespace r04_SameSteps
def nd : Nat → C
  | 0 => .seq (.reg [.mv 4 (.c (.bool true))]) (.ret)
  | 1 => .gh [.ks 0 [0, 1, 12, 13]] (.m 3)
  | 2 => .seq (.blk 1 (.seq (.reg [.mv 15 (.s 13), .mv 5 (.s 15)]) (.seq (.dr [0, 1, 2, 3, 4, 5, 6, 7, 8, 9, 10, 11, 12, 13, 14, 15, 16, 17, 18, 19, 20, 21, 22, 23, 24] [.mv 16 (.s 0), .mv 17 (.s 5), .ia 18 2 (.s 16) (.s 17), .fa 19 0 (.s 18), .ld 20 (.s 19), .mv 21 (.s 1), .mv 22 (.s 5), .ia 23 2 (.s 21) (.s 22), .fa 24 0 (.s 23), .ld 25 (.s 24), .bin 26 .neq (.s 20) (.s 25), .mv 27 (.s 26), .gd (.s 27) false [28] [.mv 28 (.s 0)], .gd (.s 27) false [29] [.mv 29 (.s 5)], .gd (.s 27) false [30] [.ia 30 2 (.s 28) (.s 29)], .gd (.s 27) false [31] [.fa 31 1 (.s 30)], .gd (.s 27) false [32] [.ld 32 (.s 31)], .gd (.s 27) false [33] [.mv 33 (.s 1)], .gd (.s 27) false [34] [.mv 34 (.s 5)], .gd (.s 27) false [35] [.ia 35 2 (.s 33) (.s 34)], .gd (.s 27) false [36] [.fa 36 1 (.s 35)], .gd (.s 27) false [37] [.ld 37 (.s 36)], .gd (.s 27) false [38] [.callp (some 38) n_r01_SamePos [(.s 32), (.s 37)]], .gd (.s 27) false [39] [.un 39 .not (.s 38)], .pick 40 (.s 27) (.c (.bool true)) (.s 39)]) (.cond (.s 40) (.seq (.reg [.mv 4 (.c (.bool false))]) (.ret)) (.skip))))) (.reg [.bin 41 .add (.s 13) (.i 1), .mv 13 (.s 41)])
  | 3 => .seq (.reg [.bin 14 .lss (.s 13) (.s 12)]) (.seq (.cond (.s 14) (.skip) (.exit 0)) (.n 2))
  | 4 => .seq (.seq (.reg [.mv 11 (.s 0), .len 12 (.s 11), .mv 13 (.i 0)]) (.blk 0 (.loop (.n 1)))) (.n 0)
  | _ => .skip
def body : C := .seq (.reg [.mv 4 (.c (.bool false))]) (.seq (.seq (.reg [.mv 6 (.s 0), .len 7 (.s 6), .mv 8 (.s 1), .len 9 (.s 8), .bin 10 .neq (.s 7) (.s 9)]) (.cond (.s 10) (.seq (.reg [.mv 4 (.c (.bool false))]) (.ret)) (.skip))) (.n 4))
def rs : List RV := [.t 4]
attribute [push_cast] nd body
theorem ok : okF prog n_r04_SameSteps nd body 2 rs = true := by kernel_rfl
abbrev L3 (v0 v1 v12 v13 : V) (B : Nat) (H : List Ob) (Q : X → T → List Ob → Prop) : Prop := Run prog nd B [.c (.m 3), .c (.loop (.n 1)), .mk 0, .c (.n 0)] [(0, v0), (1, v1), (12, v12), (13, v13)] H Q
theorem G3 {v0 v1 v12 v13 : V} {B : Nat} {H : List Ob} {Q : X → T → List Ob → Prop} (h : Run prog nd B [.c (nd 3), .c (.loop (.n 1)), .mk 0, .c (.n 0)] [(0, v0), (1, v1), (12, v12), (13, v13)] H Q) : L3 v0 v1 v12 v13 B H Q := run_m.2 h
end r04_SameSteps
namespace r02_System
def nd : Nat → C
  | 0 => .seq (.reg [.mv 63 (.s 6), .mv 2 (.s 63), .mv 3 (.i 0), .mv 4 (.i 0)]) (.ret)
  | 1 => .seq (.seq (.reg [.mv 58 (.s 6), .callp (some 59) n_r01_CheckSystem [(.s 58)], .mv 8 (.s 59)]) (.seq (.reg [.mv 60 (.s 8), .bin 61 .neq (.s 60) (.i 0)]) (.cond (.s 61) (.seq (.reg [.mv 62 (.s 8), .mv 2 (.c (.sl 6 [])), .mv 3 (.i 0), .mv 4 (.s 62)]) (.ret)) (.skip)))) (.n 0)
  | 2 => .seq (.reg [.mv 47 (.s 5), .call (some 48) n_r02_parser_end [(.s 47)]]) (.seq (.seq (.reg [.mv 49 (.s 5), .nc 50 (.s 49), .fa 51 3 (.s 50), .ld 52 (.s 51), .bin 53 .geq (.s 52) (.i 0)]) (.cond (.s 53) (.seq (.dr [0, 1, 2, 3, 4, 5, 6] [.mv 54 (.s 5), .nc 55 (.s 54), .fa 56 3 (.s 55), .ld 57 (.s 56), .mv 2 (.c (.sl 6 [])), .mv 3 (.s 57), .mv 4 (.i 4)]) (.ret)) (.skip))) (.n 1))
  | 3 => .gh [.ks 3 [5, 6]] (.m 5)
  | 4 => .blk 1 (.seq (.reg [.mv 35 (.s 5), .call (some 36) n_r02_parser_term [(.s 35)], .bd 37 [.str [], .bool false, .sl 3 [], .str [], .bool false, .sl 3 []] [(0, 3, (.s 36))], .al 7 t_Rule [.str [], .bool false, .sl 3 [], .str [], .bool false, .sl 3 []], .st 6 (.s 7) (.s 37)]) (.seq (.reg [.mv 38 (.s 5), .call (some 39) n_r02_parser_take [(.s 38), (.c (.str [45, 62]))]]) (.seq (.reg [.mv 40 (.s 5), .call (some 41) n_r02_parser_term [(.s 40)], .fa 42 3 (.s 7), .st 3 (.s 42) (.s 41)]) (.reg [.mv 43 (.s 6), .la 44 6 (.s 7), .bs 45 6 [(.s 44)], .app 46 t_Rule 6 96 (.s 43) (.s 45), .mv 6 (.s 46)]))))
  | 5 => .seq (.seq (.reg [.mv 25 (.s 5), .nc 26 (.s 25), .fa 27 3 (.s 26), .ld 28 (.s 27), .bin 29 .lss (.s 28) (.i 0), .mv 30 (.s 29), .gd (.s 30) true [31, 32, 33] [.mv 31 (.s 5), .call (some 32) n_r02_parser_may [(.s 31), (.c (.str [41]))], .un 33 .not (.s 32)], .pick 34 (.s 30) (.s 33) (.c (.bool false))]) (.cond (.s 34) (.skip) (.exit 0))) (.n 4)
  | 6 => .seq (.reg [.mv 23 (.s 5), .call (some 24) n_r02_parser_take [(.s 23), (.c (.str [82, 85, 76, 69, 83]))]]) (.seq (.reg [.mv 6 (.c .nil), .non 6 t_Rule 6]) (.seq (.blk 0 (.loop (.n 3))) (.n 2)))
  | 7 => .seq (.reg [.mv 12 (.s 0), .bd 13 [.str [], .int .i64 0, .nil, .int .i64 0] [(0, 1, (.s 12)), (3, 1, (.i (-1)))], .bx 14 t_dwindleref02_parser (.s 13), .ono t_string 1 2 (.s 14), .mv 5 (.s 14)]) (.seq (.reg [.mv 15 (.s 5), .call (some 16) n_r02_parser_take [(.s 15), (.c (.str [40]))]]) (.seq (.seq (.reg [.mv 17 (.s 5), .call (some 18) n_r02_parser_may [(.s 17), (.c (.str [86, 65, 82]))]]) (.cond (.s 18) (.seq (.reg [.mv 19 (.s 5), .call (some 20) n_r02_parser_declare [(.s 19)]]) (.reg [.mv 21 (.s 5), .call (some 22) n_r02_parser_take [(.s 21), (.c (.str [40]))]])) (.skip))) (.n 6)))
  | _ => .skip
def body : C := .seq (.reg [.mv 2 (.c (.sl 6 [])), .mv 3 (.i 0), .mv 4 (.i 0)]) (.seq (.seq (.reg [.mv 9 (.s 0), .lens 10 (.s 9), .bin 11 .gtr (.s 10) (.i 20000)]) (.cond (.s 11) (.seq (.reg [.mv 2 (.c (.sl 6 [])), .mv 3 (.i 0), .mv 4 (.i 3)]) (.ret)) (.skip))) (.n 7))
def rs : List RV := [.t 2, .t 3, .t 4]
attribute [push_cast] nd body
theorem ok : okF prog n_r02_System nd body 1 rs = true := by kernel_rfl
abbrev L5 (v5 v6 : V) (B : Nat) (H : List Ob) (Q : X → T → List Ob → Prop) : Prop := Run prog nd B [.c (.m 5), .c (.loop (.n 3)), .mk 0, .c (.n 2)] [(5, v5), (6, v6)] H Q
theorem G5 {v5 v6 : V} {B : Nat} {H : List Ob} {Q : X → T → List Ob → Prop} (h : Run prog nd B [.c (nd 5), .c (.loop (.n 3)), .mk 0, .c (.n 2)] [(5, v5), (6, v6)] H Q) : L5 v5 v6 B H Q := run_m.2 h
end r02_System
namespace r02_Term
def nd : Nat → C
  | 0 => .seq (.reg [.la 51 3 (.s 10), .st 3 (.s 4) (.s 51), .mv 5 (.i 0), .mv 6 (.i 0)]) (.ret)
  | 1 => .seq (.seq (.reg [.la 45 3 (.s 10), .callp (some 46) n_r01_Check [(.s 45)], .mv 11 (.s 46)]) (.seq (.reg [.mv 47 (.s 11), .bin 48 .neq (.s 47) (.i 0)]) (.cond (.s 48) (.seq (.reg [.bd 49 [.str [], .bool false, .sl 3 []] [], .mv 50 (.s 11), .st 3 (.s 4) (.s 49), .mv 5 (.i 0), .mv 6 (.s 50)]) (.ret)) (.skip)))) (.n 0)
  | 2 => .seq (.reg [.mv 27 (.s 0), .mv 28 (.s 1), .bd 29 [.str [], .int .i64 0, .sl 1 [], .int .i64 0] [(0, 1, (.s 27)), (2, 1, (.s 28)), (3, 1, (.i (-1)))], .bx 30 t_dwindleref02_parser (.s 29), .mv 9 (.s 30)]) (.seq (.reg [.mv 31 (.s 9), .call (some 32) n_r02_parser_term [(.s 31)], .al 10 t_Term [.str [], .bool false, .sl 3 []], .sf 10 3 (.s 32)]) (.seq (.reg [.mv 33 (.s 9), .call (some 34) n_r02_parser_end [(.s 33)]]) (.seq (.seq (.reg [.mv 35 (.s 9), .nc 36 (.s 35), .fa 37 3 (.s 36), .ld 38 (.s 37), .bin 39 .geq (.s 38) (.i 0)]) (.cond (.s 39) (.seq (.dr [0, 1, 2, 3] [.bd 40 [.str [], .bool false, .sl 3 []] [], .mv 41 (.s 9), .nc 42 (.s 41), .fa 43 3 (.s 42), .alt [([4, 5, 6, 7], [.ld 44 (.s 43), .st 3 (.s 4) (.s 40), .mv 5 (.s 44), .mv 6 (.i 4)]), ([5, 4, 6, 7], [.st 3 (.s 4) (.s 40), .ld 44 (.s 43), .mv 5 (.s 44), .mv 6 (.i 4)])]]) (.ret)) (.skip))) (.n 1))))
  | 3 => .gh [.ks 1 [0, 1, 4, 16, 17, 18]] (.m 5)
  | 4 => .seq (.blk 1 (.seq (.reg [.ia 20 1 (.s 16) (.s 18), .ld 21 (.s 20), .mv 8 (.s 21)]) (.seq (.reg [.mv 22 (.s 8), .callp (some 23) n_r01_IsName [(.s 22), (.c (.bool false))], .un 24 .not (.s 23)]) (.cond (.s 24) (.seq (.reg [.bd 25 [.str [], .bool false, .sl 3 []] [], .st 3 (.s 4) (.s 25), .mv 5 (.i 0), .mv 6 (.i 4)]) (.ret)) (.skip))))) (.reg [.bin 26 .add (.s 18) (.i 1), .mv 18 (.s 26)])
  | 5 => .seq (.reg [.bin 19 .lss (.s 18) (.s 17)]) (.seq (.cond (.s 19) (.skip) (.exit 0)) (.n 4))
  | 6 => .seq (.seq (.reg [.mv 16 (.s 1), .len 17 (.s 16), .mv 18 (.i 0)]) (.blk 0 (.loop (.n 3)))) (.n 2)
  | _ => .skip
def body : C := .seq (.reg [.al 4 t_Term [.str [], .bool false, .sl 3 []], .mv 5 (.i 0), .mv 6 (.i 0)]) (.seq (.seq (.reg [.mv 12 (.s 0), .lens 13 (.s 12), .bin 14 .gtr (.s 13) (.i 20000)]) (.cond (.s 14) (.seq (.reg [.bd 15 [.str [], .bool false, .sl 3 []] [], .st 3 (.s 4) (.s 15), .mv 5 (.i 0), .mv 6 (.i 3)]) (.ret)) (.skip))) (.n 6))
def rs : List RV := [.a 4 3, .t 5, .t 6]
attribute [push_cast] nd body
theorem ok : okF prog n_r02_Term nd body 2 rs = true := by kernel_rfl
abbrev L5 (v0 v1 v4 v16 v17 v18 : V) (B : Nat) (H : List Ob) (Q : X → T → List Ob → Prop) : Prop := Run prog nd B [.c (.m 5), .c (.loop (.n 3)), .mk 0, .c (.n 2)] [(0, v0), (1, v1), (4, v4), (16, v16), (17, v17), (18, v18)] H Q
theorem G5 {v0 v1 v4 v16 v17 v18 : V} {B : Nat} {H : List Ob} {Q : X → T → List Ob → Prop} (h : Run prog nd B [.c (nd 5), .c (.loop (.n 3)), .mk 0, .c (.n 2)] [(0, v0), (1, v1), (4, v4), (16, v16), (17, v17), (18, v18)] H Q) : L5 v0 v1 v4 v16 v17 v18 B H Q := run_m.2 h
end r02_Term
namespace rewrite_Both
def nd : Nat → C
  | 0 => .seq (.reg [.la 11 3 (.s 3), .callp (some 12) n_term_Check [(.s 11)], .mv 4 (.s 12)]) (.ret)
  | _ => .skip
def body : C := .seq (.reg [.br 3 t_Term (.s 1), .mv 4 (.i 0)]) (.seq (.seq (.reg [.mv 6 (.s 0), .callp (some 7) n_term_CheckSystem [(.s 6)], .mv 5 (.s 7)]) (.seq (.reg [.mv 8 (.s 5), .bin 9 .neq (.s 8) (.i 0)]) (.cond (.s 9) (.seq (.reg [.mv 10 (.s 5), .mv 4 (.s 10)]) (.ret)) (.skip)))) (.n 0))
def rs : List RV := [.t 4]
attribute [push_cast] nd body
theorem ok : okF prog n_rewrite_Both nd body 2 rs = true := by kernel_rfl
end rewrite_Both
namespace derive_explore
def nd : Nat → C
  | 0 => .seq (.reg [.mv 94 (.s 8), .nc 95 (.s 94), .fa 96 0 (.s 95), .frc 0 (.s 96), .la 97 3 (.s 96), .st 3 (.s 6) (.s 97), .mv 7 (.i 0)]) (.ret)
  | 1 => .gh [.ks 5 [0, 6, 8, 9]] (.m 7)
  | 2 => .gh [.ks 5 [0, 6, 8, 9, 47, 48, 49]] (.m 5)
  | 3 => .seq (.reg [.mv 72 (.s 8), .la 73 3 (.s 12), .call (some 74) n_derive_explorer_add [(.s 72), (.s 73)], .mv 71 (.s 74), .ex 75 (.s 71) 0, .ex 76 (.s 71) 1, .mv 14 (.s 75), .mv 15 (.s 76)]) (.seq (.reg [.mv 77 (.s 15)]) (.cond (.s 77) (.dr [0, 1, 2, 3, 4, 5, 6, 7, 8, 9, 10, 11, 12, 13, 14, 15] [.mv 78 (.s 8), .mv 79 (.s 8), .nc 80 (.s 79), .fa 81 0 (.s 80), .fa 82 1 (.s 81), .ld 83 (.s 82), .mv 84 (.s 9), .mv 85 (.s 14), .la 86 2 (.s 11), .bd 87 [.int .i64 0, .int .i64 0, .int .i64 0, .sl 1 []] [(0, 1, (.s 84)), (1, 1, (.s 85)), (2, 2, (.s 86))], .bs 88 4 [(.s 87)], .app 89 t_Edge 4 48 (.s 83) (.s 88), .nc 90 (.s 78), .fa 91 0 (.s 90), .fa 92 1 (.s 91), .st 1 (.s 92) (.s 89)]) (.skip)))
  | 4 => .seq (.blk 3 (.seq (.reg [.ia 51 2 (.s 47) (.s 49), .la 52 2 (.s 51), .al 11 t_Step [.int .i64 0, .sl 1 []], .sf 11 2 (.s 52)]) (.seq (.dr [0, 1, 2, 3, 4, 5, 6, 7, 8, 9, 10, 11, 12, 13, 14, 15, 16] [.mv 54 (.s 0), .mv 55 (.s 8), .nc 56 (.s 55), .fa 57 0 (.s 56), .fa 58 0 (.s 57), .ld 59 (.s 58), .mv 60 (.s 9), .ia 61 3 (.s 59) (.s 60), .la 62 3 (.s 61), .la 63 2 (.s 11), .callp (some 64) n_rewrite_Do [(.s 54), (.s 62), (.s 63)], .mv 53 (.s 64), .ex 65 (.s 53) 0, .ex 66 (.s 53) 1, .al 12 t_Term [.str [], .bool false, .sl 3 []], .sf 12 3 (.s 65), .mv 13 (.s 66)]) (.seq (.seq (.reg [.mv 67 (.s 13), .bin 68 .neq (.s 67) (.i 0)]) (.cond (.s 68) (.seq (.reg [.bd 69 [.sl 3 [], .sl 4 [], .bool false] [], .mv 70 (.s 13), .st 3 (.s 6) (.s 69), .mv 7 (.s 70)]) (.ret)) (.skip))) (.n 3))))) (.reg [.bin 93 .add (.s 49) (.i 1), .mv 49 (.s 93)])
  | 5 => .seq (.reg [.bin 50 .lss (.s 49) (.s 48)]) (.seq (.cond (.s 50) (.skip) (.exit 2)) (.n 4))
  | 6 => .seq (.blk 1 (.seq (.reg [.mv 38 (.s 0), .mv 39 (.s 8), .nc 40 (.s 39), .fa 41 0 (.s 40), .fa 42 0 (.s 41), .ld 43 (.s 42), .mv 44 (.s 9), .ia 45 3 (.s 43) (.s 44), .la 46 3 (.s 45), .callp (some 47) n_rewrite_All [(.s 38), (.s 46)], .len 48 (.s 47), .mv 49 (.i 0)]) (.blk 2 (.loop (.n 2))))) (.reg [.mv 36 (.s 9), .bin 37 .add (.s 36) (.i 1), .mv 9 (.s 37)])
  | 7 => .seq (.seq (.reg [.mv 28 (.s 9), .mv 29 (.s 8), .nc 30 (.s 29), .fa 31 0 (.s 30), .fa 32 0 (.s 31), .ld 33 (.s 32), .len 34 (.s 33), .bin 35 .lss (.s 28) (.s 34)]) (.cond (.s 35) (.skip) (.exit 0))) (.n 6)
  | _ => .skip
def body : C := .seq (.reg [.br 4 t_Term (.s 1), .al 6 t_Graph [.sl 3 [], .sl 4 [], .bool false], .mv 7 (.i 0)]) (.seq (.reg [.mkm 16, .mv 17 (.s 2), .bd 18 [.nil, .nil, .bool false, .nilm, .int .i64 0] [(3, 1, (.s 16)), (4, 1, (.s 17))], .bx 19 t_derive_explorer (.s 18), .rono t_Term 3 0 (.s 19), .ono t_Edge 4 1 (.s 19), .mv 8 (.s 19)]) (.seq (.reg [.mv 20 (.s 8), .nc 21 (.s 20), .fa 22 0 (.s 21), .fa 23 2 (.s 22), .st 1 (.s 23) (.c (.bool true))]) (.seq (.reg [.mv 24 (.s 8), .la 25 3 (.s 4), .callp (some 26) n_term_Own [(.s 25)], .call (some 27) n_derive_explorer_add [(.s 24), (.s 26)]]) (.seq (.seq (.reg [.mv 9 (.i 0)]) (.blk 0 (.loop (.n 1)))) (.n 0)))))
def rs : List RV := [.a 6 3, .t 7]
attribute [push_cast] nd body
theorem ok : okF prog n_derive_explore nd body 3 rs = true := by kernel_rfl
abbrev L5 (v0 v6 v8 v9 v47 v48 v49 : V) (B : Nat) (H : List Ob) (Q : X → T → List Ob → Prop) : Prop := Run prog nd B [.c (.m 5), .c (.loop (.n 2)), .mk 2, .mk 1, .c (.reg [.mv 36 (.s 9), .bin 37 .add (.s 36) (.i 1), .mv 9 (.s 37)]), .c (.loop (.n 1)), .mk 0, .c (.n 0)] [(0, v0), (6, v6), (8, v8), (9, v9), (47, v47), (48, v48), (49, v49)] H Q
theorem G5 {v0 v6 v8 v9 v47 v48 v49 : V} {B : Nat} {H : List Ob} {Q : X → T → List Ob → Prop} (h : Run prog nd B [.c (nd 5), .c (.loop (.n 2)), .mk 2, .mk 1, .c (.reg [.mv 36 (.s 9), .bin 37 .add (.s 36) (.i 1), .mv 9 (.s 37)]), .c (.loop (.n 1)), .mk 0, .c (.n 0)] [(0, v0), (6, v6), (8, v8), (9, v9), (47, v47), (48, v48), (49, v49)] H Q) : L5 v0 v6 v8 v9 v47 v48 v49 B H Q := run_m.2 h
abbrev L7 (v0 v6 v8 v9 : V) (B : Nat) (H : List Ob) (Q : X → T → List Ob → Prop) : Prop := Run prog nd B [.c (.m 7), .c (.loop (.n 1)), .mk 0, .c (.n 0)] [(0, v0), (6, v6), (8, v8), (9, v9)] H Q
theorem G7 {v0 v6 v8 v9 : V} {B : Nat} {H : List Ob} {Q : X → T → List Ob → Prop} (h : Run prog nd B [.c (nd 7), .c (.loop (.n 1)), .mk 0, .c (.n 0)] [(0, v0), (6, v6), (8, v8), (9, v9)] H Q) : L7 v0 v6 v8 v9 B H Q := run_m.2 h
end derive_explore
namespace term_Walk
def nd (_ : Nat) : C := .skip
def body : C := .seq (.reg [.br 1 t_Term (.s 0), .mv 2 (.c .nilf)]) (.seq (.reg [.mf 3 n_term_Walk_1 [] [(.s 1)], .mv 2 (.s 3)]) (.ret))
def rs : List RV := [.t 2]
attribute [push_cast] nd body
theorem ok : okF prog n_term_Walk nd body 1 rs = true := by kernel_rfl
end term_Walk
namespace unify_Find
def nd (_ : Nat) : C := .skip
def body : C := .seq (.reg [.br 2 t_Term (.s 0), .br 3 t_Term (.s 1), .mv 4 (.c (.sl 4 [])), .mv 5 (.c (.bool false))]) (.seq (.reg [.al 6 t_unify_matcher [.nil], .rono t_Bind 4 0 (.s 6)]) (.seq (.reg [.la 8 3 (.s 2), .la 9 3 (.s 3), .call (some 10) n_unify_matcher_match [(.s 6), (.s 8), (.s 9)], .mv 7 (.s 10)]) (.seq (.reg [.fa 11 0 (.s 6), .ld 12 (.s 11), .frz 12, .mv 13 (.s 7), .mv 4 (.s 12), .mv 5 (.s 13)]) (.ret))))
def rs : List RV := [.t 4, .t 5]
attribute [push_cast] nd body
theorem ok : okF prog n_unify_Find nd body 2 rs = true := by kernel_rfl
end unify_Find
namespace slices_Clone_s_int_int
def nd : Nat → C
  | 0 => .seq (.reg [.bo 5 t_int 1 [], .mv 6 (.s 0), .app 7 t_int 1 8 (.s 5) (.s 6), .mv 2 (.s 7)]) (.ret)
  | _ => .skip
def body : C := .seq (.reg [.mv 2 (.c .nil), .non 2 t_int 1]) (.seq (.seq (.reg [.mv 3 (.s 0), .nl 4 false (.s 3)]) (.cond (.s 4) (.seq (.reg [.mv 2 (.c .nil), .non 2 t_int 1]) (.ret)) (.skip))) (.n 0))
def rs : List RV := [.t 2]
attribute [push_cast] nd body
theorem ok : okF prog n_slices_Clone_s_int_int nd body 1 rs = true := by kernel_rfl
end slices_Clone_s_int_int
namespace slices_IndexFunc_s_Edge_Edge
def nd : Nat → C
  | 0 => .seq (.reg [.mv 4 (.i (-1))]) (.ret)
  | 1 => .gh [.ks 0 [0, 1, 7, 8]] (.m 3)
  | 2 => .seq (.blk 1 (.seq (.reg [.mv 10 (.s 8), .mv 5 (.s 10)]) (.seq (.reg [.mv 11 (.s 1), .mv 12 (.s 0), .mv 13 (.s 5), .ia 14 4 (.s 12) (.s 13), .la 15 4 (.s 14), .callvp (some 16) (.s 11) [(.s 15)]]) (.cond (.s 16) (.seq (.reg [.mv 17 (.s 5), .mv 4 (.s 17)]) (.ret)) (.skip))))) (.reg [.bin 18 .add (.s 8) (.i 1), .mv 8 (.s 18)])
  | 3 => .seq (.reg [.bin 9 .lss (.s 8) (.s 7)]) (.seq (.cond (.s 9) (.skip) (.exit 0)) (.n 2))
  | _ => .skip
def body : C := .seq (.reg [.mv 4 (.i 0)]) (.seq (.seq (.reg [.mv 6 (.s 0), .len 7 (.s 6), .mv 8 (.i 0)]) (.blk 0 (.loop (.n 1)))) (.n 0))
def rs : List RV := [.t 4]
attribute [push_cast] nd body
theorem ok : okF prog n_slices_IndexFunc_s_Edge_Edge nd body 2 rs = true := by kernel_rfl
abbrev L3 (v0 v1 v7 v8 : V) (B : Nat) (H : List Ob) (Q : X → T → List Ob → Prop) : Prop := Run prog nd B [.c (.m 3), .c (.loop (.n 1)), .mk 0, .c (.n 0)] [(0, v0), (1, v1), (7, v7), (8, v8)] H Q
theorem G3 {v0 v1 v7 v8 : V} {B : Nat} {H : List Ob} {Q : X → T → List Ob → Prop} (h : Run prog nd B [.c (nd 3), .c (.loop (.n 1)), .mk 0, .c (.n 0)] [(0, v0), (1, v1), (7, v7), (8, v8)] H Q) : L3 v0 v1 v7 v8 B H Q := run_m.2 h
end slices_IndexFunc_s_Edge_Edge
namespace loop_chain_1
def nd (_ : Nat) : C := .skip
def body : C := .seq (.reg [.br 2 t_Edge (.s 0), .mv 3 (.c (.bool false))]) (.seq (.reg [.fa 4 1 (.s 2), .ld 5 (.s 4), .ld 6 (.s 1), .bin 7 .eql (.s 5) (.s 6), .mv 3 (.s 7)]) (.ret))
def rs : List RV := [.t 3]
attribute [push_cast] nd body
theorem ok : okF prog n_loop_chain_1 nd body 2 rs = true := by kernel_rfl
end loop_chain_1
namespace slices_Reverse_s_Step_Step
def nd : Nat → C
  | 0 => .gh [.ks 0 [0, 2, 3]] (.m 2)
  | 1 => .seq (.blk 1 (.dr [0, 1, 2, 3, 4, 5, 6, 7, 8, 9, 10, 11, 12, 13, 14, 15] [.mv 14 (.s 0), .mv 15 (.s 2), .mv 16 (.s 0), .mv 17 (.s 3), .mv 18 (.s 0), .mv 19 (.s 3), .ia 20 2 (.s 18) (.s 19), .la 21 2 (.s 20), .mv 22 (.s 0), .mv 23 (.s 2), .ia 24 2 (.s 22) (.s 23), .la 25 2 (.s 24), .ia 26 2 (.s 14) (.s 15), .st 2 (.s 26) (.s 21), .ia 27 2 (.s 16) (.s 17), .st 2 (.s 27) (.s 25)])) (.reg [.mv 10 (.s 2), .bin 11 .add (.s 10) (.i 1), .mv 12 (.s 3), .bin 13 .sub (.s 12) (.i 1), .mv 2 (.s 11), .mv 3 (.s 13)])
  | 2 => .seq (.seq (.reg [.mv 7 (.s 2), .mv 8 (.s 3), .bin 9 .lss (.s 7) (.s 8)]) (.cond (.s 9) (.skip) (.exit 0))) (.n 1)
  | _ => .skip
def body : C := .seq (.reg [.mv 4 (.s 0), .len 5 (.s 4), .bin 6 .sub (.s 5) (.i 1), .mv 2 (.i 0), .mv 3 (.s 6)]) (.blk 0 (.loop (.n 0)))
def rs : List RV := []
attribute [push_cast] nd body
theorem ok : okF prog n_slices_Reverse_s_Step_Step nd body 1 rs = true := by kernel_rfl
abbrev L2 (v0 v2 v3 : V) (B : Nat) (H : List Ob) (Q : X → T → List Ob → Prop) : Prop := Run prog nd B [.c (.m 2), .c (.loop (.n 0)), .mk 0] [(0, v0), (2, v2), (3, v3)] H Q
theorem G2 {v0 v2 v3 : V} {B : Nat} {H : List Ob} {Q : X → T → List Ob → Prop} (h : Run prog nd B [.c (nd 2), .c (.loop (.n 0)), .mk 0] [(0, v0), (2, v2), (3, v3)] H Q) : L2 v0 v2 v3 B H Q := run_m.2 h
end slices_Reverse_s_Step_Step
namespace r01_Formed
def nd : Nat → C
  | 0 => .seq (.reg [.mv 2 (.c (.bool true))]) (.ret)
  | 1 => .gh [.ks 0 [27, 28, 29]] (.m 3)
  | 2 => .seq (.blk 1 (.seq (.reg [.ia 31 3 (.s 27) (.s 29), .la 32 3 (.s 31), .al 4 t_Term [.str [], .bool false, .sl 3 []], .sf 4 3 (.s 32)]) (.seq (.reg [.la 33 3 (.s 4), .callp (some 34) n_r01_Formed [(.s 33)], .un 35 .not (.s 34)]) (.cond (.s 35) (.seq (.reg [.mv 2 (.c (.bool false))]) (.ret)) (.skip))))) (.reg [.bin 36 .add (.s 29) (.i 1), .mv 29 (.s 36)])
  | 3 => .seq (.reg [.bin 30 .lss (.s 29) (.s 28)]) (.seq (.cond (.s 30) (.skip) (.exit 0)) (.n 2))
  | 4 => .seq (.seq (.reg [.fa 26 2 (.s 1), .ld 27 (.s 26), .len 28 (.s 27), .mv 29 (.i 0)]) (.blk 0 (.loop (.n 1)))) (.n 0)
  | 5 => .seq (.seq (.reg [.fa 16 0 (.s 1), .ld 17 (.s 16), .callp (some 18) n_r01_IsName [(.s 17), (.c (.bool true))], .un 19 .not (.s 18), .mv 20 (.s 19), .gd (.s 20) false [21, 22, 23, 24] [.fa 21 2 (.s 1), .ld 22 (.s 21), .len 23 (.s 22), .bin 24 .gtr (.s 23) (.i 8)], .pick 25 (.s 20) (.c (.bool true)) (.s 24)]) (.cond (.s 25) (.seq (.reg [.mv 2 (.c (.bool false))]) (.ret)) (.skip))) (.n 4)
  | _ => .skip
def body : C := .seq (.reg [.br 1 t_Term (.s 0), .mv 2 (.c (.bool false))]) (.seq (.seq (.reg [.fa 5 1 (.s 1), .ld 6 (.s 5)]) (.cond (.s 6) (.seq (.reg [.fa 7 0 (.s 1), .ld 8 (.s 7), .callp (some 9) n_r01_IsName [(.s 8), (.c (.bool false))], .mv 10 (.s 9), .gd (.s 10) true [11, 12, 13, 14] [.fa 11 2 (.s 1), .ld 12 (.s 11), .len 13 (.s 12), .bin 14 .eql (.s 13) (.i 0)], .pick 15 (.s 10) (.s 14) (.c (.bool false)), .mv 2 (.s 15)]) (.ret)) (.skip))) (.n 5))
def rs : List RV := [.t 2]
attribute [push_cast] nd body
theorem ok : okF prog n_r01_Formed nd body 1 rs = true := by kernel_rfl
abbrev L3 (v27 v28 v29 : V) (B : Nat) (H : List Ob) (Q : X → T → List Ob → Prop) : Prop := Run prog nd B [.c (.m 3), .c (.loop (.n 1)), .mk 0, .c (.n 0)] [(27, v27), (28, v28), (29, v29)] H Q
theorem G3 {v27 v28 v29 : V} {B : Nat} {H : List Ob} {Q : X → T → List Ob → Prop} (h : Run prog nd B [.c (nd 3), .c (.loop (.n 1)), .mk 0, .c (.n 0)] [(27, v27), (28, v28), (29, v29)] H Q) : L3 v27 v28 v29 B H Q := run_m.2 h
end r01_Formed
namespace r01_Size
def nd : Nat → C
  | 0 => .seq (.reg [.mv 18 (.s 3), .mv 2 (.s 18)]) (.ret)
  | 1 => .gh [.ks 0 [3, 7, 8, 9]] (.m 3)
  | 2 => .seq (.blk 1 (.seq (.reg [.ia 11 3 (.s 7) (.s 9), .la 12 3 (.s 11), .al 5 t_Term [.str [], .bool false, .sl 3 []], .sf 5 3 (.s 12)]) (.reg [.mv 13 (.s 3), .la 14 3 (.s 5), .callp (some 15) n_r01_Size [(.s 14)], .bin 16 .add (.s 13) (.s 15), .mv 3 (.s 16)]))) (.reg [.bin 17 .add (.s 9) (.i 1), .mv 9 (.s 17)])
  | 3 => .seq (.reg [.bin 10 .lss (.s 9) (.s 8)]) (.seq (.cond (.s 10) (.skip) (.exit 0)) (.n 2))
  | _ => .skip
def body : C := .seq (.reg [.br 1 t_Term (.s 0), .mv 2 (.i 0)]) (.seq (.reg [.mv 3 (.i 1)]) (.seq (.seq (.reg [.fa 6 2 (.s 1), .ld 7 (.s 6), .len 8 (.s 7), .mv 9 (.i 0)]) (.blk 0 (.loop (.n 1)))) (.n 0)))
def rs : List RV := [.t 2]
attribute [push_cast] nd body
theorem ok : okF prog n_r01_Size nd body 1 rs = true := by kernel_rfl
abbrev L3 (v3 v7 v8 v9 : V) (B : Nat) (H : List Ob) (Q : X → T → List Ob → Prop) : Prop := Run prog nd B [.c (.m 3), .c (.loop (.n 1)), .mk 0, .c (.n 0)] [(3, v3), (7, v7), (8, v8), (9, v9)] H Q
theorem G3 {v3 v7 v8 v9 : V} {B : Nat} {H : List Ob} {Q : X → T → List Ob → Prop} (h : Run prog nd B [.c (nd 3), .c (.loop (.n 1)), .mk 0, .c (.n 0)] [(3, v3), (7, v7), (8, v8), (9, v9)] H Q) : L3 v3 v7 v8 v9 B H Q := run_m.2 h
end r01_Size
namespace r01_Depth
def nd : Nat → C
  | 0 => .seq (.reg [.mv 18 (.s 3), .bin 19 .add (.s 18) (.i 1), .mv 2 (.s 19)]) (.ret)
  | 1 => .gh [.ks 0 [3, 7, 8, 9]] (.m 3)
  | 2 => .seq (.blk 1 (.seq (.reg [.ia 11 3 (.s 7) (.s 9), .la 12 3 (.s 11), .al 5 t_Term [.str [], .bool false, .sl 3 []], .sf 5 3 (.s 12)]) (.reg [.mv 13 (.s 3), .la 14 3 (.s 5), .callp (some 15) n_r01_Depth [(.s 14)], .mx 16 (.s 13) (.s 15), .mv 3 (.s 16)]))) (.reg [.bin 17 .add (.s 9) (.i 1), .mv 9 (.s 17)])
  | 3 => .seq (.reg [.bin 10 .lss (.s 9) (.s 8)]) (.seq (.cond (.s 10) (.skip) (.exit 0)) (.n 2))
  | _ => .skip
def body : C := .seq (.reg [.br 1 t_Term (.s 0), .mv 2 (.i 0)]) (.seq (.reg [.mv 3 (.i 0)]) (.seq (.seq (.reg [.fa 6 2 (.s 1), .ld 7 (.s 6), .len 8 (.s 7), .mv 9 (.i 0)]) (.blk 0 (.loop (.n 1)))) (.n 0)))
def rs : List RV := [.t 2]
attribute [push_cast] nd body
theorem ok : okF prog n_r01_Depth nd body 1 rs = true := by kernel_rfl
abbrev L3 (v3 v7 v8 v9 : V) (B : Nat) (H : List Ob) (Q : X → T → List Ob → Prop) : Prop := Run prog nd B [.c (.m 3), .c (.loop (.n 1)), .mk 0, .c (.n 0)] [(3, v3), (7, v7), (8, v8), (9, v9)] H Q
theorem G3 {v3 v7 v8 v9 : V} {B : Nat} {H : List Ob} {Q : X → T → List Ob → Prop} (h : Run prog nd B [.c (nd 3), .c (.loop (.n 1)), .mk 0, .c (.n 0)] [(3, v3), (7, v7), (8, v8), (9, v9)] H Q) : L3 v3 v7 v8 v9 B H Q := run_m.2 h
end r01_Depth
namespace r04_Redexes
def nd : Nat → C
  | 0 => .seq (.reg [.mv 63 (.s 8), .mv 6 (.s 63)]) (.ret)
  | 1 => .gh [.ks 1 [2, 7, 8, 15, 16, 17]] (.m 7)
  | 2 => .seq (.reg [.mv 57 (.s 11)]) (.cond (.s 57) (.reg [.mv 58 (.s 8), .la 59 2 (.s 10), .bs 60 2 [(.s 59)], .app 61 t_Step 2 32 (.s 58) (.s 60), .mv 8 (.s 61)]) (.skip))
  | 3 => .seq (.seq (.dr [0, 1, 2, 3, 4, 5, 6, 7, 8, 9, 10, 11, 12, 13, 14, 15, 16, 17, 18, 19, 20] [.mv 36 (.s 2), .bin 37 .eql (.s 36) (.i 4), .mv 38 (.s 37), .gd (.s 38) false [39] [.mv 39 (.s 2)], .gd (.s 38) false [40] [.bin 40 .eql (.s 39) (.i 5)], .pick 41 (.s 38) (.c (.bool true)) (.s 40), .mv 42 (.s 41), .gd (.s 42) true [43] [.mv 43 (.s 8)], .gd (.s 42) true [44] [.len 44 (.s 43)], .gd (.s 42) true [45] [.bin 45 .gtr (.s 44) (.i 0)], .pick 46 (.s 42) (.s 45) (.c (.bool false)), .mv 47 (.s 46), .gd (.s 47) true [48] [.mv 48 (.s 8)], .gd (.s 47) true [49] [.ia 49 2 (.s 48) (.i 0)], .gd (.s 47) true [50] [.fa 50 1 (.s 49)], .gd (.s 47) true [51] [.ld 51 (.s 50)], .gd (.s 47) true [52] [.fa 52 1 (.s 10)], .gd (.s 47) true [53] [.ld 53 (.s 52)], .gd (.s 47) true [54] [.callp (some 54) n_r01_SamePos [(.s 51), (.s 53)]], .gd (.s 47) true [55] [.un 55 .not (.s 54)], .pick 56 (.s 47) (.s 55) (.c (.bool false))]) (.cond (.s 56) (.reg [.mv 11 (.c (.bool false))]) (.skip))) (.n 2)
  | 4 => .cond (.s 29) (.reg [.mv 32 (.s 7), .fa 33 1 (.s 10), .ld 34 (.s 33), .callp (some 35) n_r04_outer [(.s 32), (.s 34)], .mv 11 (.s 35)]) (.skip)
  | 5 => .cond (.s 22) (.reg [.mv 25 (.s 7), .fa 26 1 (.s 10), .ld 27 (.s 26), .callp (some 28) n_r04_inner [(.s 25), (.s 27)], .mv 11 (.s 28)]) (.seq (.seq (.reg [.bin 30 .eql (.s 21) (.i 3), .mv 29 (.s 30)]) (.cond (.s 29) (.skip) (.reg [.bin 31 .eql (.s 21) (.i 5), .mv 29 (.s 31)]))) (.n 4))
  | 6 => .seq (.blk 1 (.seq (.reg [.ia 19 2 (.s 15) (.s 17), .la 20 2 (.s 19), .al 10 t_Step [.int .i64 0, .sl 1 []], .sf 10 2 (.s 20)]) (.seq (.reg [.mv 11 (.c (.bool true))]) (.seq (.seq (.reg [.mv 21 (.s 2)]) (.blk 2 (.seq (.seq (.reg [.bin 23 .eql (.s 21) (.i 2), .mv 22 (.s 23)]) (.cond (.s 22) (.skip) (.reg [.bin 24 .eql (.s 21) (.i 4), .mv 22 (.s 24)]))) (.n 5)))) (.n 3))))) (.reg [.bin 62 .add (.s 17) (.i 1), .mv 17 (.s 62)])
  | 7 => .seq (.reg [.bin 18 .lss (.s 17) (.s 16)]) (.seq (.cond (.s 18) (.skip) (.exit 0)) (.n 6))
  | _ => .skip
def body : C := .seq (.reg [.br 4 t_Term (.s 1), .mv 6 (.c (.sl 2 []))]) (.seq (.reg [.mv 12 (.s 0), .la 13 3 (.s 4), .callp (some 14) n_r04_all [(.s 12), (.s 13)], .mv 7 (.s 14)]) (.seq (.reg [.mv 8 (.c .nil), .non 8 t_Step 2]) (.seq (.seq (.reg [.mv 15 (.s 7), .len 16 (.s 15), .mv 17 (.i 0)]) (.blk 0 (.loop (.n 1)))) (.n 0))))
def rs : List RV := [.t 6]
attribute [push_cast] nd body
theorem ok : okF prog n_r04_Redexes nd body 3 rs = true := by kernel_rfl
abbrev L7 (v2 v7 v8 v15 v16 v17 : V) (B : Nat) (H : List Ob) (Q : X → T → List Ob → Prop) : Prop := Run prog nd B [.c (.m 7), .c (.loop (.n 1)), .mk 0, .c (.n 0)] [(2, v2), (7, v7), (8, v8), (15, v15), (16, v16), (17, v17)] H Q
theorem G7 {v2 v7 v8 v15 v16 v17 : V} {B : Nat} {H : List Ob} {Q : X → T → List Ob → Prop} (h : Run prog nd B [.c (nd 7), .c (.loop (.n 1)), .mk 0, .c (.n 0)] [(2, v2), (7, v7), (8, v8), (15, v15), (16, v16), (17, v17)] H Q) : L7 v2 v7 v8 v15 v16 v17 B H Q := run_m.2 h
end r04_Redexes
namespace r05_Find
def nd : Nat → C
  | 0 => .seq (.reg [.mv 4 (.i (-1))]) (.ret)
  | 1 => .gh [.ks 0 [0, 3, 7, 8]] (.m 3)
  | 2 => .seq (.blk 1 (.seq (.reg [.mv 10 (.s 8), .mv 5 (.s 10)]) (.seq (.dr [0, 1, 2, 3, 4, 5] [.mv 11 (.s 0), .mv 12 (.s 5), .ia 13 3 (.s 11) (.s 12), .la 14 3 (.s 13), .la 15 3 (.s 3), .callp (some 16) n_r01_Equal [(.s 14), (.s 15)]]) (.cond (.s 16) (.seq (.reg [.mv 17 (.s 5), .mv 4 (.s 17)]) (.ret)) (.skip))))) (.reg [.bin 18 .add (.s 8) (.i 1), .mv 8 (.s 18)])
  | 3 => .seq (.reg [.bin 9 .lss (.s 8) (.s 7)]) (.seq (.cond (.s 9) (.skip) (.exit 0)) (.n 2))
  | _ => .skip
def body : C := .seq (.reg [.br 3 t_Term (.s 1), .mv 4 (.i 0)]) (.seq (.seq (.reg [.mv 6 (.s 0), .len 7 (.s 6), .mv 8 (.i 0)]) (.blk 0 (.loop (.n 1)))) (.n 0))
def rs : List RV := [.t 4]
attribute [push_cast] nd body
theorem ok : okF prog n_r05_Find nd body 2 rs = true := by kernel_rfl
abbrev L3 (v0 v3 v7 v8 : V) (B : Nat) (H : List Ob) (Q : X → T → List Ob → Prop) : Prop := Run prog nd B [.c (.m 3), .c (.loop (.n 1)), .mk 0, .c (.n 0)] [(0, v0), (3, v3), (7, v7), (8, v8)] H Q
theorem G3 {v0 v3 v7 v8 : V} {B : Nat} {H : List Ob} {Q : X → T → List Ob → Prop} (h : Run prog nd B [.c (nd 3), .c (.loop (.n 1)), .mk 0, .c (.n 0)] [(0, v0), (3, v3), (7, v7), (8, v8)] H Q) : L3 v0 v3 v7 v8 B H Q := run_m.2 h
end r05_Find
namespace r01_Positions
def nd : Nat → C
  | 0 => .seq (.reg [.mv 34 (.s 3), .mv 2 (.s 34)]) (.ret)
  | 1 => .gh [.ks 1 [3, 11, 12, 13]] (.m 6)
  | 2 => .gh [.ks 2 [3, 4, 11, 12, 13, 19, 20, 21]] (.m 4)
  | 3 => .seq (.blk 3 (.seq (.reg [.ia 23 1 (.s 19) (.s 21), .ld 24 (.s 23), .mv 7 (.s 24)]) (.reg [.mv 25 (.s 3), .mv 26 (.s 4), .bo 27 t_int 1 [(.s 26)], .mv 28 (.s 7), .app 29 t_int 1 8 (.s 27) (.s 28), .bs 30 1 [(.s 29)], .app 31 t_s_int 1 24 (.s 25) (.s 30), .mv 3 (.s 31)]))) (.reg [.bin 32 .add (.s 21) (.i 1), .mv 21 (.s 32)])
  | 4 => .seq (.reg [.bin 22 .lss (.s 21) (.s 20)]) (.seq (.cond (.s 22) (.skip) (.exit 2)) (.n 3))
  | 5 => .seq (.blk 1 (.seq (.reg [.mv 15 (.s 13), .ia 16 3 (.s 11) (.s 13), .la 17 3 (.s 16), .al 5 t_Term [.str [], .bool false, .sl 3 []], .mv 4 (.s 15), .sf 5 3 (.s 17)]) (.seq (.reg [.la 18 3 (.s 5), .callp (some 19) n_r01_Positions [(.s 18)], .len 20 (.s 19), .mv 21 (.i 0)]) (.blk 2 (.loop (.n 2)))))) (.reg [.bin 33 .add (.s 13) (.i 1), .mv 13 (.s 33)])
  | 6 => .seq (.reg [.bin 14 .lss (.s 13) (.s 12)]) (.seq (.cond (.s 14) (.skip) (.exit 0)) (.n 5))
  | _ => .skip
def body : C := .seq (.reg [.br 1 t_Term (.s 0), .mv 2 (.c (.sl 1 []))]) (.seq (.reg [.bs 8 1 [], .bo 9 t_s_int 1 [(.s 8)], .mv 3 (.s 9)]) (.seq (.seq (.reg [.fa 10 2 (.s 1), .ld 11 (.s 10), .len 12 (.s 11), .mv 13 (.i 0)]) (.blk 0 (.loop (.n 1)))) (.n 0)))
def rs : List RV := [.t 2]
attribute [push_cast] nd body
theorem ok : okF prog n_r01_Positions nd body 1 rs = true := by kernel_rfl
abbrev L4 (v3 v4 v11 v12 v13 v19 v20 v21 : V) (B : Nat) (H : List Ob) (Q : X → T → List Ob → Prop) : Prop := Run prog nd B [.c (.m 4), .c (.loop (.n 2)), .mk 2, .mk 1, .c (.reg [.bin 33 .add (.s 13) (.i 1), .mv 13 (.s 33)]), .c (.loop (.n 1)), .mk 0, .c (.n 0)] [(3, v3), (4, v4), (11, v11), (12, v12), (13, v13), (19, v19), (20, v20), (21, v21)] H Q
theorem G4 {v3 v4 v11 v12 v13 v19 v20 v21 : V} {B : Nat} {H : List Ob} {Q : X → T → List Ob → Prop} (h : Run prog nd B [.c (nd 4), .c (.loop (.n 2)), .mk 2, .mk 1, .c (.reg [.bin 33 .add (.s 13) (.i 1), .mv 13 (.s 33)]), .c (.loop (.n 1)), .mk 0, .c (.n 0)] [(3, v3), (4, v4), (11, v11), (12, v12), (13, v13), (19, v19), (20, v20), (21, v21)] H Q) : L4 v3 v4 v11 v12 v13 v19 v20 v21 B H Q := run_m.2 h
abbrev L6 (v3 v11 v12 v13 : V) (B : Nat) (H : List Ob) (Q : X → T → List Ob → Prop) : Prop := Run prog nd B [.c (.m 6), .c (.loop (.n 1)), .mk 0, .c (.n 0)] [(3, v3), (11, v11), (12, v12), (13, v13)] H Q
theorem G6 {v3 v11 v12 v13 : V} {B : Nat} {H : List Ob} {Q : X → T → List Ob → Prop} (h : Run prog nd B [.c (nd 6), .c (.loop (.n 1)), .mk 0, .c (.n 0)] [(3, v3), (11, v11), (12, v12), (13, v13)] H Q) : L6 v3 v11 v12 v13 B H Q := run_m.2 h
end r01_Positions
namespace r03_Match
def nd (_ : Nat) : C := .skip
def body : C := .seq (.reg [.br 2 t_Term (.s 0), .br 3 t_Term (.s 1), .mv 4 (.c (.sl 4 [])), .mv 5 (.c (.bool false))]) (.seq (.reg [.la 6 3 (.s 2), .la 7 3 (.s 3), .callp (some 8) n_r03_match [(.c (.sl 4 [])), (.s 6), (.s 7)], .ex 9 (.s 8) 0, .ex 10 (.s 8) 1, .mv 4 (.s 9), .mv 5 (.s 10)]) (.ret))
def rs : List RV := [.t 4, .t 5]
attribute [push_cast] nd body
theorem ok : okF prog n_r03_Match nd body 2 rs = true := by kernel_rfl
end r03_Match
namespace term_IsName
def nd : Nat → C
  | 0 => .seq (.reg [.mv 11 (.s 0), .bin 12 .neq (.s 11) (.c (.str [])), .mv 13 (.s 12), .gd (.s 13) true [14, 15, 16, 17] [.mv 14 (.s 0), .s2b 15 (.s 14), .callp (some 16) n_slices_ContainsFunc_s_byte_byte [(.s 15), (.f n_term_IsName_1)], .un 17 .not (.s 16)], .pick 18 (.s 13) (.s 17) (.c (.bool false)), .mv 4 (.s 18)]) (.ret)
  | 1 => .seq (.seq (.reg [.mv 8 (.s 1)]) (.cond (.s 8) (.reg [.mv 9 (.s 0), .callp (some 10) n_strings_TrimSuffix [(.s 9), (.c (.str [35]))], .mv 0 (.s 10)]) (.skip))) (.n 0)
  | _ => .skip
def body : C := .seq (.reg [.mv 4 (.c (.bool false))]) (.seq (.seq (.reg [.mv 5 (.s 0), .lens 6 (.s 5), .bin 7 .gtr (.s 6) (.i 24)]) (.cond (.s 7) (.seq (.reg [.mv 4 (.c (.bool false))]) (.ret)) (.skip))) (.n 1))
def rs : List RV := [.t 4]
attribute [push_cast] nd body
theorem ok : okF prog n_term_IsName nd body 2 rs = true := by kernel_rfl
end term_IsName
namespace slices_ContainsFunc_s_string_string
def nd (_ : Nat) : C := .skip
def body : C := .seq (.reg [.mv 4 (.c (.bool false))]) (.seq (.reg [.mv 5 (.s 0), .mv 6 (.s 1), .callp (some 7) n_slices_IndexFunc_s_string_string [(.s 5), (.s 6)], .bin 8 .geq (.s 7) (.i 0), .mv 4 (.s 8)]) (.ret))
def rs : List RV := [.t 4]
attribute [push_cast] nd body
theorem ok : okF prog n_slices_ContainsFunc_s_string_string nd body 2 rs = true := by kernel_rfl
end slices_ContainsFunc_s_string_string
namespace r01_Marked
def nd (_ : Nat) : C := .skip
def body : C := .seq (.reg [.mv 2 (.c (.bool false))]) (.seq (.reg [.mv 3 (.s 0), .bin 4 .neq (.s 3) (.c (.str [])), .mv 5 (.s 4), .gd (.s 5) true [6, 7, 8, 9, 10, 11] [.mv 6 (.s 0), .mv 7 (.s 0), .lens 8 (.s 7), .bin 9 .sub (.s 8) (.i 1), .ix 10 (.s 6) (.s 9), .bin 11 .eql (.s 10) (.c (.int .u8 35))], .pick 12 (.s 5) (.s 11) (.c (.bool false)), .mv 2 (.s 12)]) (.ret))
def rs : List RV := [.t 2]
attribute [push_cast] nd body
theorem ok : okF prog n_r01_Marked nd body 1 rs = true := by kernel_rfl
end r01_Marked
namespace r01_Letters
def nd : Nat → C
  | 0 => .seq (.reg [.mv 2 (.c (.bool true))]) (.ret)
  | 1 => .gh [.ks 0 [0, 5, 6]] (.m 3)
  | 2 => .seq (.blk 1 (.seq (.reg [.mv 8 (.s 6), .mv 3 (.s 8)]) (.seq (.reg [.mv 9 (.s 0), .mv 10 (.s 3), .ix 11 (.s 9) (.s 10), .callp (some 12) n_r01_letter [(.s 11)], .un 13 .not (.s 12)]) (.cond (.s 13) (.seq (.reg [.mv 2 (.c (.bool false))]) (.ret)) (.skip))))) (.reg [.bin 14 .add (.s 6) (.i 1), .mv 6 (.s 14)])
  | 3 => .seq (.reg [.bin 7 .lss (.s 6) (.s 5)]) (.seq (.cond (.s 7) (.skip) (.exit 0)) (.n 2))
  | _ => .skip
def body : C := .seq (.reg [.mv 2 (.c (.bool false))]) (.seq (.seq (.reg [.mv 4 (.s 0), .lens 5 (.s 4), .mv 6 (.i 0)]) (.blk 0 (.loop (.n 1)))) (.n 0))
def rs : List RV := [.t 2]
attribute [push_cast] nd body
theorem ok : okF prog n_r01_Letters nd body 1 rs = true := by kernel_rfl
abbrev L3 (v0 v5 v6 : V) (B : Nat) (H : List Ob) (Q : X → T → List Ob → Prop) : Prop := Run prog nd B [.c (.m 3), .c (.loop (.n 1)), .mk 0, .c (.n 0)] [(0, v0), (5, v5), (6, v6)] H Q
theorem G3 {v0 v5 v6 : V} {B : Nat} {H : List Ob} {Q : X → T → List Ob → Prop} (h : Run prog nd B [.c (nd 3), .c (.loop (.n 1)), .mk 0, .c (.n 0)] [(0, v0), (5, v5), (6, v6)] H Q) : L3 v0 v5 v6 B H Q := run_m.2 h
end r01_Letters
namespace r01_CheckAll
def nd : Nat → C
  | 0 => .seq (.reg [.mv 2 (.i 0)]) (.ret)
  | 1 => .gh [.ks 0 [6, 7, 8]] (.m 3)
  | 2 => .seq (.blk 1 (.seq (.reg [.ia 10 3 (.s 6) (.s 8), .la 11 3 (.s 10), .al 4 t_Term [.str [], .bool false, .sl 3 []], .sf 4 3 (.s 11)]) (.seq (.reg [.la 12 3 (.s 4), .callp (some 13) n_r01_Check [(.s 12)], .mv 5 (.s 13)]) (.seq (.reg [.mv 14 (.s 5), .bin 15 .neq (.s 14) (.i 0)]) (.cond (.s 15) (.seq (.reg [.mv 16 (.s 5), .mv 2 (.s 16)]) (.ret)) (.skip)))))) (.reg [.bin 17 .add (.s 8) (.i 1), .mv 8 (.s 17)])
  | 3 => .seq (.reg [.bin 9 .lss (.s 8) (.s 7)]) (.seq (.cond (.s 9) (.skip) (.exit 0)) (.n 2))
  | _ => .skip
def body : C := .seq (.reg [.mv 2 (.i 0)]) (.seq (.seq (.reg [.mv 6 (.s 0), .len 7 (.s 6), .mv 8 (.i 0)]) (.blk 0 (.loop (.n 1)))) (.n 0))
def rs : List RV := [.t 2]
attribute [push_cast] nd body
theorem ok : okF prog n_r01_CheckAll nd body 1 rs = true := by kernel_rfl
abbrev L3 (v6 v7 v8 : V) (B : Nat) (H : List Ob) (Q : X → T → List Ob → Prop) : Prop := Run prog nd B [.c (.m 3), .c (.loop (.n 1)), .mk 0, .c (.n 0)] [(6, v6), (7, v7), (8, v8)] H Q
theorem G3 {v6 v7 v8 : V} {B : Nat} {H : List Ob} {Q : X → T → List Ob → Prop} (h : Run prog nd B [.c (nd 3), .c (.loop (.n 1)), .mk 0, .c (.n 0)] [(6, v6), (7, v7), (8, v8)] H Q) : L3 v6 v7 v8 B H Q := run_m.2 h
end r01_CheckAll
namespace r01_symbols
def nd : Nat → C
  | 0 => .seq (.reg [.mv 94 (.s 1), .mv 4 (.s 94), .mv 5 (.c (.bool true))]) (.ret)
  | 1 => .gh [.ks 0 [1, 77, 78, 79]] (.m 3)
  | 2 => .seq (.blk 3 (.seq (.reg [.ia 81 3 (.s 77) (.s 79), .la 82 3 (.s 81), .al 8 t_Term [.str [], .bool false, .sl 3 []], .sf 8 3 (.s 82)]) (.seq (.reg [.la 84 3 (.s 8), .mv 85 (.s 1), .callp (some 86) n_r01_symbols [(.s 84), (.s 85)], .mv 83 (.s 86), .ex 87 (.s 83) 0, .ex 88 (.s 83) 1, .mv 9 (.s 87), .mv 10 (.s 88)]) (.seq (.seq (.reg [.mv 89 (.s 10), .un 90 .not (.s 89)]) (.cond (.s 90) (.seq (.reg [.mv 91 (.s 1), .mv 4 (.s 91), .mv 5 (.c (.bool false))]) (.ret)) (.skip))) (.reg [.mv 92 (.s 9), .mv 1 (.s 92)]))))) (.reg [.bin 93 .add (.s 79) (.i 1), .mv 79 (.s 93)])
  | 3 => .seq (.reg [.bin 80 .lss (.s 79) (.s 78)]) (.seq (.cond (.s 80) (.skip) (.exit 2)) (.n 2))
  | 4 => .seq (.seq (.reg [.fa 76 2 (.s 2), .ld 77 (.s 76), .len 78 (.s 77), .mv 79 (.i 0)]) (.blk 2 (.loop (.n 1)))) (.n 0)
  | 5 => .seq (.seq (.dr [0, 1, 2, 3, 4, 5, 6, 7, 8] [.mv 66 (.s 1), .mv 67 (.s 6), .ia 68 2 (.s 66) (.s 67), .fa 69 1 (.s 68), .ld 70 (.s 69), .fa 71 2 (.s 2), .ld 72 (.s 71), .len 73 (.s 72), .bin 74 .neq (.s 70) (.s 73)]) (.cond (.s 74) (.seq (.reg [.mv 75 (.s 1), .mv 4 (.s 75), .mv 5 (.c (.bool false))]) (.ret)) (.skip))) (.n 4)
  | 6 => .seq (.seq (.dr [0, 1, 2, 3, 4, 5, 6, 7, 8, 9, 10, 11, 12, 13] [.mv 35 (.s 6), .mv 36 (.s 1), .len 37 (.s 36), .bin 38 .eql (.s 35) (.s 37), .mv 39 (.s 38), .gd (.s 39) false [40] [.mv 40 (.s 1)], .gd (.s 39) false [41] [.mv 41 (.s 6)], .gd (.s 39) false [42] [.ia 42 2 (.s 40) (.s 41)], .gd (.s 39) false [43] [.fa 43 0 (.s 42)], .gd (.s 39) false [44] [.ld 44 (.s 43)], .gd (.s 39) false [45] [.fa 45 0 (.s 2)], .gd (.s 39) false [46] [.ld 46 (.s 45)], .gd (.s 39) false [47] [.bin 47 .neq (.s 44) (.s 46)], .pick 48 (.s 39) (.c (.bool true)) (.s 47)]) (.cond (.s 48) (.dr [1, 2, 3, 5, 6, 7, 8, 0, 4, 9, 10, 11, 12, 13, 14, 15, 16, 17] [.mv 50 (.s 1), .mv 51 (.s 6), .sx 52 2 (.s 50) none (some (.s 51)), .fa 54 0 (.s 2), .ld 55 (.s 54), .fa 56 2 (.s 2), .ld 57 (.s 56), .bo 49 t_Symbol 2 [], .app 53 t_Symbol 2 24 (.s 49) (.s 52), .len 58 (.s 57), .bd 59 [.str [], .int .i64 0] [(0, 1, (.s 55)), (1, 1, (.s 58))], .bs 60 2 [(.s 59)], .app 61 t_Symbol 2 24 (.s 53) (.s 60), .mv 62 (.s 1), .mv 63 (.s 6), .sx 64 2 (.s 62) (some (.s 63)) none, .app 65 t_Symbol 2 24 (.s 61) (.s 64), .mv 1 (.s 65)]) (.skip))) (.n 5)
  | 7 => .gh [.ks 0 [1, 2, 6]] (.m 9)
  | 8 => .blk 1 (.reg [.mv 33 (.s 6), .bin 34 .add (.s 33) (.i 1), .mv 6 (.s 34)])
  | 9 => .seq (.seq (.dr [0, 1, 2, 3, 4, 5, 6, 7, 8, 9, 10, 11, 12, 13, 14] [.mv 18 (.s 6), .mv 19 (.s 1), .len 20 (.s 19), .bin 21 .lss (.s 18) (.s 20), .mv 22 (.s 21), .gd (.s 22) true [23] [.mv 23 (.s 1)], .gd (.s 22) true [24] [.mv 24 (.s 6)], .gd (.s 22) true [25] [.ia 25 2 (.s 23) (.s 24)], .gd (.s 22) true [26] [.fa 26 0 (.s 25)], .gd (.s 22) true [27] [.ld 27 (.s 26)], .gd (.s 22) true [28] [.fa 28 0 (.s 2)], .gd (.s 22) true [29] [.ld 29 (.s 28)], .gd (.s 22) true [30] [.callp (some 30) n_r01_CompareNames [(.s 27), (.s 29)]], .gd (.s 22) true [31] [.bin 31 .lss (.s 30) (.i 0)], .pick 32 (.s 22) (.s 31) (.c (.bool false))]) (.cond (.s 32) (.skip) (.exit 0))) (.n 8)
  | 10 => .seq (.reg [.mv 6 (.i 0)]) (.seq (.blk 0 (.loop (.n 7))) (.n 6))
  | 11 => .seq (.seq (.reg [.fa 14 0 (.s 2), .ld 15 (.s 14), .callp (some 16) n_r01_Marked [(.s 15)]]) (.cond (.s 16) (.seq (.reg [.mv 17 (.s 1), .mv 4 (.s 17), .mv 5 (.c (.bool false))]) (.ret)) (.skip))) (.n 10)
  | _ => .skip
def body : C := .seq (.reg [.br 2 t_Term (.s 0), .mv 4 (.c (.sl 2 [])), .mv 5 (.c (.bool false))]) (.seq (.seq (.reg [.fa 11 1 (.s 2), .ld 12 (.s 11)]) (.cond (.s 12) (.seq (.reg [.mv 13 (.s 1), .mv 4 (.s 13), .mv 5 (.c (.bool true))]) (.ret)) (.skip))) (.n 11))
def rs : List RV := [.t 4, .t 5]
attribute [push_cast] nd body
theorem ok : okF prog n_r01_symbols nd body 2 rs = true := by kernel_rfl
abbrev L3 (v1 v77 v78 v79 : V) (B : Nat) (H : List Ob) (Q : X → T → List Ob → Prop) : Prop := Run prog nd B [.c (.m 3), .c (.loop (.n 1)), .mk 2, .c (.n 0)] [(1, v1), (77, v77), (78, v78), (79, v79)] H Q
theorem G3 {v1 v77 v78 v79 : V} {B : Nat} {H : List Ob} {Q : X → T → List Ob → Prop} (h : Run prog nd B [.c (nd 3), .c (.loop (.n 1)), .mk 2, .c (.n 0)] [(1, v1), (77, v77), (78, v78), (79, v79)] H Q) : L3 v1 v77 v78 v79 B H Q := run_m.2 h
abbrev L9 (v1 v2 v6 : V) (B : Nat) (H : List Ob) (Q : X → T → List Ob → Prop) : Prop := Run prog nd B [.c (.m 9), .c (.loop (.n 7)), .mk 0, .c (.n 6)] [(1, v1), (2, v2), (6, v6)] H Q
theorem G9 {v1 v2 v6 : V} {B : Nat} {H : List Ob} {Q : X → T → List Ob → Prop} (h : Run prog nd B [.c (nd 9), .c (.loop (.n 7)), .mk 0, .c (.n 6)] [(1, v1), (2, v2), (6, v6)] H Q) : L9 v1 v2 v6 B H Q := run_m.2 h
end r01_symbols
namespace r01_Vars
def nd : Nat → C
  | 0 => .seq (.reg [.mv 16 (.s 3), .mv 2 (.s 16)]) (.ret)
  | 1 => .gh [.ks 0 [3, 6, 7, 8]] (.m 3)
  | 2 => .seq (.blk 1 (.seq (.reg [.ia 10 3 (.s 6) (.s 8), .la 11 3 (.s 10), .al 5 t_Term [.str [], .bool false, .sl 3 []], .sf 5 3 (.s 11)]) (.reg [.la 12 3 (.s 5), .mv 13 (.s 3), .callp (some 14) n_r01_collect [(.s 12), (.s 13)], .mv 3 (.s 14)]))) (.reg [.bin 15 .add (.s 8) (.i 1), .mv 8 (.s 15)])
  | 3 => .seq (.reg [.bin 9 .lss (.s 8) (.s 7)]) (.seq (.cond (.s 9) (.skip) (.exit 0)) (.n 2))
  | _ => .skip
def body : C := .seq (.reg [.mv 2 (.c (.sl 1 []))]) (.seq (.reg [.mv 3 (.c (.sl 1 []))]) (.seq (.seq (.reg [.mv 6 (.s 0), .len 7 (.s 6), .mv 8 (.i 0)]) (.blk 0 (.loop (.n 1)))) (.n 0)))
def rs : List RV := [.t 2]
attribute [push_cast] nd body
theorem ok : okF prog n_r01_Vars nd body 1 rs = true := by kernel_rfl
abbrev L3 (v3 v6 v7 v8 : V) (B : Nat) (H : List Ob) (Q : X → T → List Ob → Prop) : Prop := Run prog nd B [.c (.m 3), .c (.loop (.n 1)), .mk 0, .c (.n 0)] [(3, v3), (6, v6), (7, v7), (8, v8)] H Q
theorem G3 {v3 v6 v7 v8 : V} {B : Nat} {H : List Ob} {Q : X → T → List Ob → Prop} (h : Run prog nd B [.c (nd 3), .c (.loop (.n 1)), .mk 0, .c (.n 0)] [(3, v3), (6, v6), (7, v7), (8, v8)] H Q) : L3 v3 v6 v7 v8 B H Q := run_m.2 h
end r01_Vars
end Go.Dw
