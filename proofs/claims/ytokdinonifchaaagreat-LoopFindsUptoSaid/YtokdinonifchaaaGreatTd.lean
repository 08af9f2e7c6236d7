/-
  Functions of the program, printed for the reader, the rest.
-/
import Derived.Test.YtokdinonifchaaaGreatNm
set_option maxRecDepth 100000
namespace Go.Dw
namespace term_Depth
def nd : Nat → C
  | 0 => .seq (.reg [.mv 18 (.s 3), .bin 19 .add (.s 18) (.i 1), .mv 2 (.s 19)]) (.ret)
  | 1 => .gh [.ks 0 [3, 7, 8, 9]] (.m 3)
  | 2 => .seq (.blk 1 (.seq (.reg [.ia 11 3 (.s 7) (.s 9), .la 12 3 (.s 11), .al 5 t_Term [.str [], .bool false, .sl 3 []], .sf 5 3 (.s 12)]) (.reg [.mv 13 (.s 3), .la 14 3 (.s 5), .callp (some 15) n_term_Depth [(.s 14)], .mx 16 (.s 13) (.s 15), .mv 3 (.s 16)]))) (.reg [.bin 17 .add (.s 9) (.i 1), .mv 9 (.s 17)])
  | 3 => .seq (.reg [.bin 10 .lss (.s 9) (.s 8)]) (.seq (.cond (.s 10) (.skip) (.exit 0)) (.n 2))
  | _ => .skip
def body : C := .seq (.reg [.br 1 t_Term (.s 0), .mv 2 (.i 0)]) (.seq (.reg [.mv 3 (.i 0)]) (.seq (.seq (.reg [.fa 6 2 (.s 1), .ld 7 (.s 6), .len 8 (.s 7), .mv 9 (.i 0)]) (.blk 0 (.loop (.n 1)))) (.n 0)))
def rs : List RV := [.t 2]
attribute [push_cast] nd body
theorem ok : okF prog n_term_Depth nd body 1 rs = true := by kernel_rfl
abbrev L3 (v3 v7 v8 v9 : V) (B : Nat) (H : List Ob) (Q : X → T → List Ob → Prop) : Prop := Run prog nd B [.c (.m 3), .c (.loop (.n 1)), .mk 0, .c (.n 0)] [(3, v3), (7, v7), (8, v8), (9, v9)] H Q
theorem G3 {v3 v7 v8 v9 : V} {B : Nat} {H : List Ob} {Q : X → T → List Ob → Prop} (h : Run prog nd B [.c (nd 3), .c (.loop (.n 1)), .mk 0, .c (.n 0)] [(3, v3), (7, v7), (8, v8), (9, v9)] H Q) : L3 v3 v7 v8 v9 B H Q := run_m.2 h
end term_Depth
namespace term_Image
def nd : Nat → C
  | 0 => .seq (.reg [.mv 17 (.s 0), .mv 18 (.s 6), .ia 19 4 (.s 17) (.s 18), .fa 20 1 (.s 19), .la 21 3 (.s 20), .st 3 (.s 4) (.s 21), .mv 5 (.c (.bool true))]) (.ret)
  | _ => .skip
def body : C := .seq (.reg [.al 4 t_Term [.str [], .bool false, .sl 3 []], .mv 5 (.c (.bool false))]) (.seq (.reg [.mv 9 (.s 0), .mv 10 (.s 1), .call (some 11) n_slices_BinarySearchFunc_s_Bind_Bind_string [(.s 9), (.s 10), (.f n_term_Image_1)], .mv 8 (.s 11), .ex 12 (.s 8) 0, .ex 13 (.s 8) 1, .mv 6 (.s 12), .mv 7 (.s 13)]) (.seq (.seq (.reg [.mv 14 (.s 7), .un 15 .not (.s 14)]) (.cond (.s 15) (.seq (.reg [.bd 16 [.str [], .bool false, .sl 3 []] [], .st 3 (.s 4) (.s 16), .mv 5 (.c (.bool false))]) (.ret)) (.skip))) (.n 0)))
def rs : List RV := [.a 4 3, .t 5]
attribute [push_cast] nd body
theorem ok : okF prog n_term_Image nd body 2 rs = true := by kernel_rfl
end term_Image
namespace r02_Next
def nd : Nat → C
  | 0 => .seq (.reg [.mv 54 (.s 0), .mv 55 (.s 1), .mv 56 (.s 1), .bin 57 .add (.s 56) (.i 1), .mv 58 (.s 0), .lens 59 (.s 58), .mn 60 (.s 57) (.s 59), .sxs 61 (.s 54) (some (.s 55)) (some (.s 60)), .mv 62 (.s 1), .mv 4 (.s 61), .mv 5 (.s 62)]) (.ret)
  | 1 => .seq (.seq (.reg [.mv 40 (.s 1), .bin 41 .add (.s 40) (.i 1), .mv 42 (.s 0), .lens 43 (.s 42), .bin 44 .lss (.s 41) (.s 43), .mv 45 (.s 44), .gd (.s 45) true [46, 47, 48, 49, 50, 51] [.mv 46 (.s 0), .mv 47 (.s 1), .mv 48 (.s 1), .bin 49 .add (.s 48) (.i 2), .sxs 50 (.s 46) (some (.s 47)) (some (.s 49)), .bin 51 .eql (.s 50) (.c (.str [45, 62]))], .pick 52 (.s 45) (.s 51) (.c (.bool false))]) (.cond (.s 52) (.seq (.reg [.mv 53 (.s 1), .mv 4 (.c (.str [45, 62])), .mv 5 (.s 53)]) (.ret)) (.skip))) (.n 0)
  | 2 => .seq (.seq (.reg [.mv 32 (.s 6), .mv 33 (.s 1), .bin 34 .gtr (.s 32) (.s 33)]) (.cond (.s 34) (.seq (.reg [.mv 35 (.s 0), .mv 36 (.s 1), .mv 37 (.s 6), .sxs 38 (.s 35) (some (.s 36)) (some (.s 37)), .mv 39 (.s 1), .mv 4 (.s 38), .mv 5 (.s 39)]) (.ret)) (.skip))) (.n 1)
  | 3 => .gh [.ks 0 [0, 1, 6]] (.m 5)
  | 4 => .blk 3 (.reg [.mv 30 (.s 6), .bin 31 .add (.s 30) (.i 1), .mv 6 (.s 31)])
  | 5 => .seq (.seq (.reg [.mv 20 (.s 6), .mv 21 (.s 0), .lens 22 (.s 21), .bin 23 .lss (.s 20) (.s 22), .mv 24 (.s 23), .gd (.s 24) true [25, 26, 27, 28] [.mv 25 (.s 0), .mv 26 (.s 6), .ix 27 (.s 25) (.s 26), .callp (some 28) n_r02_part [(.s 27)]], .pick 29 (.s 24) (.s 28) (.c (.bool false))]) (.cond (.s 29) (.skip) (.exit 2))) (.n 4)
  | 6 => .seq (.reg [.mv 19 (.s 1), .mv 6 (.s 19)]) (.seq (.blk 2 (.loop (.n 3))) (.n 2))
  | 7 => .gh [.ks 0 [0, 1]] (.m 9)
  | 8 => .blk 1 (.reg [.mv 17 (.s 1), .bin 18 .add (.s 17) (.i 1), .mv 1 (.s 18)])
  | 9 => .seq (.seq (.reg [.mv 7 (.s 1), .mv 8 (.s 0), .lens 9 (.s 8), .bin 10 .lss (.s 7) (.s 9), .mv 11 (.s 10), .gd (.s 11) true [12, 13, 14, 15] [.mv 12 (.s 0), .mv 13 (.s 1), .ix 14 (.s 12) (.s 13), .callp (some 15) n_r02_blank [(.s 14)]], .pick 16 (.s 11) (.s 15) (.c (.bool false))]) (.cond (.s 16) (.skip) (.exit 0))) (.n 8)
  | _ => .skip
def body : C := .seq (.reg [.mv 4 (.c (.str [])), .mv 5 (.i 0)]) (.seq (.blk 0 (.loop (.n 7))) (.n 6))
def rs : List RV := [.t 4, .t 5]
attribute [push_cast] nd body
theorem ok : okF prog n_r02_Next nd body 2 rs = true := by kernel_rfl
abbrev L5 (v0 v1 v6 : V) (B : Nat) (H : List Ob) (Q : X → T → List Ob → Prop) : Prop := Run prog nd B [.c (.m 5), .c (.loop (.n 3)), .mk 2, .c (.n 2)] [(0, v0), (1, v1), (6, v6)] H Q
theorem G5 {v0 v1 v6 : V} {B : Nat} {H : List Ob} {Q : X → T → List Ob → Prop} (h : Run prog nd B [.c (nd 5), .c (.loop (.n 3)), .mk 2, .c (.n 2)] [(0, v0), (1, v1), (6, v6)] H Q) : L5 v0 v1 v6 B H Q := run_m.2 h
abbrev L9 (v0 v1 : V) (B : Nat) (H : List Ob) (Q : X → T → List Ob → Prop) : Prop := Run prog nd B [.c (.m 9), .c (.loop (.n 7)), .mk 0, .c (.n 6)] [(0, v0), (1, v1)] H Q
theorem G9 {v0 v1 : V} {B : Nat} {H : List Ob} {Q : X → T → List Ob → Prop} (h : Run prog nd B [.c (nd 9), .c (.loop (.n 7)), .mk 0, .c (.n 6)] [(0, v0), (1, v1)] H Q) : L9 v0 v1 B H Q := run_m.2 h
end r02_Next
namespace r02_parser_fail
def nd (_ : Nat) : C := .skip
def body : C := .seq (.reg [.mv 4 (.s 0), .nc 5 (.s 4), .fa 6 3 (.s 5), .ld 7 (.s 6), .bin 8 .lss (.s 7) (.i 0)]) (.cond (.s 8) (.reg [.mv 9 (.s 0), .mv 10 (.s 1), .nc 11 (.s 9), .fa 12 3 (.s 11), .st 1 (.s 12) (.s 10)]) (.skip))
def rs : List RV := []
attribute [push_cast] nd body
theorem ok : okF prog n_r02_parser_fail nd body 2 rs = true := by kernel_rfl
end r02_parser_fail
namespace r02_isName
def nd (_ : Nat) : C := .skip
def body : C := .seq (.reg [.mv 2 (.c (.bool false))]) (.seq (.reg [.mv 3 (.s 0), .bin 4 .neq (.s 3) (.c (.str [])), .mv 5 (.s 4), .gd (.s 5) true [6, 7, 8] [.mv 6 (.s 0), .ix 7 (.s 6) (.i 0), .callp (some 8) n_r02_part [(.s 7)]], .pick 9 (.s 5) (.s 8) (.c (.bool false)), .mv 2 (.s 9)]) (.ret))
def rs : List RV := [.t 2]
attribute [push_cast] nd body
theorem ok : okF prog n_r02_isName nd body 1 rs = true := by kernel_rfl
end r02_isName
namespace r02_parser_name
def nd : Nat → C
  | 0 => .seq (.reg [.mv 33 (.s 0), .mv 34 (.s 4), .mv 35 (.s 3), .lens 36 (.s 35), .bin 37 .add (.s 34) (.s 36), .nc 38 (.s 33), .fa 39 1 (.s 38), .st 1 (.s 39) (.s 37)]) (.seq (.reg [.mv 40 (.s 3), .mv 2 (.s 40)]) (.ret))
  | 1 => .seq (.seq (.reg [.mv 28 (.s 0), .nc 29 (.s 28), .fa 30 3 (.s 29), .ld 31 (.s 30), .bin 32 .geq (.s 31) (.i 0)]) (.cond (.s 32) (.seq (.reg [.mv 2 (.c (.str []))]) (.ret)) (.skip))) (.n 0)
  | _ => .skip
def body : C := .seq (.reg [.mv 2 (.c (.str []))]) (.seq (.dr [0, 1, 2, 3, 4, 5, 6, 7, 8, 9, 10, 11, 12, 13] [.mv 6 (.s 0), .nc 7 (.s 6), .fa 8 0 (.s 7), .ld 9 (.s 8), .mv 10 (.s 0), .nc 11 (.s 10), .fa 12 1 (.s 11), .ld 13 (.s 12), .callp (some 14) n_r02_Next [(.s 9), (.s 13)], .mv 5 (.s 14), .ex 15 (.s 5) 0, .ex 16 (.s 5) 1, .mv 3 (.s 15), .mv 4 (.s 16)]) (.seq (.seq (.reg [.mv 17 (.s 3), .callp (some 18) n_r02_isName [(.s 17)], .un 19 .not (.s 18), .mv 20 (.s 19), .gd (.s 20) false [21, 22, 23] [.mv 21 (.s 3), .callp (some 22) n_r01_IsName [(.s 21), (.c (.bool true))], .un 23 .not (.s 22)], .pick 24 (.s 20) (.c (.bool true)) (.s 23)]) (.cond (.s 24) (.reg [.mv 25 (.s 0), .mv 26 (.s 4), .call (some 27) n_r02_parser_fail [(.s 25), (.s 26)]]) (.skip))) (.n 1)))
def rs : List RV := [.t 2]
attribute [push_cast] nd body
theorem ok : okF prog n_r02_parser_name nd body 1 rs = true := by kernel_rfl
end r02_parser_name
namespace derive_key
def nd : Nat → C
  | 0 => .seq (.reg [.mv 27 (.s 4), .bin 28 .add (.s 27) (.c (.str [41])), .mv 2 (.s 28)]) (.ret)
  | 1 => .gh [.ks 0 [4, 16, 17, 18]] (.m 3)
  | 2 => .seq (.blk 1 (.seq (.reg [.ia 20 3 (.s 16) (.s 18), .la 21 3 (.s 20), .al 6 t_Term [.str [], .bool false, .sl 3 []], .sf 6 3 (.s 21)]) (.reg [.mv 22 (.s 4), .la 23 3 (.s 6), .callp (some 24) n_derive_key [(.s 23)], .bin 25 .add (.s 22) (.s 24), .mv 4 (.s 25)]))) (.reg [.bin 26 .add (.s 18) (.i 1), .mv 18 (.s 26)])
  | 3 => .seq (.reg [.bin 19 .lss (.s 18) (.s 17)]) (.seq (.cond (.s 19) (.skip) (.exit 0)) (.n 2))
  | 4 => .seq (.reg [.fa 9 0 (.s 1), .ld 10 (.s 9), .mv 11 (.s 3), .bs 12 1 [(.s 11)], .b2s 13 (.s 12), .bin 14 .add (.s 10) (.s 13), .mv 4 (.s 14)]) (.seq (.seq (.reg [.fa 15 2 (.s 1), .ld 16 (.s 15), .len 17 (.s 16), .mv 18 (.i 0)]) (.blk 0 (.loop (.n 1)))) (.n 0))
  | _ => .skip
def body : C := .seq (.reg [.br 1 t_Term (.s 0), .mv 2 (.c (.str []))]) (.seq (.reg [.mv 3 (.c (.int .u8 40))]) (.seq (.seq (.reg [.fa 7 1 (.s 1), .ld 8 (.s 7)]) (.cond (.s 8) (.reg [.mv 3 (.c (.int .u8 63))]) (.skip))) (.n 4)))
def rs : List RV := [.t 2]
attribute [push_cast] nd body
theorem ok : okF prog n_derive_key nd body 1 rs = true := by kernel_rfl
abbrev L3 (v4 v16 v17 v18 : V) (B : Nat) (H : List Ob) (Q : X → T → List Ob → Prop) : Prop := Run prog nd B [.c (.m 3), .c (.loop (.n 1)), .mk 0, .c (.n 0)] [(4, v4), (16, v16), (17, v17), (18, v18)] H Q
theorem G3 {v4 v16 v17 v18 : V} {B : Nat} {H : List Ob} {Q : X → T → List Ob → Prop} (h : Run prog nd B [.c (nd 3), .c (.loop (.n 1)), .mk 0, .c (.n 0)] [(4, v4), (16, v16), (17, v17), (18, v18)] H Q) : L3 v4 v16 v17 v18 B H Q := run_m.2 h
end derive_key
namespace rewrite_at
def nd : Nat → C
  | 0 => .seq (.reg [.mv 37 (.s 7), .mv 6 (.s 37)]) (.ret)
  | 1 => .gh [.ks 1 [1, 5, 7, 12, 13, 14]] (.m 4)
  | 2 => .seq (.reg [.fa 22 0 (.s 9), .la 23 3 (.s 22), .la 24 3 (.s 5), .callp (some 25) n_unify_Find [(.s 23), (.s 24)], .mv 21 (.s 25), .ex 26 (.s 21) 0, .ex 27 (.s 21) 1, .mv 10 (.s 26), .mv 11 (.s 27)]) (.seq (.reg [.mv 28 (.s 11)]) (.cond (.s 28) (.reg [.mv 29 (.s 7), .mv 30 (.s 8), .mv 31 (.s 1), .call (some 32) n_slices_Clone_s_int_int [(.s 31)], .bd 33 [.int .i64 0, .sl 1 []] [(0, 1, (.s 30)), (1, 1, (.s 32))], .bs 34 2 [(.s 33)], .app 35 t_Step 2 32 (.s 29) (.s 34), .mv 7 (.s 35)]) (.skip)))
  | 3 => .seq (.blk 1 (.seq (.reg [.mv 16 (.s 14), .ia 17 6 (.s 12) (.s 14), .la 18 6 (.s 17), .al 9 t_Rule [.str [], .bool false, .sl 3 [], .str [], .bool false, .sl 3 []], .mv 8 (.s 16), .sf 9 6 (.s 18)]) (.seq (.seq (.reg [.fa 19 1 (.s 5), .ld 20 (.s 19)]) (.cond (.s 20) (.exit 0) (.skip))) (.n 2)))) (.reg [.bin 36 .add (.s 14) (.i 1), .mv 14 (.s 36)])
  | 4 => .seq (.reg [.bin 15 .lss (.s 14) (.s 13)]) (.seq (.cond (.s 15) (.skip) (.exit 0)) (.n 3))
  | _ => .skip
def body : C := .seq (.reg [.br 5 t_Term (.s 2), .mv 6 (.c (.sl 2 []))]) (.seq (.reg [.mv 7 (.c .nil), .non 7 t_Step 2]) (.seq (.seq (.reg [.mv 12 (.s 0), .len 13 (.s 12), .mv 14 (.i 0)]) (.blk 0 (.loop (.n 1)))) (.n 0)))
def rs : List RV := [.t 6]
attribute [push_cast] nd body
theorem ok : okF prog n_rewrite_at nd body 3 rs = true := by kernel_rfl
abbrev L4 (v1 v5 v7 v12 v13 v14 : V) (B : Nat) (H : List Ob) (Q : X → T → List Ob → Prop) : Prop := Run prog nd B [.c (.m 4), .c (.loop (.n 1)), .mk 0, .c (.n 0)] [(1, v1), (5, v5), (7, v7), (12, v12), (13, v13), (14, v14)] H Q
theorem G4 {v1 v5 v7 v12 v13 v14 : V} {B : Nat} {H : List Ob} {Q : X → T → List Ob → Prop} (h : Run prog nd B [.c (nd 4), .c (.loop (.n 1)), .mk 0, .c (.n 0)] [(1, v1), (5, v5), (7, v7), (12, v12), (13, v13), (14, v14)] H Q) : L4 v1 v5 v7 v12 v13 v14 B H Q := run_m.2 h
end rewrite_at
namespace unify_bind
def nd (_ : Nat) : C := .skip
def body : C := .seq (.reg [.br 5 t_Term (.s 2), .mv 6 (.c (.sl 4 []))]) (.seq (.reg [.mv 10 (.s 0), .mv 11 (.s 1), .call (some 12) n_slices_BinarySearchFunc_s_Bind_Bind_string [(.s 10), (.s 11), (.f n_unify_bind_1)], .mv 9 (.s 12), .ex 13 (.s 9) 0, .ex 14 (.s 9) 1, .mv 7 (.s 13), .mv 8 (.s 14)]) (.seq (.reg [.mv 15 (.s 0), .mv 16 (.s 7), .mv 17 (.s 1), .la 18 3 (.s 5), .bd 19 [.str [], .str [], .bool false, .sl 3 []] [(0, 1, (.s 17)), (1, 3, (.s 18))], .bo 20 t_Bind 4 [(.s 19)], .call (some 21) n_slices_Insert_s_Bind_Bind [(.s 15), (.s 16), (.s 20)], .mv 6 (.s 21)]) (.ret)))
def rs : List RV := [.t 6]
attribute [push_cast] nd body
theorem ok : okF prog n_unify_bind nd body 3 rs = true := by kernel_rfl
end unify_bind
namespace r03_Bound
def nd : Nat → C
  | 0 => .seq (.reg [.mv 4 (.c (.bool false))]) (.ret)
  | 1 => .gh [.ks 0 [1, 7, 8, 9]] (.m 3)
  | 2 => .seq (.blk 1 (.seq (.reg [.ia 11 4 (.s 7) (.s 9), .la 12 4 (.s 11), .al 6 t_Bind [.str [], .str [], .bool false, .sl 3 []], .sf 6 4 (.s 12)]) (.seq (.reg [.fa 13 0 (.s 6), .ld 14 (.s 13), .mv 15 (.s 1), .bin 16 .eql (.s 14) (.s 15)]) (.cond (.s 16) (.seq (.reg [.mv 4 (.c (.bool true))]) (.ret)) (.skip))))) (.reg [.bin 17 .add (.s 9) (.i 1), .mv 9 (.s 17)])
  | 3 => .seq (.reg [.bin 10 .lss (.s 9) (.s 8)]) (.seq (.cond (.s 10) (.skip) (.exit 0)) (.n 2))
  | _ => .skip
def body : C := .seq (.reg [.mv 4 (.c (.bool false))]) (.seq (.seq (.reg [.mv 7 (.s 0), .len 8 (.s 7), .mv 9 (.i 0)]) (.blk 0 (.loop (.n 1)))) (.n 0))
def rs : List RV := [.t 4]
attribute [push_cast] nd body
theorem ok : okF prog n_r03_Bound nd body 2 rs = true := by kernel_rfl
abbrev L3 (v1 v7 v8 v9 : V) (B : Nat) (H : List Ob) (Q : X → T → List Ob → Prop) : Prop := Run prog nd B [.c (.m 3), .c (.loop (.n 1)), .mk 0, .c (.n 0)] [(1, v1), (7, v7), (8, v8), (9, v9)] H Q
theorem G3 {v1 v7 v8 v9 : V} {B : Nat} {H : List Ob} {Q : X → T → List Ob → Prop} (h : Run prog nd B [.c (nd 3), .c (.loop (.n 1)), .mk 0, .c (.n 0)] [(1, v1), (7, v7), (8, v8), (9, v9)] H Q) : L3 v1 v7 v8 v9 B H Q := run_m.2 h
end r03_Bound
namespace r03_with
def nd : Nat → C
  | 0 => .seq (.dr [1, 2, 3, 5, 6, 0, 4, 7, 8, 9, 10, 11, 12, 13, 14] [.mv 25 (.s 0), .mv 26 (.s 7), .sx 27 4 (.s 25) none (some (.s 26)), .mv 29 (.s 1), .la 30 3 (.s 5), .bo 24 t_Bind 4 [], .app 28 t_Bind 4 64 (.s 24) (.s 27), .bd 31 [.str [], .str [], .bool false, .sl 3 []] [(0, 1, (.s 29)), (1, 3, (.s 30))], .bs 32 4 [(.s 31)], .app 33 t_Bind 4 64 (.s 28) (.s 32), .mv 34 (.s 0), .mv 35 (.s 7), .sx 36 4 (.s 34) (some (.s 35)) none, .app 37 t_Bind 4 64 (.s 33) (.s 36), .mv 6 (.s 37)]) (.ret)
  | 1 => .gh [.ks 0 [0, 1, 5, 7]] (.m 3)
  | 2 => .blk 1 (.reg [.mv 22 (.s 7), .bin 23 .add (.s 22) (.i 1), .mv 7 (.s 23)])
  | 3 => .seq (.seq (.reg [.mv 8 (.s 7), .mv 9 (.s 0), .len 10 (.s 9), .bin 11 .lss (.s 8) (.s 10), .mv 12 (.s 11), .gd (.s 12) true [13, 14, 15, 16, 17, 18, 19, 20] [.mv 13 (.s 0), .mv 14 (.s 7), .ia 15 4 (.s 13) (.s 14), .fa 16 0 (.s 15), .ld 17 (.s 16), .mv 18 (.s 1), .callp (some 19) n_r01_CompareNames [(.s 17), (.s 18)], .bin 20 .lss (.s 19) (.i 0)], .pick 21 (.s 12) (.s 20) (.c (.bool false))]) (.cond (.s 21) (.skip) (.exit 0))) (.n 2)
  | _ => .skip
def body : C := .seq (.reg [.br 5 t_Term (.s 2), .mv 6 (.c (.sl 4 []))]) (.seq (.reg [.mv 7 (.i 0)]) (.seq (.blk 0 (.loop (.n 1))) (.n 0)))
def rs : List RV := [.t 6]
attribute [push_cast] nd body
theorem ok : okF prog n_r03_with nd body 3 rs = true := by kernel_rfl
abbrev L3 (v0 v1 v5 v7 : V) (B : Nat) (H : List Ob) (Q : X → T → List Ob → Prop) : Prop := Run prog nd B [.c (.m 3), .c (.loop (.n 1)), .mk 0, .c (.n 0)] [(0, v0), (1, v1), (5, v5), (7, v7)] H Q
theorem G3 {v0 v1 v5 v7 : V} {B : Nat} {H : List Ob} {Q : X → T → List Ob → Prop} (h : Run prog nd B [.c (nd 3), .c (.loop (.n 1)), .mk 0, .c (.n 0)] [(0, v0), (1, v1), (5, v5), (7, v7)] H Q) : L3 v0 v1 v5 v7 B H Q := run_m.2 h
end r03_with
namespace stringslite_TrimSuffix
def nd : Nat → C
  | 0 => .seq (.reg [.mv 15 (.s 0), .mv 4 (.s 15)]) (.ret)
  | _ => .skip
def body : C := .seq (.reg [.mv 4 (.c (.str []))]) (.seq (.seq (.reg [.mv 5 (.s 0), .mv 6 (.s 1), .callp (some 7) n_stringslite_HasSuffix [(.s 5), (.s 6)]]) (.cond (.s 7) (.seq (.reg [.mv 8 (.s 0), .mv 9 (.s 0), .lens 10 (.s 9), .mv 11 (.s 1), .lens 12 (.s 11), .bin 13 .sub (.s 10) (.s 12), .sxs 14 (.s 8) none (some (.s 13)), .mv 4 (.s 14)]) (.ret)) (.skip))) (.n 0))
def rs : List RV := [.t 4]
attribute [push_cast] nd body
theorem ok : okF prog n_stringslite_TrimSuffix nd body 2 rs = true := by kernel_rfl
end stringslite_TrimSuffix
namespace slices_IndexFunc_s_byte_byte
def nd : Nat → C
  | 0 => .seq (.reg [.mv 4 (.i (-1))]) (.ret)
  | 1 => .gh [.ks 0 [0, 1, 7, 8]] (.m 3)
  | 2 => .seq (.blk 1 (.seq (.reg [.mv 10 (.s 8), .mv 5 (.s 10)]) (.seq (.reg [.mv 11 (.s 1), .mv 12 (.s 0), .mv 13 (.s 5), .ia 14 1 (.s 12) (.s 13), .ld 15 (.s 14), .callvp (some 16) (.s 11) [(.s 15)]]) (.cond (.s 16) (.seq (.reg [.mv 17 (.s 5), .mv 4 (.s 17)]) (.ret)) (.skip))))) (.reg [.bin 18 .add (.s 8) (.i 1), .mv 8 (.s 18)])
  | 3 => .seq (.reg [.bin 9 .lss (.s 8) (.s 7)]) (.seq (.cond (.s 9) (.skip) (.exit 0)) (.n 2))
  | _ => .skip
def body : C := .seq (.reg [.mv 4 (.i 0)]) (.seq (.seq (.reg [.mv 6 (.s 0), .len 7 (.s 6), .mv 8 (.i 0)]) (.blk 0 (.loop (.n 1)))) (.n 0))
def rs : List RV := [.t 4]
attribute [push_cast] nd body
theorem ok : okF prog n_slices_IndexFunc_s_byte_byte nd body 2 rs = true := by kernel_rfl
abbrev L3 (v0 v1 v7 v8 : V) (B : Nat) (H : List Ob) (Q : X → T → List Ob → Prop) : Prop := Run prog nd B [.c (.m 3), .c (.loop (.n 1)), .mk 0, .c (.n 0)] [(0, v0), (1, v1), (7, v7), (8, v8)] H Q
theorem G3 {v0 v1 v7 v8 : V} {B : Nat} {H : List Ob} {Q : X → T → List Ob → Prop} (h : Run prog nd B [.c (nd 3), .c (.loop (.n 1)), .mk 0, .c (.n 0)] [(0, v0), (1, v1), (7, v7), (8, v8)] H Q) : L3 v0 v1 v7 v8 B H Q := run_m.2 h
end slices_IndexFunc_s_byte_byte
namespace r01_Insert
def nd : Nat → C
  | 0 => .seq (.dr [0, 1, 2, 3, 4, 5, 6, 7, 8, 9, 10, 11, 12] [.bo 34 t_string 1 [], .mv 35 (.s 0), .mv 36 (.s 5), .sx 37 1 (.s 35) none (some (.s 36)), .app 38 t_string 1 16 (.s 34) (.s 37), .mv 39 (.s 1), .bs 40 1 [(.s 39)], .app 41 t_string 1 16 (.s 38) (.s 40), .mv 42 (.s 0), .mv 43 (.s 5), .sx 44 1 (.s 42) (some (.s 43)) none, .app 45 t_string 1 16 (.s 41) (.s 44), .mv 4 (.s 45)]) (.ret)
  | 1 => .seq (.seq (.reg [.mv 21 (.s 5), .mv 22 (.s 0), .len 23 (.s 22), .bin 24 .lss (.s 21) (.s 23), .mv 25 (.s 24), .gd (.s 25) true [26, 27, 28, 29, 30, 31] [.mv 26 (.s 0), .mv 27 (.s 5), .ia 28 1 (.s 26) (.s 27), .ld 29 (.s 28), .mv 30 (.s 1), .bin 31 .eql (.s 29) (.s 30)], .pick 32 (.s 25) (.s 31) (.c (.bool false))]) (.cond (.s 32) (.seq (.reg [.mv 33 (.s 0), .mv 4 (.s 33)]) (.ret)) (.skip))) (.n 0)
  | 2 => .gh [.ks 0 [0, 1, 5]] (.m 4)
  | 3 => .blk 1 (.reg [.mv 19 (.s 5), .bin 20 .add (.s 19) (.i 1), .mv 5 (.s 20)])
  | 4 => .seq (.seq (.reg [.mv 6 (.s 5), .mv 7 (.s 0), .len 8 (.s 7), .bin 9 .lss (.s 6) (.s 8), .mv 10 (.s 9), .gd (.s 10) true [11, 12, 13, 14, 15, 16, 17] [.mv 11 (.s 0), .mv 12 (.s 5), .ia 13 1 (.s 11) (.s 12), .ld 14 (.s 13), .mv 15 (.s 1), .callp (some 16) n_r01_CompareNames [(.s 14), (.s 15)], .bin 17 .lss (.s 16) (.i 0)], .pick 18 (.s 10) (.s 17) (.c (.bool false))]) (.cond (.s 18) (.skip) (.exit 0))) (.n 3)
  | _ => .skip
def body : C := .seq (.reg [.mv 4 (.c (.sl 1 []))]) (.seq (.reg [.mv 5 (.i 0)]) (.seq (.blk 0 (.loop (.n 2))) (.n 1)))
def rs : List RV := [.t 4]
attribute [push_cast] nd body
theorem ok : okF prog n_r01_Insert nd body 2 rs = true := by kernel_rfl
abbrev L4 (v0 v1 v5 : V) (B : Nat) (H : List Ob) (Q : X → T → List Ob → Prop) : Prop := Run prog nd B [.c (.m 4), .c (.loop (.n 2)), .mk 0, .c (.n 1)] [(0, v0), (1, v1), (5, v5)] H Q
theorem G4 {v0 v1 v5 : V} {B : Nat} {H : List Ob} {Q : X → T → List Ob → Prop} (h : Run prog nd B [.c (nd 4), .c (.loop (.n 2)), .mk 0, .c (.n 1)] [(0, v0), (1, v1), (5, v5)] H Q) : L4 v0 v1 v5 B H Q := run_m.2 h
end r01_Insert
namespace stringslite_HasSuffix
def nd (_ : Nat) : C := .skip
def body : C := .seq (.reg [.mv 4 (.c (.bool false))]) (.seq (.reg [.mv 5 (.s 0), .lens 6 (.s 5), .mv 7 (.s 1), .lens 8 (.s 7), .bin 9 .geq (.s 6) (.s 8), .mv 10 (.s 9), .gd (.s 10) true [11, 12, 13, 14, 15, 16, 17, 18, 19] [.mv 11 (.s 0), .mv 12 (.s 0), .lens 13 (.s 12), .mv 14 (.s 1), .lens 15 (.s 14), .bin 16 .sub (.s 13) (.s 15), .sxs 17 (.s 11) (some (.s 16)) none, .mv 18 (.s 1), .bin 19 .eql (.s 17) (.s 18)], .pick 20 (.s 10) (.s 19) (.c (.bool false)), .mv 4 (.s 20)]) (.ret))
def rs : List RV := [.t 4]
attribute [push_cast] nd body
theorem ok : okF prog n_stringslite_HasSuffix nd body 2 rs = true := by kernel_rfl
end stringslite_HasSuffix
namespace slices_Index_s_string_string
def nd : Nat → C
  | 0 => .seq (.reg [.mv 4 (.i (-1))]) (.ret)
  | 1 => .gh [.ks 0 [0, 1, 7, 8]] (.m 3)
  | 2 => .seq (.blk 1 (.seq (.reg [.mv 10 (.s 8), .mv 5 (.s 10)]) (.seq (.reg [.mv 11 (.s 1), .mv 12 (.s 0), .mv 13 (.s 5), .ia 14 1 (.s 12) (.s 13), .ld 15 (.s 14), .bin 16 .eql (.s 11) (.s 15)]) (.cond (.s 16) (.seq (.reg [.mv 17 (.s 5), .mv 4 (.s 17)]) (.ret)) (.skip))))) (.reg [.bin 18 .add (.s 8) (.i 1), .mv 8 (.s 18)])
  | 3 => .seq (.reg [.bin 9 .lss (.s 8) (.s 7)]) (.seq (.cond (.s 9) (.skip) (.exit 0)) (.n 2))
  | _ => .skip
def body : C := .seq (.reg [.mv 4 (.i 0)]) (.seq (.seq (.reg [.mv 6 (.s 0), .len 7 (.s 6), .mv 8 (.i 0)]) (.blk 0 (.loop (.n 1)))) (.n 0))
def rs : List RV := [.t 4]
attribute [push_cast] nd body
theorem ok : okF prog n_slices_Index_s_string_string nd body 2 rs = true := by kernel_rfl
abbrev L3 (v0 v1 v7 v8 : V) (B : Nat) (H : List Ob) (Q : X → T → List Ob → Prop) : Prop := Run prog nd B [.c (.m 3), .c (.loop (.n 1)), .mk 0, .c (.n 0)] [(0, v0), (1, v1), (7, v7), (8, v8)] H Q
theorem G3 {v0 v1 v7 v8 : V} {B : Nat} {H : List Ob} {Q : X → T → List Ob → Prop} (h : Run prog nd B [.c (nd 3), .c (.loop (.n 1)), .mk 0, .c (.n 0)] [(0, v0), (1, v1), (7, v7), (8, v8)] H Q) : L3 v0 v1 v7 v8 B H Q := run_m.2 h
end slices_Index_s_string_string
namespace slices_IndexFunc_s_Term_Term
def nd : Nat → C
  | 0 => .seq (.reg [.mv 4 (.i (-1))]) (.ret)
  | 1 => .gh [.ks 0 [0, 1, 7, 8]] (.m 3)
  | 2 => .seq (.blk 1 (.seq (.reg [.mv 10 (.s 8), .mv 5 (.s 10)]) (.seq (.reg [.mv 11 (.s 1), .mv 12 (.s 0), .mv 13 (.s 5), .ia 14 3 (.s 12) (.s 13), .la 15 3 (.s 14), .callvp (some 16) (.s 11) [(.s 15)]]) (.cond (.s 16) (.seq (.reg [.mv 17 (.s 5), .mv 4 (.s 17)]) (.ret)) (.skip))))) (.reg [.bin 18 .add (.s 8) (.i 1), .mv 8 (.s 18)])
  | 3 => .seq (.reg [.bin 9 .lss (.s 8) (.s 7)]) (.seq (.cond (.s 9) (.skip) (.exit 0)) (.n 2))
  | _ => .skip
def body : C := .seq (.reg [.mv 4 (.i 0)]) (.seq (.seq (.reg [.mv 6 (.s 0), .len 7 (.s 6), .mv 8 (.i 0)]) (.blk 0 (.loop (.n 1)))) (.n 0))
def rs : List RV := [.t 4]
attribute [push_cast] nd body
theorem ok : okF prog n_slices_IndexFunc_s_Term_Term nd body 2 rs = true := by kernel_rfl
abbrev L3 (v0 v1 v7 v8 : V) (B : Nat) (H : List Ob) (Q : X → T → List Ob → Prop) : Prop := Run prog nd B [.c (.m 3), .c (.loop (.n 1)), .mk 0, .c (.n 0)] [(0, v0), (1, v1), (7, v7), (8, v8)] H Q
theorem G3 {v0 v1 v7 v8 : V} {B : Nat} {H : List Ob} {Q : X → T → List Ob → Prop} (h : Run prog nd B [.c (nd 3), .c (.loop (.n 1)), .mk 0, .c (.n 0)] [(0, v0), (1, v1), (7, v7), (8, v8)] H Q) : L3 v0 v1 v7 v8 B H Q := run_m.2 h
end slices_IndexFunc_s_Term_Term
namespace slices_BinarySearchFunc_s_Bind_Bind_string
def nd : Nat → C
  | 0 => .seq (.reg [.mv 35 (.s 9), .mv 36 (.s 9), .mv 37 (.s 8), .bin 38 .lss (.s 36) (.s 37), .mv 39 (.s 38), .gd (.s 39) true [40, 41, 42, 43, 44, 45, 46, 47] [.mv 40 (.s 2), .mv 41 (.s 0), .mv 42 (.s 9), .ia 43 4 (.s 41) (.s 42), .la 44 4 (.s 43), .mv 45 (.s 1), .callvp (some 46) (.s 40) [(.s 44), (.s 45)], .bin 47 .eql (.s 46) (.i 0)], .pick 48 (.s 39) (.s 47) (.c (.bool false)), .mv 6 (.s 35), .mv 7 (.s 48)]) (.ret)
  | 1 => .gh [.ks 0 [0, 1, 2, 8, 9, 10]] (.m 3)
  | 2 => .blk 1 (.seq (.reg [.mv 18 (.s 9), .mv 19 (.s 10), .bin 20 .add (.s 18) (.s 19), .cvi 21 .u64 (.s 20), .sh 22 .shr (.s 21) (.c (.int .u64 1)), .cvi 23 .i64 (.s 22), .mv 11 (.s 23)]) (.seq (.reg [.mv 24 (.s 2), .mv 25 (.s 0), .mv 26 (.s 11), .ia 27 4 (.s 25) (.s 26), .la 28 4 (.s 27), .mv 29 (.s 1), .callvp (some 30) (.s 24) [(.s 28), (.s 29)], .bin 31 .lss (.s 30) (.i 0)]) (.cond (.s 31) (.reg [.mv 32 (.s 11), .bin 33 .add (.s 32) (.i 1), .mv 9 (.s 33)]) (.reg [.mv 34 (.s 11), .mv 10 (.s 34)]))))
  | 3 => .seq (.seq (.reg [.mv 15 (.s 9), .mv 16 (.s 10), .bin 17 .lss (.s 15) (.s 16)]) (.cond (.s 17) (.skip) (.exit 0))) (.n 2)
  | _ => .skip
def body : C := .seq (.reg [.mv 6 (.i 0), .mv 7 (.c (.bool false))]) (.seq (.reg [.mv 12 (.s 0), .len 13 (.s 12), .mv 8 (.s 13)]) (.seq (.reg [.mv 14 (.s 8), .mv 9 (.i 0), .mv 10 (.s 14)]) (.seq (.blk 0 (.loop (.n 1))) (.n 0))))
def rs : List RV := [.t 6, .t 7]
attribute [push_cast] nd body
theorem ok : okF prog n_slices_BinarySearchFunc_s_Bind_Bind_string nd body 3 rs = true := by kernel_rfl
abbrev L3 (v0 v1 v2 v8 v9 v10 : V) (B : Nat) (H : List Ob) (Q : X → T → List Ob → Prop) : Prop := Run prog nd B [.c (.m 3), .c (.loop (.n 1)), .mk 0, .c (.n 0)] [(0, v0), (1, v1), (2, v2), (8, v8), (9, v9), (10, v10)] H Q
theorem G3 {v0 v1 v2 v8 v9 v10 : V} {B : Nat} {H : List Ob} {Q : X → T → List Ob → Prop} (h : Run prog nd B [.c (nd 3), .c (.loop (.n 1)), .mk 0, .c (.n 0)] [(0, v0), (1, v1), (2, v2), (8, v8), (9, v9), (10, v10)] H Q) : L3 v0 v1 v2 v8 v9 v10 B H Q := run_m.2 h
end slices_BinarySearchFunc_s_Bind_Bind_string
namespace term_Image_1
def nd (_ : Nat) : C := .skip
def body : C := .seq (.reg [.br 2 t_Bind (.s 0), .mv 4 (.i 0)]) (.seq (.reg [.fa 5 0 (.s 2), .ld 6 (.s 5), .mv 7 (.s 1), .callp (some 8) n_strings_Compare [(.s 6), (.s 7)], .mv 4 (.s 8)]) (.ret))
def rs : List RV := [.t 4]
attribute [push_cast] nd body
theorem ok : okF prog n_term_Image_1 nd body 2 rs = true := by kernel_rfl
end term_Image_1
namespace strings_Compare
def nd (_ : Nat) : C := .skip
def body : C := .seq (.reg [.mv 4 (.i 0)]) (.seq (.reg [.mv 5 (.s 0), .mv 6 (.s 1), .callp (some 7) n_bytealg_CompareString [(.s 5), (.s 6)], .mv 4 (.s 7)]) (.ret))
def rs : List RV := [.t 4]
attribute [push_cast] nd body
theorem ok : okF prog n_strings_Compare nd body 2 rs = true := by kernel_rfl
end strings_Compare
namespace r02_blank
def nd (_ : Nat) : C := .skip
def body : C := .seq (.reg [.mv 2 (.c (.bool false))]) (.seq (.reg [.mv 3 (.s 0), .bin 4 .eql (.s 3) (.c (.int .u8 32)), .mv 5 (.s 4), .gd (.s 5) false [6, 7] [.mv 6 (.s 0), .bin 7 .eql (.s 6) (.c (.int .u8 9))], .pick 8 (.s 5) (.c (.bool true)) (.s 7), .mv 9 (.s 8), .gd (.s 9) false [10, 11] [.mv 10 (.s 0), .bin 11 .eql (.s 10) (.c (.int .u8 13))], .pick 12 (.s 9) (.c (.bool true)) (.s 11), .mv 13 (.s 12), .gd (.s 13) false [14, 15] [.mv 14 (.s 0), .bin 15 .eql (.s 14) (.c (.int .u8 10))], .pick 16 (.s 13) (.c (.bool true)) (.s 15), .mv 2 (.s 16)]) (.ret))
def rs : List RV := [.t 2]
attribute [push_cast] nd body
theorem ok : okF prog n_r02_blank nd body 1 rs = true := by kernel_rfl
end r02_blank
namespace r02_part
def nd (_ : Nat) : C := .skip
def body : C := .seq (.reg [.mv 2 (.c (.bool false))]) (.seq (.reg [.mv 3 (.s 0), .bs 4 1 [(.s 3)], .b2s 5 (.s 4), .callp (some 6) n_r01_Letters [(.s 5)], .mv 7 (.s 6), .gd (.s 7) false [8, 9] [.mv 8 (.s 0), .bin 9 .eql (.s 8) (.c (.int .u8 35))], .pick 10 (.s 7) (.c (.bool true)) (.s 9), .mv 2 (.s 10)]) (.ret))
def rs : List RV := [.t 2]
attribute [push_cast] nd body
theorem ok : okF prog n_r02_part nd body 1 rs = true := by kernel_rfl
end r02_part
namespace unify_bind_1
def nd (_ : Nat) : C := .skip
def body : C := .seq (.reg [.br 2 t_Bind (.s 0), .mv 4 (.i 0)]) (.seq (.reg [.fa 5 0 (.s 2), .ld 6 (.s 5), .mv 7 (.s 1), .callp (some 8) n_strings_Compare [(.s 6), (.s 7)], .mv 4 (.s 8)]) (.ret))
def rs : List RV := [.t 4]
attribute [push_cast] nd body
theorem ok : okF prog n_unify_bind_1 nd body 2 rs = true := by kernel_rfl
end unify_bind_1
namespace bytealg_CompareString
def nd (_ : Nat) : C := .skip
def body : C := .seq (.reg [.mv 4 (.i 0)]) (.seq (.reg [.mv 5 (.s 0), .mv 6 (.s 1), .callp (some 7) n_bytealg_abigen_runtime_cmpstring [(.s 5), (.s 6)], .mv 4 (.s 7)]) (.ret))
def rs : List RV := [.t 4]
attribute [push_cast] nd body
theorem ok : okF prog n_bytealg_CompareString nd body 2 rs = true := by kernel_rfl
end bytealg_CompareString
end Go.Dw
