/-
  THE EXECUTOR's TABLE OF TYPES for this program (made by tools/gen_ty.py), and that it is the program's own.
-/
import Derived.Test.YgvalwGreatXk
import Derived.Test.YgvalwGreatProg
import Derived.KernelRfl
set_option linter.unusedVariables false
set_option linter.unusedSimpArgs false
namespace Go.Proofs.YgvalwGreat.X
open Go
def fd (o t : Nat) : Field := { name := "", type := t, offset := o, embedded := false, tag := "", pkgPath := "", byteOffset := 0 }
def lk : List (Nat × Ty) → Nat → Option Ty
  | [], _ => none
  | p :: l, t => bif Nat.beq p.1 t then some p.2 else lk l t

def z5 : List Value := [Value.int IntKind.u8 0]
def z24 : List Value := [Value.int IntKind.u64 0]
def z3 : List Value := [Value.int IntKind.i64 0]
def z75 : List Value := [Value.int IntKind.u64 0, Value.int IntKind.u64 0, Value.int IntKind.u64 0, Value.int IntKind.u64 0]
def z31 : List Value := zeros z5 20
def z23 : List Value := [Value.slice none 0 0]
def z4 : List Value := [Value.bool false]
def z106 : List Value := [Value.slice none 0 0]
def z49 : List Value := [Value.int IntKind.u16 0]
def z21 : List Value := [Value.int IntKind.i32 0]
def z78 : List Value := [Value.int IntKind.u64 0, Value.int IntKind.u64 0, Value.int IntKind.u64 0, Value.int IntKind.u64 0, Value.int IntKind.u64 0, Value.int IntKind.u64 0, Value.int IntKind.u64 0, Value.int IntKind.u64 0]
def z70 : List Value := [Value.int IntKind.u32 0]
def z80 : List Value := List.flatten [z5, z5, z5, z4, z49, z49, z49, z24, z21, z31, z31, z75, z23, z23, z78, z70, z70]
def z133 : List Value := [Value.slice none 0 0]
def z103 : List Value := [Value.slice none 0 0]
def z104 : List Value := [Value.slice none 0 0]
def z105 : List Value := [Value.slice none 0 0]
def z90 : List Value := [Value.slice none 0 0]
def z107 : List Value := [Value.slice none 0 0]
def z109 : List Value := List.flatten [z103, z104, z105, z106, z90, z107, z104, z104]
def z135 : List Value := List.flatten [z5, z5, z4, z106, z106, z106, z106, z106, z133, z23, z23, z23, z31, z31, z109]
def z69 : List Value := [Value.pointer none]
def z71 : List Value := [Value.int IntKind.u32 0, Value.int IntKind.u32 0, Value.int IntKind.u32 0, Value.int IntKind.u32 0, Value.int IntKind.u32 0, Value.int IntKind.u32 0, Value.int IntKind.u32 0, Value.int IntKind.u32 0]
def z73 : List Value := List.flatten [z23, z71, z5]
def z76 : List Value := zeros z75 448
def z81 : List Value := zeros z80 7
def z82 : List Value := [Value.int IntKind.i8 0]
def z33 : List Value := zeros z5 32
def z34 : List Value := [Value.slice none 0 0]
def z36 : List Value := List.flatten [z31, z24, z24, z24, z33, z33, z33, z34]
def z84 : List Value := List.flatten [z69, z73, z76, z81, z82, z23, z36, z31, z75, z5, z5, z5, z24, z24, z75, z21, z21, z31]
def z85 : List Value := [Value.slice none 0 0]
def z86 : List Value := [Value.slice none 0 0]
def z87 : List Value := zeros z21 4096
def z88 : List Value := [Value.slice none 0 0]
def z89 : List Value := zeros z21 16384
def z91 : List Value := [Value.slice none 0 0]
def z92 : List Value := [Value.slice none 0 0]
def z94 : List Value := List.flatten [z85, z86, z87, z87, z88, z89, z21, z24, z90, z91, z92]
def z110 : List Value := [Value.slice none 0 0]
def z111 : List Value := [Value.slice none 0 0]
def z113 : List Value := List.flatten [z109, z110, z111, z23, z5, z5, z5, z106, z106, z106, z106, z106, z31, z31, z36]
def z116 : List Value := [Value.slice none 0 0]
def z118 : List Value := List.flatten [z31, z106, z106, z23, z116]
def z32 : List Value := zeros z5 32
def z38 : List Value := [Value.slice none 0 0]
def z40 : List Value := List.flatten [z31, z31, z4, z24, z24, z33, z33, z23, z4, z33, z33, z38]
def z186 : List Value := [Value.int IntKind.u64 0]
def z290 : List Value := zeros z24 25
def z51 : List Value := List.flatten [z4, z4, z5, z49, z24, z24, z31, z31, z34, z23, z23, z49]
def z317 : List Value := [Value.int IntKind.u64 0, Value.int IntKind.u64 0, Value.int IntKind.u64 0, Value.int IntKind.u64 0, Value.int IntKind.u64 0, Value.int IntKind.u64 0, Value.int IntKind.u64 0, Value.int IntKind.u64 0]
def z196 : List Value := [Value.pointer none]
def z378 : List Value := List.flatten [z5, z5, z5]
def z289 : List Value := [Value.slice none 0 0]
def z286 : List Value := List.flatten [z31, z34, z23]
def z250 : List Value := List.flatten [z5, z21, z24, z75, z23, z4]
def z367 : List Value := zeros z4 64
def z368 : List Value := zeros z367 5
def z370 : List Value := zeros z368 5
def z55 : List Value := [Value.slice none 0 0]
def z57 : List Value := List.flatten [z31, z24, z33, z23, z55]
def z230 : List Value := List.flatten [z31, z24, z75, z23, z4, z4, z4]
def z77 : List Value := [Value.int IntKind.u64 0, Value.int IntKind.u64 0, Value.int IntKind.u64 0, Value.int IntKind.u64 0, Value.int IntKind.u64 0, Value.int IntKind.u64 0, Value.int IntKind.u64 0, Value.int IntKind.u64 0]
def z131 : List Value := List.flatten [z31, z34]
def z125 : List Value := List.flatten [z106, z106]
def z263 : List Value := List.flatten [z31, z106, z106]
def z258 : List Value := [Value.int IntKind.u8 0, Value.int IntKind.u8 0, Value.int IntKind.u8 0, Value.int IntKind.u8 0, Value.int IntKind.u8 0, Value.int IntKind.u8 0, Value.int IntKind.u8 0, Value.int IntKind.u8 0]
def z376 : List Value := zeros z24 16
def z190 : List Value := List.flatten [z31, z106]
def z27 : List Value := [Value.slice none 0 0]
def z300 : List Value := [Value.slice none 0 0]
def z9 : List Value := [Value.string ⟨#[]⟩]
def z233 : List Value := List.flatten [z21, z75, z75, z75, z4]
def z426 : List Value := [Value.bool false, Value.bool false, Value.bool false, Value.bool false, Value.bool false, Value.bool false, Value.bool false, Value.bool false]
def z159 : List Value := List.flatten [z33, z33]
def z2 : List Value := [Value.int IntKind.i64 0]
def z115 : List Value := List.flatten [z113]
def z22 : List Value := [Value.slice none 0 0]
def z95 : List Value := [Value.slice none 0 0]
def z97 : List Value := List.flatten [z95, z21]
def z99 : List Value := List.flatten [z97, z21, z92, z4]
def z101 : List Value := List.flatten [z84, z94, z99]
def z127 : List Value := List.flatten [z31, z106, z106]
def z294 : List Value := zeros z5 136
def z401 : List Value := List.flatten [z21, z75, z75]
def z301 : List Value := zeros z4 1600
def z321 : List Value := zeros z5 64
def z399 : List Value := zeros z5 85
def z412 : List Value := zeros z24 17
def z432 : List Value := zeros z24 9
def z350 : List Value := [Value.int IntKind.u64 0, Value.int IntKind.u64 0, Value.int IntKind.u64 0]
def z375 : List Value := [Value.int IntKind.i64 0, Value.int IntKind.i64 0, Value.int IntKind.i64 0]
def z43 : List Value := [Value.pointer none]
def z292 : List Value := [Value.pointer none]
def z303 : List Value := [Value.pointer none]
def z320 : List Value := [Value.pointer none]
def z364 : List Value := [Value.pointer none]
def z416 : List Value := [Value.pointer none]
def z418 : List Value := [Value.pointer none]
def z424 : List Value := zeros z24 24
def z434 : List Value := [Value.pointer none]
def z456 : List Value := zeros z21 16
def z458 : List Value := List.flatten [z32, z5, z456, z23, z32, z5]
def y5 : Ty := ⟨.int .u8, false, 1, 1, z5⟩
def y24 : Ty := ⟨.int .u64, false, 1, 8, z24⟩
def y3 : Ty := ⟨.int .i64, false, 1, 8, z3⟩
def y75 : Ty := ⟨.array 4 24, true, 4, 32, z75⟩
def y31 : Ty := ⟨.array 20 5, true, 20, 20, z31⟩
def y23 : Ty := ⟨.slice 5, false, 1, 24, z23⟩
def y4 : Ty := ⟨.bool, false, 1, 1, z4⟩
def y106 : Ty := ⟨.slice 5, false, 1, 24, z106⟩
def y80 : Ty := ⟨.struct #[fd 0 5, fd 1 5, fd 2 5, fd 3 4, fd 4 49, fd 5 49, fd 6 49, fd 7 24, fd 8 21, fd 9 31, fd 29 31, fd 49 75, fd 53 23, fd 54 23, fd 55 78, fd 63 70, fd 64 70], true, 65, 224, z80⟩
def y135 : Ty := ⟨.struct #[fd 0 5, fd 1 5, fd 2 4, fd 3 106, fd 4 106, fd 5 106, fd 6 106, fd 7 106, fd 8 133, fd 9 23, fd 10 23, fd 11 23, fd 12 31, fd 32 31, fd 52 109], true, 60, 456, z135⟩
def y84 : Ty := ⟨.struct #[fd 0 69, fd 1 73, fd 11 76, fd 1803 81, fd 2258 82, fd 2259 23, fd 2260 36, fd 2380 31, fd 2400 75, fd 2404 5, fd 2405 5, fd 2406 5, fd 2407 24, fd 2408 24, fd 2409 75, fd 2413 21, fd 2414 21, fd 2415 31], true, 2435, 16320, z84⟩
def y49 : Ty := ⟨.int .u16, false, 1, 2, z49⟩
def y21 : Ty := ⟨.int .i32, false, 1, 4, z21⟩
def y94 : Ty := ⟨.struct #[fd 0 85, fd 1 86, fd 2 87, fd 4098 87, fd 8194 88, fd 8195 89, fd 24579 21, fd 24580 24, fd 24581 90, fd 24582 91, fd 24583 92], true, 24584, 98464, z94⟩
def y113 : Ty := ⟨.struct #[fd 0 109, fd 8 110, fd 9 111, fd 10 23, fd 11 5, fd 12 5, fd 13 5, fd 14 106, fd 15 106, fd 16 106, fd 17 106, fd 18 106, fd 19 31, fd 39 31, fd 59 36], true, 179, 600, z113⟩
def y82 : Ty := ⟨.int .i8, false, 1, 1, z82⟩
def y118 : Ty := ⟨.struct #[fd 0 31, fd 20 106, fd 21 106, fd 22 23, fd 23 116], true, 24, 120, z118⟩
def y32 : Ty := ⟨.array 32 5, true, 32, 32, z32⟩
def y40 : Ty := ⟨.struct #[fd 0 31, fd 20 31, fd 40 4, fd 41 24, fd 42 24, fd 43 33, fd 75 33, fd 107 23, fd 108 4, fd 109 33, fd 141 33, fd 173 38], true, 174, 248, z40⟩
def y33 : Ty := ⟨.array 32 5, true, 32, 32, z33⟩
def y34 : Ty := ⟨.slice 33, false, 1, 24, z34⟩
def y186 : Ty := ⟨.int .u64, false, 1, 8, z186⟩
def y69 : Ty := ⟨.pointer 94, false, 1, 8, z69⟩
def y290 : Ty := ⟨.array 25 24, true, 25, 200, z290⟩
def y70 : Ty := ⟨.int .u32, false, 1, 4, z70⟩
def y88 : Ty := ⟨.slice 250, false, 1, 24, z88⟩
def y133 : Ty := ⟨.slice 106, false, 1, 24, z133⟩
def y51 : Ty := ⟨.struct #[fd 0 4, fd 1 4, fd 2 5, fd 3 49, fd 4 24, fd 5 24, fd 6 31, fd 26 31, fd 46 34, fd 47 23, fd 48 23, fd 49 49], true, 50, 144, z51⟩
def y85 : Ty := ⟨.slice 230, false, 1, 24, z85⟩
def y109 : Ty := ⟨.struct #[fd 0 103, fd 1 104, fd 2 105, fd 3 106, fd 4 90, fd 5 107, fd 6 104, fd 7 104], true, 8, 192, z109⟩
def y36 : Ty := ⟨.struct #[fd 0 31, fd 20 24, fd 21 24, fd 22 24, fd 23 33, fd 55 33, fd 87 33, fd 119 34], true, 120, 168, z36⟩
def y317 : Ty := ⟨.array 8 24, true, 8, 64, z317⟩
def y196 : Ty := ⟨.pointer 80, false, 1, 8, z196⟩
def y378 : Ty := ⟨.struct #[fd 0 5, fd 1 5, fd 2 5], true, 3, 3, z378⟩
def y111 : Ty := ⟨.slice 135, false, 1, 24, z111⟩
def y86 : Ty := ⟨.slice 233, false, 1, 24, z86⟩
def y289 : Ty := ⟨.slice 24, false, 1, 24, z289⟩
def y286 : Ty := ⟨.struct #[fd 0 31, fd 20 34, fd 21 23], true, 22, 72, z286⟩
def y116 : Ty := ⟨.slice 125, false, 1, 24, z116⟩
def y103 : Ty := ⟨.slice 118, false, 1, 24, z103⟩
def y90 : Ty := ⟨.slice 286, false, 1, 24, z90⟩
def y250 : Ty := ⟨.struct #[fd 0 5, fd 1 21, fd 2 24, fd 3 75, fd 7 23, fd 8 4], true, 9, 80, z250⟩
def y370 : Ty := ⟨.array 5 368, true, 1600, 1600, z370⟩
def y104 : Ty := ⟨.slice 31, false, 1, 24, z104⟩
def y57 : Ty := ⟨.struct #[fd 0 31, fd 20 24, fd 21 33, fd 53 23, fd 54 55], true, 55, 112, z57⟩
def y230 : Ty := ⟨.struct #[fd 0 31, fd 20 24, fd 21 75, fd 25 23, fd 26 4, fd 27 4, fd 28 4], true, 29, 96, z230⟩
def y77 : Ty := ⟨.array 8 24, true, 8, 64, z77⟩
def y105 : Ty := ⟨.slice 190, false, 1, 24, z105⟩
def y107 : Ty := ⟨.slice 263, false, 1, 24, z107⟩
def y73 : Ty := ⟨.struct #[fd 0 23, fd 1 71, fd 9 5], true, 10, 64, z73⟩
def y131 : Ty := ⟨.struct #[fd 0 31, fd 20 34], true, 21, 48, z131⟩
def y91 : Ty := ⟨.slice 401, false, 1, 24, z91⟩
def y125 : Ty := ⟨.struct #[fd 0 106, fd 1 106], true, 2, 48, z125⟩
def y263 : Ty := ⟨.struct #[fd 0 31, fd 20 106, fd 21 106], true, 22, 72, z263⟩
def y258 : Ty := ⟨.array 8 5, true, 8, 8, z258⟩
def y367 : Ty := ⟨.array 64 4, true, 64, 64, z367⟩
def y376 : Ty := ⟨.array 16 24, true, 16, 128, z376⟩
def y190 : Ty := ⟨.struct #[fd 0 31, fd 20 106], true, 21, 48, z190⟩
def y368 : Ty := ⟨.array 5 367, true, 320, 320, z368⟩
def y27 : Ty := ⟨.slice 57, false, 1, 24, z27⟩
def y300 : Ty := ⟨.slice 4, false, 1, 24, z300⟩
def y55 : Ty := ⟨.slice 159, false, 1, 24, z55⟩
def y9 : Ty := ⟨.string, false, 1, 16, z9⟩
def y38 : Ty := ⟨.slice 131, false, 1, 24, z38⟩
def y233 : Ty := ⟨.struct #[fd 0 21, fd 1 75, fd 5 75, fd 9 75, fd 13 4], true, 14, 112, z233⟩
def y92 : Ty := ⟨.slice 21, false, 1, 24, z92⟩
def y426 : Ty := ⟨.array 8 4, true, 8, 8, z426⟩
def y159 : Ty := ⟨.struct #[fd 0 33, fd 32 33], true, 64, 64, z159⟩
def y2 : Ty := ⟨.int .i64, false, 1, 8, z2⟩
def y78 : Ty := ⟨.array 8 24, true, 8, 64, z78⟩
def y115 : Ty := ⟨.struct #[fd 0 113], true, 179, 600, z115⟩
def y81 : Ty := ⟨.array 7 80, true, 455, 1568, z81⟩
def y110 : Ty := ⟨.slice 127, false, 1, 24, z110⟩
def y22 : Ty := ⟨.slice 23, false, 1, 24, z22⟩
def y76 : Ty := ⟨.array 448 75, true, 1792, 14336, z76⟩
def y101 : Ty := ⟨.struct #[fd 0 84, fd 2435 94, fd 27019 99], true, 27024, 114856, z101⟩
def y127 : Ty := ⟨.struct #[fd 0 31, fd 20 106, fd 21 106], true, 22, 72, z127⟩
def y294 : Ty := ⟨.array 136 5, true, 136, 136, z294⟩
def y401 : Ty := ⟨.struct #[fd 0 21, fd 1 75, fd 5 75], true, 9, 72, z401⟩
def y71 : Ty := ⟨.array 8 70, true, 8, 32, z71⟩
def y87 : Ty := ⟨.array 4096 21, true, 4096, 16384, z87⟩
def y301 : Ty := ⟨.array 1600 4, true, 1600, 1600, z301⟩
def y321 : Ty := ⟨.array 64 5, true, 64, 64, z321⟩
def y399 : Ty := ⟨.array 85 5, true, 85, 85, z399⟩
def y412 : Ty := ⟨.array 17 24, true, 17, 136, z412⟩
def y432 : Ty := ⟨.array 9 24, true, 9, 72, z432⟩
def y350 : Ty := ⟨.array 3 24, true, 3, 24, z350⟩
def y375 : Ty := ⟨.array 3 3, true, 3, 24, z375⟩
def y43 : Ty := ⟨.pointer 101, false, 1, 8, z43⟩
def y89 : Ty := ⟨.array 16384 21, true, 16384, 65536, z89⟩
def y292 : Ty := ⟨.pointer 290, false, 1, 8, z292⟩
def y303 : Ty := ⟨.pointer 301, false, 1, 8, z303⟩
def y320 : Ty := ⟨.pointer 317, false, 1, 8, z320⟩
def y364 : Ty := ⟨.pointer 75, false, 1, 8, z364⟩
def y416 : Ty := ⟨.pointer 412, false, 1, 8, z416⟩
def y418 : Ty := ⟨.pointer 78, false, 1, 8, z418⟩
def y424 : Ty := ⟨.array 24 24, true, 24, 192, z424⟩
def y434 : Ty := ⟨.pointer 432, false, 1, 8, z434⟩
def y95 : Ty := ⟨.slice 458, false, 1, 24, z95⟩
def y97 : Ty := ⟨.struct #[fd 0 95, fd 1 21], true, 2, 32, z97⟩
def y99 : Ty := ⟨.struct #[fd 0 97, fd 2 21, fd 3 92, fd 4 4], true, 5, 72, z99⟩
def y456 : Ty := ⟨.array 16 21, true, 16, 64, z456⟩
def y458 : Ty := ⟨.struct #[fd 0 32, fd 32 5, fd 33 456, fd 49 23, fd 50 32, fd 82 5], true, 83, 168, z458⟩
def tl : List (Nat × Ty) := [(5, y5), (24, y24), (3, y3), (75, y75), (31, y31), (23, y23), (4, y4), (106, y106), (80, y80), (135, y135), (84, y84), (49, y49), (21, y21), (94, y94), (113, y113), (82, y82), (118, y118), (32, y32), (40, y40), (33, y33), (34, y34), (186, y186), (69, y69), (290, y290), (70, y70), (88, y88), (133, y133), (51, y51), (85, y85), (109, y109), (36, y36), (317, y317), (196, y196), (378, y378), (111, y111), (86, y86), (289, y289), (286, y286), (116, y116), (103, y103), (90, y90), (250, y250), (370, y370), (104, y104), (57, y57), (230, y230), (77, y77), (105, y105), (107, y107), (73, y73), (131, y131), (91, y91), (125, y125), (263, y263), (258, y258), (367, y367), (376, y376), (190, y190), (368, y368), (27, y27), (300, y300), (55, y55), (9, y9), (38, y38), (233, y233), (92, y92), (426, y426), (159, y159), (2, y2), (78, y78), (115, y115), (81, y81), (110, y110), (22, y22), (76, y76), (101, y101), (127, y127), (294, y294), (401, y401), (71, y71), (87, y87), (301, y301), (321, y321), (399, y399), (412, y412), (432, y432), (350, y350), (375, y375), (43, y43), (89, y89), (292, y292), (303, y303), (320, y320), (364, y364), (416, y416), (418, y418), (424, y424), (434, y434), (95, y95), (97, y97), (99, y99), (456, y456), (458, y458)]
def T : Nat → Option Ty := lk tl

def sameV : Value → Value → Bool
  | .bool a, .bool b => a == b
  | .int k a, .int k' b => decide (k = k') && decide (a = b)
  | .string a, .string b => decide (a.data.toList = [] ∧ b.data.toList = [])
  | .pointer none, .pointer none => true
  | .slice none 0 0, .slice none 0 0 => true
  | _, _ => false
theorem sameV_eq {a b : Value} (h : sameV a b = true) : a = b := by
  unfold sameV at h
  split at h
  · simp at h; rw [h]
  · simp at h; rw [h.1, h.2]
  · rename_i a b
    simp at h
    obtain ⟨⟨a⟩⟩ := a
    obtain ⟨⟨b⟩⟩ := b
    simp at h
    rw [h.1, h.2]
  · rfl
  · rfl
  · cases h
def sameL : List Value → List Value → Bool
  | [], [] => true
  | a :: as', b :: bs => sameV a b && sameL as' bs
  | _, _ => false
theorem sameL_eq : ∀ {a b : List Value}, sameL a b = true → a = b := by
  intro a
  induction a with
  | nil => intro b h; cases b with
    | nil => rfl
    | cons => simp [sameL] at h
  | cons x xs ih => intro b h; cases b with
    | nil => simp [sameL] at h
    | cons y ys =>
      simp [sameL] at h
      rw [sameV_eq h.1, ih h.2]
def chk (P : Program) (t : Nat) (y : Ty) : Bool :=
  (y.agg == (match y.desc with | .struct _ => true | .array _ _ => true | _ => false)) &&
  (match y.desc with | .int _ => y.size == 1 | _ => true) &&
  (match P.underlying t with | some (.struct fs) => (fs.toList.mapM fun f => (P.info? f.type).map fun i => (f.offset, i.size)).isSome | _ => true) &&
  (match P.info? t with
    | some i => Nat.beq i.size y.size && Nat.beq i.bytes y.bytes && (match i.zero with | some z => sameL z.cells.toList y.zero && Nat.beq y.zero.length y.size | none => false)
    | none => false)
theorem TyOk.of_chk {P : Program} {t : Nat} {y : Ty} (hc : chk P t y = true) (hu : isStruct y.desc = false → P.underlying t = some y.desc)
    (hst : ∀ fs, y.desc = .struct fs → ∃ fs', P.underlying t = some (.struct fs') ∧ flat fs' = flat fs) : TyOk P t y := by
  unfold chk at hc
  simp only [Bool.and_eq_true] at hc
  obtain ⟨⟨⟨h1, h2⟩, h3⟩, h4⟩ := hc
  have hi : ∃ i z, P.info? t = some i ∧ i.size = y.size ∧ i.bytes = y.bytes ∧ i.zero = some z ∧ z.cells = y.zero.toArray ∧ y.zero.length = y.size := by
    split at h4
    · rename_i i hi
      simp only [Bool.and_eq_true] at h4
      obtain ⟨⟨a, b⟩, c⟩ := h4
      split at c
      · rename_i z hz
        simp only [Bool.and_eq_true] at c
        refine ⟨i, z, hi, Nat.eq_of_beq_eq_true a, Nat.eq_of_beq_eq_true b, hz, ?_, Nat.eq_of_beq_eq_true c.2⟩
        have := sameL_eq c.1
        rw [← this]
      · cases c
    · cases h4
  obtain ⟨i, z, hi, e1, e2, e3, e4, e5⟩ := hi
  refine ⟨hu, hst, eq_of_beq h1, e5, ?_, ?_, i, z, hi, e1, e2, e3, e4⟩
  · intro k hk; rw [hk] at h2; simpa using h2
  · intro fs hfs; rw [hfs] at h3; exact h3
def AllOk (P : Program) : List (Nat × Ty) → Prop
  | [] => True
  | p :: l => TyOk P p.1 p.2 ∧ AllOk P l
theorem lk_ok {P : Program} : ∀ {l : List (Nat × Ty)}, AllOk P l → ∀ t y, lk l t = some y → TyOk P t y := by
  intro l
  induction l with
  | nil => intro _ t y h; simp [lk] at h
  | cons p l ih =>
    intro h t y hl
    simp only [lk] at hl
    cases hb : Nat.beq p.1 t
    · rw [hb] at hl; exact ih h.2 t y hl
    · rw [hb] at hl
      have e := Nat.eq_of_beq_eq_true hb
      simp only [cond_true, Option.some.injEq] at hl
      subst hl; subst e
      exact h.1

theorem ty5_ok : TyOk Hval.prog 5 y5 := TyOk.of_chk (by kernel_rfl) (fun _ => Hval.underlying5) (fun fs h => by cases h)
theorem ty24_ok : TyOk Hval.prog 24 y24 := TyOk.of_chk (by kernel_rfl) (fun _ => Hval.underlying24) (fun fs h => by cases h)
theorem ty3_ok : TyOk Hval.prog 3 y3 := TyOk.of_chk (by kernel_rfl) (fun _ => Hval.underlying3) (fun fs h => by cases h)
theorem ty75_ok : TyOk Hval.prog 75 y75 := TyOk.of_chk (by kernel_rfl) (fun _ => Hval.underlying75) (fun fs h => by cases h)
theorem ty31_ok : TyOk Hval.prog 31 y31 := TyOk.of_chk (by kernel_rfl) (fun _ => Hval.underlying31) (fun fs h => by cases h)
theorem ty23_ok : TyOk Hval.prog 23 y23 := TyOk.of_chk (by kernel_rfl) (fun _ => Hval.underlying23) (fun fs h => by cases h)
theorem ty4_ok : TyOk Hval.prog 4 y4 := TyOk.of_chk (by kernel_rfl) (fun _ => Hval.underlying4) (fun fs h => by cases h)
theorem ty106_ok : TyOk Hval.prog 106 y106 := TyOk.of_chk (by kernel_rfl) (fun _ => Hval.underlying106) (fun fs h => by cases h)
theorem ty80_ok : TyOk Hval.prog 80 y80 := TyOk.of_chk (by kernel_rfl) (fun h => by simp [isStruct, y80] at h) (fun fs h => by cases h; exact ⟨_, Hval.underlying80, by kernel_rfl⟩)
theorem ty135_ok : TyOk Hval.prog 135 y135 := TyOk.of_chk (by kernel_rfl) (fun h => by simp [isStruct, y135] at h) (fun fs h => by cases h; exact ⟨_, Hval.underlying135, by kernel_rfl⟩)
theorem ty84_ok : TyOk Hval.prog 84 y84 := TyOk.of_chk (by kernel_rfl) (fun h => by simp [isStruct, y84] at h) (fun fs h => by cases h; exact ⟨_, Hval.underlying84, by kernel_rfl⟩)
theorem ty49_ok : TyOk Hval.prog 49 y49 := TyOk.of_chk (by kernel_rfl) (fun _ => Hval.underlying49) (fun fs h => by cases h)
theorem ty21_ok : TyOk Hval.prog 21 y21 := TyOk.of_chk (by kernel_rfl) (fun _ => Hval.underlying21) (fun fs h => by cases h)
theorem ty94_ok : TyOk Hval.prog 94 y94 := TyOk.of_chk (by kernel_rfl) (fun h => by simp [isStruct, y94] at h) (fun fs h => by cases h; exact ⟨_, Hval.underlying94, by kernel_rfl⟩)
theorem ty113_ok : TyOk Hval.prog 113 y113 := TyOk.of_chk (by kernel_rfl) (fun h => by simp [isStruct, y113] at h) (fun fs h => by cases h; exact ⟨_, Hval.underlying113, by kernel_rfl⟩)
theorem ty82_ok : TyOk Hval.prog 82 y82 := TyOk.of_chk (by kernel_rfl) (fun _ => Hval.underlying82) (fun fs h => by cases h)
theorem ty118_ok : TyOk Hval.prog 118 y118 := TyOk.of_chk (by kernel_rfl) (fun h => by simp [isStruct, y118] at h) (fun fs h => by cases h; exact ⟨_, Hval.underlying118, by kernel_rfl⟩)
theorem ty32_ok : TyOk Hval.prog 32 y32 := TyOk.of_chk (by kernel_rfl) (fun _ => Hval.underlying32) (fun fs h => by cases h)
theorem ty40_ok : TyOk Hval.prog 40 y40 := TyOk.of_chk (by kernel_rfl) (fun h => by simp [isStruct, y40] at h) (fun fs h => by cases h; exact ⟨_, Hval.underlying40, by kernel_rfl⟩)
theorem ty33_ok : TyOk Hval.prog 33 y33 := TyOk.of_chk (by kernel_rfl) (fun _ => Hval.underlying33) (fun fs h => by cases h)
theorem ty34_ok : TyOk Hval.prog 34 y34 := TyOk.of_chk (by kernel_rfl) (fun _ => Hval.underlying34) (fun fs h => by cases h)
theorem ty186_ok : TyOk Hval.prog 186 y186 := TyOk.of_chk (by kernel_rfl) (fun _ => Hval.underlying186) (fun fs h => by cases h)
theorem ty69_ok : TyOk Hval.prog 69 y69 := TyOk.of_chk (by kernel_rfl) (fun _ => Hval.underlying69) (fun fs h => by cases h)
theorem ty290_ok : TyOk Hval.prog 290 y290 := TyOk.of_chk (by kernel_rfl) (fun _ => Hval.underlying290) (fun fs h => by cases h)
theorem ty70_ok : TyOk Hval.prog 70 y70 := TyOk.of_chk (by kernel_rfl) (fun _ => Hval.underlying70) (fun fs h => by cases h)
theorem ty88_ok : TyOk Hval.prog 88 y88 := TyOk.of_chk (by kernel_rfl) (fun _ => Hval.underlying88) (fun fs h => by cases h)
theorem ty133_ok : TyOk Hval.prog 133 y133 := TyOk.of_chk (by kernel_rfl) (fun _ => Hval.underlying133) (fun fs h => by cases h)
theorem ty51_ok : TyOk Hval.prog 51 y51 := TyOk.of_chk (by kernel_rfl) (fun h => by simp [isStruct, y51] at h) (fun fs h => by cases h; exact ⟨_, Hval.underlying51, by kernel_rfl⟩)
theorem ty85_ok : TyOk Hval.prog 85 y85 := TyOk.of_chk (by kernel_rfl) (fun _ => Hval.underlying85) (fun fs h => by cases h)
theorem ty109_ok : TyOk Hval.prog 109 y109 := TyOk.of_chk (by kernel_rfl) (fun h => by simp [isStruct, y109] at h) (fun fs h => by cases h; exact ⟨_, Hval.underlying109, by kernel_rfl⟩)
theorem ty36_ok : TyOk Hval.prog 36 y36 := TyOk.of_chk (by kernel_rfl) (fun h => by simp [isStruct, y36] at h) (fun fs h => by cases h; exact ⟨_, Hval.underlying36, by kernel_rfl⟩)
theorem ty317_ok : TyOk Hval.prog 317 y317 := TyOk.of_chk (by kernel_rfl) (fun _ => Hval.underlying317) (fun fs h => by cases h)
theorem ty196_ok : TyOk Hval.prog 196 y196 := TyOk.of_chk (by kernel_rfl) (fun _ => Hval.underlying196) (fun fs h => by cases h)
theorem ty378_ok : TyOk Hval.prog 378 y378 := TyOk.of_chk (by kernel_rfl) (fun h => by simp [isStruct, y378] at h) (fun fs h => by cases h; exact ⟨_, Hval.underlying378, by kernel_rfl⟩)
theorem ty111_ok : TyOk Hval.prog 111 y111 := TyOk.of_chk (by kernel_rfl) (fun _ => Hval.underlying111) (fun fs h => by cases h)
theorem ty86_ok : TyOk Hval.prog 86 y86 := TyOk.of_chk (by kernel_rfl) (fun _ => Hval.underlying86) (fun fs h => by cases h)
theorem ty289_ok : TyOk Hval.prog 289 y289 := TyOk.of_chk (by kernel_rfl) (fun _ => Hval.underlying289) (fun fs h => by cases h)
theorem ty286_ok : TyOk Hval.prog 286 y286 := TyOk.of_chk (by kernel_rfl) (fun h => by simp [isStruct, y286] at h) (fun fs h => by cases h; exact ⟨_, Hval.underlying286, by kernel_rfl⟩)
theorem ty116_ok : TyOk Hval.prog 116 y116 := TyOk.of_chk (by kernel_rfl) (fun _ => Hval.underlying116) (fun fs h => by cases h)
theorem ty103_ok : TyOk Hval.prog 103 y103 := TyOk.of_chk (by kernel_rfl) (fun _ => Hval.underlying103) (fun fs h => by cases h)
theorem ty90_ok : TyOk Hval.prog 90 y90 := TyOk.of_chk (by kernel_rfl) (fun _ => Hval.underlying90) (fun fs h => by cases h)
theorem ty250_ok : TyOk Hval.prog 250 y250 := TyOk.of_chk (by kernel_rfl) (fun h => by simp [isStruct, y250] at h) (fun fs h => by cases h; exact ⟨_, Hval.underlying250, by kernel_rfl⟩)
theorem ty370_ok : TyOk Hval.prog 370 y370 := TyOk.of_chk (by kernel_rfl) (fun _ => Hval.underlying370) (fun fs h => by cases h)
theorem ty104_ok : TyOk Hval.prog 104 y104 := TyOk.of_chk (by kernel_rfl) (fun _ => Hval.underlying104) (fun fs h => by cases h)
theorem ty57_ok : TyOk Hval.prog 57 y57 := TyOk.of_chk (by kernel_rfl) (fun h => by simp [isStruct, y57] at h) (fun fs h => by cases h; exact ⟨_, Hval.underlying57, by kernel_rfl⟩)
theorem ty230_ok : TyOk Hval.prog 230 y230 := TyOk.of_chk (by kernel_rfl) (fun h => by simp [isStruct, y230] at h) (fun fs h => by cases h; exact ⟨_, Hval.underlying230, by kernel_rfl⟩)
theorem ty77_ok : TyOk Hval.prog 77 y77 := TyOk.of_chk (by kernel_rfl) (fun _ => Hval.underlying77) (fun fs h => by cases h)
theorem ty105_ok : TyOk Hval.prog 105 y105 := TyOk.of_chk (by kernel_rfl) (fun _ => Hval.underlying105) (fun fs h => by cases h)
theorem ty107_ok : TyOk Hval.prog 107 y107 := TyOk.of_chk (by kernel_rfl) (fun _ => Hval.underlying107) (fun fs h => by cases h)
theorem ty73_ok : TyOk Hval.prog 73 y73 := TyOk.of_chk (by kernel_rfl) (fun h => by simp [isStruct, y73] at h) (fun fs h => by cases h; exact ⟨_, Hval.underlying73, by kernel_rfl⟩)
theorem ty131_ok : TyOk Hval.prog 131 y131 := TyOk.of_chk (by kernel_rfl) (fun h => by simp [isStruct, y131] at h) (fun fs h => by cases h; exact ⟨_, Hval.underlying131, by kernel_rfl⟩)
theorem ty91_ok : TyOk Hval.prog 91 y91 := TyOk.of_chk (by kernel_rfl) (fun _ => Hval.underlying91) (fun fs h => by cases h)
theorem ty125_ok : TyOk Hval.prog 125 y125 := TyOk.of_chk (by kernel_rfl) (fun h => by simp [isStruct, y125] at h) (fun fs h => by cases h; exact ⟨_, Hval.underlying125, by kernel_rfl⟩)
theorem ty263_ok : TyOk Hval.prog 263 y263 := TyOk.of_chk (by kernel_rfl) (fun h => by simp [isStruct, y263] at h) (fun fs h => by cases h; exact ⟨_, Hval.underlying263, by kernel_rfl⟩)
theorem ty258_ok : TyOk Hval.prog 258 y258 := TyOk.of_chk (by kernel_rfl) (fun _ => Hval.underlying258) (fun fs h => by cases h)
theorem ty367_ok : TyOk Hval.prog 367 y367 := TyOk.of_chk (by kernel_rfl) (fun _ => Hval.underlying367) (fun fs h => by cases h)
theorem ty376_ok : TyOk Hval.prog 376 y376 := TyOk.of_chk (by kernel_rfl) (fun _ => Hval.underlying376) (fun fs h => by cases h)
theorem ty190_ok : TyOk Hval.prog 190 y190 := TyOk.of_chk (by kernel_rfl) (fun h => by simp [isStruct, y190] at h) (fun fs h => by cases h; exact ⟨_, Hval.underlying190, by kernel_rfl⟩)
theorem ty368_ok : TyOk Hval.prog 368 y368 := TyOk.of_chk (by kernel_rfl) (fun _ => Hval.underlying368) (fun fs h => by cases h)
theorem ty27_ok : TyOk Hval.prog 27 y27 := TyOk.of_chk (by kernel_rfl) (fun _ => Hval.underlying27) (fun fs h => by cases h)
theorem ty300_ok : TyOk Hval.prog 300 y300 := TyOk.of_chk (by kernel_rfl) (fun _ => Hval.underlying300) (fun fs h => by cases h)
theorem ty55_ok : TyOk Hval.prog 55 y55 := TyOk.of_chk (by kernel_rfl) (fun _ => Hval.underlying55) (fun fs h => by cases h)
theorem ty9_ok : TyOk Hval.prog 9 y9 := TyOk.of_chk (by kernel_rfl) (fun _ => Hval.underlying9) (fun fs h => by cases h)
theorem ty38_ok : TyOk Hval.prog 38 y38 := TyOk.of_chk (by kernel_rfl) (fun _ => Hval.underlying38) (fun fs h => by cases h)
theorem ty233_ok : TyOk Hval.prog 233 y233 := TyOk.of_chk (by kernel_rfl) (fun h => by simp [isStruct, y233] at h) (fun fs h => by cases h; exact ⟨_, Hval.underlying233, by kernel_rfl⟩)
theorem ty92_ok : TyOk Hval.prog 92 y92 := TyOk.of_chk (by kernel_rfl) (fun _ => Hval.underlying92) (fun fs h => by cases h)
theorem ty426_ok : TyOk Hval.prog 426 y426 := TyOk.of_chk (by kernel_rfl) (fun _ => Hval.underlying426) (fun fs h => by cases h)
theorem ty159_ok : TyOk Hval.prog 159 y159 := TyOk.of_chk (by kernel_rfl) (fun h => by simp [isStruct, y159] at h) (fun fs h => by cases h; exact ⟨_, Hval.underlying159, by kernel_rfl⟩)
theorem ty2_ok : TyOk Hval.prog 2 y2 := TyOk.of_chk (by kernel_rfl) (fun _ => Hval.underlying2) (fun fs h => by cases h)
theorem ty78_ok : TyOk Hval.prog 78 y78 := TyOk.of_chk (by kernel_rfl) (fun _ => Hval.underlying78) (fun fs h => by cases h)
theorem ty115_ok : TyOk Hval.prog 115 y115 := TyOk.of_chk (by kernel_rfl) (fun h => by simp [isStruct, y115] at h) (fun fs h => by cases h; exact ⟨_, Hval.underlying115, by kernel_rfl⟩)
theorem ty81_ok : TyOk Hval.prog 81 y81 := TyOk.of_chk (by kernel_rfl) (fun _ => Hval.underlying81) (fun fs h => by cases h)
theorem ty110_ok : TyOk Hval.prog 110 y110 := TyOk.of_chk (by kernel_rfl) (fun _ => Hval.underlying110) (fun fs h => by cases h)
theorem ty22_ok : TyOk Hval.prog 22 y22 := TyOk.of_chk (by kernel_rfl) (fun _ => Hval.underlying22) (fun fs h => by cases h)
theorem ty76_ok : TyOk Hval.prog 76 y76 := TyOk.of_chk (by kernel_rfl) (fun _ => Hval.underlying76) (fun fs h => by cases h)
theorem ty101_ok : TyOk Hval.prog 101 y101 := TyOk.of_chk (by kernel_rfl) (fun h => by simp [isStruct, y101] at h) (fun fs h => by cases h; exact ⟨_, Hval.underlying101, by kernel_rfl⟩)
theorem ty127_ok : TyOk Hval.prog 127 y127 := TyOk.of_chk (by kernel_rfl) (fun h => by simp [isStruct, y127] at h) (fun fs h => by cases h; exact ⟨_, Hval.underlying127, by kernel_rfl⟩)
theorem ty294_ok : TyOk Hval.prog 294 y294 := TyOk.of_chk (by kernel_rfl) (fun _ => Hval.underlying294) (fun fs h => by cases h)
theorem ty401_ok : TyOk Hval.prog 401 y401 := TyOk.of_chk (by kernel_rfl) (fun h => by simp [isStruct, y401] at h) (fun fs h => by cases h; exact ⟨_, Hval.underlying401, by kernel_rfl⟩)
theorem ty71_ok : TyOk Hval.prog 71 y71 := TyOk.of_chk (by kernel_rfl) (fun _ => Hval.underlying71) (fun fs h => by cases h)
theorem ty87_ok : TyOk Hval.prog 87 y87 := TyOk.of_chk (by kernel_rfl) (fun _ => Hval.underlying87) (fun fs h => by cases h)
theorem ty301_ok : TyOk Hval.prog 301 y301 := TyOk.of_chk (by kernel_rfl) (fun _ => Hval.underlying301) (fun fs h => by cases h)
theorem ty321_ok : TyOk Hval.prog 321 y321 := TyOk.of_chk (by kernel_rfl) (fun _ => Hval.underlying321) (fun fs h => by cases h)
theorem ty399_ok : TyOk Hval.prog 399 y399 := TyOk.of_chk (by kernel_rfl) (fun _ => Hval.underlying399) (fun fs h => by cases h)
theorem ty412_ok : TyOk Hval.prog 412 y412 := TyOk.of_chk (by kernel_rfl) (fun _ => Hval.underlying412) (fun fs h => by cases h)
theorem ty432_ok : TyOk Hval.prog 432 y432 := TyOk.of_chk (by kernel_rfl) (fun _ => Hval.underlying432) (fun fs h => by cases h)
theorem ty350_ok : TyOk Hval.prog 350 y350 := TyOk.of_chk (by kernel_rfl) (fun _ => Hval.underlying350) (fun fs h => by cases h)
theorem ty375_ok : TyOk Hval.prog 375 y375 := TyOk.of_chk (by kernel_rfl) (fun _ => Hval.underlying375) (fun fs h => by cases h)
theorem ty43_ok : TyOk Hval.prog 43 y43 := TyOk.of_chk (by kernel_rfl) (fun _ => Hval.underlying43) (fun fs h => by cases h)
theorem ty89_ok : TyOk Hval.prog 89 y89 := TyOk.of_chk (by kernel_rfl) (fun _ => Hval.underlying89) (fun fs h => by cases h)
theorem ty292_ok : TyOk Hval.prog 292 y292 := TyOk.of_chk (by kernel_rfl) (fun _ => Hval.underlying292) (fun fs h => by cases h)
theorem ty303_ok : TyOk Hval.prog 303 y303 := TyOk.of_chk (by kernel_rfl) (fun _ => Hval.underlying303) (fun fs h => by cases h)
theorem ty320_ok : TyOk Hval.prog 320 y320 := TyOk.of_chk (by kernel_rfl) (fun _ => Hval.underlying320) (fun fs h => by cases h)
theorem ty364_ok : TyOk Hval.prog 364 y364 := TyOk.of_chk (by kernel_rfl) (fun _ => Hval.underlying364) (fun fs h => by cases h)
theorem ty416_ok : TyOk Hval.prog 416 y416 := TyOk.of_chk (by kernel_rfl) (fun _ => Hval.underlying416) (fun fs h => by cases h)
theorem ty418_ok : TyOk Hval.prog 418 y418 := TyOk.of_chk (by kernel_rfl) (fun _ => Hval.underlying418) (fun fs h => by cases h)
theorem ty424_ok : TyOk Hval.prog 424 y424 := TyOk.of_chk (by kernel_rfl) (fun _ => Hval.underlying424) (fun fs h => by cases h)
theorem ty434_ok : TyOk Hval.prog 434 y434 := TyOk.of_chk (by kernel_rfl) (fun _ => Hval.underlying434) (fun fs h => by cases h)
theorem ty95_ok : TyOk Hval.prog 95 y95 := TyOk.of_chk (by kernel_rfl) (fun _ => Hval.underlying95) (fun fs h => by cases h)
theorem ty97_ok : TyOk Hval.prog 97 y97 := TyOk.of_chk (by kernel_rfl) (fun h => by simp [isStruct, y97] at h) (fun fs h => by cases h; exact ⟨_, Hval.underlying97, by kernel_rfl⟩)
theorem ty99_ok : TyOk Hval.prog 99 y99 := TyOk.of_chk (by kernel_rfl) (fun h => by simp [isStruct, y99] at h) (fun fs h => by cases h; exact ⟨_, Hval.underlying99, by kernel_rfl⟩)
theorem ty456_ok : TyOk Hval.prog 456 y456 := TyOk.of_chk (by kernel_rfl) (fun _ => Hval.underlying456) (fun fs h => by cases h)
theorem ty458_ok : TyOk Hval.prog 458 y458 := TyOk.of_chk (by kernel_rfl) (fun h => by simp [isStruct, y458] at h) (fun fs h => by cases h; exact ⟨_, Hval.underlying458, by kernel_rfl⟩)
theorem T_ok : TOk Hval.prog T := lk_ok (l := tl) ⟨ty5_ok, ty24_ok, ty3_ok, ty75_ok, ty31_ok, ty23_ok, ty4_ok, ty106_ok, ty80_ok, ty135_ok, ty84_ok, ty49_ok, ty21_ok, ty94_ok, ty113_ok, ty82_ok, ty118_ok, ty32_ok, ty40_ok, ty33_ok, ty34_ok, ty186_ok, ty69_ok, ty290_ok, ty70_ok, ty88_ok, ty133_ok, ty51_ok, ty85_ok, ty109_ok, ty36_ok, ty317_ok, ty196_ok, ty378_ok, ty111_ok, ty86_ok, ty289_ok, ty286_ok, ty116_ok, ty103_ok, ty90_ok, ty250_ok, ty370_ok, ty104_ok, ty57_ok, ty230_ok, ty77_ok, ty105_ok, ty107_ok, ty73_ok, ty131_ok, ty91_ok, ty125_ok, ty263_ok, ty258_ok, ty367_ok, ty376_ok, ty190_ok, ty368_ok, ty27_ok, ty300_ok, ty55_ok, ty9_ok, ty38_ok, ty233_ok, ty92_ok, ty426_ok, ty159_ok, ty2_ok, ty78_ok, ty115_ok, ty81_ok, ty110_ok, ty22_ok, ty76_ok, ty101_ok, ty127_ok, ty294_ok, ty401_ok, ty71_ok, ty87_ok, ty301_ok, ty321_ok, ty399_ok, ty412_ok, ty432_ok, ty350_ok, ty375_ok, ty43_ok, ty89_ok, ty292_ok, ty303_ok, ty320_ok, ty364_ok, ty416_ok, ty418_ok, ty424_ok, ty434_ok, ty95_ok, ty97_ok, ty99_ok, ty456_ok, ty458_ok, trivial⟩
end Go.Proofs.YgvalwGreat.X
