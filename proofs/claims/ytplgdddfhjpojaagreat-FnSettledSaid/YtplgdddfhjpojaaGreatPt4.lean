/-
The functions' code for the machine, printed by gen.py. The table of the functions. What is told from outside: math/bits.Add64, slices.Clone. What a call of each function unfolds to. Words: what the functions on words compute. The cursor: what its draws give. Drawn terms and intervals. Drawn terms with their width and variables; drawn intervals. What the law draws. Words that are good, operators and their operands. Operators and their operands; leaves. Good terms. Good terms, as the specification tells them. Good terms (the specification's word), good intervals. Terms as trees. Where a tree begins in its text; good lists of intervals. The specification's intervals of single operators. Intervals of trees: they are intervals of words. The specification's interval of a term. The specification's interval of a term: the code. The program's intervals of single operators. Products of words. The program's intervals of products, comparisons, meets. The program's interval of an operator with two operands is the specification's.
Conditions: none beyond those that each theorem states.
-/
import Derived.Test.YtplgdddfhjpojaaGreatPt3
import Derived.Lib.Mul64
set_option linter.all false
namespace Go.Proofs.YtplgdddfhjpojaaGreat.AM
open Go
/-- spec.l18Least -/
def F51_c : AC :=
 (.seq (.reg false [⟨some 4, none, .mv (.k (.w 0#64))⟩] [0, 1])
 (.seq (.seq (.reg false [⟨some 5, none, .mv (.t 0)⟩, ⟨some 6, none, .mv (.t 1)⟩, ⟨some 7, none, .bin .lss (.t 5) (.t 6)⟩] [0, 1, 7])
 (.cond (.t 7) (.seq (.reg false [⟨some 8, none, .mv (.t 0)⟩, ⟨some 4, none, .mv (.t 8)⟩] [4])
  .ret) .skip))
 (.seq (.reg false [⟨some 9, none, .mv (.t 1)⟩, ⟨some 4, none, .mv (.t 9)⟩] [4])
 .ret)))
def F51 : AFunc := ⟨2, [.t 4], [], F51_c⟩
/-- spec.l18Most -/
def F50_c : AC :=
 (.seq (.reg false [⟨some 4, none, .mv (.k (.w 0#64))⟩] [0, 1])
 (.seq (.seq (.reg false [⟨some 5, none, .mv (.t 0)⟩, ⟨some 6, none, .mv (.t 1)⟩, ⟨some 7, none, .bin .gtr (.t 5) (.t 6)⟩] [0, 1, 7])
 (.cond (.t 7) (.seq (.reg false [⟨some 8, none, .mv (.t 0)⟩, ⟨some 4, none, .mv (.t 8)⟩] [4])
  .ret) .skip))
 (.seq (.reg false [⟨some 9, none, .mv (.t 1)⟩, ⟨some 4, none, .mv (.t 9)⟩] [4])
 .ret)))
def F50 : AFunc := ⟨2, [.t 4], [], F50_c⟩
/-- spec.l18Fits -/
def F52_c : AC :=
 (.seq (.reg false [⟨some 6, none, .mv (.k (.bool false))⟩] [0, 1, 2])
 (.seq (.reg false [⟨some 7, none, .mv (.t 2)⟩, ⟨some 8, none, .bin .eql (.t 7) (.k (.w 0#64))⟩, ⟨some 9, none, .mv (.t 8)⟩, ⟨some 10, (some (9, false)), .mv (.t 1)⟩, ⟨some 11, (some (9, false)), .mv (.t 0)⟩, ⟨some 12, (some (9, false)), .pcall (.f 6) [.t 11, .k (.w 18446744073709551615#64)]⟩, ⟨some 13, (some (9, false)), .mv (.t 2)⟩, ⟨some 14, (some (9, false)), .bin .quo (.t 12) (.t 13)⟩, ⟨some 15, (some (9, false)), .bin .leq (.t 10) (.t 14)⟩, ⟨some 16, none, .pick (.t 9) (.k (.bool true)) (.t 15)⟩, ⟨some 6, none, .mv (.t 16)⟩] [6])
 .ret))
def F52 : AFunc := ⟨3, [.t 6], [], F52_c⟩
/-- spec.l18Num -/
def F53_c : AC :=
 (.seq (.reg false [⟨some 6, none, .box (.t 2)⟩, ⟨some 7, none, .box (.t 3)⟩, ⟨some 8, none, .alloc [.d (.w 0#64), .d (.w 0#64)]⟩] [0, 1, 6, 7, 8])
 (.seq (.reg false [⟨some 11, none, .mv (.t 0)⟩, ⟨some 12, none, .pcall (.f 6) [.t 11, .k (.w 18446744073709551615#64)]⟩, ⟨some 9, none, .mv (.t 12)⟩] [0, 1, 6, 7, 8, 9])
 (.seq (.reg false [⟨some 13, none, .mv (.t 9)⟩, ⟨some 14, none, .build [.d (.w 0#64), .d (.w 0#64)] [(1, 1, .t 13)]⟩, ⟨some 10, none, .alloc [.d (.w 0#64), .d (.w 0#64)]⟩, ⟨none, none, .store 2 (.t 10) (.t 14)⟩] [0, 1, 6, 7, 8, 9, 10])
 (.seq (.block 0 (.seq (.reg false [⟨some 16, none, .mv (.t 1)⟩, ⟨some 17, none, .bin .eql (.t 16) (.k (.int .i64 3))⟩, ⟨some 18, none, .mv (.t 17)⟩, ⟨some 19, (some (18, true)), .faddr 1 (.t 6)⟩, ⟨some 20, (some (18, true)), .load none (.t 19)⟩, ⟨some 21, (some (18, true)), .mv (.t 9)⟩, ⟨some 22, (some (18, true)), .faddr 1 (.t 7)⟩, ⟨some 23, (some (18, true)), .load none (.t 22)⟩, ⟨some 24, (some (18, true)), .bin .sub (.t 21) (.t 23)⟩, ⟨some 25, (some (18, true)), .bin .leq (.t 20) (.t 24)⟩, ⟨some 26, none, .pick (.t 18) (.t 25) (.k (.bool false))⟩, ⟨some 15, none, .mv (.t 26)⟩] [0, 1, 6, 7, 8, 9, 10, 15])
  (.cond (.t 15) (.seq (.reg false [⟨some 27, none, .faddr 0 (.t 6)⟩, ⟨some 28, none, .load none (.t 27)⟩, ⟨some 29, none, .faddr 0 (.t 7)⟩, ⟨some 30, none, .load none (.t 29)⟩, ⟨some 31, none, .bin .add (.t 28) (.t 30)⟩, ⟨some 32, none, .faddr 1 (.t 6)⟩, ⟨some 33, none, .load none (.t 32)⟩, ⟨some 34, none, .faddr 1 (.t 7)⟩, ⟨some 35, none, .load none (.t 34)⟩, ⟨some 36, none, .bin .add (.t 33) (.t 35)⟩, ⟨some 37, none, .build [.d (.w 0#64), .d (.w 0#64)] [(0, 1, .t 31), (1, 1, .t 36)]⟩, ⟨none, none, .store 2 (.t 8) (.t 37)⟩] [8])
   .ret) (.seq (.reg false [⟨some 39, none, .mv (.t 1)⟩, ⟨some 40, none, .bin .eql (.t 39) (.k (.int .i64 5))⟩, ⟨some 41, none, .mv (.t 40)⟩, ⟨some 42, (some (41, true)), .mv (.t 0)⟩, ⟨some 43, (some (41, true)), .faddr 1 (.t 6)⟩, ⟨some 44, (some (41, true)), .load none (.t 43)⟩, ⟨some 45, (some (41, true)), .faddr 1 (.t 7)⟩, ⟨some 46, (some (41, true)), .load none (.t 45)⟩, ⟨some 47, (some (41, true)), .pcall (.f 52) [.t 42, .t 44, .t 46]⟩, ⟨some 48, none, .pick (.t 41) (.t 47) (.k (.bool false))⟩, ⟨some 38, none, .mv (.t 48)⟩] [1, 6, 7, 8, 9, 10, 38])
   (.cond (.t 38) (.seq (.reg false [⟨some 49, none, .faddr 0 (.t 6)⟩, ⟨some 50, none, .load none (.t 49)⟩, ⟨some 51, none, .faddr 0 (.t 7)⟩, ⟨some 52, none, .load none (.t 51)⟩, ⟨some 53, none, .bin .mul (.t 50) (.t 52)⟩, ⟨some 54, none, .faddr 1 (.t 6)⟩, ⟨some 55, none, .load none (.t 54)⟩, ⟨some 56, none, .faddr 1 (.t 7)⟩, ⟨some 57, none, .load none (.t 56)⟩, ⟨some 58, none, .bin .mul (.t 55) (.t 57)⟩, ⟨some 59, none, .build [.d (.w 0#64), .d (.w 0#64)] [(0, 1, .t 53), (1, 1, .t 58)]⟩, ⟨none, none, .store 2 (.t 8) (.t 59)⟩] [8])
    .ret) (.seq (.reg false [⟨some 61, none, .mv (.t 1)⟩, ⟨some 62, none, .bin .eql (.t 61) (.k (.int .i64 4))⟩, ⟨some 63, none, .mv (.t 62)⟩, ⟨some 64, (some (63, true)), .faddr 0 (.t 6)⟩, ⟨some 65, (some (63, true)), .load none (.t 64)⟩, ⟨some 66, (some (63, true)), .faddr 1 (.t 7)⟩, ⟨some 67, (some (63, true)), .load none (.t 66)⟩, ⟨some 68, (some (63, true)), .bin .geq (.t 65) (.t 67)⟩, ⟨some 69, none, .pick (.t 63) (.t 68) (.k (.bool false))⟩, ⟨some 60, none, .mv (.t 69)⟩] [1, 6, 7, 8, 9, 10, 60])
    (.cond (.t 60) (.seq (.reg false [⟨some 70, none, .faddr 0 (.t 6)⟩, ⟨some 71, none, .load none (.t 70)⟩, ⟨some 72, none, .faddr 1 (.t 7)⟩, ⟨some 73, none, .load none (.t 72)⟩, ⟨some 74, none, .bin .sub (.t 71) (.t 73)⟩, ⟨some 75, none, .faddr 1 (.t 6)⟩, ⟨some 76, none, .load none (.t 75)⟩, ⟨some 77, none, .faddr 0 (.t 7)⟩, ⟨some 78, none, .load none (.t 77)⟩, ⟨some 79, none, .bin .sub (.t 76) (.t 78)⟩, ⟨some 80, none, .build [.d (.w 0#64), .d (.w 0#64)] [(0, 1, .t 74), (1, 1, .t 79)]⟩, ⟨none, none, .store 2 (.t 8) (.t 80)⟩] [8])
     .ret) (.seq (.reg false [⟨some 82, none, .mv (.t 1)⟩, ⟨some 83, none, .bin .eql (.t 82) (.k (.int .i64 6))⟩, ⟨some 84, none, .mv (.t 83)⟩, ⟨some 85, (some (84, true)), .faddr 0 (.t 7)⟩, ⟨some 86, (some (84, true)), .load none (.t 85)⟩, ⟨some 87, (some (84, true)), .bin .gtr (.t 86) (.k (.w 0#64))⟩, ⟨some 88, none, .pick (.t 84) (.t 87) (.k (.bool false))⟩, ⟨some 81, none, .mv (.t 88)⟩] [1, 6, 7, 8, 9, 10, 81])
     (.cond (.t 81) (.seq (.reg true [⟨some 89, none, .faddr 0 (.t 6)⟩, ⟨some 90, none, .load none (.t 89)⟩, ⟨some 91, none, .faddr 1 (.t 7)⟩, ⟨some 92, none, .load none (.t 91)⟩, ⟨some 93, none, .bin .quo (.t 90) (.t 92)⟩, ⟨some 94, none, .faddr 1 (.t 6)⟩, ⟨some 95, none, .load none (.t 94)⟩, ⟨some 96, none, .faddr 0 (.t 7)⟩, ⟨some 97, none, .load none (.t 96)⟩, ⟨some 98, none, .bin .quo (.t 95) (.t 97)⟩, ⟨some 99, none, .build [.d (.w 0#64), .d (.w 0#64)] [(0, 1, .t 93), (1, 1, .t 98)]⟩, ⟨none, none, .store 2 (.t 8) (.t 99)⟩] [8])
      .ret) (.seq (.reg false [⟨some 101, none, .mv (.t 1)⟩, ⟨some 102, none, .bin .eql (.t 101) (.k (.int .i64 7))⟩, ⟨some 103, none, .mv (.t 102)⟩, ⟨some 104, (some (103, true)), .faddr 0 (.t 7)⟩, ⟨some 105, (some (103, true)), .load none (.t 104)⟩, ⟨some 106, (some (103, true)), .bin .gtr (.t 105) (.k (.w 0#64))⟩, ⟨some 107, none, .pick (.t 103) (.t 106) (.k (.bool false))⟩, ⟨some 100, none, .mv (.t 107)⟩] [1, 6, 7, 8, 9, 10, 100])
      (.cond (.t 100) (.seq (.reg false [⟨some 108, none, .faddr 1 (.t 6)⟩, ⟨some 109, none, .load none (.t 108)⟩, ⟨some 110, none, .faddr 1 (.t 7)⟩, ⟨some 111, none, .load none (.t 110)⟩, ⟨some 112, none, .bin .sub (.t 111) (.k (.w 1#64))⟩, ⟨some 113, none, .pcall (.f 51) [.t 109, .t 112]⟩, ⟨some 114, none, .build [.d (.w 0#64), .d (.w 0#64)] [(1, 1, .t 113)]⟩, ⟨none, none, .store 2 (.t 8) (.t 114)⟩] [8])
       .ret) (.seq (.reg false [⟨some 116, none, .mv (.t 1)⟩, ⟨some 117, none, .bin .eql (.t 116) (.k (.int .i64 7))⟩, ⟨some 118, none, .mv (.t 117)⟩, ⟨some 119, (some (118, false)), .mv (.t 1)⟩, ⟨some 120, (some (118, false)), .bin .eql (.t 119) (.k (.int .i64 12))⟩, ⟨some 121, none, .pick (.t 118) (.k (.bool true)) (.t 120)⟩, ⟨some 115, none, .mv (.t 121)⟩] [1, 6, 7, 8, 9, 10, 115])
       (.cond (.t 115) (.seq (.reg false [⟨some 122, none, .faddr 1 (.t 6)⟩, ⟨some 123, none, .load none (.t 122)⟩, ⟨some 124, none, .build [.d (.w 0#64), .d (.w 0#64)] [(1, 1, .t 123)]⟩, ⟨none, none, .store 2 (.t 8) (.t 124)⟩] [8])
        .ret) (.seq (.reg false [⟨some 126, none, .mv (.t 1)⟩, ⟨some 127, none, .bin .eql (.t 126) (.k (.int .i64 8))⟩, ⟨some 125, none, .mv (.t 127)⟩] [1, 6, 7, 8, 9, 10, 125])
        (.cond (.t 125) (.seq (.reg false [⟨some 128, none, .faddr 1 (.t 6)⟩, ⟨some 129, none, .load none (.t 128)⟩, ⟨some 130, none, .faddr 1 (.t 7)⟩, ⟨some 131, none, .load none (.t 130)⟩, ⟨some 132, none, .pcall (.f 51) [.t 129, .t 131]⟩, ⟨some 133, none, .build [.d (.w 0#64), .d (.w 0#64)] [(1, 1, .t 132)]⟩, ⟨none, none, .store 2 (.t 8) (.t 133)⟩] [8])
         .ret) (.seq (.reg false [⟨some 135, none, .mv (.t 1)⟩, ⟨some 136, none, .bin .eql (.t 135) (.k (.int .i64 9))⟩, ⟨some 134, none, .mv (.t 136)⟩] [6, 7, 8, 9, 10, 134])
         (.cond (.t 134) (.seq (.reg false [⟨some 137, none, .faddr 0 (.t 6)⟩, ⟨some 138, none, .load none (.t 137)⟩, ⟨some 139, none, .faddr 0 (.t 7)⟩, ⟨some 140, none, .load none (.t 139)⟩, ⟨some 141, none, .pcall (.f 50) [.t 138, .t 140]⟩, ⟨some 142, none, .mv (.t 9)⟩, ⟨some 143, none, .build [.d (.w 0#64), .d (.w 0#64)] [(0, 1, .t 141), (1, 1, .t 142)]⟩, ⟨none, none, .store 2 (.t 8) (.t 143)⟩] [8])
          .ret) .skip)))))))))))))))))
 (.seq (.reg false [⟨some 144, none, .load (some 2) (.t 10)⟩, ⟨none, none, .store 2 (.t 8) (.t 144)⟩] [8])
 .ret)))))
def F53 : AFunc := ⟨4, [.cell 8 (some 2)], [], F53_c⟩
/-- spec.l18Ask -/
def F54_c : AC :=
 (.seq (.reg false [⟨some 4, none, .box (.t 1)⟩, ⟨some 5, none, .box (.t 2)⟩, ⟨some 6, none, .alloc [.d (.w 0#64), .d (.w 0#64)]⟩] [0, 4, 5, 6])
 (.seq (.reg false [⟨some 9, none, .build [.d (.w 0#64), .d (.w 0#64)] []⟩, ⟨some 7, none, .alloc [.d (.w 0#64), .d (.w 0#64)]⟩, ⟨none, none, .store 2 (.t 7) (.t 9)⟩] [0, 4, 5, 6, 7])
 (.seq (.reg false [⟨some 10, none, .build [.d (.w 0#64), .d (.w 0#64)] [(0, 1, .k (.w 1#64)), (1, 1, .k (.w 1#64))]⟩, ⟨some 8, none, .alloc [.d (.w 0#64), .d (.w 0#64)]⟩, ⟨none, none, .store 2 (.t 8) (.t 10)⟩] [0, 4, 5, 6, 7, 8])
 (.seq (.block 0 (.seq (.reg false [⟨some 12, none, .mv (.t 0)⟩, ⟨some 13, none, .bin .eql (.t 12) (.k (.int .i64 14))⟩, ⟨some 14, none, .mv (.t 13)⟩, ⟨some 15, (some (14, true)), .faddr 1 (.t 4)⟩, ⟨some 16, (some (14, true)), .load none (.t 15)⟩, ⟨some 17, (some (14, true)), .faddr 0 (.t 5)⟩, ⟨some 18, (some (14, true)), .load none (.t 17)⟩, ⟨some 19, (some (14, true)), .bin .lss (.t 16) (.t 18)⟩, ⟨some 20, (some (14, true)), .mv (.t 19)⟩, ⟨some 21, (some (20, false)), .faddr 1 (.t 5)⟩, ⟨some 22, (some (20, false)), .load none (.t 21)⟩, ⟨some 23, (some (20, false)), .faddr 0 (.t 4)⟩, ⟨some 24, (some (20, false)), .load none (.t 23)⟩, ⟨some 25, (some (20, false)), .bin .lss (.t 22) (.t 24)⟩, ⟨some 26, (some (14, true)), .pick (.t 20) (.k (.bool true)) (.t 25)⟩, ⟨some 27, none, .pick (.t 14) (.t 26) (.k (.bool false))⟩, ⟨some 11, none, .mv (.t 27)⟩] [0, 4, 5, 6, 7, 8, 11])
  (.cond (.t 11) (.seq (.reg false [⟨some 28, none, .load (some 2) (.t 7)⟩, ⟨none, none, .store 2 (.t 6) (.t 28)⟩] [6])
   .ret) (.seq (.reg false [⟨some 30, none, .mv (.t 0)⟩, ⟨some 31, none, .bin .eql (.t 30) (.k (.int .i64 14))⟩, ⟨some 32, none, .mv (.t 31)⟩, ⟨some 33, (some (32, true)), .faddr 0 (.t 4)⟩, ⟨some 34, (some (32, true)), .load none (.t 33)⟩, ⟨some 35, (some (32, true)), .faddr 1 (.t 4)⟩, ⟨some 36, (some (32, true)), .load none (.t 35)⟩, ⟨some 37, (some (32, true)), .bin .eql (.t 34) (.t 36)⟩, ⟨some 38, none, .pick (.t 32) (.t 37) (.k (.bool false))⟩, ⟨some 39, none, .mv (.t 38)⟩, ⟨some 40, (some (39, true)), .load (some 2) (.t 4)⟩, ⟨some 41, (some (39, true)), .load (some 2) (.t 5)⟩, ⟨some 42, (some (39, true)), .eqs [0, 0] false (.t 40) (.t 41)⟩, ⟨some 43, none, .pick (.t 39) (.t 42) (.k (.bool false))⟩, ⟨some 29, none, .mv (.t 43)⟩] [0, 4, 5, 6, 7, 8, 29])
   (.cond (.t 29) (.seq (.reg false [⟨some 44, none, .load (some 2) (.t 8)⟩, ⟨none, none, .store 2 (.t 6) (.t 44)⟩] [6])
    .ret) (.seq (.reg false [⟨some 46, none, .mv (.t 0)⟩, ⟨some 47, none, .bin .eql (.t 46) (.k (.int .i64 15))⟩, ⟨some 48, none, .mv (.t 47)⟩, ⟨some 49, (some (48, true)), .faddr 1 (.t 4)⟩, ⟨some 50, (some (48, true)), .load none (.t 49)⟩, ⟨some 51, (some (48, true)), .faddr 0 (.t 5)⟩, ⟨some 52, (some (48, true)), .load none (.t 51)⟩, ⟨some 53, (some (48, true)), .bin .lss (.t 50) (.t 52)⟩, ⟨some 54, none, .pick (.t 48) (.t 53) (.k (.bool false))⟩, ⟨some 45, none, .mv (.t 54)⟩] [0, 4, 5, 6, 7, 8, 45])
    (.cond (.t 45) (.seq (.reg false [⟨some 55, none, .load (some 2) (.t 8)⟩, ⟨none, none, .store 2 (.t 6) (.t 55)⟩] [6])
     .ret) (.seq (.reg false [⟨some 57, none, .mv (.t 0)⟩, ⟨some 58, none, .bin .eql (.t 57) (.k (.int .i64 15))⟩, ⟨some 59, none, .mv (.t 58)⟩, ⟨some 60, (some (59, true)), .faddr 0 (.t 4)⟩, ⟨some 61, (some (59, true)), .load none (.t 60)⟩, ⟨some 62, (some (59, true)), .faddr 1 (.t 5)⟩, ⟨some 63, (some (59, true)), .load none (.t 62)⟩, ⟨some 64, (some (59, true)), .bin .geq (.t 61) (.t 63)⟩, ⟨some 65, none, .pick (.t 59) (.t 64) (.k (.bool false))⟩, ⟨some 56, none, .mv (.t 65)⟩] [0, 4, 5, 6, 7, 56])
     (.cond (.t 56) (.seq (.reg false [⟨some 66, none, .load (some 2) (.t 7)⟩, ⟨none, none, .store 2 (.t 6) (.t 66)⟩] [6])
      .ret) (.seq (.reg false [⟨some 68, none, .mv (.t 0)⟩, ⟨some 69, none, .bin .eql (.t 68) (.k (.int .i64 17))⟩, ⟨some 67, none, .mv (.t 69)⟩] [0, 4, 5, 6, 67])
      (.cond (.t 67) (.seq (.reg true [⟨some 70, none, .faddr 0 (.t 4)⟩, ⟨some 71, none, .load none (.t 70)⟩, ⟨some 72, none, .faddr 0 (.t 5)⟩, ⟨some 73, none, .load none (.t 72)⟩, ⟨some 74, none, .pcall (.f 51) [.t 71, .t 73]⟩, ⟨some 75, none, .faddr 1 (.t 4)⟩, ⟨some 76, none, .load none (.t 75)⟩, ⟨some 77, none, .faddr 1 (.t 5)⟩, ⟨some 78, none, .load none (.t 77)⟩, ⟨some 79, none, .pcall (.f 51) [.t 76, .t 78]⟩, ⟨some 80, none, .build [.d (.w 0#64), .d (.w 0#64)] [(0, 1, .t 74), (1, 1, .t 79)]⟩, ⟨none, none, .store 2 (.t 6) (.t 80)⟩] [6])
       .ret) (.seq (.reg false [⟨some 82, none, .mv (.t 0)⟩, ⟨some 83, none, .bin .eql (.t 82) (.k (.int .i64 18))⟩, ⟨some 81, none, .mv (.t 83)⟩] [4, 5, 6, 81])
       (.cond (.t 81) (.seq (.reg true [⟨some 84, none, .faddr 0 (.t 4)⟩, ⟨some 85, none, .load none (.t 84)⟩, ⟨some 86, none, .faddr 0 (.t 5)⟩, ⟨some 87, none, .load none (.t 86)⟩, ⟨some 88, none, .pcall (.f 50) [.t 85, .t 87]⟩, ⟨some 89, none, .faddr 1 (.t 4)⟩, ⟨some 90, none, .load none (.t 89)⟩, ⟨some 91, none, .faddr 1 (.t 5)⟩, ⟨some 92, none, .load none (.t 91)⟩, ⟨some 93, none, .pcall (.f 50) [.t 90, .t 92]⟩, ⟨some 94, none, .build [.d (.w 0#64), .d (.w 0#64)] [(0, 1, .t 88), (1, 1, .t 93)]⟩, ⟨none, none, .store 2 (.t 6) (.t 94)⟩] [6])
        .ret) .skip)))))))))))))
 (.seq (.reg false [⟨some 95, none, .build [.d (.w 0#64), .d (.w 0#64)] [(1, 1, .k (.w 1#64))]⟩, ⟨none, none, .store 2 (.t 6) (.t 95)⟩] [6])
 .ret)))))
def F54 : AFunc := ⟨3, [.cell 6 (some 2)], [], F54_c⟩
/-- spec.l18Of -/
def F55_c : AC :=
 (.seq (.reg false [⟨some 8, none, .alloc [.d (.w 0#64), .d (.w 0#64)]⟩] [0, 1, 2, 3, 8])
 (.seq (.reg false [⟨some 15, none, .mv (.t 1)⟩, ⟨some 16, none, .mv (.t 2)⟩, ⟨some 17, none, .iaddr 2 (.t 15) (.t 16)⟩, ⟨some 18, none, .load (some 2) (.t 17)⟩, ⟨some 9, none, .alloc [.d (.int .i64 0), .d (.w 0#64)]⟩, ⟨none, none, .store 2 (.t 9) (.t 18)⟩] [0, 1, 2, 3, 8, 9])
 (.seq (.reg false [⟨some 20, none, .faddr 0 (.t 9)⟩, ⟨some 21, none, .load none (.t 20)⟩, ⟨some 22, none, .pcall (.f 40) [.t 21]⟩, ⟨some 19, none, .mv (.t 22)⟩, ⟨some 23, none, .ext (.t 19) 0⟩, ⟨some 24, none, .ext (.t 19) 1⟩, ⟨some 25, none, .ext (.t 19) 2⟩, ⟨some 10, none, .mv (.t 23)⟩, ⟨some 11, none, .mv (.t 24)⟩, ⟨some 12, none, .mv (.t 25)⟩] [0, 1, 2, 3, 8, 9, 10, 12])
 (.seq (.block 0 (.seq (.reg false [⟨some 27, none, .faddr 0 (.t 9)⟩, ⟨some 28, none, .load none (.t 27)⟩, ⟨some 29, none, .bin .eql (.t 28) (.k (.int .i64 2))⟩, ⟨some 26, none, .mv (.t 29)⟩] [0, 1, 2, 3, 8, 9, 10, 12, 26])
  (.cond (.t 26) (.seq (.reg false [⟨some 30, none, .mv (.t 3)⟩, ⟨some 31, none, .faddr 1 (.t 9)⟩, ⟨some 32, none, .load none (.t 31)⟩, ⟨some 33, none, .iaddr 2 (.t 30) (.t 32)⟩, ⟨some 34, none, .load (some 2) (.t 33)⟩, ⟨none, none, .store 2 (.t 8) (.t 34)⟩] [8])
   .ret) (.seq (.reg false [⟨some 36, none, .mv (.t 10)⟩, ⟨some 37, none, .bin .eql (.t 36) (.k (.int .i64 0))⟩, ⟨some 35, none, .mv (.t 37)⟩] [0, 1, 2, 3, 8, 9, 12, 35])
   (.cond (.t 35) (.seq (.reg false [⟨some 38, none, .faddr 1 (.t 9)⟩, ⟨some 39, none, .load none (.t 38)⟩, ⟨some 40, none, .faddr 1 (.t 9)⟩, ⟨some 41, none, .load none (.t 40)⟩, ⟨some 42, none, .build [.d (.w 0#64), .d (.w 0#64)] [(0, 1, .t 39), (1, 1, .t 41)]⟩, ⟨none, none, .store 2 (.t 8) (.t 42)⟩] [8])
    .ret) .skip)))))
 (.seq (.reg false [⟨some 43, none, .mv (.t 0)⟩, ⟨some 44, none, .mv (.t 1)⟩, ⟨some 45, none, .mv (.t 2)⟩, ⟨some 46, none, .bin .sub (.t 45) (.k (.int .i64 1))⟩, ⟨some 47, none, .mv (.t 3)⟩, ⟨some 48, none, .lcall (.f 55) [.t 43, .t 44, .t 46, .t 47]⟩, ⟨some 13, none, .alloc [.d (.w 0#64), .d (.w 0#64)]⟩, ⟨none, none, .store 2 (.t 13) (.t 48)⟩] [0, 1, 2, 3, 8, 9, 12, 13])
 (.seq (.block 1 (.seq (.reg false [⟨some 50, none, .faddr 0 (.t 9)⟩, ⟨some 51, none, .load none (.t 50)⟩, ⟨some 52, none, .bin .eql (.t 51) (.k (.int .i64 13))⟩, ⟨some 49, none, .mv (.t 52)⟩] [0, 1, 2, 3, 8, 9, 12, 13, 49])
  (.cond (.t 49) (.seq (.reg true [⟨some 53, none, .mv (.t 0)⟩, ⟨some 54, none, .faddr 1 (.t 13)⟩, ⟨some 55, none, .load none (.t 54)⟩, ⟨some 56, none, .un .xor (.t 55)⟩, ⟨some 57, none, .pcall (.f 6) [.t 53, .t 56]⟩, ⟨some 58, none, .mv (.t 0)⟩, ⟨some 59, none, .faddr 0 (.t 13)⟩, ⟨some 60, none, .load none (.t 59)⟩, ⟨some 61, none, .un .xor (.t 60)⟩, ⟨some 62, none, .pcall (.f 6) [.t 58, .t 61]⟩, ⟨some 63, none, .build [.d (.w 0#64), .d (.w 0#64)] [(0, 1, .t 57), (1, 1, .t 62)]⟩, ⟨none, none, .store 2 (.t 8) (.t 63)⟩] [8])
   .ret) (.seq (.reg false [⟨some 65, none, .faddr 0 (.t 9)⟩, ⟨some 66, none, .load none (.t 65)⟩, ⟨some 67, none, .bin .eql (.t 66) (.k (.int .i64 19))⟩, ⟨some 64, none, .mv (.t 67)⟩] [0, 1, 2, 3, 8, 9, 12, 13, 64])
   (.cond (.t 64) (.seq (.reg false [⟨some 68, none, .faddr 1 (.t 13)⟩, ⟨some 69, none, .load none (.t 68)⟩, ⟨some 70, none, .bin .sub (.k (.w 1#64)) (.t 69)⟩, ⟨some 71, none, .faddr 0 (.t 13)⟩, ⟨some 72, none, .load none (.t 71)⟩, ⟨some 73, none, .bin .sub (.k (.w 1#64)) (.t 72)⟩, ⟨some 74, none, .build [.d (.w 0#64), .d (.w 0#64)] [(0, 1, .t 70), (1, 1, .t 73)]⟩, ⟨none, none, .store 2 (.t 8) (.t 74)⟩] [8])
    .ret) .skip)))))
 (.seq (.reg false [⟨some 75, none, .mv (.t 0)⟩, ⟨some 76, none, .mv (.t 1)⟩, ⟨some 77, none, .mv (.t 1)⟩, ⟨some 78, none, .mv (.t 2)⟩, ⟨some 79, none, .bin .sub (.t 78) (.k (.int .i64 1))⟩, ⟨some 80, none, .lcall (.f 49) [.t 77, .t 79]⟩, ⟨some 81, none, .bin .sub (.t 80) (.k (.int .i64 1))⟩, ⟨some 82, none, .mv (.t 3)⟩, ⟨some 83, none, .lcall (.f 55) [.t 75, .t 76, .t 81, .t 82]⟩, ⟨some 14, none, .alloc [.d (.w 0#64), .d (.w 0#64)]⟩, ⟨none, none, .store 2 (.t 14) (.t 83)⟩] [0, 8, 9, 12, 13, 14])
 (.seq (.seq (.reg false [⟨some 84, none, .mv (.t 12)⟩, ⟨some 85, none, .bin .eql (.t 84) (.k (.int .i64 1))⟩] [0, 8, 9, 13, 14, 85])
 (.cond (.t 85) (.seq (.reg false [⟨some 86, none, .mv (.t 0)⟩, ⟨some 87, none, .faddr 0 (.t 9)⟩, ⟨some 88, none, .load none (.t 87)⟩, ⟨some 89, none, .load (some 2) (.t 14)⟩, ⟨some 90, none, .load (some 2) (.t 13)⟩, ⟨some 91, none, .pcall (.f 53) [.t 86, .t 88, .t 89, .t 90]⟩, ⟨none, none, .store 2 (.t 8) (.t 91)⟩] [8])
  .ret) .skip))
 (.seq (.reg false [⟨some 92, none, .faddr 0 (.t 9)⟩, ⟨some 93, none, .load none (.t 92)⟩, ⟨some 94, none, .load (some 2) (.t 14)⟩, ⟨some 95, none, .load (some 2) (.t 13)⟩, ⟨some 96, none, .pcall (.f 54) [.t 93, .t 94, .t 95]⟩, ⟨none, none, .store 2 (.t 8) (.t 96)⟩] [8])
 .ret)))))))))
def F55 : AFunc := ⟨4, [.cell 8 (some 2)], [], F55_c⟩
/-- spec.l18Join -/
def F79_c : AC :=
 (.seq (.reg false [⟨some 2, none, .box (.t 0)⟩, ⟨some 3, none, .box (.t 1)⟩, ⟨some 4, none, .alloc [.d (.w 0#64), .d (.w 0#64)]⟩] [2, 3, 4])
 (.seq (.reg true [⟨some 5, none, .faddr 0 (.t 2)⟩, ⟨some 6, none, .load none (.t 5)⟩, ⟨some 7, none, .faddr 0 (.t 3)⟩, ⟨some 8, none, .load none (.t 7)⟩, ⟨some 9, none, .pcall (.f 51) [.t 6, .t 8]⟩, ⟨some 10, none, .faddr 1 (.t 2)⟩, ⟨some 11, none, .load none (.t 10)⟩, ⟨some 12, none, .faddr 1 (.t 3)⟩, ⟨some 13, none, .load none (.t 12)⟩, ⟨some 14, none, .pcall (.f 50) [.t 11, .t 13]⟩, ⟨some 15, none, .build [.d (.w 0#64), .d (.w 0#64)] [(0, 1, .t 9), (1, 1, .t 14)]⟩, ⟨none, none, .store 2 (.t 4) (.t 15)⟩] [4])
 .ret))
def F79 : AFunc := ⟨2, [.cell 4 (some 2)], [], F79_c⟩
/-- spec.l18Round -/
def F106_b0 : AC := (.seq (.reg false [⟨some 38, none, .bin .lss (.t 37) (.t 36)⟩] [1, 2, 5, 15, 16, 17, 35, 36, 37, 38])
      (.seq (.cond (.t 38) .skip (.exit 2))
      (.seq (.block 3 (.seq (.reg false [⟨some 39, none, .iaddr 2 (.t 35) (.t 37)⟩, ⟨some 40, none, .load (some 2) (.t 39)⟩, ⟨some 10, none, .alloc [.d (.int .i64 0), .d .nil]⟩, ⟨none, none, .store 2 (.t 10) (.t 40)⟩] [1, 2, 5, 10, 15, 16, 17, 35, 36, 37])
       (.reg true [⟨some 41, none, .mv (.t 5)⟩, ⟨some 42, none, .faddr 0 (.t 10)⟩, ⟨some 43, none, .load none (.t 42)⟩, ⟨some 44, none, .mv (.t 5)⟩, ⟨some 45, none, .faddr 0 (.t 10)⟩, ⟨some 46, none, .load none (.t 45)⟩, ⟨some 47, none, .iaddr 2 (.t 44) (.t 46)⟩, ⟨some 48, none, .load (some 2) (.t 47)⟩, ⟨some 49, none, .faddr 0 (.t 2)⟩, ⟨some 50, none, .load none (.t 49)⟩, ⟨some 51, none, .faddr 1 (.t 10)⟩, ⟨some 52, none, .load none (.t 51)⟩, ⟨some 53, none, .faddr 1 (.t 10)⟩, ⟨some 54, none, .load none (.t 53)⟩, ⟨some 55, none, .len (.t 54)⟩, ⟨some 56, none, .bin .sub (.t 55) (.k (.int .i64 1))⟩, ⟨some 57, none, .mv (.t 1)⟩, ⟨some 58, none, .lcall (.f 55) [.t 50, .t 52, .t 56, .t 57]⟩, ⟨some 59, none, .pcall (.f 79) [.t 48, .t 58]⟩, ⟨some 60, none, .iaddr 2 (.t 41) (.t 43)⟩, ⟨none, none, .store 2 (.t 60) (.t 59)⟩] [1, 2, 5, 15, 16, 17, 35, 36, 37])))
      (.reg false [⟨some 61, none, .bin .add (.t 37) (.k (.int .i64 1))⟩, ⟨some 37, none, .mv (.t 61)⟩] [1, 2, 5, 15, 16, 17, 35, 36, 37]))))
def F106_l0 : AC := F106_b0
@[simp] theorem u106_0 (T : Nat → Option AFunc) (X : Orc) (F : AFunc) (m : Nat) (K : List AT) (e : Env) (st : St) : go T X F m (.code F106_l0 :: K) e st = go T X F m (.code F106_b0 :: K) e st := rfl
def F106_t0 : AC :=
 (.reg false [⟨some 62, none, .bin .add (.t 17) (.k (.int .i64 1))⟩, ⟨some 17, none, .mv (.t 62)⟩] [1, 2, 5, 15, 16, 17])
def F106_b1 : AC := (.seq (.reg false [⟨some 18, none, .bin .lss (.t 17) (.t 16)⟩] [1, 2, 5, 15, 16, 17, 18])
   (.seq (.cond (.t 18) .skip (.exit 0))
   (.seq (.block 1 (.seq (.reg false [⟨some 19, none, .iaddr 2 (.t 15) (.t 17)⟩, ⟨some 20, none, .load (some 2) (.t 19)⟩, ⟨some 7, none, .alloc [.d .nil, .d .nil]⟩, ⟨none, none, .store 2 (.t 7) (.t 20)⟩] [1, 2, 5, 7, 15, 16, 17])
    (.seq (.reg false [⟨some 21, none, .faddr 0 (.t 2)⟩, ⟨some 22, none, .load none (.t 21)⟩, ⟨some 23, none, .faddr 0 (.t 7)⟩, ⟨some 24, none, .load none (.t 23)⟩, ⟨some 25, none, .faddr 0 (.t 7)⟩, ⟨some 26, none, .load none (.t 25)⟩, ⟨some 27, none, .len (.t 26)⟩, ⟨some 28, none, .bin .sub (.t 27) (.k (.int .i64 1))⟩, ⟨some 29, none, .mv (.t 1)⟩, ⟨some 30, none, .lcall (.f 55) [.t 22, .t 24, .t 28, .t 29]⟩, ⟨some 8, none, .alloc [.d (.w 0#64), .d (.w 0#64)]⟩, ⟨none, none, .store 2 (.t 8) (.t 30)⟩] [1, 2, 5, 7, 8, 15, 16, 17])
    (.seq (.seq (.reg false [⟨some 31, none, .faddr 1 (.t 8)⟩, ⟨some 32, none, .load none (.t 31)⟩, ⟨some 33, none, .bin .eql (.t 32) (.k (.w 0#64))⟩] [1, 2, 5, 7, 15, 16, 17, 33])
    (.cond (.t 33) (.exit 1) .skip))
    (.seq (.reg false [⟨some 34, none, .faddr 1 (.t 7)⟩, ⟨some 35, none, .load none (.t 34)⟩, ⟨some 36, none, .len (.t 35)⟩, ⟨some 37, none, .mv (.k (.int .i64 0))⟩] [1, 2, 5, 15, 16, 17, 35, 36, 37])
    (.block 2 (.loop [(1, .keep), (2, .keep), (5, .keep), (15, .keep), (16, .keep), (17, .keep), (35, .keep), (36, .keep), (37, .keep)] F106_l0)))))))
   (.kp [(1, .keep), (2, .keep), (5, .keep), (15, .keep), (16, .keep), (17, .keep)] F106_t0))))
def F106_l1 : AC := F106_b1
@[simp] theorem u106_1 (T : Nat → Option AFunc) (X : Orc) (F : AFunc) (m : Nat) (K : List AT) (e : Env) (st : St) : go T X F m (.code F106_l1 :: K) e st = go T X F m (.code F106_b1 :: K) e st := rfl
def F106_t1 : AC :=
 (.seq (.reg false [⟨some 63, none, .mv (.t 5)⟩, ⟨some 4, none, .mv (.t 63)⟩] [4])
 .ret)
def F106_c : AC :=
 (.seq (.reg false [⟨some 2, none, .box (.t 0)⟩, ⟨some 4, none, .mv (.k .nil)⟩] [1, 2])
 (.seq (.reg false [⟨some 11, none, .bslice 2 [(.w 0#64), (.w 0#64)] 0 []⟩, ⟨some 12, none, .mv (.t 1)⟩, ⟨some 13, none, .append 2 (.t 11) (.t 12)⟩, ⟨some 5, none, .mv (.t 13)⟩] [1, 2, 5])
 (.seq (.seq (.reg false [⟨some 14, none, .faddr 3 (.t 2)⟩, ⟨some 15, none, .load none (.t 14)⟩, ⟨some 16, none, .len (.t 15)⟩, ⟨some 17, none, .mv (.k (.int .i64 0))⟩] [1, 2, 5, 15, 16, 17])
 (.block 0 (.loop [(1, .keep), (2, .keep), (5, .keep), (15, .keep), (16, .keep), (17, .keep)] F106_l1)))
 (.kp [(5, .keep)] F106_t1))))
def F106 : AFunc := ⟨2, [.t 4], [], F106_c⟩
/-- spec.SettleSpans -/
def F107_b0 : AC := (.seq (.seq (.reg false [⟨some 25, none, .mv (.t 2)⟩, ⟨some 26, none, .bin .gtr (.t 25) (.k (.int .i64 0))⟩] [2, 3, 9, 26])
   (.cond (.t 26) .skip (.exit 0)))
   (.seq (.block 1 (.reg false [⟨some 29, none, .load (some 4) (.t 3)⟩, ⟨some 30, none, .mv (.t 9)⟩, ⟨some 31, none, .call false [] (.f 106) [.t 29, .t 30]⟩, ⟨some 9, none, .mv (.t 31)⟩] [2, 3, 9]))
   (.reg false [⟨some 27, none, .mv (.t 2)⟩, ⟨some 28, none, .bin .sub (.t 27) (.k (.int .i64 1))⟩, ⟨some 2, none, .mv (.t 28)⟩] [2, 3, 9])))
def F107_l0 : AC := F107_b0
@[simp] theorem u107_0 (T : Nat → Option AFunc) (X : Orc) (F : AFunc) (m : Nat) (K : List AT) (e : Env) (st : St) : go T X F m (.code F107_l0 :: K) e st = go T X F m (.code F107_b0 :: K) e st := rfl
def F107_b1 : AC := (.seq (.reg false [⟨some 37, none, .bin .lss (.t 36) (.t 35)⟩] [9, 10, 34, 35, 36, 37])
   (.seq (.cond (.t 37) .skip (.exit 2))
   (.seq (.block 3 (.seq (.reg false [⟨some 38, none, .mv (.t 36)⟩, ⟨some 39, none, .iaddr 2 (.t 34) (.t 36)⟩, ⟨some 40, none, .load (some 2) (.t 39)⟩, ⟨some 12, none, .alloc [.d (.w 0#64), .d (.w 0#64)]⟩, ⟨some 11, none, .mv (.t 38)⟩, ⟨none, none, .store 2 (.t 12) (.t 40)⟩] [9, 10, 11, 12, 34, 35, 36])
    (.reg true [⟨some 41, none, .mv (.t 10)⟩, ⟨some 42, none, .mv (.t 41)⟩, ⟨some 43, (some (42, true)), .load (some 2) (.t 12)⟩, ⟨some 44, (some (42, true)), .mv (.t 9)⟩, ⟨some 45, (some (42, true)), .mv (.t 11)⟩, ⟨some 46, (some (42, true)), .iaddr 2 (.t 44) (.t 45)⟩, ⟨some 47, (some (42, true)), .load (some 2) (.t 46)⟩, ⟨some 48, (some (42, true)), .eqs [0, 0] false (.t 43) (.t 47)⟩, ⟨some 49, none, .pick (.t 42) (.t 48) (.k (.bool false))⟩, ⟨some 10, none, .mv (.t 49)⟩] [9, 10, 34, 35, 36])))
   (.reg false [⟨some 50, none, .bin .add (.t 36) (.k (.int .i64 1))⟩, ⟨some 36, none, .mv (.t 50)⟩] [9, 10, 34, 35, 36]))))
def F107_l1 : AC := F107_b1
@[simp] theorem u107_1 (T : Nat → Option AFunc) (X : Orc) (F : AFunc) (m : Nat) (K : List AT) (e : Env) (st : St) : go T X F m (.code F107_l1 :: K) e st = go T X F m (.code F107_b1 :: K) e st := rfl
def F107_t0 : AC :=
 (.seq (.reg false [⟨some 51, none, .mv (.t 9)⟩, ⟨some 52, none, .mv (.t 10)⟩, ⟨some 6, none, .mv (.t 51)⟩, ⟨some 7, none, .mv (.t 52)⟩, ⟨some 8, none, .mv (.k (.bool true))⟩] [6, 7, 8])
 .ret)
def F107_t1 : AC :=
 (.seq (.reg false [⟨some 10, none, .mv (.k (.bool true))⟩] [3, 9, 10])
 (.seq (.seq (.reg false [⟨some 32, none, .load (some 4) (.t 3)⟩, ⟨some 33, none, .mv (.t 9)⟩, ⟨some 34, none, .call false [] (.f 106) [.t 32, .t 33]⟩, ⟨some 35, none, .len (.t 34)⟩, ⟨some 36, none, .mv (.k (.int .i64 0))⟩] [9, 10, 34, 35, 36])
 (.block 2 (.loop [(9, .keep), (10, .keep), (34, .keep), (35, .keep), (36, .keep)] F107_l1)))
 (.kp [(9, .keep), (10, .keep)] F107_t0)))
def F107_c : AC :=
 (.seq (.reg false [⟨some 3, none, .box (.t 0)⟩, ⟨some 6, none, .mv (.k .nil)⟩, ⟨some 7, none, .mv (.k (.bool false))⟩, ⟨some 8, none, .mv (.k (.bool false))⟩] [1, 2, 3])
 (.seq (.seq (.reg false [⟨some 13, none, .load (some 4) (.t 3)⟩, ⟨some 14, none, .mv (.t 1)⟩, ⟨some 15, none, .lcall (.f 105) [.t 13, .t 14]⟩, ⟨some 16, none, .un .not (.t 15)⟩, ⟨some 17, none, .mv (.t 16)⟩, ⟨some 18, (some (17, false)), .mv (.t 2)⟩, ⟨some 19, (some (17, false)), .pcall (.f 39) [.t 18, .k (.int .i64 0), .k (.int .i64 20)]⟩, ⟨some 20, (some (17, false)), .un .not (.t 19)⟩, ⟨some 21, none, .pick (.t 17) (.k (.bool true)) (.t 20)⟩] [1, 2, 3, 21])
 (.cond (.t 21) (.seq (.reg false [⟨some 6, none, .mv (.k .nil)⟩, ⟨some 7, none, .mv (.k (.bool false))⟩, ⟨some 8, none, .mv (.k (.bool false))⟩] [6, 7, 8])
  .ret) .skip))
 (.seq (.reg false [⟨some 22, none, .bslice 2 [(.w 0#64), (.w 0#64)] 0 []⟩, ⟨some 23, none, .mv (.t 1)⟩, ⟨some 24, none, .append 2 (.t 22) (.t 23)⟩, ⟨some 9, none, .mv (.t 24)⟩] [2, 3, 9])
 (.seq (.block 0 (.loop [(2, .keep), (3, .keep), (9, .keep)] F107_l0))
 (.kp [(3, .keep), (9, .keep)] F107_t1)))))
def F107 : AFunc := ⟨3, [.t 6, .t 7, .t 8], [], F107_c⟩
/-- laws.sameSpans -/
def F108_b0 : AC := (.seq (.reg false [⟨some 14, none, .bin .lss (.t 13) (.t 12)⟩] [0, 1, 12, 13, 14])
   (.seq (.cond (.t 14) .skip (.exit 0))
   (.seq (.block 1 (.seq (.reg false [⟨some 15, none, .mv (.t 13)⟩, ⟨some 5, none, .mv (.t 15)⟩] [0, 1, 5, 12, 13])
    (.seq (.reg true [⟨some 16, none, .mv (.t 0)⟩, ⟨some 17, none, .mv (.t 5)⟩, ⟨some 18, none, .iaddr 2 (.t 16) (.t 17)⟩, ⟨some 19, none, .load (some 2) (.t 18)⟩, ⟨some 20, none, .mv (.t 1)⟩, ⟨some 21, none, .mv (.t 5)⟩, ⟨some 22, none, .iaddr 2 (.t 20) (.t 21)⟩, ⟨some 23, none, .load (some 2) (.t 22)⟩, ⟨some 24, none, .eqs [0, 0] true (.t 19) (.t 23)⟩] [0, 1, 12, 13, 24])
    (.cond (.t 24) (.seq (.reg false [⟨some 4, none, .mv (.k (.bool false))⟩] [4])
     .ret) .skip))))
   (.reg false [⟨some 25, none, .bin .add (.t 13) (.k (.int .i64 1))⟩, ⟨some 13, none, .mv (.t 25)⟩] [0, 1, 12, 13]))))
def F108_l0 : AC := F108_b0
@[simp] theorem u108_0 (T : Nat → Option AFunc) (X : Orc) (F : AFunc) (m : Nat) (K : List AT) (e : Env) (st : St) : go T X F m (.code F108_l0 :: K) e st = go T X F m (.code F108_b0 :: K) e st := rfl
def F108_t0 : AC :=
 (.seq (.reg false [⟨some 4, none, .mv (.k (.bool true))⟩] [4])
 .ret)
def F108_c : AC :=
 (.seq (.reg false [⟨some 4, none, .mv (.k (.bool false))⟩] [0, 1])
 (.seq (.seq (.reg false [⟨some 6, none, .mv (.t 0)⟩, ⟨some 7, none, .len (.t 6)⟩, ⟨some 8, none, .mv (.t 1)⟩, ⟨some 9, none, .len (.t 8)⟩, ⟨some 10, none, .bin .neq (.t 7) (.t 9)⟩] [0, 1, 10])
 (.cond (.t 10) (.seq (.reg false [⟨some 4, none, .mv (.k (.bool false))⟩] [4])
  .ret) .skip))
 (.seq (.seq (.reg false [⟨some 11, none, .mv (.t 0)⟩, ⟨some 12, none, .len (.t 11)⟩, ⟨some 13, none, .mv (.k (.int .i64 0))⟩] [0, 1, 12, 13])
 (.block 0 (.loop [(0, .keep), (1, .keep), (12, .keep), (13, .keep)] F108_l0)))
 (.kp [] F108_t0))))
def F108 : AFunc := ⟨2, [.t 4], [], F108_c⟩
/-- impl.SpanRound -/
def F109_c : AC :=
 (.seq (.reg false [⟨some 2, none, .box (.t 0)⟩, ⟨some 4, none, .mv (.k .nil)⟩, ⟨some 5, none, .mv (.k (.bool false))⟩] [1, 2])
 (.seq (.seq (.reg false [⟨some 6, none, .load (some 4) (.t 2)⟩, ⟨some 7, none, .mv (.t 1)⟩, ⟨some 8, none, .lcall (.f 97) [.t 6, .t 7]⟩, ⟨some 9, none, .un .not (.t 8)⟩] [1, 2, 9])
 (.cond (.t 9) (.seq (.reg false [⟨some 4, none, .mv (.k .nil)⟩, ⟨some 5, none, .mv (.k (.bool false))⟩] [4, 5])
  .ret) .skip))
 (.seq (.reg false [⟨some 10, none, .load (some 4) (.t 2)⟩, ⟨some 11, none, .mv (.t 1)⟩, ⟨some 12, none, .call false [] (.f 99) [.t 10, .t 11]⟩, ⟨some 4, none, .mv (.t 12)⟩, ⟨some 5, none, .mv (.k (.bool true))⟩] [4, 5])
 .ret)))
def F109 : AFunc := ⟨2, [.t 4, .t 5], [], F109_c⟩
/-- laws.numberOf -/
def F57_b0 : AC := (.seq (.reg false [⟨some 9, none, .bin .lss (.t 8) (.t 7)⟩] [3, 6, 7, 8, 9])
   (.seq (.cond (.t 9) .skip (.exit 0))
   (.seq (.block 1 (.seq (.reg false [⟨some 10, none, .iaddr 1 (.t 6) (.t 8)⟩, ⟨some 11, none, .load none (.t 10)⟩, ⟨some 5, none, .mv (.t 11)⟩] [3, 5, 6, 7, 8])
    (.reg false [⟨some 12, none, .mv (.t 3)⟩, ⟨some 13, none, .bin .mul (.k (.int .i64 31)) (.t 12)⟩, ⟨some 14, none, .mv (.t 5)⟩, ⟨some 15, none, .conv .i64 (.t 14)⟩, ⟨some 16, none, .bin .add (.t 13) (.t 15)⟩, ⟨some 17, none, .bin .rem (.t 16) (.k (.int .i64 1000003))⟩, ⟨some 3, none, .mv (.t 17)⟩] [3, 6, 7, 8])))
   (.reg false [⟨some 18, none, .bin .add (.t 8) (.k (.int .i64 1))⟩, ⟨some 8, none, .mv (.t 18)⟩] [3, 6, 7, 8]))))
def F57_l0 : AC := F57_b0
@[simp] theorem u57_0 (T : Nat → Option AFunc) (X : Orc) (F : AFunc) (m : Nat) (K : List AT) (e : Env) (st : St) : go T X F m (.code F57_l0 :: K) e st = go T X F m (.code F57_b0 :: K) e st := rfl
def F57_t0 : AC :=
 (.seq (.reg false [⟨some 19, none, .mv (.t 3)⟩, ⟨some 2, none, .mv (.t 19)⟩] [2])
 .ret)
def F57_c : AC :=
 (.seq (.reg false [⟨some 2, none, .mv (.k (.int .i64 0))⟩] [0])
 (.seq (.reg false [⟨some 3, none, .mv (.k (.int .i64 0))⟩] [0, 3])
 (.seq (.seq (.reg false [⟨some 6, none, .mv (.t 0)⟩, ⟨some 7, none, .len (.t 6)⟩, ⟨some 8, none, .mv (.k (.int .i64 0))⟩] [3, 6, 7, 8])
 (.block 0 (.loop [(3, .keep), (6, .keep), (7, .keep), (8, .keep)] F57_l0)))
 (.kp [(3, .keep)] F57_t0))))
def F57 : AFunc := ⟨1, [.t 2], [], F57_c⟩
/-- slices.IndexFunc[[]uint64,uint64] -/
def F58_b0 : AC := (.seq (.reg false [⟨some 9, none, .bin .lss (.t 8) (.t 7)⟩] [0, 1, 7, 8, 9])
   (.seq (.cond (.t 9) .skip (.exit 0))
   (.seq (.block 1 (.seq (.reg false [⟨some 10, none, .mv (.t 8)⟩, ⟨some 5, none, .mv (.t 10)⟩] [0, 1, 5, 7, 8])
    (.seq (.reg false [⟨some 11, none, .mv (.t 1)⟩, ⟨some 12, none, .mv (.t 0)⟩, ⟨some 13, none, .mv (.t 5)⟩, ⟨some 14, none, .iaddr 1 (.t 12) (.t 13)⟩, ⟨some 15, none, .load none (.t 14)⟩, ⟨some 16, none, .lcall (.t 11) [.t 15]⟩] [0, 1, 5, 7, 8, 16])
    (.cond (.t 16) (.seq (.reg false [⟨some 17, none, .mv (.t 5)⟩, ⟨some 4, none, .mv (.t 17)⟩] [4])
     .ret) .skip))))
   (.reg false [⟨some 18, none, .bin .add (.t 8) (.k (.int .i64 1))⟩, ⟨some 8, none, .mv (.t 18)⟩] [0, 1, 7, 8]))))
def F58_l0 : AC := F58_b0
@[simp] theorem u58_0 (T : Nat → Option AFunc) (X : Orc) (F : AFunc) (m : Nat) (K : List AT) (e : Env) (st : St) : go T X F m (.code F58_l0 :: K) e st = go T X F m (.code F58_b0 :: K) e st := rfl
def F58_t0 : AC :=
 (.seq (.reg false [⟨some 4, none, .mv (.k (.int .i64 (-1)))⟩] [4])
 .ret)
def F58_c : AC :=
 (.seq (.reg false [⟨some 4, none, .mv (.k (.int .i64 0))⟩] [0, 1])
 (.seq (.seq (.reg false [⟨some 6, none, .mv (.t 0)⟩, ⟨some 7, none, .len (.t 6)⟩, ⟨some 8, none, .mv (.k (.int .i64 0))⟩] [0, 1, 7, 8])
 (.block 0 (.loop [(0, .keep), (1, .keep), (7, .keep), (8, .keep)] F58_l0)))
 (.kp [] F58_t0)))
def F58 : AFunc := ⟨2, [.t 4], [], F58_c⟩
/-- slices.ContainsFunc[[]uint64,uint64] -/
def F59_c : AC :=
 (.seq (.reg false [⟨some 4, none, .mv (.k (.bool false))⟩] [0, 1])
 (.seq (.reg false [⟨some 5, none, .mv (.t 0)⟩, ⟨some 6, none, .mv (.t 1)⟩, ⟨some 7, none, .lcall (.f 58) [.t 5, .t 6]⟩, ⟨some 8, none, .bin .geq (.t 7) (.k (.int .i64 0))⟩, ⟨some 4, none, .mv (.t 8)⟩] [4])
 .ret))
def F59 : AFunc := ⟨2, [.t 4], [], F59_c⟩
/-- impl.isState$1 -/
def F60_c : AC :=
 (.seq (.reg false [⟨some 3, none, .mv (.k (.bool false))⟩] [0, 1])
 (.seq (.reg false [⟨some 4, none, .load none (.t 1)⟩, ⟨some 5, none, .mv (.t 0)⟩, ⟨some 6, none, .pcall (.f 20) [.t 4, .t 5]⟩, ⟨some 7, none, .un .not (.t 6)⟩, ⟨some 3, none, .mv (.t 7)⟩] [3])
 .ret))
def F60 : AFunc := ⟨2, [.t 3], [], F60_c⟩
/-- impl.isState -/
def F61_c : AC :=
 (.seq (.reg false [⟨some 3, none, .box (.t 0)⟩, ⟨some 6, none, .mv (.k (.bool false))⟩] [1, 2, 3])
 (.seq (.reg false [⟨some 7, none, .load none (.t 3)⟩, ⟨some 8, none, .pcall (.f 18) [.t 7]⟩, ⟨some 9, none, .mv (.t 8)⟩, ⟨some 10, (some (9, true)), .mv (.t 1)⟩, ⟨some 11, (some (9, true)), .pcall (.f 15) [.t 10]⟩, ⟨some 12, none, .pick (.t 9) (.t 11) (.k (.bool false))⟩, ⟨some 13, none, .mv (.t 12)⟩, ⟨some 14, (some (13, true)), .mv (.t 2)⟩, ⟨some 15, (some (13, true)), .len (.t 14)⟩, ⟨some 16, (some (13, true)), .mv (.t 1)⟩, ⟨some 17, (some (13, true)), .bin .eql (.t 15) (.t 16)⟩, ⟨some 18, none, .pick (.t 13) (.t 17) (.k (.bool false))⟩, ⟨some 19, none, .mv (.t 18)⟩, ⟨some 20, (some (19, true)), .mv (.t 2)⟩, ⟨some 21, (some (19, true)), .mkfn 60 [.t 3]⟩, ⟨some 22, (some (19, true)), .lcall (.f 59) [.t 20, .t 21]⟩, ⟨some 23, (some (19, true)), .un .not (.t 22)⟩, ⟨some 24, none, .pick (.t 19) (.t 23) (.k (.bool false))⟩, ⟨some 6, none, .mv (.t 24)⟩] [6])
 .ret))
def F61 : AFunc := ⟨3, [.t 6], [], F61_c⟩
/-- impl.isStateOf -/
def F110_c : AC :=
 (.seq (.reg false [⟨some 2, none, .box (.t 0)⟩, ⟨some 4, none, .mv (.k (.bool false))⟩] [1, 2])
 (.seq (.reg false [⟨some 5, none, .load (some 4) (.t 2)⟩, ⟨some 6, none, .lcall (.f 96) [.t 5]⟩, ⟨some 7, none, .mv (.t 6)⟩, ⟨some 8, (some (7, true)), .faddr 0 (.t 2)⟩, ⟨some 9, (some (7, true)), .load none (.t 8)⟩, ⟨some 10, (some (7, true)), .faddr 1 (.t 2)⟩, ⟨some 11, (some (7, true)), .load none (.t 10)⟩, ⟨some 12, (some (7, true)), .mv (.t 1)⟩, ⟨some 13, (some (7, true)), .lcall (.f 61) [.t 9, .t 11, .t 12]⟩, ⟨some 14, none, .pick (.t 7) (.t 13) (.k (.bool false))⟩, ⟨some 4, none, .mv (.t 14)⟩] [4])
 .ret))
def F110 : AFunc := ⟨2, [.t 4], [], F110_c⟩
/-- (impl.Program).isCommandNo -/
def F111_c : AC :=
 (.seq (.reg false [⟨some 2, none, .box (.t 0)⟩, ⟨some 4, none, .mv (.k (.bool false))⟩] [1, 2])
 (.seq (.reg false [⟨some 5, none, .mv (.t 1)⟩, ⟨some 6, none, .bin .geq (.t 5) (.k (.int .i64 0))⟩, ⟨some 7, none, .mv (.t 6)⟩, ⟨some 8, (some (7, true)), .mv (.t 1)⟩, ⟨some 9, (some (7, true)), .faddr 3 (.t 2)⟩, ⟨some 10, (some (7, true)), .load none (.t 9)⟩, ⟨some 11, (some (7, true)), .len (.t 10)⟩, ⟨some 12, (some (7, true)), .bin .lss (.t 8) (.t 11)⟩, ⟨some 13, none, .pick (.t 7) (.t 12) (.k (.bool false))⟩, ⟨some 4, none, .mv (.t 13)⟩] [4])
 .ret))
def F111 : AFunc := ⟨2, [.t 4], [], F111_c⟩
/-- impl.areWords -/
def F64_c : AC :=
 (.seq (.reg false [⟨some 6, none, .mv (.k (.bool false))⟩] [0, 1, 2])
 (.seq (.reg false [⟨some 7, none, .mv (.t 0)⟩, ⟨some 8, none, .mv (.t 1)⟩, ⟨some 9, none, .pcall (.f 20) [.t 7, .t 8]⟩, ⟨some 10, none, .mv (.t 9)⟩, ⟨some 11, (some (10, true)), .mv (.t 0)⟩, ⟨some 12, (some (10, true)), .mv (.t 2)⟩, ⟨some 13, (some (10, true)), .pcall (.f 20) [.t 11, .t 12]⟩, ⟨some 14, none, .pick (.t 10) (.t 13) (.k (.bool false))⟩, ⟨some 6, none, .mv (.t 14)⟩] [6])
 .ret))
def F64 : AFunc := ⟨3, [.t 6], [], F64_c⟩
/-- math/bits.Len64 -/
def F65_t0 : AC :=
 (.seq (.reg false [⟨some 19, none, .mv (.t 2)⟩, ⟨some 20, none, .mv (.t 0)⟩, ⟨some 21, none, .conv .u8 (.t 20)⟩, ⟨some 22, none, .stri (.k (.str [0, 1, 2, 2, 3, 3, 3, 3, 4, 4, 4, 4, 4, 4, 4, 4, 5, 5, 5, 5, 5, 5, 5, 5, 5, 5, 5, 5, 5, 5, 5, 5, 6, 6, 6, 6, 6, 6, 6, 6, 6, 6, 6, 6, 6, 6, 6, 6, 6, 6, 6, 6, 6, 6, 6, 6, 6, 6, 6, 6, 6, 6, 6, 6, 7, 7, 7, 7, 7, 7, 7, 7, 7, 7, 7, 7, 7, 7, 7, 7, 7, 7, 7, 7, 7, 7, 7, 7, 7, 7, 7, 7, 7, 7, 7, 7, 7, 7, 7, 7, 7, 7, 7, 7, 7, 7, 7, 7, 7, 7, 7, 7, 7, 7, 7, 7, 7, 7, 7, 7, 7, 7, 7, 7, 7, 7, 7, 7, 8, 8, 8, 8, 8, 8, 8, 8, 8, 8, 8, 8, 8, 8, 8, 8, 8, 8, 8, 8, 8, 8, 8, 8, 8, 8, 8, 8, 8, 8, 8, 8, 8, 8, 8, 8, 8, 8, 8, 8, 8, 8, 8, 8, 8, 8, 8, 8, 8, 8, 8, 8, 8, 8, 8, 8, 8, 8, 8, 8, 8, 8, 8, 8, 8, 8, 8, 8, 8, 8, 8, 8, 8, 8, 8, 8, 8, 8, 8, 8, 8, 8, 8, 8, 8, 8, 8, 8, 8, 8, 8, 8, 8, 8, 8, 8, 8, 8, 8, 8, 8, 8, 8, 8, 8, 8, 8, 8, 8, 8, 8, 8, 8, 8, 8, 8, 8, 8, 8, 8, 8, 8, 8, 8, 8, 8, 8, 8])) (.t 21)⟩, ⟨some 23, none, .conv .i64 (.t 22)⟩, ⟨some 24, none, .bin .add (.t 19) (.t 23)⟩, ⟨some 2, none, .mv (.t 24)⟩] [2])
 .ret)
def F65_t1 : AC :=
 (.seq (.seq (.reg false [⟨some 13, none, .mv (.t 0)⟩, ⟨some 14, none, .bin .geq (.t 13) (.k (.w 256#64))⟩] [0, 2, 14])
 (.cond (.t 14) (.seq (.reg false [⟨some 15, none, .mv (.t 0)⟩, ⟨some 16, none, .bin .shr (.t 15) (.k (.w 8#64))⟩, ⟨some 0, none, .mv (.t 16)⟩] [0, 2])
  (.reg false [⟨some 17, none, .mv (.t 2)⟩, ⟨some 18, none, .bin .add (.t 17) (.k (.int .i64 8))⟩, ⟨some 2, none, .mv (.t 18)⟩] [0, 2])) .skip))
 (.kp [(0, .keep), (2, .keep)] F65_t0))
def F65_t2 : AC :=
 (.seq (.seq (.reg false [⟨some 7, none, .mv (.t 0)⟩, ⟨some 8, none, .bin .geq (.t 7) (.k (.w 65536#64))⟩] [0, 2, 8])
 (.cond (.t 8) (.seq (.reg false [⟨some 9, none, .mv (.t 0)⟩, ⟨some 10, none, .bin .shr (.t 9) (.k (.w 16#64))⟩, ⟨some 0, none, .mv (.t 10)⟩] [0, 2])
  (.reg false [⟨some 11, none, .mv (.t 2)⟩, ⟨some 12, none, .bin .add (.t 11) (.k (.int .i64 16))⟩, ⟨some 2, none, .mv (.t 12)⟩] [0, 2])) .skip))
 (.kp [(0, .keep), (2, .keep)] F65_t1))
def F65_c : AC :=
 (.seq (.reg false [⟨some 2, none, .mv (.k (.int .i64 0))⟩] [0, 2])
 (.seq (.seq (.reg false [⟨some 3, none, .mv (.t 0)⟩, ⟨some 4, none, .bin .geq (.t 3) (.k (.w 4294967296#64))⟩] [0, 2, 4])
 (.cond (.t 4) (.seq (.reg false [⟨some 5, none, .mv (.t 0)⟩, ⟨some 6, none, .bin .shr (.t 5) (.k (.w 32#64))⟩, ⟨some 0, none, .mv (.t 6)⟩] [0])
  (.reg false [⟨some 2, none, .mv (.k (.int .i64 32))⟩] [0, 2])) .skip))
 (.kp [(0, .keep), (2, .keep)] F65_t2)))
def F65 : AFunc := ⟨1, [.t 2], [], F65_c⟩
/-- math/bits.LeadingZeros64 -/
def F66_c : AC :=
 (.seq (.reg false [⟨some 2, none, .mv (.k (.int .i64 0))⟩] [0])
 (.seq (.reg false [⟨some 3, none, .mv (.t 0)⟩, ⟨some 4, none, .pcall (.f 65) [.t 3]⟩, ⟨some 5, none, .bin .sub (.k (.int .i64 64)) (.t 4)⟩, ⟨some 2, none, .mv (.t 5)⟩] [2])
 .ret))
def F66 : AFunc := ⟨1, [.t 2], [], F66_c⟩
/-- math/bits.Div64 -/
def F67_b0 : AC := (.seq (.seq (.reg false [⟨some 67, none, .mv (.t 15)⟩, ⟨some 68, none, .bin .geq (.t 67) (.k (.w 4294967296#64))⟩, ⟨some 69, none, .mv (.t 68)⟩, ⟨some 70, (some (69, false)), .mv (.t 15)⟩, ⟨some 71, (some (69, false)), .mv (.t 10)⟩, ⟨some 72, (some (69, false)), .bin .mul (.t 70) (.t 71)⟩, ⟨some 73, (some (69, false)), .mv (.t 16)⟩, ⟨some 74, (some (69, false)), .bin .mul (.k (.w 4294967296#64)) (.t 73)⟩, ⟨some 75, (some (69, false)), .mv (.t 13)⟩, ⟨some 76, (some (69, false)), .bin .add (.t 74) (.t 75)⟩, ⟨some 77, (some (69, false)), .bin .gtr (.t 72) (.t 76)⟩, ⟨some 78, none, .pick (.t 69) (.k (.bool true)) (.t 77)⟩] [2, 8, 9, 10, 11, 13, 14, 15, 16, 78])
   (.cond (.t 78) .skip (.exit 0)))
   (.block 1 (.seq (.reg false [⟨some 79, none, .mv (.t 15)⟩, ⟨some 80, none, .bin .sub (.t 79) (.k (.w 1#64))⟩, ⟨some 15, none, .mv (.t 80)⟩] [2, 8, 9, 10, 11, 13, 14, 15, 16])
    (.seq (.reg false [⟨some 81, none, .mv (.t 16)⟩, ⟨some 82, none, .mv (.t 9)⟩, ⟨some 83, none, .bin .add (.t 81) (.t 82)⟩, ⟨some 16, none, .mv (.t 83)⟩] [2, 8, 9, 10, 11, 13, 14, 15, 16])
    (.seq (.reg false [⟨some 84, none, .mv (.t 16)⟩, ⟨some 85, none, .bin .geq (.t 84) (.k (.w 4294967296#64))⟩] [2, 8, 9, 10, 11, 13, 14, 15, 16, 85])
    (.cond (.t 85) (.exit 0) .skip))))))
def F67_l0 : AC := F67_b0
@[simp] theorem u67_0 (T : Nat → Option AFunc) (X : Orc) (F : AFunc) (m : Nat) (K : List AT) (e : Env) (st : St) : go T X F m (.code F67_l0 :: K) e st = go T X F m (.code F67_b0 :: K) e st := rfl
def F67_b1 : AC := (.seq (.seq (.reg false [⟨some 102, none, .mv (.t 18)⟩, ⟨some 103, none, .bin .geq (.t 102) (.k (.w 4294967296#64))⟩, ⟨some 104, none, .mv (.t 103)⟩, ⟨some 105, (some (104, false)), .mv (.t 18)⟩, ⟨some 106, (some (104, false)), .mv (.t 10)⟩, ⟨some 107, (some (104, false)), .bin .mul (.t 105) (.t 106)⟩, ⟨some 108, (some (104, false)), .mv (.t 16)⟩, ⟨some 109, (some (104, false)), .bin .mul (.k (.w 4294967296#64)) (.t 108)⟩, ⟨some 110, (some (104, false)), .mv (.t 14)⟩, ⟨some 111, (some (104, false)), .bin .add (.t 109) (.t 110)⟩, ⟨some 112, (some (104, false)), .bin .gtr (.t 107) (.t 111)⟩, ⟨some 113, none, .pick (.t 104) (.k (.bool true)) (.t 112)⟩] [2, 8, 9, 10, 14, 15, 16, 17, 18, 113])
   (.cond (.t 113) .skip (.exit 2)))
   (.block 3 (.seq (.reg false [⟨some 114, none, .mv (.t 18)⟩, ⟨some 115, none, .bin .sub (.t 114) (.k (.w 1#64))⟩, ⟨some 18, none, .mv (.t 115)⟩] [2, 8, 9, 10, 14, 15, 16, 17, 18])
    (.seq (.reg false [⟨some 116, none, .mv (.t 16)⟩, ⟨some 117, none, .mv (.t 9)⟩, ⟨some 118, none, .bin .add (.t 116) (.t 117)⟩, ⟨some 16, none, .mv (.t 118)⟩] [2, 8, 9, 10, 14, 15, 16, 17, 18])
    (.seq (.reg false [⟨some 119, none, .mv (.t 16)⟩, ⟨some 120, none, .bin .geq (.t 119) (.k (.w 4294967296#64))⟩] [2, 8, 9, 10, 14, 15, 16, 17, 18, 120])
    (.cond (.t 120) (.exit 2) .skip))))))
def F67_l1 : AC := F67_b1
@[simp] theorem u67_1 (T : Nat → Option AFunc) (X : Orc) (F : AFunc) (m : Nat) (K : List AT) (e : Env) (st : St) : go T X F m (.code F67_l1 :: K) e st = go T X F m (.code F67_b1 :: K) e st := rfl
def F67_t0 : AC :=
 (.seq (.reg false [⟨some 121, none, .mv (.t 15)⟩, ⟨some 122, none, .bin .mul (.t 121) (.k (.w 4294967296#64))⟩, ⟨some 123, none, .mv (.t 18)⟩, ⟨some 124, none, .bin .add (.t 122) (.t 123)⟩, ⟨some 125, none, .mv (.t 17)⟩, ⟨some 126, none, .bin .mul (.t 125) (.k (.w 4294967296#64))⟩, ⟨some 127, none, .mv (.t 14)⟩, ⟨some 128, none, .bin .add (.t 126) (.t 127)⟩, ⟨some 129, none, .mv (.t 18)⟩, ⟨some 130, none, .mv (.t 2)⟩, ⟨some 131, none, .bin .mul (.t 129) (.t 130)⟩, ⟨some 132, none, .bin .sub (.t 128) (.t 131)⟩, ⟨some 133, none, .mv (.t 8)⟩, ⟨some 134, none, .bin .shr (.t 132) (.t 133)⟩, ⟨some 6, none, .mv (.t 124)⟩, ⟨some 7, none, .mv (.t 134)⟩] [6, 7])
 .ret)
def F67_t1 : AC :=
 (.seq (.reg false [⟨some 86, none, .mv (.t 11)⟩, ⟨some 87, none, .bin .mul (.t 86) (.k (.w 4294967296#64))⟩, ⟨some 88, none, .mv (.t 13)⟩, ⟨some 89, none, .bin .add (.t 87) (.t 88)⟩, ⟨some 90, none, .mv (.t 15)⟩, ⟨some 91, none, .mv (.t 2)⟩, ⟨some 92, none, .bin .mul (.t 90) (.t 91)⟩, ⟨some 93, none, .bin .sub (.t 89) (.t 92)⟩, ⟨some 17, none, .mv (.t 93)⟩] [2, 8, 9, 10, 14, 15, 17])
 (.seq (.reg false [⟨some 94, none, .mv (.t 17)⟩, ⟨some 95, none, .mv (.t 9)⟩, ⟨some 96, none, .bin .quo (.t 94) (.t 95)⟩, ⟨some 18, none, .mv (.t 96)⟩] [2, 8, 9, 10, 14, 15, 17, 18])
 (.seq (.reg false [⟨some 97, none, .mv (.t 17)⟩, ⟨some 98, none, .mv (.t 18)⟩, ⟨some 99, none, .mv (.t 9)⟩, ⟨some 100, none, .bin .mul (.t 98) (.t 99)⟩, ⟨some 101, none, .bin .sub (.t 97) (.t 100)⟩, ⟨some 16, none, .mv (.t 101)⟩] [2, 8, 9, 10, 14, 15, 16, 17, 18])
 (.seq (.block 2 (.loop [(2, .keep), (8, .keep), (9, .keep), (10, .keep), (14, .keep), (15, .keep), (16, .keep), (17, .keep), (18, .keep)] F67_l1))
 (.kp [(2, .keep), (8, .keep), (14, .keep), (15, .keep), (17, .keep), (18, .keep)] F67_t0)))))
def F67_t2 : AC :=
 (.seq (.seq (.reg false [⟨some 26, none, .mv (.t 0)⟩, ⟨some 27, none, .bin .eql (.t 26) (.k (.w 0#64))⟩] [0, 1, 2, 27])
 (.cond (.t 27) (.seq (.reg true [⟨some 28, none, .mv (.t 1)⟩, ⟨some 29, none, .mv (.t 2)⟩, ⟨some 30, none, .bin .quo (.t 28) (.t 29)⟩, ⟨some 31, none, .mv (.t 1)⟩, ⟨some 32, none, .mv (.t 2)⟩, ⟨some 33, none, .bin .rem (.t 31) (.t 32)⟩, ⟨some 6, none, .mv (.t 30)⟩, ⟨some 7, none, .mv (.t 33)⟩] [6, 7])
  .ret) .skip))
 (.seq (.reg false [⟨some 34, none, .mv (.t 2)⟩, ⟨some 35, none, .pcall (.f 66) [.t 34]⟩, ⟨some 36, none, .conv .u64 (.t 35)⟩, ⟨some 8, none, .mv (.t 36)⟩] [0, 1, 2, 8])
 (.seq (.reg false [⟨some 37, none, .mv (.t 2)⟩, ⟨some 38, none, .mv (.t 8)⟩, ⟨some 39, none, .bin .shl (.t 37) (.t 38)⟩, ⟨some 2, none, .mv (.t 39)⟩] [0, 1, 2, 8])
 (.seq (.reg false [⟨some 40, none, .mv (.t 2)⟩, ⟨some 41, none, .bin .shr (.t 40) (.k (.w 32#64))⟩, ⟨some 9, none, .mv (.t 41)⟩] [0, 1, 2, 8, 9])
 (.seq (.reg false [⟨some 42, none, .mv (.t 2)⟩, ⟨some 43, none, .bin .and (.t 42) (.k (.w 4294967295#64))⟩, ⟨some 10, none, .mv (.t 43)⟩] [0, 1, 2, 8, 9, 10])
 (.seq (.reg false [⟨some 44, none, .mv (.t 0)⟩, ⟨some 45, none, .mv (.t 8)⟩, ⟨some 46, none, .bin .shl (.t 44) (.t 45)⟩, ⟨some 47, none, .mv (.t 1)⟩, ⟨some 48, none, .mv (.t 8)⟩, ⟨some 49, none, .bin .sub (.k (.w 64#64)) (.t 48)⟩, ⟨some 50, none, .bin .shr (.t 47) (.t 49)⟩, ⟨some 51, none, .bin .or (.t 46) (.t 50)⟩, ⟨some 11, none, .mv (.t 51)⟩] [1, 2, 8, 9, 10, 11])
 (.seq (.reg false [⟨some 52, none, .mv (.t 1)⟩, ⟨some 53, none, .mv (.t 8)⟩, ⟨some 54, none, .bin .shl (.t 52) (.t 53)⟩, ⟨some 12, none, .mv (.t 54)⟩] [2, 8, 9, 10, 11, 12])
 (.seq (.reg false [⟨some 55, none, .mv (.t 12)⟩, ⟨some 56, none, .bin .shr (.t 55) (.k (.w 32#64))⟩, ⟨some 13, none, .mv (.t 56)⟩] [2, 8, 9, 10, 11, 12, 13])
 (.seq (.reg false [⟨some 57, none, .mv (.t 12)⟩, ⟨some 58, none, .bin .and (.t 57) (.k (.w 4294967295#64))⟩, ⟨some 14, none, .mv (.t 58)⟩] [2, 8, 9, 10, 11, 13, 14])
 (.seq (.reg false [⟨some 59, none, .mv (.t 11)⟩, ⟨some 60, none, .mv (.t 9)⟩, ⟨some 61, none, .bin .quo (.t 59) (.t 60)⟩, ⟨some 15, none, .mv (.t 61)⟩] [2, 8, 9, 10, 11, 13, 14, 15])
 (.seq (.reg false [⟨some 62, none, .mv (.t 11)⟩, ⟨some 63, none, .mv (.t 15)⟩, ⟨some 64, none, .mv (.t 9)⟩, ⟨some 65, none, .bin .mul (.t 63) (.t 64)⟩, ⟨some 66, none, .bin .sub (.t 62) (.t 65)⟩, ⟨some 16, none, .mv (.t 66)⟩] [2, 8, 9, 10, 11, 13, 14, 15, 16])
 (.seq (.block 0 (.loop [(2, .keep), (8, .keep), (9, .keep), (10, .keep), (11, .keep), (13, .keep), (14, .keep), (15, .keep), (16, .keep)] F67_l0))
 (.kp [(2, .keep), (8, .keep), (9, .keep), (10, .keep), (11, .keep), (13, .keep), (14, .keep), (15, .keep)] F67_t1)))))))))))))
def F67_t3 : AC :=
 (.seq (.seq (.reg false [⟨some 22, none, .mv (.t 2)⟩, ⟨some 23, none, .mv (.t 0)⟩, ⟨some 24, none, .bin .leq (.t 22) (.t 23)⟩] [0, 1, 2, 24])
 (.cond (.t 24) (.reg false [⟨some 25, none, .refuse⟩, ⟨none, none, .refuse⟩] [0, 1, 2]) .skip))
 (.kp [(0, .keep), (1, .keep), (2, .keep)] F67_t2))
def F67_c : AC :=
 (.seq (.reg false [⟨some 6, none, .mv (.k (.w 0#64))⟩, ⟨some 7, none, .mv (.k (.w 0#64))⟩] [0, 1, 2])
 (.seq (.seq (.reg false [⟨some 19, none, .mv (.t 2)⟩, ⟨some 20, none, .bin .eql (.t 19) (.k (.w 0#64))⟩] [0, 1, 2, 20])
 (.cond (.t 20) (.reg false [⟨some 21, none, .refuse⟩, ⟨none, none, .refuse⟩] [0, 1, 2]) .skip))
 (.kp [(0, .keep), (1, .keep), (2, .keep)] F67_t3)))
def F67 : AFunc := ⟨3, [.t 6, .t 7], [], F67_c⟩
/-- impl.DivWord -/
def F68_c : AC :=
 (.seq (.reg false [⟨some 6, none, .mv (.k (.w 0#64))⟩, ⟨some 7, none, .mv (.k (.w 0#64))⟩, ⟨some 8, none, .mv (.k (.bool false))⟩] [0, 1, 2])
 (.seq (.block 0 (.seq (.reg false [⟨some 12, none, .mv (.t 0)⟩, ⟨some 13, none, .mv (.t 1)⟩, ⟨some 14, none, .mv (.t 2)⟩, ⟨some 15, none, .pcall (.f 64) [.t 12, .t 13, .t 14]⟩, ⟨some 16, none, .un .not (.t 15)⟩, ⟨some 11, none, .mv (.t 16)⟩] [0, 1, 2, 11])
  (.cond (.t 11) (.seq (.reg false [⟨some 6, none, .mv (.k (.w 0#64))⟩, ⟨some 7, none, .mv (.k (.w 0#64))⟩, ⟨some 8, none, .mv (.k (.bool false))⟩] [6, 7, 8])
   .ret) (.seq (.reg false [⟨some 18, none, .mv (.t 2)⟩, ⟨some 19, none, .bin .eql (.t 18) (.k (.w 0#64))⟩, ⟨some 17, none, .mv (.t 19)⟩] [0, 1, 2, 17])
   (.cond (.t 17) (.seq (.reg false [⟨some 20, none, .mv (.t 0)⟩, ⟨some 21, none, .pcall (.f 19) [.t 20]⟩, ⟨some 22, none, .mv (.t 1)⟩, ⟨some 6, none, .mv (.t 21)⟩, ⟨some 7, none, .mv (.t 22)⟩, ⟨some 8, none, .mv (.k (.bool true))⟩] [6, 7, 8])
    .ret) .skip)))))
 (.seq (.reg false [⟨some 24, none, .mv (.t 1)⟩, ⟨some 25, none, .mv (.t 2)⟩, ⟨some 26, none, .pcall (.f 67) [.k (.w 0#64), .t 24, .t 25]⟩, ⟨some 23, none, .mv (.t 26)⟩, ⟨some 27, none, .ext (.t 23) 0⟩, ⟨some 28, none, .ext (.t 23) 1⟩, ⟨some 9, none, .mv (.t 27)⟩, ⟨some 10, none, .mv (.t 28)⟩] [9, 10])
 (.seq (.reg false [⟨some 29, none, .mv (.t 9)⟩, ⟨some 30, none, .mv (.t 10)⟩, ⟨some 6, none, .mv (.t 29)⟩, ⟨some 7, none, .mv (.t 30)⟩, ⟨some 8, none, .mv (.k (.bool true))⟩] [6, 7, 8])
 .ret))))
def F68 : AFunc := ⟨3, [.t 6, .t 7, .t 8], [], F68_c⟩
/-- impl.shift -/
def F69_c : AC :=
 (.seq (.reg false [⟨some 8, none, .mv (.k (.w 0#64))⟩] [0, 1, 2, 3])
 (.seq (.block 0 (.seq (.reg false [⟨some 10, none, .mv (.t 2)⟩, ⟨some 11, none, .mv (.t 0)⟩, ⟨some 12, none, .conv .u64 (.t 11)⟩, ⟨some 13, none, .bin .geq (.t 10) (.t 12)⟩, ⟨some 9, none, .mv (.t 13)⟩] [0, 1, 2, 3, 9])
  (.cond (.t 9) (.seq (.reg false [⟨some 8, none, .mv (.k (.w 0#64))⟩] [8])
   .ret) (.seq (.reg false [⟨some 15, none, .mv (.t 3)⟩, ⟨some 14, none, .mv (.t 15)⟩] [0, 1, 2, 14])
   (.cond (.t 14) (.seq (.reg false [⟨some 16, none, .mv (.t 1)⟩, ⟨some 17, none, .mv (.t 2)⟩, ⟨some 18, none, .bin .shl (.t 16) (.t 17)⟩, ⟨some 19, none, .mv (.t 0)⟩, ⟨some 20, none, .pcall (.f 19) [.t 19]⟩, ⟨some 21, none, .bin .and (.t 18) (.t 20)⟩, ⟨some 8, none, .mv (.t 21)⟩] [8])
    .ret) .skip)))))
 (.seq (.reg false [⟨some 22, none, .mv (.t 1)⟩, ⟨some 23, none, .mv (.t 2)⟩, ⟨some 24, none, .bin .shr (.t 22) (.t 23)⟩, ⟨some 8, none, .mv (.t 24)⟩] [8])
 .ret)))
def F69 : AFunc := ⟨4, [.t 8], [], F69_c⟩
/-- impl.truth -/
def F70_c : AC :=
 (.seq (.reg false [⟨some 2, none, .mv (.k (.w 0#64))⟩] [0])
 (.seq (.seq (.reg false [⟨some 3, none, .mv (.t 0)⟩] [3])
 (.cond (.t 3) (.seq (.reg false [⟨some 2, none, .mv (.k (.w 1#64))⟩] [2])
  .ret) .skip))
 (.seq (.reg false [⟨some 2, none, .mv (.k (.w 0#64))⟩] [2])
 .ret)))
def F70 : AFunc := ⟨1, [.t 2], [], F70_c⟩
/-- impl.signed -/
def F71_c : AC :=
 (.seq (.reg false [⟨some 4, none, .mv (.k (.int .i64 0))⟩] [0, 1])
 (.seq (.reg false [⟨some 5, none, .mv (.t 1)⟩, ⟨some 6, none, .mv (.t 0)⟩, ⟨some 7, none, .bin .sub (.k (.int .i64 64)) (.t 6)⟩, ⟨some 8, none, .bin .shl (.t 5) (.t 7)⟩, ⟨some 9, none, .conv .i64 (.t 8)⟩, ⟨some 10, none, .mv (.t 0)⟩, ⟨some 11, none, .bin .sub (.k (.int .i64 64)) (.t 10)⟩, ⟨some 12, none, .bin .shr (.t 9) (.t 11)⟩, ⟨some 4, none, .mv (.t 12)⟩] [4])
 .ret))
def F71 : AFunc := ⟨2, [.t 4], [], F71_c⟩
/-- impl.apply -/
def F72_t0 : AC :=
 (.cond (.t 63) (.reg false [⟨some 66, none, .mv (.t 0)⟩, ⟨some 67, none, .mv (.t 2)⟩, ⟨some 68, none, .mv (.t 3)⟩, ⟨some 69, none, .mv (.t 1)⟩, ⟨some 70, none, .bin .eql (.t 69) (.k (.int .i64 11))⟩, ⟨some 71, none, .pcall (.f 69) [.t 66, .t 67, .t 68, .t 70]⟩, ⟨some 9, none, .mv (.t 71)⟩] [0, 9]) (.seq (.reg false [⟨some 73, none, .bin .eql (.t 10) (.k (.int .i64 14))⟩, ⟨some 72, none, .mv (.t 73)⟩] [0, 2, 3, 9, 10, 72])
  (.cond (.t 72) (.reg false [⟨some 74, none, .mv (.t 2)⟩, ⟨some 75, none, .mv (.t 3)⟩, ⟨some 76, none, .bin .eql (.t 74) (.t 75)⟩, ⟨some 77, none, .pcall (.f 70) [.t 76]⟩, ⟨some 9, none, .mv (.t 77)⟩] [0, 9]) (.seq (.reg false [⟨some 79, none, .bin .eql (.t 10) (.k (.int .i64 15))⟩, ⟨some 78, none, .mv (.t 79)⟩] [0, 2, 3, 9, 10, 78])
   (.cond (.t 78) (.reg false [⟨some 80, none, .mv (.t 2)⟩, ⟨some 81, none, .mv (.t 3)⟩, ⟨some 82, none, .bin .lss (.t 80) (.t 81)⟩, ⟨some 83, none, .pcall (.f 70) [.t 82]⟩, ⟨some 9, none, .mv (.t 83)⟩] [0, 9]) (.seq (.reg false [⟨some 85, none, .bin .eql (.t 10) (.k (.int .i64 16))⟩, ⟨some 84, none, .mv (.t 85)⟩] [0, 2, 3, 9, 84])
    (.cond (.t 84) (.reg false [⟨some 86, none, .mv (.t 0)⟩, ⟨some 87, none, .mv (.t 2)⟩, ⟨some 88, none, .pcall (.f 71) [.t 86, .t 87]⟩, ⟨some 89, none, .mv (.t 0)⟩, ⟨some 90, none, .mv (.t 3)⟩, ⟨some 91, none, .pcall (.f 71) [.t 89, .t 90]⟩, ⟨some 92, none, .bin .lss (.t 88) (.t 91)⟩, ⟨some 93, none, .pcall (.f 70) [.t 92]⟩, ⟨some 9, none, .mv (.t 93)⟩] [0, 9]) .skip)))))))
def F72_t1 : AC :=
 (.cond (.t 52) (.reg false [⟨some 55, none, .mv (.t 2)⟩, ⟨some 56, none, .mv (.t 3)⟩, ⟨some 57, none, .bin .or (.t 55) (.t 56)⟩, ⟨some 9, none, .mv (.t 57)⟩] [0, 9]) (.seq (.reg false [⟨some 59, none, .bin .eql (.t 10) (.k (.int .i64 10))⟩, ⟨some 58, none, .mv (.t 59)⟩] [0, 1, 2, 3, 9, 10, 58])
  (.cond (.t 58) (.reg false [⟨some 60, none, .mv (.t 2)⟩, ⟨some 61, none, .mv (.t 3)⟩, ⟨some 62, none, .bin .xor (.t 60) (.t 61)⟩, ⟨some 9, none, .mv (.t 62)⟩] [0, 9]) (.seq (.seq (.reg false [⟨some 64, none, .bin .eql (.t 10) (.k (.int .i64 11))⟩, ⟨some 63, none, .mv (.t 64)⟩] [0, 1, 2, 3, 9, 10, 63])
   (.cond (.t 63) .skip (.reg false [⟨some 65, none, .bin .eql (.t 10) (.k (.int .i64 12))⟩, ⟨some 63, none, .mv (.t 65)⟩] [0, 1, 2, 3, 9, 10, 63])))
   (.kp [(0, .keep), (1, .keep), (2, .keep), (3, .keep), (9, .keep), (10, .keep), (63, .keep)] F72_t0)))))
def F72_t2 : AC :=
 (.cond (.t 46) (.reg false [⟨some 49, none, .mv (.t 2)⟩, ⟨some 50, none, .mv (.t 3)⟩, ⟨some 51, none, .bin .and (.t 49) (.t 50)⟩, ⟨some 9, none, .mv (.t 51)⟩] [0, 9]) (.seq (.seq (.reg false [⟨some 53, none, .bin .eql (.t 10) (.k (.int .i64 9))⟩, ⟨some 52, none, .mv (.t 53)⟩] [0, 1, 2, 3, 9, 10, 52])
  (.cond (.t 52) .skip (.reg false [⟨some 54, none, .bin .eql (.t 10) (.k (.int .i64 18))⟩, ⟨some 52, none, .mv (.t 54)⟩] [0, 1, 2, 3, 9, 10, 52])))
  (.kp [(0, .keep), (1, .keep), (2, .keep), (3, .keep), (9, .keep), (10, .keep), (52, .keep)] F72_t1)))
def F72_t3 : AC :=
 (.seq (.reg false [⟨some 94, none, .mv (.t 9)⟩, ⟨some 95, none, .mv (.t 0)⟩, ⟨some 96, none, .pcall (.f 19) [.t 95]⟩, ⟨some 97, none, .bin .and (.t 94) (.t 96)⟩, ⟨some 8, none, .mv (.t 97)⟩] [8])
 .ret)
def F72_c : AC :=
 (.seq (.reg false [⟨some 8, none, .mv (.k (.w 0#64))⟩] [0, 1, 2, 3])
 (.seq (.reg false [⟨some 9, none, .mv (.k (.w 0#64))⟩] [0, 1, 2, 3, 9])
 (.seq (.seq (.reg false [⟨some 10, none, .mv (.t 1)⟩] [0, 1, 2, 3, 9, 10])
 (.block 0 (.seq (.reg false [⟨some 12, none, .bin .eql (.t 10) (.k (.int .i64 3))⟩, ⟨some 11, none, .mv (.t 12)⟩] [0, 1, 2, 3, 9, 10, 11])
  (.cond (.t 11) (.reg false [⟨some 13, none, .mv (.t 2)⟩, ⟨some 14, none, .mv (.t 3)⟩, ⟨some 15, none, .bin .add (.t 13) (.t 14)⟩, ⟨some 9, none, .mv (.t 15)⟩] [0, 9]) (.seq (.reg false [⟨some 17, none, .bin .eql (.t 10) (.k (.int .i64 4))⟩, ⟨some 16, none, .mv (.t 17)⟩] [0, 1, 2, 3, 9, 10, 16])
   (.cond (.t 16) (.reg false [⟨some 18, none, .mv (.t 2)⟩, ⟨some 19, none, .mv (.t 3)⟩, ⟨some 20, none, .bin .sub (.t 18) (.t 19)⟩, ⟨some 9, none, .mv (.t 20)⟩] [0, 9]) (.seq (.reg false [⟨some 22, none, .bin .eql (.t 10) (.k (.int .i64 5))⟩, ⟨some 21, none, .mv (.t 22)⟩] [0, 1, 2, 3, 9, 10, 21])
    (.cond (.t 21) (.reg false [⟨some 23, none, .mv (.t 2)⟩, ⟨some 24, none, .mv (.t 3)⟩, ⟨some 25, none, .bin .mul (.t 23) (.t 24)⟩, ⟨some 9, none, .mv (.t 25)⟩] [0, 9]) (.seq (.reg false [⟨some 27, none, .bin .eql (.t 10) (.k (.int .i64 6))⟩, ⟨some 26, none, .mv (.t 27)⟩] [0, 1, 2, 3, 9, 10, 26])
     (.cond (.t 26) (.reg false [⟨some 29, none, .mv (.t 0)⟩, ⟨some 30, none, .mv (.t 2)⟩, ⟨some 31, none, .mv (.t 3)⟩, ⟨some 32, none, .pcall (.f 68) [.t 29, .t 30, .t 31]⟩, ⟨some 28, none, .mv (.t 32)⟩, ⟨some 33, none, .ext (.t 28) 0⟩, ⟨some 34, none, .ext (.t 28) 1⟩, ⟨some 35, none, .ext (.t 28) 2⟩, ⟨some 9, none, .mv (.t 33)⟩] [0, 9]) (.seq (.reg false [⟨some 37, none, .bin .eql (.t 10) (.k (.int .i64 7))⟩, ⟨some 36, none, .mv (.t 37)⟩] [0, 1, 2, 3, 9, 10, 36])
      (.cond (.t 36) (.reg false [⟨some 39, none, .mv (.t 0)⟩, ⟨some 40, none, .mv (.t 2)⟩, ⟨some 41, none, .mv (.t 3)⟩, ⟨some 42, none, .pcall (.f 68) [.t 39, .t 40, .t 41]⟩, ⟨some 38, none, .mv (.t 42)⟩, ⟨some 43, none, .ext (.t 38) 0⟩, ⟨some 44, none, .ext (.t 38) 1⟩, ⟨some 45, none, .ext (.t 38) 2⟩, ⟨some 9, none, .mv (.t 44)⟩] [0, 9]) (.seq (.seq (.reg false [⟨some 47, none, .bin .eql (.t 10) (.k (.int .i64 8))⟩, ⟨some 46, none, .mv (.t 47)⟩] [0, 1, 2, 3, 9, 10, 46])
       (.cond (.t 46) .skip (.reg false [⟨some 48, none, .bin .eql (.t 10) (.k (.int .i64 17))⟩, ⟨some 46, none, .mv (.t 48)⟩] [0, 1, 2, 3, 9, 10, 46])))
       (.kp [(0, .keep), (1, .keep), (2, .keep), (3, .keep), (9, .keep), (10, .keep), (46, .keep)] F72_t2))))))))))))))
 (.kp [(0, .keep), (9, .keep)] F72_t3))))
def F72 : AFunc := ⟨4, [.t 8], [], F72_c⟩
/-- impl.valueOf -/
def F73_t0 : AC :=
 (.cond (.t 42) (.reg false [⟨some 45, none, .mv (.t 7)⟩, ⟨some 46, none, .faddr 1 (.t 9)⟩, ⟨some 47, none, .load none (.t 46)⟩, ⟨some 48, none, .bslice 1 [(.w 0#64)] 1 [(0, .t 47)]⟩, ⟨some 49, none, .append 1 (.t 45) (.t 48)⟩, ⟨some 7, none, .mv (.t 49)⟩] [0, 2, 7, 12, 13, 14]) (.seq (.reg false [⟨some 51, none, .bin .eql (.t 22) (.k (.int .i64 2))⟩, ⟨some 50, none, .mv (.t 51)⟩] [0, 2, 7, 9, 10, 12, 13, 14, 22, 50])
  (.cond (.t 50) (.reg false [⟨some 52, none, .mv (.t 7)⟩, ⟨some 53, none, .mv (.t 2)⟩, ⟨some 54, none, .faddr 1 (.t 9)⟩, ⟨some 55, none, .load none (.t 54)⟩, ⟨some 56, none, .iaddr 1 (.t 53) (.t 55)⟩, ⟨some 57, none, .load none (.t 56)⟩, ⟨some 58, none, .bslice 1 [(.w 0#64)] 1 [(0, .t 57)]⟩, ⟨some 59, none, .append 1 (.t 52) (.t 58)⟩, ⟨some 7, none, .mv (.t 59)⟩] [0, 2, 7, 12, 13, 14]) (.seq (.reg false [⟨some 61, none, .bin .eql (.t 22) (.k (.int .i64 13))⟩, ⟨some 60, none, .mv (.t 61)⟩] [0, 2, 7, 9, 10, 12, 13, 14, 22, 60])
   (.cond (.t 60) (.reg true [⟨some 62, none, .mv (.t 7)⟩, ⟨some 63, none, .mv (.t 10)⟩, ⟨some 64, none, .mv (.t 7)⟩, ⟨some 65, none, .mv (.t 10)⟩, ⟨some 66, none, .iaddr 1 (.t 64) (.t 65)⟩, ⟨some 67, none, .load none (.t 66)⟩, ⟨some 68, none, .un .xor (.t 67)⟩, ⟨some 69, none, .mv (.t 0)⟩, ⟨some 70, none, .pcall (.f 19) [.t 69]⟩, ⟨some 71, none, .bin .and (.t 68) (.t 70)⟩, ⟨some 72, none, .iaddr 1 (.t 62) (.t 63)⟩, ⟨none, none, .store 1 (.t 72) (.t 71)⟩] [0, 2, 7, 12, 13, 14]) (.seq (.reg false [⟨some 74, none, .bin .eql (.t 22) (.k (.int .i64 19))⟩, ⟨some 73, none, .mv (.t 74)⟩] [0, 2, 7, 9, 10, 12, 13, 14, 73])
    (.cond (.t 73) (.reg false [⟨some 75, none, .mv (.t 7)⟩, ⟨some 76, none, .mv (.t 10)⟩, ⟨some 77, none, .mv (.t 7)⟩, ⟨some 78, none, .mv (.t 10)⟩, ⟨some 79, none, .iaddr 1 (.t 77) (.t 78)⟩, ⟨some 80, none, .load none (.t 79)⟩, ⟨some 81, none, .bin .sub (.k (.w 1#64)) (.t 80)⟩, ⟨some 82, none, .iaddr 1 (.t 75) (.t 76)⟩, ⟨none, none, .store 1 (.t 82) (.t 81)⟩] [0, 2, 7, 12, 13, 14]) (.reg true [⟨some 23, none, .mv (.t 7)⟩, ⟨some 24, none, .mv (.t 10)⟩, ⟨some 25, none, .bin .sub (.t 24) (.k (.int .i64 1))⟩, ⟨some 26, none, .slice 1 (.t 23) none (some (.t 25))⟩, ⟨some 27, none, .mv (.t 0)⟩, ⟨some 28, none, .faddr 0 (.t 9)⟩, ⟨some 29, none, .load none (.t 28)⟩, ⟨some 30, none, .mv (.t 7)⟩, ⟨some 31, none, .mv (.t 10)⟩, ⟨some 32, none, .bin .sub (.t 31) (.k (.int .i64 1))⟩, ⟨some 33, none, .iaddr 1 (.t 30) (.t 32)⟩, ⟨some 34, none, .load none (.t 33)⟩, ⟨some 35, none, .mv (.t 7)⟩, ⟨some 36, none, .mv (.t 10)⟩, ⟨some 37, none, .iaddr 1 (.t 35) (.t 36)⟩, ⟨some 38, none, .load none (.t 37)⟩, ⟨some 39, none, .pcall (.f 72) [.t 27, .t 29, .t 34, .t 38]⟩, ⟨some 40, none, .bslice 1 [(.w 0#64)] 1 [(0, .t 39)]⟩, ⟨some 41, none, .append 1 (.t 26) (.t 40)⟩, ⟨some 7, none, .mv (.t 41)⟩] [0, 2, 7, 12, 13, 14]))))))))
def F73_t1 : AC :=
 (.reg false [⟨some 83, none, .bin .add (.t 14) (.k (.int .i64 1))⟩, ⟨some 14, none, .mv (.t 83)⟩] [0, 2, 7, 12, 13, 14])
def F73_b0 : AC := (.seq (.reg false [⟨some 15, none, .bin .lss (.t 14) (.t 13)⟩] [0, 2, 7, 12, 13, 14, 15])
   (.seq (.cond (.t 15) .skip (.exit 0))
   (.seq (.block 1 (.seq (.reg false [⟨some 16, none, .iaddr 2 (.t 12) (.t 14)⟩, ⟨some 17, none, .load (some 2) (.t 16)⟩, ⟨some 9, none, .alloc [.d (.int .i64 0), .d (.w 0#64)]⟩, ⟨none, none, .store 2 (.t 9) (.t 17)⟩] [0, 2, 7, 9, 12, 13, 14])
    (.seq (.reg false [⟨some 18, none, .mv (.t 7)⟩, ⟨some 19, none, .len (.t 18)⟩, ⟨some 20, none, .bin .sub (.t 19) (.k (.int .i64 1))⟩, ⟨some 10, none, .mv (.t 20)⟩] [0, 2, 7, 9, 10, 12, 13, 14])
    (.seq (.reg false [⟨some 21, none, .faddr 0 (.t 9)⟩, ⟨some 22, none, .load none (.t 21)⟩] [0, 2, 7, 9, 10, 12, 13, 14, 22])
    (.block 2 (.seq (.seq (.reg false [⟨some 43, none, .bin .eql (.t 22) (.k (.int .i64 1))⟩, ⟨some 42, none, .mv (.t 43)⟩] [0, 2, 7, 9, 10, 12, 13, 14, 22, 42])
     (.cond (.t 42) .skip (.reg false [⟨some 44, none, .bin .eql (.t 22) (.k (.int .i64 20))⟩, ⟨some 42, none, .mv (.t 44)⟩] [0, 2, 7, 9, 10, 12, 13, 14, 22, 42])))
     (.kp [(0, .keep), (2, .keep), (7, .keep), (9, .keep), (10, .keep), (12, .keep), (13, .keep), (14, .keep), (22, .keep), (42, .keep)] F73_t0)))))))
   (.kp [(0, .keep), (2, .keep), (7, .keep), (12, .keep), (13, .keep), (14, .keep)] F73_t1))))
def F73_l0 : AC := F73_b0
@[simp] theorem u73_0 (T : Nat → Option AFunc) (X : Orc) (F : AFunc) (m : Nat) (K : List AT) (e : Env) (st : St) : go T X F m (.code F73_l0 :: K) e st = go T X F m (.code F73_b0 :: K) e st := rfl
def F73_t2 : AC :=
 (.seq (.reg false [⟨some 84, none, .mv (.t 7)⟩, ⟨some 85, none, .iaddr 1 (.t 84) (.k (.int .i64 0))⟩, ⟨some 86, none, .load none (.t 85)⟩, ⟨some 6, none, .mv (.t 86)⟩] [6])
 .ret)
def F73_c : AC :=
 (.seq (.reg false [⟨some 6, none, .mv (.k (.w 0#64))⟩] [0, 1, 2])
 (.seq (.reg false [⟨some 11, none, .bslice 1 [(.w 0#64)] 0 []⟩, ⟨some 7, none, .mv (.t 11)⟩] [0, 1, 2, 7])
 (.seq (.seq (.reg false [⟨some 12, none, .mv (.t 1)⟩, ⟨some 13, none, .len (.t 12)⟩, ⟨some 14, none, .mv (.k (.int .i64 0))⟩] [0, 2, 7, 12, 13, 14])
 (.block 0 (.loop [(0, .keep), (2, .keep), (7, .ow 1), (12, .keep), (13, .keep), (14, .keep)] F73_l0)))
 (.kp [(7, .keep)] F73_t2))))
def F73 : AFunc := ⟨3, [.t 6], [], F73_c⟩
/-- (impl.Program).holds -/
def F112_c : AC :=
 (.seq (.reg false [⟨some 3, none, .box (.t 0)⟩, ⟨some 6, none, .mv (.k (.bool false))⟩] [1, 2, 3])
 (.seq (.reg false [⟨some 7, none, .faddr 0 (.t 3)⟩, ⟨some 8, none, .load none (.t 7)⟩, ⟨some 9, none, .mv (.t 1)⟩, ⟨some 10, none, .mv (.t 2)⟩, ⟨some 11, none, .lcall (.f 73) [.t 8, .t 9, .t 10]⟩, ⟨some 12, none, .bin .eql (.t 11) (.k (.w 1#64))⟩, ⟨some 6, none, .mv (.t 12)⟩] [6])
 .ret))
def F112 : AFunc := ⟨3, [.t 6], [], F112_c⟩
/-- slices.Clone[[]uint64,uint64] -/
def F113_c : AC :=
 (.seq (.reg false [⟨some 2, none, .mv (.k .nil)⟩] [0])
 (.seq (.seq (.reg false [⟨some 3, none, .mv (.t 0)⟩, ⟨some 4, none, .isnil (.t 3)⟩] [0, 4])
 (.cond (.t 4) (.seq (.reg false [⟨some 2, none, .mv (.k .nil)⟩] [2])
  .ret) .skip))
 (.seq (.reg false [⟨some 5, none, .bslice 1 [(.w 0#64)] 0 []⟩, ⟨some 6, none, .mv (.t 0)⟩, ⟨some 7, none, .append 1 (.t 5) (.t 6)⟩, ⟨some 2, none, .mv (.t 7)⟩] [2])
 .ret)))
def F113 : AFunc := ⟨1, [.t 2], [[.ow 1]], F113_c⟩
/-- (impl.Program).after -/
def F114_b0 : AC := (.seq (.reg false [⟨some 16, none, .bin .lss (.t 15) (.t 14)⟩] [2, 3, 7, 13, 14, 15, 16])
   (.seq (.cond (.t 16) .skip (.exit 0))
   (.seq (.block 1 (.seq (.reg false [⟨some 17, none, .iaddr 2 (.t 13) (.t 15)⟩, ⟨some 18, none, .load (some 2) (.t 17)⟩, ⟨some 9, none, .alloc [.d (.int .i64 0), .d .nil]⟩, ⟨none, none, .store 2 (.t 9) (.t 18)⟩] [2, 3, 7, 9, 13, 14, 15])
    (.reg true [⟨some 19, none, .mv (.t 7)⟩, ⟨some 20, none, .faddr 0 (.t 9)⟩, ⟨some 21, none, .load none (.t 20)⟩, ⟨some 22, none, .faddr 0 (.t 3)⟩, ⟨some 23, none, .load none (.t 22)⟩, ⟨some 24, none, .faddr 1 (.t 9)⟩, ⟨some 25, none, .load none (.t 24)⟩, ⟨some 26, none, .mv (.t 2)⟩, ⟨some 27, none, .lcall (.f 73) [.t 23, .t 25, .t 26]⟩, ⟨some 28, none, .iaddr 1 (.t 19) (.t 21)⟩, ⟨none, none, .store 1 (.t 28) (.t 27)⟩] [2, 3, 7, 13, 14, 15])))
   (.reg false [⟨some 29, none, .bin .add (.t 15) (.k (.int .i64 1))⟩, ⟨some 15, none, .mv (.t 29)⟩] [2, 3, 7, 13, 14, 15]))))
def F114_l0 : AC := F114_b0
@[simp] theorem u114_0 (T : Nat → Option AFunc) (X : Orc) (F : AFunc) (m : Nat) (K : List AT) (e : Env) (st : St) : go T X F m (.code F114_l0 :: K) e st = go T X F m (.code F114_b0 :: K) e st := rfl
def F114_t0 : AC :=
 (.seq (.reg false [⟨some 30, none, .mv (.t 7)⟩, ⟨some 6, none, .mv (.t 30)⟩] [6])
 .ret)
def F114_c : AC :=
 (.seq (.reg false [⟨some 3, none, .box (.t 0)⟩, ⟨some 4, none, .box (.t 1)⟩, ⟨some 6, none, .mv (.k .nil)⟩] [2, 3, 4])
 (.seq (.reg false [⟨some 10, none, .mv (.t 2)⟩, ⟨some 11, none, .call false [] (.f 113) [.t 10]⟩, ⟨some 7, none, .mv (.t 11)⟩] [2, 3, 4, 7])
 (.seq (.seq (.reg false [⟨some 12, none, .faddr 1 (.t 4)⟩, ⟨some 13, none, .load none (.t 12)⟩, ⟨some 14, none, .len (.t 13)⟩, ⟨some 15, none, .mv (.k (.int .i64 0))⟩] [2, 3, 7, 13, 14, 15])
 (.block 0 (.loop [(2, .keep), (3, .keep), (7, .keep), (13, .keep), (14, .keep), (15, .keep)] F114_l0)))
 (.kp [(7, .keep)] F114_t0))))
def F114 : AFunc := ⟨3, [.t 6], [], F114_c⟩
/-- impl.StepBy -/
def F115_c : AC :=
 (.seq (.reg false [⟨some 3, none, .box (.t 0)⟩, ⟨some 6, none, .mv (.k .nil)⟩, ⟨some 7, none, .mv (.k (.bool false))⟩] [1, 2, 3])
 (.seq (.seq (.reg true [⟨some 8, none, .load (some 4) (.t 3)⟩, ⟨some 9, none, .mv (.t 1)⟩, ⟨some 10, none, .lcall (.f 110) [.t 8, .t 9]⟩, ⟨some 11, none, .un .not (.t 10)⟩, ⟨some 12, none, .mv (.t 11)⟩, ⟨some 13, (some (12, false)), .load (some 4) (.t 3)⟩, ⟨some 14, (some (12, false)), .mv (.t 2)⟩, ⟨some 15, (some (12, false)), .lcall (.f 111) [.t 13, .t 14]⟩, ⟨some 16, (some (12, false)), .un .not (.t 15)⟩, ⟨some 17, none, .pick (.t 12) (.k (.bool true)) (.t 16)⟩, ⟨some 18, none, .mv (.t 17)⟩, ⟨some 19, (some (18, false)), .load (some 4) (.t 3)⟩, ⟨some 20, (some (18, false)), .faddr 3 (.t 3)⟩, ⟨some 21, (some (18, false)), .load none (.t 20)⟩, ⟨some 22, (some (18, false)), .mv (.t 2)⟩, ⟨some 23, (some (18, false)), .iaddr 2 (.t 21) (.t 22)⟩, ⟨some 24, (some (18, false)), .faddr 0 (.t 23)⟩, ⟨some 25, (some (18, false)), .load none (.t 24)⟩, ⟨some 26, (some (18, false)), .mv (.t 1)⟩, ⟨some 27, (some (18, false)), .lcall (.f 112) [.t 19, .t 25, .t 26]⟩, ⟨some 28, (some (18, false)), .un .not (.t 27)⟩, ⟨some 29, none, .pick (.t 18) (.k (.bool true)) (.t 28)⟩] [1, 2, 3, 29])
 (.cond (.t 29) (.seq (.reg false [⟨some 6, none, .mv (.k .nil)⟩, ⟨some 7, none, .mv (.k (.bool false))⟩] [6, 7])
  .ret) .skip))
 (.seq (.reg true [⟨some 30, none, .load (some 4) (.t 3)⟩, ⟨some 31, none, .faddr 3 (.t 3)⟩, ⟨some 32, none, .load none (.t 31)⟩, ⟨some 33, none, .mv (.t 2)⟩, ⟨some 34, none, .iaddr 2 (.t 32) (.t 33)⟩, ⟨some 35, none, .load (some 2) (.t 34)⟩, ⟨some 36, none, .mv (.t 1)⟩, ⟨some 37, none, .call false [] (.f 114) [.t 30, .t 35, .t 36]⟩, ⟨some 6, none, .mv (.t 37)⟩, ⟨some 7, none, .mv (.k (.bool true))⟩] [6, 7])
 .ret)))
def F115 : AFunc := ⟨3, [.t 6, .t 7], [], F115_c⟩
/-- (impl.Span).has -/
def F62_c : AC :=
 (.seq (.reg false [⟨some 2, none, .box (.t 0)⟩, ⟨some 4, none, .mv (.k (.bool false))⟩] [1, 2])
 (.seq (.reg false [⟨some 5, none, .faddr 0 (.t 2)⟩, ⟨some 6, none, .load none (.t 5)⟩, ⟨some 7, none, .mv (.t 1)⟩, ⟨some 8, none, .bin .leq (.t 6) (.t 7)⟩, ⟨some 9, none, .mv (.t 8)⟩, ⟨some 10, (some (9, true)), .mv (.t 1)⟩, ⟨some 11, (some (9, true)), .faddr 1 (.t 2)⟩, ⟨some 12, (some (9, true)), .load none (.t 11)⟩, ⟨some 13, (some (9, true)), .bin .leq (.t 10) (.t 12)⟩, ⟨some 14, none, .pick (.t 9) (.t 13) (.k (.bool false))⟩, ⟨some 4, none, .mv (.t 14)⟩] [4])
 .ret))
def F62 : AFunc := ⟨2, [.t 4], [], F62_c⟩
/-- impl.InSpans -/
def F63_b0 : AC := (.seq (.reg false [⟨some 25, none, .bin .lss (.t 24) (.t 23)⟩] [2, 22, 23, 24, 25])
   (.seq (.cond (.t 25) .skip (.exit 0))
   (.seq (.block 1 (.seq (.reg false [⟨some 26, none, .mv (.t 24)⟩, ⟨some 27, none, .iaddr 2 (.t 22) (.t 24)⟩, ⟨some 28, none, .load (some 2) (.t 27)⟩, ⟨some 9, none, .alloc [.d (.w 0#64), .d (.w 0#64)]⟩, ⟨some 8, none, .mv (.t 26)⟩, ⟨none, none, .store 2 (.t 9) (.t 28)⟩] [2, 8, 9, 22, 23, 24])
    (.seq (.reg true [⟨some 29, none, .load (some 2) (.t 9)⟩, ⟨some 30, none, .mv (.t 2)⟩, ⟨some 31, none, .mv (.t 8)⟩, ⟨some 32, none, .iaddr 1 (.t 30) (.t 31)⟩, ⟨some 33, none, .load none (.t 32)⟩, ⟨some 34, none, .pcall (.f 62) [.t 29, .t 33]⟩, ⟨some 35, none, .un .not (.t 34)⟩] [2, 22, 23, 24, 35])
    (.cond (.t 35) (.seq (.reg false [⟨some 6, none, .mv (.k (.bool false))⟩, ⟨some 7, none, .mv (.k (.bool true))⟩] [6, 7])
     .ret) .skip))))
   (.reg false [⟨some 36, none, .bin .add (.t 24) (.k (.int .i64 1))⟩, ⟨some 24, none, .mv (.t 36)⟩] [2, 22, 23, 24]))))
def F63_l0 : AC := F63_b0
@[simp] theorem u63_0 (T : Nat → Option AFunc) (X : Orc) (F : AFunc) (m : Nat) (K : List AT) (e : Env) (st : St) : go T X F m (.code F63_l0 :: K) e st = go T X F m (.code F63_b0 :: K) e st := rfl
def F63_t0 : AC :=
 (.seq (.reg false [⟨some 6, none, .mv (.k (.bool true))⟩, ⟨some 7, none, .mv (.k (.bool true))⟩] [6, 7])
 .ret)
def F63_c : AC :=
 (.seq (.reg false [⟨some 6, none, .mv (.k (.bool false))⟩, ⟨some 7, none, .mv (.k (.bool false))⟩] [0, 1, 2])
 (.seq (.seq (.reg false [⟨some 10, none, .mv (.t 0)⟩, ⟨some 11, none, .mv (.t 1)⟩, ⟨some 12, none, .lcall (.f 23) [.t 10, .t 11]⟩, ⟨some 13, none, .un .not (.t 12)⟩, ⟨some 14, none, .mv (.t 13)⟩, ⟨some 15, (some (14, false)), .mv (.t 0)⟩, ⟨some 16, (some (14, false)), .mv (.t 1)⟩, ⟨some 17, (some (14, false)), .len (.t 16)⟩, ⟨some 18, (some (14, false)), .mv (.t 2)⟩, ⟨some 19, (some (14, false)), .lcall (.f 61) [.t 15, .t 17, .t 18]⟩, ⟨some 20, (some (14, false)), .un .not (.t 19)⟩, ⟨some 21, none, .pick (.t 14) (.k (.bool true)) (.t 20)⟩] [1, 2, 21])
 (.cond (.t 21) (.seq (.reg false [⟨some 6, none, .mv (.k (.bool false))⟩, ⟨some 7, none, .mv (.k (.bool false))⟩] [6, 7])
  .ret) .skip))
 (.seq (.seq (.reg false [⟨some 22, none, .mv (.t 1)⟩, ⟨some 23, none, .len (.t 22)⟩, ⟨some 24, none, .mv (.k (.int .i64 0))⟩] [2, 22, 23, 24])
 (.block 0 (.loop [(2, .keep), (22, .keep), (23, .keep), (24, .keep)] F63_l0)))
 (.kp [] F63_t0))))
def F63 : AFunc := ⟨3, [.t 6, .t 7], [], F63_c⟩
/-- spec.DrawSpanRound -/
def F116_c : AC :=
 (.seq (.reg false [⟨some 2, none, .alloc [.d (.int .i64 0), .d (.int .i64 0), .d .nil, .d .nil]⟩, ⟨some 3, none, .mv (.k .nil)⟩] [0, 2])
 (.seq (.reg false [⟨some 6, none, .mv (.t 0)⟩, ⟨some 7, none, .build [.d .nil, .d (.int .i64 0), .d (.w 0#64)] [(0, 1, .t 6)]⟩, ⟨some 8, none, .box (.t 7)⟩, ⟨some 4, none, .mv (.t 8)⟩] [2, 4])
 (.seq (.reg false [⟨some 9, none, .mv (.t 4)⟩, ⟨some 10, none, .call false [] (.f 87) [.t 9]⟩, ⟨some 5, none, .alloc [.d (.int .i64 0), .d (.int .i64 0), .d .nil, .d .nil]⟩, ⟨none, none, .store 4 (.t 5) (.t 10)⟩] [2, 4, 5])
 (.seq (.reg true [⟨some 11, none, .ldg (some 4) (.t 5) (.t 5)⟩, ⟨some 12, none, .mv (.t 4)⟩, ⟨some 13, none, .faddr 0 (.t 5)⟩, ⟨some 14, none, .load none (.t 13)⟩, ⟨some 15, none, .faddr 1 (.t 5)⟩, ⟨some 16, none, .load none (.t 15)⟩, ⟨some 17, none, .callg [] (.f 13) [.t 12, .t 14, .t 16] (.t 5)⟩, ⟨none, none, .store 4 (.t 2) (.t 11)⟩, ⟨some 3, none, .mv (.t 17)⟩] [2, 3])
 .ret))))
def F116 : AFunc := ⟨1, [.cell 2 (some 4), .t 3], [], F116_c⟩
/-- spec.SpanRound -/
def F117_c : AC :=
 (.seq (.reg false [⟨some 2, none, .box (.t 0)⟩, ⟨some 4, none, .mv (.k .nil)⟩, ⟨some 5, none, .mv (.k (.bool false))⟩] [1, 2])
 (.seq (.seq (.reg false [⟨some 6, none, .load (some 4) (.t 2)⟩, ⟨some 7, none, .mv (.t 1)⟩, ⟨some 8, none, .lcall (.f 105) [.t 6, .t 7]⟩, ⟨some 9, none, .un .not (.t 8)⟩] [1, 2, 9])
 (.cond (.t 9) (.seq (.reg false [⟨some 4, none, .mv (.k .nil)⟩, ⟨some 5, none, .mv (.k (.bool false))⟩] [4, 5])
  .ret) .skip))
 (.seq (.reg false [⟨some 10, none, .load (some 4) (.t 2)⟩, ⟨some 11, none, .mv (.t 1)⟩, ⟨some 12, none, .call false [] (.f 106) [.t 10, .t 11]⟩, ⟨some 4, none, .mv (.t 12)⟩, ⟨some 5, none, .mv (.k (.bool true))⟩] [4, 5])
 .ret)))
def F117 : AFunc := ⟨2, [.t 4, .t 5], [], F117_c⟩
/-- (*spec.l1Cur).width -/
def F75_c : AC :=
 (.seq (.reg false [⟨some 2, none, .mv (.k (.int .i64 0))⟩] [0])
 (.seq (.reg false [⟨some 3, none, .mv (.t 0)⟩, ⟨some 4, none, .bslice 1 [(.int .i64 0)] 11 [(0, .k (.int .i64 1)), (1, .k (.int .i64 2)), (2, .k (.int .i64 3)), (3, .k (.int .i64 4)), (4, .k (.int .i64 8)), (5, .k (.int .i64 16)), (6, .k (.int .i64 32)), (7, .k (.int .i64 63)), (8, .k (.int .i64 64)), (9, .k (.int .i64 0)), (10, .k (.int .i64 65))]⟩, ⟨some 5, none, .call false [] (.f 4) [.t 3, .t 4]⟩, ⟨some 2, none, .mv (.t 5)⟩] [2])
 .ret))
def F75 : AFunc := ⟨1, [.t 2], [], F75_c⟩
/-- (*spec.l1Cur).state -/
def F118_b0 : AC := (.seq (.seq (.reg false [⟨some 9, none, .mv (.t 8)⟩, ⟨some 10, none, .mv (.t 2)⟩, ⟨some 11, none, .bin .lss (.t 9) (.t 10)⟩] [0, 1, 2, 7, 8, 11])
   (.cond (.t 11) .skip (.exit 0)))
   (.seq (.block 1 (.reg false [⟨some 14, none, .mv (.t 7)⟩, ⟨some 15, none, .mv (.t 0)⟩, ⟨some 16, none, .mv (.t 1)⟩, ⟨some 17, none, .call false [] (.f 11) [.t 15, .t 16]⟩, ⟨some 18, none, .bslice 1 [(.w 0#64)] 1 [(0, .t 17)]⟩, ⟨some 19, none, .append 1 (.t 14) (.t 18)⟩, ⟨some 7, none, .mv (.t 19)⟩] [0, 1, 2, 7, 8]))
   (.reg false [⟨some 12, none, .mv (.t 8)⟩, ⟨some 13, none, .bin .add (.t 12) (.k (.int .i64 1))⟩, ⟨some 8, none, .mv (.t 13)⟩] [0, 1, 2, 7, 8])))
def F118_l0 : AC := F118_b0
@[simp] theorem u118_0 (T : Nat → Option AFunc) (X : Orc) (F : AFunc) (m : Nat) (K : List AT) (e : Env) (st : St) : go T X F m (.code F118_l0 :: K) e st = go T X F m (.code F118_b0 :: K) e st := rfl
def F118_t0 : AC :=
 (.seq (.reg false [⟨some 20, none, .mv (.t 7)⟩, ⟨some 6, none, .mv (.t 20)⟩] [6])
 .ret)
def F118_c : AC :=
 (.seq (.reg false [⟨some 6, none, .mv (.k .nil)⟩] [0, 1, 2])
 (.seq (.reg false [⟨some 7, none, .mv (.k .nil)⟩] [0, 1, 2, 7])
 (.seq (.seq (.reg false [⟨some 8, none, .mv (.k (.int .i64 0))⟩] [0, 1, 2, 7, 8])
 (.block 0 (.loop [(0, .keep), (1, .keep), (2, .keep), (7, .ow 1), (8, .keep)] F118_l0)))
 (.kp [(7, .keep)] F118_t0))))
def F118 : AFunc := ⟨3, [.t 6], [[.ow 1]], F118_c⟩
/-- spec.DrawInSpans -/
def F119_b0 : AC := (.seq (.reg false [⟨some 31, none, .bin .lss (.t 30) (.t 29)⟩] [6, 7, 8, 29, 30, 31])
    (.seq (.cond (.t 31) .skip (.exit 0))
    (.seq (.block 1 (.seq (.reg false [⟨some 32, none, .mv (.t 30)⟩, ⟨some 9, none, .mv (.t 32)⟩] [6, 7, 8, 9, 29, 30])
     (.reg false [⟨some 33, none, .mv (.t 8)⟩, ⟨some 34, none, .mv (.t 9)⟩, ⟨some 35, none, .mv (.t 7)⟩, ⟨some 36, none, .mv (.t 9)⟩, ⟨some 37, none, .iaddr 2 (.t 35) (.t 36)⟩, ⟨some 38, none, .faddr 1 (.t 37)⟩, ⟨some 39, none, .load none (.t 38)⟩, ⟨some 40, none, .iaddr 1 (.t 33) (.t 34)⟩, ⟨none, none, .store 1 (.t 40) (.t 39)⟩] [6, 7, 8, 29, 30])))
    (.reg false [⟨some 41, none, .bin .add (.t 30) (.k (.int .i64 1))⟩, ⟨some 30, none, .mv (.t 41)⟩] [6, 7, 8, 29, 30]))))
def F119_l0 : AC := F119_b0
@[simp] theorem u119_0 (T : Nat → Option AFunc) (X : Orc) (F : AFunc) (m : Nat) (K : List AT) (e : Env) (st : St) : go T X F m (.code F119_l0 :: K) e st = go T X F m (.code F119_b0 :: K) e st := rfl
def F119_t0 : AC :=
 (.seq (.reg false [⟨some 42, none, .mv (.t 6)⟩, ⟨some 43, none, .mv (.t 7)⟩, ⟨some 44, none, .mv (.t 8)⟩, ⟨some 2, none, .mv (.t 42)⟩, ⟨some 3, none, .mv (.t 43)⟩, ⟨some 4, none, .mv (.t 44)⟩] [2, 3, 4])
 .ret)
def F119_c : AC :=
 (.seq (.reg false [⟨some 2, none, .mv (.k (.int .i64 0))⟩, ⟨some 3, none, .mv (.k .nil)⟩, ⟨some 4, none, .mv (.k .nil)⟩] [0])
 (.seq (.reg false [⟨some 10, none, .mv (.t 0)⟩, ⟨some 11, none, .build [.d .nil, .d (.int .i64 0), .d (.w 0#64)] [(0, 1, .t 10)]⟩, ⟨some 12, none, .box (.t 11)⟩, ⟨some 5, none, .mv (.t 12)⟩] [5])
 (.seq (.reg false [⟨some 13, none, .mv (.t 5)⟩, ⟨some 14, none, .call false [] (.f 75) [.t 13]⟩, ⟨some 6, none, .mv (.t 14)⟩] [5, 6])
 (.seq (.reg false [⟨some 15, none, .mv (.t 5)⟩, ⟨some 16, none, .mv (.t 6)⟩, ⟨some 17, none, .mv (.t 5)⟩, ⟨some 18, none, .call false [] (.f 3) [.t 17, .k (.int .i64 4)]⟩, ⟨some 19, none, .bin .add (.k (.int .i64 1)) (.t 18)⟩, ⟨some 20, none, .call false [] (.f 13) [.t 15, .t 16, .t 19]⟩, ⟨some 7, none, .mv (.t 20)⟩] [5, 6, 7])
 (.seq (.reg false [⟨some 21, none, .mv (.t 5)⟩, ⟨some 22, none, .mv (.t 6)⟩, ⟨some 23, none, .mv (.t 7)⟩, ⟨some 24, none, .len (.t 23)⟩, ⟨some 25, none, .call false [] (.f 118) [.t 21, .t 22, .t 24]⟩, ⟨some 8, none, .mv (.t 25)⟩] [5, 6, 7, 8])
 (.seq (.seq (.reg false [⟨some 26, none, .mv (.t 5)⟩, ⟨some 27, none, .call false [] (.f 5) [.t 26, .k (.int .i64 3)]⟩] [6, 7, 8, 27])
 (.cond (.t 27) (.seq (.reg false [⟨some 28, none, .mv (.t 8)⟩, ⟨some 29, none, .len (.t 28)⟩, ⟨some 30, none, .mv (.k (.int .i64 0))⟩] [6, 7, 8, 29, 30])
  (.block 0 (.loop [(6, .keep), (7, .keep), (8, .keep), (29, .keep), (30, .keep)] F119_l0))) .skip))
 (.kp [(6, .keep), (7, .keep), (8, .keep)] F119_t0)))))))
def F119 : AFunc := ⟨1, [.t 2, .t 3, .t 4], [], F119_c⟩
/-- spec.l2Words -/
def F120_b0 : AC := (.seq (.reg false [⟨some 10, none, .bin .lss (.t 9) (.t 8)⟩] [0, 7, 8, 9, 10])
   (.seq (.cond (.t 10) .skip (.exit 0))
   (.seq (.block 1 (.seq (.reg false [⟨some 11, none, .iaddr 1 (.t 7) (.t 9)⟩, ⟨some 12, none, .load none (.t 11)⟩, ⟨some 6, none, .mv (.t 12)⟩] [0, 6, 7, 8, 9])
    (.seq (.reg false [⟨some 13, none, .mv (.t 0)⟩, ⟨some 14, none, .mv (.t 6)⟩, ⟨some 15, none, .pcall (.f 42) [.t 13, .t 14]⟩, ⟨some 16, none, .un .not (.t 15)⟩] [0, 7, 8, 9, 16])
    (.cond (.t 16) (.seq (.reg false [⟨some 4, none, .mv (.k (.bool false))⟩] [4])
     .ret) .skip))))
   (.reg false [⟨some 17, none, .bin .add (.t 9) (.k (.int .i64 1))⟩, ⟨some 9, none, .mv (.t 17)⟩] [0, 7, 8, 9]))))
def F120_l0 : AC := F120_b0
@[simp] theorem u120_0 (T : Nat → Option AFunc) (X : Orc) (F : AFunc) (m : Nat) (K : List AT) (e : Env) (st : St) : go T X F m (.code F120_l0 :: K) e st = go T X F m (.code F120_b0 :: K) e st := rfl
def F120_t0 : AC :=
 (.seq (.reg false [⟨some 4, none, .mv (.k (.bool true))⟩] [4])
 .ret)
def F120_c : AC :=
 (.seq (.reg false [⟨some 4, none, .mv (.k (.bool false))⟩] [0, 1])
 (.seq (.seq (.reg false [⟨some 7, none, .mv (.t 1)⟩, ⟨some 8, none, .len (.t 7)⟩, ⟨some 9, none, .mv (.k (.int .i64 0))⟩] [0, 7, 8, 9])
 (.block 0 (.loop [(0, .keep), (7, .keep), (8, .keep), (9, .keep)] F120_l0)))
 (.kp [] F120_t0)))
def F120 : AFunc := ⟨2, [.t 4], [], F120_c⟩
/-- spec.InSpans -/
def F121_b0 : AC := (.seq (.reg false [⟨some 30, none, .bin .lss (.t 29) (.t 28)⟩] [2, 27, 28, 29, 30])
   (.seq (.cond (.t 30) .skip (.exit 0))
   (.seq (.block 1 (.seq (.reg false [⟨some 31, none, .mv (.t 29)⟩, ⟨some 32, none, .iaddr 2 (.t 27) (.t 29)⟩, ⟨some 33, none, .load (some 2) (.t 32)⟩, ⟨some 9, none, .alloc [.d (.w 0#64), .d (.w 0#64)]⟩, ⟨some 8, none, .mv (.t 31)⟩, ⟨none, none, .store 2 (.t 9) (.t 33)⟩] [2, 8, 9, 27, 28, 29])
    (.seq (.reg true [⟨some 34, none, .mv (.t 2)⟩, ⟨some 35, none, .mv (.t 8)⟩, ⟨some 36, none, .iaddr 1 (.t 34) (.t 35)⟩, ⟨some 37, none, .load none (.t 36)⟩, ⟨some 38, none, .faddr 0 (.t 9)⟩, ⟨some 39, none, .load none (.t 38)⟩, ⟨some 40, none, .bin .lss (.t 37) (.t 39)⟩, ⟨some 41, none, .mv (.t 40)⟩, ⟨some 42, (some (41, false)), .mv (.t 2)⟩, ⟨some 43, (some (41, false)), .mv (.t 8)⟩, ⟨some 44, (some (41, false)), .iaddr 1 (.t 42) (.t 43)⟩, ⟨some 45, (some (41, false)), .load none (.t 44)⟩, ⟨some 46, (some (41, false)), .faddr 1 (.t 9)⟩, ⟨some 47, (some (41, false)), .load none (.t 46)⟩, ⟨some 48, (some (41, false)), .bin .gtr (.t 45) (.t 47)⟩, ⟨some 49, none, .pick (.t 41) (.k (.bool true)) (.t 48)⟩] [2, 27, 28, 29, 49])
    (.cond (.t 49) (.seq (.reg false [⟨some 6, none, .mv (.k (.bool false))⟩, ⟨some 7, none, .mv (.k (.bool true))⟩] [6, 7])
     .ret) .skip))))
   (.reg false [⟨some 50, none, .bin .add (.t 29) (.k (.int .i64 1))⟩, ⟨some 29, none, .mv (.t 50)⟩] [2, 27, 28, 29]))))
def F121_l0 : AC := F121_b0
@[simp] theorem u121_0 (T : Nat → Option AFunc) (X : Orc) (F : AFunc) (m : Nat) (K : List AT) (e : Env) (st : St) : go T X F m (.code F121_l0 :: K) e st = go T X F m (.code F121_b0 :: K) e st := rfl
def F121_t0 : AC :=
 (.seq (.reg false [⟨some 6, none, .mv (.k (.bool true))⟩, ⟨some 7, none, .mv (.k (.bool true))⟩] [6, 7])
 .ret)
def F121_c : AC :=
 (.seq (.reg false [⟨some 6, none, .mv (.k (.bool false))⟩, ⟨some 7, none, .mv (.k (.bool false))⟩] [0, 1, 2])
 (.seq (.seq (.reg false [⟨some 10, none, .mv (.t 0)⟩, ⟨some 11, none, .mv (.t 1)⟩, ⟨some 12, none, .lcall (.f 48) [.t 10, .t 11]⟩, ⟨some 13, none, .un .not (.t 12)⟩, ⟨some 14, none, .mv (.t 13)⟩, ⟨some 15, (some (14, false)), .mv (.t 2)⟩, ⟨some 16, (some (14, false)), .len (.t 15)⟩, ⟨some 17, (some (14, false)), .mv (.t 1)⟩, ⟨some 18, (some (14, false)), .len (.t 17)⟩, ⟨some 19, (some (14, false)), .bin .neq (.t 16) (.t 18)⟩, ⟨some 20, none, .pick (.t 14) (.k (.bool true)) (.t 19)⟩, ⟨some 21, none, .mv (.t 20)⟩, ⟨some 22, (some (21, false)), .mv (.t 0)⟩, ⟨some 23, (some (21, false)), .mv (.t 2)⟩, ⟨some 24, (some (21, false)), .lcall (.f 120) [.t 22, .t 23]⟩, ⟨some 25, (some (21, false)), .un .not (.t 24)⟩, ⟨some 26, none, .pick (.t 21) (.k (.bool true)) (.t 25)⟩] [1, 2, 26])
 (.cond (.t 26) (.seq (.reg false [⟨some 6, none, .mv (.k (.bool false))⟩, ⟨some 7, none, .mv (.k (.bool false))⟩] [6, 7])
  .ret) .skip))
 (.seq (.seq (.reg false [⟨some 27, none, .mv (.t 1)⟩, ⟨some 28, none, .len (.t 27)⟩, ⟨some 29, none, .mv (.k (.int .i64 0))⟩] [2, 27, 28, 29])
 (.block 0 (.loop [(2, .keep), (27, .keep), (28, .keep), (29, .keep)] F121_l0)))
 (.kp [] F121_t0))))
def F121 : AFunc := ⟨3, [.t 6, .t 7], [], F121_c⟩
/-- laws.FnSettled -/
def F122_t0 : AC :=
 (.reg false [⟨some 132, none, .mv (.t 16)⟩, ⟨some 133, none, .mv (.t 19)⟩, ⟨some 134, none, .bslice 1 [(.w 0#64)] 1 [(0, .t 133)]⟩, ⟨some 135, none, .append 1 (.t 132) (.t 134)⟩, ⟨some 16, none, .mv (.t 135)⟩] [1, 5, 8, 16, 96, 97, 98])
def F122_t1 : AC :=
 (.reg false [⟨some 136, none, .bin .add (.t 98) (.k (.int .i64 1))⟩, ⟨some 98, none, .mv (.t 136)⟩] [1, 5, 8, 16, 96, 97, 98])
def F122_b0 : AC := (.seq (.reg false [⟨some 99, none, .bin .lss (.t 98) (.t 97)⟩] [1, 5, 8, 16, 96, 97, 98, 99])
    (.seq (.cond (.t 99) .skip (.exit 0))
    (.seq (.block 1 (.seq (.reg false [⟨some 100, none, .mv (.t 98)⟩, ⟨some 101, none, .iaddr 2 (.t 96) (.t 98)⟩, ⟨some 102, none, .load (some 2) (.t 101)⟩, ⟨some 18, none, .alloc [.d (.w 0#64), .d (.w 0#64)]⟩, ⟨some 17, none, .mv (.t 100)⟩, ⟨none, none, .store 2 (.t 18) (.t 102)⟩] [1, 5, 8, 16, 17, 18, 96, 97, 98])
     (.seq (.reg false [⟨some 103, none, .faddr 0 (.t 18)⟩, ⟨some 104, none, .load none (.t 103)⟩, ⟨some 19, none, .mv (.t 104)⟩] [1, 5, 8, 16, 17, 18, 19, 96, 97, 98])
     (.seq (.seq (.reg false [⟨some 105, none, .faddr 1 (.t 18)⟩, ⟨some 106, none, .load none (.t 105)⟩, ⟨some 107, none, .faddr 0 (.t 18)⟩, ⟨some 108, none, .load none (.t 107)⟩, ⟨some 109, none, .bin .sub (.t 106) (.t 108)⟩, ⟨some 20, none, .mv (.t 109)⟩] [1, 5, 8, 16, 17, 19, 20, 96, 97, 98])
     (.seq (.reg false [⟨some 110, none, .mv (.t 20)⟩, ⟨some 111, none, .bin .lss (.t 110) (.k (.w 1000000#64))⟩] [1, 5, 8, 16, 17, 19, 20, 96, 97, 98, 111])
     (.cond (.t 111) (.reg false [⟨some 112, none, .mv (.t 19)⟩, ⟨some 113, none, .mv (.t 1)⟩, ⟨some 114, none, .lcall (.f 57) [.t 113]⟩, ⟨some 115, none, .mv (.t 17)⟩, ⟨some 116, none, .bin .add (.t 115) (.k (.int .i64 1))⟩, ⟨some 117, none, .bin .quo (.t 114) (.t 116)⟩, ⟨some 118, none, .conv .u64 (.t 117)⟩, ⟨some 119, none, .mv (.t 20)⟩, ⟨some 120, none, .bin .add (.t 119) (.k (.w 1#64))⟩, ⟨some 121, none, .bin .rem (.t 118) (.t 120)⟩, ⟨some 122, none, .bin .add (.t 112) (.t 121)⟩, ⟨some 19, none, .mv (.t 122)⟩] [1, 5, 8, 16, 19, 96, 97, 98]) (.reg false [⟨some 123, none, .mv (.t 19)⟩, ⟨some 124, none, .mv (.t 1)⟩, ⟨some 125, none, .lcall (.f 57) [.t 124]⟩, ⟨some 126, none, .mv (.t 17)⟩, ⟨some 127, none, .bin .add (.t 126) (.k (.int .i64 1))⟩, ⟨some 128, none, .bin .quo (.t 125) (.t 127)⟩, ⟨some 129, none, .conv .u64 (.t 128)⟩, ⟨some 130, none, .bin .rem (.t 129) (.k (.w 1000000#64))⟩, ⟨some 131, none, .bin .add (.t 123) (.t 130)⟩, ⟨some 19, none, .mv (.t 131)⟩] [1, 5, 8, 16, 19, 96, 97, 98]))))
     (.kp [(1, .keep), (5, .keep), (8, .keep), (16, .keep), (19, .keep), (96, .keep), (97, .keep), (98, .keep)] F122_t0)))))
    (.kp [(1, .keep), (5, .keep), (8, .keep), (16, .keep), (96, .keep), (97, .keep), (98, .keep)] F122_t1))))
def F122_l0 : AC := F122_b0
@[simp] theorem u122_0 (T : Nat → Option AFunc) (X : Orc) (F : AFunc) (m : Nat) (K : List AT) (e : Env) (st : St) : go T X F m (.code F122_l0 :: K) e st = go T X F m (.code F122_b0 :: K) e st := rfl
def F122_b1 : AC := (.seq (.reg false [⟨some 141, none, .bin .lss (.t 140) (.t 139)⟩] [1, 5, 8, 16, 139, 140, 141])
   (.seq (.cond (.t 141) .skip (.exit 2))
   (.seq (.block 3 (.seq (.reg false [⟨some 142, none, .mv (.t 140)⟩, ⟨some 21, none, .mv (.t 142)⟩] [1, 5, 8, 16, 21, 139, 140])
    (.seq (.reg false [⟨some 144, none, .load (some 4) (.t 5)⟩, ⟨some 145, none, .mv (.t 16)⟩, ⟨some 146, none, .mv (.t 21)⟩, ⟨some 147, none, .call false [] (.f 115) [.t 144, .t 145, .t 146]⟩, ⟨some 143, none, .mv (.t 147)⟩, ⟨some 148, none, .ext (.t 143) 0⟩, ⟨some 149, none, .ext (.t 143) 1⟩, ⟨some 22, none, .mv (.t 148)⟩, ⟨some 23, none, .mv (.t 149)⟩] [1, 5, 8, 16, 22, 23, 139, 140])
    (.seq (.reg false [⟨some 151, none, .faddr 0 (.t 5)⟩, ⟨some 152, none, .load none (.t 151)⟩, ⟨some 153, none, .mv (.t 8)⟩, ⟨some 154, none, .mv (.t 22)⟩, ⟨some 155, none, .lcall (.f 63) [.t 152, .t 153, .t 154]⟩, ⟨some 150, none, .mv (.t 155)⟩, ⟨some 156, none, .ext (.t 150) 0⟩, ⟨some 157, none, .ext (.t 150) 1⟩, ⟨some 24, none, .mv (.t 156)⟩, ⟨some 25, none, .mv (.t 157)⟩] [1, 5, 8, 16, 23, 24, 25, 139, 140])
    (.seq (.reg false [⟨some 158, none, .mv (.t 23)⟩, ⟨some 159, none, .mv (.t 158)⟩, ⟨some 160, (some (159, true)), .mv (.t 25)⟩, ⟨some 161, (some (159, true)), .un .not (.t 160)⟩, ⟨some 162, (some (159, true)), .mv (.t 161)⟩, ⟨some 163, (some (162, false)), .mv (.t 24)⟩, ⟨some 164, (some (162, false)), .un .not (.t 163)⟩, ⟨some 165, (some (159, true)), .pick (.t 162) (.k (.bool true)) (.t 164)⟩, ⟨some 166, none, .pick (.t 159) (.t 165) (.k (.bool false))⟩] [1, 5, 8, 16, 139, 140, 166])
    (.cond (.t 166) (.seq (.reg false [⟨some 4, none, .mv (.k (.bool false))⟩] [4])
     .ret) .skip))))))
   (.reg false [⟨some 167, none, .bin .add (.t 140) (.k (.int .i64 1))⟩, ⟨some 140, none, .mv (.t 167)⟩] [1, 5, 8, 16, 139, 140]))))
def F122_l1 : AC := F122_b1
@[simp] theorem u122_1 (T : Nat → Option AFunc) (X : Orc) (F : AFunc) (m : Nat) (K : List AT) (e : Env) (st : St) : go T X F m (.code F122_l1 :: K) e st = go T X F m (.code F122_b1 :: K) e st := rfl
def F122_t2 : AC :=
 (.seq (.reg false [⟨some 137, none, .faddr 3 (.t 5)⟩, ⟨some 138, none, .load none (.t 137)⟩, ⟨some 139, none, .len (.t 138)⟩, ⟨some 140, none, .mv (.k (.int .i64 0))⟩] [1, 5, 8, 16, 139, 140])
 (.block 2 (.loop [(1, .keep), (5, .keep), (8, .keep), (16, .keep), (139, .keep), (140, .keep)] F122_l1)))
def F122_t3 : AC :=
 (.seq (.reg false [⟨some 169, none, .mv (.t 1)⟩, ⟨some 170, none, .call false [] (.f 116) [.t 169]⟩, ⟨some 168, none, .mv (.t 170)⟩, ⟨some 171, none, .ext (.t 168) 0⟩, ⟨some 172, none, .ext (.t 168) 1⟩, ⟨some 26, none, .alloc [.d (.int .i64 0), .d (.int .i64 0), .d .nil, .d .nil]⟩, ⟨none, none, .store 4 (.t 26) (.t 171)⟩, ⟨some 27, none, .mv (.t 172)⟩] [1, 26, 27])
 (.seq (.reg false [⟨some 174, none, .load (some 4) (.t 26)⟩, ⟨some 175, none, .mv (.t 27)⟩, ⟨some 176, none, .call false [] (.f 109) [.t 174, .t 175]⟩, ⟨some 173, none, .mv (.t 176)⟩, ⟨some 177, none, .ext (.t 173) 0⟩, ⟨some 178, none, .ext (.t 173) 1⟩, ⟨some 28, none, .mv (.t 177)⟩, ⟨some 29, none, .mv (.t 178)⟩] [1, 26, 27, 28, 29])
 (.seq (.reg false [⟨some 180, none, .load (some 4) (.t 26)⟩, ⟨some 181, none, .mv (.t 27)⟩, ⟨some 182, none, .call false [] (.f 117) [.t 180, .t 181]⟩, ⟨some 179, none, .mv (.t 182)⟩, ⟨some 183, none, .ext (.t 179) 0⟩, ⟨some 184, none, .ext (.t 179) 1⟩, ⟨some 30, none, .mv (.t 183)⟩, ⟨some 31, none, .mv (.t 184)⟩] [1, 28, 29, 30, 31])
 (.seq (.reg false [⟨some 186, none, .mv (.t 1)⟩, ⟨some 187, none, .call false [] (.f 119) [.t 186]⟩, ⟨some 185, none, .mv (.t 187)⟩, ⟨some 188, none, .ext (.t 185) 0⟩, ⟨some 189, none, .ext (.t 185) 1⟩, ⟨some 190, none, .ext (.t 185) 2⟩, ⟨some 32, none, .mv (.t 188)⟩, ⟨some 33, none, .mv (.t 189)⟩, ⟨some 34, none, .mv (.t 190)⟩] [28, 29, 30, 31, 32, 33, 34])
 (.seq (.reg false [⟨some 192, none, .mv (.t 32)⟩, ⟨some 193, none, .mv (.t 33)⟩, ⟨some 194, none, .mv (.t 34)⟩, ⟨some 195, none, .lcall (.f 63) [.t 192, .t 193, .t 194]⟩, ⟨some 191, none, .mv (.t 195)⟩, ⟨some 196, none, .ext (.t 191) 0⟩, ⟨some 197, none, .ext (.t 191) 1⟩, ⟨some 35, none, .mv (.t 196)⟩, ⟨some 36, none, .mv (.t 197)⟩] [28, 29, 30, 31, 32, 33, 34, 35, 36])
 (.seq (.reg false [⟨some 199, none, .mv (.t 32)⟩, ⟨some 200, none, .mv (.t 33)⟩, ⟨some 201, none, .mv (.t 34)⟩, ⟨some 202, none, .lcall (.f 121) [.t 199, .t 200, .t 201]⟩, ⟨some 198, none, .mv (.t 202)⟩, ⟨some 203, none, .ext (.t 198) 0⟩, ⟨some 204, none, .ext (.t 198) 1⟩, ⟨some 37, none, .mv (.t 203)⟩, ⟨some 38, none, .mv (.t 204)⟩] [28, 29, 30, 31, 35, 36, 37, 38])
 (.seq (.reg false [⟨some 205, none, .mv (.t 29)⟩, ⟨some 206, none, .mv (.t 31)⟩, ⟨some 207, none, .eqb false (.t 205) (.t 206)⟩, ⟨some 208, none, .mv (.t 207)⟩, ⟨some 209, (some (208, true)), .mv (.t 28)⟩, ⟨some 210, (some (208, true)), .mv (.t 30)⟩, ⟨some 211, (some (208, true)), .lcall (.f 108) [.t 209, .t 210]⟩, ⟨some 212, none, .pick (.t 208) (.t 211) (.k (.bool false))⟩, ⟨some 213, none, .mv (.t 212)⟩, ⟨some 214, (some (213, true)), .mv (.t 36)⟩, ⟨some 215, (some (213, true)), .mv (.t 38)⟩, ⟨some 216, (some (213, true)), .eqb false (.t 214) (.t 215)⟩, ⟨some 217, none, .pick (.t 213) (.t 216) (.k (.bool false))⟩, ⟨some 218, none, .mv (.t 217)⟩, ⟨some 219, (some (218, true)), .mv (.t 35)⟩, ⟨some 220, (some (218, true)), .mv (.t 37)⟩, ⟨some 221, (some (218, true)), .eqb false (.t 219) (.t 220)⟩, ⟨some 222, none, .pick (.t 218) (.t 221) (.k (.bool false))⟩, ⟨some 4, none, .mv (.t 222)⟩] [4])
 .ret)))))))
def F122_c : AC :=
 (.seq (.reg false [⟨some 4, none, .mv (.k (.bool false))⟩] [0, 1])
 (.seq (.seq (.reg false [⟨some 39, none, .mv (.t 0)⟩, ⟨some 40, none, .mv (.t 1)⟩, ⟨some 41, none, .lcall (.f 1) [.t 39, .t 40]⟩] [0, 1, 41])
 (.cond (.t 41) (.seq (.reg false [⟨some 4, none, .mv (.k (.bool true))⟩] [4])
  .ret) .skip))
 (.seq (.reg false [⟨some 43, none, .mv (.t 0)⟩, ⟨some 44, none, .call false [] (.f 88) [.t 43]⟩, ⟨some 42, none, .mv (.t 44)⟩, ⟨some 45, none, .ext (.t 42) 0⟩, ⟨some 46, none, .ext (.t 42) 1⟩, ⟨some 47, none, .ext (.t 42) 2⟩, ⟨some 5, none, .alloc [.d (.int .i64 0), .d (.int .i64 0), .d .nil, .d .nil]⟩, ⟨none, none, .store 4 (.t 5) (.t 45)⟩, ⟨some 6, none, .mv (.t 46)⟩, ⟨some 7, none, .mv (.t 47)⟩] [1, 5, 6, 7])
 (.seq (.reg false [⟨some 49, none, .load (some 4) (.t 5)⟩, ⟨some 50, none, .mv (.t 6)⟩, ⟨some 51, none, .mv (.t 7)⟩, ⟨some 52, none, .call false [] (.f 101) [.t 49, .t 50, .t 51]⟩, ⟨some 48, none, .mv (.t 52)⟩, ⟨some 53, none, .ext (.t 48) 0⟩, ⟨some 54, none, .ext (.t 48) 1⟩, ⟨some 55, none, .ext (.t 48) 2⟩, ⟨some 8, none, .mv (.t 53)⟩, ⟨some 9, none, .mv (.t 54)⟩, ⟨some 10, none, .mv (.t 55)⟩] [1, 5, 6, 7, 8, 9, 10])
 (.seq (.reg false [⟨some 57, none, .load (some 4) (.t 5)⟩, ⟨some 58, none, .mv (.t 6)⟩, ⟨some 59, none, .mv (.t 7)⟩, ⟨some 60, none, .call false [] (.f 107) [.t 57, .t 58, .t 59]⟩, ⟨some 56, none, .mv (.t 60)⟩, ⟨some 61, none, .ext (.t 56) 0⟩, ⟨some 62, none, .ext (.t 56) 1⟩, ⟨some 63, none, .ext (.t 56) 2⟩, ⟨some 11, none, .mv (.t 61)⟩, ⟨some 12, none, .mv (.t 62)⟩, ⟨some 13, none, .mv (.t 63)⟩] [1, 5, 8, 9, 10, 11, 12, 13])
 (.seq (.seq (.reg false [⟨some 64, none, .mv (.t 10)⟩, ⟨some 65, none, .mv (.t 13)⟩, ⟨some 66, none, .eqb true (.t 64) (.t 65)⟩, ⟨some 67, none, .mv (.t 66)⟩, ⟨some 68, (some (67, false)), .mv (.t 9)⟩, ⟨some 69, (some (67, false)), .mv (.t 12)⟩, ⟨some 70, (some (67, false)), .eqb true (.t 68) (.t 69)⟩, ⟨some 71, none, .pick (.t 67) (.k (.bool true)) (.t 70)⟩, ⟨some 72, none, .mv (.t 71)⟩, ⟨some 73, (some (72, false)), .mv (.t 8)⟩, ⟨some 74, (some (72, false)), .mv (.t 11)⟩, ⟨some 75, (some (72, false)), .lcall (.f 108) [.t 73, .t 74]⟩, ⟨some 76, (some (72, false)), .un .not (.t 75)⟩, ⟨some 77, none, .pick (.t 72) (.k (.bool true)) (.t 76)⟩] [1, 5, 8, 9, 10, 77])
 (.cond (.t 77) (.seq (.reg false [⟨some 4, none, .mv (.k (.bool false))⟩] [4])
  .ret) .skip))
 (.seq (.seq (.reg false [⟨some 78, none, .mv (.t 10)⟩, ⟨some 79, none, .mv (.t 78)⟩, ⟨some 80, (some (79, true)), .mv (.t 9)⟩, ⟨some 81, none, .pick (.t 79) (.t 80) (.k (.bool false))⟩] [1, 5, 8, 81])
 (.cond (.t 81) (.seq (.reg false [⟨some 83, none, .load (some 4) (.t 5)⟩, ⟨some 84, none, .mv (.t 8)⟩, ⟨some 85, none, .call false [] (.f 109) [.t 83, .t 84]⟩, ⟨some 82, none, .mv (.t 85)⟩, ⟨some 86, none, .ext (.t 82) 0⟩, ⟨some 87, none, .ext (.t 82) 1⟩, ⟨some 14, none, .mv (.t 86)⟩, ⟨some 15, none, .mv (.t 87)⟩] [1, 5, 8, 14, 15])
  (.seq (.seq (.reg false [⟨some 88, none, .mv (.t 15)⟩, ⟨some 89, none, .un .not (.t 88)⟩, ⟨some 90, none, .mv (.t 89)⟩, ⟨some 91, (some (90, false)), .mv (.t 14)⟩, ⟨some 92, (some (90, false)), .mv (.t 8)⟩, ⟨some 93, (some (90, false)), .lcall (.f 108) [.t 91, .t 92]⟩, ⟨some 94, (some (90, false)), .un .not (.t 93)⟩, ⟨some 95, none, .pick (.t 90) (.k (.bool true)) (.t 94)⟩] [1, 5, 8, 95])
  (.cond (.t 95) (.seq (.reg false [⟨some 4, none, .mv (.k (.bool false))⟩] [4])
   .ret) .skip))
  (.seq (.reg false [⟨some 16, none, .mv (.k .nil)⟩] [1, 5, 8, 16])
  (.seq (.seq (.reg false [⟨some 96, none, .mv (.t 8)⟩, ⟨some 97, none, .len (.t 96)⟩, ⟨some 98, none, .mv (.k (.int .i64 0))⟩] [1, 5, 8, 16, 96, 97, 98])
  (.block 0 (.loop [(1, .keep), (5, .keep), (8, .keep), (16, .ow 1), (96, .keep), (97, .keep), (98, .keep)] F122_l0)))
  (.kp [(1, .keep), (5, .keep), (8, .keep), (16, .keep)] F122_t2))))) .skip))
 (.kp [(1, .keep)] F122_t3))))))))
def F122 : AFunc := ⟨2, [.t 4], [], F122_c⟩
end Go.Proofs.YtplgdddfhjpojaaGreat.AM

namespace Go.Proofs.YtplgdddfhjpojaaGreat.AM
open Go
def tbl : List (Nat × AFunc) := [(1, F1), (2, F2), (3, F3), (4, F4), (5, F5), (6, F6), (7, F7), (8, F8), (84, F84), (85, F85), (86, F86), (87, F87), (10, F10), (11, F11), (12, F12), (13, F13), (88, F88), (15, F15), (16, F16), (17, F17), (18, F18), (19, F19), (20, F20), (21, F21), (22, F22), (23, F23), (24, F24), (25, F25), (26, F26), (27, F27), (28, F28), (29, F29), (89, F89), (90, F90), (91, F91), (92, F92), (93, F93), (94, F94), (95, F95), (96, F96), (97, F97), (32, F32), (33, F33), (34, F34), (30, F30), (35, F35), (36, F36), (37, F37), (77, F77), (99, F99), (100, F100), (101, F101), (39, F39), (41, F41), (42, F42), (46, F46), (47, F47), (48, F48), (40, F40), (43, F43), (44, F44), (102, F102), (103, F103), (104, F104), (105, F105), (49, F49), (51, F51), (50, F50), (52, F52), (53, F53), (54, F54), (55, F55), (79, F79), (106, F106), (107, F107), (108, F108), (109, F109), (57, F57), (58, F58), (59, F59), (60, F60), (61, F61), (110, F110), (111, F111), (64, F64), (65, F65), (66, F66), (67, F67), (68, F68), (69, F69), (70, F70), (71, F71), (72, F72), (73, F73), (112, F112), (114, F114), (115, F115), (62, F62), (63, F63), (116, F116), (117, F117), (75, F75), (118, F118), (119, F119), (120, F120), (121, F121), (122, F122)]
def T (f : Nat) : Option AFunc := tbl.lookup f
theorem T1 : T 1 = some F1 := rfl
theorem T2 : T 2 = some F2 := rfl
theorem T3 : T 3 = some F3 := rfl
theorem T4 : T 4 = some F4 := rfl
theorem T5 : T 5 = some F5 := rfl
theorem T6 : T 6 = some F6 := rfl
theorem T7 : T 7 = some F7 := rfl
theorem T8 : T 8 = some F8 := rfl
theorem T84 : T 84 = some F84 := rfl
theorem T85 : T 85 = some F85 := rfl
theorem T86 : T 86 = some F86 := rfl
theorem T87 : T 87 = some F87 := rfl
theorem T10 : T 10 = some F10 := rfl
theorem T11 : T 11 = some F11 := rfl
theorem T12 : T 12 = some F12 := rfl
theorem T13 : T 13 = some F13 := rfl
theorem T88 : T 88 = some F88 := rfl
theorem T15 : T 15 = some F15 := rfl
theorem T16 : T 16 = some F16 := rfl
theorem T17 : T 17 = some F17 := rfl
theorem T18 : T 18 = some F18 := rfl
theorem T19 : T 19 = some F19 := rfl
theorem T20 : T 20 = some F20 := rfl
theorem T21 : T 21 = some F21 := rfl
theorem T22 : T 22 = some F22 := rfl
theorem T23 : T 23 = some F23 := rfl
theorem T24 : T 24 = some F24 := rfl
theorem T25 : T 25 = some F25 := rfl
theorem T26 : T 26 = some F26 := rfl
theorem T27 : T 27 = some F27 := rfl
theorem T28 : T 28 = some F28 := rfl
theorem T29 : T 29 = some F29 := rfl
theorem T89 : T 89 = some F89 := rfl
theorem T90 : T 90 = some F90 := rfl
theorem T91 : T 91 = some F91 := rfl
theorem T92 : T 92 = some F92 := rfl
theorem T93 : T 93 = some F93 := rfl
theorem T94 : T 94 = some F94 := rfl
theorem T95 : T 95 = some F95 := rfl
theorem T96 : T 96 = some F96 := rfl
theorem T97 : T 97 = some F97 := rfl
theorem T32 : T 32 = some F32 := rfl
theorem T33 : T 33 = some F33 := rfl
theorem T34 : T 34 = some F34 := rfl
theorem T30 : T 30 = some F30 := rfl
theorem T35 : T 35 = some F35 := rfl
theorem T36 : T 36 = some F36 := rfl
theorem T37 : T 37 = some F37 := rfl
theorem T77 : T 77 = some F77 := rfl
theorem T99 : T 99 = some F99 := rfl
theorem T100 : T 100 = some F100 := rfl
theorem T101 : T 101 = some F101 := rfl
theorem T39 : T 39 = some F39 := rfl
theorem T41 : T 41 = some F41 := rfl
theorem T42 : T 42 = some F42 := rfl
theorem T46 : T 46 = some F46 := rfl
theorem T47 : T 47 = some F47 := rfl
theorem T48 : T 48 = some F48 := rfl
theorem T40 : T 40 = some F40 := rfl
theorem T43 : T 43 = some F43 := rfl
theorem T44 : T 44 = some F44 := rfl
theorem T102 : T 102 = some F102 := rfl
theorem T103 : T 103 = some F103 := rfl
theorem T104 : T 104 = some F104 := rfl
theorem T105 : T 105 = some F105 := rfl
theorem T49 : T 49 = some F49 := rfl
theorem T51 : T 51 = some F51 := rfl
theorem T50 : T 50 = some F50 := rfl
theorem T52 : T 52 = some F52 := rfl
theorem T53 : T 53 = some F53 := rfl
theorem T54 : T 54 = some F54 := rfl
theorem T55 : T 55 = some F55 := rfl
theorem T79 : T 79 = some F79 := rfl
theorem T106 : T 106 = some F106 := rfl
theorem T107 : T 107 = some F107 := rfl
theorem T108 : T 108 = some F108 := rfl
theorem T109 : T 109 = some F109 := rfl
theorem T57 : T 57 = some F57 := rfl
theorem T58 : T 58 = some F58 := rfl
theorem T59 : T 59 = some F59 := rfl
theorem T60 : T 60 = some F60 := rfl
theorem T61 : T 61 = some F61 := rfl
theorem T110 : T 110 = some F110 := rfl
theorem T111 : T 111 = some F111 := rfl
theorem T64 : T 64 = some F64 := rfl
theorem T65 : T 65 = some F65 := rfl
theorem T66 : T 66 = some F66 := rfl
theorem T67 : T 67 = some F67 := rfl
theorem T68 : T 68 = some F68 := rfl
theorem T69 : T 69 = some F69 := rfl
theorem T70 : T 70 = some F70 := rfl
theorem T71 : T 71 = some F71 := rfl
theorem T72 : T 72 = some F72 := rfl
theorem T73 : T 73 = some F73 := rfl
theorem T112 : T 112 = some F112 := rfl
theorem T114 : T 114 = some F114 := rfl
theorem T115 : T 115 = some F115 := rfl
theorem T62 : T 62 = some F62 := rfl
theorem T63 : T 63 = some F63 := rfl
theorem T116 : T 116 = some F116 := rfl
theorem T117 : T 117 = some F117 := rfl
theorem T75 : T 75 = some F75 := rfl
theorem T118 : T 118 = some F118 := rfl
theorem T119 : T 119 = some F119 := rfl
theorem T120 : T 120 = some F120 := rfl
theorem T121 : T 121 = some F121 := rfl
theorem T122 : T 122 = some F122 := rfl
end Go.Proofs.YtplgdddfhjpojaaGreat.AM

namespace Go.Proofs.YtplgdddfhjpojaaGreat.AM
open Go

def asBit : D → Option Nat
  | .int .u64 n => if n = 0 then some 0 else if n = 1 then some 1 else none
  | _ => none
def asW : D → Option Nat
  | .int .u64 n => if 0 ≤ n ∧ n < 18446744073709551616 then some n.toNat else none
  | _ => none
/-- The functions that have no body: math/bits.Add64. -/
def X0 : Orc := fun f vs st =>
  if f = 31 then
    match vs with
    | [.d a, .d b, .d c] => match asW a, asW b, asBit c with
      | some x, some y, some z => some (.tup [.d (.int .u64 ((x + y + z) % 18446744073709551616 : Nat)), .d (.int .u64 ((x + y + z) / 18446744073709551616 : Nat))], st)
      | _, _, _ => none
    | _ => none
  else none
/-- slices.Clone, for each kind of elements, with the element's cells. -/
def cloneSz : List (Nat × Nat) := [(98, 2), (113, 1)]
def cloneX (sz : Nat) (vs : List AV) (st : St) : Option (AV × St) :=
  match vs, st with
  | [.d (.sl xs)], [] => if okSz sz xs = true ∧ xs.length ≤ maxApp then some (.hs 0 sz 0 xs.length, [.arr sz xs true]) else none
  | _, _ => none
def X : Orc := fun f vs st => match cloneSz.lookup f with
  | some sz => cloneX sz vs st
  | none => X0 f vs st
theorem X_add (vs : List AV) (st : St) : X 31 vs st = X0 31 vs st := rfl
theorem X_none {f : Nat} (h : f ≠ 31 ∧ cloneSz.lookup f = none) (vs : List AV) (st : St) : X f vs st = none := by
  simp only [X, h.2, X0, if_neg h.1]
theorem clone98 {xs : List (List D)} (h : okSz 2 xs = true) (hl : xs.length ≤ maxApp) : acall T X 98 [.d (.sl xs)] [] = some (.hs 0 2 0 xs.length, [.arr 2 xs true]) :=
  acall_x T X (by show cloneX 2 [.d (.sl xs)] [] = _; simp only [cloneX, h, hl, and_self, if_true])
theorem clone113 {xs : List (List D)} (h : okSz 1 xs = true) (hl : xs.length ≤ maxApp) : acall T X 113 [.d (.sl xs)] [] = some (.hs 0 1 0 xs.length, [.arr 1 xs true]) :=
  acall_x T X (by show cloneX 1 [.d (.sl xs)] [] = _; simp only [cloneX, h, hl, and_self, if_true])
end Go.Proofs.YtplgdddfhjpojaaGreat.AM

namespace Go.Proofs.YtplgdddfhjpojaaGreat.AM
open Go
theorem e1 (v0 v1 : AV) (st : St) : acall T X 1 [v0, v1] st = go T X F1 st.length [.code F1_c] [(0, v0), (1, v1)] st := acall_go T1 (X_none (by decide) _ _) rfl
theorem e2 (v0 : AV) (st : St) : acall T X 2 [v0] st = go T X F2 st.length [.code F2_c] [(0, v0)] st := acall_go T2 (X_none (by decide) _ _) rfl
theorem e3 (v0 v1 : AV) (st : St) : acall T X 3 [v0, v1] st = go T X F3 st.length [.code F3_c] [(0, v0), (1, v1)] st := acall_go T3 (X_none (by decide) _ _) rfl
theorem e4 (v0 v1 : AV) (st : St) : acall T X 4 [v0, v1] st = go T X F4 st.length [.code F4_c] [(0, v0), (1, v1)] st := acall_go T4 (X_none (by decide) _ _) rfl
theorem e5 (v0 v1 : AV) (st : St) : acall T X 5 [v0, v1] st = go T X F5 st.length [.code F5_c] [(0, v0), (1, v1)] st := acall_go T5 (X_none (by decide) _ _) rfl
theorem e6 (v0 v1 : AV) (st : St) : acall T X 6 [v0, v1] st = go T X F6 st.length [.code F6_c] [(0, v0), (1, v1)] st := acall_go T6 (X_none (by decide) _ _) rfl
theorem e7 (v0 v1 v2 v3 : AV) (st : St) : acall T X 7 [v0, v1, v2, v3] st = go T X F7 st.length [.code F7_c] [(0, v0), (1, v1), (2, v2), (3, v3)] st := acall_go T7 (X_none (by decide) _ _) rfl
theorem e8 (v0 v1 v2 v3 : AV) (st : St) : acall T X 8 [v0, v1, v2, v3] st = go T X F8 st.length [.code F8_c] [(0, v0), (1, v1), (2, v2), (3, v3)] st := acall_go T8 (X_none (by decide) _ _) rfl
theorem e84 (v0 v1 v2 : AV) (st : St) : acall T X 84 [v0, v1, v2] st = go T X F84 st.length [.code F84_c] [(0, v0), (1, v1), (2, v2)] st := acall_go T84 (X_none (by decide) _ _) rfl
theorem e85 (v0 v1 v2 : AV) (st : St) : acall T X 85 [v0, v1, v2] st = go T X F85 st.length [.code F85_c] [(0, v0), (1, v1), (2, v2)] st := acall_go T85 (X_none (by decide) _ _) rfl
theorem e86 (v0 : AV) (st : St) : acall T X 86 [v0] st = go T X F86 st.length [.code F86_c] [(0, v0)] st := acall_go T86 (X_none (by decide) _ _) rfl
theorem e87 (v0 : AV) (st : St) : acall T X 87 [v0] st = go T X F87 st.length [.code F87_c] [(0, v0)] st := acall_go T87 (X_none (by decide) _ _) rfl
theorem e10 (v0 : AV) (st : St) : acall T X 10 [v0] st = go T X F10 st.length [.code F10_c] [(0, v0)] st := acall_go T10 (X_none (by decide) _ _) rfl
theorem e11 (v0 v1 : AV) (st : St) : acall T X 11 [v0, v1] st = go T X F11 st.length [.code F11_c] [(0, v0), (1, v1)] st := acall_go T11 (X_none (by decide) _ _) rfl
theorem e12 (v0 v1 : AV) (st : St) : acall T X 12 [v0, v1] st = go T X F12 st.length [.code F12_c] [(0, v0), (1, v1)] st := acall_go T12 (X_none (by decide) _ _) rfl
theorem e13 (v0 v1 v2 : AV) (st : St) : acall T X 13 [v0, v1, v2] st = go T X F13 st.length [.code F13_c] [(0, v0), (1, v1), (2, v2)] st := acall_go T13 (X_none (by decide) _ _) rfl
theorem e88 (v0 : AV) (st : St) : acall T X 88 [v0] st = go T X F88 st.length [.code F88_c] [(0, v0)] st := acall_go T88 (X_none (by decide) _ _) rfl
theorem e15 (v0 : AV) (st : St) : acall T X 15 [v0] st = go T X F15 st.length [.code F15_c] [(0, v0)] st := acall_go T15 (X_none (by decide) _ _) rfl
theorem e16 (v0 v1 : AV) (st : St) : acall T X 16 [v0, v1] st = go T X F16 st.length [.code F16_c] [(0, v0), (1, v1)] st := acall_go T16 (X_none (by decide) _ _) rfl
theorem e17 (v0 v1 : AV) (st : St) : acall T X 17 [v0, v1] st = go T X F17 st.length [.code F17_c] [(0, v0), (1, v1)] st := acall_go T17 (X_none (by decide) _ _) rfl
theorem e18 (v0 : AV) (st : St) : acall T X 18 [v0] st = go T X F18 st.length [.code F18_c] [(0, v0)] st := acall_go T18 (X_none (by decide) _ _) rfl
theorem e19 (v0 : AV) (st : St) : acall T X 19 [v0] st = go T X F19 st.length [.code F19_c] [(0, v0)] st := acall_go T19 (X_none (by decide) _ _) rfl
theorem e20 (v0 v1 : AV) (st : St) : acall T X 20 [v0, v1] st = go T X F20 st.length [.code F20_c] [(0, v0), (1, v1)] st := acall_go T20 (X_none (by decide) _ _) rfl
theorem e21 (v0 v1 : AV) (st : St) : acall T X 21 [v0, v1] st = go T X F21 st.length [.code F21_c] [(0, v0), (1, v1)] st := acall_go T21 (X_none (by decide) _ _) rfl
theorem e22 (v0 v1 : AV) (st : St) : acall T X 22 [v0, v1] st = go T X F22 st.length [.code F22_c] [(0, v0), (1, v1)] st := acall_go T22 (X_none (by decide) _ _) rfl
theorem e23 (v0 v1 : AV) (st : St) : acall T X 23 [v0, v1] st = go T X F23 st.length [.code F23_c] [(0, v0), (1, v1)] st := acall_go T23 (X_none (by decide) _ _) rfl
theorem e24 (v0 : AV) (st : St) : acall T X 24 [v0] st = go T X F24 st.length [.code F24_c] [(0, v0)] st := acall_go T24 (X_none (by decide) _ _) rfl
theorem e25 (v0 v1 v2 : AV) (st : St) : acall T X 25 [v0, v1, v2] st = go T X F25 st.length [.code F25_c] [(0, v0), (1, v1), (2, v2)] st := acall_go T25 (X_none (by decide) _ _) rfl
theorem e26 (v0 v1 : AV) (st : St) : acall T X 26 [v0, v1] st = go T X F26 st.length [.code F26_c] [(0, v0), (1, v1)] st := acall_go T26 (X_none (by decide) _ _) rfl
theorem e27 (v0 v1 : AV) (st : St) : acall T X 27 [v0, v1] st = go T X F27 st.length [.code F27_c] [(0, v0), (1, v1)] st := acall_go T27 (X_none (by decide) _ _) rfl
theorem e28 (v0 v1 : AV) (st : St) : acall T X 28 [v0, v1] st = go T X F28 st.length [.code F28_c] [(0, v0), (1, v1)] st := acall_go T28 (X_none (by decide) _ _) rfl
theorem e29 (v0 v1 v2 : AV) (st : St) : acall T X 29 [v0, v1, v2] st = go T X F29 st.length [.code F29_c] [(0, v0), (1, v1), (2, v2)] st := acall_go T29 (X_none (by decide) _ _) rfl
theorem e89 (v0 : AV) (st : St) : acall T X 89 [v0] st = go T X F89 st.length [.code F89_c] [(0, v0)] st := acall_go T89 (X_none (by decide) _ _) rfl
theorem e90 (v0 v1 v2 v3 : AV) (st : St) : acall T X 90 [v0, v1, v2, v3] st = go T X F90 st.length [.code F90_c] [(0, v0), (1, v1), (2, v2), (3, v3)] st := acall_go T90 (X_none (by decide) _ _) rfl
theorem e91 (v0 v1 : AV) (st : St) : acall T X 91 [v0, v1] st = go T X F91 st.length [.code F91_c] [(0, v0), (1, v1)] st := acall_go T91 (X_none (by decide) _ _) rfl
theorem e92 (v0 v1 : AV) (st : St) : acall T X 92 [v0, v1] st = go T X F92 st.length [.code F92_c] [(0, v0), (1, v1)] st := acall_go T92 (X_none (by decide) _ _) rfl
theorem e93 (v0 v1 : AV) (st : St) : acall T X 93 [v0, v1] st = go T X F93 st.length [.code F93_c] [(0, v0), (1, v1)] st := acall_go T93 (X_none (by decide) _ _) rfl
theorem e94 (v0 v1 : AV) (st : St) : acall T X 94 [v0, v1] st = go T X F94 st.length [.code F94_c] [(0, v0), (1, v1)] st := acall_go T94 (X_none (by decide) _ _) rfl
theorem e95 (v0 v1 : AV) (st : St) : acall T X 95 [v0, v1] st = go T X F95 st.length [.code F95_c] [(0, v0), (1, v1)] st := acall_go T95 (X_none (by decide) _ _) rfl
theorem e96 (v0 : AV) (st : St) : acall T X 96 [v0] st = go T X F96 st.length [.code F96_c] [(0, v0)] st := acall_go T96 (X_none (by decide) _ _) rfl
theorem e97 (v0 v1 : AV) (st : St) : acall T X 97 [v0, v1] st = go T X F97 st.length [.code F97_c] [(0, v0), (1, v1)] st := acall_go T97 (X_none (by decide) _ _) rfl
theorem e32 (v0 v1 v2 : AV) (st : St) : acall T X 32 [v0, v1, v2] st = go T X F32 st.length [.code F32_c] [(0, v0), (1, v1), (2, v2)] st := acall_go T32 (X_none (by decide) _ _) rfl
theorem e33 (v0 v1 : AV) (st : St) : acall T X 33 [v0, v1] st = go T X F33 st.length [.code F33_c] [(0, v0), (1, v1)] st := acall_go T33 (X_none (by decide) _ _) rfl
theorem e34 (v0 v1 v2 : AV) (st : St) : acall T X 34 [v0, v1, v2] st = go T X F34 st.length [.code F34_c] [(0, v0), (1, v1), (2, v2)] st := acall_go T34 (X_none (by decide) _ _) rfl
theorem e30 (v0 v1 : AV) (st : St) : acall T X 30 [v0, v1] st = go T X F30 st.length [.code F30_c] [(0, v0), (1, v1)] st := acall_go T30 (X_none (by decide) _ _) rfl
theorem e35 (v0 v1 : AV) (st : St) : acall T X 35 [v0, v1] st = go T X F35 st.length [.code F35_c] [(0, v0), (1, v1)] st := acall_go T35 (X_none (by decide) _ _) rfl
theorem e36 (v0 v1 v2 v3 : AV) (st : St) : acall T X 36 [v0, v1, v2, v3] st = go T X F36 st.length [.code F36_c] [(0, v0), (1, v1), (2, v2), (3, v3)] st := acall_go T36 (X_none (by decide) _ _) rfl
theorem e37 (v0 v1 v2 : AV) (st : St) : acall T X 37 [v0, v1, v2] st = go T X F37 st.length [.code F37_c] [(0, v0), (1, v1), (2, v2)] st := acall_go T37 (X_none (by decide) _ _) rfl
theorem e77 (v0 v1 : AV) (st : St) : acall T X 77 [v0, v1] st = go T X F77 st.length [.code F77_c] [(0, v0), (1, v1)] st := acall_go T77 (X_none (by decide) _ _) rfl
theorem e99 (v0 v1 : AV) (st : St) : acall T X 99 [v0, v1] st = go T X F99 st.length [.code F99_c] [(0, v0), (1, v1)] st := acall_go T99 (X_none (by decide) _ _) rfl
theorem e100 (v0 v1 : AV) (st : St) : acall T X 100 [v0, v1] st = go T X F100 st.length [.code F100_c] [(0, v0), (1, v1)] st := acall_go T100 (X_none (by decide) _ _) rfl
theorem e101 (v0 v1 v2 : AV) (st : St) : acall T X 101 [v0, v1, v2] st = go T X F101 st.length [.code F101_c] [(0, v0), (1, v1), (2, v2)] st := acall_go T101 (X_none (by decide) _ _) rfl
theorem e39 (v0 v1 v2 : AV) (st : St) : acall T X 39 [v0, v1, v2] st = go T X F39 st.length [.code F39_c] [(0, v0), (1, v1), (2, v2)] st := acall_go T39 (X_none (by decide) _ _) rfl
theorem e41 (v0 : AV) (st : St) : acall T X 41 [v0] st = go T X F41 st.length [.code F41_c] [(0, v0)] st := acall_go T41 (X_none (by decide) _ _) rfl
theorem e42 (v0 v1 : AV) (st : St) : acall T X 42 [v0, v1] st = go T X F42 st.length [.code F42_c] [(0, v0), (1, v1)] st := acall_go T42 (X_none (by decide) _ _) rfl
theorem e46 (v0 v1 v2 : AV) (st : St) : acall T X 46 [v0, v1, v2] st = go T X F46 st.length [.code F46_c] [(0, v0), (1, v1), (2, v2)] st := acall_go T46 (X_none (by decide) _ _) rfl
theorem e47 (v0 v1 : AV) (st : St) : acall T X 47 [v0, v1] st = go T X F47 st.length [.code F47_c] [(0, v0), (1, v1)] st := acall_go T47 (X_none (by decide) _ _) rfl
theorem e48 (v0 v1 : AV) (st : St) : acall T X 48 [v0, v1] st = go T X F48 st.length [.code F48_c] [(0, v0), (1, v1)] st := acall_go T48 (X_none (by decide) _ _) rfl
theorem e40 (v0 : AV) (st : St) : acall T X 40 [v0] st = go T X F40 st.length [.code F40_c] [(0, v0)] st := acall_go T40 (X_none (by decide) _ _) rfl
theorem e43 (v0 v1 v2 : AV) (st : St) : acall T X 43 [v0, v1, v2] st = go T X F43 st.length [.code F43_c] [(0, v0), (1, v1), (2, v2)] st := acall_go T43 (X_none (by decide) _ _) rfl
theorem e44 (v0 v1 v2 : AV) (st : St) : acall T X 44 [v0, v1, v2] st = go T X F44 st.length [.code F44_c] [(0, v0), (1, v1), (2, v2)] st := acall_go T44 (X_none (by decide) _ _) rfl
theorem e102 (v0 v1 : AV) (st : St) : acall T X 102 [v0, v1] st = go T X F102 st.length [.code F102_c] [(0, v0), (1, v1)] st := acall_go T102 (X_none (by decide) _ _) rfl
theorem e103 (v0 v1 : AV) (st : St) : acall T X 103 [v0, v1] st = go T X F103 st.length [.code F103_c] [(0, v0), (1, v1)] st := acall_go T103 (X_none (by decide) _ _) rfl
theorem e104 (v0 : AV) (st : St) : acall T X 104 [v0] st = go T X F104 st.length [.code F104_c] [(0, v0)] st := acall_go T104 (X_none (by decide) _ _) rfl
theorem e105 (v0 v1 : AV) (st : St) : acall T X 105 [v0, v1] st = go T X F105 st.length [.code F105_c] [(0, v0), (1, v1)] st := acall_go T105 (X_none (by decide) _ _) rfl
theorem e49 (v0 v1 : AV) (st : St) : acall T X 49 [v0, v1] st = go T X F49 st.length [.code F49_c] [(0, v0), (1, v1)] st := acall_go T49 (X_none (by decide) _ _) rfl
theorem e51 (v0 v1 : AV) (st : St) : acall T X 51 [v0, v1] st = go T X F51 st.length [.code F51_c] [(0, v0), (1, v1)] st := acall_go T51 (X_none (by decide) _ _) rfl
theorem e50 (v0 v1 : AV) (st : St) : acall T X 50 [v0, v1] st = go T X F50 st.length [.code F50_c] [(0, v0), (1, v1)] st := acall_go T50 (X_none (by decide) _ _) rfl
theorem e52 (v0 v1 v2 : AV) (st : St) : acall T X 52 [v0, v1, v2] st = go T X F52 st.length [.code F52_c] [(0, v0), (1, v1), (2, v2)] st := acall_go T52 (X_none (by decide) _ _) rfl
theorem e53 (v0 v1 v2 v3 : AV) (st : St) : acall T X 53 [v0, v1, v2, v3] st = go T X F53 st.length [.code F53_c] [(0, v0), (1, v1), (2, v2), (3, v3)] st := acall_go T53 (X_none (by decide) _ _) rfl
theorem e54 (v0 v1 v2 : AV) (st : St) : acall T X 54 [v0, v1, v2] st = go T X F54 st.length [.code F54_c] [(0, v0), (1, v1), (2, v2)] st := acall_go T54 (X_none (by decide) _ _) rfl
theorem e55 (v0 v1 v2 v3 : AV) (st : St) : acall T X 55 [v0, v1, v2, v3] st = go T X F55 st.length [.code F55_c] [(0, v0), (1, v1), (2, v2), (3, v3)] st := acall_go T55 (X_none (by decide) _ _) rfl
theorem e79 (v0 v1 : AV) (st : St) : acall T X 79 [v0, v1] st = go T X F79 st.length [.code F79_c] [(0, v0), (1, v1)] st := acall_go T79 (X_none (by decide) _ _) rfl
theorem e106 (v0 v1 : AV) (st : St) : acall T X 106 [v0, v1] st = go T X F106 st.length [.code F106_c] [(0, v0), (1, v1)] st := acall_go T106 (X_none (by decide) _ _) rfl
theorem e107 (v0 v1 v2 : AV) (st : St) : acall T X 107 [v0, v1, v2] st = go T X F107 st.length [.code F107_c] [(0, v0), (1, v1), (2, v2)] st := acall_go T107 (X_none (by decide) _ _) rfl
theorem e108 (v0 v1 : AV) (st : St) : acall T X 108 [v0, v1] st = go T X F108 st.length [.code F108_c] [(0, v0), (1, v1)] st := acall_go T108 (X_none (by decide) _ _) rfl
theorem e109 (v0 v1 : AV) (st : St) : acall T X 109 [v0, v1] st = go T X F109 st.length [.code F109_c] [(0, v0), (1, v1)] st := acall_go T109 (X_none (by decide) _ _) rfl
theorem e57 (v0 : AV) (st : St) : acall T X 57 [v0] st = go T X F57 st.length [.code F57_c] [(0, v0)] st := acall_go T57 (X_none (by decide) _ _) rfl
theorem e58 (v0 v1 : AV) (st : St) : acall T X 58 [v0, v1] st = go T X F58 st.length [.code F58_c] [(0, v0), (1, v1)] st := acall_go T58 (X_none (by decide) _ _) rfl
theorem e59 (v0 v1 : AV) (st : St) : acall T X 59 [v0, v1] st = go T X F59 st.length [.code F59_c] [(0, v0), (1, v1)] st := acall_go T59 (X_none (by decide) _ _) rfl
theorem e60 (v0 v1 : AV) (st : St) : acall T X 60 [v0, v1] st = go T X F60 st.length [.code F60_c] [(0, v0), (1, v1)] st := acall_go T60 (X_none (by decide) _ _) rfl
theorem e61 (v0 v1 v2 : AV) (st : St) : acall T X 61 [v0, v1, v2] st = go T X F61 st.length [.code F61_c] [(0, v0), (1, v1), (2, v2)] st := acall_go T61 (X_none (by decide) _ _) rfl
theorem e110 (v0 v1 : AV) (st : St) : acall T X 110 [v0, v1] st = go T X F110 st.length [.code F110_c] [(0, v0), (1, v1)] st := acall_go T110 (X_none (by decide) _ _) rfl
theorem e111 (v0 v1 : AV) (st : St) : acall T X 111 [v0, v1] st = go T X F111 st.length [.code F111_c] [(0, v0), (1, v1)] st := acall_go T111 (X_none (by decide) _ _) rfl
theorem e64 (v0 v1 v2 : AV) (st : St) : acall T X 64 [v0, v1, v2] st = go T X F64 st.length [.code F64_c] [(0, v0), (1, v1), (2, v2)] st := acall_go T64 (X_none (by decide) _ _) rfl
theorem e65 (v0 : AV) (st : St) : acall T X 65 [v0] st = go T X F65 st.length [.code F65_c] [(0, v0)] st := acall_go T65 (X_none (by decide) _ _) rfl
theorem e66 (v0 : AV) (st : St) : acall T X 66 [v0] st = go T X F66 st.length [.code F66_c] [(0, v0)] st := acall_go T66 (X_none (by decide) _ _) rfl
theorem e67 (v0 v1 v2 : AV) (st : St) : acall T X 67 [v0, v1, v2] st = go T X F67 st.length [.code F67_c] [(0, v0), (1, v1), (2, v2)] st := acall_go T67 (X_none (by decide) _ _) rfl
theorem e68 (v0 v1 v2 : AV) (st : St) : acall T X 68 [v0, v1, v2] st = go T X F68 st.length [.code F68_c] [(0, v0), (1, v1), (2, v2)] st := acall_go T68 (X_none (by decide) _ _) rfl
theorem e69 (v0 v1 v2 v3 : AV) (st : St) : acall T X 69 [v0, v1, v2, v3] st = go T X F69 st.length [.code F69_c] [(0, v0), (1, v1), (2, v2), (3, v3)] st := acall_go T69 (X_none (by decide) _ _) rfl
theorem e70 (v0 : AV) (st : St) : acall T X 70 [v0] st = go T X F70 st.length [.code F70_c] [(0, v0)] st := acall_go T70 (X_none (by decide) _ _) rfl
theorem e71 (v0 v1 : AV) (st : St) : acall T X 71 [v0, v1] st = go T X F71 st.length [.code F71_c] [(0, v0), (1, v1)] st := acall_go T71 (X_none (by decide) _ _) rfl
theorem e72 (v0 v1 v2 v3 : AV) (st : St) : acall T X 72 [v0, v1, v2, v3] st = go T X F72 st.length [.code F72_c] [(0, v0), (1, v1), (2, v2), (3, v3)] st := acall_go T72 (X_none (by decide) _ _) rfl
theorem e73 (v0 v1 v2 : AV) (st : St) : acall T X 73 [v0, v1, v2] st = go T X F73 st.length [.code F73_c] [(0, v0), (1, v1), (2, v2)] st := acall_go T73 (X_none (by decide) _ _) rfl
theorem e112 (v0 v1 v2 : AV) (st : St) : acall T X 112 [v0, v1, v2] st = go T X F112 st.length [.code F112_c] [(0, v0), (1, v1), (2, v2)] st := acall_go T112 (X_none (by decide) _ _) rfl
theorem e114 (v0 v1 v2 : AV) (st : St) : acall T X 114 [v0, v1, v2] st = go T X F114 st.length [.code F114_c] [(0, v0), (1, v1), (2, v2)] st := acall_go T114 (X_none (by decide) _ _) rfl
theorem e115 (v0 v1 v2 : AV) (st : St) : acall T X 115 [v0, v1, v2] st = go T X F115 st.length [.code F115_c] [(0, v0), (1, v1), (2, v2)] st := acall_go T115 (X_none (by decide) _ _) rfl
theorem e62 (v0 v1 : AV) (st : St) : acall T X 62 [v0, v1] st = go T X F62 st.length [.code F62_c] [(0, v0), (1, v1)] st := acall_go T62 (X_none (by decide) _ _) rfl
theorem e63 (v0 v1 v2 : AV) (st : St) : acall T X 63 [v0, v1, v2] st = go T X F63 st.length [.code F63_c] [(0, v0), (1, v1), (2, v2)] st := acall_go T63 (X_none (by decide) _ _) rfl
theorem e116 (v0 : AV) (st : St) : acall T X 116 [v0] st = go T X F116 st.length [.code F116_c] [(0, v0)] st := acall_go T116 (X_none (by decide) _ _) rfl
theorem e117 (v0 v1 : AV) (st : St) : acall T X 117 [v0, v1] st = go T X F117 st.length [.code F117_c] [(0, v0), (1, v1)] st := acall_go T117 (X_none (by decide) _ _) rfl
theorem e75 (v0 : AV) (st : St) : acall T X 75 [v0] st = go T X F75 st.length [.code F75_c] [(0, v0)] st := acall_go T75 (X_none (by decide) _ _) rfl
theorem e118 (v0 v1 v2 : AV) (st : St) : acall T X 118 [v0, v1, v2] st = go T X F118 st.length [.code F118_c] [(0, v0), (1, v1), (2, v2)] st := acall_go T118 (X_none (by decide) _ _) rfl
theorem e119 (v0 : AV) (st : St) : acall T X 119 [v0] st = go T X F119 st.length [.code F119_c] [(0, v0)] st := acall_go T119 (X_none (by decide) _ _) rfl
theorem e120 (v0 v1 : AV) (st : St) : acall T X 120 [v0, v1] st = go T X F120 st.length [.code F120_c] [(0, v0), (1, v1)] st := acall_go T120 (X_none (by decide) _ _) rfl
theorem e121 (v0 v1 v2 : AV) (st : St) : acall T X 121 [v0, v1, v2] st = go T X F121 st.length [.code F121_c] [(0, v0), (1, v1), (2, v2)] st := acall_go T121 (X_none (by decide) _ _) rfl
theorem e122 (v0 v1 : AV) (st : St) : acall T X 122 [v0, v1] st = go T X F122 st.length [.code F122_c] [(0, v0), (1, v1)] st := acall_go T122 (X_none (by decide) _ _) rfl
end Go.Proofs.YtplgdddfhjpojaaGreat.AM

namespace Go.Proofs.YtplgdddfhjpojaaGreat.AM
open Go

/-- The bits of a below k. -/
def cutK (a : BitVec 64) : Nat → BitVec 64
  | 0 => 0#64
  | k + 1 => cutK a k ||| (a &&& sll 1#64 k)

theorem c6_loop (a : BitVec 64) (wide : Nat) (hw : wide < 1000) (K : List AT) : ∀ (n k : Nat) (z : Int) (A : BitVec 64), k + n = wide → z = k → A = cutK a k →
    go T X F6 0 (.inLoop [(0, .keep), (1, .keep), (5, .keep), (6, .keep)] F6_l0 :: .inBlock 0 :: K) [(0, .d (.int .i64 wide)), (1, .d (.w a)), (5, .d (.w A)), (6, .d (.int .i64 z))] [] =
    go T X F6 0 K [(0, .d (.int .i64 wide)), (1, .d (.w a)), (5, .d (.w (cutK a wide))), (6, .d (.int .i64 wide)), (9, .d (.bool false))] [] := by
  intro n
  induction n with
  | zero =>
    intro k z A hk hz hA
    obtain rfl : k = wide := by omega
    subst hz hA
    rw [go_inLoop]
    simp [F6_b0]
  | succ n ih =>
    intro k z A hk hz hA
    subst hz hA
    rw [go_inLoop]
    have : k < wide := by omega
    have h3 : (ofI k).toNat = k := by rw [ofI, BitVec.toNat_ofInt]; omega
    simp [F6_b0, *]
    rw [ih (k + 1) _ _ (by omega) _ (by simp [cutK])]
    rw [wr_id] <;> omega

theorem c6 (a : BitVec 64) (wide : Nat) (hw : wide < 1000) : acall T X 6 [.d (.int .i64 wide), .d (.w a)] [] = some (.d (.w (cutK a wide)), []) := by
  simp [e6, F6_c]
  rw [c6_loop a wide hw _ wide 0 _ _ (by omega) (by rfl) (by rfl)]
  simp [F6_t0]
  simp [fin, F6]

end Go.Proofs.YtplgdddfhjpojaaGreat.AM

namespace Go.Proofs.YtplgdddfhjpojaaGreat.AM
open Go

/-- A cursor: its bytes, its place, its seed. -/
def cur (l : List (BitVec 8)) (a : Nat) (s : BitVec 64) : AO := .box [.d (.sl (l.map fun b => [.u b])), .d (.int .i64 a), .d (.w s)]

section
variable (l : List (BitVec 8)) (a : Nat) (s : BitVec 64) (st : St)
@[simp] theorem renO_cur (g : Nat → Option Nat) : renO g (cur l a s) = cur l a s := by simp [cur]
@[simp] theorem hOfO_cur : hOfO (cur l a s) = [] := by simp [cur]

theorem and255 (x : BitVec 64) : 0 ≤ toI (x &&& 255#64) ∧ toI (x &&& 255#64) < 256 := by
  have h : (x &&& 255#64).toNat ≤ 255 := by
    rw [BitVec.toNat_and]; exact Nat.and_le_right
  rw [toI, BitVec.toInt_eq_toNat_cond]
  omega

theorem c2 (ha : a < 4611686018427387904) : Ev (acall T X 2 [.ptr 0 0 0 0] [cur l a s]) fun r => ∃ v s', r = (.d (.int .i64 v), [cur l (a + 1) s']) ∧ 0 ≤ v ∧ v < 256 := by
  have hw : wr ((a : Int) + 1) = (a : Int) + 1 := by rw [wr_id] <;> omega
  by_cases h1 : a < l.length
  · have hb := (l[a]).isLt
    have h2 : (a : Int) + 1 ≤ l.length := by omega
    simp [e2, F2_c, F2_t0, cur, h1, hw, h2]
    simp [fin, F2]
    omega
  · have h2 : ¬ (a : Int) + 1 ≤ l.length := by omega
    simp [e2, F2_c, F2_t0, cur, h1, hw, h2]
    simp [fin, F2]
    exact and255 _

/-- What a draw gives: the cursor goes on by k places at most. -/
def DrQ (l : List (BitVec 8)) (a k : Nat) (R : AV → List AO → Prop) (r : AV × St) : Prop := ∃ v a' s' os, r = (v, cur l a' s' :: os) ∧ a' ≤ a + k ∧ R v os
def Dr (f : Nat) (as : List AV) (k : Nat) (R : AV → List AO → Prop) : Prop := ∀ (l : List (BitVec 8)) (a : Nat) (s : BitVec 64), a + k < 4611686018427387904 →
  Ev (acall T X f (.ptr 0 0 0 0 :: as) [cur l a s]) (DrQ l a k R)

theorem DrQ.mk {l : List (BitVec 8)} {a a' k : Nat} {s' : BitVec 64} {R : AV → List AO → Prop} {v : AV} {os : List AO} (h : a' ≤ a + k) (hr : R v os) : DrQ l a k R (v, cur l a' s' :: os) := ⟨_, _, _, _, rfl, h, hr⟩

/-- A number between bounds; a truth value; a word; data. -/
def NumIn (lo hi : Int) (v : AV) (os : List AO) : Prop := ∃ n : Int, v = .d (.int .i64 n) ∧ lo ≤ n ∧ n < hi ∧ os = []
def IsBool (v : AV) (os : List AO) : Prop := ∃ b : Bool, v = .d (.bool b) ∧ os = []
def IsW (v : AV) (os : List AO) : Prop := ∃ x : BitVec 64, v = .d (.w x) ∧ os = []
def OneOf (ns : List Int) (v : AV) (os : List AO) : Prop := ∃ n ∈ ns, v = .d (.int .i64 n) ∧ os = []

/-- Arguments that are data, no nil slice among them. -/
def plain1 : AV → Bool
  | .d .nil => false
  | .d _ => true
  | _ => false
def plainL : List AV → Bool
  | [] => true
  | v :: vs => plain1 v && plainL vs

theorem plain_brw {st : St} : ∀ {vs : List AV}, plainL vs = true → brwA st [] vs = some (vs, []) ∧ hOfL vs = [] ∧ ∀ g, renL g vs = vs
  | [], _ => ⟨rfl, rfl, fun _ => rfl⟩
  | v :: vs, h => by
    simp only [plainL, Bool.and_eq_true] at h
    obtain ⟨g1, g2, g3⟩ := plain_brw (st := st) h.2
    cases v with
    | d x =>
      have hb : brw st (.d x) = some (.d x, []) := by
        cases x with
        | nil => simp [plain1] at h
        | _ => rfl
      refine ⟨?_, by simp [hOfL, hOf, g2], fun g => by simp [renL, ren, g3]⟩
      simp only [brwA, List.headD_nil, Bool.false_eq_true, if_false, List.tail_nil, hb, g1]
      rfl
    | _ => simp [plain1] at h

theorem mcall_cur {C : Orc} {f : Nat} {as : List AV} {a' : Nat} {s' : BitVec 64} {v : AV} {os : List AO} (h : C f (.ptr 0 0 0 0 :: as) [cur l a s] = some (v, cur l a' s' :: os)) (hp : plainL as = true) {k : Nat} (hk : st[k]? = some (cur l a s)) :
    mcall C false [] f (.ptr k 0 0 0 :: as) st = some (ren (back [k] st.length) v, st.set k (cur l a' s') ++ renS (back [k] st.length) os) := by
  obtain ⟨g1, g2, g3⟩ := plain_brw (st := st) hp
  simp [mcall, g1, g2, g3, h, hk]

theorem mcall_cur1 {C : Orc} {f sz k n : Nat} {es : List (List D)} {a' : Nat} {s' : BitVec 64} {v : AV} {os : List AO} (h : C f [.ptr 0 0 0 0, .d (.sl es)] [cur l a s] = some (v, cur l a' s' :: os)) {c : Nat} (hc : st[c]? = some (cur l a s)) (hk : st[k]? = some (.arr sz es true)) (hn : n = es.length) :
    mcall C false [] f [.ptr c 0 0 0, .hs k sz 0 n] st = some (ren (back [c] st.length) v, (st.set k (.arr sz es false)).set c (cur l a' s') ++ renS (back [c] st.length) os) := by
  subst hn
  have hkc : k ≠ c := by
    rintro rfl
    rw [hc] at hk; simp [cur] at hk
  have h1 : (st.set k (.arr sz es false))[c]? = some (cur l a s) := by rw [List.getElem?_set_ne hkc]; exact hc
  simp [mcall, hk, h, h1]

section
variable {f : Nat} {as : List AV} {k : Nat} {R : AV → List AO → Prop} {lo hi : Int} {ns : List Int} (l : List (BitVec 8)) (a : Nat) (s : BitVec 64) (hp : plainL as = true) (hb : a + k < 4611686018427387904)
include hb
theorem Dr.get (h : Dr f as k R) : ∃ v a' s' os, acall T X f (.ptr 0 0 0 0 :: as) [cur l a s] = some (v, cur l a' s' :: os) ∧ a' ≤ a + k ∧ R v os := by
  obtain ⟨r, h1, v, a', s', os, rfl, h2, h3⟩ := h l a s hb
  exact ⟨v, a', s', os, h1, h2, h3⟩
include hp
theorem Dr.num (h : Dr f as k (NumIn lo hi)) : ∃ n a' s', (∀ (st : St) (k : Nat), st[k]? = some (cur l a s) → mcall (acall T X) false [] f (.ptr k 0 0 0 :: as) st = some (.d (.int .i64 n), st.set k (cur l a' s'))) ∧ a' ≤ a + k ∧ lo ≤ n ∧ n < hi := by
  obtain ⟨v, a', s', os, h1, h2, n, rfl, h3, h4, rfl⟩ := h.get l a s hb
  exact ⟨n, a', s', fun st k hk => by rw [mcall_cur l a s st h1 hp hk]; simp, h2, h3, h4⟩
theorem Dr.bool (h : Dr f as k IsBool) : ∃ b a' s', (∀ (st : St) (k : Nat), st[k]? = some (cur l a s) → mcall (acall T X) false [] f (.ptr k 0 0 0 :: as) st = some (.d (.bool b), st.set k (cur l a' s'))) ∧ a' ≤ a + k := by
  obtain ⟨v, a', s', os, h1, h2, n, rfl, rfl⟩ := h.get l a s hb
  exact ⟨n, a', s', fun st k hk => by rw [mcall_cur l a s st h1 hp hk]; simp, h2⟩
theorem Dr.word (h : Dr f as k IsW) : ∃ x a' s', (∀ (st : St) (k : Nat), st[k]? = some (cur l a s) → mcall (acall T X) false [] f (.ptr k 0 0 0 :: as) st = some (.d (.w x), st.set k (cur l a' s'))) ∧ a' ≤ a + k := by
  obtain ⟨v, a', s', os, h1, h2, n, rfl, rfl⟩ := h.get l a s hb
  exact ⟨n, a', s', fun st k hk => by rw [mcall_cur l a s st h1 hp hk]; simp, h2⟩
theorem Dr.one (h : Dr f as k (OneOf ns)) : ∃ n a' s', (∀ (st : St) (k : Nat), st[k]? = some (cur l a s) → mcall (acall T X) false [] f (.ptr k 0 0 0 :: as) st = some (.d (.int .i64 n), st.set k (cur l a' s'))) ∧ a' ≤ a + k ∧ n ∈ ns := by
  obtain ⟨v, a', s', os, h1, h2, n, h3, rfl, rfl⟩ := h.get l a s hb
  exact ⟨n, a', s', fun st k hk => by rw [mcall_cur l a s st h1 hp hk]; simp, h2, h3⟩
end

theorem dr_next : Dr 2 [] 1 (NumIn 0 256) := by
  intro l a s ha
  refine (c2 l a s (by omega)).mono ?_
  rintro r ⟨v, s', rfl, h1, h2⟩
  exact DrQ.mk (by omega) ⟨v, rfl, h1, h2, rfl⟩

theorem dr_pick (n : Int) (hn : n < 4611686018427387904) : Dr 3 [.d (.int .i64 n)] 2 (NumIn 0 (max 1 n)) := by
  intro l a s ha
  by_cases h1 : n ≤ 1
  · simp [e3, F3_c, F3_t0, h1]
    simp [fin, F3]
    exact DrQ.mk (by omega) ⟨0, rfl, by omega, by omega, rfl⟩
  · have hn0 : n ≠ 0 := by omega
    have hm0 : ∀ z : Int, 0 ≤ z → 0 ≤ z.tmod n ∧ z.tmod n < max 1 n := fun z hz => by
      rw [Int.tmod_eq_emod_of_nonneg hz]
      have := Int.emod_nonneg z hn0
      have := Int.emod_lt_of_pos z (show 0 < n by omega)
      omega
    obtain ⟨x, a1, s1, g1, g2, g3, g4⟩ := dr_next.num l a s (by rfl) (by omega)
    by_cases h2 : 200 < n
    · obtain ⟨y, a2, s2, g5, g6, g7, g8⟩ := dr_next.num l a1 s1 (by rfl) (by omega)
      have hm : wr (x * 256) = x * 256 := by rw [wr_id] <;> omega
      have hw : wr (x * 256 + y) = x * 256 + y := by rw [wr_id] <;> omega
      simp [e3, F3_c, F3_t0, h1, g1, h2, g5, hm, hw, hn0]
      simp [fin, F3]
      exact DrQ.mk (by omega) ⟨_, rfl, (hm0 _ (by omega)).1, (hm0 _ (by omega)).2, rfl⟩
    · simp [e3, F3_c, F3_t0, h1, g1, h2, hn0]
      simp [fin, F3]
      exact DrQ.mk (by omega) ⟨_, rfl, (hm0 _ (by omega)).1, (hm0 _ (by omega)).2, rfl⟩

theorem dr_one (n : Int) (hn : n < 4611686018427387904) : Dr 5 [.d (.int .i64 n)] 2 IsBool := by
  intro l a s ha
  obtain ⟨x, a1, s1, g1, g2, g3, g4⟩ := (dr_pick n hn).num l a s (by rfl) (by omega)
  simp [e5, F5_c, g1]
  simp [fin, F5]
  exact DrQ.mk (by omega) ⟨_, rfl, rfl⟩

/-- A list of numbers as a slice. -/
def ints (ns : List Int) : List (List D) := ns.map fun n => [.int .i64 n]

theorem among (ns : List Int) (h0 : ns ≠ []) (hl : ns.length < 1000) (ha : a + 2 < 4611686018427387904) :
    ∃ n a' s', acall T X 4 [.ptr 0 0 0 0, .d (.sl (ints ns))] [cur l a s] = some (.d (.int .i64 n), [cur l a' s']) ∧ a' ≤ a + 2 ∧ n ∈ ns := by
  have hp : 0 < ns.length := List.length_pos_iff.2 h0
  obtain ⟨x, a1, s1, g1, g2, g3, g4⟩ := (dr_pick ns.length (by omega)).num l a s (by rfl) (by omega)
  have hx : x.toNat < ns.length := by omega
  refine ⟨ns[x.toNat], a1, s1, ?_, g2, List.getElem_mem hx⟩
  simp [e4, F4_c, ints, g1, g3, hx]
  simp [fin, F4]

/-- A choice among numbers that lie in a slice of one's own. -/
theorem dr_among (ns : List Int) (h0 : ns ≠ []) (hl : ns.length < 1000) (ha : a + 2 < 4611686018427387904) :
    ∃ n a' s', (∀ k m st c, st[c]? = some (cur l a s) → st[k]? = some (.arr 1 (ints ns) true) → m = ns.length → mcall (acall T X) false [] 4 [.ptr c 0 0 0, .hs k 1 0 m] st = some (.d (.int .i64 n), (st.set k (.arr 1 (ints ns) false)).set c (cur l a' s'))) ∧ a' ≤ a + 2 ∧ n ∈ ns := by
  obtain ⟨n, a', s', h, h1, h2⟩ := among l a s ns h0 hl ha
  refine ⟨n, a', s', fun k m st c hc hk hm => ?_, h1, h2⟩
  rw [mcall_cur1 l a s st h hc hk (by simp [hm, ints])]
  simp

theorem dr_long : Dr 10 [] 8 IsW := by
  intro l a s ha
  have loop : ∀ (n k : Nat) (z : Int) (x : BitVec 64) (a' : Nat) (s' : BitVec 64), k + n = 8 → z = k → a' ≤ a + k →
      Ev (go T X F10 1 [.inLoop [(0, .keep), (3, .keep), (4, .keep)] F10_l0, .inBlock 0, .code (.kp [(3, .keep)] F10_t0)] [(0, .ptr 0 0 0 0), (3, .d (.w x)), (4, .d (.int .i64 z))] [cur l a' s']) (DrQ l a 8 IsW) := by
    intro n
    induction n with
    | zero =>
      intro k z x a' s' hk hz ha'
      subst hz
      obtain rfl : k = 8 := by omega
      rw [go_inLoop]
      simp [F10_b0, F10_t0]
      simp [fin, F10]
      exact DrQ.mk (by omega) ⟨_, rfl, rfl⟩
    | succ n ih =>
      intro k z x a' s' hk hz ha'
      subst hz
      obtain ⟨y, a1, s1, g1, g2, g3, g4⟩ := dr_next.num l a' s' (by rfl) (by omega)
      have h1 : (k : Int) < 8 := by omega
      rw [go_inLoop]
      simp [F10_b0, g1, h1]
      apply ih (k + 1)
      · omega
      · rw [wr_id] <;> omega
      · omega
  simp [e10, F10_c]
  apply loop 8 0
  · omega
  · rfl
  · omega

theorem dr_word (wide : Nat) (hw : wide < 1000) : Dr 11 [.d (.int .i64 wide)] 20 IsW := by
  intro l a s ha
  obtain ⟨x0, a0, s0, h0, h01, h02, h03⟩ := (dr_pick 5 (by omega)).num l a s (by rfl) (by omega)
  obtain ⟨x1, a1, s1, h1, h11, h12, h13⟩ := (dr_pick 5 (by omega)).num l a0 s0 (by rfl) (by omega)
  have tail : ∀ (x : BitVec 64) (a' : Nat) (s' : BitVec 64), a' ≤ a + 12 → Ev (go T X F11 1 [.code F11_t0] [(0, .ptr 0 0 0 0), (1, .d (.int .i64 wide)), (5, .d (.w x))] [cur l a' s']) (DrQ l a 20 IsW) := by
    intro x a' s' h
    obtain ⟨b, a2, s2, h2, h21⟩ := (dr_one 30 (by omega)).bool l a' s' (by rfl) (by omega)
    cases b
    · simp [F11_t0, h2, c6 _ _ hw]
      simp [fin, F11]
      exact DrQ.mk (by omega) ⟨_, rfl, rfl⟩
    · simp [F11_t0, h2]
      simp [fin, F11]
      exact DrQ.mk (by omega) ⟨_, rfl, rfl⟩
  by_cases q0 : x1 = 0
  · obtain ⟨y, a2, s2, h2, h21⟩ := dr_long.word l a1 s1 (by rfl) (by omega)
    simp [e11, F11_c, h0, h1, q0, h2]
    apply tail; omega
  by_cases q1 : x1 = 1
  · obtain ⟨y, a2, s2, h2, h21, _⟩ := (dr_pick 3 (by omega)).num l a1 s1 (by rfl) (by omega)
    simp [e11, F11_c, h0, h1, q1, h2]
    apply tail; omega
  by_cases q2 : x1 = 2
  · obtain ⟨y, a2, s2, h2, h21, _⟩ := (dr_pick 64 (by omega)).num l a1 s1 (by rfl) (by omega)
    simp [e11, F11_c, h0, h1, q2, h2]
    apply tail; omega
  simp [e11, F11_c, h0, h1, q0, q1, q2]
  apply tail; omega

theorem dr_width : Dr 75 [] 2 (OneOf [1, 2, 3, 4, 8, 16, 32, 63, 64, 0, 65]) := by
  intro l a s ha
  obtain ⟨n, a1, s1, h, h1, h2⟩ := dr_among l a s [1, 2, 3, 4, 8, 16, 32, 63, 64, 0, 65] (by simp) (by simp) (by omega)
  simp only [ints, List.map] at h
  simp [e75, F75_c, h]
  simp [fin, F75]
  exact DrQ.mk (by omega) ⟨_, h2, rfl, rfl⟩

/-- An interval. -/
def span (lo hi : BitVec 64) : AV := .agg [.d (.w lo), .d (.w hi)]
def IsSpan (v : AV) (os : List AO) : Prop := ∃ lo hi : BitVec 64, v = span lo hi ∧ os = []

theorem dr_span (wide : Nat) (hw : wide < 1000) : Dr 12 [.d (.int .i64 wide)] 44 IsSpan := by
  intro l a s ha
  obtain ⟨x, a0, s0, h0, h01⟩ := (dr_word wide hw).word l a s (by rfl) (by omega)
  obtain ⟨y, a1, s1, h1, h11⟩ := (dr_word wide hw).word l a0 s0 (by rfl) (by omega)
  obtain ⟨b, a2, s2, h2, h21⟩ := (dr_one 3 (by omega)).bool l a1 s1 (by rfl) (by omega)
  have tail : ∀ y : BitVec 64, Ev (go T X F12 1 [.code F12_t1] [(0, .ptr 0 0 0 0), (4, .ptr 1 0 0 0), (5, .ptr 2 0 0 0)] [cur l a2 s2, .box [.d (.w 0#64), .d (.w 0#64)], .box [.d (.w x), .d (.w y)]]) (DrQ l a 44 IsSpan) := by
    intro y
    by_cases hxy : y < x
    · obtain ⟨c, a3, s3, h3, h31⟩ := (dr_one 30 (by omega)).bool l a2 s2 (by rfl) (by omega)
      cases c
      · simp [F12_t1, h3, hxy]
        simp [F12_t0]
        simp [fin, F12]
        exact DrQ.mk (by omega) ⟨_, _, rfl, rfl⟩
      · simp [F12_t1, h3, hxy]
        simp [F12_t0]
        simp [fin, F12]
        exact DrQ.mk (by omega) ⟨_, _, rfl, rfl⟩
    · simp [F12_t1, hxy]
      simp [F12_t0]
      simp [fin, F12]
      exact DrQ.mk (by omega) ⟨_, _, rfl, rfl⟩
  cases b
  · simp [e12, F12_c, h0, h1, h2]
    exact tail _
  · simp [e12, F12_c, h0, h1, h2]
    exact tail _
end
end Go.Proofs.YtplgdddfhjpojaaGreat.AM

namespace Go.Proofs.YtplgdddfhjpojaaGreat.AM
open Go

/-- A node of a term: its cells. -/
def node (op : Int) (n : BitVec 64) : List D := [.int .i64 op, .w n]
def nodeV (x : Int × BitVec 64) : List D := node x.1 x.2

/-- An own slice of at most k nodes. -/
def OwnT (k : Nat) (v : AV) (os : List AO) : Prop := ∃ t : List (Int × BitVec 64), v = .hs 1 2 0 t.length ∧ os = [.arr 2 (t.map nodeV) true] ∧ 1 ≤ t.length ∧ t.length ≤ k

theorem Dr.ownT {f : Nat} {as : List AV} {k m : Nat} (h : Dr f as k (OwnT m)) (l : List (BitVec 8)) (a : Nat) (s : BitVec 64) (hp : plainL as = true) (hb : a + k < 4611686018427387904) :
    ∃ (t : List (Int × BitVec 64)) (a' : Nat) (s' : BitVec 64), (∀ (st : St) (k : Nat), st[k]? = some (cur l a s) → mcall (acall T X) false [] f (.ptr k 0 0 0 :: as) st = some (.hs st.length 2 0 t.length, st.set k (cur l a' s') ++ [.arr 2 (t.map nodeV) true])) ∧ a' ≤ a + k ∧ 1 ≤ t.length ∧ t.length ≤ m := by
  obtain ⟨v, a', s', os, h1, h2, t, rfl, rfl, h3, h4⟩ := h.get l a s hb
  exact ⟨t, a', s', fun st k hk => by rw [mcall_cur l a s st h1 hp hk]; simp, h2, h3, h4⟩

def numK : Nat → Nat
  | 0 => 10
  | d + 1 => 20 + 2 * numK d
def numL : Nat → Nat
  | 0 => 1
  | d + 1 => 1 + 2 * numL d

set_option maxHeartbeats 1000000 in
theorem dr_number (wide : Nat) (hw : wide < 1000) (vars : Int) (hv : vars < 1000) : ∀ d : Nat, d ≤ 4 → Dr 7 [.d (.int .i64 wide), .d (.int .i64 vars), .d (.int .i64 d)] (numK d) (OwnT (numL d)) := by
  intro d
  induction d with
  | zero =>
    intro _ l a s ha
    simp only [numK] at ha
    obtain ⟨b, a1, s1, h1, h11⟩ := (dr_one 2 (by omega)).bool l a s (by rfl) (by omega)
    cases b
    · obtain ⟨x, a2, s2, h2, h21, _⟩ := (dr_pick vars (by omega)).num l a1 s1 (by rfl) (by omega)
      simp [e7, F7_c, h1, h2]
      simp [fin, F7]
      exact DrQ.mk (by simp only [numK]; omega) ⟨[(2, ofI x)], rfl, rfl, by simp, by simp [numL]⟩
    · obtain ⟨x, a2, s2, h2, h21, _⟩ := (dr_pick 9 (by omega)).num l a1 s1 (by rfl) (by omega)
      simp [e7, F7_c, h1, h2, c6 _ _ hw]
      simp [fin, F7]
      exact DrQ.mk (by simp only [numK]; omega) ⟨[(1, cutK (ofI x) wide)], rfl, rfl, by simp, by simp [numL]⟩
  | succ d ih =>
    intro hd l a s ha
    have ih := ih (by omega)
    have hL1 : numL d ≤ 31 := by
      have : d = 0 ∨ d = 1 ∨ d = 2 ∨ d = 3 := by omega
      rcases this with rfl | rfl | rfl | rfl <;> simp [numL]
    simp only [numK] at ha
    have hd1 : ¬ ((d : Int) + 1 = 0) := by omega
    have hd2 : wr (d : Int) = d := by rw [wr_id] <;> omega
    obtain ⟨b0, a0, s0, h0, h01⟩ := (dr_one 4 (by omega)).bool l a s (by rfl) (by omega)
    cases b0
    · obtain ⟨b1, a1, s1, h1, h11⟩ := (dr_one 7 (by omega)).bool l a0 s0 (by rfl) (by omega)
      obtain ⟨t, a2, s2, h2, h21, h22, h23⟩ := ih.ownT l a1 s1 (by rfl) (by omega)
      have g1 : t.length ≤ maxApp := by simp only [maxApp]; omega
      have g2 : t.length + 1 ≤ maxApp := by simp only [maxApp]; omega
      cases b1
      · obtain ⟨u, a3, s3, h3, h31, h32, h33⟩ := ih.ownT l a2 s2 (by rfl) (by omega)
        obtain ⟨n, a4, s4, h4, h41, _⟩ := dr_among l a3 s3 [3, 3, 3, 4, 4, 5, 8, 9, 10] (by simp) (by simp) (by omega)
        obtain ⟨b5, a5, s5, h5, h51⟩ := (dr_one 6 (by omega)).bool l a4 s4 (by rfl) (by omega)
        simp only [ints, List.map] at h4
        have g3 : t.length + u.length ≤ maxApp := by simp only [maxApp]; omega
        have g4 : t.length + u.length + 1 ≤ maxApp := by simp only [maxApp]; omega
        have tail : ∀ (n : Int) (a' : Nat) (s' : BitVec 64), a' ≤ a + 20 + 2 * numK d → Ev (go T X F7 1 [.code F7_t0] [(9, .hs 1 2 0 (t.length + u.length)), (10, .d (.int .i64 n))] [cur l a' s', .arr 2 (t.map nodeV ++ u.map nodeV) true]) (DrQ l a (numK (d + 1)) (OwnT (numL (d + 1)))) := by
          intro n a' s' h
          simp [F7_t0, g4]
          simp [fin, F7]
          exact DrQ.mk (by simp only [numK]; omega) ⟨t ++ u ++ [(n, 0#64)], by simp [Nat.add_assoc], by simp [nodeV, node], by simp; omega, by simp [numL]; omega⟩
        cases b5
        · simp [e7, F7_c, h0, h1, h2, h3, h4, h5, hd1, hd2, g3]
          apply tail; omega
        · obtain ⟨n', a6, s6, h6, h61, _⟩ := dr_among l a5 s5 [6, 7, 11, 12] (by simp) (by simp) (by omega)
          simp only [ints, List.map] at h6
          simp [e7, F7_c, h0, h1, h2, h3, h4, h5, h6, hd1, hd2, g3]
          apply tail; omega
      · simp [e7, F7_c, h0, h1, h2, hd1, hd2, g2]
        simp [fin, F7]
        exact DrQ.mk (by simp only [numK]; omega) ⟨t ++ [(13, 0#64)], by simp, by simp [nodeV, node], by simp, by simp [numL]; omega⟩
    · obtain ⟨b, a1, s1, h1, h11⟩ := (dr_one 2 (by omega)).bool l a0 s0 (by rfl) (by omega)
      cases b
      · obtain ⟨x, a2, s2, h2, h21, _⟩ := (dr_pick vars (by omega)).num l a1 s1 (by rfl) (by omega)
        simp [e7, F7_c, h0, h1, h2, hd1]
        simp [fin, F7]
        exact DrQ.mk (by simp only [numK]; omega) ⟨[(2, ofI x)], rfl, rfl, by simp, by simp [numL]⟩
      · obtain ⟨x, a2, s2, h2, h21, _⟩ := (dr_pick 9 (by omega)).num l a1 s1 (by rfl) (by omega)
        simp [e7, F7_c, h0, h1, h2, c6 _ _ hw, hd1]
        simp [fin, F7]
        exact DrQ.mk (by simp only [numK]; omega) ⟨[(1, cutK (ofI x) wide)], rfl, rfl, by simp, by simp [numL]⟩

theorem OwnT.le {k m : Nat} (h : k ≤ m) {v : AV} {os : List AO} (hv : OwnT k v os) : OwnT m v os := by
  obtain ⟨t, h1, h2, h3, h4⟩ := hv; exact ⟨t, h1, h2, h3, by omega⟩
theorem Dr.weaken {f : Nat} {as : List AV} {k k' : Nat} {R R' : AV → List AO → Prop} (h : Dr f as k R) (hk : k ≤ k') (hR : ∀ v os, R v os → R' v os) : Dr f as k' R' := by
  intro l a s ha
  refine (h l a s (by omega)).mono ?_
  rintro r ⟨v, a', s', os, rfl, h1, h2⟩
  exact DrQ.mk (by omega) (hR _ _ h2)

def askK : Nat → Nat
  | 0 => 120
  | d + 1 => 120 + 2 * askK d
def askL : Nat → Nat
  | 0 => 7
  | d + 1 => 1 + 2 * askL d

theorem dr_number01 (wide : Nat) (hw : wide < 1000) (vars : Int) (hv : vars < 1000) (n : Int) (h0 : 0 ≤ n) (h1 : n < 2) : Dr 7 [.d (.int .i64 wide), .d (.int .i64 vars), .d (.int .i64 n)] 40 (OwnT 3) := by
  obtain ⟨k, rfl⟩ : ∃ k : Nat, n = k := ⟨n.toNat, by omega⟩
  have hk : k = 0 ∨ k = 1 := by omega
  rcases hk with rfl | rfl
  · exact (dr_number wide hw vars hv 0 (by omega)).weaken (by simp [numK]) (fun _ _ => OwnT.le (by simp [numL]))
  · exact (dr_number wide hw vars hv 1 (by omega)).weaken (by simp [numK]) (fun _ _ => OwnT.le (by simp [numL]))

set_option maxHeartbeats 1000000 in
theorem dr_asked (wide : Nat) (hw : wide < 1000) (vars : Int) (hv : vars < 1000) : ∀ d : Nat, d ≤ 3 → Dr 8 [.d (.int .i64 wide), .d (.int .i64 vars), .d (.int .i64 d)] (askK d) (OwnT (askL d)) := by
  intro d
  induction d with
  | zero =>
    intro _ l a s ha
    simp only [askK] at ha
    obtain ⟨b, a0, s0, h0, h01⟩ := (dr_one 20 (by omega)).bool l a s (by rfl) (by omega)
    cases b
    · obtain ⟨t, a1, s1, h1, h11, h12, h13⟩ := (dr_number01 wide hw vars hv 1 (by omega) (by omega)).ownT l a0 s0 (by rfl) (by omega)
      obtain ⟨n, a2, s2, h2, h21, h22, h23⟩ := (dr_pick 2 (by omega)).num l a1 s1 (by rfl) (by omega)
      obtain ⟨u, a3, s3, h3, h31, h32, h33⟩ := (dr_number01 wide hw vars hv n h22 (by omega)).ownT l a2 s2 (by rfl) (by omega)
      obtain ⟨m, a4, s4, h4, h41, _⟩ := dr_among l a3 s3 [14, 15, 15, 16] (by simp) (by simp) (by omega)
      simp only [ints, List.map] at h4
      have g3 : t.length + u.length ≤ maxApp := by simp only [maxApp]; omega
      have g4 : t.length + u.length + 1 ≤ maxApp := by simp only [maxApp]; omega
      simp [e8, F8_c, h0, h1, h2, h3, h4, g3, g4]
      simp [fin, F8]
      exact DrQ.mk (by simp only [askK]; omega) ⟨t ++ u ++ [(m, 0#64)], by simp [Nat.add_assoc], by simp [nodeV, node], by simp; omega, by simp [askL]; omega⟩
    · obtain ⟨x, a2, s2, h2, h21, _⟩ := (dr_pick 2 (by omega)).num l a0 s0 (by rfl) (by omega)
      simp [e8, F8_c, h0, h2]
      simp [fin, F8]
      exact DrQ.mk (by simp only [askK]; omega) ⟨[(20, ofI x)], rfl, rfl, by simp, by simp [askL]⟩
  | succ d ih =>
    intro hd l a s ha
    have ih := ih (by omega)
    have hL1 : askL d ≤ 100 := by
      have : d = 0 ∨ d = 1 ∨ d = 2 := by omega
      rcases this with rfl | rfl | rfl <;> simp [askL]
    have hL2 : 7 ≤ askL (d + 1) := by
      have : d = 0 ∨ d = 1 ∨ d = 2 := by omega
      rcases this with rfl | rfl | rfl <;> simp [askL]
    simp only [askK] at ha
    have hd1 : (0 : Int) < (d : Int) + 1 := by omega
    have hd2 : wr (d : Int) = d := by rw [wr_id] <;> omega
    obtain ⟨b, a0, s0, h0, h01⟩ := (dr_one 20 (by omega)).bool l a s (by rfl) (by omega)
    cases b
    · obtain ⟨b1, a1, s1, h1, h11⟩ := (dr_one 4 (by omega)).bool l a0 s0 (by rfl) (by omega)
      cases b1
      · obtain ⟨b2, a2, s2, h2, h21⟩ := (dr_one 2 (by omega)).bool l a1 s1 (by rfl) (by omega)
        cases b2
        · obtain ⟨t, a3, s3, h3, h31, h32, h33⟩ := (dr_number01 wide hw vars hv 1 (by omega) (by omega)).ownT l a2 s2 (by rfl) (by omega)
          obtain ⟨n, a4, s4, h4, h41, h42, h43⟩ := (dr_pick 2 (by omega)).num l a3 s3 (by rfl) (by omega)
          obtain ⟨u, a5, s5, h5, h51, h52, h53⟩ := (dr_number01 wide hw vars hv n h42 (by omega)).ownT l a4 s4 (by rfl) (by omega)
          obtain ⟨m, a6, s6, h6, h61, _⟩ := dr_among l a5 s5 [14, 15, 15, 16] (by simp) (by simp) (by omega)
          simp only [ints, List.map] at h6
          have g3 : t.length + u.length ≤ maxApp := by simp only [maxApp]; omega
          have g4 : t.length + u.length + 1 ≤ maxApp := by simp only [maxApp]; omega
          simp [e8, F8_c, h0, h1, h2, h3, h4, h5, h6, g3, g4, hd1]
          simp [fin, F8]
          exact DrQ.mk (by simp only [askK]; omega) ⟨t ++ u ++ [(m, 0#64)], by simp [Nat.add_assoc], by simp [nodeV, node], by simp; omega, by simp; omega⟩
        · obtain ⟨t, a3, s3, h3, h31, h32, h33⟩ := ih.ownT l a2 s2 (by rfl) (by omega)
          obtain ⟨u, a5, s5, h5, h51, h52, h53⟩ := ih.ownT l a3 s3 (by rfl) (by omega)
          obtain ⟨m, a6, s6, h6, h61, _⟩ := dr_among l a5 s5 [17, 18] (by simp) (by simp) (by omega)
          simp only [ints, List.map] at h6
          have g3 : t.length + u.length ≤ maxApp := by simp only [maxApp]; omega
          have g4 : t.length + u.length + 1 ≤ maxApp := by simp only [maxApp]; omega
          simp [e8, F8_c, h0, h1, h2, h3, h5, h6, g3, g4, hd1, hd2]
          simp [fin, F8]
          exact DrQ.mk (by simp only [askK]; omega) ⟨t ++ u ++ [(m, 0#64)], by simp [Nat.add_assoc], by simp [nodeV, node], by simp; omega, by simp [askL]; omega⟩
      · obtain ⟨t, a3, s3, h3, h31, h32, h33⟩ := ih.ownT l a1 s1 (by rfl) (by omega)
        have g2 : t.length + 1 ≤ maxApp := by simp only [maxApp]; omega
        simp [e8, F8_c, h0, h1, h3, g2, hd1, hd2]
        simp [fin, F8]
        exact DrQ.mk (by simp only [askK]; omega) ⟨t ++ [(19, 0#64)], by simp, by simp [nodeV, node], by simp, by simp [askL]; omega⟩
    · obtain ⟨x, a2, s2, h2, h21, _⟩ := (dr_pick 2 (by omega)).num l a0 s0 (by rfl) (by omega)
      simp [e8, F8_c, h0, h2]
      simp [fin, F8]
      exact DrQ.mk (by simp only [askK]; omega) ⟨[(20, ofI x)], rfl, rfl, by simp, by simp; omega⟩
end Go.Proofs.YtplgdddfhjpojaaGreat.AM

namespace Go.Proofs.YtplgdddfhjpojaaGreat.AM
open Go

def tsl (t : List (Int × BitVec 64)) : D := .sl (t.map nodeV)
def IsTerm (v : AV) (os : List AO) : Prop := ∃ (wide : Nat) (vars : Int) (t : List (Int × BitVec 64)), v = .tup [.d (.int .i64 wide), .d (.int .i64 vars), .d (tsl t)] ∧ wide ≤ 64 ∧ 0 ≤ vars ∧ vars ≤ 5 ∧ t.length ≤ 31 ∧ os = []

/-- An interval's cells. -/
def spanC (x : BitVec 64 × BitVec 64) : List D := [.w x.1, .w x.2]
def ssl (l : List (BitVec 64 × BitVec 64)) : D := .sl (l.map spanC)
def IsSpans (n : Nat) (v : AV) (os : List AO) : Prop := ∃ ss : List (BitVec 64 × BitVec 64), v = .d (ssl ss) ∧ ss.length = n ∧ os = []

theorem Dr.span {f : Nat} {as : List AV} {k : Nat} (h : Dr f as k IsSpan) (l : List (BitVec 8)) (a : Nat) (s : BitVec 64) (hp : plainL as = true) (hb : a + k < 4611686018427387904) :
    ∃ x y a' s', (∀ (st : St) (k : Nat), st[k]? = some (cur l a s) → mcall (acall T X) false [] f (.ptr k 0 0 0 :: as) st = some (.agg [.d (.w x), .d (.w y)], st.set k (cur l a' s'))) ∧ a' ≤ a + k := by
  obtain ⟨v, a', s', os, h1, h2, x, y, rfl, rfl⟩ := h.get l a s hb
  exact ⟨x, y, a', s', fun st k hk => by rw [mcall_cur l a s st h1 hp hk]; simp [AM.span], h2⟩

theorem dr_spans (wide : Nat) (hw : wide < 1000) (vars : Nat) (hv : vars < 1000) : Dr 13 [.d (.int .i64 wide), .d (.int .i64 vars)] (44 * vars) (IsSpans vars) := by
  intro l a s ha
  have loop : ∀ (n : Nat) (z : Int) (ss : List (BitVec 64 × BitVec 64)) (a' : Nat) (s' : BitVec 64), ss.length + n = vars → z = ss.length → a' ≤ a + 44 * ss.length →
      Ev (go T X F13 1 [.code F13_b0, .inLoop [(0, .keep), (1, .keep), (2, .keep), (7, .ow 2), (8, .keep)] F13_l0, .inBlock 0, .code (.kp [(7, .keep)] F13_t0)] [(0, .ptr 0 0 0 0), (1, .d (.int .i64 wide)), (2, .d (.int .i64 vars)), (7, .hs 1 2 0 ss.length), (8, .d (.int .i64 z))] [cur l a' s', .arr 2 (ss.map spanC) true]) (DrQ l a (44 * vars) (IsSpans vars)) := by
    intro n
    induction n with
    | zero =>
      intro z ss a' s' hk hz ha'
      subst hz
      have : ss.length = vars := by omega
      simp [F13_b0, F13_t0, this]
      simp [fin, F13, this]
      exact DrQ.mk (by subst this; exact ha') ⟨ss, rfl, this, rfl⟩
    | succ n ih =>
      intro z ss a' s' hk hz ha'
      subst hz
      obtain ⟨x, y, a1, s1, g1, g2⟩ := (dr_span wide hw).span l a' s' (by rfl) (by omega)
      have h1 : ss.length < vars := by omega
      have h2 : ss.length + 1 ≤ maxApp := by simp only [maxApp]; omega
      have := ih (wr ((ss.length : Int) + 1)) (ss ++ [(x, y)]) a1 s1 (by simp; omega) (by rw [wr_id (by omega) (by omega)]; simp) (by simp; omega)
      simp [spanC] at this
      simp [F13_b0, g1, h1, h2]
      rw [go_inLoop]
      simp
      exact this
  simp [e13, F13_c]
  rw [go_inLoop]
  simp
  exact loop vars 0 [] a s (by simp) (by simp) (by simp)
end Go.Proofs.YtplgdddfhjpojaaGreat.AM

namespace Go.Proofs.YtplgdddfhjpojaaGreat.AM
open Go

/-- The bytes of an argument. -/
def bytesD (l : List (BitVec 8)) : D := .sl (l.map fun b => [.u b])

theorem Dr.terms {f : Nat} {as : List AV} {k : Nat} (h : Dr f as k IsTerm) (l : List (BitVec 8)) (a : Nat) (s : BitVec 64) (hp : plainL as = true) (hb : a + k < 4611686018427387904) :
    ∃ (wide vars : Nat) (t : List (Int × BitVec 64)) (a' : Nat) (s' : BitVec 64), (∀ (st : St) (k : Nat), st[k]? = some (cur l a s) → mcall (acall T X) false [] f (.ptr k 0 0 0 :: as) st = some (.tup [.d (.int .i64 wide), .d (.int .i64 vars), .d (tsl t)], st.set k (cur l a' s'))) ∧ a' ≤ a + k ∧ wide ≤ 64 ∧ vars ≤ 5 ∧ t.length ≤ 31 := by
  obtain ⟨v, a', s', os, h1, h2, wide, vars, t, rfl, h3, h4, h5, h6, rfl⟩ := h.get l a s hb
  obtain ⟨k, rfl⟩ : ∃ k : Nat, vars = k := ⟨vars.toNat, by omega⟩
  exact ⟨wide, k, t, a', s', fun st k hk => by rw [mcall_cur l a s st h1 hp hk]; simp, h2, h3, by omega, h6⟩

theorem Dr.spans {f : Nat} {as : List AV} {k n : Nat} (h : Dr f as k (IsSpans n)) (l : List (BitVec 8)) (a : Nat) (s : BitVec 64) (hp : plainL as = true) (hb : a + k < 4611686018427387904) :
    ∃ (ss : List (BitVec 64 × BitVec 64)) (a' : Nat) (s' : BitVec 64), (∀ (st : St) (k : Nat), st[k]? = some (cur l a s) → mcall (acall T X) false [] f (.ptr k 0 0 0 :: as) st = some (.d (ssl ss), st.set k (cur l a' s'))) ∧ a' ≤ a + k ∧ ss.length = n := by
  obtain ⟨v, a', s', os, h1, h2, ss, rfl, h3, rfl⟩ := h.get l a s hb
  exact ⟨ss, a', s', fun st k hk => by rw [mcall_cur l a s st h1 hp hk]; simp, h2, h3⟩

theorem cur_new (l : List (BitVec 8)) : AO.box [.d (.sl (l.map fun b => [.u b])), .d (.int .i64 0), .d (.w 0#64)] = cur l 0 0#64 := rfl

end Go.Proofs.YtplgdddfhjpojaaGreat.AM

namespace Go.Proofs.YtplgdddfhjpojaaGreat.AM
open Go

theorem cutK_bit (a : BitVec 64) : ∀ (k i : Nat), (cutK a k).getLsbD i = (a.getLsbD i && decide (i < k))
  | 0, i => by simp [cutK]
  | k + 1, i => by
    simp only [cutK, BitVec.getLsbD_or, BitVec.getLsbD_and, cutK_bit a k i, sll, BitVec.getLsbD_shiftLeft]
    by_cases h1 : i < k
    · have : i < k + 1 := by omega
      simp [h1, this]
    · by_cases h2 : i = k
      · subst h2
        cases ha : a.getLsbD i with
        | false => simp
        | true =>
          have : i < 64 := by
            rcases Nat.lt_or_ge i 64 with h | h
            · exact h
            · rw [BitVec.getLsbD_of_ge a i h] at ha; cases ha
          simp [this]
      · have h3 : ¬ i < k + 1 := by omega
        have h4 : i - k ≠ 0 := by omega
        simp [h1, h3, h4, BitVec.getLsbD_one]

/-- The lower bits. -/
theorem cutK_toNat (a : BitVec 64) (k : Nat) : (cutK a k).toNat = a.toNat % 2 ^ k := by
  apply Nat.eq_of_testBit_eq
  intro i
  have := cutK_bit a k i
  rw [BitVec.getLsbD, BitVec.getLsbD] at this
  rw [this, Nat.testBit_mod_two_pow, Bool.and_comm]

/-- A good word of a width. -/
def gw (wide : Int) (a : BitVec 64) : Bool := decide (1 ≤ wide) && (decide (wide ≤ 64) && decide (a.toNat < 2 ^ wide.toNat))

theorem c18 (n : Int) : acall T X 18 [.d (.int .i64 n)] [] = some (.d (.bool (decide (1 ≤ n) && decide (n ≤ 64))), []) := by
  by_cases h : 1 ≤ n
  · simp [e18, F18_c, h]
    simp [fin, F18]
  · simp [e18, F18_c, h]
    simp [fin, F18]
theorem c15 (n : Int) : acall T X 15 [.d (.int .i64 n)] [] = some (.d (.bool (decide (1 ≤ n) && decide (n ≤ 4))), []) := by
  by_cases h : 1 ≤ n
  · simp [e15, F15_c, h]
    simp [fin, F15]
  · simp [e15, F15_c, h]
    simp [fin, F15]
theorem c39 (n lo hi : Int) : acall T X 39 [.d (.int .i64 n), .d (.int .i64 lo), .d (.int .i64 hi)] [] = some (.d (.bool (decide (lo ≤ n) && decide (n ≤ hi))), []) := by
  by_cases h : lo ≤ n
  · simp [e39, F39_c, h]
    simp [fin, F39]
  · simp [e39, F39_c, h]
    simp [fin, F39]
theorem c41 (n : Int) : acall T X 41 [.d (.int .i64 n)] [] = some (.d (.bool (decide (1 ≤ n) && decide (n ≤ 64))), []) := by
  simp [e41, F41_c, c39]
  simp [fin, F41]

/-- The greatest word of a width. -/
def maskW (wide : Int) : BitVec 64 := srl 18446744073709551615#64 (64 - wide).toNat
theorem c19 (n : Int) (h1 : -1000 ≤ n) (h : n ≤ 64) : acall T X 19 [.d (.int .i64 n)] [] = some (.d (.w (maskW n)), []) := by
  have hw : wr (64 - n) = 64 - n := by rw [wr_id] <;> omega
  have h0 : ¬ 64 - n < 0 := by omega
  simp [e19, F19_c, hw, h0]
  simp [fin, F19, maskW]

theorem maskW_toNat {n : Int} (h1 : 1 ≤ n) (h : n ≤ 64) : (maskW n).toNat = 2 ^ n.toNat - 1 := by
  obtain ⟨k, rfl⟩ : ∃ k : Nat, n = k := ⟨n.toNat, by omega⟩
  have hk : k ≤ 64 := by omega
  have e : ((64 : Int) - k).toNat = 64 - k := by omega
  simp only [maskW, srl, e, BitVec.toNat_ushiftRight, Nat.shiftRight_eq_div_pow, Int.toNat_natCast]
  have e2 : (2 : Nat) ^ 64 = 2 ^ k * 2 ^ (64 - k) := by rw [← Nat.pow_add]; congr 1; omega
  have hp : 0 < 2 ^ (64 - k) := Nat.two_pow_pos _
  have hq : 0 < 2 ^ k := Nat.two_pow_pos _
  show 18446744073709551615 / 2 ^ (64 - k) = 2 ^ k - 1
  rw [show (18446744073709551615 : Nat) = 2 ^ 64 - 1 from rfl, e2]
  rw [Nat.div_eq_iff hp]
  constructor
  · have : (2 ^ k - 1) * 2 ^ (64 - k) + 2 ^ (64 - k) = 2 ^ k * 2 ^ (64 - k) := by
      rw [← Nat.succ_mul]; congr 1; omega
    omega
  · have : (2 ^ k - 1) * 2 ^ (64 - k) + 2 ^ (64 - k) = 2 ^ k * 2 ^ (64 - k) := by
      rw [← Nat.succ_mul]; congr 1; omega
    omega

theorem le_mask {n : Int} (h1 : 1 ≤ n) (h : n ≤ 64) (a : BitVec 64) : a ≤ maskW n ↔ a.toNat < 2 ^ n.toNat := by
  rw [BitVec.le_def, maskW_toNat h1 h]
  have : 0 < 2 ^ n.toNat := Nat.two_pow_pos _
  omega

theorem c20 (n : Int) (a : BitVec 64) : acall T X 20 [.d (.int .i64 n), .d (.w a)] [] = some (.d (.bool (gw n a)), []) := by
  by_cases h1 : 1 ≤ n
  · by_cases h2 : n ≤ 64
    · simp [e20, F20_c, c18, h1, h2, c19 n (by omega) h2]
      simp [fin, F20, gw, h1, h2, le_mask h1 h2]
    · simp [e20, F20_c, c18, h1, h2]
      simp [fin, F20, gw, h1, h2]
  · simp [e20, F20_c, c18, h1]
    simp [fin, F20, gw, h1]

theorem cut_eq {n : Int} (a : BitVec 64) : (cutK a n.toNat = a) ↔ a.toNat < 2 ^ n.toNat := by
  constructor
  · intro h
    have := congrArg BitVec.toNat h
    rw [cutK_toNat] at this
    rw [← this]
    exact Nat.mod_lt _ (Nat.two_pow_pos _)
  · intro h
    apply BitVec.eq_of_toNat_eq
    rw [cutK_toNat, Nat.mod_eq_of_lt h]

theorem c42 (n : Int) (a : BitVec 64) : acall T X 42 [.d (.int .i64 n), .d (.w a)] [] = some (.d (.bool (gw n a)), []) := by
  by_cases h1 : 1 ≤ n
  · by_cases h2 : n ≤ 64
    · obtain ⟨k, rfl⟩ : ∃ k : Nat, n = k := ⟨n.toNat, by omega⟩
      have hc := cut_eq (n := (k : Int)) a
      simp only [Int.toNat_natCast] at hc
      simp [e42, F42_c, c41, h1, h2, c6 a k (by omega)]
      simp [fin, F42, gw, h1, h2, ← hc]
      rfl
    · simp [e42, F42_c, c41, h1, h2]
      simp [fin, F42, gw, h1, h2]
  · simp [e42, F42_c, c41, h1]
    simp [fin, F42, gw, h1]
end Go.Proofs.YtplgdddfhjpojaaGreat.AM

namespace Go.Proofs.YtplgdddfhjpojaaGreat.AM
open Go

/-- How many operands, of which kind, and the own kind. -/
def many (op : Int) : Int := if op = 13 ∨ op = 19 then 1 else if 3 ≤ op ∧ op ≤ 12 ∨ 14 ≤ op ∧ op ≤ 18 then 2 else 0
def part (op : Int) : Int := if 3 ≤ op ∧ op ≤ 16 then 1 else if 17 ≤ op ∧ op ≤ 19 then 2 else 0
def partS (op : Int) : Int := if op = 1 ∨ op = 2 then 1 else if op = 20 then 2 else part op
def ownK (op : Int) : Int := if 1 ≤ op ∧ op ≤ 13 then 1 else if 14 ≤ op ∧ op ≤ 20 then 2 else 0

theorem ops_cases (op : Int) : op = 1 ∨ op = 2 ∨ op = 3 ∨ op = 4 ∨ op = 5 ∨ op = 6 ∨ op = 7 ∨ op = 8 ∨ op = 9 ∨ op = 10 ∨ op = 11 ∨ op = 12 ∨ op = 13 ∨ op = 14 ∨ op = 15 ∨ op = 16 ∨ op = 17 ∨ op = 18 ∨ op = 19 ∨ op = 20 ∨ (op < 1 ∨ 20 < op) := by omega

theorem c24_out (op : Int) (h : op < 1 ∨ 20 < op) : acall T X 24 [.d (.int .i64 op)] [] = some (.tup [.d (.int .i64 0), .d (.int .i64 0), .d (.int .i64 0)], []) := by
  have h1 : op ≠ 1 := by omega
  have h2 : op ≠ 2 := by omega
  have h3 : op ≠ 20 := by omega
  have h4 : op ≠ 13 := by omega
  have h5 : op ≠ 19 := by omega
  have h6 : op ≠ 17 := by omega
  have h7 : op ≠ 18 := by omega
  rcases h with h | h
  · have h8 : ¬ 3 ≤ op := by omega
    have h9 : ¬ 14 ≤ op := by omega
    simp [e24, F24_c, h1, h2, h3, h4, h5, h6, h7, h8, h9]
    simp [fin, F24]
  · have h8 : ¬ op ≤ 12 := by omega
    have h9 : ¬ op ≤ 16 := by omega
    have h10 : 3 ≤ op := by omega
    have h11 : 14 ≤ op := by omega
    simp [e24, F24_c, h1, h2, h3, h4, h5, h6, h7, h8, h9, h10, h11]
    simp [fin, F24]

theorem c24 (op : Int) : acall T X 24 [.d (.int .i64 op)] [] = some (.tup [.d (.int .i64 (many op)), .d (.int .i64 (part op)), .d (.int .i64 (ownK op))], []) := by
  rcases ops_cases op with rfl | rfl | rfl | rfl | rfl | rfl | rfl | rfl | rfl | rfl | rfl | rfl | rfl | rfl | rfl | rfl | rfl | rfl | rfl | rfl | h
  case inr.inr.inr.inr.inr.inr.inr.inr.inr.inr.inr.inr.inr.inr.inr.inr.inr.inr.inr.inr =>
    rw [c24_out op h]
    have h1 : many op = 0 := by unfold many; split <;> (try split) <;> omega
    have h2 : part op = 0 := by unfold part; split <;> (try split) <;> omega
    have h3 : ownK op = 0 := by unfold ownK; split <;> (try split) <;> omega
    rw [h1, h2, h3]
  all_goals
    simp [e24, F24_c]
    simp [fin, F24, many, part, ownK]

theorem c40_out (op : Int) (h : op < 1 ∨ 20 < op) : acall T X 40 [.d (.int .i64 op)] [] = some (.tup [.d (.int .i64 0), .d (.int .i64 0), .d (.int .i64 0)], []) := by
  have h1 : op ≠ 1 := by omega
  have h2 : op ≠ 2 := by omega
  have h3 : op ≠ 20 := by omega
  have h4 : op ≠ 13 := by omega
  have h5 : op ≠ 19 := by omega
  have h6 : op ≠ 17 := by omega
  have h7 : op ≠ 18 := by omega
  rcases h with h | h
  · have h8 : ¬ 3 ≤ op := by omega
    have h9 : ¬ 14 ≤ op := by omega
    simp [e40, F40_c, c39, h1, h2, h3, h4, h5, h6, h7, h8, h9]
    simp [fin, F40]
  · have h8 : ¬ op ≤ 12 := by omega
    have h9 : ¬ op ≤ 16 := by omega
    have h10 : 3 ≤ op := by omega
    have h11 : 14 ≤ op := by omega
    simp [e40, F40_c, c39, h1, h2, h3, h4, h5, h6, h7, h8, h9, h10, h11]
    simp [fin, F40]

theorem c40 (op : Int) : acall T X 40 [.d (.int .i64 op)] [] = some (.tup [.d (.int .i64 (many op)), .d (.int .i64 (partS op)), .d (.int .i64 (ownK op))], []) := by
  rcases ops_cases op with rfl | rfl | rfl | rfl | rfl | rfl | rfl | rfl | rfl | rfl | rfl | rfl | rfl | rfl | rfl | rfl | rfl | rfl | rfl | rfl | h
  case inr.inr.inr.inr.inr.inr.inr.inr.inr.inr.inr.inr.inr.inr.inr.inr.inr.inr.inr.inr =>
    rw [c40_out op h]
    have h1 : many op = 0 := by unfold many; split <;> (try split) <;> omega
    have h2 : partS op = 0 := by unfold partS part; (repeat' split) <;> omega
    have h3 : ownK op = 0 := by unfold ownK; split <;> (try split) <;> omega
    rw [h1, h2, h3]
  all_goals
    simp [e40, F40_c, c39]
    simp [fin, F40, many, partS, part, ownK]

/-- A leaf's number is as its operator asks. -/
def leafOk (wide vars : Int) (x : Int × BitVec 64) : Bool :=
  if x.1 = 1 then gw wide x.2 else if x.1 = 2 then decide (x.2 < ofI vars) else if x.1 = 20 then decide (x.2 ≤ 1#64) else x.2 == 0#64

theorem c25 (wide vars : Int) (x : Int × BitVec 64) : acall T X 25 [.d (.int .i64 wide), .d (.int .i64 vars), .agg [.d (.int .i64 x.1), .d (.w x.2)]] [] = some (.d (.bool (leafOk wide vars x)), []) := by
  by_cases h1 : x.1 = 1
  · simp [e25, F25_c, h1, c20]
    simp [fin, F25, leafOk, h1]
  by_cases h2 : x.1 = 2
  · simp [e25, F25_c, h2]
    simp [fin, F25, leafOk, h2]
  by_cases h3 : x.1 = 20
  · simp [e25, F25_c, h3]
    simp [fin, F25, leafOk, h3]
  simp [e25, F25_c, h1, h2, h3]
  simp [fin, F25, leafOk, h1, h2, h3]

theorem lt_two (x : BitVec 64) : x < 2#64 ↔ x ≤ 1#64 := by
  rw [BitVec.lt_def, BitVec.le_def]
  show x.toNat < 2 ↔ x.toNat ≤ 1
  omega

theorem c43 (wide vars : Int) (x : Int × BitVec 64) : acall T X 43 [.d (.int .i64 wide), .d (.int .i64 vars), .agg [.d (.int .i64 x.1), .d (.w x.2)]] [] = some (.d (.bool (leafOk wide vars x)), []) := by
  by_cases h1 : x.1 = 1
  · simp [e43, F43_c, h1, c42]
    simp [fin, F43, leafOk, h1]
  by_cases h2 : x.1 = 2
  · simp [e43, F43_c, h2]
    simp [fin, F43, leafOk, h2]
  by_cases h3 : x.1 = 20
  · simp [e43, F43_c, h3]
    simp [fin, F43, leafOk, h3, lt_two]
  simp [e43, F43_c, h1, h2, h3]
  simp [fin, F43, leafOk, h1, h2, h3]
end Go.Proofs.YtplgdddfhjpojaaGreat.AM

namespace Go.Proofs.YtplgdddfhjpojaaGreat.AM
open Go

/-- What a closure holds: data that stays where it is. -/
def CapOk (caps : List AV) : Prop := (∀ L, lendL L [] caps = some caps) ∧ hOfL caps = [] ∧ ∀ g, renL g caps = caps
theorem capOk_one (c : List D) : CapOk [.eptr c 0] := ⟨fun L => by simp, by simp, fun g => by simp⟩
theorem capOk_two (c d : List D) : CapOk [.eptr c 0, .eptr d 0] := ⟨fun L => by simp, by simp, fun g => by simp⟩

/-- The search for an element that a closure takes. -/
theorem index26 (g : Nat) (caps : List AV) (hk : CapOk caps) (p : Int → Bool) (hp : ∀ x, acall T X g (.d (.int .i64 x) :: caps) [] = some (.d (.bool (p x)), [])) (xs : List Int) (hl : xs.length < 1000000) :
    Ev (acall T X 26 [.d (.sl (ints xs)), .fn g caps] []) fun r => ∃ n : Int, r = (.d (.int .i64 n), []) ∧ (0 ≤ n ↔ xs.any p = true) := by
  obtain ⟨hc, hc2, hc3⟩ := hk
  have loop : ∀ (suf pre : List Int) (z : Int), xs = pre ++ suf → z = pre.length →
      Ev (go T X F26 0 [.code F26_b0, .inLoop [(0, .keep), (1, .keep), (7, .keep), (8, .keep)] F26_l0, .inBlock 0, .code (.kp [] F26_t0)] [(0, .d (.sl (ints xs))), (1, .fn g caps), (7, .d (.int .i64 xs.length)), (8, .d (.int .i64 z))] []) fun r => ∃ n : Int, r = (.d (.int .i64 n), []) ∧ (0 ≤ n ↔ suf.any p = true) := by
    intro suf
    induction suf with
    | nil =>
      intro pre z hx hz
      subst hz
      have : xs.length = pre.length := by simp [hx]
      simp [F26_b0, this, F26_t0]
      simp [fin, F26]
    | cons x suf ih =>
      intro pre z hx hz
      subst hz
      have h1 : pre.length < xs.length := by simp [hx]
      have h2 : xs[pre.length] = x := by simp [hx]
      cases hpx : p x with
      | true =>
        simp [F26_b0, h1, ints, h2, hc, hp, hpx]
        simp [fin, F26]
      | false =>
        have := ih (pre ++ [x]) (wr ((pre.length : Int) + 1)) (by simp [hx]) (by rw [wr_id (by omega) (by omega)]; simp)
        simp [ints] at this
        simp [F26_b0, h1, ints, h2, hc, hp, hpx]
        rw [go_inLoop]
        simp [hc2, hc3]
        exact this
  have := loop xs [] 0 rfl rfl
  simp [e26, F26_c, ints] at this ⊢
  rw [go_inLoop]
  simp [hc2, hc3]
  exact this

theorem contains27 (g : Nat) (caps : List AV) (hk : CapOk caps) (p : Int → Bool) (hp : ∀ x, acall T X g (.d (.int .i64 x) :: caps) [] = some (.d (.bool (p x)), [])) (xs : List Int) (hl : xs.length < 1000000) :
    acall T X 27 [.d (.sl (ints xs)), .fn g caps] [] = some (.d (.bool (xs.any p)), []) := by
  obtain ⟨r, h, n, rfl, hn⟩ := index26 g caps hk p hp xs hl
  obtain ⟨hc, hc2, hc3⟩ := hk
  have hb : decide (0 ≤ n) = xs.any p := by
    rw [Bool.eq_iff_iff]; simpa using hn
  simp [e27, F27_c, hc, h, hb]
  simp [fin, F27, hb]

theorem c28 (k x : Int) : acall T X 28 [.d (.int .i64 x), .eptr [.int .i64 k] 0] [] = some (.d (.bool (x != k)), []) := by
  simp [e28, F28_c]
  simp [fin, F28]

/-- One node onto the kinds of those ahead of it. -/
def kstep (wide vars : Int) (x : Int × BitVec 64) (stk : List Int) : Option (List Int) :=
  if ownK x.1 = 0 ∨ leafOk wide vars x = false ∨ (stk.length : Int) < many x.1 ∨ ((stk.drop (stk.length - (many x.1).toNat)).any (· != part x.1)) = true then none
  else some (stk.take (stk.length - (many x.1).toNat) ++ [ownK x.1])
def kfold (wide vars : Int) : List (Int × BitVec 64) → List Int → Option (List Int)
  | [], stk => some stk
  | x :: t, stk => match kstep wide vars x stk with
    | some stk' => kfold wide vars t stk'
    | none => none
def goodT (wide vars : Int) (t : List (Int × BitVec 64)) : Bool :=
  decide (1 ≤ wide) && decide (wide ≤ 64) && (decide (1 ≤ vars) && decide (vars ≤ 4)) && (decide (1 ≤ t.length) && decide (t.length ≤ 48)) && (match kfold wide vars t [] with | some stk => stk.length == 1 | none => false)

theorem many_cases (op : Int) : many op = 0 ∨ many op = 1 ∨ many op = 2 := by
  unfold many; split <;> (try split) <;> simp

theorem kstep_len {wide vars : Int} {x : Int × BitVec 64} {stk stk' : List Int} (h : kstep wide vars x stk = some stk') : stk'.length ≤ stk.length + 1 := by
  unfold kstep at h
  split at h
  · cases h
  · cases h; simp

set_option maxHeartbeats 1000000 in
theorem c29_loop (wide vars : Int) (t : List (Int × BitVec 64)) (ht : t.length ≤ 48) : ∀ (suf pre : List (Int × BitVec 64)) (z : Int) (stk : List Int), t = pre ++ suf → z = pre.length → stk.length ≤ pre.length →
    go T X F29 0 [.code F29_b0, .inLoop [(0, .keep), (1, .keep), (7, .ow 1), (33, .keep), (34, .keep), (35, .keep)] F29_l0, .inBlock 0, .code (.kp [(7, .keep)] F29_t0)]
      [(0, .d (.int .i64 wide)), (1, .d (.int .i64 vars)), (7, .hs 0 1 0 stk.length), (33, .d (tsl t)), (34, .d (.int .i64 t.length)), (35, .d (.int .i64 z))] [.arr 1 (ints stk) true] =
    some (.d (.bool (match kfold wide vars suf stk with | some stk => stk.length == 1 | none => false)), []) := by
  intro suf
  induction suf with
  | nil =>
    intro pre z stk hx hz hs
    subst hz
    have : t.length = pre.length := by simp [hx]
    have hl : ((stk.length : Int) == 1) = (stk.length == 1) := by
      rw [Bool.eq_iff_iff]; simp; omega
    simp [F29_b0, this, F29_t0, kfold, hl]
    simp [fin, F29]
  | cons x suf ih =>
    intro pre z stk hx hz hs
    subst hz
    have h1 : pre.length < t.length := by simp [hx]
    have h2 : t[pre.length] = x := by simp [hx]
    have hm := many_cases x.1
    have hw : wr ((stk.length : Int) - many x.1) = (stk.length : Int) - many x.1 := by rw [wr_id] <;> omega
    have hla := c25 wide vars x
    by_cases q1 : ownK x.1 = 0
    · simp [F29_b0, h1, tsl, h2, nodeV, node, c24, q1, hw]
      simp [fin, F29, kfold, kstep, q1]
    cases q2 : leafOk wide vars x with
    | false =>
      rw [q2] at hla
      simp [F29_b0, h1, tsl, h2, nodeV, node, c24, q1, hw, hla]
      simp [fin, F29, kfold, kstep, q1, q2]
    | true =>
    rw [q2] at hla
    by_cases q3 : (stk.length : Int) < many x.1
    · have q3' : (stk.length : Int) - many x.1 < 0 := by omega
      simp [F29_b0, h1, tsl, h2, nodeV, node, c24, q1, hw, hla, q3']
      simp [fin, F29, kfold, kstep, q1, q2, q3]
    have q3' : ¬ (stk.length : Int) - many x.1 < 0 := by omega
    have q3a : 0 ≤ (stk.length : Int) - many x.1 := by omega
    have q3b : (stk.length : Int) - many x.1 ≤ stk.length := by omega
    have q3c : ((stk.length : Int) - many x.1).toNat = stk.length - (many x.1).toNat := by omega
    have q3d : many x.1 ≤ (stk.length : Int) := by omega
    have q3e : stk.length - (many x.1).toNat + (stk.length - (stk.length - (many x.1).toNat)) ≤ stk.length := by omega
    have hct := contains27 28 [.eptr [.int .i64 (part x.1)] 0] (capOk_one _) (· != part x.1) (fun y => c28 _ y) (stk.drop (stk.length - (many x.1).toNat)) (by simp; omega)
    simp only [ints, List.map_drop] at hct
    cases q4 : (stk.drop (stk.length - (many x.1).toNat)).any (· != part x.1) with
    | true =>
      rw [q4] at hct
      simp [F29_b0, h1, tsl, h2, nodeV, node, c24, q1, hw, hla, q3', q3b, q3c, q3d, q3e, ints, hct]
      simp [fin, F29, kfold, kstep, q1, q2, q3, q4]
    | false =>
      rw [q4] at hct
      have q5 : stk.length - (many x.1).toNat + 1 ≤ maxApp := by simp only [maxApp]; omega
      have hk : kstep wide vars x stk = some (stk.take (stk.length - (many x.1).toNat) ++ [ownK x.1]) := by
        simp only [kstep]
        rw [if_neg]
        simp [q1, q2, q3, q4]
      have := ih (pre ++ [x]) (wr ((pre.length : Int) + 1)) (stk.take (stk.length - (many x.1).toNat) ++ [ownK x.1]) (by simp [hx]) (by rw [wr_id (by omega) (by omega)]; simp) (by simp; omega)
      simp [ints, List.map_take] at this
      simp [F29_b0, h1, tsl, h2, nodeV, node, c24, q1, hw, hla, q3', q3b, q3c, q3d, q3e, ints, hct, q5]
      rw [go_inLoop]
      simp
      simp only [kfold, hk]
      exact this

theorem c29 (wide vars : Int) (t : List (Int × BitVec 64)) (hl : t.length < 1000000) : acall T X 29 [.d (.int .i64 wide), .d (.int .i64 vars), .d (tsl t)] [] = some (.d (.bool (goodT wide vars t)), []) := by
  have out : ∀ b : Bool, go T X F29 0 [] [(6, .d (.bool b))] [] = some (.d (.bool b), []) := fun b => by simp [fin, F29]
  simp only [go_nil] at out
  by_cases h1 : 1 ≤ wide
  case neg => simp [e29, F29_c, c18, h1, out, goodT]
  by_cases h2 : wide ≤ 64
  case neg => simp [e29, F29_c, c18, h1, h2, out, goodT]
  by_cases h3 : 1 ≤ vars
  case neg => simp [e29, F29_c, c18, c15, h1, h2, h3, out, goodT]
  by_cases h4 : vars ≤ 4
  case neg => simp [e29, F29_c, c18, c15, h1, h2, h3, h4, out, goodT]
  by_cases h5 : 1 ≤ t.length
  case neg =>
    have h5' : (t.length : Int) < 1 := by omega
    simp [e29, F29_c, c18, c15, h1, h2, h3, h4, h5', tsl, out, goodT, h5]
  by_cases h6 : t.length ≤ 48
  case neg =>
    have h5' : ¬ (t.length : Int) < 1 := by omega
    have h6' : (48 : Int) < t.length := by omega
    simp [e29, F29_c, c18, c15, h1, h2, h3, h4, h5', h6', tsl, out, goodT, h5, h6]
  have h5' : ¬ (t.length : Int) < 1 := by omega
  have h6' : ¬ (48 : Int) < t.length := by omega
  have := c29_loop wide vars t h6 t [] 0 [] rfl rfl (Nat.le_refl _)
  simp only [ints, tsl, List.map_nil, List.length_nil] at this
  simp [e29, F29_c, c18, c15, h1, h2, h3, h4, h5', h6', tsl]
  rw [go_inLoop]
  simp
  rw [this]
  simp [goodT, h1, h2, h3, h4, h5, h6]
end Go.Proofs.YtplgdddfhjpojaaGreat.AM

namespace Go.Proofs.YtplgdddfhjpojaaGreat.AM
open Go

/-- The m kinds below place n are p. -/
def popsOk (stk : List Int) (p : Int) : Nat → Nat → Bool
  | _, 0 => true
  | 0, _ + 1 => false
  | n + 1, m + 1 => (stk[n]? == some p) && popsOk stk p n m

theorem popsOk_spec (stk : List Int) (p : Int) : ∀ (m n : Nat), m ≤ n → n ≤ stk.length → popsOk stk p n m = !(((stk.take n).drop (n - m)).any (· != p))
  | 0, n, _, hl => by
    have : (stk.take n).drop (n - 0) = [] := by apply List.drop_eq_nil_of_le; simp; omega
    cases n <;> simp [popsOk, this]
  | m + 1, 0, h, _ => by omega
  | m + 1, n + 1, h, hl => by
    have ih := popsOk_spec stk p m n (by omega) (by omega)
    have hn : n < stk.length := by omega
    have e : (stk.take (n + 1)).drop (n + 1 - (m + 1)) = (stk.take n).drop (n - m) ++ [stk[n]] := by
      rw [List.take_succ_eq_append_getElem hn, Nat.add_sub_add_right, List.drop_append_of_le_length (by simp; omega)]
    simp only [popsOk, ih, e, List.any_append, List.getElem?_eq_getElem hn]
    simp [Bool.and_comm]
    cases hq : (stk[n] == p) with
    | true => simp at hq; simp [hq]
    | false => simp at hq; simp [hq]

def kindS (wide vars : Int) (t : List (Int × BitVec 64)) : Int :=
  if 1 ≤ wide ∧ wide ≤ 64 ∧ 1 ≤ vars ∧ vars ≤ 4 ∧ 1 ≤ t.length ∧ t.length ≤ 48 then (match kfold wide vars t [] with | some [k] => k | _ => 0) else 0

theorem c44_inner (wide vars p o : Int) (t : List (Int × BitVec 64)) (i len : Int) (stk : List Int) (hs : stk.length < 100) (K : List AT) : ∀ (m n : Nat) (z : Int), m ≤ n → n ≤ stk.length → z = m →
    go T X F44 0 (.code F44_b0 :: .inLoop [(0, .keep), (1, .keep), (7, .keep), (10, .keep), (11, .keep), (12, .keep), (27, .keep), (28, .keep), (29, .keep)] F44_l0 :: .inBlock 2 :: K)
      [(0, .d (.int .i64 wide)), (1, .d (.int .i64 vars)), (7, .hs 0 1 0 n), (10, .d (.int .i64 z)), (11, .d (.int .i64 p)), (12, .d (.int .i64 o)), (27, .d (tsl t)), (28, .d (.int .i64 len)), (29, .d (.int .i64 i))] [.arr 1 (ints stk) true] =
    if popsOk stk p n m = true then go T X F44 0 K [(0, .d (.int .i64 wide)), (1, .d (.int .i64 vars)), (7, .hs 0 1 0 (n - m)), (10, .d (.int .i64 0)), (11, .d (.int .i64 p)), (12, .d (.int .i64 o)), (27, .d (tsl t)), (28, .d (.int .i64 len)), (29, .d (.int .i64 i)), (56, .d (.bool false))] [.arr 1 (ints stk) true]
      else some (.d (.int .i64 0), []) := by
  intro m
  induction m with
  | zero =>
    intro n z h1 h2 hz
    subst hz
    have hp : popsOk stk p n 0 = true := by cases n <;> rfl
    simp [F44_b0, hp]
  | succ m ih =>
    intro n z h1 h2 hz
    subst hz
    obtain ⟨n, rfl⟩ : ∃ k, n = k + 1 := ⟨n - 1, by omega⟩
    have hn : n < stk.length := by omega
    have hw : wr ((n : Int) + 1 - 1) = n := by rw [wr_id] <;> omega
    have hw' : wr (n : Int) = n := by rw [wr_id] <;> omega
    have hm : (0 : Int) < (m : Int) + 1 := by omega
    have hnn : (n : Int) ≤ (n : Int) + 1 := by omega
    have hlt : (n : Int) < (n : Int) + 1 := by omega
    by_cases hq : stk[n] = p
    · have hp : popsOk stk p (n + 1) (m + 1) = popsOk stk p n m := by simp [popsOk, List.getElem?_eq_getElem hn, hq]
      have := ih n (wr (m : Int)) (by omega) (by omega) (by rw [wr_id] <;> omega)
      simp only [ints, tsl] at this
      simp [F44_b0, hm, hw', ints, hn, hq, tsl, hnn, hlt]
      rw [go_inLoop]
      simp
      rw [this, hp]
    · have hp : popsOk stk p (n + 1) (m + 1) = false := by simp [popsOk, List.getElem?_eq_getElem hn, hq]
      simp [F44_b0, hm, hw', ints, hn, hq, tsl, hnn, hlt]
      simp [fin, F44, hp]

theorem part_S {op : Int} (h : many op ≠ 0) : partS op = part op := by
  unfold many at h
  unfold partS
  have h1 : ¬ (op = 1 ∨ op = 2) := by
    rintro (rfl | rfl) <;> simp at h
  have h2 : ¬ op = 20 := by
    rintro rfl; simp at h
  rw [if_neg h1, if_neg h2]

def kres : Option (List Int) → Int
  | some [k] => k
  | _ => 0

theorem kstep_S (wide vars : Int) (x : Int × BitVec 64) (stk : List Int) : kstep wide vars x stk =
    if ownK x.1 = 0 ∨ leafOk wide vars x = false ∨ (stk.length : Int) < many x.1 then none
    else if popsOk stk (partS x.1) stk.length (many x.1).toNat = true then some (stk.take (stk.length - (many x.1).toNat) ++ [ownK x.1]) else none := by
  unfold kstep
  by_cases h1 : ownK x.1 = 0 ∨ leafOk wide vars x = false ∨ (stk.length : Int) < many x.1
  · rw [if_pos h1, if_pos]
    rcases h1 with h1 | h1 | h1
    · exact .inl h1
    · exact .inr (.inl h1)
    · exact .inr (.inr (.inl h1))
  · rw [if_neg h1]
    have hm := many_cases x.1
    have h4 : (many x.1).toNat ≤ stk.length := by
      have : ¬ (stk.length : Int) < many x.1 := fun q => h1 (.inr (.inr q))
      omega
    have hp : popsOk stk (partS x.1) stk.length (many x.1).toNat = !((stk.drop (stk.length - (many x.1).toNat)).any (· != part x.1)) := by
      rw [popsOk_spec stk _ _ _ h4 (Nat.le_refl _), List.take_length]
      by_cases h0 : many x.1 = 0
      · simp [h0]
      · rw [part_S h0]
    cases hq : (stk.drop (stk.length - (many x.1).toNat)).any (· != part x.1) with
    | true =>
      rw [hq] at hp
      rw [if_pos (.inr (.inr (.inr rfl))), hp]
      rfl
    | false =>
      rw [hq] at hp
      rw [hp, if_neg]
      · rfl
      · rintro (q | q | q | q)
        · exact h1 (.inl q)
        · exact h1 (.inr (.inl q))
        · exact h1 (.inr (.inr q))
        · cases q

set_option maxHeartbeats 1000000 in
theorem c44_loop (wide vars : Int) (t : List (Int × BitVec 64)) (ht : t.length ≤ 48) : ∀ (suf pre : List (Int × BitVec 64)) (z : Int) (stk : List Int), t = pre ++ suf → z = pre.length → stk.length ≤ pre.length →
    go T X F44 0 [.code F44_b1, .inLoop [(0, .keep), (1, .keep), (7, .ow 1), (27, .keep), (28, .keep), (29, .keep)] F44_l1, .inBlock 0, .code (.kp [(7, .keep)] F44_t2)]
      [(0, .d (.int .i64 wide)), (1, .d (.int .i64 vars)), (7, .hs 0 1 0 stk.length), (27, .d (tsl t)), (28, .d (.int .i64 t.length)), (29, .d (.int .i64 z))] [.arr 1 (ints stk) true] =
    some (.d (.int .i64 (kres (kfold wide vars suf stk))), []) := by
  intro suf
  induction suf with
  | nil =>
    intro pre z stk hx hz hs
    subst hz
    have : t.length = pre.length := by simp [hx]
    by_cases hl : stk.length = 1
    · obtain ⟨k, rfl⟩ := List.length_eq_one_iff.1 hl
      simp [F44_b1, this, F44_t2, kfold, kres, ints]
      simp [fin, F44]
    · have hl' : ¬ (stk.length : Int) = 1 := by omega
      have hk : kres (some stk) = 0 := by
        match stk, hl with
        | [], _ => rfl
        | [k], h => simp at h
        | _ :: _ :: _, _ => rfl
      simp [F44_b1, this, F44_t2, kfold, hk, hl, hl']
      simp [fin, F44]
  | cons x suf ih =>
    intro pre z stk hx hz hs
    subst hz
    have h1 : pre.length < t.length := by simp [hx]
    have h2 : t[pre.length] = x := by simp [hx]
    have hm := many_cases x.1
    have hla := c43 wide vars x
    have hks := kstep_S wide vars x stk
    by_cases q1 : ownK x.1 = 0
    · rw [if_pos (.inl q1)] at hks
      simp [F44_b1, h1, tsl, h2, nodeV, node, c40, q1]
      simp [fin, F44, kfold, hks, kres]
    cases q2 : leafOk wide vars x with
    | false =>
      rw [q2] at hla
      rw [if_pos (.inr (.inl q2))] at hks
      simp [F44_b1, h1, tsl, h2, nodeV, node, c40, q1, hla]
      simp [fin, F44, kfold, hks, kres]
    | true =>
    rw [q2] at hla
    by_cases q3 : (stk.length : Int) < many x.1
    · rw [if_pos (.inr (.inr q3))] at hks
      simp [F44_b1, h1, tsl, h2, nodeV, node, c40, q1, hla, q3]
      simp [fin, F44, kfold, hks, kres]
    have hno : ¬ (ownK x.1 = 0 ∨ leafOk wide vars x = false ∨ (stk.length : Int) < many x.1) := by
      rintro (q | q | q)
      · exact q1 q
      · rw [q2] at q; cases q
      · exact q3 q
    rw [if_neg hno] at hks
    have hin := fun K => c44_inner wide vars (partS x.1) (ownK x.1) t pre.length t.length stk (by omega) K (many x.1).toNat stk.length (many x.1) (by omega) (Nat.le_refl _) (by omega)
    simp only [ints, tsl] at hin
    cases q4 : popsOk stk (partS x.1) stk.length (many x.1).toNat with
    | false =>
      rw [q4] at hks hin
      simp [F44_b1, h1, tsl, h2, nodeV, node, c40, q1, hla, q3, ints]
      rw [go_inLoop]
      simp
      rw [hin]
      simp [kfold, hks, kres]
    | true =>
      rw [q4] at hks hin
      have q5 : stk.length - (many x.1).toNat + 1 ≤ maxApp := by simp only [maxApp]; omega
      have := ih (pre ++ [x]) (wr ((pre.length : Int) + 1)) (stk.take (stk.length - (many x.1).toNat) ++ [ownK x.1]) (by simp [hx]) (by rw [wr_id (by omega) (by omega)]; simp) (by simp; omega)
      simp [ints, List.map_take] at this
      simp [F44_b1, h1, tsl, h2, nodeV, node, c40, q1, hla, q3, ints]
      rw [go_inLoop]
      simp
      rw [hin]
      simp [F44_t0, q5]
      simp [F44_t1]
      rw [go_inLoop]
      simp
      simp only [kfold, hks]
      exact this

theorem c44 (wide vars : Int) (t : List (Int × BitVec 64)) (hl : t.length < 1000000) : acall T X 44 [.d (.int .i64 wide), .d (.int .i64 vars), .d (tsl t)] [] = some (.d (.int .i64 (kindS wide vars t)), []) := by
  have out : fin F44 0 [(6, .d (.int .i64 0))] [] = some (.d (.int .i64 0), []) := by simp [fin, F44]
  by_cases h1 : 1 ≤ wide
  case neg => simp [e44, F44_c, c41, h1, out, kindS]
  by_cases h2 : wide ≤ 64
  case neg => simp [e44, F44_c, c41, h1, h2, out, kindS]
  by_cases h3 : 1 ≤ vars
  case neg => simp [e44, F44_c, c41, c39, h1, h2, h3, out, kindS]
  by_cases h4 : vars ≤ 4
  case neg => simp [e44, F44_c, c41, c39, h1, h2, h3, h4, out, kindS]
  by_cases h5 : 1 ≤ t.length
  case neg =>
    have h5' : ¬ (1 : Int) ≤ t.length := by omega
    simp [e44, F44_c, c41, c39, h1, h2, h3, h4, h5', tsl, out, kindS, h5]
  by_cases h6 : t.length ≤ 48
  case neg =>
    have h5' : (1 : Int) ≤ t.length := by omega
    have h6' : ¬ (t.length : Int) ≤ 48 := by omega
    simp [e44, F44_c, c41, c39, h1, h2, h3, h4, h5', h6', tsl, out, kindS, h5, h6]
  have h5' : (1 : Int) ≤ t.length := by omega
  have h6' : (t.length : Int) ≤ 48 := by omega
  have := c44_loop wide vars t h6 t [] 0 [] rfl rfl (Nat.le_refl _)
  simp only [ints, tsl, List.map_nil, List.length_nil] at this
  simp [e44, F44_c, c41, c39, h1, h2, h3, h4, h5', h6', tsl]
  rw [go_inLoop]
  simp
  rw [this]
  simp [kindS, h1, h2, h3, h4, h5, h6, kres]
end Go.Proofs.YtplgdddfhjpojaaGreat.AM

namespace Go.Proofs.YtplgdddfhjpojaaGreat.AM
open Go

theorem ownK_cases (op : Int) : ownK op = 0 ∨ ownK op = 1 ∨ ownK op = 2 := by
  unfold ownK; split <;> (try split) <;> simp

theorem kstep_pos {wide vars : Int} {x : Int × BitVec 64} {stk stk' : List Int} (h : kstep wide vars x stk = some stk') (hp : ∀ k ∈ stk, 0 < k) : ∀ k ∈ stk', 0 < k := by
  unfold kstep at h
  split at h
  · cases h
  · rename_i hn
    cases h
    intro k hk
    rw [List.mem_append] at hk
    rcases hk with hk | hk
    · exact hp k (List.mem_of_mem_take hk)
    · simp at hk
      subst hk
      have := ownK_cases x.1
      have h0 : ownK x.1 ≠ 0 := fun q => hn (.inl q)
      omega

theorem kfold_pos {wide vars : Int} : ∀ {t : List (Int × BitVec 64)} {stk stk' : List Int}, kfold wide vars t stk = some stk' → (∀ k ∈ stk, 0 < k) → ∀ k ∈ stk', 0 < k
  | [], stk, stk', h, hp => by simp [kfold] at h; subst h; exact hp
  | x :: t, stk, stk', h, hp => by
    simp only [kfold] at h
    cases hs : kstep wide vars x stk with
    | none => rw [hs] at h; cases h
    | some s => rw [hs] at h; exact kfold_pos h (kstep_pos hs hp)

theorem kindS_good (wide vars : Int) (t : List (Int × BitVec 64)) : decide (0 < kindS wide vars t) = goodT wide vars t := by
  unfold kindS goodT
  by_cases h : 1 ≤ wide ∧ wide ≤ 64 ∧ 1 ≤ vars ∧ vars ≤ 4 ∧ 1 ≤ t.length ∧ t.length ≤ 48
  · rw [if_pos h]
    obtain ⟨h1, h2, h3, h4, h5, h6⟩ := h
    simp only [h1, h2, h3, h4, h5, h6, decide_true, Bool.and_self, Bool.true_and]
    cases hk : kfold wide vars t [] with
    | none => rfl
    | some stk =>
      match stk, hk with
      | [], _ => rfl
      | [k], hk =>
        have := kfold_pos hk (by simp) k (by simp)
        simp [this]
      | _ :: _ :: _, _ => simp
  · rw [if_neg h]
    simp only [Int.lt_irrefl, decide_false]
    symm
    rw [Bool.eq_false_iff]
    intro hb
    simp only [Bool.and_eq_true, decide_eq_true_eq] at hb
    exact h ⟨hb.1.1.1.1, hb.1.1.1.2, hb.1.1.2.1, hb.1.1.2.2, hb.1.2.1, hb.1.2.2⟩

/-! ### Intervals -/
/-- A good interval. -/
def goodS (wide : Int) (s : BitVec 64 × BitVec 64) : Bool := gw wide s.2 && decide (s.1 ≤ s.2)
def goodSS (wide : Int) (ss : List (BitVec 64 × BitVec 64)) : Bool := (decide (1 ≤ ss.length) && decide (ss.length ≤ 4)) && ss.all (goodS wide)

theorem c21 (wide : Int) (s : BitVec 64 × BitVec 64) : acall T X 21 [.d (.int .i64 wide), .agg [.d (.w s.1), .d (.w s.2)]] [] = some (.d (.bool (goodS wide s)), []) := by
  cases h : gw wide s.2 with
  | true =>
    simp [e21, F21_c, c20, h]
    simp [fin, F21, goodS, h]
  | false =>
    simp [e21, F21_c, c20, h]
    simp [fin, F21, goodS, h]

theorem c22 (wide : Int) (s : BitVec 64 × BitVec 64) : acall T X 22 [.agg [.d (.w s.1), .d (.w s.2)], .eptr [.int .i64 wide] 0] [] = some (.d (.bool (!goodS wide s)), []) := by
  simp [e22, F22_c, c21]
  simp [fin, F22]

theorem index16 (g : Nat) (caps : List AV) (hk : CapOk caps) (p : BitVec 64 × BitVec 64 → Bool) (hp : ∀ x, acall T X g (.agg [.d (.w x.1), .d (.w x.2)] :: caps) [] = some (.d (.bool (p x)), [])) (xs : List (BitVec 64 × BitVec 64)) (hl : xs.length < 1000000) :
    Ev (acall T X 16 [.d (ssl xs), .fn g caps] []) fun r => ∃ n : Int, r = (.d (.int .i64 n), []) ∧ (0 ≤ n ↔ xs.any p = true) := by
  obtain ⟨hc, hc2, hc3⟩ := hk
  have loop : ∀ (suf pre : List (BitVec 64 × BitVec 64)) (z : Int), xs = pre ++ suf → z = pre.length →
      Ev (go T X F16 0 [.code F16_b0, .inLoop [(0, .keep), (1, .keep), (7, .keep), (8, .keep)] F16_l0, .inBlock 0, .code (.kp [] F16_t0)] [(0, .d (ssl xs)), (1, .fn g caps), (7, .d (.int .i64 xs.length)), (8, .d (.int .i64 z))] []) fun r => ∃ n : Int, r = (.d (.int .i64 n), []) ∧ (0 ≤ n ↔ suf.any p = true) := by
    intro suf
    induction suf with
    | nil =>
      intro pre z hx hz
      subst hz
      have : xs.length = pre.length := by simp [hx]
      simp [F16_b0, this, F16_t0]
      simp [fin, F16]
    | cons x suf ih =>
      intro pre z hx hz
      subst hz
      have h1 : pre.length < xs.length := by simp [hx]
      have h2 : xs[pre.length] = x := by simp [hx]
      cases hpx : p x with
      | true =>
        simp [F16_b0, h1, ssl, spanC, h2, hc, hp, hpx]
        simp [fin, F16]
      | false =>
        have := ih (pre ++ [x]) (wr ((pre.length : Int) + 1)) (by simp [hx]) (by rw [wr_id (by omega) (by omega)]; simp)
        simp [ssl] at this
        simp [F16_b0, h1, ssl, h2, spanC, hc, hp, hpx]
        rw [go_inLoop]
        simp [hc2, hc3]
        exact this
  have := loop xs [] 0 rfl rfl
  simp [e16, F16_c, ssl] at this ⊢
  rw [go_inLoop]
  simp [hc2, hc3]
  exact this

theorem contains17 (g : Nat) (caps : List AV) (hk : CapOk caps) (p : BitVec 64 × BitVec 64 → Bool) (hp : ∀ x, acall T X g (.agg [.d (.w x.1), .d (.w x.2)] :: caps) [] = some (.d (.bool (p x)), [])) (xs : List (BitVec 64 × BitVec 64)) (hl : xs.length < 1000000) :
    acall T X 17 [.d (ssl xs), .fn g caps] [] = some (.d (.bool (xs.any p)), []) := by
  obtain ⟨r, h, n, rfl, hn⟩ := index16 g caps hk p hp xs hl
  obtain ⟨hc, hc2, hc3⟩ := hk
  have hb : decide (0 ≤ n) = xs.any p := by
    rw [Bool.eq_iff_iff]; simpa using hn
  simp only [ssl] at h ⊢
  simp [e17, F17_c, hc, h, hb]
  simp [fin, F17, hb]

theorem not_any_all {α : Type} (p : α → Bool) : ∀ l : List α, (!(l.any fun s => !p s)) = l.all p
  | [] => rfl
  | x :: xs => by
    simp only [List.any_cons, List.all_cons, Bool.not_or, Bool.not_not, not_any_all p xs]

theorem c23 (wide : Int) (ss : List (BitVec 64 × BitVec 64)) (hl : ss.length < 1000000) : acall T X 23 [.d (.int .i64 wide), .d (ssl ss)] [] = some (.d (.bool (goodSS wide ss)), []) := by
  have hc := contains17 22 [.eptr [.int .i64 wide] 0] (capOk_one _) (fun s => !goodS wide s) (fun s => c22 wide s) ss hl
  simp only [ssl] at hc ⊢
  have ha := not_any_all (goodS wide) ss
  by_cases h1 : 1 ≤ ss.length
  · by_cases h2 : ss.length ≤ 4
    · have h1' : (1 : Int) ≤ ss.length := by omega
      have h2' : (ss.length : Int) ≤ 4 := by omega
      simp [e23, F23_c, c15, h1', h2', hc]
      rw [ha]
      simp [fin, F23, goodSS, h1, h2]
    · have h1' : (1 : Int) ≤ ss.length := by omega
      have h2' : ¬ (ss.length : Int) ≤ 4 := by omega
      simp [e23, F23_c, c15, h1', h2']
      simp [fin, F23, goodSS, h2]
  · have h1' : ¬ (1 : Int) ≤ ss.length := by omega
    simp [e23, F23_c, c15, h1']
    simp [fin, F23, goodSS, h1]

theorem c46 (wide : Int) (a b : BitVec 64) : acall T X 46 [.d (.int .i64 wide), .d (.w a), .d (.w b)] [] = some (.d (.bool (gw wide a && gw wide b)), []) := by
  cases h : gw wide a with
  | true =>
    simp [e46, F46_c, c42, h]
    simp [fin, F46]
  | false =>
    simp [e46, F46_c, c42, h]
    simp [fin, F46]

theorem gw_le {wide : Int} {a b : BitVec 64} (h : gw wide b = true) (hab : a ≤ b) : gw wide a = true := by
  simp only [gw, Bool.and_eq_true, decide_eq_true_eq] at h ⊢
  rw [BitVec.le_def] at hab
  exact ⟨h.1, h.2.1, by omega⟩

theorem c47 (wide : Int) (s : BitVec 64 × BitVec 64) : acall T X 47 [.d (.int .i64 wide), .agg [.d (.w s.1), .d (.w s.2)]] [] = some (.d (.bool (goodS wide s)), []) := by
  have hg : (gw wide s.1 && gw wide s.2 && decide (s.1 ≤ s.2)) = goodS wide s := by
    unfold goodS
    by_cases hle : s.1 ≤ s.2
    · cases h2 : gw wide s.2 with
      | true => simp [gw_le h2 hle, hle]
      | false => simp
    · simp [hle]
  cases h : gw wide s.1 && gw wide s.2 with
  | true =>
    rw [h] at hg
    simp [e47, F47_c, c46, h]
    simp [fin, F47, ← hg]
  | false =>
    rw [h] at hg
    simp [e47, F47_c, c46, h]
    simp [fin, F47, ← hg]
end Go.Proofs.YtplgdddfhjpojaaGreat.AM

namespace Go.Proofs.YtplgdddfhjpojaaGreat.AM
open Go

abbrev Nd := Int × BitVec 64
inductive Tr where
  | lf (x : Nd)
  | un (x : Nd) (a : Tr)
  | bi (x : Nd) (a b : Tr)

def Tr.flat : Tr → List Nd
  | .lf x => [x]
  | .un x a => a.flat ++ [x]
  | .bi x a b => a.flat ++ (b.flat ++ [x])
def Tr.root : Tr → Nd
  | .lf x => x
  | .un x _ => x
  | .bi x _ _ => x
def Tr.kind (t : Tr) : Int := ownK t.root.1
def Tr.good (wide vars : Int) : Tr → Prop
  | .lf x => many x.1 = 0 ∧ ownK x.1 ≠ 0 ∧ leafOk wide vars x = true
  | .un x a => many x.1 = 1 ∧ ownK x.1 ≠ 0 ∧ leafOk wide vars x = true ∧ a.kind = part x.1 ∧ a.good wide vars
  | .bi x a b => many x.1 = 2 ∧ ownK x.1 ≠ 0 ∧ leafOk wide vars x = true ∧ a.kind = part x.1 ∧ b.kind = part x.1 ∧ a.good wide vars ∧ b.good wide vars

theorem Tr.flat_pos (t : Tr) : 1 ≤ t.flat.length := by cases t <;> simp [Tr.flat] <;> omega

/-- What folds is a list of trees. -/
theorem parse {wide vars : Int} : ∀ {t : List Nd} {fs : List Tr} {stk : List Int}, kfold wide vars t (fs.map Tr.kind) = some stk → (∀ r ∈ fs, r.good wide vars) →
    ∃ gs : List Tr, stk = gs.map Tr.kind ∧ (∀ r ∈ gs, r.good wide vars) ∧ gs.flatMap Tr.flat = fs.flatMap Tr.flat ++ t
  | [], fs, stk, h, hg => by
    simp [kfold] at h; subst h
    exact ⟨fs, rfl, hg, by simp⟩
  | x :: t, fs, stk, h, hg => by
    simp only [kfold] at h
    cases hs : kstep wide vars x (fs.map Tr.kind) with
    | none => rw [hs] at h; cases h
    | some s =>
      rw [hs] at h
      simp only at h
      unfold kstep at hs
      split at hs
      · cases hs
      · rename_i hno
        cases hs
        have n1 : ownK x.1 ≠ 0 := fun q => hno (.inl q)
        have n2 : leafOk wide vars x = true := by
          cases hl : leafOk wide vars x with
          | true => rfl
          | false => exact absurd (.inr (.inl hl)) hno
        have n3 : ¬ ((fs.map Tr.kind).length : Int) < many x.1 := fun q => hno (.inr (.inr (.inl q)))
        have n4 : ∀ k ∈ (fs.map Tr.kind).drop ((fs.map Tr.kind).length - (many x.1).toNat), k = part x.1 := by
          intro k hk
          have : ¬ ((fs.map Tr.kind).drop ((fs.map Tr.kind).length - (many x.1).toNat)).any (· != part x.1) = true := fun q => hno (.inr (.inr (.inr q)))
          simp only [List.any_eq_true, not_exists, not_and, bne_iff_ne, ne_eq, Classical.not_not] at this
          exact this k hk
        simp only [List.length_map] at n3 n4 h
        rw [← List.map_drop] at n4
        rw [← List.map_take] at h
        -- the operands and the rest
        have step : ∀ (r : Tr), r.root = x → r.good wide vars → (fs.take (fs.length - (many x.1).toNat)).flatMap Tr.flat ++ r.flat = fs.flatMap Tr.flat ++ [x] →
            ∃ gs : List Tr, stk = gs.map Tr.kind ∧ (∀ r ∈ gs, r.good wide vars) ∧ gs.flatMap Tr.flat = fs.flatMap Tr.flat ++ (x :: t) := by
          intro r hr hgr hf
          have e : (fs.take (fs.length - (many x.1).toNat)).map Tr.kind ++ [ownK x.1] = (fs.take (fs.length - (many x.1).toNat) ++ [r]).map Tr.kind := by
            simp [Tr.kind, hr]
          rw [e] at h
          obtain ⟨gs, g1, g2, g3⟩ := parse h (by
            intro q hq
            rw [List.mem_append] at hq
            rcases hq with hq | hq
            · exact hg q (List.mem_of_mem_take hq)
            · simp at hq; subst hq; exact hgr)
          refine ⟨gs, g1, g2, ?_⟩
          rw [g3, List.flatMap_append]
          simp only [List.flatMap_cons, List.flatMap_nil, List.append_nil]
          rw [hf]; simp
        rcases many_cases x.1 with hm | hm | hm
        · refine step (.lf x) rfl ⟨hm, n1, n2⟩ ?_
          rw [hm]; simp [Tr.flat]
        · rw [hm] at n3 n4
          have hlen : fs.length - 1 < fs.length := by
            simp at n3; omega
          have hd : fs.drop (fs.length - (1 : Int).toNat) = [fs[fs.length - 1]] := by
            show fs.drop (fs.length - 1) = _
            rw [List.drop_eq_getElem_cons hlen]
            congr 1
            apply List.drop_eq_nil_of_le; omega
          have hk : (fs[fs.length - 1]).kind = part x.1 := n4 _ (by rw [hd]; simp)
          refine step (.un x fs[fs.length - 1]) rfl ⟨hm, n1, n2, hk, hg _ (List.getElem_mem hlen)⟩ ?_
          rw [hm]
          have e : fs.flatMap Tr.flat = (fs.take (fs.length - (1 : Int).toNat)).flatMap Tr.flat ++ (fs.drop (fs.length - (1 : Int).toNat)).flatMap Tr.flat := by
            rw [← List.flatMap_append, List.take_append_drop]
          rw [e, hd]
          simp [Tr.flat]
        · rw [hm] at n3 n4
          have hl2 : 2 ≤ fs.length := by omega
          have hlen1 : fs.length - 2 < fs.length := by omega
          have hlen2 : fs.length - 2 + 1 < fs.length := by omega
          have hd : fs.drop (fs.length - (2 : Int).toNat) = [fs[fs.length - 2], fs[fs.length - 2 + 1]] := by
            show fs.drop (fs.length - 2) = _
            rw [List.drop_eq_getElem_cons hlen1, List.drop_eq_getElem_cons hlen2]
            congr 2
            apply List.drop_eq_nil_of_le; omega
          have hk1 : (fs[fs.length - 2]).kind = part x.1 := n4 _ (by rw [hd]; simp)
          have hk2 : (fs[fs.length - 2 + 1]).kind = part x.1 := n4 _ (by rw [hd]; simp)
          refine step (.bi x fs[fs.length - 2] fs[fs.length - 2 + 1]) rfl ⟨hm, n1, n2, hk1, hk2, hg _ (List.getElem_mem hlen1), hg _ (List.getElem_mem hlen2)⟩ ?_
          rw [hm]
          have e : fs.flatMap Tr.flat = (fs.take (fs.length - (2 : Int).toNat)).flatMap Tr.flat ++ (fs.drop (fs.length - (2 : Int).toNat)).flatMap Tr.flat := by
            rw [← List.flatMap_append, List.take_append_drop]
          rw [e, hd]
          simp [Tr.flat]

/-- A good term is a good tree's text. -/
theorem goodT_tree {wide vars : Int} {t : List Nd} (h : goodT wide vars t = true) : ∃ r : Tr, r.good wide vars ∧ t = r.flat ∧ 1 ≤ wide ∧ wide ≤ 64 ∧ 1 ≤ vars ∧ vars ≤ 4 ∧ t.length ≤ 48 := by
  unfold goodT at h
  simp only [Bool.and_eq_true, decide_eq_true_eq] at h
  obtain ⟨⟨⟨⟨h1, h2⟩, h3, h4⟩, h5, h6⟩, h7⟩ := h
  cases hk : kfold wide vars t [] with
  | none => rw [hk] at h7; cases h7
  | some stk =>
    rw [hk] at h7
    simp only [beq_iff_eq] at h7
    obtain ⟨gs, g1, g2, g3⟩ := parse (fs := []) hk (by simp)
    have : gs.length = 1 := by rw [g1] at h7; simpa using h7
    obtain ⟨r, rfl⟩ := List.length_eq_one_iff.1 this
    exact ⟨r, g2 r (by simp), by simpa using g3.symm, h1, h2, h3, h4, h6⟩
end Go.Proofs.YtplgdddfhjpojaaGreat.AM

namespace Go.Proofs.YtplgdddfhjpojaaGreat.AM
open Go

theorem c48_loop (wide : Int) (ss : List (BitVec 64 × BitVec 64)) (hl : ss.length < 1000000) : ∀ (suf pre : List (BitVec 64 × BitVec 64)) (z : Int), ss = pre ++ suf → z = pre.length →
    go T X F48 0 [.code F48_b0, .inLoop [(0, .keep), (11, .keep), (12, .keep), (13, .keep)] F48_l0, .inBlock 0, .code (.kp [] F48_t0)] [(0, .d (.int .i64 wide)), (11, .d (ssl ss)), (12, .d (.int .i64 ss.length)), (13, .d (.int .i64 z))] [] = some (.d (.bool (suf.all (goodS wide))), []) := by
  intro suf
  induction suf with
  | nil =>
    intro pre z hx hz
    subst hz
    have : ss.length = pre.length := by simp [hx]
    simp [F48_b0, this, F48_t0]
    simp [fin, F48]
  | cons x suf ih =>
    intro pre z hx hz
    subst hz
    have h1 : pre.length < ss.length := by simp [hx]
    have h2 : ss[pre.length] = x := by simp [hx]
    have hg := c47 wide x
    cases hq : goodS wide x with
    | false =>
      rw [hq] at hg
      simp [F48_b0, h1, ssl, spanC, h2, hg]
      simp [fin, F48, hq]
    | true =>
      rw [hq] at hg
      have := ih (pre ++ [x]) (wr ((pre.length : Int) + 1)) (by simp [hx]) (by rw [wr_id (by omega) (by omega)]; simp)
      simp only [ssl] at this
      simp [F48_b0, h1, ssl, spanC, h2, hg]
      rw [go_inLoop]
      simp
      rw [this]
      simp [hq]

theorem c48 (wide : Int) (ss : List (BitVec 64 × BitVec 64)) (hl : ss.length < 1000000) : acall T X 48 [.d (.int .i64 wide), .d (ssl ss)] [] = some (.d (.bool (goodSS wide ss)), []) := by
  have := c48_loop wide ss hl ss [] 0 rfl rfl
  simp only [ssl] at this ⊢
  by_cases h1 : 1 ≤ ss.length
  · by_cases h2 : ss.length ≤ 4
    · have h1' : (1 : Int) ≤ ss.length := by omega
      have h2' : (ss.length : Int) ≤ 4 := by omega
      simp [e48, F48_c, c39, h1', h2']
      rw [go_inLoop]
      simp
      rw [this]
      simp [goodSS, h1, h2]
    · have h1' : (1 : Int) ≤ ss.length := by omega
      have h2' : ¬ (ss.length : Int) ≤ 4 := by omega
      simp [e48, F48_c, c39, h1', h2']
      simp [fin, F48, goodSS, h2]
  · have h1' : ¬ (1 : Int) ≤ ss.length := by omega
    simp [e48, F48_c, c39, h1']
    simp [fin, F48, goodSS, h1]

def mostW (a b : BitVec 64) : BitVec 64 := if b < a then a else b
def leastW (a b : BitVec 64) : BitVec 64 := if a < b then a else b
theorem c50 (a b : BitVec 64) : acall T X 50 [.d (.w a), .d (.w b)] [] = some (.d (.w (mostW a b)), []) := by
  by_cases h : b < a
  · simp [e50, F50_c, h]
    simp [fin, F50, mostW, h]
  · simp [e50, F50_c, h]
    simp [fin, F50, mostW, h]
theorem c51 (a b : BitVec 64) : acall T X 51 [.d (.w a), .d (.w b)] [] = some (.d (.w (leastW a b)), []) := by
  by_cases h : a < b
  · simp [e51, F51_c, h]
    simp [fin, F51, leastW, h]
  · simp [e51, F51_c, h]
    simp [fin, F51, leastW, h]

/-- The place where the tree of the node at a place begins. -/
theorem c49 (wide vars : Int) (t : List Nd) (ht : t.length < 1000000) : ∀ (r : Tr) (pre post : List Nd), r.good wide vars → t = pre ++ (r.flat ++ post) → ∀ z : Int, z = pre.length + r.flat.length - 1 →
    acall T X 49 [.d (tsl t), .d (.int .i64 z)] [] = some (.d (.int .i64 pre.length), [])
  | .lf x, pre, post, hg, he, z, hz => by
    obtain ⟨hm, _⟩ := hg
    simp only [Tr.flat] at he hz
    have hz' : z = pre.length := by simp at hz; omega
    subst hz'
    have h1 : pre.length < t.length := by simp [he]
    have h2 : t[pre.length] = x := by simp [he]
    simp [e49, F49_c, tsl, h1, h2, nodeV, node, c40, hm]
    rw [go_inLoop]
    simp [F49_b0, F49_t0]
    simp [fin, F49]
  | .un x a, pre, post, hg, he, z, hz => by
    obtain ⟨hm, _, _, _, hga⟩ := hg
    simp only [Tr.flat] at he hz
    have hp := a.flat_pos
    obtain ⟨k, hk⟩ : ∃ k, k = pre.length + a.flat.length := ⟨_, rfl⟩
    have hz' : z = (k : Int) := by simp at hz; omega
    subst hz'
    have h1 : k < t.length := by rw [he, hk]; simp
    have h2 : t[k] = x := by simp [he, hk]
    have hw : wr ((k : Int) - 1) = (k : Int) - 1 := by rw [wr_id] <;> omega
    have ih := c49 wide vars t ht a pre (x :: post) hga (by simp [he]) ((k : Int) - 1) (by omega)
    have hw1 : wr 0 = 0 := by rw [wr_id] <;> omega
    simp only [tsl] at ih
    simp [e49, F49_c, tsl, h1, h2, nodeV, node, c40, hm]
    rw [go_inLoop]
    simp [F49_b0, hw, ih, hw1]
    rw [go_inLoop]
    simp [F49_b0, F49_t0]
    simp [fin, F49]
  | .bi x a b, pre, post, hg, he, z, hz => by
    obtain ⟨hm, _, _, _, _, hga, hgb⟩ := hg
    simp only [Tr.flat] at he hz
    have hp := a.flat_pos
    have hpb := b.flat_pos
    obtain ⟨k, hk⟩ : ∃ k, k = pre.length + (a.flat.length + b.flat.length) := ⟨_, rfl⟩
    obtain ⟨j, hj⟩ : ∃ j, j = pre.length + a.flat.length := ⟨_, rfl⟩
    have hz' : z = (k : Int) := by simp at hz; omega
    subst hz'
    have h1 : k < t.length := by rw [he, hk]; simp
    have h2 : t[k] = x := by simp [he, hk]
    have hw : wr ((k : Int) - 1) = (k : Int) - 1 := by rw [wr_id] <;> omega
    have ihb := c49 wide vars t ht b (pre ++ a.flat) (x :: post) hgb (by simp [he]) ((k : Int) - 1) (by simp; omega)
    have iha := c49 wide vars t ht a pre (b.flat ++ (x :: post)) hga (by simp [he]) ((j : Int) - 1) (by omega)
    have hw2 : wr ((j : Int) - 1) = (j : Int) - 1 := by rw [wr_id] <;> omega
    have hw0 : wr 0 = 0 := by rw [wr_id] <;> omega
    have hw1 : wr 1 = 1 := by rw [wr_id] <;> omega
    rw [List.length_append, ← hj] at ihb
    simp only [tsl] at iha ihb
    simp [e49, F49_c, tsl, h1, h2, nodeV, node, c40, hm]
    rw [go_inLoop]
    simp [F49_b0, hw, ihb, hw1]
    rw [go_inLoop]
    simp [F49_b0, hw2, iha, hw0]
    rw [go_inLoop]
    simp [F49_b0, F49_t0]
    simp [fin, F49]
end Go.Proofs.YtplgdddfhjpojaaGreat.AM

namespace Go.Proofs.YtplgdddfhjpojaaGreat.AM
open Go

abbrev Sp := BitVec 64 × BitVec 64
def spV (s : Sp) : AV := .agg [.d (.w s.1), .d (.w s.2)]
def endW (wide : Nat) : BitVec 64 := cutK 18446744073709551615#64 wide
def fitsW (wide : Nat) (a b : BitVec 64) : Bool := b == 0#64 || decide (a ≤ endW wide / b)

theorem c52 (wide : Nat) (hw : wide < 1000) (a b : BitVec 64) : acall T X 52 [.d (.int .i64 wide), .d (.w a), .d (.w b)] [] = some (.d (.bool (fitsW wide a b)), []) := by
  by_cases h : b = 0#64
  · simp [e52, F52_c, h]
    simp [fin, F52, fitsW, h]
  · simp [e52, F52_c, h, c6 _ _ hw]
    have hb : (b == 0#64) = false := by simpa using h
    simp [fin, F52, fitsW, hb, endW]
    rfl

def numS (wide : Nat) (op : Int) (a b : Sp) : Sp :=
  if op = 3 ∧ a.2 ≤ endW wide - b.2 then (a.1 + b.1, a.2 + b.2)
  else if op = 5 ∧ fitsW wide a.2 b.2 = true then (a.1 * b.1, a.2 * b.2)
  else if op = 4 ∧ b.2 ≤ a.1 then (a.1 - b.2, a.2 - b.1)
  else if op = 6 ∧ 0#64 < b.1 then (a.1 / b.2, a.2 / b.1)
  else if op = 7 ∧ 0#64 < b.1 then (0#64, leastW a.2 (b.2 - 1#64))
  else if op = 7 ∨ op = 12 then (0#64, a.2)
  else if op = 8 then (0#64, leastW a.2 b.2)
  else if op = 9 then (mostW a.1 b.1, endW wide)
  else (0#64, endW wide)

theorem pos_ne {a b : BitVec 64} (h : a ≤ b) (h0 : 0#64 < a) : ¬ b = 0#64 := by
  rintro rfl
  rw [BitVec.le_def] at h
  rw [BitVec.lt_def] at h0
  simp at h h0
  omega
theorem pos_ne' {a : BitVec 64} (h0 : 0#64 < a) : ¬ a = 0#64 := by
  rintro rfl
  rw [BitVec.lt_def] at h0
  simp at h0

set_option maxHeartbeats 2000000 in
theorem c53 (wide : Nat) (hw : wide < 1000) (op : Int) (a b : Sp) (hb : b.1 ≤ b.2) : acall T X 53 [.d (.int .i64 wide), .d (.int .i64 op), spV a, spV b] [] = some (spV (numS wide op a b), []) := by
  have hend : cutK 18446744073709551615#64 wide = endW wide := rfl
  simp only [spV]
  by_cases h3 : op = 3
  · subst h3
    by_cases hc : a.2 ≤ endW wide - b.2
    · simp [e53, F53_c, c6 _ _ hw, hend, hc]
      simp [fin, F53, numS, hc]
    · simp [e53, F53_c, c6 _ _ hw, hend, hc]
      simp [fin, F53, numS, hc]
  by_cases h5 : op = 5
  · subst h5
    cases hc : fitsW wide a.2 b.2 with
    | true =>
      simp [e53, F53_c, c6 _ _ hw, hend, c52 _ hw, hc]
      simp [fin, F53, numS, hc]
    | false =>
      simp [e53, F53_c, c6 _ _ hw, hend, c52 _ hw, hc]
      simp [fin, F53, numS, hc]
  by_cases h4 : op = 4
  · subst h4
    by_cases hc : b.2 ≤ a.1
    · simp [e53, F53_c, c6 _ _ hw, hend, hc]
      simp [fin, F53, numS, hc]
    · simp [e53, F53_c, c6 _ _ hw, hend, hc]
      simp [fin, F53, numS, hc]
  by_cases h6 : op = 6
  · subst h6
    by_cases hc : 0#64 < b.1
    · have n1 := pos_ne hb hc
      have n2 := pos_ne' hc
      simp [e53, F53_c, c6 _ _ hw, hend, hc, n1, n2]
      simp [fin, F53, numS, hc]
    · simp [e53, F53_c, c6 _ _ hw, hend, hc]
      simp [fin, F53, numS, hc]
  by_cases h7 : op = 7
  · subst h7
    by_cases hc : 0#64 < b.1
    · simp [e53, F53_c, c6 _ _ hw, hend, hc, c51]
      simp [fin, F53, numS, hc]
    · simp [e53, F53_c, c6 _ _ hw, hend, hc]
      simp [fin, F53, numS, hc]
  by_cases h12 : op = 12
  · subst h12
    simp [e53, F53_c, c6 _ _ hw, hend]
    simp [fin, F53, numS]
  by_cases h8 : op = 8
  · subst h8
    simp [e53, F53_c, c6 _ _ hw, hend, c51]
    simp [fin, F53, numS]
  by_cases h9 : op = 9
  · subst h9
    simp [e53, F53_c, c6 _ _ hw, hend, c50]
    simp [fin, F53, numS]
  simp [e53, F53_c, c6 _ _ hw, hend, h3, h4, h5, h6, h7, h8, h9, h12]
  simp [fin, F53, numS, h3, h4, h5, h6, h7, h8, h9, h12]

def askS (op : Int) (a b : Sp) : Sp :=
  if op = 14 ∧ (a.2 < b.1 ∨ b.2 < a.1) then (0#64, 0#64)
  else if op = 14 ∧ a.1 = a.2 ∧ a = b then (1#64, 1#64)
  else if op = 15 ∧ a.2 < b.1 then (1#64, 1#64)
  else if op = 15 ∧ b.2 ≤ a.1 then (0#64, 0#64)
  else if op = 17 then (leastW a.1 b.1, leastW a.2 b.2)
  else if op = 18 then (mostW a.1 b.1, mostW a.2 b.2)
  else (0#64, 1#64)

set_option maxHeartbeats 2000000 in
theorem c54 (op : Int) (a b : Sp) : acall T X 54 [.d (.int .i64 op), spV a, spV b] [] = some (spV (askS op a b), []) := by
  simp only [spV]
  by_cases h14 : op = 14
  · subst h14
    by_cases hc : a.2 < b.1
    · simp [e54, F54_c, hc]
      simp [fin, F54, askS, hc]
    by_cases hd : b.2 < a.1
    · simp [e54, F54_c, hc, hd]
      simp [fin, F54, askS, hc, hd]
    by_cases he : a.1 = a.2
    · obtain ⟨al, ah⟩ := a
      obtain ⟨bl, bh⟩ := b
      simp only at hc hd he
      subst he
      by_cases hg : al = bl
      · subst hg
        by_cases hh : al = bh
        · subst hh
          simp [e54, F54_c]
          simp [fin, F54, askS]
        · simp [e54, F54_c, hd, hh]
          simp [fin, F54, askS, hd, hh]
      · simp [e54, F54_c, hc, hd, hg]
        simp [fin, F54, askS, hc, hd, hg]
    · simp [e54, F54_c, hc, hd, he]
      simp [fin, F54, askS, hc, hd, he]
  by_cases h15 : op = 15
  · subst h15
    by_cases hc : a.2 < b.1
    · simp [e54, F54_c, hc]
      simp [fin, F54, askS, hc]
    by_cases hd : b.2 ≤ a.1
    · simp [e54, F54_c, hc, hd]
      simp [fin, F54, askS, hc, hd]
    · simp [e54, F54_c, hc, hd]
      simp [fin, F54, askS, hc, hd]
  by_cases h17 : op = 17
  · subst h17
    simp [e54, F54_c, c51]
    simp [fin, F54, askS]
  by_cases h18 : op = 18
  · subst h18
    simp [e54, F54_c, c50]
    simp [fin, F54, askS]
  simp [e54, F54_c, h14, h15, h17, h18]
  simp [fin, F54, askS, h14, h15, h17, h18]
end Go.Proofs.YtplgdddfhjpojaaGreat.AM

namespace Go.Proofs.YtplgdddfhjpojaaGreat.AM
open Go

def notW (wide : Nat) (x : BitVec 64) : BitVec 64 := cutK (~~~x) wide
def spanS (wide : Nat) (ss : List Sp) : Tr → Sp
  | .lf x => if x.1 = 2 then ss.getD x.2.toNat (0#64, 0#64) else (x.2, x.2)
  | .un x a => if x.1 = 13 then (notW wide (spanS wide ss a).2, notW wide (spanS wide ss a).1) else (1#64 - (spanS wide ss a).2, 1#64 - (spanS wide ss a).1)
  | .bi x a b => if ownK x.1 = 1 then numS wide x.1 (spanS wide ss a) (spanS wide ss b) else askS x.1 (spanS wide ss a) (spanS wide ss b)

/-- An interval of words, or of truth values. -/
def okS (wide : Nat) (k : Int) (s : Sp) : Prop := s.1.toNat ≤ s.2.toNat ∧ (k = 1 → s.2.toNat < 2 ^ wide) ∧ (k = 2 → s.2.toNat ≤ 1)

theorem endW_toNat {wide : Nat} (h : wide ≤ 64) : (endW wide).toNat = 2 ^ wide - 1 := by
  rw [endW, cutK_toNat]
  show (2 ^ 64 - 1) % 2 ^ wide = _
  have e : (2 : Nat) ^ 64 = 2 ^ wide * 2 ^ (64 - wide) := by rw [← Nat.pow_add]; congr 1; omega
  have hp : 0 < 2 ^ wide := Nat.two_pow_pos _
  have hq : 0 < 2 ^ (64 - wide) := Nat.two_pow_pos _
  have : (2 : Nat) ^ 64 - 1 = (2 ^ wide - 1) + 2 ^ wide * (2 ^ (64 - wide) - 1) := by
    rw [e, Nat.mul_sub, Nat.mul_one]
    have : 2 ^ wide * 1 ≤ 2 ^ wide * 2 ^ (64 - wide) := Nat.mul_le_mul_left _ hq
    omega
  rw [this, Nat.add_mul_mod_self_left, Nat.mod_eq_of_lt (by omega)]

theorem notW_toNat {wide : Nat} (h : wide ≤ 64) {x : BitVec 64} (hx : x.toNat < 2 ^ wide) : (notW wide x).toNat = 2 ^ wide - 1 - x.toNat := by
  rw [notW, cutK_toNat, BitVec.toNat_not]
  have e : (2 : Nat) ^ 64 = 2 ^ wide * 2 ^ (64 - wide) := by rw [← Nat.pow_add]; congr 1; omega
  have hp : 0 < 2 ^ wide := Nat.two_pow_pos _
  have hq : 0 < 2 ^ (64 - wide) := Nat.two_pow_pos _
  have : (2 : Nat) ^ 64 - 1 - x.toNat = (2 ^ wide - 1 - x.toNat) + 2 ^ wide * (2 ^ (64 - wide) - 1) := by
    rw [e, Nat.mul_sub, Nat.mul_one]
    have : 2 ^ wide * 1 ≤ 2 ^ wide * 2 ^ (64 - wide) := Nat.mul_le_mul_left _ hq
    omega
  rw [this, Nat.add_mul_mod_self_left, Nat.mod_eq_of_lt (by omega)]

theorem fitsW_spec {wide : Nat} (h : wide ≤ 64) {a b : BitVec 64} (hf : fitsW wide a b = true) : a.toNat * b.toNat < 2 ^ wide := by
  have hp : 0 < 2 ^ wide := Nat.two_pow_pos _
  simp only [fitsW, Bool.or_eq_true, beq_iff_eq, decide_eq_true_eq] at hf
  rcases hf with rfl | hf
  · simpa using hp
  · by_cases hb : b.toNat = 0
    · rw [hb]; simpa using hp
    · rw [BitVec.le_def, BitVec.toNat_udiv, endW_toNat h] at hf
      have := Nat.mul_le_mul_right b.toNat hf
      have := Nat.div_mul_le_self (2 ^ wide - 1) b.toNat
      omega

theorem leastW_toNat (a b : BitVec 64) : (leastW a b).toNat = min a.toNat b.toNat := by
  unfold leastW
  split
  · rename_i h; rw [BitVec.lt_def] at h; omega
  · rename_i h; rw [BitVec.lt_def] at h; omega
theorem mostW_toNat (a b : BitVec 64) : (mostW a b).toNat = max a.toNat b.toNat := by
  unfold mostW
  split
  · rename_i h; rw [BitVec.lt_def] at h; omega
  · rename_i h; rw [BitVec.lt_def] at h; omega

theorem numS_ok {wide : Nat} (h : wide ≤ 64) (op : Int) {a b : Sp} (ha : okS wide 1 a) (hb : okS wide 1 b) : okS wide 1 (numS wide op a b) := by
  obtain ⟨a1, a2, _⟩ := ha
  obtain ⟨b1, b2, _⟩ := hb
  have a2 := a2 rfl
  have b2 := b2 rfl
  have hp : 0 < 2 ^ wide := Nat.two_pow_pos _
  have h64 : (2 : Nat) ^ wide ≤ 2 ^ 64 := Nat.pow_le_pow_right (by decide) h
  have h64' : (2 : Nat) ^ 64 = 18446744073709551616 := by decide
  have he := endW_toNat h
  have fin : ∀ s : Sp, s.1.toNat ≤ s.2.toNat → s.2.toNat < 2 ^ wide → okS wide 1 s := fun s h1 h2 => ⟨h1, fun _ => h2, fun q => absurd q (by decide)⟩
  unfold numS
  split
  · rename_i hc
    have hc2 := hc.2
    rw [BitVec.le_def, BitVec.toNat_sub_of_le (by rw [BitVec.le_def]; omega), he] at hc2
    apply fin <;> simp only [BitVec.toNat_add] <;> omega
  split
  · rename_i hc
    have hf := fitsW_spec h hc.2
    have hle : a.1.toNat * b.1.toNat ≤ a.2.toNat * b.2.toNat := Nat.mul_le_mul a1 b1
    apply fin
    · simp only [BitVec.toNat_mul]
      rw [Nat.mod_eq_of_lt (by omega), Nat.mod_eq_of_lt (by omega)]
      exact hle
    · simp only [BitVec.toNat_mul]
      rw [Nat.mod_eq_of_lt (by omega)]
      exact hf
  split
  · rename_i hc
    have hc2 := hc.2
    have q1 := BitVec.toNat_sub_of_le hc2
    rw [BitVec.le_def] at hc2
    have q2 := BitVec.toNat_sub_of_le (x := a.2) (y := b.1) (by rw [BitVec.le_def]; omega)
    apply fin
    · simp only [q1, q2]; omega
    · simp only [q2]; omega
  split
  · rename_i hc
    have hc2 := hc.2
    rw [BitVec.lt_def] at hc2
    simp at hc2
    apply fin
    · simp only [BitVec.toNat_udiv]
      exact Nat.div_le_div a1 b1 (by omega)
    · simp only [BitVec.toNat_udiv]
      exact Nat.lt_of_le_of_lt (Nat.div_le_self _ _) a2
  split
  · apply fin
    · simp
    · simp only [leastW_toNat]; omega
  split
  · exact fin _ (by simp) a2
  split
  · apply fin
    · simp
    · simp only [leastW_toNat]; omega
  split
  · apply fin
    · simp only [mostW_toNat, he]; omega
    · simp only [he]; omega
  · apply fin
    · simp
    · simp only [he]; omega

theorem askS_ok {wide : Nat} (op : Int) (k : Int) {a b : Sp} (ha : okS wide k a) (hb : okS wide k b) (hk : op = 17 ∨ op = 18 → k = 2) : okS wide 2 (askS op a b) := by
  obtain ⟨a1, _, a2⟩ := ha
  obtain ⟨b1, _, b2⟩ := hb
  have fin : ∀ s : Sp, s.1.toNat ≤ s.2.toNat → s.2.toNat ≤ 1 → okS wide 2 s := fun s h1 h2 => ⟨h1, fun q => absurd q (by decide), fun _ => h2⟩
  unfold askS
  split
  · exact fin _ (by simp) (by simp)
  split
  · exact fin _ (by simp) (by simp)
  split
  · exact fin _ (by simp) (by simp)
  split
  · exact fin _ (by simp) (by simp)
  split
  · rename_i h
    have a2 := a2 (hk (.inl h))
    have b2 := b2 (hk (.inl h))
    apply fin <;> simp only [leastW_toNat] <;> omega
  split
  · rename_i h
    have a2 := a2 (hk (.inr h))
    have b2 := b2 (hk (.inr h))
    apply fin <;> simp only [mostW_toNat] <;> omega
  · exact fin _ (by simp) (by simp)
end Go.Proofs.YtplgdddfhjpojaaGreat.AM

namespace Go.Proofs.YtplgdddfhjpojaaGreat.AM
open Go

theorem leaf_cases {op : Int} (h : many op = 0) (h' : ownK op ≠ 0) : op = 1 ∨ op = 2 ∨ op = 20 := by
  unfold many at h
  unfold ownK at h'
  split at h
  · omega
  · split at h
    · omega
    · split at h'
      · omega
      · split at h'
        · omega
        · omega
theorem un_cases {op : Int} (h : many op = 1) : op = 13 ∨ op = 19 := by
  unfold many at h
  split at h
  · assumption
  · split at h <;> omega
theorem bi_cases {op : Int} (h : many op = 2) : (3 ≤ op ∧ op ≤ 12) ∨ (14 ≤ op ∧ op ≤ 16) ∨ op = 17 ∨ op = 18 := by
  unfold many at h
  split at h
  · omega
  · split at h
    · omega
    · omega

theorem gw_lt {wide : Nat} {a : BitVec 64} (h : gw wide a = true) : a.toNat < 2 ^ wide := by
  simp only [gw, Bool.and_eq_true, decide_eq_true_eq] at h
  simpa using h.2.2
theorem goodS_ok {wide : Nat} {s : Sp} (h : goodS wide s = true) : okS wide 1 s := by
  simp only [goodS, Bool.and_eq_true, decide_eq_true_eq] at h
  exact ⟨by have := h.2; rw [BitVec.le_def] at this; exact this, fun _ => gw_lt h.1, fun q => absurd q (by decide)⟩

theorem ofI_toNat {n : Nat} (h : n < 1000) : (ofI (n : Int)).toNat = n := by
  rw [ofI, BitVec.toNat_ofInt]; omega

theorem spanS_ok {wide : Nat} (hw : wide ≤ 64) {ss : List Sp} (hs : ∀ s ∈ ss, goodS wide s = true) (hl : ss.length < 1000) : ∀ r : Tr, r.good wide ss.length → okS wide r.kind (spanS wide ss r)
  | .lf x, hg => by
    obtain ⟨h1, h2, h3⟩ := hg
    rcases leaf_cases h1 h2 with h | h | h
    · have hk : Tr.kind (.lf x) = 1 := by simp [Tr.kind, Tr.root, ownK, h]
      rw [hk]
      simp only [leafOk, h] at h3
      simp only [spanS, h]
      exact ⟨Nat.le_refl _, fun _ => gw_lt (by simpa using h3), fun q => absurd q (by decide)⟩
    · have hk : Tr.kind (.lf x) = 1 := by simp [Tr.kind, Tr.root, ownK, h]
      rw [hk]
      simp [leafOk, h] at h3
      rw [BitVec.lt_def, ofI_toNat hl] at h3
      simp only [spanS, h, if_true, List.getD_eq_getElem?_getD, List.getElem?_eq_getElem h3, Option.getD_some]
      exact goodS_ok (hs _ (List.getElem_mem h3))
    · have hk : Tr.kind (.lf x) = 2 := by simp [Tr.kind, Tr.root, ownK, h]
      rw [hk]
      simp [leafOk, h] at h3
      rw [BitVec.le_def] at h3
      simp [spanS, h]
      exact ⟨Nat.le_refl _, fun q => absurd q (by decide), fun _ => by simpa using h3⟩
  | .un x a, hg => by
    obtain ⟨h1, h2, h3, h4, h5⟩ := hg
    have ih := spanS_ok hw hs hl a h5
    rw [h4] at ih
    have hp : 0 < 2 ^ wide := Nat.two_pow_pos _
    rcases un_cases h1 with h | h
    · have hk : Tr.kind (.un x a) = 1 := by simp [Tr.kind, Tr.root, ownK, h]
      rw [hk]
      obtain ⟨i1, i2, _⟩ := ih
      have i2 := i2 (by simp [part, h])
      simp only [spanS, h, if_true]
      refine ⟨?_, fun _ => ?_, fun q => absurd q (by decide)⟩
      · simp only [notW_toNat hw i2, notW_toNat hw (Nat.lt_of_le_of_lt i1 i2)]; omega
      · simp only [notW_toNat hw (Nat.lt_of_le_of_lt i1 i2)]; omega
    · have hk : Tr.kind (.un x a) = 2 := by simp [Tr.kind, Tr.root, ownK, h]
      rw [hk]
      obtain ⟨i1, _, i2⟩ := ih
      have i2 := i2 (by simp [part, h])
      have e1 := BitVec.toNat_sub_of_le (x := 1#64) (y := (spanS wide ss a).2) (by rw [BitVec.le_def]; simpa using i2)
      have e2 := BitVec.toNat_sub_of_le (x := 1#64) (y := (spanS wide ss a).1) (by rw [BitVec.le_def]; simp; omega)
      simp [spanS, h]
      refine ⟨?_, fun q => absurd q (by decide), fun _ => ?_⟩
      · simp only [e1, e2]; omega
      · simp only [e2]; simp
  | .bi x a b, hg => by
    obtain ⟨h1, h2, h3, h4, h5, h6, h7⟩ := hg
    have iha := spanS_ok hw hs hl a h6
    have ihb := spanS_ok hw hs hl b h7
    rw [h4] at iha
    rw [h5] at ihb
    rcases bi_cases h1 with h | h | h | h
    · have hk : ownK x.1 = 1 := by unfold ownK; rw [if_pos (by omega)]
      have hp : part x.1 = 1 := by unfold part; rw [if_pos (by omega)]
      rw [hp] at iha ihb
      simp only [Tr.kind, Tr.root, spanS, hk, if_true]
      exact numS_ok hw _ iha ihb
    · have hk : ownK x.1 = 2 := by unfold ownK; rw [if_neg (by omega), if_pos (by omega)]
      simp only [Tr.kind, Tr.root, spanS, hk]
      exact askS_ok _ _ iha ihb (by omega)
    · have hk : ownK x.1 = 2 := by simp [ownK, h]
      simp only [Tr.kind, Tr.root, spanS, hk]
      exact askS_ok _ _ iha ihb (fun _ => by simp [part, h])
    · have hk : ownK x.1 = 2 := by simp [ownK, h]
      simp only [Tr.kind, Tr.root, spanS, hk]
      exact askS_ok _ _ iha ihb (fun _ => by simp [part, h])
end Go.Proofs.YtplgdddfhjpojaaGreat.AM

namespace Go.Proofs.YtplgdddfhjpojaaGreat.AM
open Go

set_option maxHeartbeats 1000000 in
theorem c55 (wide : Nat) (hw : wide ≤ 64) (ss : List Sp) (hs : ∀ s ∈ ss, goodS wide s = true) (hl : ss.length < 1000) (t : List Nd) (ht : t.length < 1000000) : ∀ (r : Tr) (pre post : List Nd), r.good wide ss.length → t = pre ++ (r.flat ++ post) → ∀ z : Int, z = pre.length + r.flat.length - 1 →
    acall T X 55 [.d (.int .i64 wide), .d (tsl t), .d (.int .i64 z), .d (ssl ss)] [] = some (spV (spanS wide ss r), [])
  | .lf x, pre, post, hg, he, z, hz => by
    obtain ⟨hm, h2, h3⟩ := hg
    simp only [Tr.flat] at he hz
    have hz' : z = pre.length := by simp at hz; omega
    subst hz'
    have h1 : pre.length < t.length := by simp [he]
    have h4 : t[pre.length] = x := by simp [he]
    by_cases hv : x.1 = 2
    · simp [leafOk, hv] at h3
      rw [BitVec.lt_def, ofI_toNat hl] at h3
      simp [e55, F55_c, tsl, h1, h4, nodeV, node, c40, hm, hv, ssl, h3, spanC]
      simp [fin, F55, spanS, hv, spV, h3]
    · simp [e55, F55_c, tsl, h1, h4, nodeV, node, c40, hm, hv]
      simp [fin, F55, spanS, hv, spV]
  | .un x a, pre, post, hg, he, z, hz => by
    obtain ⟨hm, h2, h3, h4, hga⟩ := hg
    simp only [Tr.flat] at he hz
    have hp := a.flat_pos
    obtain ⟨k, hk⟩ : ∃ k, k = pre.length + a.flat.length := ⟨_, rfl⟩
    have hz' : z = (k : Int) := by simp at hz; omega
    subst hz'
    have h1 : k < t.length := by rw [he, hk]; simp
    have h5 : t[k] = x := by simp [he, hk]
    have hw1 : wr ((k : Int) - 1) = (k : Int) - 1 := by rw [wr_id] <;> omega
    have ih := c55 wide hw ss hs hl t ht a pre (x :: post) hga (by simp [he]) ((k : Int) - 1) (by omega)
    simp only [tsl, ssl, spV] at ih
    rcases un_cases hm with hx | hx
    · have hm' : many 13 = 1 := by simp [many]
      simp [e55, F55_c, tsl, h1, h5, nodeV, node, c40, hm', hx, hw1, ih, ssl, c6 _ wide (by omega)]
      simp [fin, F55, spanS, hx, spV, notW]
    · have hm' : many 19 = 1 := by simp [many]
      simp [e55, F55_c, tsl, h1, h5, nodeV, node, c40, hm', hx, hw1, ih, ssl]
      simp [fin, F55, spanS, hx, spV]
  | .bi x a b, pre, post, hg, he, z, hz => by
    obtain ⟨hm, h2, h3, h4, h5, hga, hgb⟩ := hg
    simp only [Tr.flat] at he hz
    have hp := a.flat_pos
    have hpb := b.flat_pos
    obtain ⟨k, hk⟩ : ∃ k, k = pre.length + (a.flat.length + b.flat.length) := ⟨_, rfl⟩
    obtain ⟨j, hj⟩ : ∃ j, j = pre.length + a.flat.length := ⟨_, rfl⟩
    have hz' : z = (k : Int) := by simp at hz; omega
    subst hz'
    have h1 : k < t.length := by rw [he, hk]; simp
    have h6 : t[k] = x := by simp [he, hk]
    have hw1 : wr ((k : Int) - 1) = (k : Int) - 1 := by rw [wr_id] <;> omega
    have hw2 : wr ((j : Int) - 1) = (j : Int) - 1 := by rw [wr_id] <;> omega
    have ihb := c55 wide hw ss hs hl t ht b (pre ++ a.flat) (x :: post) hgb (by simp [he]) ((k : Int) - 1) (by simp; omega)
    have iha := c55 wide hw ss hs hl t ht a pre (b.flat ++ (x :: post)) hga (by simp [he]) ((j : Int) - 1) (by omega)
    have hfr := c49 wide ss.length t ht b (pre ++ a.flat) (x :: post) hgb (by simp [he]) ((k : Int) - 1) (by simp; omega)
    rw [List.length_append, ← hj] at hfr
    have hob := (spanS_ok hw hs hl b hgb).1
    have hx2 : ¬ x.1 = 2 := by rcases bi_cases hm with h | h | h | h <;> omega
    have hx13 : ¬ x.1 = 13 := by rcases bi_cases hm with h | h | h | h <;> omega
    have hx19 : ¬ x.1 = 19 := by rcases bi_cases hm with h | h | h | h <;> omega
    have cn := c53 wide (by omega) x.1 (spanS wide ss a) (spanS wide ss b) (by rw [BitVec.le_def]; exact hob)
    have ca := c54 x.1 (spanS wide ss a) (spanS wide ss b)
    simp only [tsl, ssl, spV] at iha ihb hfr cn ca
    by_cases ho : ownK x.1 = 1
    · simp [e55, F55_c, tsl, h1, h6, nodeV, node, c40, hm, hx2, hx13, hx19, ho, hw1, hw2, iha, ihb, hfr, cn, ssl]
      simp [fin, F55, spanS, ho, spV]
    · simp [e55, F55_c, tsl, h1, h6, nodeV, node, c40, hm, hx2, hx13, hx19, ho, hw1, hw2, iha, ihb, hfr, ca, ssl]
      simp [fin, F55, spanS, ho, spV]

end Go.Proofs.YtplgdddfhjpojaaGreat.AM

namespace Go.Proofs.YtplgdddfhjpojaaGreat.AM
open Go

theorem asW_w (x : BitVec 64) : asW (.w x) = some x.toNat := by
  have := x.isLt
  simp only [asW, D.w]
  rw [if_pos (by omega)]
  simp

theorem X31 {a b c : D} {x y z : Nat} (st : St) (ha : asW a = some x) (hb : asW b = some y) (hc : asBit c = some z) :
    X 31 [.d a, .d b, .d c] st = some (.tup [.d (.int .u64 ((x + y + z) % 18446744073709551616 : Nat)), .d (.int .u64 ((x + y + z) / 18446744073709551616 : Nat))], st) := by
  simp only [X_add, X0, if_true, ha, hb, hc]

theorem add_toNat (x y : BitVec 64) : (x + y).toNat = (x.toNat + y.toNat + 0) % 18446744073709551616 := by simp [BitVec.toNat_add]
theorem carry_toNat (x y : BitVec 64) : (BitVec.ofNat 64 ((x.toNat + y.toNat) / 18446744073709551616)).toNat = (x.toNat + y.toNat + 0) / 18446744073709551616 := by
  have hx := x.isLt
  have hy := y.isLt
  rw [BitVec.toNat_ofNat, Nat.add_zero]
  omega

theorem c31 (x y : BitVec 64) : acall T X 31 [.d (.w x), .d (.w y), .d (.w 0#64)] [] = some (.tup [.d (.w (x + y)), .d (.w (BitVec.ofNat 64 ((x.toNat + y.toNat) / 18446744073709551616)))], []) := by
  apply acall_x
  rw [X31 [] (asW_w x) (asW_w y) (show asBit (.w 0#64) = some 0 by simp [asBit, D.w]), ← add_toNat, ← carry_toNat]
  simp only [D.w]

/-- All words of a width. -/
def allS (wide : Nat) : Sp := (0#64, endW wide)

theorem sum_carry {wide : Nat} (h : wide ≤ 64) {a b : BitVec 64} (hb : b.toNat < 2 ^ wide) : (BitVec.ofNat 64 ((a.toNat + b.toNat) / 18446744073709551616) = 0#64 ∧ a + b ≤ endW wide) ↔ a ≤ endW wide - b := by
  have he := endW_toNat h
  have h64 : (2 : Nat) ^ wide ≤ 2 ^ 64 := Nat.pow_le_pow_right (by decide) h
  have ha := a.isLt
  have hp : 0 < 2 ^ wide := Nat.two_pow_pos _
  have e1 : (endW wide - b).toNat = 2 ^ wide - 1 - b.toNat := by
    rw [BitVec.toNat_sub_of_le (by rw [BitVec.le_def]; omega), he]
  rw [BitVec.le_def, BitVec.le_def, e1, he, BitVec.toNat_add]
  have e2 : BitVec.ofNat 64 ((a.toNat + b.toNat) / 18446744073709551616) = 0#64 ↔ a.toNat + b.toNat < 18446744073709551616 := by
    constructor
    · intro q
      have := congrArg BitVec.toNat q
      simp at this
      omega
    · intro q
      rw [Nat.div_eq_of_lt q]
  rw [e2]
  omega

theorem c32 (wide : Nat) (hw : wide ≤ 64) (a b : Sp) (hb : b.2.toNat < 2 ^ wide) : acall T X 32 [spV (allS wide), spV a, spV b] [] = some (spV (numS wide 3 a b), []) := by
  have hc := sum_carry hw (a := a.2) hb
  simp only [spV, allS]
  by_cases h : a.2 ≤ endW wide - b.2
  · obtain ⟨h1, h2⟩ := hc.2 h
    simp [e32, F32_c, c31, h1, h2]
    simp [fin, F32, numS, h]
  · by_cases h1 : BitVec.ofNat 64 ((a.2.toNat + b.2.toNat) / 18446744073709551616) = 0#64
    · have h2 : ¬ a.2 + b.2 ≤ endW wide := fun q => h (hc.1 ⟨h1, q⟩)
      simp [e32, F32_c, c31, h1, h2]
      simp [fin, F32, numS, h]
    · simp [e32, F32_c, c31, h1]
      simp [fin, F32, numS, h]
end Go.Proofs.YtplgdddfhjpojaaGreat.AM

namespace Go.Proofs.YtplgdddfhjpojaaGreat.AM
open Go

/-- The upper half of a product, by halves. -/
def hi64 (x y : BitVec 64) : BitVec 64 :=
  let x0 := x &&& 4294967295#64
  let x1 := srl x 32
  let y0 := y &&& 4294967295#64
  let y1 := srl y 32
  let t := x1 * y0 + srl (x0 * y0) 32
  x1 * y1 + srl t 32 + srl ((t &&& 4294967295#64) + x0 * y1) 32

theorem c33 (x y : BitVec 64) : acall T X 33 [.d (.w x), .d (.w y)] [] = some (.tup [.d (.w (hi64 x y)), .d (.w (x * y))], []) := by
  simp [e33, F33_c]
  simp [fin, F33, hi64]

theorem and32 (a : BitVec 64) : (a &&& 4294967295#64).toNat = a.toNat % 4294967296 := by
  rw [BitVec.toNat_and]
  exact Nat.and_two_pow_sub_one_eq_mod a.toNat 32
theorem shr32 (a : BitVec 64) : (srl a 32).toNat = a.toNat / 4294967296 := by
  rw [srl, BitVec.toNat_ushiftRight, Nat.shiftRight_eq_div_pow]

theorem hi64_toNat (x y : BitVec 64) : (hi64 x y).toNat = x.toNat * y.toNat / 18446744073709551616 := by
  have hx : x.toNat < 18446744073709551616 := x.isLt
  have hy : y.toNat < 18446744073709551616 := y.isLt
  obtain ⟨b0, b1, b2, hh⟩ := Lib.mul64_hi x.toNat y.toNat hx hy
  have e64 : (2 : Nat) ^ 64 = 18446744073709551616 := rfl
  rw [← hh]
  have ba := Lib.half_mul_le (a := x.toNat / 4294967296) (b := y.toNat / 4294967296) (by omega) (by omega)
  have bb := Lib.half_mul_le (a := x.toNat / 4294967296) (b := y.toNat % 4294967296) (by omega) (by omega)
  have bc := Lib.half_mul_le (a := x.toNat % 4294967296) (b := y.toNat / 4294967296) (by omega) (by omega)
  have t0 : ((x &&& 4294967295#64) * (y &&& 4294967295#64)).toNat = x.toNat % 4294967296 * (y.toNat % 4294967296) := by
    rw [BitVec.toNat_mul, and32, and32, e64, Nat.mod_eq_of_lt b0]
  have t1 : (srl x 32 * (y &&& 4294967295#64) + srl ((x &&& 4294967295#64) * (y &&& 4294967295#64)) 32).toNat = x.toNat / 4294967296 * (y.toNat % 4294967296) + x.toNat % 4294967296 * (y.toNat % 4294967296) / 4294967296 := by
    rw [BitVec.toNat_add, BitVec.toNat_mul, shr32, shr32, and32, t0, e64]
    rw [Nat.mod_eq_of_lt (show x.toNat / 4294967296 * (y.toNat % 4294967296) < 18446744073709551616 by omega), Nat.mod_eq_of_lt b1]
  simp only [hi64]
  generalize ht : srl x 32 * (y &&& 4294967295#64) + srl ((x &&& 4294967295#64) * (y &&& 4294967295#64)) 32 = t at t1
  have t2 : ((t &&& 4294967295#64) + (x &&& 4294967295#64) * srl y 32).toNat = (t.toNat % 4294967296) + x.toNat % 4294967296 * (y.toNat / 4294967296) := by
    rw [BitVec.toNat_add, BitVec.toNat_mul, and32, and32, shr32, e64]
    rw [Nat.mod_eq_of_lt (show x.toNat % 4294967296 * (y.toNat / 4294967296) < 18446744073709551616 by omega), Nat.mod_eq_of_lt (by rw [t1]; exact b2)]
  have hlt : x.toNat * y.toNat / 18446744073709551616 < 18446744073709551616 := by
    apply Nat.div_lt_of_lt_mul
    exact Nat.mul_lt_mul_of_lt_of_lt hx hy
  rw [BitVec.toNat_add, BitVec.toNat_add, BitVec.toNat_mul, shr32, shr32, shr32, shr32, t2, t1, e64]
  rw [Nat.mod_eq_of_lt (show x.toNat / 4294967296 * (y.toNat / 4294967296) < 18446744073709551616 by omega)]
  rw [← t1]
  omega
end Go.Proofs.YtplgdddfhjpojaaGreat.AM

namespace Go.Proofs.YtplgdddfhjpojaaGreat.AM
open Go

theorem fits_iff {wide : Nat} (h : wide ≤ 64) (a b : BitVec 64) : fitsW wide a b = true ↔ a.toNat * b.toNat < 2 ^ wide := by
  refine ⟨fitsW_spec h, fun q => ?_⟩
  simp only [fitsW, Bool.or_eq_true, beq_iff_eq, decide_eq_true_eq]
  by_cases hb : b = 0#64
  · exact .inl hb
  · have hb' : 0 < b.toNat := by
      rcases Nat.eq_zero_or_pos b.toNat with h0 | h0
      · exact absurd (BitVec.eq_of_toNat_eq (by simpa using h0)) hb
      · exact h0
    refine .inr ?_
    rw [BitVec.le_def, BitVec.toNat_udiv, endW_toNat h, Nat.le_div_iff_mul_le hb']
    omega

theorem prod_fits {wide : Nat} (h : wide ≤ 64) (a b : BitVec 64) : (hi64 a b = 0#64 ∧ a * b ≤ endW wide) ↔ fitsW wide a b = true := by
  have h64 : (2 : Nat) ^ wide ≤ 2 ^ 64 := Nat.pow_le_pow_right (by decide) h
  have e64 : (2 : Nat) ^ 64 = 18446744073709551616 := rfl
  have hp : 0 < 2 ^ wide := Nat.two_pow_pos _
  rw [fits_iff h, BitVec.le_def, endW_toNat h, BitVec.toNat_mul]
  have e2 : hi64 a b = 0#64 ↔ a.toNat * b.toNat < 18446744073709551616 := by
    constructor
    · intro q
      have := congrArg BitVec.toNat q
      rw [hi64_toNat] at this
      simp only [BitVec.toNat_ofNat, Nat.zero_mod] at this
      omega
    · intro q
      apply BitVec.eq_of_toNat_eq
      rw [hi64_toNat, Nat.div_eq_of_lt q]
      rfl
  rw [e2]
  constructor
  · rintro ⟨q1, q2⟩
    rw [e64, Nat.mod_eq_of_lt q1] at q2
    omega
  · intro q
    have : a.toNat * b.toNat < 18446744073709551616 := by omega
    exact ⟨this, by rw [e64, Nat.mod_eq_of_lt this]; omega⟩

theorem c34 (wide : Nat) (hw : wide ≤ 64) (a b : Sp) : acall T X 34 [spV (allS wide), spV a, spV b] [] = some (spV (numS wide 5 a b), []) := by
  have hc := prod_fits hw a.2 b.2
  simp only [spV, allS]
  cases h : fitsW wide a.2 b.2 with
  | true =>
    obtain ⟨h1, h2⟩ := hc.2 h
    simp [e34, F34_c, c33, h1, h2]
    simp [fin, F34, numS, h]
  | false =>
    by_cases h1 : hi64 a.2 b.2 = 0#64
    · have h2 : ¬ a.2 * b.2 ≤ endW wide := fun q => by
        have := hc.1 ⟨h1, q⟩
        rw [h] at this; cases this
      simp [e34, F34_c, c33, h1, h2]
      simp [fin, F34, numS, h]
    · simp [e34, F34_c, c33, h1]
      simp [fin, F34, numS, h]

def cmpS (yes no : Bool) : Sp := if yes = true then (1#64, 1#64) else if no = true then (0#64, 0#64) else (0#64, 1#64)
theorem c35 (yes no : Bool) : acall T X 35 [.d (.bool yes), .d (.bool no)] [] = some (spV (cmpS yes no), []) := by
  cases yes <;> cases no <;> (simp [e35, F35_c]; simp [fin, F35, spV, cmpS])

def maxW (a b : BitVec 64) : BitVec 64 := if a < b then b else a
def minW (a b : BitVec 64) : BitVec 64 := if b < a then b else a
/-- The meet, and whether there is one. -/
def meetS (a b : Sp) : Sp := if minW a.2 b.2 < maxW a.1 b.1 then (0#64, 0#64) else (maxW a.1 b.1, minW a.2 b.2)
def meets (a b : Sp) : Bool := !decide (minW a.2 b.2 < maxW a.1 b.1)
theorem c30 (a b : Sp) : acall T X 30 [spV a, spV b] [] = some (.tup [spV (meetS a b), .d (.bool (meets a b))], []) := by
  have e1 : (if a.1 < b.1 then b.1 else a.1) = maxW a.1 b.1 := rfl
  have e2 : (if b.2 < a.2 then b.2 else a.2) = minW a.2 b.2 := rfl
  simp only [spV]
  by_cases h : minW a.2 b.2 < maxW a.1 b.1
  · simp [e30, F30_c, e1, e2, h]
    simp [fin, F30, meetS, meets, h]
  · simp [e30, F30_c, e1, e2, h]
    simp [fin, F30, meetS, meets, h]
end Go.Proofs.YtplgdddfhjpojaaGreat.AM

namespace Go.Proofs.YtplgdddfhjpojaaGreat.AM
open Go

theorem minW_eq (a b : BitVec 64) : minW a b = leastW a b := by
  apply BitVec.eq_of_toNat_eq
  rw [leastW_toNat]
  unfold minW
  split
  · rename_i h; rw [BitVec.lt_def] at h; omega
  · rename_i h; rw [BitVec.lt_def] at h; omega
theorem maxW_eq (a b : BitVec 64) : maxW a b = mostW a b := by
  apply BitVec.eq_of_toNat_eq
  rw [mostW_toNat]
  unfold maxW
  split
  · rename_i h; rw [BitVec.lt_def] at h; omega
  · rename_i h; rw [BitVec.lt_def] at h; omega
theorem leastW_comm (a b : BitVec 64) : leastW a b = leastW b a := by
  apply BitVec.eq_of_toNat_eq; rw [leastW_toNat, leastW_toNat]; omega

/-- What an operator makes of two intervals. -/
def twoS (wide : Nat) (op : Int) (a b : Sp) : Sp := if ownK op = 1 then numS wide op a b else askS op a b

theorem meets_iff (a b : Sp) (ha : a.1.toNat ≤ a.2.toNat) (hb : b.1.toNat ≤ b.2.toNat) : (!meets a b) = decide (a.2 < b.1 ∨ b.2 < a.1) := by
  unfold meets
  rw [Bool.not_not, Bool.eq_iff_iff, decide_eq_true_eq, decide_eq_true_eq, minW_eq, maxW_eq, BitVec.lt_def, BitVec.lt_def, BitVec.lt_def, leastW_toNat, mostW_toNat]
  omega

set_option maxHeartbeats 4000000 in
theorem c36 (wide : Nat) (hw : wide ≤ 64) (op : Int) (hm : many op = 2) (a b : Sp) (ha : okS wide (part op) a) (hb : okS wide (part op) b) : acall T X 36 [.d (.int .i64 op), spV (allS wide), spV a, spV b] [] = some (spV (twoS wide op a b), []) := by
  have hops : op = 3 ∨ op = 4 ∨ op = 5 ∨ op = 6 ∨ op = 7 ∨ op = 8 ∨ op = 9 ∨ op = 10 ∨ op = 11 ∨ op = 12 ∨ op = 14 ∨ op = 15 ∨ op = 16 ∨ op = 17 ∨ op = 18 := by
    rcases bi_cases hm with h | h | h | h <;> omega
  have hbl : b.1 ≤ b.2 := by rw [BitVec.le_def]; exact hb.1
  have e1 : ∀ x y : BitVec 64, (if x < y then y else x) = mostW x y := fun x y => maxW_eq x y
  have e2 : ∀ x y : BitVec 64, (if y < x then y else x) = leastW x y := fun x y => minW_eq x y
  have k32 := fun h => c32 wide hw a b h
  have k34 := c34 wide hw a b
  simp only [spV, allS] at k32 k34 ⊢
  rcases hops with rfl | rfl | rfl | rfl | rfl | rfl | rfl | rfl | rfl | rfl | rfl | rfl | rfl | rfl | rfl
  · have k := k32 (hb.2.1 (by simp [part]))
    simp [e36, F36_c, k]
    simp [fin, F36, twoS, ownK]
  · by_cases hc : b.2 ≤ a.1
    · simp [e36, F36_c, hc]
      simp [fin, F36, twoS, ownK, numS, hc]
    · simp [e36, F36_c, hc, F36_t0]
      simp [fin, F36, twoS, ownK, numS, hc]
  · simp [e36, F36_c, k34]
    simp [fin, F36, twoS, ownK]
  · by_cases hc : 0#64 < b.1
    · have n1 := pos_ne hbl hc
      have n2 := pos_ne' hc
      simp [e36, F36_c, hc, n1, n2]
      simp [fin, F36, twoS, ownK, numS, hc]
    · simp [e36, F36_c, hc, F36_t0]
      simp [fin, F36, twoS, ownK, numS, hc]
  · by_cases hc : 0#64 < b.1
    · by_cases hd : b.2 - 1#64 < a.2
      · have := e2 a.2 (b.2 - 1#64)
        rw [if_pos hd] at this
        simp [e36, F36_c, hc, hd]
        simp [fin, F36, twoS, ownK, numS, hc, ← this]
      · have := e2 a.2 (b.2 - 1#64)
        rw [if_neg hd] at this
        simp [e36, F36_c, hc, hd]
        simp [fin, F36, twoS, ownK, numS, hc, ← this]
    · simp [e36, F36_c, hc]
      simp [fin, F36, twoS, ownK, numS, hc]
  · simp [e36, F36_c, e2]
    simp [fin, F36, twoS, ownK, numS]
  · simp [e36, F36_c, e1]
    simp [fin, F36, twoS, ownK, numS]
  · simp [e36, F36_c, F36_t0]
    simp [fin, F36, twoS, ownK, numS]
  · simp [e36, F36_c, F36_t0]
    simp [fin, F36, twoS, ownK, numS]
  · simp [e36, F36_c]
    simp [fin, F36, twoS, ownK, numS]
  · have kc := fun yes => c35 yes (!meets a b)
    have km := c30 a b
    simp only [spV] at kc km
    have hmi := meets_iff a b ha.1 hb.1
    cases hee : (a.1 == b.1 && a.2 == b.2) with
    | true =>
      obtain ⟨al, ah⟩ := a
      obtain ⟨bl, bh⟩ := b
      simp only [Bool.and_eq_true, beq_iff_eq] at hee
      obtain ⟨rfl, rfl⟩ := hee
      have hn : ¬ ah < al := by have := ha.1; rw [BitVec.lt_def]; simp only at this; omega
      simp only [hn, or_self, decide_false] at hmi
      by_cases hq : al = ah
      · subst hq
        simp [e36, F36_c, km, kc]
        simp [fin, F36, twoS, ownK, askS, cmpS]
      · simp [e36, F36_c, km, kc, hq]
        simp [fin, F36, twoS, ownK, askS, cmpS, hmi, hn, hq]
    | false =>
      have hne : ¬ a = b := by
        rintro rfl
        simp at hee
      have hee' : a.1 = b.1 → ¬ a.2 = b.2 := fun q1 q2 => by rw [q1, q2] at hee; simp at hee
      obtain ⟨al, ah⟩ := a
      obtain ⟨bl, bh⟩ := b
      simp only at hee' hmi km kc hne
      by_cases hl : al = bl
      · have hh := hee' hl
        subst hl
        simp [e36, F36_c, km, kc, hh]
        simp [fin, F36, twoS, ownK, askS, cmpS, hmi, hh]
      · simp [e36, F36_c, km, kc, hl]
        simp [fin, F36, twoS, ownK, askS, cmpS, hmi, hl]
  · have kc := c35 (decide (a.2 < b.1)) (decide (b.2 ≤ a.1))
    simp only [spV] at kc
    simp [e36, F36_c, kc]
    simp [fin, F36, twoS, ownK, askS, cmpS]
  · simp [e36, F36_c]
    simp [fin, F36, twoS, ownK, askS]
  · simp [e36, F36_c, e2]
    simp [fin, F36, twoS, ownK, askS]
  · simp [e36, F36_c, e1]
    simp [fin, F36, twoS, ownK, askS]
end Go.Proofs.YtplgdddfhjpojaaGreat.AM
